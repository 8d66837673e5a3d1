/- One byte that is changed: a line stands for one row at most, and it is found. -/
import Derived.Test.YtobhncljgnlaiaaGreatDoorPartFour
import Derived.Test.YtobhncljgnlaiaaGreatDoorPartThree
import Derived.Lib.SplitLaws
set_option linter.all false
set_option maxRecDepth 8000
namespace Go.Bk
open Go Go.Ev Go.Proofs Go.RowKit
theorem Qet:∀ (a b c:W),a.length=b.length->b.length=c.length->Zd a c<=Zd a b+Zd b c
 | [],[],[],_,_=>by simp[Zd]
 | x::a,y::b,z::c,h,h'=>by
   have:=Qet a b c (by simpa using h) (by simpa using h')
   simp only[Zd];by_cases h1:x=y
   ·subst h1;simp;omega
   ·by_cases h2:y=z
    ·subst h2;simp;omega
    ·simp[h1,h2];split<;>omega
 | [],y::b,_,h,_=>by simp at h
 | x::a,[],_,h,_=>by simp at h
 | x::a,y::b,[],_,h=>by simp at h
 | [],[],z::c,_,h=>by simp at h
theorem Y6:∀ (r q:W) (k:Nat),r.length=q.length->Zd r q=k+1->∃ a x y b b',r=a++x::b/\q=a++y::b'/\x≠y/\b.length=b'.length/\Zd b b'=k
 | [],[],k,_,h=>by simp[Zd] at h
 | x::r,y::q,k,h,hd=>by
   by_cases hxy:x=y
   ·subst hxy
    simp only[Zd,if_true,QBm] at hd;obtain ⟨a,u,v,b,b',h1,h2,h3,h4,h5⟩:=Y6 r q k (by simpa using h) hd
    exact ⟨x::a,u,v,b,b',by rw[h1];rfl,by rw[h2];rfl,h3,h4,h5⟩
   ·simp only[Zd,if_neg hxy] at hd
    exact ⟨[],x,y,r,q,rfl,rfl,hxy,by simpa using h,by omega⟩
 | [],y::q,k,h,_=>by simp at h
 | x::r,[],k,h,_=>by simp at h
theorem p97:∀ a,a<97->∀ m,m<97->a*m % 97=0->a=0\/m=0:=by decide +kernel
theorem QwI (d m:Int) (hd:d.natAbs<97) (hm:m.natAbs<97) (h:(d*m) % 97=0):d=0\/m=0:=by
 have h1:(d*m).natAbs % 97=0:=by omega
 rw[Int.natAbs_mul] at h1;rcases p97 _ hd _ hm h1 with h | h
 ·exact .inl (by omega)
 ·exact .inr (by omega)
theorem Qq3 (d d' m1 m2:Int) (h1:(d+d') % 97=0) (h2:(d*m1+d'*(m1+m2)) % 97=0):(d*m2) % 97=0:=by
 obtain ⟨u,hu⟩:∃ u,d'=97*u-d:=⟨(d+d') / 97,by omega⟩
 have e:d*m1+d'*(m1+m2)=97*(u*(m1+m2))-d*m2:=by
  rw[hu,Int.sub_mul,Int.mul_assoc,Int.mul_add d];omega
 rw[e] at h2;omega
theorem JD {c:UInt8} (h:32<=c.toNat/\c.toNat<=126):0<=v1 c/\v1 c<=94:=by simp only[v1];omega
theorem Qqf {x y:UInt8} (h:x≠y):v1 x-v1 y≠0:=by
 intro e;apply h;rw[<- QkX];simp only[v1] at e;omega
theorem QlS {m n:Nat} (hm:m<100) (hn:n<100) (h:two m=two n):m=n:=by
 have:=congrArg dg h;rw[Wm hm,Wm hn] at this;omega
theorem Ue {m n:Nat} (hm:m<100) (hn:n<100) (h:m≠n):1<=Zd (two m) (two n):=by
 rcases QCi (Zd (two m) (two n)) with h0 | h0
 ·exact absurd (QlS hm hn (Zm _ _ rfl h0)) h
 ·exact h0
theorem QhE (r q:W) (h:r.length=q.length):Zd (Qt r) (Qt q)=Zd r q+Zd (two (S1 r % 97).toNat) (two (S1 q % 97).toNat)+Zd (two (S2 1 r % 97).toNat) (two (S2 1 q % 97).toNat):=by
 simp only[Qt,QBB];rw[Z5 r q _ _ h,Z5 (two (S1 r % 97).toNat) (two (S1 q % 97).toNat) _ _ rfl];omega
theorem Qjo {r q:W} (hr:plain r) (hq:plain q) (hl:r.length=q.length) (hn:r.length<=62) (hne:r≠q):3<=Zd (Qt r) (Qt q):=by
 rw[QhE r q hl];rcases QB8 (Zd r q) 3 with h3 | h3
 ·rcases QCi (Zd r q) with h0 | h0
  ·exact absurd (Zm _ _ hl h0) hne
  ·obtain ⟨k,hk⟩:∃ k,Zd r q=k+1:=⟨Zd r q-1,by omega⟩
   obtain ⟨a,x,y,b,b',e1,e2,hxy,hbl,hd⟩:=Y6 r q k hl hk;have px:=JD (hr x (by rw[e1];simp))
   have py:=JD (hq y (by rw[e2];simp))
   have hd0:=Qqf hxy;have hal:a.length+1+b.length<=62:=by rw[e1] at hn;simp at hn;omega
   have s1:S1 r-S1 q=v1 x-v1 y+(S1 b-S1 b'):=by
    rw[e1,e2,WA,WA];simp only[S1];omega
   have s2:S2 1 r-S2 1 q=(v1 x-v1 y)*((1+a.length:Nat):Int)+(S2 (1+a.length+1) b-S2 (1+a.length+1) b'):=by
    rw[e1,e2,Qb5,Qb5];simp only[S2,Int.sub_mul];omega
   rcases QCi k with hk0 | hk0
   ·subst hk0
    have hb:=Zm _ _ hbl hd;subst hb;have n1:(S1 r % 97).toNat≠(S1 q % 97).toNat:=by omega
    have n2:(S2 1 r % 97).toNat≠(S2 1 q % 97).toNat:=by
     intro e;have:((v1 x-v1 y)*((1+a.length:Nat):Int)) % 97=0:=by omega
     rcases QwI _ _ (by omega) (by omega) this with h | h<;>omega
    have:=Ue (by omega) (by omega) n1
    have:=Ue (by omega) (by omega) n2
    omega
   ·have hk1:k=1:=by omega
    subst hk1;obtain ⟨a',x',y',c,c',f1,f2,hxy',hcl,hd'⟩:=Y6 b b' 0 hbl hd;have hc:=Zm _ _ hcl hd';subst hc;have px':=JD (hr x' (by rw[e1,f1];simp))
    have py':=JD (hq y' (by rw[e2,f2];simp))
    have hd0':=Qqf hxy';have hal':a.length+1+a'.length+1<=62:=by rw[f1] at hal;simp at hal;omega
    have s1':S1 b-S1 b'=v1 x'-v1 y':=by
     rw[f1,f2,WA,WA];simp only[S1];omega
    have s2':S2 (1+a.length+1) b-S2 (1+a.length+1) b'=(v1 x'-v1 y')*((1+a.length+1+a'.length:Nat):Int):=by
     rw[f1,f2,Qb5,Qb5];simp only[S2,Int.sub_mul];omega
    rw[s1'] at s1;rw[s2'] at s2;by_cases m1:(S1 r % 97).toNat=(S1 q % 97).toNat
    ·have n2:(S2 1 r % 97).toNat≠(S2 1 q % 97).toNat:=by
      intro e
      have hz:((v1 x-v1 y)*((1+a'.length:Nat):Int)) % 97=0:=by
       refine Qq3 _ (v1 x'-v1 y') ((1+a.length:Nat):Int) _ (by omega) ?_
       have e6:((1+a.length+1+a'.length:Nat):Int)=((1+a.length:Nat):Int)+((1+a'.length:Nat):Int):=by omega
       rw[e6] at s2;omega
      rcases QwI _ _ (by omega) (by omega) hz with h | h<;>omega
     have:=Ue (by omega) (by omega) n2
     omega
    ·have:=Ue (by omega) (by omega) m1
     omega
 ·omega
theorem Wg {l r:W} (h:fits l r=true):Z4 r=true/\l.length=r.length+4/\Zd l (Qt r)<=1:=by
 simp only[fits,QA1,decide_eq_true_eq] at h;exact ⟨h.1.1,h.1.2,h.2⟩
theorem Qnx {l r:W} (h1:Z4 r=true) (h2:l.length=r.length+4) (h3:Zd l (Qt r)<=1):fits l r=true:=by
 simp[fits,h1,h2,h3]
theorem Wf {l r q:W} (h:fits l r=true) (h':fits l q=true):r=q:=by
 obtain ⟨a1,a2,a3⟩:=Wg h;obtain ⟨b1,b2,b3⟩:=Wg h';obtain ⟨p1,p2,_⟩:=XL a1;obtain ⟨p3,_,_⟩:=XL b1;by_cases hne:r=q
 ·exact hne
 ·have:=Qjo p1 p3 (by omega) p2 hne
  have:=Qet (Qt r) l (Qt q) (by rw[Za];omega) (by rw[Za];omega)
  rw[JY (Qt r) l] at this;omega
theorem Qiy {x:Int} (h1 : -97<x) (h2:x<97):x.tmod 97=x:=by
 by_cases h:x<0
 ·have:=Int.neg_tmod (-x) 97
  rw[Int.neg_neg] at this;rw[this,QBH (by omega)]
  omega
 ·rw[QBH (by omega)];omega
theorem Qjl {a b:W} {x y:UInt8} (hp:plain (a++x::b)):fix (S1 (a++x::b) % 97) (a++y::b) a.length=a++x::b:=by
 have pa:plain a:=fun c hc=>hp c (by simp[hc])
 have pb:plain b:=fun c hc=>hp c (by simp[hc])
 have px:=JD (hp x (by simp))
 have na:=Qif pa;have nb:=Qif pb
 have e:QfF (S1 (a++x::b) % 97) (a++y::b) a.length=v1 x:=by
  unfold QfF;have e1:(a++y::b).take a.length++[32]++(a++y::b).drop (a.length+1)=a++([32]++b):=by simp
  have e3:S1 ((32:UInt8)::b)=S1 b:=by simp[S1,v1]
  rw[e1,WA,WA,show ([32]:W)++b=32::b from rfl,e3]
  have e2:S1 (x::b)=v1 x+S1 b:=rfl;have t1:(S1 a+S1 b).tmod 97=(S1 a+S1 b) % 97:=QBH (by omega)
  rw[e2,t1];generalize hX:(S1 a+(v1 x+S1 b)) % 97-(S1 a+S1 b) % 97=X;rw[Qiy (x:=X) (by omega) (by omega),QBH (show 0<=X+97 by omega)]
  omega
 unfold fix;rw[e]
 have:UInt8.ofNat (32+v1 x).toNat=x:=by
  have e3:(32+v1 x).toNat=x.toNat:=by simp only[v1] at *;omega
  rw[e3,UInt8.ofNat_toNat]
 rw[this];simp
theorem qN {l r:W} (h:fits l r=true):Xs l=some r:=by
 obtain ⟨a1,a2,a3⟩:=Wg h;obtain ⟨p1,p2,p3⟩:=XL a1;have h6:¬ l.length<6:=by omega
 cases hf:fits l (l.take (l.length-4)) with
 | true=>rw[Vk h6 rfl hf,Wf hf h]
 | false =>
   generalize ht:l.take (l.length-4)=t at *;have htl:t.length=r.length:=by rw[<- ht];simp;omega
   have hl:l=t++l.drop (l.length-4):=by rw[<- ht];simp
   have hdl:(l.drop (l.length-4)).length=4:=by simp;omega
   have hd:Zd l (Qt r)=Zd t r+Zd (l.drop (l.length-4)) (two (S1 r % 97).toNat++two (S2 1 r % 97).toNat):=by
    conv=>lhs;arg 1;rw[hl]
    simp only[Qt,QBB];exact Z5 _ _ _ _ htl
   have htr:Zd t r≠0:=fun e=>by
    have:=Zm _ _ htl e;subst this;rw[h] at hf;cases hf
   have hz:Zd (l.drop (l.length-4)) (two (S1 r % 97).toNat++two (S2 1 r % 97).toNat)=0:=by omega
   have hz':=Zm _ _ hdl hz
   have hw:dg ((l.drop (l.length-4)).take 2)=S1 r % 97:=by
    rw[hz'];have:(two (S1 r % 97).toNat++two (S2 1 r % 97).toNat).take 2=two (S1 r % 97).toNat:=rfl;rw[this,Wm (by omega)]
    omega
   rw[XM h6 ht hf hw (by omega)]
   obtain ⟨a,y,x,b,b',e1,e2,hxy,hbl,hd0⟩:=Y6 t r 0 htl (by omega)
   have hb:=Zm _ _ hbl hd0;subst hb;have hfix:fix (S1 r % 97) t a.length=r:=by rw[e1,e2];exact Qjl (by rw[<- e2];exact p1)
   have hal:a.length<t.length:=by rw[e1];simp
   cases hs:(List.range t.length).find? fun i=>fits l (fix (S1 r % 97) t i) with
   | none =>
     rw[List.find?_eq_none] at hs;have:=hs a.length (QBF.2 hal);simp[hfix,h] at this
   | some j =>
     have:=List.find?_some hs;simp only[QB3,Wf this h]
end Go.Bk
set_option maxRecDepth 8000
namespace Go.Bk
open Go Go.Ev Go.Proofs Go.RowKit
variable {K:World->Prop} (hK:∀ w w',K w->Below w.heap.size w w'->K w')
open Go.Pf (c114_ok c118_ok c119_ok c12_ok c181_ok c182_ok c183_ok c231_ok c23_ok c24_ok c27_ok c41_ok c6_ok)
def QaJ (l:List W):Nat:=(l.map fun s=>s.length+1).sum
def Qz7 (l:List W):Bool:=decide (5000<QaJ l)
def QuT (s:W):Bool:=decide (90<s.count 10)
def Q6 (a:List W × W) (c:UInt8):List W × W:=if c=10 then (a.1++[a.2],[]) else (a.1,a.2++[c])
def lns (s:W):List W × W:=s.foldl Q6 ([],[])
theorem JO (s:W) (c:UInt8):lns (s++[c])=Q6 (lns s) c:=by simp[lns]
theorem Qi0 (s:W) (i:Nat) (h:i<s.length):lns (s.take (i+1))=Q6 (lns (s.take i)) s[i]:=by
 rw[QA3 h,JO]
theorem Qi1 (s:W):(lns s).2.length<=s.length/\s.drop (s.length-(lns s).2.length)=(lns s).2:=by
 have:∀ (n:Nat) (s:W),s.length=n->(lns s).2.length<=s.length/\s.drop (s.length-(lns s).2.length)=(lns s).2:=by
  intro n
  induction n with
  | zero =>
    intro s h;have:s=[]:=QA5 h;subst this;simp[lns]
  | succ n ih =>
    intro s h
    have hs:s=s.take n++[s[n]]:=by
     have:=QA3 (l:=s) (i:=n) (by omega)
     rw[<- this,QBn (by omega)]
    obtain ⟨h1,h2⟩:=ih (s.take n) (by simp;omega)
    have hl:(s.take n).length=n:=by simp;omega
    rw[hl] at h1 h2;generalize s[n]=c at hs;generalize s.take n=t at *;subst hs;rw[JO];unfold Q6;split
    ·simp
    ·simp only[QBa,QB9]
     refine ⟨by omega,?_⟩
     rw[hl,List.drop_append_of_le_length (by omega)]
     have:n+1-((lns t).2.length+1)=n-(lns t).2.length:=by omega
     rw[this,h2]
 exact this _ s rfl
theorem Qgv (s:W):(lns s).1.length=s.count 10/\(lns s).1.length<=s.length:=by
 have:∀ (n:Nat) (s:W),s.length=n->(lns s).1.length=s.count 10:=by
  intro n
  induction n with
  | zero =>
    intro s h;have:s=[]:=QA5 h;subst this;simp[lns]
  | succ n ih =>
    intro s h
    have hs:s=s.take n++[s[n]]:=by
     have:=QA3 (l:=s) (i:=n) (by omega)
     rw[<- this,QBn (by omega)]
    have h1:=ih (s.take n) (by simp;omega)
    generalize s[n]=c at hs;generalize s.take n=t at *;subst hs;rw[JO,List.count_append];unfold Q6;split
    ·rename_i hc;subst hc;simp[h1]
    ·rename_i hc;simp[h1,hc]
 exact ⟨this _ s rfl,by rw[this _ s rfl];exact List.count_le_length⟩
def cutL (b:W):Option (List W):=if b.getLast?=some 10 then some (lns b).1 else none
def V6 {α:Type} (p:α->Bool):List α->Nat->Int
 | [],_ => -1
 | a::r,k=>if p a then k else V6 p r (k+1)
theorem Uj {α:Type} (p:α->Bool):∀ (l:List α) (k:Nat),decide (0<=V6 p l k)=l.any p
 | [],k=>by simp[V6]
 | a::r,k=>by
   simp only[V6,List.any_cons];by_cases h:p a=true
   ·simp[h]
   ·have h':p a=false:=by simpa using h
    simp[h',<- Uj p r (k+1)]
theorem Qkk:callee Tryz.prog 24=true:=by
 unfold callee;rw[Tryz.func24];rfl
include hK
theorem Qeh (l m:List W):Ev.Good Tryz.prog K 12 [strs l,strs m] (.bool (decide (l=m))):=by
 refine Qb hK c12_ok (by simp) ?_
 simp;intro hl hm;refine ⟨fun e c=>e (by rw[c]),fun e=>?_⟩
 have e:l.length=m.length:=by omega
 refine QV (fun i=>[(0,AV.iv (strs l)),(1,AV.iv (strs m)),(5,AV.iv (IV.int IntKind.i64 (i:Nat)))]) (fun _=>[]) l.length (fun i=>l.take i=m.take i) (by simp) ?_ ?_
 ·intro h
  rw[Qa Go.Pf.c12_b0.eq_1];simp at h |-;intro _;rw[e,QBo] at h;exact h
 ·intro i hi h ih
  have hi':i<m.length:=by omega
  rw[Qa Go.Pf.c12_b0.eq_1];simp[hi,hi'] at h ih |-;intro _;refine ⟨fun e c=>e (by subst c;rfl),fun e=>⟨by omega,ih ?_⟩⟩
  rw[QA3 hi,QA3 hi',h,e]
def errT (l:List W):Int:=if 40<l.length then 2 else if l.all tx then 0 else 1
theorem good6 (l:List W) (h:∀ s∈l,s.length<=1000000):Ev.Good Tryz.prog K 6 [strs l] (.int .i64 (errT l)):=by
 refine Qb hK c6_ok (by simp) ?_
 simp;refine fun _=>⟨fun h40=>?_,fun h40=>?_⟩
 ·have:40<l.length:=by omega
  simp[errT,this]
 ·have hn:¬ 40<l.length:=by omega
  refine QV (fun i=>[(0,AV.iv (strs l)),(3,AV.iv (IV.int IntKind.i64 (i:Nat)))]) (fun _=>[]) l.length (fun i=>(l.take i).all tx=true) (by simp) ?_ ?_
  ·intro hq
   rw[Qa Go.Pf.c6_b0.eq_1];rw[QBo] at hq;simp[errT,hn,hq]
  ·intro i hi hq ih
   rw[Qa Go.Pf.c6_b0.eq_1];simp[hi];intro _;refine Qd (QrM hK l[i] (h _ (QBc hi))) (by simp) ?_
   by_cases hx:tx l[i]=true
   ·have:=ih (Qaz hi hq hx)
    simp[hx] at this |-;exact ⟨by omega,this⟩
   ·have hx':tx l[i]=false:=by simpa using hx
    have hall:=Vm (p:=tx) hi hx';simp[hx',errT,hn,hall]
theorem QrG (b:W) (hb:b.length<=1000000):Ev.Good Tryz.prog K 27 [.str b] (.tup [strs ((cutL b).getD []),.bool (cutL b).isSome]):=by
 refine Qb hK c27_ok (by simp) ?_
 by_cases h0:b.length=0
 ·have:b=[]:=QA5 h0
  subst this;simp[cutL]
 ·have hi0:¬ ((b.length:Int)=0):=by omega
  have hlt:b.length-1<b.length:=by omega
  have hne:b≠[]:=fun e=>h0 (by rw[e];rfl)
  have hn:((b.length:Int)-1).toNat=b.length-1:=by omega
  have hlast:b.getLast?=some b[b.length-1]:=by rw[List.getLast?_eq_getElem?,QA0 hlt]
  by_cases hc:b[b.length-1]=10
  ·have hci:((b[b.length-1].toNat:Int)=10):=by rw[hc];rfl
   have hcut:cutL b=some (lns b).1:=by unfold cutL;rw[hlast,hc];rfl
   rw[hcut];simp[hne,hn,hlt,hci];refine ⟨by omega,by omega,?_⟩
   refine QX (fun i=>[(0,AV.iv (.str b)),(4,AV.aref 4 (lns (b.take i)).1.length),(5,AV.iv (.int .i64 ((i-(lns (b.take i)).2.length:Nat):Int))),(6,AV.iv (.int .i64 (i:Nat)))]) (fun i=>[(4,AO.arr 9 1 (emb ((lns (b.take i)).1.map fun s=>[.str s])) 0)]) b.length ?_ ?_
   ·rw[Qa Go.Pf.c27_b0.eq_1]
    simp
   ·intro i hi ih
    rw[Qa Go.Pf.c27_b0.eq_1];have hst:=Qi0 b i hi;obtain ⟨r1,r2⟩:=Qi1 (b.take i);obtain ⟨_,r3⟩:=Qgv (b.take i);have htl:(b.take i).length=i:=by simp;omega
    rw[htl] at r1 r2 r3;generalize lns (b.take i)=P at *;obtain ⟨A,r⟩:=P;simp only at r1 r2 r3;rw[hst] at ih;by_cases hbi:b[i]=10
    ·have hbii:((b[i].toNat:Int)=10):=by rw[hbi];rfl
     have e:Q6 (A,r) b[i]=(A++[r],[]):=by simp[Q6,hbi]
     rw[e] at ih;simp[hi,hbii,r2] at ih |-
     repeat' (first | omega | assumption | apply And.intro)
    ·have hbii:¬ ((b[i].toNat:Int)=10):=fun e=>hbi (UInt8.toNat_inj.1 (by have:(10:UInt8).toNat=10:=rfl;omega))
     have e:Q6 (A,r) b[i]=(A,r++[b[i]]):=by simp[Q6,hbi]
     rw[e] at ih;have e5:i+1-(r.length+1)=i-r.length:=by omega
     simp[hi,hbii,e5] at ih |-
     repeat' (first | omega | assumption | apply And.intro)
  ·have hci:¬ ((b[b.length-1].toNat:Int)=10):=fun e=>hc (UInt8.toNat_inj.1 (by have:(10:UInt8).toNat=10:=rfl;omega))
   have hcut:cutL b=none:=by
    unfold cutL;rw[hlast,if_neg];intro e;injection e with e
    exact hc e
   rw[hcut];simp[hne,hn,hlt,hci];omega
theorem QmQ (s t:W) (hs:s.length<=1000000) (ht:t.length<=1000000):Ev.Good Tryz.prog K 231 [.str s,.str t] (.bool (decide (t.length<=s.length)&&decide (s.drop (s.length-t.length)=t))):=by
 refine Qb hK c231_ok (by simp) ?_
 by_cases h:t.length<=s.length
 ·have hi:(t.length:Int)<=s.length:=by omega
  have hn:((s.length:Int)-(t.length:Int)).toNat=s.length-t.length:=by omega
  have hx:s.take s.length=s:=QBo;simp[hi,h,hn]
  repeat' (first | omega | apply And.intro)
 ·have hi:¬ (t.length:Int)<=s.length:=by omega
  simp[hi,h]
theorem Qm7 (s:W) (hs:s.length<=1000000):Ev.Good Tryz.prog K 181 [.str s,.str [10]] (.tup [.str (if s.getLast?=some 10 then s.dropLast else s),.bool (decide (s.getLast?=some 10))]):=by
 refine Qb hK c181_ok (by simp) ?_
 simp;refine Qd (QmQ hK s [10] hs (by simp)) (by simp) ?_
 rcases List.eq_nil_or_concat s with rfl | ⟨t,c,rfl⟩
 ·simp
 ·have hn:(((t.length:Int)+1-1)).toNat=t.length:=by omega
  by_cases hc:c=10
  ·simp[hc]
   simp at hs;omega
  ·simp[hc]
theorem Qnr (s:W) (hs:s.length<=1000000):Ev.Good Tryz.prog K 114 [.str s,.str [10]] (.tup [.str (if s.getLast?=some 10 then s.dropLast else s),.bool (decide (s.getLast?=some 10))]):=by
 refine Qb hK c114_ok (by simp) ?_
 simp;refine Qd (Qm7 hK s hs) (by simp) ?_
 simp
theorem Qm6 (l:List Int) (n:Int):Ev.Good Tryz.prog K 182 [ZF l,.int .i64 n] (.int .i64 (V6 (·==n) l 0)):=by
 refine Qb hK c182_ok (by simp) ?_
 generalize hR:V6 (·==n) l 0=R
 simp;intro hl;refine QV (fun i=>[(0,AV.iv (ZF l)),(1,AV.iv (.int .i64 n)),(7,AV.iv (.int .i64 (l.length:Nat))),(8,AV.iv (.int .i64 (i:Nat)))]) (fun _=>[]) l.length (fun i=>V6 (·==n) (l.drop i) i=R) (by simpa using hR) ?_ ?_
 ·intro hq
  rw[Qa Go.Pf.c182_b0.eq_1];rw[List.drop_length] at hq;simp[<- hq,V6]
 ·intro i hi hq ih
  rw[Qa Go.Pf.c182_b0.eq_1];rw[QBX hi] at hq;by_cases hc:n=l[i]
  ·have:R=i:=by rw[<- hq];simp[V6,hc]
   subst this;simp[hi,hc]
  ·have hc':¬ l[i]=n:=fun e=>hc e.symm
   have:=ih (by rw[<- hq];simp[V6,hc'])
   simp[hi,hc] at this |-;exact ⟨by omega,this⟩
theorem Qm5 (l:List W) (n:W):Ev.Good Tryz.prog K 183 [strs l,.str n] (.int .i64 (V6 (·==n) l 0)):=by
 refine Qb hK c183_ok (by simp) ?_
 generalize hR:V6 (·==n) l 0=R
 simp;intro hl;refine QV (fun i=>[(0,AV.iv (strs l)),(1,AV.iv (.str n)),(7,AV.iv (.int .i64 (l.length:Nat))),(8,AV.iv (.int .i64 (i:Nat)))]) (fun _=>[]) l.length (fun i=>V6 (·==n) (l.drop i) i=R) (by simpa using hR) ?_ ?_
 ·intro hq
  rw[Qa Go.Pf.c183_b0.eq_1];rw[List.drop_length] at hq;simp[<- hq,V6]
 ·intro i hi hq ih
  rw[Qa Go.Pf.c183_b0.eq_1];rw[QBX hi] at hq;by_cases hc:n=l[i]
  ·have:R=i:=by rw[<- hq];simp[V6,hc]
   subst this;simp[hi,hc]
  ·have hc':¬ l[i]=n:=fun e=>hc e.symm
   have:=ih (by rw[<- hq];simp[V6,hc'])
   simp[hi,hc] at this |-;exact ⟨by omega,this⟩
theorem QgW (l:List Int) (n:Int):Ev.Good Tryz.prog K 118 [ZF l,.int .i64 n] (.bool (l.any (·==n))):=by
 refine Qb hK c118_ok (by simp) ?_
 have g:=Qm6 hK l n;rw[<- Uj _ l 0];generalize V6 (·==n) l 0=R at *
 simp at g |-;refine Qd g (by simp) ?_
 simp
theorem QgV (l:List W) (n:W):Ev.Good Tryz.prog K 119 [strs l,.str n] (.bool (l.any (·==n))):=by
 refine Qb hK c119_ok (by simp) ?_
 have g:=Qm5 hK l n;rw[<- Uj _ l 0];generalize V6 (·==n) l 0=R at *
 simp at g |-;refine Qd g (by simp) ?_
 simp
theorem QrH (s:W) (hs:s.length<=1000000):Ev.Good Tryz.prog K 24 [.str s] (.bool (!tx s)):=by
 refine Qb hK c24_ok (by simp) ?_
 simp;refine Qd (Qlx hK s hs) (by simp) ?_
 simp
theorem Qrx (l:List W) (h:∀ s∈l,s.length<=1000000):Ev.Good Tryz.prog K 41 [strs l,.fn 24] (.int .i64 (V6 (fun s=>!tx s) l 0)):=by
 refine Qb hK c41_ok (by simp) ?_
 generalize hR:V6 (fun s=>!tx s) l 0=R
 simp;intro hl;refine QV (fun i=>[(0,AV.iv (strs l)),(1,AV.iv (.fn 24)),(7,AV.iv (.int .i64 (l.length:Nat))),(8,AV.iv (.int .i64 (i:Nat)))]) (fun _=>[]) l.length (fun i=>V6 (fun s=>!tx s) (l.drop i) i=R) (by simpa using hR) ?_ ?_
 ·intro hq
  rw[Qa Go.Pf.c41_b0.eq_1];rw[List.drop_length] at hq;simp[<- hq,V6]
 ·intro i hi hq ih
  rw[Qa Go.Pf.c41_b0.eq_1];rw[QBX hi] at hq;simp[hi];refine ⟨Qkk,Qd (QrH hK l[i] (h _ (QBc hi))) (by simp) ?_⟩
  by_cases hx:tx l[i]=true
  ·have:=ih (by rw[<- hq];simp[V6,hx])
   simp[hx] at this |-;exact ⟨by omega,this⟩
  ·have hx':tx l[i]=false:=by simpa using hx
   have:R=i:=by rw[<- hq];simp[V6,hx']
   subst this;simp[hx']
theorem QrI (l:List W) (h:∀ s∈l,s.length<=1000000):Ev.Good Tryz.prog K 23 [strs l,.fn 24] (.bool (!l.all tx)):=by
 refine Qb hK c23_ok (by simp) ?_
 have g:=Qrx hK l h;have e2:(!l.all tx)=l.any fun s=>!tx s:=List.not_all_eq_any_not
 rw[e2,<- Uj _ l 0];generalize V6 (fun s=>!tx s) l 0=R at *
 simp at g |-;refine Qd g (by simp) ?_
 simp
end Go.Bk
set_option maxRecDepth 8000
namespace Go.Bk
open Go Go.Ev Go.Proofs Go.RowKit
variable {K:World->Prop} (hK:∀ w w',K w->Below w.heap.size w w'->K w')
open Go.Pf (c45_ok c47_ok c48_ok)
def spl:W->List W
 | []=>[[]]
 | c::s=>if c=10 then []::spl s else (c::(spl s).headD [])::(spl s).tail
theorem QaN (s:W):spl s≠[]:=by
 cases s with
 | nil=>simp[spl]
 | cons c s=>unfold spl;split<;>simp
theorem Qi2 (s:W):∀ (A:List W) (r:W),(s.foldl Q6 (A,r)).1++[(s.foldl Q6 (A,r)).2]=A++(r++(spl s).headD [])::(spl s).tail:=by
 induction s with
 | nil=>intro A r;simp[spl]
 | cons c s ih =>
   intro A r;rw[QBu];by_cases hc:c=10
   ·have e:Q6 (A,r) c=(A++[r],[]):=by simp[Q6,hc]
    have e2:spl (c::s)=[]::spl s:=by simp[spl,hc]
    rw[e,e2,ih];have:=QaN s;cases h:spl s with
    | nil=>exact absurd h this
    | cons a l=>simp
   ·have e:Q6 (A,r) c=(A,r++[c]):=by simp[Q6,hc]
    have e2:spl (c::s)=(c::(spl s).headD [])::(spl s).tail:=by simp[spl,hc]
    rw[e,e2,ih];simp
theorem Qmr (s:W):(lns s).1++[(lns s).2]=spl s:=by
 unfold lns;rw[Qi2];have:=QaN s;cases h:spl s with
 | nil=>exact absurd h this
 | cons a l=>simp
theorem QnO (t:W):(lns (t++[10])).1=spl t:=by
 rw[JO,<- Qmr];simp[Q6]
include hK
theorem Qrv (hS:∀ s:W,s.length<=1000000->Ev.Good Tryz.prog K 49 [.str s,.str [10]] (strs (spl s))) (b:W) (hb:b.length<=1000000):Ev.Good Tryz.prog K 45 [.str b] (.tup [strs ((cutL b).getD []),.bool (cutL b).isSome]):=by
 refine Qb hK c45_ok (by simp) ?_
 simp;refine Qd (Qnr hK b hb) (by simp) ?_
 rcases List.eq_nil_or_concat b with rfl | ⟨t,c,rfl⟩
 ·simp[cutL]
 ·by_cases hc:c=10
  ·have e:cutL (t++[c])=some (spl t):=by unfold cutL;rw[hc,QnO];simp
   simp at hb;have hS':=hS t (by omega)
   simp[hc] at hS' e |-;refine Qd hS' (by simp) ?_
   simp[e]
  ·have e:cutL (t++[c])=none:=by unfold cutL;simp[hc]
   simp[hc] at e |-;simp[e]
def ZV {α:Type} [BEq α] (l:List α) (x:α):List α:=if l.any (·==x) then l else l++[x]
theorem QmG (l:List Int) (x:Int) (hl:l.length<=1000000):VO Tryz.prog K 47 3 1 (l.map fun n=>[.int .i64 n]) [.int .i64 x] ((ZV l x).map fun n=>[.int .i64 n]):=by
 unfold ZV;cases h:l.any (·==x) with
 | true =>
   refine qe fun v0=>?_
   have hK':=QpL.stay (sz:=1) (rows:=l.map fun n=>[.int .i64 n]) (v0:=v0) hK
   refine Qb hK' c47_ok (by simp) ?_
   have g:=Ev.good_row (v0:=v0) (QgW hK l x) rfl;rw[h] at g;simp;refine Qd g (by simp[QD]) ?_
   simp
 | false =>
   refine Wb 4 c47_ok (by simp) rfl (by simp) ?_
   have g:=QgW hK l x;rw[h] at g;rw[QdS];simp;refine Qd g (by simp[QD]) ?_
   simp;refine ⟨⟨by omega,by omega⟩,by simp,rfl,rfl,rfl⟩
theorem QmF (l:List W) (x:W) (hl:l.length<=1000000):VO Tryz.prog K 48 9 1 (l.map fun n=>[.str n]) [.str x] ((ZV l x).map fun n=>[.str n]):=by
 unfold ZV;cases h:l.any (·==x) with
 | true =>
   refine qe fun v0=>?_
   have hK':=QpL.stay (sz:=1) (rows:=l.map fun n=>[.str n]) (v0:=v0) hK
   refine Qb hK' c48_ok (by simp) ?_
   have g:=Ev.good_row (v0:=v0) (QgV hK l x) rfl;rw[h] at g;simp;refine Qd g (by simp[QD]) ?_
   simp
 | false =>
   refine Wb 4 c48_ok (by simp) rfl (by simp) ?_
   have g:=QgV hK l x;rw[h] at g;rw[QdS];simp;refine Qd g (by simp[QD]) ?_
   simp;refine ⟨⟨by omega,by omega⟩,by simp,rfl,rfl,rfl⟩
end Go.Bk
set_option maxRecDepth 8000
namespace Go.Bk
open Go Go.Ev Go.Proofs Go.RowKit
variable {K:World->Prop} (hK:∀ w w',K w->Below w.heap.size w w'->K w')
open Go.Pf (c28_ok)
section
variable {P:Program} {K:World->Prop}
theorem QhQ {C:Env->Qi->Prop} {d:Option Nat} {g:FuncId} {id mv n:Nat} {t:TypeId} {sz:Nat} {l:List QB} {e:Env} {o:Qi} {ys:List IV} {rows rows':List (List IV)} (hn:n=rows.length) (hg:VO P K g t sz rows ys rows')
  (h:Qg P K C l (bnd d (.aref id rows'.length) e) (ZW id (.arr t sz (emb rows') rows'.length) o)):QbX P K C d g id l e o (some ys) (.aref id n) (some (.arr t sz (emb rows) mv)):=by
 subst hn;exact QhR hg h
theorem Qfx {C:Env->Qi->Prop} {d:Option Nat} {g:FuncId} {id:Nat} {t:TypeId} {sz:Nat} {l:List QB} {e:Env} {o:Qi} {ys:List IV} {kvs:List (MK × List (List IV))} {k:MK} {n:Nat} {rows rows':List (List IV)} (hr:(Qh k kvs).getD []=rows) (hn:rows.length=n) (hg:VO P K g t sz rows ys rows')
  (h:Qg P K C l (bnd d (.mref id k rows'.length) e) (ZW id (.mapr t sz (mins k rows' kvs) (some k)) o)):QbX P K C d g id l e o (some ys) (.mref id k n) (some (.mapr t sz kvs none)):=by
 subst hr;exact QhP hn hg h
end
theorem Qeo {l r:W} (h:fits l r=true):Z4 r=true/\l.length=r.length+4:=by
 simp only[fits,QA1,decide_eq_true_eq] at h;exact ⟨h.1.1,h.1.2⟩
theorem W0 {l r:W} (h:Xs l=some r):fits l r=true:=by
 unfold Xs at h;split at h
 ·cases h
 ·simp only at h
  split at h
  ·rename_i hf
   injection h with h
   rw[<- h];exact hf
  ·split at h
   ·cases h
   ·rw[QA4] at h
    obtain ⟨i,h1,h2⟩:=h;rw[<- h2];have h3:=List.find?_some h1;exact h3
def QaA {β:Type} (k:Int) (v:β):List (Int × β)->List (Int × β)
 | []=>[(k,v)]
 | p::r=>if p.1=k then (k,v)::r else p::QaA k v r
def QI {β:Type} (k:Int):List (Int × β)->Option β
 | []=>none
 | p::r=>if p.1=k then some p.2 else QI k r
def Y4 {β α:Type} (f:β->α) (l:List (Int × β)):List (MK × α):=l.map fun p=>(.int .i64 p.1,f p.2)
theorem Qan {β α:Type} (f:β->α) (k:Int) (v:β):∀ l:List (Int × β),mins (.int .i64 k) (f v) (Y4 f l)=Y4 f (QaA k v l)
 | []=>rfl
 | p::r=>by
   have ih:=Qan f k v r;simp only[Y4,QBf,mins,QaA] at ih |-;by_cases h:p.1=k
   ·simp[h]
   ·simp[h,ih]
theorem Xp {β α:Type} (f:β->α) (k:Int):∀ l:List (Int × β),Qh (.int .i64 k) (Y4 f l)=(QI k l).map f
 | []=>rfl
 | p::r=>by
   have ih:=Xp f k r;simp only[Y4,QBf,Qh,QI] at ih |-;by_cases h:p.1=k
   ·simp[h]
   ·simp[h,ih]
theorem ZN {β α:Type} (f:β->α):∀ l:List (Int × β),QZ (some .i64) (Y4 f l)
 | []=>trivial
 | p::r=>⟨rfl,ZN f r⟩
theorem Zt {β:Type} (k j:Int) (v:β):∀ l:List (Int × β),QI j (QaA k v l)=if j=k then some v else QI j l
 | []=>by
   simp only[QaA,QI];by_cases h:j=k
   ·simp[h]
   ·simp[h,Ne.symm h]
 | p::r=>by
   have ih:=Zt k j v r;simp only[QaA];by_cases h:p.1=k
   ·simp only[h,if_true,QI]
    by_cases hj:j=k
    ·simp[hj]
    ·simp[hj,Ne.symm hj]
   ·simp only[h,if_false,QI,ih]
    by_cases hj:j=k
    ·subst hj;simp[h]
    ·simp[hj]
def txE (l:List W):List (List IV):=l.map fun s=>[.str s]
def inE (l:List Int):List (List IV):=l.map fun n=>[.int .i64 n]
structure Pg where
 rows:List (Int × List W)
 ends:List Int
 exact:List (Int × Int)
 bad:List Int
def JF (p:Pg) (i:Nat) (l:W):Pg :=
 match Xs l with
 | none=>{ p with bad:=p.bad++[(i:Int)] }
 | some r =>
   if (Qf r).1.2.2 then { p with ends:=ZV p.ends (Qf r).1.1 }
   else { p with rows:=QaA (Qf r).1.1 (ZV ((QI (Qf r).1.1 p.rows).getD []) (Qf r).1.2.1) p.rows,exact:=if Qt r=l then QaA (Qf r).1.1 ((QI (Qf r).1.1 p.exact).getD 0+1) p.exact else p.exact }
def Jc (ls:List W):Nat->Pg
 | 0=>⟨[],[],[],[]⟩
 | i+1=>JF (Jc ls i) i (ls.getD i [])
theorem QaH {α:Type} [BEq α] (l:List α) (x:α):(ZV l x).length<=l.length+1:=by
 unfold ZV;split<;>simp
theorem Qa9 (ls:List W):∀ i,(Jc ls i).ends.length<=i/\(Jc ls i).bad.length<=i/\(∀ k,((QI k (Jc ls i).rows).getD []).length<=i)/\(∀ k,0<=(QI k (Jc ls i).exact).getD 0/\(QI k (Jc ls i).exact).getD 0<=i)
 | 0=>by simp[Jc,QI]
 | i+1=>by
   obtain ⟨h1,h2,h3,h4⟩:=Qa9 ls i;simp only[Jc,JF];split
   ·refine ⟨by simp only;omega,by simp;omega,fun k=>?_,fun k=>?_⟩
    ·have:=h3 k;simp only;omega
    ·have:=h4 k;simp only;omega
   ·split
    ·refine ⟨?_,by simp only;omega,fun k=>?_,fun k=>?_⟩
     ·have:=QaH (Jc ls i).ends (Qf ‹W›).1.1
      simp only;omega
     ·have:=h3 k;simp only;omega
     ·have:=h4 k;simp only;omega
    ·refine ⟨by simp only;omega,by simp only;omega,fun k=>?_,fun k=>?_⟩
     ·simp only[Zt]
      split
      ·have:=QaH ((QI (Qf ‹W›).1.1 (Jc ls i).rows).getD []) (Qf ‹W›).1.2.1
       have:=h3 (Qf ‹W›).1.1;simp only[QBw];omega
      ·have:=h3 k;omega
     ·simp only
      split
      ·rw[Zt]
       split
       ·have:=h4 (Qf ‹W›).1.1
        simp only[QBw];omega
       ·have:=h4 k;omega
      ·have:=h4 k;omega
def pgV (p:Pg):IV:=.agg [.map (Y4 (fun t=>.sl 1 (txE t)) p.rows),ZF p.ends,.map (Y4 (fun n=>.int .i64 n) p.exact),ZF p.bad]
def QtW:IV:=.agg [.map [],.sl 1 [],.map [],.sl 1 []]
include hK
theorem QrF (hS:∀ s:W,s.length<=1000000->Ev.Good Tryz.prog K 49 [.str s,.str [10]] (strs (spl s))) (b:W) (hb:b.length<=100000) (hl:∀ ls,cutL b=some ls->ls.length<=100000/\∀ l∈ls,l.length<=10000) :
  Ev.Good Tryz.prog K 28 [.str b] (match cutL b with | some ls=>.tup [pgV (Jc ls ls.length),.int .i64 0] | none=>.tup [QtW,.int .i64 140]):=by
 refine Qb hK c28_ok (by simp) ?_
 have g50:=Qrv hK hS b (by omega)
 generalize cutL b=R at *;cases R with
 | none =>
   simp at g50 |-;refine Qd g50 (by simp) ?_
   simp[QtW]
 | some ls =>
   obtain ⟨hl1,hl2⟩:=hl ls rfl;simp at g50 |-;refine Qd g50 (by simp) ?_
   simp;intro hln;have e0:Y4 txE ([]:List (Int × List W))=[]:=rfl
   refine QX (fun i=>[(2,AV.loc 2 0),(6,.loc 6 0),(22,.iv (strs ls)),(23,.iv (.int .i64 (ls.length:Nat))),(24,.iv (.int .i64 (i:Nat)))])
    (fun i=>[(2,AO.box [.iv (.map []),.iv (.sl 1 []),.iv (.map []),.iv (.sl 1 [])]),(6,.box [.oref 19,.aref 7001 (Jc ls i).ends.length,.oref 20,.aref 7003 (Jc ls i).bad.length]),(19,.mapr 9 1 (Y4 txE (Jc ls i).rows) none),
      (20,.mapd (Y4 (fun n=>.int .i64 n) (Jc ls i).exact)),(7001,.arr 3 1 (emb (inE (Jc ls i).ends)) (Jc ls i).ends.length),(7003,.arr 3 1 (emb (inE (Jc ls i).bad)) 0)]) ls.length ?_ ?_
   ·rw[Qa Go.Pf.c28_b0.eq_1]
    generalize Jc ls ls.length=p;have l1:(inE p.ends).length=p.ends.length:=by simp[inE]
    have l2:(inE p.bad).length=p.bad.length:=by simp[inE]
    simp[l1,l2];simp[pgV,Y4,txE,inE]
   ·intro i hi ih
    rw[Qa Go.Pf.c28_b0.eq_1];obtain ⟨b1,b2,b3,b4⟩:=Qa9 ls i;have hli:=hl2 ls[i] (QBc hi);have hg:ls.getD i []=ls[i]:=by simp[hi]
    simp only[Jc,hg] at ih;generalize Jc ls i=p at *;simp[hi];refine Qd (Qru hK ls[i] hli) (by simp) ?_
    cases hR:Xs ls[i] with
    | none =>
      have e:JF p i ls[i]={ p with bad:=p.bad++[(i:Int)] }:=by simp[JF,hR]
      rw[e] at ih;have l2:(inE p.bad).length=p.bad.length:=by simp[inE]
      have l3:inE (p.bad++[(i:Int)])=inE p.bad++[[.int .i64 (i:Nat)]]:=by simp[inE]
      rw[l3] at ih;simp[l2] at ih |-;exact ⟨by omega,by omega,ih⟩
    | some r =>
      have hst:Zr ls[i]=(Qf r).1:=by unfold Zr;rw[hR]
      have hrow:Z4 r=true:=(Qeo (W0 hR)).1;cases hc:(Qf r).1.2.2 with
      | true =>
        have e:JF p i ls[i]={ p with ends:=ZV p.ends (Qf r).1.1 }:=by simp[JF,hR,hc]
        rw[e] at ih;simp[hst,hc] at ih |-;refine QhQ (rows:=inE p.ends) (rows':=inE (ZV p.ends (Qf r).1.1)) (by simp[inE]) (QmG hK p.ends (Qf r).1.1 (by omega)) ?_
        have l1:(inE (ZV p.ends (Qf r).1.1)).length=(ZV p.ends (Qf r).1.1).length:=by simp[inE]
        simp[l1];exact ⟨by omega,ih⟩
      | false =>
        have g41:=Qaf hK r hrow;simp[hc] at g41;have hfk:=Xp txE (Qf r).1.1 p.rows;have hle:=b3 (Qf r).1.1;have hks:=ZN txE p.rows;generalize hold:(QI (Qf r).1.1 p.rows).getD []=old at *
        have hfo:(Qh (.int .i64 (Qf r).1.1) (Y4 txE p.rows)).getD []=txE old:=by
         rw[hfk,<- hold];cases QI (Qf r).1.1 p.rows<;>rfl
        simp[hst,hc,hks,hfo];refine Qfx hfo rfl (QmF hK old (Qf r).1.2.1 (by omega)) ?_
        have hl2':(List.map (fun n=>[IV.str n]) (ZV old (Qf r).1.2.1))=txE (ZV old (Qf r).1.2.1):=rfl
        rw[hl2',Qan];have hks2:=ZN txE (QaA (Qf r).1.1 (ZV old (Qf r).1.2.1) p.rows);have hf2:=Xp txE (Qf r).1.1 (QaA (Qf r).1.1 (ZV old (Qf r).1.2.1) p.rows);rw[Zt,if_pos rfl] at hf2;simp[hks2,hf2];refine Qd g41 (by simp) ?_
        have hks3:=ZN (fun n=>IV.int .i64 n) p.exact
        have hf3:=Xp (fun n=>IV.int .i64 n) (Qf r).1.1 p.exact
        obtain ⟨b5,b6⟩:=b4 (Qf r).1.1;generalize hcnt:(QI (Qf r).1.1 p.exact).getD 0=cnt at *
        have hf3':(Qh (.int .i64 (Qf r).1.1) (Y4 (fun n=>IV.int .i64 n) p.exact)).getD (.int .i64 0)=.int .i64 cnt:=by
         rw[hf3,<- hcnt];cases QI (Qf r).1.1 p.exact<;>rfl
        have hins:=Qan (fun n=>IV.int .i64 n) (Qf r).1.1 (cnt+1) p.exact
        by_cases he:Qt r=ls[i]
        ·have e:JF p i ls[i]={ p with rows:=QaA (Qf r).1.1 (ZV old (Qf r).1.2.1) p.rows,exact:=QaA (Qf r).1.1 (cnt+1) p.exact }:=by simp[JF,hR,hc,he,hold,hcnt]
         rw[e] at ih;simp[he,hks3,hf3',hins] at ih |-;exact ⟨by omega,by omega,ih⟩
        ·have e:JF p i ls[i]={ p with rows:=QaA (Qf r).1.1 (ZV old (Qf r).1.2.1) p.rows }:=by simp[JF,hR,hc,he,hold]
         rw[e] at ih;simp[he] at ih |-;exact ⟨by omega,ih⟩
end Go.Bk
set_option maxRecDepth 8000
namespace Go.Bk
open Go Go.Ev Go.Proofs Go.RowKit
variable {K:World->Prop} (hK:∀ w w',K w->Below w.heap.size w w'->K w')
open Go.Pf (c29_b0 c29_ok c30_ok)
def Yn (ends:List Int) (q:Int × List W):Bool:=decide (1<q.2.length)||(match ends with | []=>false | e::_=>decide (e<=q.1))
def Ym (p:Pg):Bool:=decide (1<p.ends.length)||p.rows.any (Yn p.ends)
def Xt (p:Pg) (n:Int):List Int:=((List.range n.toNat).filter fun k:Nat=>((QI (k:Int) p.rows).getD []).length==0).map fun k:Nat=>(k:Int)
theorem Qjy {β α:Type} (f:β->α) (l:List (Int × β)) (i:Nat):(Y4 f l)[i]?=(l[i]?).map fun p=>(.int .i64 p.1,f p.2):=by simp[Y4]
theorem Qe8 (p:Pg) (i:Nat):Xt p ((i+1:Nat):Int)=Xt p (i:Nat)++if ((QI (i:Int) p.rows).getD []).length=0 then [(i:Int)] else []:=by
 simp only[Xt,QBW,QBD,QCj,QBE]
 congr 1
 by_cases h:((QI (i:Int) p.rows).getD []).length=0<;>simp[h]
theorem Qbi (p:Pg) (n:Nat):(Xt p (n:Nat)).length<=n:=by
 simp only[Xt,QBb,QBW];have:=QCa (fun k:Nat=>((QI (k:Int) p.rows).getD []).length==0) (List.range n)
 simpa using this
include hK
theorem QrE (p:Pg):Ev.Good Tryz.prog K 29 [pgV p] (.bool (Ym p)):=by
 refine Qb hK c29_ok (by simp) ?_
 by_cases h1:1<p.ends.length
 ·have hi:(1:Int)<(p.ends.length:Int):=by omega
  simp[pgV,hi,Ym,h1]
 ·have hi:¬ (1:Int)<(p.ends.length:Int):=by omega
  generalize hC:Ym p=C;simp[pgV,hi];intro hl
  have key:∀ seen:List Nat,(∀ i∈seen,∀ q,p.rows[i]?=some q->Yn p.ends q=false) ->
    QK Tryz.prog K (FnF (QW [ZG.tmp 2] (.bool C))) c29_b0 [1,11] [11] [AI.inBlock 0,AI.code (.seq (.ops [⟨some 2,none,.mov (.bool false)⟩] false) .ret)]
     [(1,.iv (.ptr [.map (Y4 (fun t=>.sl 1 (txE t)) p.rows),ZF p.ends,.map (Y4 (fun n=>.int .i64 n) p.exact),ZF p.bad])),(11,.oref 11)] [(11,.miter (Y4 (fun t=>.sl 1 (txE t)) p.rows) seen)]:=by
   refine Qgr (fun _=>[(1,AV.iv (.ptr [.map (Y4 (fun t=>.sl 1 (txE t)) p.rows),ZF p.ends,.map (Y4 (fun n=>.int .i64 n) p.exact),ZF p.bad])),(11,.oref 11)]) (fun seen=>[(11,AO.miter (Y4 (fun t=>.sl 1 (txE t)) p.rows) seen)]) p.rows.length (fun seen=>∀ i∈seen,∀ q,p.rows[i]?=some q->Yn p.ends q=false) ?_
   intro seen hI ih;rw[Qa Go.Pf.c29_b0.eq_1];have hlen:(Y4 (fun t=>IV.sl 1 (txE t)) p.rows).length=p.rows.length:=by simp[Y4]
   simp[hlen,Qjy];refine ⟨fun hall=>?_,fun i a b n ts hq ha hb hns=>?_⟩
   ·have:p.rows.any (Yn p.ends)=false:=by
     rw[QCu];intro q hq;obtain ⟨i,hi⟩:=QBt hq;rw[hI i (hall i (QA2.1 hi).1) q hi];simp
    rw[<- hC];simp[Ym,h1,this]
   ·subst ha hb
    have hil:=(QA2.1 hq).1;have htl:(txE ts).length=ts.length:=by simp[txE]
    have hmem:(n,ts)∈p.rows:=QBd hq
    have hbad:Yn p.ends (n,ts)=true->C=true:=by
     intro hb;rw[<- hC];simp only[Ym,QB0,QCh];exact .inr ⟨_,hmem,hb⟩
    have hgood:Yn p.ends (n,ts)=false->QK Tryz.prog K (FnF (QW [ZG.tmp 2] (.bool C))) c29_b0 [1,11] [11] [AI.inBlock 0,AI.code (.seq (.ops [⟨some 2,none,.mov (.bool false)⟩] false) .ret)]
     [(1,.iv (.ptr [.map (Y4 (fun t=>.sl 1 (txE t)) p.rows),ZF p.ends,.map (Y4 (fun n=>.int .i64 n) p.exact),ZF p.bad])),(11,.oref 11)] [(11,.miter (Y4 (fun t=>.sl 1 (txE t)) p.rows) (i::seen))]:=by
     intro hg;refine ih i hil hns fun j hj q hjq=>?_
     rcases QBh.1 hj with rfl | hj
     ·rw[hq] at hjq
      injection hjq with hjq
      rw[<- hjq];exact hg
     ·exact hI j hj q hjq
    generalize hends:p.ends=ends at *;simp[hq,htl];intro _
    match ends,h1 with
    | [],_ =>
      by_cases ht:1<ts.length
      ·have hti:(1:Int)<(ts.length:Int):=by omega
       have:=hbad (by simp[Yn,ht])
       simp[hti,this]
       try (repeat' (first | omega | assumption | intro _ | apply And.intro))
      ·have hti:¬ (1:Int)<(ts.length:Int):=by omega
       have:=hgood (by simp[Yn,ht])
       simp[hti] at this |-
       repeat' (first | omega | assumption | intro _ | apply And.intro)
    | [e],_ =>
      by_cases ht:1<ts.length
      ·have hti:(1:Int)<(ts.length:Int):=by omega
       have:=hbad (by simp[Yn,ht])
       simp[hti,this]
       try (repeat' (first | omega | assumption | intro _ | apply And.intro))
      ·have hti:¬ (1:Int)<(ts.length:Int):=by omega
       by_cases hen:e<=n
       ·have:=hbad (by simp[Yn,hen])
        simp[hti,hen,this]
        try (repeat' (first | omega | assumption | intro _ | apply And.intro))
       ·have:=hgood (by simp[Yn,ht,hen])
        simp[hti,hen] at this |-
        repeat' (first | omega | assumption | intro _ | apply And.intro)
    | _::_::_,h=>simp at h
  have:=key [] (by simp)
  simp at this |-;exact this
theorem QrD (p:Pg) (n:Nat) (hn:n<=100000):Ev.Good Tryz.prog K 30 [pgV p,.int .i64 (n:Nat)] (ZF (Xt p (n:Nat))):=by
 refine Qb hK c30_ok (by simp) ?_
 simp[pgV]
 refine QX (fun i=>[(2,AV.iv (.ptr [.map (Y4 (fun t=>.sl 1 (txE t)) p.rows),ZF p.ends,.map (Y4 (fun n=>.int .i64 n) p.exact),ZF p.bad])),(5,.aref 5 (Xt p (i:Nat)).length),(7,.iv (.int .i64 (n:Nat))),(8,.iv (.int .i64 (i:Nat)))])
  (fun i=>[(5,AO.arr 3 1 (emb (inE (Xt p (i:Nat)))) 0)]) n ?_ ?_
 ·rw[Qa Go.Pf.c30_b0.eq_1]
  have l:(inE (Xt p (n:Nat))).length=(Xt p (n:Nat)).length:=by simp[inE]
  simp[l];simp[inE]
 ·intro i hi ih
  rw[Qa Go.Pf.c30_b0.eq_1];have hs:=Qe8 p i;have hl:=Qbi p i;have l:(inE (Xt p (i:Nat))).length=(Xt p (i:Nat)).length:=by simp[inE]
  rw[hs] at ih;have hks:=ZN (fun t=>IV.sl 1 (txE t)) p.rows
  have hf:=Xp (fun t=>IV.sl 1 (txE t)) (i:Int) p.rows
  generalize hold:(QI (i:Int) p.rows).getD []=old at *
  have hf':(Qh (.int .i64 (i:Int)) (Y4 (fun t=>IV.sl 1 (txE t)) p.rows)).getD (.sl 1 [])=.sl 1 (txE old):=by
   rw[hf,<- hold];cases QI (i:Int) p.rows<;>rfl
  generalize Xt p (i:Nat)=L at *;have htl:(txE old).length=old.length:=by simp[txE]
  have hin:(i:Int)<(n:Int):=by omega
  by_cases h0:old.length=0
  ·have l3:inE (L++[(i:Int)])=inE L++[[.int .i64 (i:Nat)]]:=by simp[inE]
   rw[if_pos h0,l3] at ih;have he:=QA5 h0;have ht0:txE old=[]:=by rw[he];rfl
   simp[hin,hks,hf',ht0,l] at ih |-
   repeat' (first | omega | assumption | intro _ | apply And.intro)
  ·have hne:old≠[]:=fun e=>h0 (by rw[e];rfl)
   rw[if_neg h0] at ih;simp[hin,hks,hf',htl,hne] at ih |-
   repeat' (first | omega | assumption | intro _ | apply And.intro)
end Go.Bk
set_option maxRecDepth 8000
namespace Go.Bk
open Go Go.Ev Go.Proofs Go.RowKit
variable {K:World->Prop} (hK:∀ w w',K w->Below w.heap.size w w'->K w')
open Go.Pf (c11_ok)
def XG (p:Pg) (i:Nat):List W:=(List.range i).map fun n:Nat=>((QI (n:Int) p.rows).getD []).headD []
def Vp (p:Pg) (i:Nat):List Int:=((List.range i).filter fun n:Nat=>(QI (n:Int) p.exact).getD 0==0).map fun n:Nat=>(n:Int)
def QiP (p:Pg):List W × List Int × Int :=
 if Ym p then ([],[],141) else
 match p.ends with
 | []=>([],[],142)
 | e::_=>if 0<(Xt p e).length then ([],[],142) else (XG p e.toNat,Vp p e.toNat,0)
def Qe4 (b:W):List W × List Int × Int:=match cutL b with
 | none=>([],[],140)
 | some ls=>QiP (Jc ls ls.length)
@[simp] def QtI (r:List W × List Int × Int):IV:=.tup [strs r.1,ZF r.2.1,.int .i64 r.2.2]
theorem Qe6 (p:Pg) (i:Nat):Vp p (i+1)=Vp p i++if (QI (i:Int) p.exact).getD 0=0 then [(i:Int)] else []:=by
 simp only[Vp,QBD,QCj,QBE]
 congr 1
 by_cases h:(QI (i:Int) p.exact).getD 0=0<;>simp[h]
theorem Qco (p:Pg) (i:Nat):XG p (i+1)=XG p i++[((QI (i:Int) p.rows).getD []).headD []]:=by
 simp only[XG,QBD,QBE,QBf,List.map_nil]
theorem QeR (p:Pg) (i:Nat):(XG p i).length=i:=by simp[XG]
theorem Qgn (p:Pg) (i:Nat):(Vp p i).length<=i:=by
 simp only[Vp,QBb];have:=QCa (fun n:Nat=>(QI (n:Int) p.exact).getD 0==0) (List.range i)
 simpa using this
theorem Qgq {p:Pg} {n:Nat} (h:(Xt p (n:Nat)).length=0):∀ i,i<n->(QI (i:Int) p.rows).getD []≠[]:=by
 intro i hi he;have h0:=QA5 h;simp only[Xt,QBW,List.map_eq_nil_iff,List.filter_eq_nil_iff] at h0;have:=h0 i (QBF.2 hi);simp[he] at this
theorem Qgf (ls:List W):∀ i,∀ e∈(Jc ls i).ends,0<=e/\e<=40
 | 0=>by simp[Jc]
 | i+1=>by
   have ih:=Qgf ls i;simp only[Jc,JF];split
   ·exact ih
   ·rename_i r hr
    split
    ·intro e he
     simp only[ZV] at he;split at he
     ·exact ih e he
     ·rcases QA7.1 he with he | he
      ·exact ih e he
      ·simp at he
       subst he;have:=Qba (Qeo (W0 hr)).1;exact ⟨this.1,this.2.1⟩
    ·exact ih
include hK
def Qz0 (a:Int) (l:List Int):Int:=l.foldl (fun m x=>if m<x then x else m) a
theorem good11 (hS:∀ s:W,s.length<=1000000->Ev.Good Tryz.prog K 49 [.str s,.str [10]] (strs (spl s))) (b:W) (hb:b.length<=100000) (hl:∀ ls,cutL b=some ls->ls.length<=100000/\∀ l∈ls,l.length<=10000) :
  Ev.Good Tryz.prog K 11 [.str b] (QtI (Qe4 b)):=by
 refine Qb hK c11_ok (by simp) ?_
 have g44:=QrF hK hS b hb hl;unfold Qe4;cases hcut:cutL b with
 | none =>
   rw[hcut] at g44;simp[QtW] at g44 |-;refine Qd g44 (by simp) ?_
   simp
 | some ls =>
   rw[hcut] at g44;simp only at g44 |-;have hends:=Qgf ls ls.length;generalize Jc ls ls.length=p at *;have g45:=QrE hK p;have g46:∀ (n:Nat),n<=100000->_:=fun n hn=>QrD hK p n hn
   unfold QiP;have hdef:Pg.ends p=p.ends:=rfl;cases he:p.ends with
   | nil =>
     simp[pgV,he] at g44 g45 |-;refine Qd g44 (by simp) ?_
     simp;refine Qd g45 (by simp) ?_
     by_cases hc:Ym p=true
     ·simp[hc]
     ·have hc':Ym p=false:=by simpa using hc
      simp[hc']
   | cons e es =>
     obtain ⟨e0,e1⟩:=hends e (by rw[he];exact List.mem_cons_self)
     obtain ⟨n,rfl⟩:∃ n:Nat,e=n:=⟨e.toNat,by omega⟩
     have g46:=g46 n (by omega)
     simp[pgV,he] at g44 g45 g46 |-;refine Qd g44 (by simp) ?_
     simp;refine Qd g45 (by simp) ?_
     by_cases hc:Ym p=true
     ·simp[hc]
     ·have hc':Ym p=false:=by simpa using hc
      have hze:¬ ((es.length:Int)+1=0):=by omega
      simp[hc',hze];intro hel;refine Qd g46 (.inl rfl) ?_;have hll:=Qbi p n;by_cases h0:(Xt p (n:Nat)).length=0
      ·have hll0:=Qgq h0
       have h0':=QA5 h0;simp[h0']
       refine QX (fun i=>[(2,AV.aref 2 (XG p i).length),(3,.aref 3 (Vp p i).length),(5,.loc 5 0),(37,.iv (.int .i64 (n:Nat))),(38,.iv (.int .i64 (i:Nat)))])
        (fun i=>[(2,AO.arr 9 1 (emb (txE (XG p i))) 0),(3,.arr 3 1 (emb (inE (Vp p i))) 0),(5,.box [.iv (.map (Y4 (fun t=>.sl 1 (txE t)) p.rows)),.iv (ZF ((n:Int)::es)),.iv (.map (Y4 (fun n=>.int .i64 n) p.exact)),.iv (ZF p.bad)])]) n ?_ ?_
       ·rw[Qa Go.Pf.c11_b0.eq_1]
        have l1:(txE (XG p n)).length=(XG p n).length:=by simp[txE]
        have l2:(inE (Vp p n)).length=(Vp p n).length:=by simp[inE]
        simp[l1,l2];simp[txE,inE]
       ·intro i hi ih
        rw[Qa Go.Pf.c11_b0.eq_1];have hni:=hll0 i hi;have hin:(i:Int)<(n:Int):=by omega
        have hks:=ZN (fun t=>IV.sl 1 (txE t)) p.rows
        have hf:=Xp (fun t=>IV.sl 1 (txE t)) (i:Int) p.rows
        have hks2:=ZN (fun n=>IV.int .i64 n) p.exact
        have hf2:=Xp (fun n=>IV.int .i64 n) (i:Int) p.exact
        rw[Qco,Qe6] at ih;have hml:=Qgn p i;have htl:=QeR p i;generalize hold:(QI (i:Int) p.rows).getD []=old at *
        have hf':(Qh (.int .i64 (i:Int)) (Y4 (fun t=>IV.sl 1 (txE t)) p.rows)).getD (.sl 1 [])=.sl 1 (txE old):=by
         rw[hf,<- hold];cases QI (i:Int) p.rows<;>rfl
        generalize hcnt:(QI (i:Int) p.exact).getD 0=cnt at *
        have hf2':(Qh (.int .i64 (i:Int)) (Y4 (fun n=>IV.int .i64 n) p.exact)).getD (.int .i64 0)=.int .i64 cnt:=by
         rw[hf2,<- hcnt];cases QI (i:Int) p.exact<;>rfl
        generalize XG p i=T at *;generalize Vp p i=M at *;have l1:(txE T).length=T.length:=by simp[txE]
        have l2:(inE M).length=M.length:=by simp[inE]
        obtain ⟨o,os,rfl⟩:∃ o os,old=o::os:=by
         cases old with
         | nil=>exact absurd rfl hni
         | cons o os=>exact ⟨o,os,rfl⟩
        have l3:txE (T++[o])=txE T++[[.str o]]:=by simp[txE]
        have hto:txE (o::os)=[.str o]::txE os:=rfl;by_cases hz:cnt=0
        ·have l4:inE (M++[(i:Int)])=inE M++[[.int .i64 (i:Nat)]]:=by simp[inE]
         rw[if_pos hz] at ih;simp[l3,l4] at ih;simp[hin,hks,hks2,hf',hf2',hto,hz,l1,l2] at ih |-
         repeat' (first | omega | assumption | intro _ | apply And.intro)
        ·rw[if_neg hz] at ih
         simp[l3] at ih;simp[hin,hks,hks2,hf',hf2',hto,hz,l1,l2] at ih |-
         repeat' (first | omega | assumption | intro _ | apply And.intro)
      ·have h0':¬ Xt p (n:Nat)=[]:=fun e=>h0 (by rw[e];rfl)
       have h0p:0<(Xt p (n:Nat)).length:=by omega
       simp[h0',h0p]
def Qt4 (p:Pg):List Int × Int:=match p.ends with
 | []=>([],142)
 | e::es=>(Xt p (Qz0 e es),0)
def Qz5 (b:W):List Int × Int:=match cutL b with
 | none=>([],140)
 | some ls=>Qt4 (Jc ls ls.length)
def QgA (a b:W):List W × Int:=if (cutL a).isSome&&(cutL b).isSome then ((Qe4 (a++b)).1,(Qe4 (a++b)).2.2) else ([],140)
end Go.Bk
set_option maxRecDepth 8000
namespace Go.Bk
open Go Go.Ev Go.Proofs Go.RowKit
def rd (l:W):Option (Int × W × Bool):=(Xs l).map fun r=>(Qf r).1
def ex (l:W):Bool:=match Xs l with
 | some r=>decide (Qt r=l)
 | none=>false
theorem UV {α:Type} [BEq α] [LawfulBEq α] {l:List α} {x y:α}:y∈ZV l x↔y∈l\/y=x:=by
 unfold ZV;split
 ·rename_i h
  simp only[QCh,beq_iff_eq] at h;obtain ⟨z,hz,rfl⟩:=h;exact ⟨.inl,fun h=>h.elim id fun e=>e▸hz⟩
 ·simp
theorem Up {α:Type} [BEq α] [LawfulBEq α] {l:List α} {x:α} (h:l.Nodup):(ZV l x).Nodup:=by
 unfold ZV;split
 ·exact h
 ·rename_i hx
  rw[List.nodup_append];refine ⟨h,by simp,?_⟩
  intro a ha b hb e;simp at hb;subst hb e;apply hx;simp only[QCh,beq_iff_eq];exact ⟨_,ha,rfl⟩
theorem Qiu {α:Type} [BEq α] [LawfulBEq α] (l:List α) (x:α):ZV l x≠[]:=fun e=>by
 have:x∈ZV l x:=UV.2 (.inr rfl);rw[e] at this;cases this
theorem Qb3 {β:Type} (k:Int) (v:β):∀ l:List (Int × β),(QaA k v l).map (·.1)=if k∈l.map (·.1) then l.map (·.1) else l.map (·.1)++[k]
 | []=>by simp[QaA]
 | p::r=>by
   have ih:=Qb3 k v r;simp only[QaA];by_cases h:p.1=k
   ·simp[h]
   ·rw[if_neg h]
    simp only[QBf,ih,QBh,Ne.symm h,false_or];split<;>simp
theorem Qea {β:Type} {k:Int} {v:β}:∀ {l:List (Int × β)} {q:Int × β},q∈QaA k v l->q=(k,v)\/q∈l
 | [],q,h=>by simpa[QaA] using h
 | p::r,q,h=>by
   simp only[QaA] at h;split at h
   ·rcases QBh.1 h with h | h
    ·exact .inl h
    ·exact .inr (QBO _ h)
   ·rcases QBh.1 h with h | h
    ·exact .inr (by rw[h];exact List.mem_cons_self)
    ·rcases Qea h with h | h
     ·exact .inl h
     ·exact .inr (QBO _ h)
theorem Qb4 {β:Type}:∀ {l:List (Int × β)} {q:Int × β},(l.map (·.1)).Nodup->q∈l->QI q.1 l=some q.2
 | p::r,q,hn,h=>by
   simp only[QBf,QCz] at hn;simp only[QI];rcases QBh.1 h with h | h
   ·subst h;rw[if_pos rfl]
   ·rw[if_neg,Qb4 hn.2 h]
    intro e;apply hn.1;rw[e];exact List.mem_map_of_mem h
structure WB (p:Pg) (L:List W):Prop where
 ends:∀ e,e∈p.ends↔∃ l∈L,∃ t,rd l=some (e,t,true)
 endsN:p.ends.Nodup
 rows:∀ k t,t∈(QI k p.rows).getD []↔∃ l∈L,rd l=some (k,t,false)
 rowsN:∀ k,((QI k p.rows).getD []).Nodup
 keysN:(p.rows.map (·.1)).Nodup
 full:∀ q∈p.rows,q.2≠[]
 pos:∀ k,0<=(QI k p.exact).getD 0
 exact:∀ k,(QI k p.exact).getD 0=0↔∀ l∈L,∀ t,rd l=some (k,t,false)->ex l=false
 bad:p.bad=((List.range L.length).filter fun j:Nat=>(rd (L.getD j [])).isNone).map fun j:Nat=>(j:Int)
theorem QmB:WB ⟨[],[],[],[]⟩ []:=⟨by simp,by simp,by simp[QI],by simp[QI],by simp,by simp,by simp[QI],by simp[QI],by simp⟩
theorem QkD (L:List W) (l:W):(((List.range (L++[l]).length).filter fun j:Nat=>(rd ((L++[l]).getD j [])).isNone).map fun j:Nat=>(j:Int)) =
  (((List.range L.length).filter fun j:Nat=>(rd (L.getD j [])).isNone).map fun j:Nat=>(j:Int))++if (rd l).isNone then [(L.length:Int)] else []:=by
 rw[QBa,QB9,QBD,QCj,QBE]
 congr 1
 ·congr 1
  apply List.filter_congr;intro j hj;rw[QBF] at hj;simp[QBg hj]
 ·cases h:(rd l).isNone<;>simp[h]
theorem Qjb {p:Pg} {L:List W} (l:W) (h:WB p L):WB (JF p L.length l) (L++[l]):=by
 have hb:=QkD L l;unfold JF;cases hR:Xs l with
 | none =>
   have hr:rd l=none:=by simp[rd,hR]
   refine ⟨fun e=>?_,h.endsN,fun k t=>?_,h.rowsN,h.keysN,h.full,h.pos,fun k=>?_,?_⟩
   ·simp only[h.ends,QA7,QBk]
    constructor
    ·rintro ⟨l',hl,t,ht⟩;exact ⟨l',.inl hl,t,ht⟩
    ·rintro ⟨l',hl | rfl,t,ht⟩
     ·exact ⟨l',hl,t,ht⟩
     ·rw[hr] at ht;cases ht
   ·simp only[h.rows,QA7,QBk]
    constructor
    ·rintro ⟨l',hl,ht⟩;exact ⟨l',.inl hl,ht⟩
    ·rintro ⟨l',hl | rfl,ht⟩
     ·exact ⟨l',hl,ht⟩
     ·rw[hr] at ht;cases ht
   ·simp only[h.exact,QA7,QBk]
    constructor
    ·rintro hq l' (hl | rfl) t ht
     ·exact hq l' hl t ht
     ·rw[hr] at ht;cases ht
    ·intro hq l' hl;exact hq l' (.inl hl)
   ·rw[hb,h.bad,hr];simp
 | some r =>
   have hr:rd l=some (Qf r).1:=by simp[rd,hR]
   have he:ex l=decide (Qt r=l):=by simp[ex,hR]
   have hbb:p.bad=((List.range (L++[l]).length).filter fun j:Nat=>(rd ((L++[l]).getD j [])).isNone).map fun j:Nat=>(j:Int):=by rw[hb,h.bad,hr];simp
   dsimp only
   generalize (Qf r).1=x at *;obtain ⟨k0,t0,c⟩:=x;cases c with
   | true =>
     simp only[if_true];refine ⟨fun e=>?_,Up h.endsN,fun k t=>?_,h.rowsN,h.keysN,h.full,h.pos,fun k=>?_,hbb⟩
     ·simp only[UV,h.ends,QA7,QBk]
      constructor
      ·rintro (⟨l',hl,t,ht⟩ | rfl)
       ·exact ⟨l',.inl hl,t,ht⟩
       ·exact ⟨l,.inr rfl,t0,hr⟩
      ·rintro ⟨l',hl | rfl,t,ht⟩
       ·exact .inl ⟨l',hl,t,ht⟩
       ·rw[hr] at ht
        injection ht with ht
        injection ht with ht
        exact .inr ht.symm
     ·simp only[h.rows,QA7,QBk]
      constructor
      ·rintro ⟨l',hl,ht⟩;exact ⟨l',.inl hl,ht⟩
      ·rintro ⟨l',hl | rfl,ht⟩
       ·exact ⟨l',hl,ht⟩
       ·rw[hr] at ht;simp at ht
     ·simp only[h.exact,QA7,QBk]
      constructor
      ·rintro hq l' (hl | rfl) t ht
       ·exact hq l' hl t ht
       ·rw[hr] at ht;simp at ht
      ·intro hq l' hl;exact hq l' (.inl hl)
   | false =>
     simp only[QBi,if_false];refine ⟨fun e=>?_,h.endsN,fun k t=>?_,fun k=>?_,?_,?_,fun k=>?_,fun k=>?_,hbb⟩
     ·simp only[h.ends,QA7,QBk]
      constructor
      ·rintro ⟨l',hl,t,ht⟩;exact ⟨l',.inl hl,t,ht⟩
      ·rintro ⟨l',hl | rfl,t,ht⟩
       ·exact ⟨l',hl,t,ht⟩
       ·rw[hr] at ht;simp at ht
     ·simp only[Zt]
      by_cases hk:k=k0
      ·subst hk
       simp only[if_true,QBw,UV,h.rows,QA7,QBk];constructor
       ·rintro (⟨l',hl,ht⟩ | rfl)
        ·exact ⟨l',.inl hl,ht⟩
        ·exact ⟨l,.inr rfl,hr⟩
       ·rintro ⟨l',hl | rfl,ht⟩
        ·exact .inl ⟨l',hl,ht⟩
        ·rw[hr] at ht
         injection ht with ht
         injection ht with _ ht
         injection ht with ht _
         exact .inr ht.symm
      ·simp only[if_neg hk,h.rows,QA7,QBk]
       constructor
       ·rintro ⟨l',hl,ht⟩;exact ⟨l',.inl hl,ht⟩
       ·rintro ⟨l',hl | rfl,ht⟩
        ·exact ⟨l',hl,ht⟩
        ·rw[hr] at ht
         injection ht with ht
         injection ht with ht _
         exact absurd ht.symm hk
     ·simp only[Zt]
      split
      ·simp only[QBw];exact Up (h.rowsN _)
      ·exact h.rowsN _
     ·rw[Qb3]
      split
      ·exact h.keysN
      ·rename_i hx
       rw[List.nodup_append];refine ⟨h.keysN,by simp,?_⟩
       intro a ha b hb e;simp at hb;subst hb e;exact hx ha
     ·intro q hq
      rcases Qea hq with rfl | hq
      ·exact Qiu _ _
      ·exact h.full q hq
     ·have:=h.pos k
      have:=h.pos k0;split
      ·rw[Zt]
       split
       ·simp only[QBw];omega
       ·omega
      ·omega
     ·by_cases hx:Qt r=l
      ·rw[if_pos hx,Zt]
       have hel:ex l=true:=by rw[he];simp[hx]
       by_cases hk:k=k0
       ·subst hk
        have:=h.pos k;simp only[if_true,QBw];constructor
        ·intro hz;omega
        ·intro hq
         have:=hq l (by simp) t0 hr
         rw[hel] at this;cases this
       ·simp only[if_neg hk,h.exact,QA7,QBk]
        constructor
        ·rintro hq l' (hl | rfl) t ht
         ·exact hq l' hl t ht
         ·rw[hr] at ht
          injection ht with ht
          injection ht with ht _
          exact absurd ht.symm hk
        ·intro hq l' hl;exact hq l' (.inl hl)
      ·rw[if_neg hx]
       have hel:ex l=false:=by rw[he];simp[hx]
       simp only[h.exact,QA7,QBk];constructor
       ·rintro hq l' (hl | rfl) t ht
        ·exact hq l' hl t ht
        ·exact hel
       ·intro hq l' hl;exact hq l' (.inl hl)
theorem Qlk (ls:List W):∀ i,i<=ls.length->WB (Jc ls i) (ls.take i)
 | 0,_=>QmB
 | i+1,h=>by
   have hi:i<ls.length:=h;have:=Qjb ls[i] (Qlk ls i (by omega))
   rw[QBT,QBC (by omega)] at this
   rw[QA3 hi];have e:Jc ls (i+1)=JF (Jc ls i) i ls[i]:=by simp[Jc,hi]
   rw[e];exact this
theorem Qq0 (ls:List W):WB (Jc ls ls.length) ls:=by
 have:=Qlk ls ls.length (QA8 _)
 rwa [QBo] at this
theorem Qll {α:Type} {l:List α} {a:α} (hn:l.Nodup) (h:∀ x,x∈l↔x=a):l=[a]:=by
 match l,hn with
 | [],_=>exact absurd ((h a).2 rfl) (by simp)
 | [x],_=>rw[(h x).1 (by simp)]
 | x::y::r,hn =>
   have h1:=(h x).1 (by simp)
   have h2:=(h y).1 (by simp)
   subst h1;rw[h2] at hn;simp at hn
def XA (ls:List W) (T:List W) (i:Nat):Bool:=ls.any fun l=>decide (rd l=some ((i:Int),T.getD i [],false))
def Qa4 (ls:List W) (T:List W) (i:Nat):Bool:=ls.any fun l=>decide (rd l=some ((i:Int),T.getD i [],false))&&ex l
structure V2 (ls:List W) (T:List W):Prop where
 each:∀ l∈ls,∀ x,rd l=some x->x=((T.length:Int),[],true)\/∃ (i:Nat) (t:W),T[i]?=some t/\x=((i:Int),t,false)
 close:∃ l∈ls,rd l=some ((T.length:Int),[],true)
theorem QbZ {p:Pg} {ls T:List W} (h:WB p ls) (hb:V2 ls T):p.ends=[(T.length:Int)]:=by
 refine Qll h.endsN fun e=>?_
 rw[h.ends];constructor
 ·rintro ⟨l,hl,t,ht⟩
  rcases hb.each l hl _ ht with h | ⟨i,t,_,h⟩
  ·injection h with h _
  ·injection h with _ h
   injection h with _ h
   cases h
 ·rintro rfl
  obtain ⟨l,hl,ht⟩:=hb.close;exact ⟨l,hl,_,ht⟩
theorem Qau {p:Pg} {ls T:List W} (h:WB p ls) (hb:V2 ls T) (i:Nat) (hi:i<T.length):(QI (i:Int) p.rows).getD []=if XA ls T i then [T[i]] else []:=by
 have hg:T.getD i []=T[i]:=by simp[hi]
 have hm:∀ t,t∈(QI (i:Int) p.rows).getD []->t=T[i]/\XA ls T i=true:=by
  intro t ht;rw[h.rows] at ht;obtain ⟨l,hl,ht⟩:=ht;rcases hb.each l hl _ ht with h | ⟨j,u,hj,h⟩
  ·injection h with _ h
   injection h with _ h
   cases h
  ·injection h with h1 h
   injection h with h2 _
   have:i=j:=by omega
   subst this;rw[QA0 hi] at hj;injection hj with hj
   refine ⟨by rw[h2,hj],?_⟩
   simp only[XA,QCh,decide_eq_true_eq];exact ⟨l,hl,by rw[ht,hg,h2,hj]⟩
 split
 ·rename_i hf
  refine Qll (h.rowsN _) fun t=>⟨fun ht=>(hm t ht).1,?_⟩
  rintro rfl
  rw[h.rows];simp only[XA,QCh,decide_eq_true_eq] at hf;obtain ⟨l,hl,ht⟩:=hf;exact ⟨l,hl,by rw[ht,hg]⟩
 ·rename_i hf
  cases hl:(QI (i:Int) p.rows).getD [] with
  | nil=>rfl
  | cons a r=>exact absurd (hm a (by rw[hl];simp)).2 hf
theorem QfA {p:Pg} {ls T:List W} (h:WB p ls) (hb:V2 ls T):Ym p=false:=by
 have he:=QbZ h hb;unfold Ym;rw[he];simp only[QB9,Nat.lt_irrefl,decide_false,Bool.false_or];rw[QCu];intro q hq;have hf:=Qb4 h.keysN hq;have hne:=h.full q hq
 obtain ⟨t,ht⟩:∃ t,t∈q.2:=by
  cases hq2:q.2 with
  | nil=>exact absurd hq2 hne
  | cons a r=>exact ⟨a,by simp⟩
 have ht':t∈(QI q.1 p.rows).getD []:=by rw[hf];exact ht
 obtain ⟨l,hl,hx⟩:=(h.rows _ _).1 ht';rcases hb.each l hl _ hx with h' | ⟨j,u,hj,h'⟩
 ·injection h' with _ h'
  injection h' with _ h'
  cases h'
 ·injection h' with h1 _
  have hjl:=(QA2.1 hj).1;have hr:=Qau h hb j hjl;rw[<- h1,hf] at hr;simp only[QBw] at hr;simp only[Yn,hr];split
  ·simp;omega
  ·simp;omega
theorem Qh0 {p:Pg} {ls T:List W} (h:WB p ls) (hb:V2 ls T):Xt p (T.length:Nat)=((List.range T.length).filter fun i=>!XA ls T i).map fun i:Nat=>(i:Int):=by
 unfold Xt;rw[QBW]
 congr 1
 apply List.filter_congr;intro i hi;rw[QBF] at hi;rw[Qau h hb i hi];cases XA ls T i<;>simp
theorem Qfz {p:Pg} {ls T:List W} (h:WB p ls) (hb:V2 ls T) (hf:∀ i,i<T.length->XA ls T i=true):XG p T.length=T:=by
 unfold XG;apply QCt;intro i;by_cases hi:i<T.length
 ·rw[QA9,List.getElem?_range hi,QA0 hi]
  simp only[QB3];rw[Qau h hb i hi,hf i hi];simp
 ·rw[QCo (by simp;omega),QCo (by omega)]
theorem QhZ {p:Pg} {ls T:List W} (h:WB p ls) (hb:V2 ls T):Vp p T.length=((List.range T.length).filter fun i=>!Qa4 ls T i).map fun i:Nat=>(i:Int):=by
 unfold Vp
 congr 1
 apply List.filter_congr;intro i hi;rw[QBF] at hi;have hx:=h.exact (i:Int)
 have e:Qa4 ls T i=false↔(QI (i:Int) p.exact).getD 0=0:=by
  rw[hx];simp only[Qa4,QCu,QA1,decide_eq_true_eq,not_and,Bool.not_eq_true];constructor
  ·intro hq l hl t ht
   rcases hb.each l hl _ ht with h' | ⟨j,u,hj,h'⟩
   ·injection h' with _ h'
    injection h' with _ h'
    cases h'
   ·injection h' with h1 h'
    injection h' with h2 _
    have:i=j:=by omega
    subst this;rw[QA0 hi] at hj;injection hj with hj
    exact hq l hl (by rw[ht,h2,<- hj];simp[hi])
  ·intro hq l hl ht
   exact hq l hl _ ht
 cases hr:Qa4 ls T i with
 | false=>simp[e.1 hr]
 | true =>
   have:¬ (QI (i:Int) p.exact).getD 0=0:=fun c=>by rw[e.2 c] at hr;cases hr
   simp[this]
theorem Qf6 {ls T:List W} (hb:V2 ls T):QiP (Jc ls ls.length)=if (List.range T.length).all (XA ls T) then (T,((List.range T.length).filter fun i=>!Qa4 ls T i).map fun i:Nat=>(i:Int),0) else ([],[],142):=by
 have h:=Qq0 ls;unfold QiP;rw[QfA h hb];have he:=QbZ h hb;have hl:=Qh0 h hb;have hm:=QhZ h hb;simp only[QBi,if_false,he,hl,QBW,hm];by_cases ha:(List.range T.length).all (XA ls T)=true
 ·rw[if_pos ha]
  have hf:∀ i,i<T.length->XA ls T i=true:=by
   intro i hi;rw[QBs] at ha;exact ha i (QBF.2 hi)
  rw[Qfz h hb hf,if_neg];rw[QBb]
  have:(List.range T.length).filter (fun i=>!XA ls T i)=[]:=by
   rw[List.filter_eq_nil_iff];intro i hi;rw[QBF] at hi;simp[hf i hi]
  rw[this];simp
 ·rw[if_neg ha,if_pos]
  rw[QBb];rcases QCi ((List.range T.length).filter fun i=>!XA ls T i).length with h0 | h0
  ·exfalso
   apply ha;rw[QBs];intro i hi;have:=QA5 h0;rw[List.filter_eq_nil_iff] at this;have:=this i hi;simpa using this
  ·exact h0
end Go.Bk
set_option maxRecDepth 8000
namespace Go.Bk
open Go Go.Ev Go.Proofs Go.RowKit
variable {K:World->Prop} (hK:∀ w w',K w->Below w.heap.size w w'->K w')
open Go.Pf (c9_ok)
def lnT (T:List W) (i:Nat):W:=Qt (XY i (T.getD i []) false)++[10]
def wrT (T:List W):Nat->W
 | 0=>[]
 | i+1=>wrT T i++lnT T i
def wrB (T:List W):W:=wrT T T.length++(Qt (XY T.length [] true)++[10])
def wrA (T:List W) (i:Nat):W:=if i<=T.length then wrT T i else wrB T
theorem QdG (T:List W):wrA T (T.length+1)=wrB T:=by unfold wrA;rw[if_neg (by omega)]
def writeB (T:List W):W × Int:=if errT T=0 then (wrB T,0) else ([],errT T)
def QiM (T:List W) (i:Nat):List IV:=[.int .i64 (i:Nat),.str (T.getD i []),.bool false]
def Yv (T:List W):Nat->List (List IV)
 | 0=>[]
 | i+1=>Yv T i++[QiM T i]
theorem YW (T:List W):∀ i,(Yv T i).length=i
 | 0=>rfl
 | i+1=>by simp[Yv,YW T i]
theorem WZ (T:List W):∀ n i,i<n->(Yv T n)[i]?=some (QiM T i)
 | 0,i,h=>by omega
 | n+1,i,h=>by
   have hl:=YW T n;simp only[Yv];by_cases hi:i<n
   ·rw[QBg (by omega),WZ T n i hi]
   ·have:i=n:=by omega
    subst this;rw[QBe (by omega),hl]
    simp
theorem Qdh {T:List W} (h:errT T=0):T.length<=40/\∀ s∈T,tx s=true:=by
 unfold errT at h;split at h
 ·omega
 ·split at h
  ·rename_i h1 h2
   rw[QBs] at h2;exact ⟨by omega,h2⟩
  ·omega
theorem tx_len {s:W} (h:tx s=true):s.length<=60:=by
 simp only[tx,QA1,decide_eq_true_eq] at h;exact h.2
theorem Ur (n:Nat) (h:n<100):plain (two n):=by
 intro c hc;simp only[two,QBh,QBI,or_false] at hc;rcases hc with rfl | rfl<;>simp only[UInt8.toNat_ofNat']<;>omega
theorem Vj {n:Nat} {t:W} {c:Bool} (hn:n<100) (ht:tx t=true):plain (XY n t c)/\(XY n t c).length<=62:=by
 have h1:=Ur n hn;have h2:=Qqg ht;have h3:=tx_len ht;unfold XY;split
 ·refine ⟨fun c hc=>?_,by simp[two]⟩
  rcases QA7.1 hc with hc | hc
  ·simp at hc;subst hc;decide
  ·exact h1 c hc
 ·refine ⟨fun c hc=>?_,by simp[two];omega⟩
  rcases QA7.1 hc with hc | hc
  ·exact h1 c hc
  ·exact h2 c hc
theorem Qlz {T:List W} (h:∀ s∈T,tx s=true) (i:Nat):tx (T.getD i [])=true:=by
 by_cases hi:i<T.length
 ·simp only[List.getD_eq_getElem?_getD,QA0 hi,QBw]
  exact h _ (QBc hi)
 ·simp only[List.getD_eq_getElem?_getD,QCo (show T.length<=i by omega),Option.getD_none]
  decide
theorem Qmt {T:List W} (h:∀ s∈T,tx s=true) (i:Nat) (hi:i<100):(lnT T i).length<=67:=by
 have:=(Vj (c:=false) hi (Qlz h i)).2;simp only[lnT,QBa,Za,QB9];omega
theorem Qcg {T:List W} (h:∀ s∈T,tx s=true):∀ i,i<=100->(wrT T i).length<=67*i
 | 0,_=>by simp[wrT]
 | i+1,hi=>by
   have:=Qcg h i (by omega)
   have:=Qmt h i (by omega)
   simp only[wrT,QBa];omega
theorem wrB_len {T:List W} (h:∀ s∈T,tx s=true) (hl:T.length<=40):(wrB T).length<=2700+9:=by
 have:=Qcg h T.length (by omega)
 simp only[wrB,QBa,Za,XY,if_true,two,QBj,QCn];omega
include hK
theorem good9 (T:List W) (h:∀ s∈T,s.length<=1000000):Ev.Good Tryz.prog K 9 [strs T] (.tup [.str (writeB T).1,.int .i64 (writeB T).2]):=by
 refine Qb hK c9_ok (by simp) ?_
 have g38:=QrI hK T h;unfold writeB;by_cases h40:40<T.length
 ·have he:errT T=2:=by simp[errT,h40]
  have hi:(40:Int)<(T.length:Int):=by omega
  simp[he,hi]
 ·have hi:¬ (40:Int)<(T.length:Int):=by omega
  by_cases hall:T.all tx=true
  ·have he:errT T=0:=by simp[errT,h40,hall]
   obtain ⟨_,htx⟩:=Qdh he;rw[hall] at g38;simp[he,hi];intro _;refine Qd g38 (by simp) ?_
   simp;intro _
   refine QX (fun i=>[(0,AV.iv (strs T)),(4,.aref 15 (Yv T i).length),(16,.iv (strs T)),(17,.iv (.int .i64 (T.length:Nat))),(18,.iv (.int .i64 (i:Nat)))])
    (fun i=>[(15,AO.arr 78 3 (emb (Yv T i)) 0)]) T.length ?_ ?_
   ·rw[Qa Go.Pf.c9_b0.eq_1]
    have l1:=YW T T.length;simp[l1];refine fun _=>⟨⟨by omega,by omega⟩,fun _=>?_⟩
    refine QX (fun i=>[(7,AV.iv (.str (wrA T i))),(35,.aref 15 (T.length+1)),(36,.iv (.int .i64 ((T.length:Int)+1))),(37,.iv (.int .i64 (i:Nat)))])
     (fun _=>[(15,AO.arr 78 3 (emb (Yv T T.length++[[IV.int IntKind.i64 (T.length:Nat),IV.str [],IV.bool true]])) 0)]) (T.length+1) ?_ ?_
    ·rw[Qa Go.Pf.c9_b1.eq_1]
     have e:wrA T (T.length+1)=wrB T:=QdG T;rw[e];simp
    ·intro i hi ih
     rw[Qa Go.Pf.c9_b1.eq_1];have hw:=Qcg htx i (by omega)
     have e:wrA T i=wrT T i:=by simp[wrA];omega
     have hin:(i:Int)<(T.length:Int)+1:=by omega
     by_cases hlt:i<T.length
     ·have hp:=Vj (c:=false) (n:=i) (t:=T[i]) (by omega) (htx _ (QBc hlt))
      have hti:=tx_len (htx _ (QBc hlt));have g41:=QgQ hK i T[i] false (by omega) hp.1 (by omega) (by omega)
      have hl:=Za (XY i T[i] false)
      have e1:wrA T (i+1)=wrT T i++(Qt (XY i T[i] false)++[10]):=by
       have:i+1<=T.length:=hlt;simp[wrA,this,wrT,lnT,hlt]
      have hget:(Yv T T.length++[[IV.int IntKind.i64 (T.length:Nat),IV.str [],IV.bool true]])[i]?=some [.int .i64 (i:Nat),.str T[i],.bool false]:=by
       rw[QBg (by omega),WZ T _ i hlt]
       simp[QiM,hlt]
      rw[e1] at ih;simp at g41;simp[hin,e,hget] at ih |-;refine ⟨by omega,Qd g41 (by simp) ?_⟩
      simp[hl]
      repeat' (first | omega | assumption | apply And.intro)
     ·have hin':i=T.length:=by omega
      subst hin';have hp:=Vj (c:=true) (n:=T.length) (t:=[]) (by omega) (by decide)
      have g41:=QgQ hK T.length [] true (by omega) hp.1 (by omega) (by simp)
      have hl:=Za (XY T.length [] true);have e1:wrA T (T.length+1)=wrT T T.length++(Qt (XY T.length [] true)++[10]):=QdG T;have e:wrA T T.length=wrT T T.length:=e
      have hget:(Yv T T.length++[[IV.int IntKind.i64 (T.length:Nat),IV.str [],IV.bool true]])[T.length]?=some [.int .i64 (T.length:Nat),.str [],.bool true]:=by
       rw[QBe (by omega),l1]
       simp
      rw[e1] at ih;simp at g41;simp[hin,e,hget] at ih |-;refine ⟨by omega,Qd g41 (by simp) ?_⟩
      simp[hl]
      repeat' (first | omega | assumption | apply And.intro)
   ·intro i hi ih
    rw[Qa Go.Pf.c9_b0.eq_1];have l1:=YW T i;simp[Yv,QiM,hi,l1] at ih;simp[hi,l1]
    repeat' (first | omega | assumption | apply And.intro)
  ·have hall':T.all tx=false:=by simpa using hall
   have he:errT T=1:=by simp[errT,h40,hall']
   rw[hall'] at g38;simp[he,hi];intro _;refine Qd g38 (by simp) ?_
   simp
end Go.Bk
set_option maxRecDepth 8000
namespace Go.Bk
open Go Go.Ev Go.Proofs Go.RowKit
variable {K:World->Prop} (hK:∀ w w',K w->Below w.heap.size w w'->K w')
abbrev Fd:=List (W × Int)
def fnd (ls:List W):Fd:=ls.filterMap fun l=>(Xs l).map fun r=>(r,if Qt r=l then 1 else 0)
@[simp] def rwV (F:Fd):IV:=.sl 1 (F.map fun x=>[.str x.1])
@[simp] def rtV (F:Fd):IV:=.sl 1 (F.map fun x=>[.int .i64 x.2])
@[simp] def fdV (F:Fd):IV:=.agg [rwV F,rtV F]
def rwE (F:Fd):List (List IV):=F.map fun x=>[.str x.1]
def rtE (F:Fd):List (List IV):=F.map fun x=>[.int .i64 x.2]
def cl (a b:W):Bool :=
 if (numOf a).2.2&&(numOf b).2.2 then decide ((numOf a).1=(numOf b).1)&&decide ((numOf a).2.1≠(numOf b).2.1)
 else if (numOf a).2.2 then decide ((Yk b).1<=(numOf a).1)
 else if (numOf b).2.2 then decide ((Yk a).1<=(numOf b).1)
 else decide (a≠b)
def gF (F:Fd) (i:Nat):W:=(F.getD i ([],0)).1
def Qr8 (F:Fd):Bool:=(List.range F.length).any fun i=>(List.range i).any fun k=>cl (gF F i) (gF F k)
def Qt2 (m:Int) (x:W × Int):Int:=if (Yk x.1).2 then (if m<(Yk x.1).1 then (Yk x.1).1 else m) else m
def QiY (F:Fd):Int:=F.foldl Qt2 (-1)
def Qqk (n:Int) (a:W × Bool × Bool) (x:W × Int):W × Bool × Bool :=
 if (numOf x.1).2.2&&decide ((numOf x.1).1=n) then ((numOf x.1).2.1,a.2.1||decide (x.2=1),true) else a
def Qiz (F:Fd) (n:Int):W × Bool × Bool:=F.foldl (Qqk n) ([],false,false)
@[simp] def QzO (a:W × Bool × Bool):IV:=.tup [.str a.1,.bool a.2.1,.bool a.2.2]
def Qql (F:Fd) (i:Nat):List W:=(List.range i).map fun n:Nat=>(Qiz F (n:Int)).1
def Qt1 (F:Fd) (i:Nat):List Int:=((List.range i).filter fun n:Nat=>!(Qiz F (n:Int)).2.1).map fun n:Nat=>(n:Int)
def QAA (F:Fd) (i:Nat):Bool:=(List.range i).all fun n:Nat=>(Qiz F (n:Int)).2.2
def Qz4 (F:Fd) (i:Nat):List Int:=((List.range i).filter fun n:Nat=>!(Qiz F (n:Int)).2.2).map fun n:Nat=>(n:Int)
def QtJ (F:Fd):List W × List Int × Int :=
 if Qr8 F then ([],[],141) else
 if QiY F<0 then ([],[],142) else
 if QAA F (QiY F).toNat then (Qql F (QiY F).toNat,Qt1 F (QiY F).toNat,0) else ([],[],142)
def QAU (ls:List W) (i:Nat):List Int:=((List.range i).filter fun j:Nat=>(rd (ls.getD j [])).isNone).map fun j:Nat=>(j:Int)
def rrB (b:W):List W × List Int × Int:=match cutL b with
 | none=>([],[],140)
 | some ls=>QtJ (fnd ls)
include hK
end Go.Bk
set_option maxRecDepth 8000
namespace Go.Bk
open Go Go.Ev Go.Proofs Go.RowKit
end Go.Bk
set_option maxRecDepth 8000
namespace Go.Bk
open Go Go.Ev Go.Proofs Go.RowKit
def jn:List W->W
 | []=>[]
 | l::r=>l++(10::jn r)
theorem Qec (a b:List W):jn (a++b)=jn a++jn b:=by
 induction a with
 | nil=>rfl
 | cons x a ih=>simp[jn,ih]
theorem Qrg (a:List W):(jn a).length=QaJ a:=by
 induction a with
 | nil=>rfl
 | cons x a ih =>
   simp only[jn,QBa,QBj,ih,QaJ,QBf,List.sum_cons];omega
theorem QgB (a:List W) (h:a≠[]):(jn a).getLast?=some 10:=by
 match a,h with
 | [x],_=>simp[jn]
 | x::y::r,_ =>
   have:=QgB (y::r) (by simp)
   have hn:jn (y::r)≠[]:=by simp[jn]
   simp only[jn] at this |-;rw[List.getLast?_append,List.getLast?_cons,this];rfl
theorem Qms (l:W) (h:(10:UInt8) ∉ l):∀ (A:List W) (r:W),l.foldl Q6 (A,r)=(A,r++l):=by
 induction l with
 | nil=>intro A r;simp
 | cons c l ih =>
   intro A r;have h1:c≠10:=fun e=>h (by simp[e])
   have h2:(10:UInt8) ∉ l:=fun e=>h (by simp[e])
   rw[QBu];have e:Q6 (A,r) c=(A,r++[c]):=by simp[Q6,h1]
   rw[e,ih h2];simp
theorem Qmw (ls:List W) (h:∀ l∈ls,(10:UInt8) ∉ l):∀ A:List W,(jn ls).foldl Q6 (A,[])=(A++ls,[]):=by
 induction ls with
 | nil=>intro A;simp[jn]
 | cons l ls ih =>
   intro A;have h1:=h l (by simp)
   simp only[jn,QCs,Qms l h1,QBu];have e:Q6 (A,[]++l) 10=(A++[l],[]):=by simp[Q6]
   rw[e,ih (fun l' hl=>h l' (by simp[hl]))]
   simp
theorem QlG (ls:List W) (hne:ls≠[]) (h:∀ l∈ls,(10:UInt8) ∉ l):cutL (jn ls)=some ls:=by
 unfold cutL;rw[if_pos (QgB ls hne)];have:=Qmw ls h [];unfold lns;rw[this];simp
theorem Qrb (s:W):jn (lns s).1++(lns s).2=s/\(10:UInt8) ∉ (lns s).2/\∀ l∈(lns s).1,(10:UInt8) ∉ l:=by
 have:∀ (n:Nat) (s:W),s.length=n->jn (lns s).1++(lns s).2=s/\(10:UInt8) ∉ (lns s).2/\∀ l∈(lns s).1,(10:UInt8) ∉ l:=by
  intro n
  induction n with
  | zero =>
    intro s h;have:s=[]:=QA5 h;subst this;simp[lns,jn]
  | succ n ih =>
    intro s h
    have hs:s=s.take n++[s[n]]:=by
     have:=QA3 (l:=s) (i:=n) (by omega)
     rw[<- this,QBn (by omega)]
    obtain ⟨h1,h2,h3⟩:=ih (s.take n) (by simp;omega)
    generalize s[n]=c at hs;generalize s.take n=t at *;subst hs;rw[JO];unfold Q6;split
    ·rename_i hc
     subst hc;refine ⟨?_,by simp,fun l hl=>?_⟩
     ·simp only
      rw[Qec]
      conv=>rhs;rw[<- h1]
      simp[jn]
     ·rcases QA7.1 hl with hl | hl
      ·exact h3 l hl
      ·simp at hl;subst hl;exact h2
    ·rename_i hc
     refine ⟨?_,?_,h3⟩
     ·simp only
      conv=>rhs;rw[<- h1]
      simp
     ·simp only[QA7,QBk,not_or]
      exact ⟨h2,Ne.symm hc⟩
 exact this _ s rfl
theorem Qki {b:W} {ls:List W} (h:cutL b=some ls):b=jn ls/\ls≠[]/\∀ l∈ls,(10:UInt8) ∉ l:=by
 obtain ⟨h1,h2,h3⟩:=Qrb b;unfold cutL at h;split at h
 ·rename_i hl
  injection h with h
  subst h
  have hnil:(lns b).2=[]:=by
   cases hx:(lns b).2 with
   | nil=>rfl
   | cons a r =>
     rw[hx] at h1 h2;rw[<- h1,List.getLast?_append] at hl
     have:(a::r).getLast?=some 10:=by
      cases hz:(a::r).getLast? with
      | none=>simp at hz
      | some z=>rw[hz] at hl;simpa using hl
     exact absurd (List.mem_of_getLast? this) h2
  rw[hnil,QB5] at h1;refine ⟨h1.symm,?_,h3⟩;intro e;rw[e] at h1;rw[<- h1] at hl;simp[jn] at hl
 ·cases h
theorem QfN {ls:List W} {l:W} (h:l∈ls):l.length+1<=QaJ ls:=by
 induction ls with
 | nil=>cases h
 | cons x ls ih =>
   simp only[QaJ,QBf,List.sum_cons] at *;rcases QBh.1 h with rfl | h
   ·omega
   ·have:=ih h;omega
theorem QfO (ls:List W):ls.length<=QaJ ls:=by
 induction ls with
 | nil=>simp[QaJ]
 | cons x ls ih =>
   simp only[QaJ,QBf,List.sum_cons,QBj] at *;omega
theorem QhF (b:W) (hb:b.length<=9000):∀ ls,cutL b=some ls->ls.length<=100000/\∀ l∈ls,l.length<=10000:=by
 intro ls h;obtain ⟨h1,_,_⟩:=Qki h;have h2:=Qrg ls;rw[<- h1] at h2;have h3:=QfO ls;refine ⟨by omega,fun l hl=>?_⟩
 have:=QfN hl;omega
def bkR (T:List W) (i:Nat):W:=if i<T.length then XY i (T.getD i []) false else XY T.length [] true
def bkN (T:List W) (i:Nat):W:=Qt (bkR T i)
def bkL (T:List W):List W:=(List.range (T.length+1)).map (bkN T)
theorem QkV (T:List W):∀ i,i<=T.length->wrT T i=jn ((List.range i).map (bkN T))
 | 0,_=>rfl
 | i+1,h=>by
   have hi:i<T.length:=h;rw[QBD,QBE,Qec,<- QkV T i (by omega)]
   simp[wrT,lnT,jn,bkN,bkR,hi]
theorem wrB_jn (T:List W):wrB T=jn (bkL T):=by
 unfold wrB bkL;rw[QBD,QBE,Qec,<- QkV T T.length (QA8 _)];simp[jn,bkN,bkR]
structure Texts (T:List W):Prop where
 len:T.length<=40
 tx:∀ s∈T,tx s=true
theorem texts_err {T:List W}:errT T=0↔Texts T:=by
 constructor
 ·intro h
  exact ⟨(Qdh h).1,(Qdh h).2⟩
 ·intro h
  have h1:¬ 40<T.length:=by have:=h.len;omega
  have h2:T.all tx=true:=QBs.2 h.tx;simp[errT,h1,h2]
theorem Qjz {n:Nat} (h:n<100):two n≠[46,46]:=fun e=>by
 have:=Wm h;rw[e] at this;have h2:dg [46,46] = -1:=by decide
 rw[h2] at this;omega
theorem QiJ {n:Nat} {t:W} (hn:n<40) (ht:tx t=true):Z4 (XY n t false)=true/\(Qf (XY n t false)).1=((n:Int),t,false):=by
 have h2:(two n).length=2:=rfl;have e1:(XY n t false).take 2=two n:=by simp[XY,two]
 have e2:(XY n t false).drop 2=t:=by simp[XY,two]
 have hl:¬ (XY n t false).length<2:=by simp[XY,h2]
 have hp:=YZ hl (by rw[e1];exact Qjz (by omega))
 rw[e1,e2,Wm (by omega)] at hp
 constructor
 ·rw[<- Yy,hp]
  have h4:(n:Int)<40:=by omega
  simp[ht,h4]
 ·rw[hp]
theorem Qf0 {n:Nat} (hn:n<=40):Z4 (XY n [] true)=true/\(Qf (XY n [] true)).1=((n:Int),[],true):=by
 have e1:(XY n [] true).take 2=[46,46]:=by simp[XY]
 have e2:(XY n [] true).drop 2=two n:=by simp[XY]
 have hl:(XY n [] true).length=4:=by simp[XY,two]
 have hp:=X4 e1 hl;rw[e2,Wm (by omega)] at hp
 constructor
 ·rw[<- Yy,hp]
  have h4:(n:Int)<=40:=by omega
  simp[h4]
 ·rw[hp]
def bkP (T:List W) (i:Nat):Int × W × Bool:=if i<T.length then ((i:Int),T.getD i [],false) else ((T.length:Int),[],true)
theorem QdC {T:List W} (h:Texts T) (i:Nat):Z4 (bkR T i)=true/\(Qf (bkR T i)).1=bkP T i:=by
 have:=h.len;unfold bkR bkP;split
 ·exact QiJ (by omega) (Qlz h.tx i)
 ·exact Qf0 h.len
theorem Qmc {l r:W} (hr:Z4 r=true) (hl:l.length=r.length+4) (hd:Zd l (Qt r)<=1):rd l=some (Qf r).1/\ex l=decide (l=Qt r):=by
 have h:=qN (Qnx hr hl hd);refine ⟨by simp[rd,h],?_⟩
 simp only[ex,h];by_cases e:Qt r=l
 ·simp[e]
 ·simp[e,Ne.symm e]
def QpK (T:List W) (i:Nat) (l:W):Prop:=l.length=(bkN T i).length/\Zd l (bkN T i)<=1
theorem qU {T:List W} (h:Texts T) {i:Nat} {l:W} (hn:QpK T i l):rd l=some (bkP T i)/\ex l=decide (l=bkN T i):=by
 obtain ⟨h1,h2⟩:=QdC h i;obtain ⟨h3,h4⟩:=hn;have:=Qmc h1 (by rw[h3,bkN,Za]) h4
 rw[h2] at this;exact this
theorem Qpy {T:List W} {i j:Nat} (hi:i<=T.length) (hj:j<=T.length) (h:bkP T i=bkP T j):i=j:=by
 unfold bkP at h;split at h<;>split at h
 ·injection h with h _;omega
 ·injection h with _ h;injection h with _ h;cases h
 ·injection h with _ h;injection h with _ h;cases h
 ·omega
theorem Qmk {T:List W} (h:Texts T) {ls:List W} (h1:∀ l∈ls,rd l=none\/∃ i,i<=T.length/\QpK T i l) (h2:∃ l∈ls,QpK T T.length l):V2 ls T:=by
 constructor
 ·intro l hl x hx
  rcases h1 l hl with h1 | ⟨i,hi,hn⟩
  ·rw[h1] at hx;cases hx
  ·rw[(qU h hn).1] at hx
   injection hx with hx
   subst hx;unfold bkP;split
   ·rename_i hlt
    exact .inr ⟨i,T[i],by simp[hlt],by simp[hlt]⟩
   ·exact .inl rfl
 ·obtain ⟨l,hl,hn⟩:=h2
  refine ⟨l,hl,?_⟩;rw[(qU h hn).1];simp[bkP]
theorem Qfi {T:List W} (h:Texts T) {ls:List W} (h1:∀ l∈ls,rd l=none\/∃ i,i<=T.length/\QpK T i l) {i:Nat} (hi:i<T.length):XA ls T i=true↔∃ l∈ls,QpK T i l:=by
 have e:((i:Int),T.getD i [],false)=bkP T i:=by simp[bkP,hi]
 simp only[XA,QCh,decide_eq_true_eq,e];constructor
 ·rintro ⟨l,hl,hx⟩
  rcases h1 l hl with h1 | ⟨j,hj,hn⟩
  ·rw[h1] at hx;cases hx
  ·rw[(qU h hn).1] at hx
   injection hx with hx
   have:=Qpy hj (by omega) hx
   subst this;exact ⟨l,hl,hn⟩
 ·rintro ⟨l,hl,hn⟩
  exact ⟨l,hl,(qU h hn).1⟩
theorem Qbo {r:W} (h:plain r):plain (Qt r):=by
 intro c hc;simp only[Qt,QA7] at hc;rcases hc with (hc | hc) | hc
 ·exact h c hc
 ·exact Ur _ (by omega) c hc
 ·exact Ur _ (by omega) c hc
theorem Qb0 {T:List W} (h:Texts T) (i:Nat):plain (bkN T i):=Qbo (XL (QdC h i).1).1
theorem Qpz {T:List W} (h:Texts T) (i:Nat):(bkN T i).length<=66/\6<=(bkN T i).length:=by
 have:=XL (QdC h i).1;simp only[bkN,Za];omega
def exA:W:=[48,48,97,98,54,54,50,50,10,48,49,99,48,51,53,55,10,46,46,48,50,54,50,54,53,10]
def exB:W:=[48,48,97,66,54,54,50,50,10,48,49,99,48,51,53,54,10,46,46,48,50,54,50,54,53,10]
def exC:W:=[48,48,65,66,54,54,50,50,10,48,49,99,48,51,53,55,10,46,46,48,50,54,50,54,53,10]
def exD:W:=exA++[48,49,100,48,52,54,48,10]
theorem ex_write:writeB [[97,98],[99]]=(exA,0):=by decide +kernel
end Go.Bk
namespace Go.Pp
open Go Go.Ev Go.Proofs Go.RowKit
variable {K:World->Prop} (hK:∀ w w',K w->Below w.heap.size w w'->K w')
open Go.Pf (c121_ok c52_ok c53_ok c54_ok c55_ok)
attribute [simp] Vq
abbrev W:=List UInt8
inductive Op where
 | and | or | ifw
 deriving DecidableEq
def Op.word:Op->W
 | .and=>[97,110,100]
 | .or=>[111,114]
 | .ifw=>[105,102]
def QeM:W:=[110,111,116]
def Qgg (w:W):Option Op:=if w=[97,110,100] then some .and else if w=[111,114] then some .or else if w=[105,102] then some .ifw else none
def Qmy (w:W):Bool:=(Qgg w).isSome
inductive Rd where
 | fact (n:Nat)
 | no (r:Rd)
 | bin (o:Op) (a b:Rd)
def Qca:Rd->List IV
 | .fact n=>[.int .i64 n,.str [],.nilp,.nilp]
 | .no r=>[.int .i64 0,.str QeM,.nilp,.ptr (Qca r)]
 | .bin o a b=>[.int .i64 0,.str o.word,.ptr (Qca a),.ptr (Qca b)]
@[simp] def enc (r:Rd):IV:=.ptr (Qca r)
def val:Rd->Nat->Bool
 | .fact n,t=>t.testBit n
 | .no r,t=>!val r t
 | .bin .and a b,t=>val a t&&val b t
 | .bin .or a b,t=>val a t||val b t
 | .bin .ifw a b,t=>val a t||!val b t
def text:Rd->W
 | .fact n=>[UInt8.ofNat (97+n)]
 | .no r=>[40,110,111,116,32]++text r++[41]
 | .bin o a b=>[40]++text a++[32]++o.word++[32]++text b++[41]
def fok:Rd->Prop
 | .fact n=>n<6
 | .no r=>fok r
 | .bin _ a b=>fok a/\fok b
@[simp] def ZF (l:List Int):IV:=.sl 1 (l.map fun n=>[.int .i64 n])
@[simp] def Qmm (l:List Nat):IV:=.sl 1 (l.map fun n=>[.int .u64 (n:Nat)])
@[simp] def strs (l:List W):IV:=.sl 1 (l.map fun s=>[.str s])
@[simp] def rds (l:List Rd):IV:=.sl 1 (l.map fun r=>[enc r])
@[simp] def paperV (w:W) (fs:List Int):IV:=.agg [.str w,ZF fs]
def Qi5 (a b:Int):Int:=if a=b then 1 else if a=0 then 2 else 3
def QzF (k:Int) (b:Bool):Bool:=if k=1 then b else if k=2 then !b else decide (k=3)
def QgA (w:W) (a b:Nat):Nat:=if w=[97,110,100] then a &&& b else if w=[111,114] then a ||| b else a ||| (18446744073709551615 ^^^ b)
def ZM (n:Nat):Nat->Nat
 | 0=>0
 | i+1=>if i.testBit n then ZM n i ||| 2 ^ i else ZM n i
theorem qh (n i:Nat) (h:i<=64):ZM n i<2 ^ 64:=by
 induction i with
 | zero=>simp[ZM]
 | succ i ih =>
   simp only[ZM];split
   ·exact QCq (ih (by omega)) (QCv (by omega) (by omega))
   ·exact ih (by omega)
include hK
theorem Qlr (n l h:Int):Ev.Good Tryz.prog K 52 [.int .i64 n,.int .i64 l,.int .i64 h] (.bool (decide (l<=n)&&decide (n<=h))):=by
 refine Qb hK c52_ok (by simp) ?_
 simp;omega
theorem Qrr (w:W):Ev.Good Tryz.prog K 54 [.str w] (.bool (Qmy w)):=by
 refine Qb hK c54_ok (by simp) ?_
 simp[Qmy,Qgg];split<;>simp_all;split<;>simp_all
theorem Qrq (w:W) (a b:Nat) (ha:a<2 ^ 64) (hb:b<2 ^ 64):Ev.Good Tryz.prog K 55 [.str w,.int .u64 a,.int .u64 b] (.int .u64 (QgA w a b:Nat)):=by
 refine Qb hK c55_ok (by simp) ?_
 have hx:=QfI 18446744073709551615 b (by omega) hb
 have hx':18446744073709551615 ^^^ b<2 ^ 64:=Nat.xor_lt_two_pow (by omega) hb
 have ho:=W7 a (18446744073709551615 ^^^ b) ha hx';rw[<- hx] at ho;simp[QgA,QdD a b ha hb,W7 a b ha hb];split<;>simp_all
theorem Qrs (n:Nat) (hn:n<64):Ev.Good Tryz.prog K 53 [.int .i64 n] (.int .u64 (ZM n 64:Nat)):=by
 refine Qb hK c53_ok (by simp) ?_
 simp;refine QV (fun i=>[(0,AV.iv (IV.int IntKind.i64 n)),(3,AV.iv (IV.int IntKind.u64 (ZM n i:Nat))),(4,AV.iv (IV.int IntKind.i64 (i:Nat)))]) (fun _=>[]) 64 (fun _=>True) trivial ?_ ?_
 ·intro h
  rw[Qa Go.Pf.c53_b0.eq_1];simp
 ·intro i hi h ih
  have h1:IntKind.wrap .u64 (n:Int)=n:=YQ (by omega) (by omega)
  have h2:IntKind.wrap .u64 (i:Int)=i:=YQ (by omega) (by omega)
  have h3:=Qcv 1 i hi (by rw[Nat.one_mul];exact QCv (by omega) hi)
  have h4:=W7 (ZM n i) (2 ^ i) (qh n i (by omega)) (QCv (by omega) hi)
  simp at h3 h4;rw[Qa Go.Pf.c53_b0.eq_1];have hf:ZM n (i+1)=if i.testBit n then ZM n i ||| 2 ^ i else ZM n i:=rfl
  have hi':(i:Int)<64:=by omega
  simp[h1,h2,Qh1 i n (by omega),QaK,h3,h4,hf,hi'] at ih |-
  refine ⟨fun e=>⟨by omega,?_⟩,fun e=>⟨by omega,?_⟩⟩
  ·simpa[e] using ih
  ·simpa[e] using ih
theorem Qnq (r:Rd) (t:Nat) (ht:t<2 ^ 64):Ev.Good Tryz.prog K 121 [enc r,.int .u64 t] (.bool (val r t)):=by
 induction r with
 | fact n =>
   refine Qb hK c121_ok (by simp) ?_
   simp[Qca,val,QpA t n ht,QaK]
 | no r ih =>
   refine Qb hK c121_ok (by simp) ?_
   simp[Qca,QeM,val];refine Qd ih (by simp) ?_
   simp
 | bin o a b ia ib =>
   refine Qb hK c121_ok (by simp) ?_
   cases o<;>simp[Qca,val,Op.word]<;>refine Qd ia (by simp) ?_<;>simp <;>
    refine ⟨fun e=>?_,fun e=>?_⟩<;>first | (refine Qd ib (by simp) ?_;simp[e]) | simp[e]
omit hK
open Go.Pf (c15_ok c22_ok c32_ok c33_ok c51_ok)
def Qk (out:List W) (c:UInt8):List W:=if c=32 then out++[[]] else out.set (out.length-1) (out.getD (out.length-1) []++[c])
def spl (s:W):List W:=s.foldl Qk [[]]
def okT (fs:List Int) (n:Nat):Nat->Bool
 | 0=>true
 | i+1=>okT fs n i&&(!n.testBit i||decide (fs.getD i 0≠2))&&(n.testBit i||decide (fs.getD i 0≠1))
def QlT (fs:List Int) (m:Nat):List Nat:=(List.range m).filter fun n=>okT fs n fs.length
def Qwu (fs:List Int):List Nat:=QlT fs (2 ^ fs.length)
@[simp] def UR (l:List Nat):IV:=.sl 1 (l.map fun n=>[.int .i64 (n:Nat)])
include hK
theorem Qly (s:W) (hs:s.length<4294967296):Ev.Good Tryz.prog K 15 [.str s] (strs (spl s)):=by
 refine Qb hK c15_ok (by simp) ?_
 simp
 refine Qbj s.length (fun i e o=>∃ mv,mv<=((s.take i).foldl Qk [[]]).length/\0<((s.take i).foldl Qk [[]]).length/\((s.take i).foldl Qk [[]]).length<=i+1/\(∀ x∈(s.take i).foldl Qk [[]],x.length<=i) /\
  e=[(0,AV.iv (IV.str s)),(3,AV.aref 5 ((s.take i).foldl Qk [[]]).length),(4,AV.iv (IV.int IntKind.i64 (i:Nat)))] /\
  o=[(5,AO.arr 9 1 (emb (((s.take i).foldl Qk [[]]).map fun s=>[.str s])) mv)]) ?_ ?_ _ _ ⟨0,by simp,by simp,by simp,by simp,rfl,rfl⟩
 ·rintro e o ⟨mv,h1,h2,h3,_,rfl,rfl⟩
  rw[Qa Go.Pf.c15_b0.eq_1];simp[spl] at h1 h2 h3 |-;simp[h1]
 ·rintro i e o hi ⟨mv,h1,h2,h3,hx,rfl,rfl⟩ ih
  have e1:(s.take (i+1)).foldl Qk [[]]=Qk ((s.take i).foldl Qk [[]]) s[i]:=by
   rw[QA3 hi,QCs];rfl
  rw[Qa Go.Pf.c15_b0.eq_1];rw[e1] at ih;generalize (s.take i).foldl Qk [[]]=X at *;have h4:X.length-1<X.length:=by omega
  have h5:((X.length:Int)-1).toNat=X.length-1:=by omega
  have h6:s[i].toNat<256:=s[i].toNat_lt
  have h7:s[i]=32↔(s[i].toNat:Int)=32:=by
   rw[<- UInt8.toNat_inj];simp;omega
  simp[hi];refine ⟨fun e=>⟨⟨h1,by omega,by omega⟩,by omega,?_⟩,fun e=>⟨h1,fun _=>⟨by omega,⟨by omega,h4,h1⟩,?_⟩⟩⟩
  ·refine ih _ _ ⟨mv,?_,?_,?_,?_,?_,?_⟩<;>simp[Qk,h7.2 e]
   ·omega
   ·omega
   ·intro x hm
    rcases hm with hm | hm
    ·exact Nat.le_succ_of_le (hx x hm)
    ·simp[hm]
  ·simp[h4,h5,bytesOf,ZA,hi]
   have h8:¬ s[i]=32:=fun c=>e (h7.1 c)
   have h9:=hx _ (QBc h4);refine ⟨h1,by omega,by omega,⟨by omega,h1⟩,h1,by omega,?_⟩
   refine ih _ _ ⟨X.length,?_,?_,?_,?_,?_,?_⟩<;>simp[Qk,h8,h2,h4]
   ·omega
   ·intro x hm
    rcases QCx hm with c | c
    ·exact Nat.le_succ_of_le (hx x c)
    ·subst c;simp;omega
theorem Qrt (rs:IV) (T:List Nat) (r:Rd) (hT:∀ t∈T,t<64) (hl:T.length<=64):Ev.Good Tryz.prog K 51 [.ptr [rs,Qmm T],enc r] (.int .i64 (T.countP (val r):Nat)):=by
 refine Qb hK c51_ok (by simp) ?_
 simp;intro _;refine QV (fun i=>[(1,AV.iv (enc r)),(4,AV.iv (IV.int IntKind.i64 ((T.take i).countP (val r):Nat))),(10,AV.iv (Qmm T)),(11,AV.iv (IV.int IntKind.i64 (T.length:Nat))),(12,AV.iv (IV.int IntKind.i64 (i:Nat)))]) (fun _=>[]) T.length (fun _=>True) trivial ?_ ?_
 ·intro _
  rw[Qa Go.Pf.c51_b0.eq_1];simp
 ·intro i hi _ ih
  rw[Qa Go.Pf.c51_b0.eq_1];simp[hi];have ht:=hT T[i] (QBc hi);refine Qd (Qnq hK r T[i] (by omega)) (by simp) ?_
  have e1:(T.take (i+1)).countP (val r)=(T.take i).countP (val r)+(if val r T[i] then 1 else 0):=by
   rw[QA3 hi,List.countP_append];simp[List.countP_cons]
  have e2:(T.take i).countP (val r)<=i:=QBY (List.countP_le_length) (by rw[QBT];omega)
  rw[e1] at ih;cases hb:val r T[i]<;>simp[hb] at ih |-
  ·exact ⟨by omega,ih⟩
  ·exact ⟨by omega,by omega,ih⟩
theorem QrC (rs:IV) (T:List Nat) (r:Rd) (hT:∀ t∈T,t<64) (hl:T.length<=64):Ev.Good Tryz.prog K 32 [.ptr [rs,Qmm T],enc r] (.int .i64 (Qi5 (T.countP (val r):Nat) T.length)):=by
 refine Qb hK c32_ok (by simp) ?_
 simp;refine Qd (Qrt hK rs T r hT hl) (by simp) ?_
 simp[Qi5];intro _;split<;>simp_all
theorem QrJ (r:Rd) (hr:fok r) (hl:((text r).length:Int)<=9223372036854775807):Ev.Good Tryz.prog K 22 [enc r] (.str (text r)):=by
 induction r with
 | fact n =>
   have hr:n<6:=hr;refine Qb hK c22_ok (by simp) ?_
   have h1:IntKind.wrap .i32 (97+(n:Int))=97+n:=by
    unfold IntKind.wrap;simp[IntKind.bits,IntKind.signed];omega
   have h2:(97+(n:Int)).toNat=97+n:=by omega
   simp[Qca,text,h1,h2];omega
 | no r ih =>
   refine Qb hK c22_ok (by simp) ?_
   simp[Qca,QeM];simp[text] at hl;refine Qd (ih hr (by omega)) (by simp) ?_
   simp[text];omega
 | bin o a b ia ib =>
   refine Qb hK c22_ok (by simp) ?_
   simp[text] at hl;have ha:=ia hr.1 (by omega)
   have hb:=ib hr.2 (by omega)
   cases o<;>simp[Qca,Op.word] at hl |-<;>refine Qd ha (by simp) ?_<;>simp<;>(refine ⟨by omega,by omega,by omega,by omega,?_⟩;refine Qd hb (by simp) ?_;simp[text,Op.word];omega)
theorem QrB (s:W) (fs:List Int):Ev.Good Tryz.prog K 33 [paperV s fs] (.bool (fs.all (fun k=>decide (1<=k)&&decide (k<=3))&&decide (fs.length<=6))):=by
 refine Qb hK c33_ok (by simp) ?_
 simp;refine QV (fun i=>[(1,AV.iv (.ptr [.str s,ZF fs])),(3,AV.iv (IV.int IntKind.i64 (i:Nat)))]) (fun _=>[]) fs.length (fun i=>∀ k∈fs.take i,1<=k/\k<=3) (by simp) ?_ ?_
 ·intro h
  rw[Qa Go.Pf.c33_b0.eq_1];simp at h |-;intro _;have h1:(fs.all fun k=>decide (1<=k)&&decide (k<=3))=true:=by simpa using h
  rw[h1];simp;omega
 ·intro i hi h ih
  rw[Qa Go.Pf.c33_b0.eq_1];simp[hi];intro _;refine Qd (Qlr hK fs[i] 1 3) (by simp) ?_
  simp;refine ⟨fun e c=>?_,fun e1 e2=>⟨by omega,?_⟩⟩
  ·have:=c _ (QBc hi)
   omega
  ·refine ih fun k hk=>?_
   rw[QA3 hi] at hk;rcases QA7.1 hk with c | c
   ·exact h k c
   ·rw[QBk] at c;subst c;exact ⟨e1,e2⟩
end Go.Pp
namespace Go.Pp
open Go Go.Ev Go.Proofs Go.RowKit
open Go.Pf (c50_b0 c50_b1 c50_b2 c50_b3 c50_ok)
def Z3 (n:Nat):List W->Option Nat
 | [[c]]=>if 97<=c.toNat/\c.toNat-97<n then some (c.toNat-97) else none
 | _=>none
def QH (o:Op) (A B:List Rd):List Rd:=A.flatMap fun a=>B.map fun b=>.bin o a b
def QT (f:List W->List Rd) (ws:List W) (i:Nat):List Rd :=
 if i=0\/i+1=ws.length then [] else
  match Qgg (ws.getD i []) with
  | none=>[]
  | some o=>QH o (f (ws.take i)) (f (ws.drop (i+1)))
def Zv (f:List W->List Rd) (ws:List W):List Rd:=if 1<ws.length/\ws.getD 0 []=QeM then (f (ws.drop 1)).map .no else []
def QR (f:List W->List Rd) (ws:List W) (i:Nat):List Rd:=Zv f ws++(List.range i).flatMap (QT f ws)
def rdg (n:Nat):Nat->List W->List Rd
 | 0,_=>[]
 | k+1,ws =>
   match Z3 n ws with
   | some m=>[.fact m]
   | none=>QR (rdg n k) ws ws.length
def mo:Nat->Nat->Nat
 | 0,_=>0
 | k+1,l=>if l<=1 then 1 else mo k (l-1)+((List.range l).map fun i=>if i=0\/i+1=l then 0 else mo k i*mo k (l-(i+1))).sum
theorem QtY:∀ k,k<=9->∀ l,l<=9->mo k l<=323:=by decide +kernel
theorem Zq {α β:Type} (g:α->List β) (c:Nat):∀ l:List α,(∀ x∈l,(g x).length<=c)->(l.flatMap g).length<=l.length*c
 | [],_=>by simp
 | a::l,h=>by
   have h1:=Zq g c l (fun x hx=>h x (by simp[hx]))
   have h2:=h a (by simp)
   simp only[QCe,QBa,QBj];rw[QBr];omega
theorem WV {α:Type} (f g:α->Nat):∀ l:List α,(∀ x∈l,f x<=g x)->(l.map f).sum<=(l.map g).sum
 | [],_=>by simp
 | a::l,h=>by
   have h1:=WV f g l (fun x hx=>h x (by simp[hx]))
   have h2:=h a (by simp)
   simp only[QBf,List.sum_cons];omega
theorem YA (o:Op) (A B:List Rd):(QH o A B).length=A.length*B.length:=by
 unfold QH
 induction A with
 | nil=>simp
 | cons a A ih =>
   rw[QCe,QBa,ih,QBb,QBj,QBr];omega
theorem VA {n:Nat} {ws:List W} {m:Nat} (h:Z3 n ws=some m):ws.length=1/\m<n:=by
 unfold Z3 at h;split at h
 ·split at h
  ·injection h with h;subst h;rename_i h;exact ⟨rfl,h.2⟩
  ·cases h
 ·cases h
theorem qR (n:Nat):∀ (k:Nat) (ws:List W),(rdg n k ws).length<=mo k ws.length
 | 0,ws=>by simp[rdg]
 | k+1,ws=>by
   simp only[rdg];split
   ·rename_i m hm
    simp[mo,(VA hm).1]
   ·simp only[mo]
    split
    ·rename_i h1
     have:QR (rdg n k) ws ws.length=[]:=by
      have h2:Zv (rdg n k) ws=[]:=by simp[Zv];omega
      simp only[QR,h2,QB4];rw[List.flatMap_eq_nil_iff];intro i hi;simp at hi;have:i=0:=by omega
      simp[QT,this]
     rw[this];simp
    ·simp only[QR,QBa,List.length_flatMap]
     have h1:(Zv (rdg n k) ws).length<=mo k (ws.length-1):=by
      unfold Zv;split
      ·have:=qR n k (ws.drop 1)
       simpa using this
      ·simp
     refine Nat.add_le_add h1 (WV _ _ _ fun i hi=>?_)
     simp at hi;unfold QT;split
     ·simp
     ·split
      ·simp
      ·rw[YA]
       have h2:=qR n k (ws.take i);have h3:=qR n k (ws.drop (i+1));rw[QBT,QBC (by omega)] at h2
       rw[List.length_drop] at h3;exact Nat.mul_le_mul h2 h3
theorem UJ {n k:Nat} {ws:List W} (hk:k<=9) (hw:ws.length<=9):(rdg n k ws).length<=323:=QBY (qR n k ws) (QtY k hk _ hw)
@[simp] def ob (L:List Rd):Qi:=[(5,AO.arr 71 1 (emb (L.map fun r=>[enc r])) 0)]
theorem W6 (o:Op) (A B:List Rd) (j:Nat) (hj:j<A.length):QH o (A.take (j+1)) B=QH o (A.take j) B++B.map (Rd.bin o A[j]):=by
 rw[QA3 hj];simp only[QH,List.flatMap_append,QCe,List.flatMap_nil,QB5]
section
variable {K:World->Prop} {r:IV}
theorem QmC (o:Op) (w:W) (hw:w=o.word) (a:Rd) (X0 X1 X11 X68 X69 X70 X109 X110 X111:IV) (B L:List Rd) (kk:List AI) (hb:L.length+B.length<=1000000000)
  (h:QK Tryz.prog K (FnF (QW [ZG.tmp 4] r)) c50_b1 [0,1,5,10,11,13,68,69,70,109,110,111,115,116,117] [5] kk
    [(0,.iv X0),(1,.iv X1),(5,AV.aref 5 (L++B.map (Rd.bin o a)).length),(10,AV.iv (.str w)),(11,.iv X11),(13,AV.iv (enc a)),(68,.iv X68),(69,.iv X69),(70,.iv X70),(109,.iv X109),(110,.iv X110),(111,.iv X111),(115,AV.iv (rds B)),(116,AV.iv (.int .i64 (B.length:Nat))),(117,AV.iv (.int .i64 (B.length:Nat)))] (ob (L++B.map (Rd.bin o a)))) :
  QK Tryz.prog K (FnF (QW [ZG.tmp 4] r)) c50_b1 [0,1,5,10,11,13,68,69,70,109,110,111,115,116,117] [5] kk
   [(0,.iv X0),(1,.iv X1),(5,AV.aref 5 L.length),(10,AV.iv (.str w)),(11,.iv X11),(13,AV.iv (enc a)),(68,.iv X68),(69,.iv X69),(70,.iv X70),(109,.iv X109),(110,.iv X110),(111,.iv X111),(115,AV.iv (rds B)),(116,AV.iv (.int .i64 (B.length:Nat))),(117,AV.iv (.int .i64 0))] (ob L):=by
 have:=QX (P:=Tryz.prog) (K:=K) (F:=FnF (QW [ZG.tmp 4] r)) (c:=c50_b1) (ks:=[0,1,5,10,11,13,68,69,70,109,110,111,115,116,117]) (ids:=[5]) (k:=kk)
  (fun m=>[(0,.iv X0),(1,.iv X1),(5,AV.aref 5 (L++(B.take m).map (Rd.bin o a)).length),(10,AV.iv (.str w)),(11,.iv X11),(13,AV.iv (enc a)),(68,.iv X68),(69,.iv X69),(70,.iv X70),(109,.iv X109),(110,.iv X110),(111,.iv X111),(115,AV.iv (rds B)),(116,AV.iv (.int .i64 (B.length:Nat))),(117,AV.iv (.int .i64 (m:Nat)))])
  (fun m=>ob (L++(B.take m).map (Rd.bin o a))) B.length (by rw[QBo];exact h) (fun i hi ih=>?_)
 ·simpa using this
 ·have e1:L++(B.take (i+1)).map (Rd.bin o a)=(L++(B.take i).map (Rd.bin o a))++[Rd.bin o a B[i]]:=by
   rw[QA3 hi,QBE,<- QBB];rfl
  have e2:(L++(B.take i).map (Rd.bin o a)).length<=1000000000:=by
   simp;omega
  rw[e1] at ih;generalize L++(B.take i).map (Rd.bin o a)=Y at *;rw[Qa Go.Pf.c50_b1.eq_1];simp[Qca,<- hw] at ih;simp[hi];exact ⟨by omega,by omega,ih⟩
theorem QtZ (o:Op) (w:W) (hw:w=o.word) (X0 X1 X68 X69 X70:IV) (A B L:List Rd) (kk:List AI) (hA:A.length<=323) (hB:B.length<=323) (hL:L.length<=9000000)
  (h:QK Tryz.prog K (FnF (QW [ZG.tmp 4] r)) c50_b2 [0,1,5,10,11,68,69,70,109,110,111] [5] kk
    [(0,.iv X0),(1,.iv X1),(5,AV.aref 5 (L++QH o A B).length),(10,AV.iv (.str w)),(11,.iv (rds B)),(68,.iv X68),(69,.iv X69),(70,.iv X70),(109,.iv (rds A)),(110,AV.iv (.int .i64 (A.length:Nat))),(111,AV.iv (.int .i64 (A.length:Nat)))] (ob (L++QH o A B))) :
  QK Tryz.prog K (FnF (QW [ZG.tmp 4] r)) c50_b2 [0,1,5,10,11,68,69,70,109,110,111] [5] kk
   [(0,.iv X0),(1,.iv X1),(5,AV.aref 5 L.length),(10,AV.iv (.str w)),(11,.iv (rds B)),(68,.iv X68),(69,.iv X69),(70,.iv X70),(109,.iv (rds A)),(110,AV.iv (.int .i64 (A.length:Nat))),(111,AV.iv (.int .i64 0))] (ob L):=by
 have:=QX (P:=Tryz.prog) (K:=K) (F:=FnF (QW [ZG.tmp 4] r)) (c:=c50_b2) (ks:=[0,1,5,10,11,68,69,70,109,110,111]) (ids:=[5]) (k:=kk)
  (fun m=>[(0,.iv X0),(1,.iv X1),(5,AV.aref 5 (L++QH o (A.take m) B).length),(10,AV.iv (.str w)),(11,.iv (rds B)),(68,.iv X68),(69,.iv X69),(70,.iv X70),(109,.iv (rds A)),(110,AV.iv (.int .i64 (A.length:Nat))),(111,AV.iv (.int .i64 (m:Nat)))])
  (fun m=>ob (L++QH o (A.take m) B)) A.length (by rw[QBo];exact h) (fun i hi ih=>?_)
 ·simpa[QH] using this
 ·have e2:(L++QH o (A.take i) B).length<=100000000:=by
   rw[QBa,YA,QBT,QBC (by omega)]
   have:=Nat.mul_le_mul (show i<=323 by omega) hB
   omega
  rw[W6 o A B i hi,<- QBB] at ih;generalize L++QH o (A.take i) B=Y at *;rw[Qa Go.Pf.c50_b2.eq_1];simp[hi];intro _
  have:=QmC (K:=K) (r:=r) o w hw A[i] X0 X1 (rds B) X68 X69 X70 (rds A) (.int .i64 (A.length:Nat)) (.int .i64 (i:Nat)) B Y
   (AI.inBlock 6::.inBlock 5::.code (.ops [⟨some 130,none,.bin .add (.t 111) (.int .i64 1)⟩,⟨some 111,none,.mov (.t 130)⟩] false)::.inLoop c50_b2 [0,1,5,10,11,68,69,70,109,110,111] [5]::kk) (by omega) ?_
  ·simpa using this
  ·rw[Qa Go.Pf.c50_b1.eq_1]
   simp at ih |-;exact ⟨by omega,ih⟩
theorem QtU (X0 X1:IV) (A:List Rd) (kk:List AI) (hA:A.length<=323)
  (h:QK Tryz.prog K (FnF (QW [ZG.tmp 4] r)) c50_b0 [0,1,5,55,56,57] [5] kk
    [(0,.iv X0),(1,.iv X1),(5,AV.aref 5 (A.map Rd.no).length),(55,.iv (rds A)),(56,AV.iv (.int .i64 (A.length:Nat))),(57,AV.iv (.int .i64 (A.length:Nat)))] (ob (A.map Rd.no))) :
  QK Tryz.prog K (FnF (QW [ZG.tmp 4] r)) c50_b0 [0,1,5,55,56,57] [5] kk
   [(0,.iv X0),(1,.iv X1),(5,AV.aref 5 0),(55,.iv (rds A)),(56,AV.iv (.int .i64 (A.length:Nat))),(57,AV.iv (.int .i64 0))] (ob []):=by
 have:=QX (P:=Tryz.prog) (K:=K) (F:=FnF (QW [ZG.tmp 4] r)) (c:=c50_b0) (ks:=[0,1,5,55,56,57]) (ids:=[5]) (k:=kk)
  (fun m=>[(0,.iv X0),(1,.iv X1),(5,AV.aref 5 ((A.take m).map Rd.no).length),(55,.iv (rds A)),(56,AV.iv (.int .i64 (A.length:Nat))),(57,AV.iv (.int .i64 (m:Nat)))])
  (fun m=>ob ((A.take m).map Rd.no)) A.length (by rw[QBo];exact h) (fun i hi ih=>?_)
 ·simpa using this
 ·have e1:(A.take (i+1)).map Rd.no=(A.take i).map Rd.no++[Rd.no A[i]]:=by
   rw[QA3 hi,QBE];rfl
  have e2:((A.take i).map Rd.no).length<=323:=by
   simp;omega
  rw[e1] at ih;generalize (A.take i).map Rd.no=Y at *;rw[Qa Go.Pf.c50_b0.eq_1];simp[Qca,QeM] at ih;simp[hi];exact ⟨by omega,by omega,ih⟩
variable (hK:∀ w w',K w->Below w.heap.size w w'->K w')
include hK
theorem Qls (n:Nat) (hn:n<=6):∀ (k:Nat),k<=9->∀ ws:List W,ws.length<=k->Ev.Good Tryz.prog K 50 [strs ws,.int .i64 n] (rds (rdg n k ws))
 | 0,_,ws,hw=>by
   have:ws=[]:=List.length_eq_zero_iff.1 (by omega)
   subst this;refine Qb hK c50_ok (by simp) ?_
   simp[rdg];rw[Qa Go.Pf.c50_b3.eq_1];simp
 | k+1,hk,ws,hw=>by
   have IH:=Qls n hn k (by omega)
   have small:∀ ws:List W,ws.length<=k->(rdg n k ws).length<=323:=fun ws h=>UJ (by omega) (by omega)
   refine Qb hK c50_ok (by simp) ?_
   generalize hf:rdg n k=f at *
   have outer:QK Tryz.prog K (FnF (QW [ZG.tmp 4] (rds (QR f ws ws.length)))) c50_b3 [0,1,5,68,69,70] [5] [AI.inBlock 2,AI.code (.seq (.ops [⟨some 132,none,.mov (.t 5)⟩,⟨some 4,none,.mov (.t 132)⟩] false) .ret)]
     [(0,.iv (strs ws)),(1,.iv (.int .i64 n)),(5,.aref 5 (Zv f ws).length),(68,.iv (strs ws)),(69,.iv (.int .i64 (ws.length:Nat))),(70,.iv (.int .i64 0))] (ob (Zv f ws)):=by
    have:=QX (P:=Tryz.prog) (K:=K) (F:=FnF (QW [ZG.tmp 4] (rds (QR f ws ws.length)))) (c:=c50_b3) (ks:=[0,1,5,68,69,70]) (ids:=[5]) (k:=[AI.inBlock 2,AI.code (.seq (.ops [⟨some 132,none,.mov (.t 5)⟩,⟨some 4,none,.mov (.t 132)⟩] false) .ret)])
     (fun i=>[(0,.iv (strs ws)),(1,.iv (.int .i64 n)),(5,.aref 5 (QR f ws i).length),(68,.iv (strs ws)),(69,.iv (.int .i64 (ws.length:Nat))),(70,.iv (.int .i64 (i:Nat)))])
     (fun i=>ob (QR f ws i)) ws.length ?_ (fun i hi ih=>?_)
    ·simpa[QR] using this
    ·rw[Qa Go.Pf.c50_b3.eq_1]
     simp
    ·have e1:QR f ws (i+1)=QR f ws i++QT f ws i:=by
      simp[QR,QBD]
     have e2:(QR f ws i).length<=8000000:=by
      have h1:(Zv f ws).length<=323:=by
       unfold Zv;split
       ·rw[QBb]
        exact small _ (by simp;omega)
       ·simp
      have h2:((List.range i).flatMap (QT f ws)).length<=i*(323*323):=by
       refine QBY (Zq _ (323*323) _ fun x hx=>?_) (by simp)
       simp at hx;unfold QT;split
       ·simp
       ·split
        ·simp
        ·rw[YA]
         exact Nat.mul_le_mul (small _ (by simp;omega)) (small _ (by simp;omega))
      simp only[QR,QBa];omega
     rw[e1] at ih;generalize QR f ws i=Y at *;rw[Qa Go.Pf.c50_b3.eq_1]
     have skip:QT f ws i=[]->QK Tryz.prog K (FnF (QW [ZG.tmp 4] (rds (QR f ws ws.length)))) c50_b3 [0,1,5,68,69,70] [5] [AI.inBlock 2,AI.code (.seq (.ops [⟨some 132,none,.mov (.t 5)⟩,⟨some 4,none,.mov (.t 132)⟩] false) .ret)]
       [(0,.iv (strs ws)),(1,.iv (.int .i64 n)),(5,.aref 5 Y.length),(68,.iv (strs ws)),(69,.iv (.int .i64 (ws.length:Nat))),(70,.iv (.int .i64 ((i:Int)+1)))] (ob Y):=by
      intro h;rw[h] at ih;simpa using ih
     have go:∀ o:Op,ws[i]=o.word->¬ i=0->¬ i+1=ws.length->QK Tryz.prog K (FnF (QW [ZG.tmp 4] (rds (QR f ws ws.length)))) c50_b2 [0,1,5,10,11,68,69,70,109,110,111] [5]
       [.inBlock 4,.inBlock 3,.code (.ops [⟨some 131,none,.bin .add (.t 70) (.int .i64 1)⟩,⟨some 70,none,.mov (.t 131)⟩] false),.inLoop c50_b3 [0,1,5,68,69,70] [5],AI.inBlock 2,AI.code (.seq (.ops [⟨some 132,none,.mov (.t 5)⟩,⟨some 4,none,.mov (.t 132)⟩] false) .ret)]
       [(0,.iv (strs ws)),(1,.iv (.int .i64 n)),(5,.aref 5 Y.length),(10,.iv (.str ws[i])),(11,.iv (rds (f (ws.drop (i+1))))),(68,.iv (strs ws)),(69,.iv (.int .i64 (ws.length:Nat))),(70,.iv (.int .i64 (i:Nat))),
         (109,.iv (rds (f (ws.take i)))),(110,.iv (.int .i64 ((f (ws.take i)).length:Nat))),(111,.iv (.int .i64 0))] (ob Y):=by
      intro o ho c0 c1
      have e3:QT f ws i=QH o (f (ws.take i)) (f (ws.drop (i+1))):=by
       have:Qgg ws[i]=some o:=by rw[ho];cases o<;>rfl
       simp[QT,c0,c1,hi,this]
      rw[e3] at ih;refine QtZ o ws[i] ho (strs ws) (.int .i64 n) (strs ws) (.int .i64 (ws.length:Nat)) (.int .i64 (i:Nat)) _ _ Y _ (small _ (by simp;omega)) (small _ (by simp;omega)) (by omega) ?_
      rw[Qa Go.Pf.c50_b2.eq_1];simp at ih |-;exact ⟨by omega,ih⟩
     have hst:∀ o:Op,ws[i]=o.word->f (ws.drop (i+1))=[]->QT f ws i=[]:=by
      intro o ho he;have:Qgg ws[i]=some o:=by rw[ho];cases o<;>rfl
      simp[QT,hi,this,he,QH]
     simp[hi];refine ⟨fun c0 hl=>⟨by omega,fun c1=>⟨fun ca=>⟨fun co=>⟨fun ci=>?s1,fun ci=>⟨by omega,by omega,fun _=>?g1⟩⟩,fun co=>⟨by omega,by omega,fun _=>?g2⟩⟩,fun ca=>⟨by omega,by omega,fun _=>?g3⟩⟩,fun c1=>?s2⟩,fun c0=>?s3⟩
     case s1 =>
      refine ⟨by omega,skip ?_⟩
      have:Qgg ws[i]=none:=by simp[Qgg,ca,co,ci]
      simp[QT,hi,this]
     case s2 =>
      have c1':i+1=ws.length:=by omega
      exact ⟨by omega,skip (by simp[QT,c1'])⟩
     case s3=>exact ⟨by omega,skip (by simp[QT,c0])⟩
     case g1 =>
      rw[<- QCC];refine Qd (IH (ws.drop (i+1)) (by simp;omega)) (by simp) ?_
      simp;intro _;refine ⟨fun e=>⟨by omega,skip (hst .ifw ci e)⟩,fun e=>⟨by omega,fun _=>?_⟩⟩
      rw[<- QCB];refine Qd (IH (ws.take i) (by simp;omega)) (by simp) ?_
      simp;intro _;have:=go .ifw ci c0 (by omega)
      simpa using this
     case g2 =>
      rw[<- QCC];refine Qd (IH (ws.drop (i+1)) (by simp;omega)) (by simp) ?_
      simp;intro _;refine ⟨fun e=>⟨by omega,skip (hst .or co e)⟩,fun e=>⟨by omega,fun _=>?_⟩⟩
      rw[<- QCB];refine Qd (IH (ws.take i) (by simp;omega)) (by simp) ?_
      simp;intro _;have:=go .or co c0 (by omega)
      simpa using this
     case g3 =>
      rw[<- QCC];refine Qd (IH (ws.drop (i+1)) (by simp;omega)) (by simp) ?_
      simp;intro _;refine ⟨fun e=>⟨by omega,skip (hst .and ca e)⟩,fun e=>⟨by omega,fun _=>?_⟩⟩
      rw[<- QCB];refine Qd (IH (ws.take i) (by simp;omega)) (by simp) ?_
      simp;intro _;have:=go .and ca c0 (by omega)
      simpa using this
   rcases ws with _ | ⟨w0,_ | ⟨w1,rest⟩⟩
   ·have h3:Zv f []=[]:=by simp[Zv]
    rw[h3] at outer;have h4:rdg n (k+1) []=QR f [] 0:=by simp[rdg,Z3,hf]
    rw[h4];simp at outer |-;exact outer
   ·have h3:Zv f [w0]=[]:=by simp[Zv]
    rw[h3] at outer
    have go:Z3 n [w0]=none->QK Tryz.prog K (FnF (QW [ZG.tmp 4] (rds (rdg n (k+1) [w0])))) c50_b3 [0,1,5,68,69,70] [5] [AI.inBlock 2,AI.code (.seq (.ops [⟨some 132,none,.mov (.t 5)⟩,⟨some 4,none,.mov (.t 132)⟩] false) .ret)]
     [(0,.iv (strs [w0])),(1,.iv (.int .i64 n)),(5,.aref 5 0),(68,.iv (strs [w0])),(69,.iv (.int .i64 1)),(70,.iv (.int .i64 0))] (ob []):=by
     intro h;have h4:rdg n (k+1) [w0]=QR f [w0] 1:=by simp[rdg,h,hf]
     rw[h4];exact outer
    rcases w0 with _ | ⟨c,_ | ⟨d,w0⟩⟩
    ·simp at go |-
     exact go rfl
    ·have h6:c.toNat<256:=c.toNat_lt
     by_cases h7:97<=c.toNat/\c.toNat-97<n
     ·have h8:IntKind.wrap .i64 (c.toNat:Int)=c.toNat:=wrap_i64 (by omega) (by omega)
      have h9:rdg n (k+1) [[c]]=[.fact (c.toNat-97)]:=by simp[rdg,Z3,h7]
      have h10:(97:Int)<=c.toNat:=by omega
      have h11:(c.toNat:Int)-97<n:=by omega
      have h12:((c.toNat-97:Nat):Int)=(c.toNat:Int)-97:=by omega
      rw[h9];simp[h8,h10,h11,Qca,h12];omega
     ·have h8:IntKind.wrap .i64 (c.toNat:Int)=c.toNat:=wrap_i64 (by omega) (by omega)
      have go':=go (by simp[Z3];omega)
      simp[h8] at go' |-;refine ⟨by omega,fun a=>⟨fun b=>absurd ⟨by omega,by omega⟩ h7,fun _=>go'⟩,fun _=>go'⟩
    ·have go':=go rfl
     simp at go' |-;exact ⟨fun h=>by omega,fun _=>go'⟩
   ·have h4:rdg n (k+1) (w0::w1::rest)=QR f (w0::w1::rest) (w0::w1::rest).length:=by simp[rdg,Z3,hf]
    have h5:(1:Int)<(rest.length:Int)+1+1:=by omega
    have h6:¬ (rest.length:Int)+1+1=1:=by omega
    rw[h4];by_cases h2:w0=QeM
    ·have h3:Zv f (w0::w1::rest)=(f (w1::rest)).map .no:=by simp[Zv,h2]
     rw[h3] at outer;have h7:((rest.length:Int)+1+1).toNat=rest.length+2:=by omega
     have h8:=small (w1::rest) (by simp at hw |-;omega)
     simp[QeM] at h2;simp[h2,h5,h6,h7];refine fun _=>⟨by omega,fun _=>?_⟩
     refine Qd (IH (w1::rest) (by simp at hw |-;omega)) (by simp) ?_
     simp;intro _;refine QtU _ _ _ _ h8 ?_;rw[Qa Go.Pf.c50_b0.eq_1];subst h2;simp at outer |-;exact fun _=>outer
    ·have h3:Zv f (w0::w1::rest)=[]:=by simp[Zv,h2]
     rw[h3] at outer;simp[QeM] at h2;simp at outer;simp[h2,h5,h6];exact fun _=>outer
end
end Go.Pp
namespace Go.Pp
open Go Go.Ev Go.Proofs Go.RowKit
open Go.Pf (c34_b0 c34_b1 c34_b2 c34_b3 c34_b4 c34_ok)
def QdI:Rd->Nat
 | .fact n=>ZM n 64
 | .no r=>18446744073709551615 ^^^ QdI r
 | .bin o a b=>QgA o.word (QdI a) (QdI b)
theorem Vb:∀ r:Rd,QdI r<2 ^ 64
 | .fact n=>qh n 64 (by omega)
 | .no r=>Nat.xor_lt_two_pow (by omega) (Vb r)
 | .bin o a b=>by
   have ha:=Vb a;have hb:=Vb b;simp only[QdI,QgA];split
   ·exact Nat.and_lt_two_pow _ hb
   ·split
    ·exact QCq ha hb
    ·exact QCq ha (Nat.xor_lt_two_pow (by omega) hb)
@[simp] def QAK (r:Rd):List IV:=[.str (text r),.int .u64 (QdI r:Nat)]
@[simp] def rrs (L:List Rd):IV:=.sl 2 (L.map fun r=>[.str (text r),.int .u64 (QdI r:Nat)])
@[simp] def ob2 (L:List Rd):Qi:=[(5,AO.arr 128 2 (emb (L.map fun r=>[.str (text r),.int .u64 (QdI r:Nat)])) 0)]
theorem JJ (n:Nat):∀ (k:Nat) (ws:List W) (r:Rd),r∈rdg n k ws->(text r).length<=9*ws.length
 | 0,ws,r=>by simp[rdg]
 | k+1,ws,r=>by
   simp only[rdg];split
   ·rename_i m hm
    have:=(VA hm).1;intro h;simp at h;subst h;simp[text,this]
   ·intro h
    simp only[QR,QA7] at h;rcases h with h | h
    ·unfold Zv at h
     split at h
     ·rename_i hc
      rw[QBl] at h;obtain ⟨a,ha,rfl⟩:=h;have:=JJ n k _ a ha;simp[text] at this |-;omega
     ·simp at h
    ·rw[QBJ] at h
     obtain ⟨i,hi,h⟩:=h;simp at hi;unfold QT at h;split at h
     ·simp at h
     ·split at h
      ·simp at h
      ·rename_i o _
       unfold QH at h;rw[QBJ] at h;obtain ⟨a,ha,h⟩:=h;rw[QBl] at h;obtain ⟨b,hb,rfl⟩:=h;have h1:=JJ n k _ a ha;have h2:=JJ n k _ b hb;have h3:o.word.length<=3:=by cases o<;>decide
       simp[text] at h1 h2 |-;omega
theorem qS (n:Nat) (hn:n<=6):∀ (k:Nat) (ws:List W) (r:Rd),r∈rdg n k ws->fok r
 | 0,ws,r=>by simp[rdg]
 | k+1,ws,r=>by
   simp only[rdg];split
   ·rename_i m hm
    have:=(VA hm).2;intro h;simp at h;subst h;simp[fok];omega
   ·intro h
    simp only[QR,QA7] at h;rcases h with h | h
    ·unfold Zv at h
     split at h
     ·rename_i hc
      rw[QBl] at h;obtain ⟨a,ha,rfl⟩:=h;exact qS n hn k _ a ha
     ·simp at h
    ·rw[QBJ] at h
     obtain ⟨i,hi,h⟩:=h;unfold QT at h;split at h
     ·simp at h
     ·split at h
      ·simp at h
      ·unfold QH at h
       rw[QBJ] at h;obtain ⟨a,ha,h⟩:=h;rw[QBl] at h;obtain ⟨b,hb,rfl⟩:=h;exact ⟨qS n hn k _ a ha,qS n hn k _ b hb⟩
theorem Qbf {w:W} {o:Op} (h:Qgg w=some o):w=o.word:=by
 unfold Qgg at h;split at h
 ·injection h with h;subst h;assumption
 ·split at h
  ·injection h with h;subst h;assumption
  ·split at h
   ·injection h with h;subst h;assumption
   ·cases h
def Je (w:W) (n:Nat):List Rd:=((List.range n).filter fun m=>decide (w=[UInt8.ofNat (97+m)])).map Rd.fact
theorem qi (w:W) (n:Nat):Je w (n+1)=Je w n++(if w=[UInt8.ofNat (97+n)] then [.fact n] else []):=by
 simp only[Je,QBD,QCj,QBE]
 congr 1
 by_cases h:w=[UInt8.ofNat (97+n)]
 ·rw[if_pos h]
  simp only[List.filter_cons,decide_eq_true h,if_true,List.filter_nil,QBf,List.map_nil]
 ·rw[if_neg h]
  simp only[List.filter_cons,decide_eq_false h,List.filter_nil,QBi,if_false,List.map_nil]
theorem QbF (w:W) (n:Nat):(Je w n).length<=n:=by
 have:=QCa (fun m=>decide (w=[UInt8.ofNat (97+m)])) (List.range n)
 simpa[Je] using this
theorem Qeq (w:W):∀ n,n<=6->Je w n=(match Z3 n [w] with | some m=>[.fact m] | none=>[])
 | 0,_=>by
   rcases w with _ | ⟨c,_ | ⟨d,w⟩⟩<;>simp[Je,Z3]
 | n+1,h=>by
   rw[qi,Qeq w n (by omega)]
   rcases w with _ | ⟨c,_ | ⟨d,w⟩⟩
   ·simp[Z3]
   ·have h1:c=UInt8.ofNat (97+n)↔c.toNat=97+n:=by
     rw[<- UInt8.toNat_inj];simp;omega
    simp only[Z3,List.cons.injEq,and_true,h1];by_cases h2:97<=c.toNat/\c.toNat-97<n
    ·have h3:97<=c.toNat/\c.toNat-97<n+1:=by omega
     have h4:¬ c.toNat=97+n:=by omega
     rw[if_pos h2,if_pos h3,if_neg h4];simp
    ·by_cases h4:c.toNat=97+n
     ·have h3:97<=c.toNat/\c.toNat-97<n+1:=by omega
      have h5:c.toNat-97=n:=by omega
      rw[if_neg h2,if_pos h3,if_pos h4];simp[h5]
     ·have h3:¬ (97<=c.toNat/\c.toNat-97<n+1):=by omega
      rw[if_neg h2,if_neg h3,if_neg h4];simp
   ·simp[Z3]
section
variable {K:World->Prop} {r:IV}
theorem QtV (X0 X1:IV) (A:List Rd) (kk:List AI) (hA:A.length<=323) (hT:∀ a∈A,(text a).length<=1000)
  (h:QK Tryz.prog K (FnF (QW [ZG.tmp 4] r)) c34_b1 [0,1,5,7,8] [5] kk
    [(0,.iv X0),(1,.iv X1),(5,AV.aref 5 (A.map Rd.no).length),(7,.iv (rrs A)),(8,AV.iv (.int .i64 (A.length:Nat)))] (ob2 (A.map Rd.no))) :
  QK Tryz.prog K (FnF (QW [ZG.tmp 4] r)) c34_b1 [0,1,5,7,8] [5] kk
   [(0,.iv X0),(1,.iv X1),(5,AV.aref 5 0),(7,.iv (rrs A)),(8,AV.iv (.int .i64 0))] (ob2 []):=by
 have:=QX (P:=Tryz.prog) (K:=K) (F:=FnF (QW [ZG.tmp 4] r)) (c:=c34_b1) (ks:=[0,1,5,7,8]) (ids:=[5]) (k:=kk)
  (fun m=>[(0,.iv X0),(1,.iv X1),(5,AV.aref 5 ((A.take m).map Rd.no).length),(7,.iv (rrs A)),(8,AV.iv (.int .i64 (m:Nat)))])
  (fun m=>ob2 ((A.take m).map Rd.no)) A.length (by rw[QBo];exact h) (fun i hi ih=>?_)
 ·simpa using this
 ·have e1:(A.take (i+1)).map Rd.no=(A.take i).map Rd.no++[Rd.no A[i]]:=by
   rw[QA3 hi,QBE];rfl
  have e2:((A.take i).map Rd.no).length<=323:=by
   simp;omega
  have e3:=hT _ (QBc hi);have e4:=QfI 18446744073709551615 (QdI A[i]) (by omega) (Vb _)
  rw[e1] at ih;generalize (A.take i).map Rd.no=Y at *;rw[Qa Go.Pf.c34_b1.eq_1];simp[QdI,text] at ih e4;simp[hi,e4];intro _;exact ⟨by omega,by omega,by omega,by omega,ih⟩
variable (hK:∀ w w',K w->Below w.heap.size w w'->K w')
include hK
theorem QmD (o:Op) (ws:List W) (at':Nat) (hat:at'<ws.length) (hw:ws[at']=o.word) (X1:IV) (A B L:List Rd) (j:Nat) (hj:j<A.length) (kk:List AI) (hb:L.length+B.length<=1000000000)
  (hA:∀ a∈A,(text a).length<=1000) (hB:∀ a∈B,(text a).length<=1000)
  (h:QK Tryz.prog K (FnF (QW [ZG.tmp 4] r)) c34_b2 [0,1,5,9,10,11,12,13] [5] kk
    [(0,.iv (strs ws)),(1,.iv X1),(5,AV.aref 5 (L++B.map (Rd.bin o A[j])).length),(9,.iv (.int .i64 (at':Nat))),(10,.iv (rrs A)),(11,.iv (rrs B)),(12,.iv (.int .i64 (j:Nat))),(13,.iv (.int .i64 (B.length:Nat)))] (ob2 (L++B.map (Rd.bin o A[j])))) :
  QK Tryz.prog K (FnF (QW [ZG.tmp 4] r)) c34_b2 [0,1,5,9,10,11,12,13] [5] kk
   [(0,.iv (strs ws)),(1,.iv X1),(5,AV.aref 5 L.length),(9,.iv (.int .i64 (at':Nat))),(10,.iv (rrs A)),(11,.iv (rrs B)),(12,.iv (.int .i64 (j:Nat))),(13,.iv (.int .i64 0))] (ob2 L):=by
 have:=QX (P:=Tryz.prog) (K:=K) (F:=FnF (QW [ZG.tmp 4] r)) (c:=c34_b2) (ks:=[0,1,5,9,10,11,12,13]) (ids:=[5]) (k:=kk)
  (fun m=>[(0,.iv (strs ws)),(1,.iv X1),(5,AV.aref 5 (L++(B.take m).map (Rd.bin o A[j])).length),(9,.iv (.int .i64 (at':Nat))),(10,.iv (rrs A)),(11,.iv (rrs B)),(12,.iv (.int .i64 (j:Nat))),(13,.iv (.int .i64 (m:Nat)))])
  (fun m=>ob2 (L++(B.take m).map (Rd.bin o A[j]))) B.length (by rw[QBo];exact h) (fun i hi ih=>?_)
 ·simpa using this
 ·have e1:L++(B.take (i+1)).map (Rd.bin o A[j])=(L++(B.take i).map (Rd.bin o A[j]))++[Rd.bin o A[j] B[i]]:=by
   rw[QA3 hi,QBE,<- QBB];rfl
  have e2:(L++(B.take i).map (Rd.bin o A[j])).length<=1000000000:=by
   simp;omega
  have e3:=hA _ (QBc hj);have e4:=hB _ (QBc hi);have e5:o.word.length<=3:=by cases o<;>decide
  rw[e1] at ih;generalize L++(B.take i).map (Rd.bin o A[j])=Y at *;rw[Qa Go.Pf.c34_b2.eq_1];simp[QdI,text] at ih;simp[hi,hj,hat,hw];intro _;refine ⟨by omega,by omega,by omega,by omega,by omega,by omega,?_⟩
  refine Qd (Qrq hK o.word (QdI A[j]) (QdI B[i]) (Vb _) (Vb _)) (by simp) ?_
  simp;exact ⟨by omega,by omega,ih⟩
theorem Qt0 (o:Op) (ws:List W) (at':Nat) (hat:at'<ws.length) (hw:ws[at']=o.word) (X1:IV) (A B L:List Rd) (kk:List AI) (hA:A.length<=323) (hB:B.length<=323) (hL:L.length<=9000000)
  (hTA:∀ a∈A,(text a).length<=1000) (hTB:∀ a∈B,(text a).length<=1000)
  (h:QK Tryz.prog K (FnF (QW [ZG.tmp 4] r)) c34_b3 [0,1,5,9,10,11,12] [5] kk
    [(0,.iv (strs ws)),(1,.iv X1),(5,AV.aref 5 (L++QH o A B).length),(9,.iv (.int .i64 (at':Nat))),(10,.iv (rrs A)),(11,.iv (rrs B)),(12,.iv (.int .i64 (A.length:Nat)))] (ob2 (L++QH o A B))) :
  QK Tryz.prog K (FnF (QW [ZG.tmp 4] r)) c34_b3 [0,1,5,9,10,11,12] [5] kk
   [(0,.iv (strs ws)),(1,.iv X1),(5,AV.aref 5 L.length),(9,.iv (.int .i64 (at':Nat))),(10,.iv (rrs A)),(11,.iv (rrs B)),(12,.iv (.int .i64 0))] (ob2 L):=by
 have:=QX (P:=Tryz.prog) (K:=K) (F:=FnF (QW [ZG.tmp 4] r)) (c:=c34_b3) (ks:=[0,1,5,9,10,11,12]) (ids:=[5]) (k:=kk)
  (fun m=>[(0,.iv (strs ws)),(1,.iv X1),(5,AV.aref 5 (L++QH o (A.take m) B).length),(9,.iv (.int .i64 (at':Nat))),(10,.iv (rrs A)),(11,.iv (rrs B)),(12,.iv (.int .i64 (m:Nat)))])
  (fun m=>ob2 (L++QH o (A.take m) B)) A.length (by rw[QBo];exact h) (fun i hi ih=>?_)
 ·simpa[QH] using this
 ·have e2:(L++QH o (A.take i) B).length<=100000000:=by
   rw[QBa,YA,QBT,QBC (by omega)]
   have:=Nat.mul_le_mul (show i<=323 by omega) hB
   omega
  rw[W6 o A B i hi,<- QBB] at ih;generalize L++QH o (A.take i) B=Y at *;rw[Qa Go.Pf.c34_b3.eq_1];simp[hi];intro _
  have:=QmD (K:=K) (r:=r) hK o ws at' hat hw X1 A B Y i hi
   (AI.inBlock 8::.inBlock 7::.code (.ops [⟨some 105,none,.mov (.t 12)⟩,⟨some 106,none,.bin .add (.t 105) (.int .i64 1)⟩,⟨some 12,none,.mov (.t 106)⟩] false)::.inLoop c34_b3 [0,1,5,9,10,11,12] [5]::kk) (by omega) hTA hTB ?_
  ·simpa using this
  ·rw[Qa Go.Pf.c34_b2.eq_1]
   simp at ih |-;exact fun _=>⟨by omega,ih⟩
theorem QrS (w:W) (n:Nat) (hn:n<=6) (kk:List AI)
  (h:QK Tryz.prog K (FnF (QW [ZG.tmp 4] r)) c34_b0 [0,1,5,6] [5] kk
    [(0,.iv (strs [w])),(1,.iv (.int .i64 n)),(5,AV.aref 5 (Je w n).length),(6,AV.iv (.int .i64 n))] (ob2 (Je w n))) :
  QK Tryz.prog K (FnF (QW [ZG.tmp 4] r)) c34_b0 [0,1,5,6] [5] kk
   [(0,.iv (strs [w])),(1,.iv (.int .i64 n)),(5,AV.aref 5 0),(6,AV.iv (.int .i64 0))] (ob2 []):=by
 have:=QX (P:=Tryz.prog) (K:=K) (F:=FnF (QW [ZG.tmp 4] r)) (c:=c34_b0) (ks:=[0,1,5,6]) (ids:=[5]) (k:=kk)
  (fun m=>[(0,.iv (strs [w])),(1,.iv (.int .i64 n)),(5,AV.aref 5 (Je w m).length),(6,AV.iv (.int .i64 (m:Nat)))])
  (fun m=>ob2 (Je w m)) n h (fun i hi ih=>?_)
 ·simpa[Je] using this
 ·have e2:=QbF w i
  have e3:IntKind.wrap .u8 (97+(i:Int))=97+i:=QfJ (by omega) (by omega)
  have e4:(97+(i:Int)).toNat=97+i:=by omega
  have e5:(97+i) % 256=97+i:=by omega
  have hi':(i:Int)<n:=by omega
  rw[qi] at ih;rw[Qa Go.Pf.c34_b0.eq_1];by_cases hw:w=[UInt8.ofNat (97+i)]
  ·rw[if_pos hw] at ih
   generalize hY:Je w i=Y at *;simp[hi',e3,e4,bytesOf,byteOf,ZA];refine ⟨by omega,by omega,fun _=>?_,fun e=>?_⟩
   ·refine Qd (Qrs hK i (by omega)) (by simp) ?_
    have e6:text (Rd.fact i)=w:=hw.symm;have e7:QdI (Rd.fact i)=ZM i 64:=rfl;simp[e6,e7] at ih |-;exact ⟨by omega,by omega,ih⟩
   ·exact absurd (by simpa using hw) e
  ·rw[if_neg hw] at ih
   simp[hi',e3,e4,bytesOf,ZA];refine ⟨by omega,by omega,fun e=>?_,fun e=>⟨by omega,?_⟩⟩
   ·exact absurd (by simpa using e) hw
   ·simpa using ih
theorem Qlw (n:Nat) (hn:n<=6):∀ (k:Nat),k<=9->∀ ws:List W,ws.length<=k->Ev.Good Tryz.prog K 34 [strs ws,.int .i64 n] (rrs (rdg n k ws))
 | 0,_,ws,hw=>by
   have:ws=[]:=List.length_eq_zero_iff.1 (by omega)
   subst this;refine Qb hK c34_ok (by simp) ?_
   simp[rdg];rw[Qa Go.Pf.c34_b4.eq_1];simp
 | k+1,hk,ws,hw=>by
   have IH:=Qlw n hn k (by omega)
   have small:∀ ws:List W,ws.length<=k->(rdg n k ws).length<=323:=fun ws h=>UJ (by omega) (by omega)
   have tex:∀ ws:List W,ws.length<=k->∀ a∈rdg n k ws,(text a).length<=1000:=fun ws h a ha=>by
    have:=JJ n k ws a ha;omega
   refine Qb hK c34_ok (by simp) ?_
   generalize hf:rdg n k=f at *
   have outer:2<=ws.length->QK Tryz.prog K (FnF (QW [ZG.tmp 4] (rrs (QR f ws ws.length)))) c34_b4 [0,1,5,9] [5] [AI.inBlock 4,AI.code (.seq (.ops [⟨some 152,none,.mov (.t 5)⟩,⟨some 4,none,.mov (.t 152)⟩] false) .ret)]
     [(0,.iv (strs ws)),(1,.iv (.int .i64 n)),(5,.aref 5 (Zv f ws).length),(9,.iv (.int .i64 1))] (ob2 (Zv f ws)):=by
    intro h2;obtain ⟨m,hm⟩:∃ m,ws.length=m+2:=⟨ws.length-2,by omega⟩
    have:=QX (P:=Tryz.prog) (K:=K) (F:=FnF (QW [ZG.tmp 4] (rrs (QR f ws ws.length)))) (c:=c34_b4) (ks:=[0,1,5,9]) (ids:=[5]) (k:=[AI.inBlock 4,AI.code (.seq (.ops [⟨some 152,none,.mov (.t 5)⟩,⟨some 4,none,.mov (.t 152)⟩] false) .ret)])
     (fun i=>[(0,.iv (strs ws)),(1,.iv (.int .i64 n)),(5,.aref 5 (QR f ws (i+1)).length),(9,.iv (.int .i64 ((i+1:Nat):Int)))])
     (fun i=>ob2 (QR f ws (i+1))) m ?_ (fun i hi ih=>?_)
    ·simpa[QR,QT,QBD] using this
    ·have e1:QR f ws (m+1)=QR f ws ws.length:=by
      have e3:QT f ws (m+1)=[]:=by simp[QT,hm]
      rw[hm];simp only[QR,QBD (n:=m+1),List.flatMap_append,QCe,List.flatMap_nil,e3,QB5]
     rw[e1];have e4:¬ ((m:Int)+1<(ws.length:Int)-1):=by omega
     rw[Qa Go.Pf.c34_b4.eq_1];generalize QR f ws ws.length=Y at *;simp[e4];omega
    ·have hi':i+1<ws.length:=by omega
     have e4:(i:Int)+1<(ws.length:Int)-1:=by omega
     have e1:QR f ws (i+1+1)=QR f ws (i+1)++QT f ws (i+1):=by
      simp[QR,QBD]
     have e2:(QR f ws (i+1)).length<=8000000:=by
      have h1:(Zv f ws).length<=323:=by
       unfold Zv;split
       ·rw[QBb]
        exact small _ (by simp;omega)
       ·simp
      have h2:((List.range (i+1)).flatMap (QT f ws)).length<=(i+1)*(323*323):=by
       refine QBY (Zq _ (323*323) _ fun x hx=>?_) (by simp)
       simp at hx;unfold QT;split
       ·simp
       ·split
        ·simp
        ·rw[YA]
         exact Nat.mul_le_mul (small _ (by simp;omega)) (small _ (by simp;omega))
      simp only[QR,QBa];omega
     rw[e1] at ih;generalize QR f ws (i+1)=Y at *;have e5:((i:Int)+1).toNat=i+1:=by omega
     rw[Qa Go.Pf.c34_b4.eq_1];simp[e4,hi',e5];intro _;refine ⟨by omega,by omega,?_⟩
     refine Qd (Qrr hK ws[i+1]) (by simp) ?_
     simp;refine ⟨fun e=>⟨by omega,?_⟩,fun e=>⟨by omega,fun _=>?_⟩⟩
     ·have e6:Qgg ws[i+1]=none:=by simpa[Qmy] using e
      have e7:QT f ws (i+1)=[]:=by simp[QT,hi',e6]
      rw[e7] at ih;simpa using ih
     ·obtain ⟨o,ho⟩:∃ o,Qgg ws[i+1]=some o:=QBy.1 e
      have e6:ws[i+1]=o.word:=Qbf ho;have e7:((i:Int)+1+1).toNat=i+1+1:=by omega
      have c1:¬ i+1+1=ws.length:=by omega
      have e8:QT f ws (i+1)=QH o (f (ws.take (i+1))) (f (ws.drop (i+1+1))):=by
       simp[QT,hi',ho,c1]
      rw[e8] at ih;rw[<- QCB];refine Qd (IH (ws.take (i+1)) (by simp;omega)) (by simp) ?_
      simp[e7];refine ⟨by omega,by omega,fun _=>?_⟩
      rw[<- QCC];refine Qd (IH (ws.drop (i+1+1)) (by simp;omega)) (by simp) ?_
      simp
      have:=Qt0 (K:=K) (r:=rrs (QR f ws ws.length)) hK o ws (i+1) hi' e6 (.int .i64 n) (f (ws.take (i+1))) (f (ws.drop (i+1+1))) Y
       [.inBlock 6,.inBlock 5,.code (.ops [⟨some 82,none,.mov (.t 9)⟩,⟨some 83,none,.bin .add (.t 82) (.int .i64 1)⟩,⟨some 9,none,.mov (.t 83)⟩] false),.inLoop c34_b4 [0,1,5,9] [5],AI.inBlock 4,AI.code (.seq (.ops [⟨some 152,none,.mov (.t 5)⟩,⟨some 4,none,.mov (.t 152)⟩] false) .ret)]
       (small _ (by simp;omega)) (small _ (by simp;omega)) (by omega) (tex _ (by simp;omega)) (tex _ (by simp;omega)) ?_
      ·simpa using this
      ·rw[Qa Go.Pf.c34_b3.eq_1]
       simp at ih |-;exact fun _=>⟨by omega,ih⟩
   rcases ws with _ | ⟨w0,_ | ⟨w1,rest⟩⟩
   ·have h4:rdg n (k+1) []=[]:=by simp[rdg,Z3,QR,Zv]
    rw[h4];simp;rw[Qa Go.Pf.c34_b4.eq_1];simp
   ·have h4:rdg n (k+1) [w0]=Je w0 n:=by
     rw[Qeq w0 n hn];have h5:QR (rdg n k) [w0] 1=[]:=by simp[QR,Zv,QT,QBD]
     simp only[rdg];split<;>simp_all
    rw[h4];have hl:=QbF w0 n;simp;refine QrS hK w0 n hn _ ?_;rw[Qa Go.Pf.c34_b0.eq_1];simp
   ·have h4:rdg n (k+1) (w0::w1::rest)=QR f (w0::w1::rest) (w0::w1::rest).length:=by simp[rdg,Z3,hf]
    have h5:(1:Int)<(rest.length:Int)+1+1:=by omega
    have h6:¬ (rest.length:Int)+1+1=1:=by omega
    have outer:=outer (by simp)
    rw[h4];by_cases h2:w0=QeM
    ·have h3:Zv f (w0::w1::rest)=(f (w1::rest)).map .no:=by simp[Zv,h2]
     rw[h3] at outer;have h7:((rest.length:Int)+1+1).toNat=rest.length+2:=by omega
     have h8:=small (w1::rest) (by simp at hw |-;omega)
     have h9:=tex (w1::rest) (by simp at hw |-;omega)
     simp[QeM] at h2;simp[h2,h5,h6,h7];refine fun _=>⟨by omega,fun _=>?_⟩
     refine Qd (IH (w1::rest) (by simp at hw |-;omega)) (by simp) ?_
     simp;refine QtV _ _ _ _ h8 h9 ?_;rw[Qa Go.Pf.c34_b1.eq_1];subst h2;simp at outer |-;exact fun _=>outer
    ·have h3:Zv f (w0::w1::rest)=[]:=by simp[Zv,h2]
     rw[h3] at outer;simp[QeM] at h2;simp at outer;simp[h2,h5,h6];exact fun _=>outer
end
end Go.Pp
namespace Go.Pp
open Go Go.Ev Go.Proofs Go.RowKit
open Go.Pf (c31_b0 c31_b1 c31_b2 c31_ok)
def Jg (ts:List Nat) (i:Nat) (k:Int):List Nat:=if k=1 then ts.map (· ||| 2 ^ i) else if k=3 then ts++ts.map (· ||| 2 ^ i) else ts
def trN (fs:List Int):Nat->List Nat
 | 0=>[0]
 | i+1=>Jg (trN fs i) i (fs.getD i 0)
theorem Qcn (fs:List Int):∀ i,(trN fs i).length<=2 ^ i
 | 0=>by simp[trN]
 | i+1=>by
   have:=Qcn fs i;simp only[trN,Jg];rw[Nat.pow_succ];split
   ·simp;omega
   ·split
    ·simp;omega
    ·omega
theorem QfM (fs:List Int):∀ i,∀ t∈trN fs i,t<2 ^ i
 | 0=>by simp[trN]
 | i+1=>by
   have ih:=QfM fs i;have h1:∀ t∈trN fs i,t<2 ^ (i+1):=fun t ht=>QBp (ih t ht) (QBL (by omega) (by omega))
   have h2:∀ t∈(trN fs i).map (· ||| 2 ^ i),t<2 ^ (i+1):=by
    intro t ht;rw[QBl] at ht;obtain ⟨u,hu,rfl⟩:=ht;exact QCq (h1 u hu) (QCv (by omega) (by omega))
   simp only[trN,Jg];split
   ·exact h2
   ·split
    ·intro t ht
     rcases QA7.1 ht with c | c
     ·exact h1 t c
     ·exact h2 t c
    ·exact h1
@[simp] def ob3 (T:List Nat) (mv n:Nat):Qi:=[(16,AO.arr 121 1 (emb (T.map fun t=>[.int .u64 (t:Nat)])) mv),(18,AO.box [.iv (.sl 1 []),.aref 16 n])]
def Qe5 (T:List Nat) (b m:Nat):List Nat:=(T.take m).map (· ||| b)++T.drop m
theorem QiU (T:List Nat) (b m:Nat):(Qe5 T b m).length=T.length:=by
 simp[Qe5];omega
theorem QiV (T:List Nat) (b m:Nat) (h:m<T.length):(Qe5 T b m)[m]?=some T[m]:=by
 unfold Qe5;rw[QBe (by simp;omega)]
 simp[QBC (Nat.le_of_lt h),h]
theorem QiT (T:List Nat) (b m:Nat) (h:m<T.length):(Qe5 T b m).set m (T[m] ||| b)=Qe5 T b (m+1):=by
 apply QCt;intro i;simp only[Qe5,QCr,List.getElem?_append,QA9,QBx,QBR,QBb,QBT,QBa,List.length_drop];by_cases h1:m=i
 ·subst h1
  have h5:¬ T.length-m=0:=by omega
  simp[QBC (Nat.le_of_lt h),QBC (show m+1<=T.length from h),h,h5]
 ·by_cases h2:i<m
  ·have h3:i<m+1:=by omega
   simp[QBC (Nat.le_of_lt h),QBC (show m+1<=T.length from h),h1,h2,h3]
  ·have h3:¬ i<m+1:=by omega
   have h4:m+(i-m)=m+1+(i-(m+1)):=by omega
   simp[QBC (Nat.le_of_lt h),QBC (show m+1<=T.length from h),h1,h2,h3,h4]
def Zz (fs:List Int):Bool:=fs.all (fun k=>decide (1<=k)&&decide (k<=3))&&decide (fs.length<=6)
def rs (s:W) (fs:List Int):List Rd:=if Zz fs=true/\(spl s).length<=9 then rdg fs.length 9 (spl s) else []
def err (s:W) (fs:List Int):Int:=if Zz fs=false then 130 else if rs s fs=[] then 131 else 0
def tru (fs:List Int):List Nat:=trN fs fs.length
def pap (s:W) (fs:List Int):IV:=if err s fs=0 then .ptr [rds (rs s fs),Qmm (tru fs)] else .nilp
section
variable {K:World->Prop} {r:IV}
theorem Qqo (X1 X20 X21 X22:IV) (T:List Nat) (i mv:Nat) (hi:i<6) (hT:T.length<=64) (ht:∀ t∈T,t<64) (hm:mv<=T.length) (kk:List AI)
  (h:∀ mv,mv<=T.length->QK Tryz.prog K (FnF (QW [ZG.tmp 2,ZG.tmp 3] r)) c31_b0 [1,4,7,20,21,22,36,37] [16,18] kk
    [(1,.iv X1),(4,.loc 18 0),(7,.iv (.int .u64 (2 ^ i:Nat))),(20,.iv X20),(21,.iv X21),(22,.iv X22),(36,.iv (.int .i64 (T.length:Nat))),(37,.iv (.int .i64 (T.length:Nat)))] (ob3 (T.map (· ||| 2 ^ i)) mv T.length)) :
  QK Tryz.prog K (FnF (QW [ZG.tmp 2,ZG.tmp 3] r)) c31_b0 [1,4,7,20,21,22,36,37] [16,18] kk
   [(1,.iv X1),(4,.loc 18 0),(7,.iv (.int .u64 (2 ^ i:Nat))),(20,.iv X20),(21,.iv X21),(22,.iv X22),(36,.iv (.int .i64 (T.length:Nat))),(37,.iv (.int .i64 0))] (ob3 T mv T.length):=by
 refine Qbj T.length (fun m e o=>∃ mv,mv<=T.length /\
  e=[(1,.iv X1),(4,.loc 18 0),(7,.iv (.int .u64 (2 ^ i:Nat))),(20,.iv X20),(21,.iv X21),(22,.iv X22),(36,.iv (.int .i64 (T.length:Nat))),(37,.iv (.int .i64 (m:Nat)))] /\
  o=ob3 (Qe5 T (2 ^ i) m) mv T.length) ?_ ?_ _ _ ⟨mv,hm,rfl,by simp[Qe5]⟩
 ·rintro e o ⟨mv,h1,rfl,rfl⟩
  have:Qe5 T (2 ^ i) T.length=T.map (· ||| 2 ^ i):=by simp[Qe5]
  rw[this];exact h mv h1
 ·rintro m e o hi' ⟨mv,h1,rfl,rfl⟩ ih
  have e1:=QiV T (2 ^ i) m hi';have e2:=QiU T (2 ^ i) m;have e3:=QiT T (2 ^ i) m hi';have e4:=ht _ (QBc hi');have e5:2 ^ i<=2 ^ 5:=QBL (by omega) (by omega)
  have e6:YM .or .u64 (T[m]:Int) (2 ^ i)=((T[m] ||| 2 ^ i:Nat):Int):=by
   have:=W7 T[m] (2 ^ i) (by omega) (by omega)
   rw[<- this];simp
  have ih':=fun mv h=>ih _ _ ⟨mv,h,rfl,rfl⟩
  generalize Qe5 T (2 ^ i) m=Y at *;have e7:m<Y.length:=by omega
  have e8:Y[m]=T[m]:=by
   rw[QA0 e7] at e1;injection e1
  have e9:(Y.map fun t=>[IV.int .u64 (t:Nat)]).set m [IV.int .u64 ((T[m] ||| 2 ^ i:Nat):Int)]=(Qe5 T (2 ^ i) (m+1)).map fun t=>[IV.int .u64 (t:Nat)]:=by
   rw[<- e3,List.map_set]
  have:=ih' T.length (QA8 _);rw[Qa Go.Pf.c31_b0.eq_1];simp[hi',e2,e6,e8,e9];simp at this;exact ⟨h1,by omega,this⟩
theorem Qq1 (X1 X20 X21 X22:IV) (T:List Nat) (i mv:Nat) (hi:i<6) (hT:T.length<=64) (ht:∀ t∈T,t<64) (hm:mv<=T.length) (kk:List AI)
  (h:QK Tryz.prog K (FnF (QW [ZG.tmp 2,ZG.tmp 3] r)) c31_b1 [1,4,7,20,21,22,58,59,60] [16,18] kk
    [(1,.iv X1),(4,.loc 18 0),(7,.iv (.int .u64 (2 ^ i:Nat))),(20,.iv X20),(21,.iv X21),(22,.iv X22),(58,.aref 16 T.length),(59,.iv (.int .i64 (T.length:Nat))),(60,.iv (.int .i64 (T.length:Nat)))] (ob3 (T++T.map (· ||| 2 ^ i)) mv (T++T.map (· ||| 2 ^ i)).length)) :
  QK Tryz.prog K (FnF (QW [ZG.tmp 2,ZG.tmp 3] r)) c31_b1 [1,4,7,20,21,22,58,59,60] [16,18] kk
   [(1,.iv X1),(4,.loc 18 0),(7,.iv (.int .u64 (2 ^ i:Nat))),(20,.iv X20),(21,.iv X21),(22,.iv X22),(58,.aref 16 T.length),(59,.iv (.int .i64 (T.length:Nat))),(60,.iv (.int .i64 0))] (ob3 T mv T.length):=by
 have:=QX (P:=Tryz.prog) (K:=K) (F:=FnF (QW [ZG.tmp 2,ZG.tmp 3] r)) (c:=c31_b1) (ks:=[1,4,7,20,21,22,58,59,60]) (ids:=[16,18]) (k:=kk)
  (fun m=>[(1,.iv X1),(4,.loc 18 0),(7,.iv (.int .u64 (2 ^ i:Nat))),(20,.iv X20),(21,.iv X21),(22,.iv X22),(58,.aref 16 T.length),(59,.iv (.int .i64 (T.length:Nat))),(60,.iv (.int .i64 (m:Nat)))])
  (fun m=>ob3 (T++(T.take m).map (· ||| 2 ^ i)) mv (T++(T.take m).map (· ||| 2 ^ i)).length) T.length (by rw[QBo];exact h) (fun m hi' ih=>?_)
 ·simpa using this
 ·have e1:T++(T.take (m+1)).map (· ||| 2 ^ i)=(T++(T.take m).map (· ||| 2 ^ i))++[T[m] ||| 2 ^ i]:=by
   rw[QA3 hi',QBE,<- QBB];rfl
  have e2:(T++(T.take m).map (· ||| 2 ^ i)).length<=128:=by
   simp;omega
  have e3:(T++(T.take m).map (· ||| 2 ^ i))[m]?=some T[m]:=by
   rw[QBg hi',QA0 hi']
  have e4:=ht _ (QBc hi');have e5:2 ^ i<=2 ^ 5:=QBL (by omega) (by omega)
  have e6:YM .or .u64 (T[m]:Int) (2 ^ i)=((T[m] ||| 2 ^ i:Nat):Int):=by
   have:=W7 T[m] (2 ^ i) (by omega) (by omega)
   rw[<- this];simp
  have e7:T.length<=(T++(T.take m).map (· ||| 2 ^ i)).length:=by simp
  rw[e1] at ih;generalize T++(T.take m).map (· ||| 2 ^ i)=Y at *
  rw[Qa Go.Pf.c31_b1.eq_1];simp[hi',e3,e6];simp at ih;exact ⟨⟨hm,e7⟩,hm,by omega,by omega,ih⟩
variable (hK:∀ w w',K w->Below w.heap.size w w'->K w') (hS:∀ s:W,s.length<=1000->Ev.Good Tryz.prog K 49 [.str s,.str [32]] (strs (spl s)))
include hK hS
theorem QgP (s:W) (fs:List Int) (hs:s.length<=1000) (hw:(spl s).length<=9\/11<(spl s).length):Ev.Good Tryz.prog K 31 [paperV s fs] (.tup [pap s fs,.int .i64 (err s fs)]):=by
 refine Qb hK c31_ok (by simp) ?_
 simp;intro _;refine ⟨fun e=>?_,fun e _=>?_⟩
 ·have h1:Zz fs=false:=by simp[Zz];omega
  simp[pap,err,h1]
 have hf:fs.length<=6:=by omega
 refine Qbj fs.length (fun i e o=>∃ mv,mv<=(trN fs i).length/\(∀ k∈fs.take i,1<=k/\k<=3) /\
  e=[(1,.iv (.ptr [.str s,ZF fs])),(4,.loc 18 0),(20,.iv (ZF fs)),(21,.iv (.int .i64 (fs.length:Nat))),(22,.iv (.int .i64 (i:Nat)))] /\
  o=ob3 (trN fs i) mv (trN fs i).length) ?_ ?_ _ _ ⟨0,by simp,by simp,rfl,rfl⟩
 ·rintro e o ⟨mv,h1,h2,rfl,rfl⟩
  have h3:Zz fs=true:=by
   simp at h2;simp[Zz];exact ⟨h2,hf⟩
  rw[Qa Go.Pf.c31_b2.eq_1];simp;refine Qd (hS s hs) (by simp) ?_
  simp;intro _;refine ⟨fun e=>?_,fun e=>?_⟩
  ·have h4:rs s fs=[]:=by simp[rs];omega
   simp[pap,err,h3,h4]
  ·have h4:(spl s).length<=9:=by omega
   have h5:rs s fs=rdg fs.length 9 (spl s):=by simp[rs,h3,h4]
   refine fun _=>?_
   refine Qd (Qls hK fs.length hf 9 (by omega) (spl s) h4) (by simp) ?_
   rw[<- h5];simp;refine fun _=>⟨fun e=>?_,fun e=>?_⟩
   ·simp[pap,err,h3,e]
   ·simp[h1,pap,err,h3,e,tru]
 ·rintro i e o hi ⟨mv,h1,h2,rfl,rfl⟩ ih
  have l1:=Qcn fs i;have l2:=QfM fs i;have e5:2 ^ i<=2 ^ 5:=QBL (by omega) (by omega)
  have e6:Qk5 .u64 1 (i:Int)=2 ^ i:=by
   have:=Qcv 1 i (by omega) (by omega)
   simpa using this
  have e7:trN fs (i+1)=Jg (trN fs i) i fs[i]:=by simp[trN,hi]
  have ih':=fun mv h h'=>ih _ _ ⟨mv,h,h',rfl,rfl⟩
  rw[e7] at ih';generalize trN fs i=T at *;rw[Qa Go.Pf.c31_b2.eq_1]
  have ok:1<=fs[i]/\fs[i]<=3->∀ k∈fs.take (i+1),1<=k/\k<=3:=by
   intro h k hk;rw[QA3 hi] at hk;rcases QA7.1 hk with c | c
   ·exact h2 k c
   ·rw[QBk] at c;subst c;exact h
  simp[hi,e6];refine ⟨fun f1=>⟨h1,fun _=>?_⟩,fun f1=>⟨fun f2=>⟨by omega,?_⟩,fun f2=>⟨fun f3=>⟨h1,fun _=>?_⟩,fun f3=>?_⟩⟩⟩
  ·have e8:Jg T i fs[i]=T.map (· ||| 2 ^ i):=by simp[Jg,f1]
   rw[e8] at ih'
   have:=Qqo (K:=K) (r:=.tup [pap s fs,.int .i64 (err s fs)]) (.ptr [.str s,ZF fs]) (ZF fs) (.int .i64 (fs.length:Nat)) (.int .i64 (i:Nat)) T i mv (by omega) (by omega)
    (fun t ht=>QBp (l2 t ht) (by omega)) h1
    [AI.inBlock 3,AI.inBlock 2,AI.inBlock 1,.code (.ops [⟨some 77,none,.bin .add (.t 22) (.int .i64 1)⟩,⟨some 22,none,.mov (.t 77)⟩] false),.inLoop c31_b2 [1,4,20,21,22] [16,18],AI.inBlock 0,.code (.seq (.ops [⟨some 78,none,.fld 0 (.t 1)⟩,⟨some 79,none,.ldi 1 false (.t 78)⟩,⟨some 80,none,.call 49 [.t 79,.str [32]] []⟩,⟨some 11,none,.mov (.t 80)⟩] false) (.seq (.seq (.ops [⟨some 81,none,.mov (.t 11)⟩,⟨some 82,none,.len (.t 81)⟩,⟨some 83,none,.bin .gtr (.t 82) (.int .i64 11)⟩] false) (.cond (.t 83) (.seq (.ops [⟨some 2,none,.mov (.nilp)⟩,⟨some 3,none,.mov (.int .i64 131)⟩] false) (.ret)) (.skip))) (.seq (.seq (.ops [⟨some 84,none,.mov (.t 4)⟩,⟨some 85,none,.mov (.t 11)⟩,⟨some 86,none,.fld 1 (.t 1)⟩,⟨some 87,none,.ldi 1 false (.t 86)⟩,⟨some 88,none,.len (.t 87)⟩,⟨some 89,none,.call 50 [.t 85,.t 88] []⟩,⟨some 90,none,.nilc (.t 84)⟩,⟨some 91,none,.fld 0 (.t 90)⟩,⟨none,none,.sto 18 1 (.t 91) (.t 89)⟩] false) (.seq (.ops [⟨some 92,none,.mov (.t 4)⟩,⟨some 93,none,.nilc (.t 92)⟩,⟨some 94,none,.fld 0 (.t 93)⟩,⟨some 95,none,.ldo 18 1 false (.t 94)⟩,⟨some 96,none,.len (.t 95)⟩,⟨some 97,none,.bin .eql (.t 96) (.int .i64 0)⟩] false) (.cond (.t 97) (.seq (.ops [⟨some 2,none,.mov (.nilp)⟩,⟨some 3,none,.mov (.int .i64 131)⟩] false) (.ret)) (.skip)))) (.seq (.ops [⟨some 98,none,.mov (.t 4)⟩,⟨some 2,none,.mov (.t 98)⟩,⟨some 3,none,.mov (.int .i64 0)⟩] false) (.ret)))))]
    ?_
   ·simpa using this
   ·intro mv' hm'
    have:=ih' mv' (by simpa using hm') (ok (by omega))
    rw[Qa Go.Pf.c31_b0.eq_1];simp at this |-;exact ⟨by omega,this⟩
  ·have e8:Jg T i fs[i]=T:=by simp[Jg,f2]
   rw[e8] at ih';have:=ih' mv h1 (ok (by omega))
   simpa using this
  ·have e8:Jg T i fs[i]=T++T.map (· ||| 2 ^ i):=by simp[Jg,f3]
   rw[e8] at ih'
   have:=Qq1 (K:=K) (r:=.tup [pap s fs,.int .i64 (err s fs)]) (.ptr [.str s,ZF fs]) (ZF fs) (.int .i64 (fs.length:Nat)) (.int .i64 (i:Nat)) T i mv (by omega) (by omega)
    (fun t ht=>QBp (l2 t ht) (by omega)) h1
    [AI.inBlock 5,AI.inBlock 2,AI.inBlock 1,.code (.ops [⟨some 77,none,.bin .add (.t 22) (.int .i64 1)⟩,⟨some 22,none,.mov (.t 77)⟩] false),.inLoop c31_b2 [1,4,20,21,22] [16,18],AI.inBlock 0,.code (.seq (.ops [⟨some 78,none,.fld 0 (.t 1)⟩,⟨some 79,none,.ldi 1 false (.t 78)⟩,⟨some 80,none,.call 49 [.t 79,.str [32]] []⟩,⟨some 11,none,.mov (.t 80)⟩] false) (.seq (.seq (.ops [⟨some 81,none,.mov (.t 11)⟩,⟨some 82,none,.len (.t 81)⟩,⟨some 83,none,.bin .gtr (.t 82) (.int .i64 11)⟩] false) (.cond (.t 83) (.seq (.ops [⟨some 2,none,.mov (.nilp)⟩,⟨some 3,none,.mov (.int .i64 131)⟩] false) (.ret)) (.skip))) (.seq (.seq (.ops [⟨some 84,none,.mov (.t 4)⟩,⟨some 85,none,.mov (.t 11)⟩,⟨some 86,none,.fld 1 (.t 1)⟩,⟨some 87,none,.ldi 1 false (.t 86)⟩,⟨some 88,none,.len (.t 87)⟩,⟨some 89,none,.call 50 [.t 85,.t 88] []⟩,⟨some 90,none,.nilc (.t 84)⟩,⟨some 91,none,.fld 0 (.t 90)⟩,⟨none,none,.sto 18 1 (.t 91) (.t 89)⟩] false) (.seq (.ops [⟨some 92,none,.mov (.t 4)⟩,⟨some 93,none,.nilc (.t 92)⟩,⟨some 94,none,.fld 0 (.t 93)⟩,⟨some 95,none,.ldo 18 1 false (.t 94)⟩,⟨some 96,none,.len (.t 95)⟩,⟨some 97,none,.bin .eql (.t 96) (.int .i64 0)⟩] false) (.cond (.t 97) (.seq (.ops [⟨some 2,none,.mov (.nilp)⟩,⟨some 3,none,.mov (.int .i64 131)⟩] false) (.ret)) (.skip)))) (.seq (.ops [⟨some 98,none,.mov (.t 4)⟩,⟨some 2,none,.mov (.t 98)⟩,⟨some 3,none,.mov (.int .i64 0)⟩] false) (.ret)))))]
    ?_
   ·simpa using this
   ·have:=ih' mv (by simp;omega) (ok (by omega))
    rw[Qa Go.Pf.c31_b1.eq_1];simp at this |-;exact ⟨by omega,this⟩
  ·have h3:Zz fs=false:=by
    cases hc:Zz fs with
    | false=>rfl
    | true =>
      simp[Zz] at hc;have:=hc.1 _ (QBc hi);omega
   simp[pap,err,h3]
end
end Go.Pp
namespace Go.Pp
open Go Go.Ev
theorem Vg (x:List W) (l:W) (c:UInt8):Qk (x++[l]) c=x++Qk [l] c:=by
 unfold Qk;split
 ·simp
 ·simp
theorem We (s:W):∀ (x:List W) (l:W),s.foldl Qk (x++[l])=x++s.foldl Qk [l]:=by
 induction s with
 | nil=>intro x l;rfl
 | cons c s ih =>
   intro x l;simp only[QBu];rw[Vg];by_cases h:c=32
   ·have e:Qk [l] c=[l]++[[]]:=by simp[Qk,h]
    rw[e,<- QBB,ih,ih [l] []];simp
   ·have e:Qk [l] c=[l++[c]]:=by simp[Qk,h]
    rw[e,ih]
def join:List W->W
 | []=>[]
 | [w]=>w
 | w::v::r=>w++32::join (v::r)
theorem Qel (s:W):∀ l:W,s.foldl Qk [l]≠[]:=by
 induction s with
 | nil=>intro l;simp
 | cons c s ih =>
   intro l;simp only[QBu];by_cases h:c=32
   ·have e:Qk [l] c=[l]++[[]]:=by simp[Qk,h]
    rw[e,We];simp
   ·have e:Qk [l] c=[l++[c]]:=by simp[Qk,h]
    rw[e];exact ih _
theorem join_cons (w:W) (r:List W) (h:r≠[]):join (w::r)=w++32::join r:=by
 cases r with
 | nil=>exact absurd rfl h
 | cons v r=>rfl
theorem Qfd (s:W):∀ l:W,join (s.foldl Qk [l])=l++s:=by
 induction s with
 | nil=>intro l;simp[join]
 | cons c s ih =>
   intro l;simp only[QBu];by_cases h:c=32
   ·have e:Qk [l] c=[l]++[[]]:=by simp[Qk,h]
    rw[e,We];simp only[QBA,QB4];rw[join_cons _ _ (Qel s []),ih,h];rfl
   ·have e:Qk [l] c=[l++[c]]:=by simp[Qk,h]
    rw[e,ih];simp
theorem Qi6 (s:W):join (spl s)=s:=by
 have:=Qfd s [];simpa[spl] using this
theorem QaO (a b:W):spl (a++32::b)=spl a++spl b:=by
 unfold spl;rw[QCs];have h:=Qel a [];generalize a.foldl Qk [[]]=x at *;obtain ⟨y,l,rfl⟩:∃ y l,x=y++[l]:=⟨x.dropLast,x.getLast h,(QCk h).symm⟩
 simp only[QBu];have e:Qk (y++[l]) 32=(y++[l])++[[]]:=by simp[Qk]
 rw[e,We]
theorem Qi7 (ws:List W) (c:Nat) (h:∀ w∈ws,w.length<=c):(join ws).length<=(c+1)*ws.length:=by
 induction ws with
 | nil=>simp[join]
 | cons w r ih =>
   have h1:=h w (by simp)
   have h2:=ih (fun x hx=>h x (by simp[hx]))
   by_cases hr:r=[]
   ·subst hr
    simp[join];omega
   ·rw[join_cons _ _ hr]
    simp only[QBa,QBj];rw[Nat.mul_add];omega
def Xa:Rd->List W
 | .fact n=>[[UInt8.ofNat (97+n)]]
 | .no r=>QeM::Xa r
 | .bin o a b=>Xa a++o.word::Xa b
theorem Qch (r:Rd):∀ w∈Xa r,w.length<=3:=by
 induction r with
 | fact n=>simp[Xa]
 | no r ih=>simpa[Xa,QeM] using ih
 | bin o a b ia ib =>
   intro w hw;simp only[Xa,QA7,QBh] at hw;rcases hw with h | h | h
   ·exact ia w h
   ·subst h;cases o<;>decide
   ·exact ib w h
theorem JI (n:Nat):∀ (k:Nat) (ws:List W) (r:Rd),r∈rdg n k ws->Xa r=ws
 | 0,ws,r=>by simp[rdg]
 | k+1,ws,r=>by
   simp only[rdg];split
   ·rename_i m hm
    intro h;simp at h;subst h;unfold Z3 at hm;split at hm
    ·rename_i c
     split at hm
     ·rename_i hc
      injection hm with hm
      subst hm
      have:UInt8.ofNat (97+(c.toNat-97))=c:=by
       rw[show 97+(c.toNat-97)=c.toNat by omega]
       exact UInt8.ofNat_toNat
      simp only[Xa,this]
     ·cases hm
    ·cases hm
   ·intro h
    simp only[QR,QA7] at h;rcases h with h | h
    ·unfold Zv at h
     split at h
     ·rename_i hc
      rw[QBl] at h;obtain ⟨a,ha,rfl⟩:=h;have:=JI n k _ a ha;rcases ws with _ | ⟨w,ws⟩
      ·simp at hc
      ·simp at hc this
       simp[Xa,this,hc.2]
     ·simp at h
    ·rw[QBJ] at h
     obtain ⟨i,hi,h⟩:=h;simp at hi;unfold QT at h;split at h
     ·simp at h
     ·split at h
      ·simp at h
      ·rename_i o ho
       unfold QH at h;rw[QBJ] at h;obtain ⟨a,ha,h⟩:=h;rw[QBl] at h;obtain ⟨b,hb,rfl⟩:=h;have h1:=JI n k _ a ha;have h2:=JI n k _ b hb;have h3:=Qbf ho;simp only[Xa,h1,h2,<- h3];rw[List.getD_eq_getElem?_getD,QA0 hi];simp
theorem Qgu (s:W) (fs:List Int) (h:36<s.length):rs s fs=[]:=by
 unfold rs;split
 ·rename_i hc
  rw[QCf];intro r hr;have h1:=JI _ _ _ _ hr;have h2:=Qi7 (spl s) 3 (h1▸Qch r);rw[Qi6] at h2;omega
 ·rfl
end Go.Pp
namespace Go.Pp
open Go Go.Ev Go.Proofs Go.RowKit
open Go.Pf (c13_ok c16_ok c21_ok c5_ok c8_ok)
def fit (s:W):Prop:=s.length<=1000/\((spl s).length<=9\/11<(spl s).length)
def rdAt (s:W) (fs:List Int) (n:Int):Option Rd:=if 0<=n then (rs s fs)[n.toNat]? else none
def oneE (s:W) (fs:List Int) (n:Int):Int:=if err s fs≠0 then err s fs else if (rdAt s fs n).isSome then 0 else 1
def cnt (fs:List Int) (r:Rd):Nat:=(tru fs).countP (val r)
theorem Qk8 (s:W) (fs:List Int):(rs s fs).length<=323:=by
 unfold rs;split
 ·rename_i h
  exact UJ (by omega) h.2
 ·simp
theorem rs_text (s:W) (fs:List Int):∀ r∈rs s fs,(text r).length<=81:=by
 unfold rs;split
 ·rename_i h
  intro r hr;have:=JJ _ _ _ r hr;omega
 ·simp
theorem Jy {fs:List Int} (h:Zz fs=true):fs.length<=6:=by
 simp[Zz] at h;exact h.2
theorem rs_fok (s:W) (fs:List Int):∀ r∈rs s fs,fok r:=by
 unfold rs;split
 ·rename_i h
  exact qS _ (Jy h.1) _ _
 ·simp
theorem QdP {s:W} {fs:List Int} (h:err s fs≠0):rs s fs=[]:=by
 unfold err at h;split at h
 ·rename_i h1
  simp[rs,h1]
 ·split at h
  ·assumption
  ·exact absurd rfl h
theorem QlE {s:W} {fs:List Int} (h:err s fs=0):Zz fs=true/\(spl s).length<=9/\rs s fs≠[]:=by
 unfold err at h;split at h
 ·cases h
 ·split at h
  ·cases h
  ·rename_i h1 h2
   refine ⟨by simpa using h1,?_,h2⟩
   unfold rs at h2;split at h2
   ·rename_i h3;exact h3.2
   ·exact absurd rfl h2
theorem QqO {s:W} {fs:List Int} {r:Rd} (h:r∈rs s fs):err s fs=0:=by
 by_cases h1:err s fs=0
 ·exact h1
 ·rw[QdP h1] at h;cases h
theorem QlU {fs:List Int} (h:fs.length<=6):(tru fs).length<=64:=by
 have h1:=Qcn fs fs.length;have h2:2 ^ fs.length<=2 ^ 6:=QBL (by omega) h
 unfold tru;omega
theorem Qqi {fs:List Int} (h:fs.length<=6):∀ t∈tru fs,t<64:=by
 intro t ht;have h1:=QfM fs fs.length t ht;have h2:2 ^ fs.length<=2 ^ 6:=QBL (by omega) h
 omega
theorem rdAt_mem {s:W} {fs:List Int} {n:Int} {r:Rd} (h:rdAt s fs n=some r):r∈rs s fs/\0<=n/\∃ h:n.toNat<(rs s fs).length,(rs s fs)[n.toNat]=r:=by
 unfold rdAt at h;split at h
 ·obtain ⟨h1,h2⟩:=QA2.1 h
  exact ⟨h2▸QBc h1,by assumption,h1,h2⟩
 ·cases h
theorem Qf7 {s:W} {fs:List Int} {n:Int} (h:rdAt s fs n=none):n<0\/((rs s fs).length:Int)<=n:=by
 unfold rdAt at h;split at h
 ·have:=List.getElem?_eq_none_iff.1 h
  omega
 ·omega
def writeV (s:W) (fs:List Int) (n:Int):IV:=.tup [.str (match rdAt s fs n with | some r=>text r | none=>[]),.int .i64 (oneE s fs n)]
def QwY (s:W) (fs:List Int) (n:Int):IV:=.tup [.int .i64 (match rdAt s fs n with | some r=>(cnt fs r:Nat) | none=>0),.int .i64 (oneE s fs n)]
def ZX (fs:List Int) (r:Rd):Int:=Qi5 (cnt fs r:Nat) ((tru fs).length:Nat)
def QwL (s:W) (fs:List Int) (n:Int):IV:=.tup [.int .i64 (match rdAt s fs n with | some r=>ZX fs r | none=>0),.int .i64 (oneE s fs n)]
theorem oneE_some {s:W} {fs:List Int} {n:Int} {r:Rd} (h:rdAt s fs n=some r):oneE s fs n=0:=by
 have h1:=QqO (rdAt_mem h).1;simp[oneE,h,h1]
theorem Qgh {s:W} {fs:List Int} {n:Int} (h:rdAt s fs n=none):oneE s fs n≠0:=by
 unfold oneE;split
 ·assumption
 ·simp[h]
section
variable {K:World->Prop} (hK:∀ w w',K w->Below w.heap.size w w'->K w')
include hK
theorem QrN (s:W) (fs:List Int) (hs:fit s):Ev.Good Tryz.prog K 16 [paperV s fs] (.tup [rrs (rs s fs),.int .i64 (err s fs)]):=by
 refine Qb hK c16_ok (by simp) ?_
 simp;refine Qd (QrB hK s fs) (by simp) ?_
 have hc:(fs.all (fun k=>decide (1<=k)&&decide (k<=3))&&decide (fs.length<=6))=Zz fs:=rfl
 rw[hc];cases h1:Zz fs with
 | false=>simp[rs,err,h1]
 | true =>
   have hf:=Jy h1;simp;refine ⟨fun e=>?_,fun e=>?_⟩
   ·have h2:rs s fs=[]:=Qgu s fs (by omega)
    simp[h2,err,h1]
   ·refine Qd (Qly hK s (by omega)) (by simp) ?_
    simp;refine fun _=>⟨fun e2=>?_,fun e2 _=>?_⟩
    ·have h2:rs s fs=[]:=by simp[rs];omega
     simp[h2,err,h1]
    ·have h4:(spl s).length<=9:=by rcases hs.2 with h | h<;>omega
     have h5:rs s fs=rdg fs.length 9 (spl s):=by simp[rs,h1,h4]
     refine Qd (Qlw hK fs.length hf 9 (by omega) (spl s) h4) (by simp) ?_
     rw[<- h5];simp;refine fun _=>⟨fun e=>?_,fun e=>?_⟩
     ·simp[err,h1,e]
     ·simp[err,h1,e]
theorem good5 (s:W) (fs:List Int) (hs:fit s):Ev.Good Tryz.prog K 5 [paperV s fs] (.int .i64 (err s fs)):=by
 refine Qb hK c5_ok (by simp) ?_
 simp;refine Qd (QrN hK s fs hs) (by simp) ?_
 simp
variable (hS:∀ s:W,s.length<=1000->Ev.Good Tryz.prog K 49 [.str s,.str [32]] (strs (spl s)))
include hS
theorem good13 (s:W) (fs:List Int) (hs:fit s):Ev.Good Tryz.prog K 13 [paperV s fs] (.tup [.int .i64 ((rs s fs).length:Nat),.int .i64 (err s fs)]):=by
 refine Qb hK c13_ok (by simp) ?_
 simp;refine Qd (QgP hK hS s fs hs.1 hs.2) (by simp) ?_
 by_cases h:err s fs=0
 ·simp[h,pap]
 ·simp[h,pap,QdP h]
theorem QrK (s:W) (fs:List Int) (n:Int) (hs:fit s):Ev.Good Tryz.prog K 21 [paperV s fs,.int .i64 n]
  (.tup (match rdAt s fs n with | some r=>[.ptr [rds (rs s fs),Qmm (tru fs)],enc r,.int .i64 0] | none=>[.nilp,.nilp,.int .i64 (oneE s fs n)])):=by
 refine Qb hK c21_ok (by simp) ?_
 simp;refine Qd (QgP hK hS s fs hs.1 hs.2) (by simp) ?_
 by_cases h:err s fs=0
 ·have hl:=Qk8 s fs
  cases hr:rdAt s fs n with
  | some r =>
    obtain ⟨h1,h2,h3,h4⟩:=rdAt_mem hr;have h5:n<(rs s fs).length:=by omega
    have h6:¬ n<0:=by omega
    simp[h,pap,h2,h3,h4,h5,h6]
    all_goals (try omega)
  | none =>
    have h5:=Qf7 hr;by_cases h6:n<0
    ·simp[h,pap,h6,oneE,hr]
    ·have h7:((rs s fs).length:Int)<=n:=by omega
     have h8:0<=n:=by omega
     simp[h,pap,h6,h7,h8,oneE,hr]
 ·have h1:=QdP h
  have h2:rdAt s fs n=none:=by simp[rdAt,h1]
  simp[h,pap,h2,oneE]
theorem good8 (s:W) (fs:List Int) (n:Int) (hs:fit s):Ev.Good Tryz.prog K 8 [paperV s fs,.int .i64 n] (writeV s fs n):=by
 refine Qb hK c8_ok (by simp) ?_
 simp;refine Qd (QrK hK hS s fs n hs) (by simp) ?_
 cases hr:rdAt s fs n with
 | some r =>
   have h1:=rs_text s fs r (rdAt_mem hr).1;simp[writeV,hr,oneE_some hr];refine Qd (QrJ hK r (rs_fok s fs r (rdAt_mem hr).1) (by omega)) (by simp) ?_
   simp
 | none=>simp[writeV,hr,Qgh hr]
end
open Go.Pf (c14_ok c18_ok c4_ok)
def QkC (c:Rd->Nat) (L:List Rd):Nat->Nat
 | 0=>0
 | i+1=>match L[i]?,L[QkC c L i]? with
   | some a,some b=>if c a<c b then i else QkC c L i
   | _,_=>QkC c L i
def Qtz (s:W) (fs:List Int):IV:=.tup [.int .i64 (QkC (cnt fs) (rs s fs) (rs s fs).length:Nat),.int .i64 (err s fs)]
def QhG (fs:List Int):List Rd->Int
 | []=>0
 | r::L=>if (r::L).all (fun a=>decide (ZX fs a=ZX fs r)) then ZX fs r else 3
def courtV (s:W) (fs:List Int):IV:=.tup [.int .i64 (QhG fs (rs s fs)),.int .i64 (err s fs)]
def farB (s:W) (fs:List Int):Bool:=decide (40<fs.length)||decide (100<s.length)||decide (9<(spl s).length)
def QwA (s:W) (fs:List Int):Bool:=!farB s fs&&decide (err s fs=0)
theorem fit_of_far {s:W} {fs:List Int} (h:farB s fs=false):fit s:=by
 simp[farB] at h;exact ⟨by omega,.inl h.2⟩
section
variable {K:World->Prop} (hK:∀ w w',K w->Below w.heap.size w w'->K w')
include hK
theorem good4 (s:W) (fs:List Int):Ev.Good Tryz.prog K 4 [paperV s fs] (.bool (farB s fs)):=by
 refine Qb hK c4_ok (by simp) ?_
 simp[farB];refine fun _=>⟨fun h1=>⟨fun h2=>?_,fun h2=>?_⟩,fun h1=>?_⟩
 ·refine Qd (Qly hK s (by omega)) (by simp) ?_
  have h3:¬ 40<fs.length:=by omega
  have h4:¬ 100<s.length:=by omega
  simp[h3,h4];exact fun _=>by omega
 ·omega
 ·omega
theorem good18:Ev.Good Tryz.prog K 18 [] (paperV [110,111,116,32,97,32,97,110,100,32,98,32,111,114,32,99] [3,3,1]):=by
 refine Qb hK c18_ok (by simp) ?_
 simp
variable (hS:∀ s:W,s.length<=1000->Ev.Good Tryz.prog K 49 [.str s,.str [32]] (strs (spl s)))
include hS
theorem good14 (s:W) (fs:List Int) (hs:fit s):Ev.Good Tryz.prog K 14 [paperV s fs] (courtV s fs):=by
 refine Qb hK c14_ok (by simp) ?_
 simp;refine Qd (QgP hK hS s fs hs.1 hs.2) (by simp) ?_
 by_cases h:err s fs=0
 ·have hl:=Qk8 s fs
  have hc:=(QlE h).1;have hf:=Jy hc;have hn:=(QlE h).2.2;have g55:=fun r=>QrC hK (rds (rs s fs)) (tru fs) r (Qqi hf) (QlU hf)
  simp only[courtV,pap,h,if_true];generalize rs s fs=L at *;obtain ⟨r0,L',rfl⟩:=List.exists_cons_of_ne_nil hn;simp;refine Qd (g55 r0) (by simp) ?_
  simp;intro _;change QK _ _ (FnF (QW _ (IV.tup [.int .i64 (if (r0::L').all (fun a=>decide (ZX fs a=ZX fs r0)) then ZX fs r0 else 3),.int .i64 0]))) _ _ _ _ _ _
  have g55':∀ r,Ev.Good Tryz.prog K 32 [.ptr [rds (r0::L'),Qmm (tru fs)],enc r] (.int .i64 (ZX fs r)):=g55
  have hm:Qi5 ↑(List.countP (val r0) (tru fs)) ↑(tru fs).length=ZX fs r0:=rfl;rw[hm];have hlen:((L'.length:Int)+1)=((r0::L').length:Nat):=by simp
  rw[hlen];have hmap:[IV.ptr (Qca r0)]::List.map (fun r=>[IV.ptr (Qca r)]) L'=(r0::L').map fun r=>[IV.ptr (Qca r)]:=rfl
  rw[hmap];generalize r0::L'=L at *;refine QV (fun i=>[(4,.iv (.ptr [rds L,Qmm (tru fs)])),(6,.iv (.int .i64 (ZX fs r0))),(28,.iv (rds L)),(29,.iv (.int .i64 (L.length:Nat))),(30,.iv (.int .i64 (i:Nat)))]) (fun _=>[]) L.length (fun i=>∀ a∈L.take i,ZX fs a=ZX fs r0) (by simp) ?_ ?_
  ·intro hq
   rw[Qa Go.Pf.c14_b0.eq_1];simp at hq |-;exact fun x hx hne=>absurd (hq x hx) hne
  ·intro i hi hq ih
   rw[Qa Go.Pf.c14_b0.eq_1];simp[hi];refine Qd (g55' L[i]) (by simp) ?_
   simp;refine ⟨fun e=>?_,fun e=>⟨by omega,?_⟩⟩
   ·intro hall
    exact absurd (hall _ (QBc hi)) e
   ·have:=ih fun a ha=>by
     rw[QA3 hi] at ha;rcases QA7.1 ha with c | c
     ·exact hq a c
     ·rw[QBk] at c;subst c;exact e
    simpa using this
 ·simp[h,pap,courtV,QdP h,QhG]
end
def Qgo (fs:List Int) (L:List Rd) (i:Nat):Bool:=(tru fs).any fun t=>L.any fun r=>val r t != val r (t ^^^ 2 ^ i)
def QiW (fs:List Int) (L:List Rd) (m:Nat):List Nat:=(List.range m).filter fun i=>decide (fs.getD i 0=3)&&Qgo fs L i
def QiX (s:W) (fs:List Int):List Nat:=QiW fs (rs s fs) fs.length
def Qs0 (s:W) (fs:List Int):IV:=.tup [UR (QiX s fs),.int .i64 (err s fs)]
def clash (L:List Rd) (t:Nat):Bool:=match L with | []=>false | r0::L'=>(r0::L').any fun r=>val r t != val r0 t
def Qdi (s:W) (fs:List Int):Option Nat:=(tru fs).find? (clash (rs s fs))
def Qsy (t n:Nat):List Nat:=(List.range n).map fun i=>(t.testBit i).toNat
def QrZ (s:W) (fs:List Int):Int:=if err s fs≠0 then err s fs else match Qdi s fs with | some _=>0 | none=>3
def QrY (s:W) (fs:List Int):List Nat:=if err s fs≠0 then [] else match Qdi s fs with | some t=>Qsy t fs.length | none=>[]
def QwW (s:W) (fs:List Int):IV:=.tup [UR (QrY s fs),.int .i64 (QrZ s fs)]
def Qw0 (s:W) (fs:List Int):IV:=.tup [.bool (decide (err s fs=0)&&(Qdi s fs).isNone),.int .i64 (err s fs)]
@[simp] def ob4 (id:Nat) (M:List Nat):Qi:=[(id,AO.arr 3 1 (emb (M.map fun n=>[.int .i64 (n:Nat)])) 0)]
section
variable {K:World->Prop} (hK:∀ w w',K w->Below w.heap.size w w'->K w')
include hK
variable (hS:∀ s:W,s.length<=1000->Ev.Good Tryz.prog K 49 [.str s,.str [32]] (strs (spl s)))
include hS
omit hS
end
section
variable {K:World->Prop} (hK:∀ w w',K w->Below w.heap.size w w'->K w')
include hK
def Qwv (s:W) (fs:List Int):List W:=(rs s fs).map text
variable (hS:∀ s:W,s.length<=1000->Ev.Good Tryz.prog K 49 [.str s,.str [32]] (strs (spl s)))
include hS
end
def exW:W:=[110,111,116,32,97,32,97,110,100,32,98,32,111,114,32,99]
def exF:List Int:=[3,3,1]
def exT:W:=[40,40,110,111,116,32,40,97,32,97,110,100,32,98,41,41,32,111,114,32,99,41]
theorem ex_fit:fit exW:=by
 unfold fit;decide +kernel
theorem ex_err:err exW exF=0:=by decide +kernel
theorem ex_len:(rs exW exF).length=5:=by decide +kernel
def QtR (v:List Int):Nat->Nat
 | 0=>0
 | i+1=>QtR v i+(v.getD i 0).toNat*2 ^ i
def QtQ (fs v:List Int):Bool:=decide (v.length=fs.length)&&v.all fun x=>decide (0<=x)&&decide (x<=1)
def Qd4 (fs v:List Int):IV:=if QtQ fs v then .tup [.int .i64 (QtR v v.length:Nat),.bool (decide (QtR v v.length∈tru fs))] else .tup [.int .i64 0,.bool false]
section
variable {K:World->Prop} (hK:∀ w w',K w->Below w.heap.size w w'->K w')
include hK
variable (hS:∀ s:W,s.length<=1000->Ev.Good Tryz.prog K 49 [.str s,.str [32]] (strs (spl s)))
include hS
end
end Go.Pp
namespace Go.Bk
open Go Go.Ev Go.Proofs Go.RowKit
theorem Qk4 (s:W):spl (10::s)=[]::spl s:=by simp[spl]
theorem YT (c:UInt8) (s:W) (h:c≠10):spl (c::s)=(c::(spl s).headD [])::(spl s).tail:=by simp[spl,h]
theorem splitK_spl:∀ s:W,Lib.splitK [10] 0 (Lib.count s [10]) s=spl s
 | []=>by
   rw[Lib.count_miss (by simp[Lib.index])]
   rfl
 | c::s=>by
   have ih:=splitK_spl s;by_cases h:c=10
   ·subst h
    have hix:Lib.index ((10:UInt8)::s) [10]=0:=by rw[Lib.index];simp[List.isPrefixOf]
    rw[Lib.count_cons_eq,Nat.add_comm,Lib.splitK,hix,Qk4,<- ih];simp
   ·rw[Lib.count_cons_ne c 10 s h,YT c s h,<- ih]
    have hp:([10]:List UInt8).isPrefixOf (c::s)=false:=by simp[List.isPrefixOf,Ne.symm h]
    have hix:Lib.index (c::s) [10]=if Lib.index s [10] == -1 then -1 else Lib.index s [10]+1:=by rw[Lib.index,hp];simp
    cases hk:Lib.count s [10] with
    | zero=>simp[Lib.splitK]
    | succ k =>
      have hm:¬ Lib.index s [10] = -1:=fun e=>by rw[Lib.count_miss e] at hk;cases hk
      have hge:=Lib.index_ge s [10];obtain ⟨j,hj⟩:∃ j:Nat,Lib.index s [10]=j:=⟨(Lib.index s [10]).toNat,by omega⟩
      have h1:¬ ((j:Int) == -1)=true:=by simp
      have h2:¬ ((j:Int)+1 == -1)=true:=by simp;omega
      have h3:((j:Int)+1).toNat=j+1:=by omega
      simp only[Lib.splitK,hix,hj,if_neg h1,if_neg h2,h3,QBW];simp
theorem spl_len:∀ s:W,(spl s).length<=s.length+1
 | []=>by simp[spl]
 | c::s=>by
   have ih:=spl_len s;by_cases h:c=10
   ·subst h;rw[Qk4];simp;exact ih
   ·rw[YT c s h];simp;omega
end Go.Bk
namespace Go.Pf
open Go Go.Ev Go.Proofs Go.RowKit
theorem hSB (s:Txt) (hs:s.length<=1000000):Ev.Good Tryz.prog KW 49 [.str s,.str [10]] (Bk.strs (Bk.spl s)):=by
 intro w ok vs hk hok hl hx
 obtain ⟨v0,v1,rfl⟩:∃ v0 v1,vs=[v0,v1]:=by
  match vs,hl with
  | [a,b],_=>grind
 have r0:=hx 0 _ v0 rfl rfl;have r1:=hx 1 _ v1 rfl rfl;cases r0;cases r1;have:=Any.strings_Split_shaped Tryz.laysM146 ⟨s.toArray⟩ ⟨[10].toArray⟩ w hk.shaped (by simp[ByteArray.size];omega) (by simp[ByteArray.size])
 refine this.mono fun e w' ⟨he,hw⟩=>?_
 subst he hw;have hb:=Qm w (.cells ((Lib.splitB ⟨[10].toArray⟩ 0 (Lib.countB ⟨s.toArray⟩ ⟨[10].toArray⟩) ⟨s.toArray⟩).map Value.string).toArray (Tryz.laysM146_ren.t 9))
 have hd:(Lib.splitB ⟨[10].toArray⟩ 0 (Lib.countB ⟨s.toArray⟩ ⟨[10].toArray⟩) ⟨s.toArray⟩).map (·.data.toList)=Bk.spl s:=by
  rw[Lib.splitB_data];exact Bk.splitK_spl s
 have hlen:=Lib.splitB_all ⟨[10].toArray⟩ (by simp[ByteArray.size]) 0 _ ⟨s.toArray⟩ rfl
 generalize Lib.countB ⟨s.toArray⟩ ⟨[10].toArray⟩=n at *;generalize Lib.splitB ⟨[10].toArray⟩ 0 n ⟨s.toArray⟩=L at *;refine ⟨_,rfl,?_,hb⟩;have hl2:(Bk.spl s).length=n+1:=by grind
 have hnl:n+1<=maxLen:=by
  have:=Bk.spl_len s;simp only[maxLen];omega
 have rep:=Qv.sl (ok:=ok) (w:=w.alloc (.cells (L.map Value.string).toArray (Tryz.laysM146_ren.t 9))) 1 ((Bk.spl s).map fun s=>[IV.str s]) w.heap.size 0 (n+1) (fun k=>.string (L.getD k default)) (by simp[hl2]) hnl (by simp) (fun k hk=>?_) (fun i j c x hi hj=>?_)
 ·simpa[hl2] using rep
 ·simp[hl2] at hk
  have hkl:k<L.length:=by omega
  refine ⟨hok _ (QA8 _),?_,rfl⟩;rw[QBm];exact ZP w _ _ k _ (by simp[hkl])
 ·simp only[QA9,QA4] at hi
  obtain ⟨t,ht,rfl⟩:=hi
  have hj0:j=0:=by
   grind
  subst hj0;simp at hj;subst hj;rw[<- hd,QA9,QA4] at ht;obtain ⟨z,hz,rfl⟩:=ht;have e:L.getD (i*1+0) default=z:=by simp[hz]
  rw[e];have:=Qv.str (ok:=ok) (w:=w.alloc (.cells (L.map Value.string).toArray (Tryz.laysM146_ren.t 9))) z.data.toList;simpa using this
set_option maxRecDepth 8000
set_option maxHeartbeats 1000000
theorem hSP (s:Txt) (hs:s.length<=1000):Ev.Good Tryz.prog KW 49 [.str s,.str [32]] (Pp.strs (Pp.spl s)):=Qlt s hs
def Qil:Qp:=QC exH ⟨3,0,0,0,0⟩
theorem Qjs:OkC Qil.proof.chain:=by
 refine ⟨by decide,by decide,by decide,fun i h _=>?_,fun s hs=>by simp[Qil,QC,exH,exP,exC] at hs⟩
 have all:∀ i<8,Zg (Qil.proof.chain.deeds.getD i d0) (cnt Qil.proof.chain.deeds i):=by decide
 have:=all i h
 grind
theorem Qha:okH Qil:=by
 refine ⟨⟨Qjs,Qg7,by decide,by decide,by decide,fun i h h'=>?_⟩,QbH⟩
 have all:∀ i<2,YC (Qil.proof.trials.getD i t0) (cnt Qil.proof.chain.deeds ((pv Qil.proof.chain.deeds).getD i 0)):=by decide
 have:=all i h'
 grind
theorem QwM:QY exH [119,104,111,32,48]=([48,32,49],exH):=lv1
theorem Qz3:QY exH [116,117,114,110]=([121,101,115],Qil):=by
 unfold QY;rw[pW];simp only;rw[Y5 (h':=Qil) rfl rfl];unfold chT chH;rw[if_pos Qha,if_pos Qha];rfl
theorem QzS:QpS exH exW=[[48,32,49],[121,101,115]]:=by
 have e1:Ze exH exW 1=exH:=by rw[QP exH exW 0 (by decide)];exact congrArg Prod.snd QwM
 unfold QpS;rw[if_pos qk,if_neg (by decide)]
 show Qay exH exW 2=_
 rw[VL exH exW 1 (by decide),VL exH exW 0 (by decide),e1]
 show []++[(QY exH [119,104,111,32,48]).1]++[(QY exH [116,117,114,110]).1]=_
 rw[QwM,Qz3];rfl
theorem QtF:QpR exH exW=0:=by
 unfold QpR;rw[if_pos qk,if_neg (by decide)]
theorem Quj:Ev.Good Tryz.prog KW 7 [] (.bool true):=by
 refine Qb hKW QuX (by simp) ?_
 have g10:=Bk.good9 hKW [[97,98],[99]] (by simp)
 have g35:=Pp.good18 hKW;have g28:=Pp.good13 hKW hSP Pp.exW Pp.exF Pp.ex_fit;have g36:=QrL hKW;have g14:=QmY;have g15:=Qeh hKW [[48,32,49],[121,101,115]] [[48,32,49],[121,101,115]] (by decide) (by decide)
 rw[Bk.ex_write] at g10;rw[Pp.ex_len,Pp.ex_err] at g28;rw[QzS,QtF] at g14;generalize QeZ exH exW=H at g14;simp
 repeat first | intro _ | refine ⟨by omega,?_⟩
 refine cK (by simpa[Bk.exA] using g10) ?_
 simp
 repeat first | intro _ | refine ⟨by omega,?_⟩
 refine cK (by simpa using g35) ?_
 simp
 repeat first | intro _ | refine ⟨by omega,?_⟩
 refine cK (by simpa[Pp.exW,Pp.exF] using g28) ?_
 simp
 repeat first | intro _ | refine ⟨by omega,?_⟩
 refine cK (by simpa using g36) ?_
 simp
 repeat first | intro _ | refine ⟨by omega,?_⟩
 refine cK (by simpa[exW] using g14) ?_
 simp
 repeat first | intro _ | refine ⟨by omega,?_⟩
 refine cK (by simpa using g15) ?_
 simp
end Go.Pf
namespace Go.Bk
open Go Go.Ev Go.Proofs Go.RowKit
set_option maxRecDepth 8000
def ZU (l:W) (a:Int):W:=if 0<=a/\a<l.length then l.take a.toNat++[l.getD a.toNat 0 ^^^ 1]++l.drop (a.toNat+1) else l
theorem Qah (l:W) (a:Int):(ZU l a).length=l.length:=by
 unfold ZU;split
 ·simp
  omega
 ·rfl
theorem Qg0 (l:W) (a:Int):Zd (ZU l a) l<=1:=by
 unfold ZU;split
 ·rename_i h
  have hi:a.toNat<l.length:=by omega
  have e:l=l.take a.toNat++([l[a.toNat]]++l.drop (a.toNat+1)):=by simp
  conv=>lhs;arg 2;rw[e]
  rw[QBB,Z5 _ _ _ _ rfl,XT,Z5 [l.getD a.toNat 0 ^^^ 1] [l[a.toNat]] _ _ rfl,XT];simp only[Zd];split<;>omega
 ·rw[XT]
  omega
theorem Qnw {l:W} (h:plain l) (a:Int):(10:UInt8) ∉ ZU l a:=by
 have h10:(10:UInt8) ∉ l:=fun c=>by have:=h _ c;revert this;decide
 unfold ZU;split
 ·rename_i hc
  have hi:a.toNat<l.length:=by omega
  intro c;simp only[QA7,QBk] at c;rcases c with (c | c) | c
  ·exact h10 (QBM c)
  ·have h1:=h _ (QBc hi)
   rw[List.getD_eq_getElem?_getD,QA0 hi,QBw] at c;generalize l[a.toNat]=x at *
   have:x=11:=by
    have h2:x=10 ^^^ 1:=by rw[c,UInt8.xor_assoc,UInt8.xor_self,UInt8.xor_zero]
    rw[h2];decide
   rw[this] at h1
   revert h1
   decide
  ·exact h10 (QBN c)
 ·exact h10
def QaL (T:List W) (ats:List Int) (i:Nat):W:=ZU (bkN T i) (ats.getD i (-1))
def spoil (T:List W) (ats:List Int):List W:=(List.range (T.length+1)).map (QaL T ats)
theorem Vf (T:List W) (ats:List Int) (i:Nat):QpK T i (QaL T ats i):=⟨Qah _ _,Qg0 _ _⟩
theorem YF {T:List W} {ats:List Int} {l:W}:l∈spoil T ats↔∃ i,i<=T.length/\l=QaL T ats i:=by
 unfold spoil;rw[QBl];constructor
 ·rintro ⟨i,hi,rfl⟩
  exact ⟨i,by rw[QBF] at hi;omega,rfl⟩
 ·rintro ⟨i,hi,rfl⟩
  exact ⟨i,by rw[QBF];omega,rfl⟩
theorem spoil_cut {T:List W} (h:Texts T) (ats:List Int):cutL (jn (spoil T ats))=some (spoil T ats):=by
 refine QlG _ (fun e=>?_) fun l hl=>?_
 ·have:=congrArg List.length e
  simp[spoil] at this
 ·obtain ⟨i,_,rfl⟩:=YF.1 hl
  exact Qnw (Qb0 h i) _
theorem read_spoil {T:List W} (h:Texts T) (ats:List Int):∃ m,Qe4 (jn (spoil T ats))=(T,m,0):=by
 have h1:∀ l∈spoil T ats,rd l=none\/∃ i,i<=T.length/\QpK T i l:=by
  intro l hl;obtain ⟨i,hi,rfl⟩:=YF.1 hl;exact .inr ⟨i,hi,Vf T ats i⟩
 have hb:=Qmk h h1 ⟨_,YF.2 ⟨T.length,QA8 _,rfl⟩,Vf T ats T.length⟩;unfold Qe4;rw[spoil_cut h];simp only;rw[Qf6 hb,if_pos]
 ·exact ⟨_,rfl⟩
 ·rw[QBs]
  intro i hi;rw[QBF] at hi;exact (Qfi h h1 hi).2 ⟨_,YF.2 ⟨i,by omega,rfl⟩,Vf T ats i⟩
end Go.Bk
set_option maxRecDepth 8000
namespace Go.Bk
open Go Go.Ev Go.Proofs Go.RowKit
def jnL (lines:List W) (lost:List Int) (i:Nat):List W:=((List.range i).filter fun k=>decide (lost.getD k 0=0)).map fun k=>lines.getD k []
section
variable {K:World->Prop} (hK:∀ w w',K w->Below w.heap.size w w'->K w')
include hK
variable (hS:∀ s:W,s.length<=1000000->Ev.Good Tryz.prog K 49 [.str s,.str [10]] (strs (spl s)))
include hS
end
end Go.Bk
namespace Go.Bk
open Go Go.Ev Go.RowKit
@[simp] def Quf (x:Int × Int × UInt8):List IV:=[.int .i64 x.1,.int .i64 x.2.1,.int .u8 (x.2.2.toNat:Nat)]
@[simp] def QAd (l:List (Int × Int × UInt8)):IV:=.sl 3 (l.map Quf)
end Go.Bk
set_option maxRecDepth 8000
namespace Go.Bk
open Go Go.Ev Go.Proofs Go.RowKit
abbrev Hm:=Int × Int × UInt8
abbrev Hs:=List W × List Int × List Int
def hCh (l:W) (x:Hm):W:=l.take x.2.1.toNat++[x.2.2]++l.drop (x.2.1.toNat+1)
def Quh (s:Hs) (x:Hm):Bool:=decide (x.1<0)||decide ((s.1.length:Int)<=x.1)||decide (0<s.2.2.getD x.1.toNat 0)
def QAe (s:Hs) (x:Hm):Bool:=decide (x.2.1<((s.1.getD x.1.toNat []).length:Int))&&decide (x.2.2≠10)&&decide (x.2.2≠(s.1.getD x.1.toNat []).getD x.2.1.toNat 0)
def Qug (s:Hs) (x:Hm):Hs :=
 if Quh s x then s
 else if x.2.1<0 then (s.1.set x.1.toNat [],s.2.1.set x.1.toNat (s.2.1.getD x.1.toNat 0+1),s.2.2.set x.1.toNat (s.2.2.getD x.1.toNat 0+1))
 else if QAe s x then (s.1.set x.1.toNat (hCh (s.1.getD x.1.toNat []) x),s.2.1.set x.1.toNat (s.2.1.getD x.1.toNat 0+1),s.2.2)
 else s
def hTo (all:List W) (hs:List Hm) (i:Nat):Hs:=(hs.take i).foldl Qug (all,List.replicate all.length 0,List.replicate all.length 0)
structure QAD (all:List W) (s:Hs) (n:Nat):Prop where
 l1:s.1.length=all.length
 l2:s.2.1.length=all.length
 l3:s.2.2.length=all.length
 b:∀ i:Nat,0<=s.2.2.getD i 0/\s.2.2.getD i 0<=s.2.1.getD i 0/\s.2.1.getD i 0<=n
 z:∀ i:Nat,s.2.1.getD i 0=0->s.1.getD i []=all.getD i []
 le:∀ i:Nat,(s.1.getD i []).length<=(all.getD i []).length
 o:∀ i:Nat,s.2.2.getD i 0=0->(s.1.getD i []).length=(all.getD i []).length/\(Zd (s.1.getD i []) (all.getD i []):Int)<=s.2.1.getD i 0/\((10:UInt8) ∉ all.getD i []->(10:UInt8) ∉ s.1.getD i [])/\(s.2.1.getD i 0=1->s.1.getD i []≠all.getD i [])
structure Left (T:List W) (s:Hs) (n:Nat):Prop where
 inv:QAD (bkL T) s n
 once:∀ i,i<=T.length->s.2.1.getD i 0<=1
def Qz6 (s:Hs):List W:=jnL s.1 s.2.2 s.1.length
end Go.Bk
set_option maxRecDepth 8000
namespace Go.Bk
open Go Go.Ev Go.Proofs Go.RowKit
variable {K:World->Prop} (hK:∀ w w',K w->Below w.heap.size w w'->K w')
include hK
def hmR (b:W) (hs:List Hm):IV:=match cutL b with
 | none=>.tup [strs [],ZF [],ZF [],.bool false]
 | some ls=>if 200<hs.length then .tup [strs [],ZF [],ZF [],.bool false] else .tup [strs (hTo ls hs hs.length).1,ZF (hTo ls hs hs.length).2.1,ZF (hTo ls hs hs.length).2.2,.bool true]
omit hK
open Go.Pf (c10_ok)
set_option maxRecDepth 8000
set_option maxHeartbeats 1000000
def flN (ls:List W) (ats:List Int) (i:Nat):List W:=(List.range i).map fun k=>ZU (ls.getD k []) (ats.getD k (-1))
theorem Qmv (l:List W) (x:W):jn (l++[x])=jn l++(x++[10]):=by simp[Qec,jn]
theorem Qen (ls:List W) (ats:List Int) (i:Nat) (hi:i<ls.length):jn (flN ls ats (i+1))=jn (flN ls ats i)++(ZU ls[i] (ats.getD i (-1))++[10]):=by
 unfold flN;rw[QBD,QBE,List.map_singleton,Qmv,List.getD_eq_getElem?_getD,QA0 hi,QBw]
theorem Qg2 (ls:List W) (ats:List Int) (h:∀ l∈ls,l.length<=10000):∀ i,i<=ls.length->(jn (flN ls ats i)).length<=i*10001
 | 0,_=>by simp[flN,jn]
 | i+1,hi=>by
   have ih:=Qg2 ls ats h i (by omega)
   have h1:=h _ (QBc (show i<ls.length from hi))
   rw[Qen ls ats i hi];simp only[QBa,Qah,QB9];omega
theorem Qp8 (x:UInt8):YM .xor .u8 (x.toNat:Int) 1=((x ^^^ 1).toNat:Int):=by
 have h:∀ n:Nat,n<256->YM .xor .u8 (n:Int) 1=((n ^^^ 1:Nat):Int):=by decide +kernel
 rw[h x.toNat x.toNat_lt,UInt8.toNat_xor];rfl
include hK
theorem good10 (b:W) (ats:List Int) (ls:List W) (hc:cutL b=some ls) (hb:b.length<=5000):Ev.Good Tryz.prog K 10 [.str b,ZF ats] (.tup [.str (jn (flN ls ats ls.length)),.bool true]):=by
 refine Qb hK c10_ok (by simp) ?_
 have g41:=QrG hK b (by omega)
 rw[hc] at g41;obtain ⟨hl1,hl2⟩:=QhF b (by omega) ls hc
 have h5:¬ (5000:Int)<(b.length:Int):=by omega
 simp at g41 |-;refine Qd g41 (by simp) ?_
 simp[h5]
 repeat first | intro _ | refine ⟨by omega,?_⟩
 have h0:AV.iv (.str [])=AV.iv (.str (jn (flN ls ats 0))):=by simp[flN,jn]
 rw[h0];refine QV (fun i=>[(1,AV.iv (ZF ats)),(6,AV.iv (strs ls)),(8,AV.iv (.str (jn (flN ls ats i)))),(9,AV.iv (.int .i64 (i:Nat)))]) (fun _=>[]) ls.length (fun _=>True) trivial ?_ ?_
 ·intro _
  rw[Qa Go.Pf.c10_b0.eq_1];simp
 ·intro i hi _ ih
  have hn:=Qg2 ls ats hl2 i (by omega)
  have hn1:=hl2 _ (QBc hi);rw[Qen ls ats i hi] at ih;rw[Qa Go.Pf.c10_b0.eq_1];generalize jn (flN ls ats i)=J at *;generalize hL:ls[i]=L at *;by_cases ha:i<ats.length
  ·have e:ats.getD i (-1)=ats[i]:=by rw[List.getD_eq_getElem?_getD,QA0 ha,QBw]
   rw[e] at ih;have ha':(i:Int)<ats.length:=by omega
   by_cases h1:0<=ats[i]
   ·by_cases h2:ats[i]<L.length
    ·have hq:ZU L ats[i]=L.take ats[i].toNat++[L.getD ats[i].toNat 0 ^^^ 1]++L.drop (ats[i].toNat+1):=by rw[ZU,if_pos ⟨h1,h2⟩]
     rw[hq] at ih;have hat:∃ k:Nat,ats[i]=k:=⟨ats[i].toNat,by omega⟩
     obtain ⟨k,hk⟩:=hat;rw[hk] at h1 h2 ih;have hkl:k<L.length:=by omega
     simp only[QBW] at ih;have hg:L.getD k 0=L[k]:=by simp[hkl]
     rw[hg] at ih
     have hx:L[k].toNat ^^^ 1<=255:=by
      have h9:=(L[k] ^^^ 1).toNat_lt;rw[UInt8.toNat_xor,show (1:UInt8).toNat=1 from rfl] at h9
      omega
     simp[hi,hL,ha,hk,hkl,Qp8,ZA] at ih |-
     repeat' first | exact ih | omega | intro _ | apply And.intro
    ·have hq:ZU L ats[i]=L:=by rw[ZU,if_neg (fun c=>h2 c.2)]
     rw[hq] at ih;simp[hi,hL,ha,h1,h2] at ih |-
     repeat' first | exact ih | omega | intro _ | apply And.intro
   ·have hq:ZU L ats[i]=L:=by rw[ZU,if_neg (fun c=>h1 c.1)]
    rw[hq] at ih;simp[hi,hL,ha,h1] at ih |-
    repeat' first | exact ih | omega | intro _ | apply And.intro
  ·have e:ats.getD i (-1) = -1:=by rw[List.getD_eq_getElem?_getD,QCo (by omega),Option.getD_none]
   have hq:ZU L (-1)=L:=by rw[ZU,if_neg (fun c=>absurd c.1 (by decide))]
   rw[e,hq] at ih;have ha':¬ (i:Int)<ats.length:=by omega
   simp[hi,hL,ha] at ih |-
   repeat' first | exact ih | omega | intro _ | apply And.intro
omit hK
theorem cut_bk {T:List W} (h:Texts T):cutL (jn (bkL T))=some (bkL T):=by
 refine QlG _ (fun e=>?_) fun l hl=>?_
 ·have:=congrArg List.length e
  simp[bkL] at this
 ·simp only[bkL,QBl] at hl
  obtain ⟨i,_,rfl⟩:=hl;exact fun c=>by have:=Qb0 h i _ c;revert this;decide
theorem jn_le:∀ l:List W,(∀ x∈l,x.length<=66)->(jn l).length<=67*l.length
 | [],_=>by simp[jn]
 | x::l,h=>by
   have h1:=jn_le l fun y hy=>h y (by simp[hy])
   have h2:=h x (by simp)
   simp only[jn,QBa,QBj];omega
theorem spoil_le {T:List W} (h:Texts T) (ats:List Int):(spoil T ats).length<=41/\∀ l∈spoil T ats,l.length<=66:=by
 have h1:=h.len;refine ⟨by simp[spoil];omega,fun l hl=>?_⟩
 obtain ⟨i,_,rfl⟩:=YF.1 hl;rw[QaL,Qah];exact (Qpz h i).1
theorem flN_bk {T:List W} (ats:List Int) (l:List W) (h:l=(List.range (T.length+1)).map (bkN T)):flN l ats l.length=spoil T ats:=by
 subst h;unfold flN spoil;rw[QBb,List.length_range];apply QCy;intro i hi;rw[QBF] at hi;simp[QaL,hi]
end Go.Bk
namespace Go.Pf
open Go Go.Ev Go.Proofs Go.RowKit
set_option maxRecDepth 8000
set_option maxHeartbeats 1000000
theorem YR:∀ (r:Pp.Rd),Pp.fok r->∀ c∈Pp.text r,32<=c.toNat/\c.toNat<=126
 | .fact n,h,c,hc=>by
   have h:n<6:=h;have hc:c=UInt8.ofNat (97+n):=by simpa[Pp.text] using hc
   have e:(UInt8.ofNat (97+n)).toNat=97+n:=by simp;omega
   rw[hc,e];omega
 | .no r,h,c,hc=>by
   have ih:=YR r h c;have l1:∀ c∈([40,110,111,116,32]:List UInt8),32<=c.toNat/\c.toNat<=126:=by decide
   have l2:∀ c∈([41]:List UInt8),32<=c.toNat/\c.toNat<=126:=by decide
   simp only[Pp.text,QA7] at hc;rcases hc with (hc | hc) | hc
   ·exact l1 c hc
   ·exact ih hc
   ·exact l2 c hc
 | .bin o a b,h,c,hc=>by
   have ih1:=YR a h.1 c;have ih2:=YR b h.2 c;have l1:∀ c∈([40]:List UInt8),32<=c.toNat/\c.toNat<=126:=by decide
   have l2:∀ c∈([41]:List UInt8),32<=c.toNat/\c.toNat<=126:=by decide
   have l3:∀ c∈([32]:List UInt8),32<=c.toNat/\c.toNat<=126:=by decide
   have l4:∀ c∈o.word,32<=c.toNat/\c.toNat<=126:=by cases o<;>decide
   simp only[Pp.text,QA7] at hc;rcases hc with (((((hc | hc) | hc) | hc) | hc) | hc) | hc
   ·exact l1 c hc
   ·exact ih1 hc
   ·exact l3 c hc
   ·exact l4 c hc
   ·exact l3 c hc
   ·exact ih2 hc
   ·exact l2 c hc
theorem Qcf (s:Txt) (fs:List Int) (n:Int) (he:Pp.err s fs=0):∃ t e,Pp.writeV s fs n=.tup [.str t,.int .i64 e]/\t.length<=81/\(e=0/\(t.length<=60->Bk.tx t=true)\/e=1):=by
 unfold Pp.writeV;cases hr:Pp.rdAt s fs n with
 | some r =>
   have hm:=(Pp.rdAt_mem hr).1;have h1:=Pp.rs_text s fs r hm;refine ⟨_,_,rfl,h1,.inl ⟨Pp.oneE_some hr,fun h=>?_⟩⟩
   have hb:=YR r (Pp.rs_fok s fs r hm);simp only[Bk.tx,QA1,QBs,decide_eq_true_eq];exact ⟨hb,h⟩
 | none=>exact ⟨_,_,rfl,by simp,.inr (by simp[Pp.oneE,he,hr])⟩
theorem qb (T:List Txt) (hT:Bk.Texts T) (ats:List Int):∃ C B mm,Ev.Good Tryz.prog KW 9 [strs T] (.tup [.str C,.int .i64 0])/\Ev.Good Tryz.prog KW 10 [.str C,ZF ats] (.tup [.str B,.bool true])/\Ev.Good Tryz.prog KW 11 [.str B] (.tup [strs T,ZF mm,.int .i64 0]):=by
 have g10:=Bk.good9 hKW T (fun t hm=>by have:=Bk.tx_len (hT.tx t hm);omega)
 have e33:Bk.writeB T=(Bk.wrB T,0):=by simp[Bk.writeB,Bk.texts_err.2 hT]
 rw[e33] at g10;have hwl:=Bk.wrB_len hT.tx hT.len;have hcut:Bk.cutL (Bk.wrB T)=some (Bk.bkL T):=by rw[Bk.wrB_jn];exact Bk.cut_bk hT
 have g11:=Bk.good10 hKW (Bk.wrB T) ats _ hcut (by omega)
 rw[Bk.flN_bk ats (Bk.bkL T) rfl] at g11;obtain ⟨mm,hrd⟩:=Bk.read_spoil hT ats;have h40:=hT.len
 have g27:=Bk.good11 hKW hSB (Bk.jn (Bk.spoil T ats)) (by have:=Bk.jn_le _ (Bk.spoil_le hT ats).2;have:=(Bk.spoil_le hT ats).1;omega) (fun ls hc=>by
  rw[Bk.spoil_cut hT] at hc;injection hc with hc
  subst hc;exact ⟨by have:=(Bk.spoil_le hT ats).1;omega,fun l hl=>by have:=(Bk.spoil_le hT ats).2 l hl;omega⟩)
 rw[hrd] at g27;exact ⟨_,_,mm,g10,g11,g27⟩
theorem Quk (s:Txt) (fs:List Int) (n:Int) (ats:List Int):Ev.Good Tryz.prog KW 3 [Pp.paperV s fs,.int .i64 n,ZF ats] (.bool true):=by
 refine Qb hKW QuY (by simp) ?_
 have g9:=Quj;have g24:=Pp.good4 hKW s fs;simp
 repeat first | intro _ | refine ⟨by omega,?_⟩
 refine cK (by simpa using g24) ?_
 cases hf:Pp.farB s fs with
 | true =>
   simp;refine cK (by simpa using g9) ?_
   simp
 | false =>
   have hs:=Pp.fit_of_far hf;have g25:=Pp.good5 hKW s fs hs
   have hfar:fs.length<=40/\s.length<=100:=by
    simp[Pp.farB] at hf;omega
   simp
   repeat first | intro _ | refine ⟨by omega,?_⟩
   refine cK (by simpa using g25) ?_
   by_cases he:Pp.err s fs=0
   ·have g8:=Bk.good6 hKW [s] (by simp;omega)
    simp[he]
    repeat first | intro _ | refine ⟨by omega,?_⟩
    refine cK (by simpa using g8) ?_
    by_cases ht:Bk.errT [s]=0
    ·have g26:=Pp.good8 hKW hSP s fs n hs
     have g28:=Pp.good13 hKW hSP s fs hs;have g29:=Pp.good14 hKW hSP s fs hs;have hT1:=Bk.texts_err.1 ht;obtain ⟨t,e,hw,htl,hte⟩:=Qcf s fs n he;have h29:∃ v,Pp.courtV s fs=.tup [.int .i64 v,.int .i64 0]:=⟨_,by rw[Pp.courtV,he]⟩
     obtain ⟨v,hv⟩:=h29;rw[hv] at g29;rw[hw] at g26;rw[he] at g28;generalize (Pp.rs s fs).length=m at *;simp[ht]
     repeat first | intro _ | refine ⟨by omega,?_⟩
     refine cK (by simpa using g26) ?_
     have hi5:¬ (500:Int)<t.length:=by omega
     by_cases hsh:e=0/\t.length<=60
     ·obtain ⟨rfl,h60⟩:=hsh
      have hT2:Bk.Texts [s,t]:=⟨by simp,fun x hx=>by
       simp only[QBh,QBI,or_false] at hx;rcases hx with rfl | rfl
       ·exact hT1.tx _ (by simp)
       ·exact (hte.resolve_right (by omega)).2 h60⟩
      obtain ⟨C,B,mm,g10,g11,g27⟩:=qb [s,t] hT2 ats;have g15:=Qeh hKW [s,t] [s,t] (by simp) (by simp)
      have h60':(t.length:Int)<=60:=by omega
      simp[hi5,h60']
      repeat first | intro _ | refine ⟨by omega,?_⟩
      refine cK (by simpa using g10) ?_
      simp
      repeat first | intro _ | refine ⟨by omega,?_⟩
      refine cK (by simpa using g11) ?_
      simp
      repeat first | intro _ | refine ⟨by omega,?_⟩
      refine cK (by simpa using g27) ?_
      simp
      repeat first | intro _ | refine ⟨by omega,?_⟩
      refine cK (by simpa using g15) ?_
      simp
      repeat first | intro _ | refine ⟨by omega,?_⟩
      refine cK (by simpa using g28) ?_
      simp
      repeat first | intro _ | refine ⟨by omega,?_⟩
      refine cK (by simpa using g28) ?_
      simp
      repeat first | intro _ | refine ⟨by omega,?_⟩
      refine cK (by simpa using g29) ?_
      simp
      repeat first | intro _ | refine ⟨by omega,?_⟩
      refine cK (by simpa using g29) ?_
      simp
      repeat first | intro _ | refine ⟨by omega,?_⟩
      refine cK (by simpa using g9) ?_
      simp
     ·have hsh':¬ (e=0/\(t.length:Int)<=60):=fun c=>hsh ⟨c.1,by omega⟩
      have he2:e=0\/e=1:=by omega
      obtain ⟨C,B,mm,g10,g11,g27⟩:=qb [s] hT1 ats;have g15:=Qeh hKW [s] [s] (by simp) (by simp)
      rcases he2 with rfl | rfl
      all_goals
       have hl60:0=1\/True:=.inr trivial;simp[hi5]
       try
        rw[if_neg (show ¬ (t.length:Int)<=60 by omega)]
       repeat first | intro _ | refine ⟨by omega,?_⟩
       refine cK (by simpa using g10) ?_
       simp
       repeat first | intro _ | refine ⟨by omega,?_⟩
       refine cK (by simpa using g11) ?_
       simp
       repeat first | intro _ | refine ⟨by omega,?_⟩
       refine cK (by simpa using g27) ?_
       simp
       repeat first | intro _ | refine ⟨by omega,?_⟩
       refine cK (by simpa using g15) ?_
       simp
       repeat first | intro _ | refine ⟨by omega,?_⟩
       refine cK (by simpa using g28) ?_
       simp
       repeat first | intro _ | refine ⟨by omega,?_⟩
       refine cK (by simpa using g28) ?_
       simp
       repeat first | intro _ | refine ⟨by omega,?_⟩
       refine cK (by simpa using g29) ?_
       simp
       repeat first | intro _ | refine ⟨by omega,?_⟩
       refine cK (by simpa using g29) ?_
       simp
       repeat first | intro _ | refine ⟨by omega,?_⟩
       refine cK (by simpa using g9) ?_
       simp
    ·simp[ht]
     repeat first | intro _ | refine ⟨by omega,?_⟩
     refine cK (by simpa using g9) ?_
     simp
   ·simp[he]
    repeat first | intro _ | refine ⟨by omega,?_⟩
    refine cK (by simpa using g9) ?_
    simp
end Go.Pf
namespace Go.Pf
open Go Go.Ev Go.Proofs Go.RowKit Go.ChangeShapes Go.WideShapes Go.Proofs.YtobhncljgnlaiaaGreatDoor
theorem QtC:shp Tryz.prog 7 24=some [.str,.sl 8 [shI]]:=by kernel_rfl
theorem Qtx:∃ fs,Tryz.prog.underlying 24=some (.struct fs):=⟨_,Tryz.underlying24⟩
set_option maxRecDepth 100000 in
theorem Qh3 {x:IV} (h:Qb7 Tryz.prog 24 x):∃ s fs,x=Pp.paperV s fs:=by
 obtain ⟨ss,h1,h2⟩:=h;rw[QtC] at h1;injection h1 with h1
 subst h1;obtain ⟨fs',hu⟩:=Qtx;rw[hu] at h2;obtain ⟨xs,rfl,hl,hf⟩:=h2
 match xs,hl with
 | [a,b],_ =>
   have ha:=hf 0 _ a rfl rfl;have hb:=hf 1 _ b rfl rfl;cases ha with
   | str s hs =>
   cases hb with
   | sl _ _ rows hw hm hrl hr =>
     obtain ⟨fs,rfl⟩:=Uy rows hrl hr;exact ⟨s,fs,rfl⟩
set_option maxRecDepth 100000
theorem QbB {P:Program} (h:P.funcs.any Func.goes=false) (f:FuncId):P.goes f=false:=by
 unfold Program.goes;rw[h,Bool.and_false,Bool.or_false,QCu];intro g _;cases hg:P.funcs[g]? with
 | none=>simp
 | some fn =>
   have:=Array.any_eq_false'.1 h fn (Array.mem_of_getElem? hg);simpa using this
theorem Qc9 {P:Program} (h:P.funcs.any Func.goes=false) (c:OpenClaim):false=c.goesBy P:=by
 have h1:∀ o:Option FuncId,o.any P.goes=false:=fun o=>by cases o<;>simp[QbB h]
 have h2:P.inits.toList.any P.goes=false:=by
  rw[QCu];intro f _;simp[QbB h]
 unfold OpenClaim.goesBy Program.goesAt Program.goesFrom;rw[h1,h2];cases c.start<;>rfl
theorem Qus:Tryz.prog.funcs.any Func.goes=false:=by kernel_rfl
end Go.Pf
