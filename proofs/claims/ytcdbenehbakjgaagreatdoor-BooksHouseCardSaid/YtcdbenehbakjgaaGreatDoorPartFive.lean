/- What proofs answers: Loads, Broke. -/
import Derived.Test.YtcdbenehbakjgaaGreatDoorPartFour
import Derived.Lib.ItoaNum
import Derived.Lib.ItoaMem
import Derived.Lib.AtoiTie
import Derived.Lib.Strings
import Derived.Lib.SplitLaws
import Derived.Test.YtcdbenehbakjgaaGreatDoorPartThree
import Derived.ChangeAgain
import Derived.WalkSmall
import Derived.Test.YtcdbenehbakjgaaGreatDoorCards
import Derived.Test.YtcdbenehbakjgaaGreatDoorTie
import Derived.ProofKit
import Derived.OpenShut
import Derived.Lay
import Derived.Lib.LaidTab
import Derived.Stop.LaidErr
import Derived.JoinedCond
set_option linter.all false
namespace Go.Pf
open Go Go.Ev Go.Proofs Go.RowKit Go.Proofs.Tryz
variable {K:World->Prop} (hK:∀ w w',K w->Below w.heap.size w w'->K w')
set_option maxRecDepth 8000
theorem qy (l:List Int) (lo hi:Int):(Jc l lo hi).Pairwise (·<·):=by
 unfold Jc Qa5;refine List.Pairwise.filter _ ?_;rw[List.pairwise_map];exact List.pairwise_lt_range.imp fun {a b} h=>by omega
theorem Ur (l:List Int) (lo hi x:Int):x∈Jc l lo hi↔lo<=x/\x<=hi/\x∈l:=by
 unfold Jc Qa5;simp only[QKx,QKh,QKr,decide_eq_true_eq];constructor
 ·grind
 ·rintro ⟨h1,h2,h3⟩
  exact ⟨⟨(x-lo).toNat,by omega,by omega⟩,h3⟩
include hK
theorem Qxn (p:Qf) (n:Int) (hf:Few p):Gd K 112 [prV p,.int .i64 n] (.xh [QW (qK p n),.int .i64 (kE p (Xb p n))]):=by
 refine Qb hK (fk func112 QHv (by kernel_rfl)) (by simp) ?_
 have hg:=UD hK p (Xb p n) hf.fine;have hg93:Gd K 205 [prV p,.int .i64 n] (.bool (Xb p n)):=Qn7 hK p n hf.fine.small.zf;simp;refine cK (by simpa using hg93) ?_
 simp;refine cK (by simpa using hg) ?_
 by_cases he:kE p (Xb p n)=0;rotate_left
 ·have hk:=Qnz he
  have hr:qK p n=[]:=by unfold qK;rw[hk];simp[Jc,Qa5]
  simp[he,hr]
 ·obtain ⟨hp,hn,hk,hne⟩:=Jz he
  have hn':=of_decide_eq_true hn;simp only[inR] at hn';have hE:=hf.ends hp;have htl:=hp.trialsLen;obtain ⟨i,rfl⟩:∃ i:Nat,n=i:=⟨n.toNat,by omega⟩
  have hi:i<p.zf.length:=by omega
  have hbr:qK p i=Jd (((Xn p.zc [] p.zc.za).map fun e=>QG p i (QN e)).filter fun x=>decide (0<=x)):=by
   refine QhC (qy _ _ _) (VS _) fun x=>?_
   unfold qK;rw[Ur,Vl,hk];simp only[QKB,QKh,QKx,decide_eq_true_eq]
   have hS:Q2 p.zb [] p.zb.zd≠[]:=fun c=>by
    have h1:=QbI p;rw[QbC,c] at h1;exact hne (QJ3 (by simpa using h1))
   constructor
   ·rintro ⟨h1,h2,t,ht,rfl⟩
    simp only[QK,QKC,QKh] at ht
    grind
   rintro ⟨⟨e,he,rfl⟩,h1⟩
   have h2:=QaK hp (QN e) hi;refine ⟨h1,by omega,?_⟩
   obtain ⟨s,hs⟩:=QKS _ hS;exact ⟨⟨e,s⟩,by simp only[QK,QKC,QKh];grind,rfl⟩
  rw[hbr];have hfile:Uc p=prC p++[.sl 3 (QV p),.sl 1 (XI p)]:=rfl;have hst:QV p=(Xn p.zc [] p.zc.za).map fun e=>ZW p (QN e):=rfl
  rw[hfile,hst];generalize XI p=LL at *;generalize Xn p.zc [] p.zc.za=E at *;simp[he,prC];intro _
  refine Qi (fun j=>[(1,AV.iv (.int .i64 (i:Nat))),(8,.yo 22),(26,.iv (.sl 3 (E.map fun e=>ZW p (QN e)))),(27,.iv (.int .i64 E.length)),(28,.iv (.int .i64 (j:Nat)))])
   (fun j=>[(22,.xj (Qaf (XT (((E.take j).map fun e=>QG p i (QN e)).filter fun x=>decide (0<=x)))))]) E.length (fun _=>True) trivial ?_ ?_
  ·intro _
   rw[Qa Qju.eq_1];simp;refine cK (by simpa using Qii hK (Qaf (XT ((E.map fun e=>QG p i (QN e)).filter fun x=>decide (0<=x))))) ?_
   simp;refine cK (qj ((E.map fun e=>QG p i (QN e)).filter fun x=>decide (0<=x)) (fun x hx=>?_) ?_) ?_
   ·simp only[QKx,QKh] at hx
    obtain ⟨⟨e,_,rfl⟩,_⟩:=hx;have:=QaK hp (QN e) hi;omega
   ·grind
   simp
  ·intro j hj _ ih
   have hst:ZW p (QN E[j])=[.sl 1 ((List.range p.zf.length).map fun i=>[.int .u64 (Xm (Zz p i (QN E[j])):Nat)]),.sl 1 ((List.range p.zf.length).map fun i=>[.int .i64 (QG p i (QN E[j]))]),Xc (Jf p (QN E[j]))]:=rfl
   rw[Qa Qju.eq_1];rw[QJV hj,QKf,QKX] at ih;by_cases hb:0<=QG p i (QN E[j])
   ·have hfc:(List.map (fun e=>QG p i (QN e)) [E[j]]).filter (fun x=>decide (0<=x))=[QG p i (QN E[j])]:=by simp[hb]
    rw[hfc,XL] at ih;generalize hl:((E.take j).map fun e=>QG p i (QN e)).filter (fun x=>decide (0<=x))=l at *
    have hll:l.length<=1000000:=by
     grind
    have hle:=Qeu (QG p i (QN E[j])) l;have hkk:=YC (XT l);have hff:=JB (QG p i (QN E[j])) (XT l);have hii:=Ww (QG p i (QN E[j])) (XT l);generalize XT l=kv at *;simp[hj,hst,hi,hb,hkk,hff,hii] at ih |-
    grind
   ·have hfc:(List.map (fun e=>QG p i (QN e)) [E[j]]).filter (fun x=>decide (0<=x))=[]:=by simp[hb]
    rw[hfc,QKj] at ih;simp[hj,hst,hi,hb] at ih |-
    grind
theorem Qxm (p:Qf) (n:Int) (hf:Few p):Gd K 114 [prV p,.int .i64 n] (.xh [.agg [.int .i64 (if kE p (Xb p n)=0 then (Jw p.zb (tr p n.toNat).zm (tr p n.toNat).zn).1 else 0),.int .i64 (if kE p (Xb p n)=0 then (Jw p.zb (tr p n.toNat).zm (tr p n.toNat).zn).2 else 0)],
   .int .i64 (if kE p (Xb p n)=0 then tE p.zb (QaM (tr p n.toNat).zm (tr p n.toNat).zn 0) else kE p (Xb p n))]):=by
 refine Qb hK (fk func114 QHu (by kernel_rfl)) (by simp) ?_
 have hg:=UD hK p (Xb p n) hf.fine;have hg93:Gd K 205 [prV p,.int .i64 n] (.bool (Xb p n)):=Qn7 hK p n hf.fine.small.zf;simp;refine cK (by simpa using hg93) ?_
 simp;refine cK (by simpa using hg) ?_
 by_cases he:kE p (Xb p n)=0
 ·obtain ⟨hp,hn,hk,hne⟩:=Jz he
  have hn':=of_decide_eq_true hn;simp only[inR] at hn';have hS:=hf.sets hp;have htl:=hp.trialsLen;obtain ⟨i,rfl⟩:∃ i:Nat,n=i:=⟨n.toNat,by omega⟩
  have hi:i<p.zf.length:=by omega
  have hSne:Q2 p.zb [] p.zb.zd≠[]:=fun c=>by
   have h1:=QbI p;rw[QbC,c] at h1;exact hne (QJ3 (by simpa using h1))
  have ha:QaM (tr p i).zm (tr p i).zn 0=true:=by
   have a1:=(hp.trial hi).1;have a2:=(hp.trial hi).2.1;simp only[QaM,inR] at a1 a2 |-;simp;omega
  have htE:tE p.zb true=0:=by
   unfold tE;rw[if_pos hp.zb,if_pos rfl,if_neg hSne]
  have hrl:Jw p.zb (tr p i).zm (tr p i).zn=((span ((Q2 p.zb [] p.zb.zd).map (Qbz p.zb (tr p i).zm (tr p i).zn))).1,(span ((Q2 p.zb [] p.zb.zd).map (upS p.zb (tr p i).zm (tr p i).zn))).2):=by
   unfold Jw tL;rw[ha,if_pos ⟨hp.zb,rfl⟩]
  rw[QKB,ha,htE,hrl];have hfile:Uc p=prC p++[.sl 3 (QV p),.sl 1 (XI p)]:=rfl;have hlv:XI p=(Q2 p.zb [] p.zb.zd).map fun s=>[.sl 2 (Zm p s)]:=rfl
  rw[hfile,hlv];have hld:∀ s,(Zm p s)[i]?=some [.int .i64 (Qbz p.zb (tr p i).zm (tr p i).zn s),.int .i64 (upS p.zb (tr p i).zm (tr p i).zn s)]:=fun s=>by simp[Zm,hi]
  have hll:∀ s,(Zm p s).length=p.zf.length:=fun s=>by simp[Zm]
  have hld2:∀ s (h:i<(Zm p s).length),(Zm p s)[i]'h=[.int .i64 (Qbz p.zb (tr p i).zm (tr p i).zn s),.int .i64 (upS p.zb (tr p i).zm (tr p i).zn s)]:=fun s h=>by
   grind
  generalize QV p=SS at *;generalize Q2 p.zb [] p.zb.zd=S at *;have hpos:0<S.length:=QK1.2 hSne;obtain ⟨s0,hs0⟩:∃ s0,S[0]=s0:=⟨_,rfl⟩
  have hcons:∃ S',S=s0::S':=by
   cases S with
   | _=>grind
  generalize Qbz p.zb (tr p i).zm (tr p i).zn=lo at *;generalize upS p.zb (tr p i).zm (tr p i).zn=up at *
  have hmin:(span (S.map lo)).1=(S.map lo).foldl min (lo s0):=by
   obtain ⟨S',rfl⟩:=hcons;show (S'.map lo).foldl min (lo s0)=(S'.map lo).foldl min (min (lo s0) (lo s0))
   grind
  have hmax:(span (S.map up)).2=(S.map up).foldl max (up s0):=by
   obtain ⟨S',rfl⟩:=hcons;show (S'.map up).foldl max (up s0)=(S'.map up).foldl max (max (up s0) (up s0))
   grind
  clear hcons;rw[hmin,hmax];simp[he,prC,hi,hll,hld2,hpos,hs0];intro _
  refine Qi (fun j=>[(1,AV.iv (.int .i64 (i:Nat))),(4,.loc 4 0),(8,.loc 8 0),(35,.iv (.sl 1 (S.map fun s=>[.sl 2 (Zm p s)]))),(36,.iv (.int .i64 (S.length:Nat))),(37,.iv (.int .i64 (j:Nat)))])
   (fun j=>[(4,.box [.iv (.int .i64 0),.iv (.int .i64 0)]),(8,.box [.iv (.int .i64 (((S.map lo).take j).foldl min (lo s0))),.iv (.int .i64 (((S.map up).take j).foldl max (up s0)))])]) S.length (fun _=>True) trivial ?_ ?_
  ·intro _
   rw[Qa Qjt.eq_1];simp[QJZ]
  intro j hj _ ih;rw[Qa Qjt.eq_1];rw[V3 _ _ _ j (by simpa using hj),V3 _ _ _ j (by simpa using hj)] at ih
  simp[hj,hi,hll,hld2,Qc6,Qc7] at ih |-
  grind
 simp[he]
omit hK
theorem Qfe (T:List Q1) (B:Q1->Bool) (hne:T≠[]):(XV (T.countP B) T.length=1)↔T.all B=true:=by
 have h1:0<T.length:=QK1.2 hne
 have h2:T.countP B=T.length↔T.all B=true:=by
  rw[List.countP_eq_length,QKw]
 unfold XV
 grind
include hK
theorem QwO (p:Qf) (t:Q1) (k:Nat) (hk:k<(Jf p (QN t.ends)).length) (hp:OkP p) (hs:okS p.zb t.set):Gd K 217 [.agg (ZJ p t),.ptr (prC p),.ptr [.int .i64 k]] (.bool (Zs p ((Jf p (QN t.ends)).getD k 0:Nat) t)):=by
 refine Qb hK (fk func217 QGG (by kernel_rfl)) (by simp) ?_
 have hl:=hp.deedsLen;have hgd:(Jf p (QN t.ends)).getD k 0=(Jf p (QN t.ends))[k]:=by grind
 have hlt12:(Jf p (QN t.ends))[k]<12:=by
  have:=qS _ _ _ _ (QJ1 hk);have:=Qg6 p.zc.za p.zc.za.length;omega
 have hg:=Qif hK p t p.zo hp;have hb:=Qd4 hp hs (zo:=p.zo) (k:=(Jf p (QN t.ends))[k]) (by omega)
 have xd:∀ n,pmN (nd p p.zo) t n<2 ^ 64:=fun n=>Qj8 hp t n
 have hg2:=Qie hK (pmN (nd p p.zo) t p.zf.length) (Jf p (QN t.ends))[k] (xd _) (by omega)
 have hnd:nd p p.zo=p:=rfl;rw[hb,hnd] at hg2;rw[hnd] at hg;rw[hgd];obtain ⟨v0,v1,v3,hv⟩:∃ v0 v1 v3,ZJ p t=[v0,v1,Xc (Jf p (QN t.ends)),v3]:=⟨_,_,_,rfl⟩
 rw[hv] at hg |-;generalize Jf p (QN t.ends)=now at *;simp[prC];refine cK (by simpa using hg) ?_
 simp[hk];refine cK (by simpa using hg2) ?_
 simp
theorem Qxi (p:Qf) (hf:Few p):Gd K 123 [prV p] (.xh [QW (Qd2 p),.int .i64 (kE p true)]):=by
 refine Qb hK (fk func123 QHp (by kernel_rfl)) (by simp) ?_
 have hg:=UD hK p true hf.fine;simp;refine cK (by simpa using hg) ?_
 by_cases he:kE p true=0
 ·obtain ⟨hp,_,hk,hne⟩:=Jz he
  have hdl:=hp.deedsLen;have hnl:∀ e,((Jf p e).length:Int)=XR p.zc.za:=fun e=>Xo e hp.zc.za p.zc.za.length (QJ2 _) (QJ2 _)
  have hcb:=hp.zc.za.cnt p.zc.za.length (QJ2 _) (QJ2 _);have hnl2:∀ e,(Jf p e).length=(XR p.zc.za).toNat:=fun e=>by grind
  have hNb:(XR p.zc.za).toNat<=12:=by show (cnt p.zc.za p.zc.za.length).toNat<=12;omega
  have hg75:∀ s:Nat,s<(XR p.zc.za).toNat->Gd K 216 [.ptr (Uc p),.clo 217 [] [.ptr (prC p),.ptr [.int .i64 s]]] (.int .i64 (XV ((QK p).countP (fun t=>Zs p ((Jf p (QN t.ends)).getD s 0:Nat) t)) (QK p).length)):=fun s hs =>
   Qid hK p (hf.ends hp) (hf.sets hp) (by have:=hf.all hp;omega) 217 [] _ _ (fun t ht=>by simpa using QwO hK p t s (by grind) hp (Yj ht)) (by kernel_rfl)
  have hr:Qd2 p=acc (fun s:Nat=>if (QK p).all (fun t=>Zs p ((Jf p (QN t.ends)).getD s 0:Nat) t) then [] else [(s:Int)]) (XR p.zc.za).toNat:=by unfold Qd2;rw[if_pos he,hk]
  have hts:∀ s:Nat,(XV ((QK p).countP (fun t=>Zs p ((Jf p (QN t.ends)).getD s 0:Nat) t)) (QK p).length=1)↔(QK p).all (fun t=>Zs p ((Jf p (QN t.ends)).getD s 0:Nat) t)=true:=fun s=>Qfe _ _ hne
  have hE:Xn p.zc [] p.zc.za≠[]:=fun c=>by
   have h1:=QbI p;rw[Qa3,c] at h1;exact hne (QJ3 (by simpa using h1))
  have hst:∃ s0 s1 now rest,QV p=[s0,s1,Xc now]::rest/\now.length=(XR p.zc.za).toNat:=by
   unfold QV;cases hEE:Xn p.zc [] p.zc.za with
   | cons e r=>exact ⟨_,_,Jf p (QN e),_,rfl,hnl2 _⟩
   | _=>grind
  obtain ⟨s0,s1,now,rest,hst,hnow⟩:=hst;rw[hr];have hfile:Uc p=prC p++[.sl 3 (QV p),.sl 1 (XI p)]:=rfl;rw[hfile,hst] at hg75 |-;clear hg hr hfile hst hE;generalize QK p=T at *;generalize XI p=LL at *;generalize (XR p.zc.za).toNat=N at *;obtain ⟨tv,htv⟩:∃ tv:Nat->Int,∀ s,tv s=XV (T.countP (fun t=>Zs p ((Jf p (QN t.ends)).getD s 0:Nat) t)) T.length:=⟨_,fun _=>rfl⟩
  obtain ⟨all,xg⟩:∃ all:Nat->Bool,∀ s,all s=T.all (fun t=>Zs p ((Jf p (QN t.ends)).getD s 0:Nat) t):=⟨_,fun _=>rfl⟩
  simp only[<- htv,<- xg] at hg75 hts |-;obtain ⟨pc,hpc⟩:∃ pc:Nat->List Int,pc=fun s:Nat=>if all s=true then [] else [(s:Int)]:=⟨_,rfl⟩
  rw[<- hpc];have hpc2:∀ s:Nat,pc s=if all s=true then [] else [(s:Int)]:=fun s=>by rw[hpc]
  clear hpc htv xg;simp[he,prC];intro _;rw[hnow]
  refine Qi (fun i=>[(1,AV.iv (.ptr (prC p))),(4,.iv (.ptr (prC p++[.sl 3 ([s0,s1,Xc now]::rest),.sl 1 LL]))),(6,.yq 6 (acc pc i).length),(23,.iv (.int .i64 (N:Nat))),(24,.iv (.int .i64 (i:Nat)))])
   (fun i=>[(6,.arr 3 1 (emb ((acc pc i).map fun n=>[.int .i64 n])) 0)]) N (fun _=>True) trivial ?_ ?_
  ·intro _
   rw[Qa Qjr.eq_1];simp[QJZ]
  intro i hi _ ih;have hlen:(acc pc i).length<=i*1:=QjB pc 1 (fun s=>by grind) i
  rw[Qa Qjr.eq_1];rw[QaN pc i,hpc2 i] at ih;have hgi:=hg75 i hi;have htsi:=hts i;generalize tv i=tvi at *;generalize acc pc i=A at *;have hi':(i:Int)<N:=by omega
  simp[hi,hi'];refine Qe (by simpa using hgi) (.inr rfl) ?_
  by_cases hal:all i=true
  ·have h1:=htsi.2 hal
   rw[if_pos hal] at ih;simp[h1] at ih |-
   grind
  have h1:¬ tvi=1:=fun c=>hal (htsi.1 c)
  rw[if_neg hal] at ih;simp[h1] at ih |-
  grind
 have hr:Qd2 p=[]:=by unfold Qd2;rw[if_neg he]
 simp[he,hr]
omit hK
theorem JS {α:Type} (f:α->Int) (n:Int):∀ (l:List α) (b:Int),n<=l.foldl (fun b k=>min b (f k)) b↔n<=b/\∀ k∈l,n<=f k
 | [],b=>by simp
 | a::l,b=>by
   rw[QKL,JS f n l]
   grind
theorem Qnw (p:Qf) (t:Q1) (k:Nat) (n:Int) (hn:0<=n):∀ N:Nat,n<=QhH p t k N↔∃ i<N,inN (Zz p i (QN t.ends)) k=true/\¬ QG p i (QN t.ends)=k/\n<=(Vy p i t.set).tdiv (den t.set)
 | 0=>by
   have:QhH p t k 0 = -1:=rfl;omega
 | N+1=>by
   rw[QlA];have ih:=Qnw p t k n hn N;unfold Qnh;split
   ·rename_i h
    constructor
    all_goals grind
   grind
theorem Qf5 (p:Qf) (t:Q1) (n:Int):∀ (l:List Nat) (b:Int),n<=l.foldl (QpY p t) b↔n<=b/\∀ i∈l,0<=(tr p i).z8->p.ya<=(Qb2 p t i p.zf.length:Int)->n<=(Vy p i t.set+den t.set-1).tdiv (den t.set)-1
 | [],b=>by simp
 | a::l,b=>by
   rw[QKL,Qf5 p t n l];simp only[QJ7,forall_eq_or_imp];unfold QpY
   grind
theorem QnO (f:Nat->Int):∀ l:List Nat,l≠[]->∃ a∈l,∀ b∈l,f b<=f a
 | [],h=>absurd rfl h
 | [a],_=>⟨a,by simp,by simp⟩
 | a::b::l,_=>by
   obtain ⟨c,h1,h2⟩:=QnO f (b::l) (by simp)
   grind
theorem Qoq {p:Qf} (hp:OkP p) (t:Q1) (n:Int):(Xf (nd p n) t:Int)<p.ya↔∀ i<p.zf.length,0<=(tr p i).z8->p.ya<=(Qb2 p t i p.zf.length:Int)->¬ Vy p i t.set<=n*den t.set:=by
 have hrule:=hp.ya;simp only[inR] at hrule;have hf:Xf (nd p n) t=(List.range p.zf.length).countP fun i=>decide (0<=(tr p i).z8)&&decide (Vy p i t.set<=n*den t.set):=rfl
 rw[hf];constructor
 ·intro h i hi h1 h2 h3
  have:Qb2 p t i p.zf.length<=(List.range p.zf.length).countP fun i=>decide (0<=(tr p i).z8)&&decide (Vy p i t.set<=n*den t.set):=by
   unfold Qb2;refine List.countP_mono_left fun k _ hk=>?_
   grind
  omega
 ·intro h
  refine Classical.byContradiction fun hc=>?_
  have hpos:0<(List.range p.zf.length).countP fun i=>decide (0<=(tr p i).z8)&&decide (Vy p i t.set<=n*den t.set):=by omega
  rw[List.countP_eq_length_filter] at hpos hc;obtain ⟨a,ha,hmax⟩:=QnO (fun i=>Vy p i t.set) _ (QK1.1 hpos)
  simp only[QKx,QKr,QJY,decide_eq_true_eq] at ha;refine h a ha.1 ha.2.1 ?_ ha.2.2
  have:((List.range p.zf.length).filter fun i=>decide (0<=(tr p i).z8)&&decide (Vy p i t.set<=n*den t.set)).length<=Qb2 p t a p.zf.length:=by
   rw[<- List.countP_eq_length_filter];unfold Qb2;refine List.countP_mono_left fun k hk1 hk=>?_
   grind
  omega
theorem Qdj {p:Qf} (hp:OkP p) {t:Q1} (hs:okS p.zb t.set) {n:Int} (h0:0<=n) (h1:n<=999999999):Ub (nd p n) t=true↔n<=Qe8 p t:=by
 have hden:=(hp.zb.denB hs).1;have hld:∀ i<p.zf.length,0<=Vy p i t.set:=fun i hi=>(hp.zb.numB hs (hp.trial hi).1 (hp.trial hi).2.1).1
 have hg:Ub (nd p n) t=(((Jf p (QN t.ends)).all fun (k:Nat)=>Zs (nd p n) k t)&&decide ((Xf (nd p n) t:Int)<p.ya)):=rfl
 rw[hg,QJY,decide_eq_true_eq,QKw,Qoq hp];unfold Qe8;rw[Qf5];unfold QCd;rw[JS]
 have hprov:∀ k:Nat,Zs (nd p n) k t=true↔n<=QhH p t k p.zf.length:=fun k=>by
  rw[Qnw p t k n h0];have hpb:Zs (nd p n) k t=(List.range p.zf.length).any fun i=>decide (n*den t.set<=Vy p i t.set)&&inN (Zz p i (QN t.ends)) k&&!decide (QG p i (QN t.ends)=k):=rfl
  rw[hpb,QLg];constructor
  ·rintro ⟨i,hi,h2⟩
   have hi:=QKr.1 hi;simp at h2;exact ⟨i,hi,h2.1.2,h2.2,(Uz (hld i hi) hden).2 h2.1.1⟩
  rintro ⟨i,hi,h2,h3,h4⟩
  have h5:=(Uz (hld i hi) hden).1 h4
  grind
 constructor
 ·rintro ⟨h2,h3⟩
  refine ⟨⟨h1,fun k hk=>(hprov k).1 (h2 k hk)⟩,fun i hi h4 h5=>?_⟩
  have hi:=QKr.1 hi;have h6:=h3 i hi h4 h5;have h7:¬ (Vy p i t.set+den t.set-1).tdiv (den t.set)<=n:=fun c=>h6 ((Uq (hld i hi) hden).1 c)
  omega
 rintro ⟨⟨_,h2⟩,h3⟩
 refine ⟨fun k hk=>(hprov k).2 (h2 k hk),fun i hi h4 h5 h6=>?_⟩
 have h7:=h3 i (QKr.2 hi) h4 h5;have h8:=(Uq (c:=n) (hld i hi) hden).2 h6;omega
theorem Qk9 {p:Qf} (hp:OkP p) (he:kE p true=0) {n:Int} (h0:0<=n) (h1:n<=999999999):(QK p).all (Ub (nd p n))=true↔n<=Jv p:=by
 unfold Jv;rw[(Jz he).2.2.1,JS,QKw];constructor
 ·exact fun h=>⟨h1,fun t ht=>(Qdj hp (Yj ht) h0 h1).1 (h t ht)⟩
 ·exact fun h t ht=>(Qdj hp (Yj ht) h0 h1).2 (h.2 t ht)
include hK
theorem QwL (p:Qf) (t:Q1) (n:Int) (hp:OkP p) (hs:okS p.zb t.set):Gd K 221 [.agg (ZJ p t),.ptr [.int .i64 n],.ptr (prC p)] (.bool (Ub (nd p n) t)):=by
 refine Qb hK (fk func221 QGC (by kernel_rfl)) (by simp) ?_
 have hg:=Qn6 hK p t n hp hs;obtain ⟨v0,v1,v2,v3,hv⟩:∃ v0 v1 v2 v3,ZJ p t=[v0,v1,v2,v3]:=⟨_,_,_,_,rfl⟩
 rw[hv] at hg |-;simp[prC];refine cK (by simpa using hg) ?_
 simp
theorem QwM (p:Qf) (n:Int) (hf:Few p) (he:kE p true=0) (h0:0<=n) (h1:n<=999999999):Gd K 220 [.int .i64 n,.ptr [.ptr (Uc p)],.ptr (prC p)] (.bool (decide (n<=Jv p))):=by
 refine Qb hK (fk func220 QGD (by kernel_rfl)) (by simp) ?_
 obtain ⟨hp,_,hk,hne⟩:=Jz he;have hg:=Qid hK p (hf.ends hp) (hf.sets hp) (by have:=hf.all hp;omega) 221 [] [.ptr [.int .i64 n],.ptr (prC p)] (Ub (nd p n)) (fun t ht=>by simpa using QwL hK p t n hp (Yj ht)) (by kernel_rfl)
 have hs:=Qfe (QK p) (Ub (nd p n)) hne;rw[Qk9 hp he h0 h1] at hs;generalize XV ((QK p).countP (Ub (nd p n))) (QK p).length=tv at *;generalize Uc p=F at *;simp;refine cK (by simpa using hg) ?_
 by_cases h:n<=Jv p
 ·have:=hs.2 h
  simp[h,this]
 ·have:¬ tv=1:=fun c=>h (hs.1 c)
  simp[h,this]
theorem Qxg (p:Qf) (hf:Few p):Gd K 127 [prV p] (.xh [.int .i64 (J7 p).1,.int .i64 (J7 p).2]):=by
 refine Qb hK (fk func127 c127 (by kernel_rfl)) (by simp) ?_
 have hg:=UD hK p true hf.fine;simp;refine cK (by simpa using hg) ?_
 by_cases he:kE p true=0;rotate_left
 ·have hr:J7 p=(0,kE p true):=by unfold J7;rw[if_neg he]
  rw[hr];simp[he];refine QgR _ _ _ _ _ _ _ _ ?_;simp[he]
 obtain ⟨hp,_,hk,hne⟩:=Jz he;have hg74:=fun n h0 h1=>QwM hK p n hf he h0 h1
 have hw:Jv p<=999999999:=(JS (Qe8 p) (Jv p) (kL p true) 999999999).1 (Int.le_refl _) |>.1
 have hr:J7 p=if Jv p<0 then (0,3) else (Jv p,0):=by unfold J7;rw[if_pos he]
 rw[hr];generalize Jv p=W at *;generalize Uc p=F at *;simp[he,prC];refine QgR _ _ _ _ _ _ _ _ ?_;simp;refine ⟨by kernel_rfl,cK (by simpa[prC] using hg74 0 (by omega) (by omega)) ?_⟩
 by_cases hneg:W<0
 ·have h2:¬ 0<=W:=by omega
  simp[hneg,h2]
 have h2:0<=W:=by omega
 simp[hneg,h2];refine QtY (S:=Int × Int) (fun s=>[(6,.iv (.clo 220 [] [.ptr [.ptr F],.ptr (prC p)])),(7,.iv (.int .i64 s.1)),(8,.iv (.int .i64 s.2))]) (fun _=>[]) (fun s=>0<=s.1/\s.1<=W/\W<=s.2/\s.2<=999999999) (fun s=>(s.2-s.1).toNat) ?_ (0,999999999) ⟨by omega,h2,hw,by omega⟩
 rintro ⟨low,high⟩ ⟨i1,i2,i3,i4⟩ ih
 simp only at i1 i2 i3 i4 ih |-;rw[Qa QpT.eq_1];by_cases xd:low<high
 ·have hmid:(low+high+1).tdiv 2=(low+high+1) / 2:=QKD (by omega)
  have hm1:low<(low+high+1) / 2:=by omega
  have hm2:(low+high+1) / 2<=high:=by omega
  have hgm:=hg74 ((low+high+1) / 2) (by omega) (by omega)
  simp[xd,hmid];generalize (low+high+1) / 2=mid at *
  (repeat' first | omega | (with_reducible apply And.intro) | intro _)
  ·kernel_rfl
  refine cK (by omega) ?_
  by_cases hmw:mid<=W
  ·simp[hmw]
   exact ih (mid,high) ⟨by simp only;omega,hmw,i3,i4⟩ (by simp only;omega)
  simp[hmw]
  (repeat' first | omega | (with_reducible apply And.intro) | intro _)
  exact ih (low,mid-1) ⟨i1,i2,by simp only;omega,by simp only;omega⟩ (by simp only;omega)
 have:low=W:=by omega
 subst this;simp[xd]
omit hK
def exD:List Qx:=[⟨1,0,0,5,1⟩,⟨1,1,0,5,2⟩,⟨1,2,0,6,1⟩,⟨4,0,0,0,0⟩,⟨2,0,2,0,0⟩,⟨1,0,1,7,2⟩]
def exC:Qr:=⟨exD++[⟨4,0,0,0,0⟩],[],0⟩
def exM:Machine:=⟨[⟨100,10,11⟩,⟨50,5,5⟩],20,1,2,[⟨10,5,2500,250⟩],0⟩
def exP:Qf:=⟨exC,exM,[⟨30,0,0⟩,⟨31,0,-1⟩],4600,1⟩
include hK
def QIr:AV:=.xh [.agg [.yq 0 6,.iv (.sl 5 []),.iv (.int .i64 0)],.iv (.agg [.int .i64 6,.int .i64 1,.int .i64 0,.int .i64 6,.int .i64 (-1)]),.iv (.agg [.int .i64 6,.int .i64 0,.int .i64 0,.int .i64 (-1),.int .i64 1])]
omit hK
theorem Qov:OkC exC:=by
 refine ⟨by decide,by decide,by decide,fun i h _=>?_,fun s hs=>by simp[exC] at hs⟩
 have all:∀ i<7,Zo (exC.za.getD i d0) (cnt exC.za i):=by decide
 have:=all i h
 grind
theorem Quk:OkM exM:=by
 refine ⟨by decide,?_,by decide,by decide,by decide,by decide,?_,by decide⟩
 ·intro l hl;simp[exM] at hl;rcases hl with rfl | rfl<;>decide
 intro l hl;simp[exM] at hl;subst hl;decide
theorem QkG:OkP exP:=by
 refine ⟨Qov,Quk,by decide,by decide,by decide,fun i h h'=>?_⟩
 have all:∀ i<2,XW (exP.zf.getD i t0) (cnt exP.zc.za ((pv exP.zc.za).getD i 0)):=by decide
 have:=all i h'
 grind
theorem QcO:∀ {ls:List ZE} {e:List Int},e∈Q7 ls->e.length=ls.length/\∀ i (h:i<ls.length) (h':i<e.length),inR e[i] ls[i].lo ls[i].hi
 | [],e,h=>by simp[Q7] at h;subst h;simp
 | l::r,e,h=>by
   simp only[Q7,acc,QKC,QKh,QKr] at h;obtain ⟨i,hi,e',he',rfl⟩:=h;obtain ⟨h1,h2⟩:=QcO he';refine ⟨by simp[h1],fun j h h'=>?_⟩
   cases j with
   | zero=>simp only[QLx,inR];omega
   | _=>grind
theorem Qu7 {m:Machine} {s:Ql} (h:s∈Zk m [] m.zd):okS m s:=by
 simp only[Zk,QKC,QKh,QKr] at h;obtain ⟨e,he,k,hk,rfl⟩:=h;obtain ⟨h1,h2⟩:=QcO he;exact ⟨by simpa using h1,by simp only[inR];omega,by simpa using h2⟩
theorem Qu8 (m:Machine):Q2 m [] m.zd=(Zk m [] m.zd).filter fun s=>decide ((ZV m m.zk s:Int)<=m.zh):=by
 unfold Q2;refine QLn fun s hs=>?_
 rw[QLE];simp only[decide_eq_true_eq];exact ⟨fun h=>h.2,fun h=>⟨Qu7 hs,h⟩⟩
def exT:List Q1:=[⟨[0,0,0,0,0,1,0],⟨[10,5],1⟩⟩,⟨[0,0,0,0,0,1,0],⟨[11,5],1⟩⟩,⟨[0,0,0,0,1,1,0],⟨[10,5],1⟩⟩,⟨[0,0,0,0,1,1,0],⟨[11,5],1⟩⟩]
include hK
omit hK
def QCq (p:Qf) (r:Int):Qf:=⟨p.zc,p.zb,p.zf,p.zo,r⟩
theorem QcM {c n:Nat}:XV c n=1↔c=n:=by
 unfold XV;omega
theorem QaZ {c n:Nat} (hn:n≠0):XV c n=2↔c=0:=by
 unfold XV;omega
def QHT (p:Qf) (i:Nat):Nat:=(List.range i).countP fun k=>decide (0<=(tr p k).z8)
include hK
omit hK
theorem Qm1 (p:Qf):Jv p<=999999999:=by
 unfold Jv
 have h:∀ (l:List Q1) (b:Int),l.foldl (fun b t=>min b (Qe8 p t)) b<=b:=by
  intro l
  induction l with
  | _=>grind
 exact h _ _
include hK
omit hK
theorem QDx {p:Qf} (hp:OkP p) {t:Q1} (h:t∈QK p):kE p true=0:=by
 unfold kE
 grind
theorem VR {α:Type} (f:α->Int):∀ (l:List α) (t:α),t∈l->(span (l.map f)).1<=f t/\f t<=(span (l.map f)).2
 | [],_,h=>by cases h
 | a::r,t,h=>by
   have mono:∀ (l:List α) (x u:Int),(l.map f).foldl min x<=x/\u<=(l.map f).foldl max u:=by
    intro l
    induction l with
    | cons b l ih =>
      intro x u;simp only[QKg,QKL];have:=ih (min x (f b)) (max u (f b));omega
    | _=>grind
   have key:∀ (l:List α) (x u:Int),t∈l->(l.map f).foldl min x<=f t/\f t<=(l.map f).foldl max u:=by
    intro l
    induction l with
    | cons b l ih =>
      intro x u h;simp only[QKg,QKL];rcases QJ7.1 h with rfl | h
      ·have:=mono l (min x (f t)) (max u (f t))
       omega
      exact ih _ _ h
    | _=>grind
   simp only[QKg,span];rcases QJ7.1 h with rfl | h
   ·exact mono r _ _
   ·exact key r _ _ h
def Qqb (k:Int) (b:Bool):Prop:=k=3\/(k=1/\b=true)\/(k=2/\b=false)
theorem Qu1 {α:Type} (f:α->Int) (a:Int):∀ l:List α,l≠[]->(∀ t∈l,a<=f t)->a<=(span (l.map f)).1
 | [],h,_=>absurd rfl h
 | b::r,_,h=>by
   have key:∀ (l:List α) (x:Int),(∀ t∈l,a<=f t)->a<=x->a<=(l.map f).foldl min x:=by
    intro l
    induction l with
    | _=>grind
   simp only[QKg,span]
   grind
theorem Qu0 {α:Type} (f:α->Int) (a:Int):∀ l:List α,l≠[]->(∀ t∈l,f t<=a)->(span (l.map f)).2<=a
 | [],h,_=>absurd rfl h
 | b::r,_,h=>by
   have key:∀ (l:List α) (x:Int),(∀ t∈l,f t<=a)->x<=a->(l.map f).foldl max x<=a:=by
    intro l
    induction l with
    | _=>grind
   simp only[QKg,span]
   grind
instance (k:Int) (b:Bool):Decidable (Qqb k b):=by unfold Qqb;infer_instance
include hK
omit hK
def QJv:=f0 0xa522210f02f3283f73922201383f14501383f0402cd522e93d0221f140522e9ad02cd51de53d022404051de5ad0c1f30133875d5d331d3e17246f3275d5d321d0a22032214c ⟨_,by conv=>lhs;reduce⟩
def QJu:=f0 0xa922210f02f3283f73922201383f14501383f0402cd522e93d0221f140522e9ad02cd51de53d022404051de5ad0c1f30133875d5d331d3e17246f3275d5d321d0a22032214c ⟨_,by conv=>lhs;reduce⟩
def QJt:=f0 0xa922210f02f6283f1c3922201383f44501383f04024d424e93d0221f440424e9ad02cc35fe53d022404035fe5ad0c1f30163874d7773d631d3e11c246f3274d7773d621d0a22062214c ⟨_,by conv=>lhs;reduce⟩
def QIt:=f0 0xa522210f02f0c2801b21a4198f635f305773d74d7773d75d5d0c2d0221fb40221fa402cc320e93d0221f940320e9ad0161e501c2434500160e4cd0721044c1f3773d74d7773d75d5d0c21d0a2200c2216c ⟨_,by conv=>lhs;reduce⟩
def QJS:=f0 0xa822210f02f0c2801b21a4198f635f305773d74d7773d75d5d0c2d0221fb40221fa402cc320e93d0221f940320e9ad800161e4cd01c24340160e50721044c1f3773d74d7773d75d5d0c21d0a2200c2216c ⟨_,by conv=>lhs;reduce⟩
def QJR:=f0 0xa9523210f02f0c2801b21a4198f635f305773d74d7773d75d5d0c2d0221fb40221fa402cc320e93d0221f940320e9ad0161e501c2434500160e4cd0721044c1f3773d74d7773d75d5d0c21d0a2200c2216c ⟨_,by conv=>lhs;reduce⟩
def QEl:=fk func63 QIt (by kernel_rfl)
@[simp] theorem QzT {α:Type} (lod:Nat->Option AO) (ids:List Nat) (f:α->List IV) (l:List α):List.map (QmE lod ids∘List.map AV.iv∘f) l=List.map (List.map AV.iv∘f) l :=
 QLp fun a _=>Qha lod ids (f a)
include hK
@[simp] def prA (p:Qf) (ds ss bs ts:AV):List AV:=[ds,ss,.iv (.int .i64 p.zc.zh),.iv (QT p.zb.zd),.iv (.int .i64 p.zb.zr),.iv (.int .i64 p.zb.zu),.iv (.int .i64 p.zb.zw),bs,.iv (.int .i64 p.zb.zh),ts,.iv (.int .i64 p.zo),.iv (.int .i64 p.ya)]
omit hK
def prv:Qx:=⟨4,0,0,0,0⟩
def QJF (D:List Qx):List Qx:=D++[prv]
def QJG (c:Qr):Qr:=⟨QJF c.za,c.zg,c.zh⟩
def QJE (p:Qf) (w:Int):Qf:=⟨QJG p.zc,p.zb,p.zf++[⟨w,0,-1⟩],p.zo,p.ya⟩
def QJU (t:Q1):Q1:=⟨t.ends++[0],t.set⟩
@[simp] theorem QCM (L:List (List IV)) (a b c d e:IV):emb L++[[.iv a,.iv b,.iv c,.iv d,.iv e]]=emb (L++[[a,b,c,d,e]]):=by simp[emb]
theorem Uh {p:Qf} (hp:OkP p):kL p true=QK p:=by unfold kL;grind
theorem QlI (m:Machine) (l:List Ql) (mn load:Int):0<=Wi m l mn load/\(Wi m l mn load<=9999->Z9 m l (Wi m l mn load) mn load):=by
 classical
 unfold Wi;refine ⟨by omega,fun h=>?_⟩
 have:=List.findIdx_getElem (p:=fun (n:Nat)=>decide (Z9 m l n mn load)) (xs:=List.range 10000) (w:=by
  grind)
 simpa using this
include hK
omit hK
def chD (x fin:Int) (d:Qx):Qx :=
 if d.zp=1 then ⟨d.zp,d.pos,fin,(d.bar+x).tmod 100,(d.z6+x).tmod 100⟩ else if d.zp=2 then ⟨d.zp,d.pos,fin,d.bar,d.z6⟩ else d
def chL (x fin:Int) (D:List Qx) (i:Nat):List (List IV):=((D.take i).map (chD x fin)++D.drop i).map dC
def mvN (n:Nat):Nat->Nat
 | 0=>0
 | _+1=>n
def chP (p:Qf) (x fin:Int):Qf:=⟨⟨p.zc.za.map (chD x fin),[],p.zc.zh⟩,p.zb,p.zf,p.zo,p.ya⟩
theorem QdS:∀ l:List Int,l≠[]->(span l).1∈l/\(span l).2∈l
 | [],h=>absurd rfl h
 | a::r,_=>by
   have key:∀ (r:List Int) (x u:Int),(r.foldl min x=x\/r.foldl min x∈r)/\(r.foldl max u=u\/r.foldl max u∈r):=by
    intro r
    induction r with
    | cons b r ih =>
      intro x u;obtain ⟨h1,h2⟩:=ih (min x b) (max u b);simp only[QKL,QJ7];refine ⟨?_,?_⟩
      ·rcases h1 with h1 | h1
       ·rw[h1];omega
       grind
      rcases h2 with h2 | h2
      ·rw[h2];omega
      grind
    | _=>grind
   obtain ⟨h1,h2⟩:=key r a a;simp only[span,QJ7];exact ⟨h1,h2⟩
include hK
omit hK
structure Rod where
 long:Int
 yb:Int
 grow:Int
 deriving DecidableEq
structure Qy where
 yk:Int
 rod:Int
 count:Int
 rest:Int
 off:Int
 yl:Int
 ym:Int
 deriving DecidableEq
structure Zh where
 yj:Int
 yc:Int
 yg:Int
 zi:List Rod
 zj:List Qy
 zh:Int
 deriving DecidableEq
@[simp] def roC (r:Rod):List IV:=[.int .i64 r.long,.int .i64 r.yb,.int .i64 r.grow]
@[simp] def reC (x:Qy):List IV:=[.int .i64 x.yk,.int .i64 x.rod,.int .i64 x.count,.int .i64 x.rest,.int .i64 x.off,.int .i64 x.yl,.int .i64 x.ym]
@[simp] def W0 (l:List Rod):IV:=.sl 3 (l.map roC)
@[simp] def Y1 (l:List Qy):IV:=.sl 7 (l.map reC)
@[simp] def puC (p:Zh):List IV:=[.int .i64 p.yj,.int .i64 p.yc,.int .i64 p.yg,W0 p.zi,Y1 p.zj,.int .i64 p.zh]
@[simp] def puV (p:Zh):IV:=.agg (puC p)
def Ve (r:Rod):Prop:=inR r.long 1 9999/\inR r.yb 0 (min 9 (r.long-1))/\inR r.grow 0 50
instance (r:Rod):Decidable (Ve r):=by unfold Ve;infer_instance
def Xs (n:Nat) (x:Qy):Prop:=(x.yk=1\/x.yk=2)/\inR x.rod 0 ((n:Int)-1)/\inR x.count 0 99/\inR x.rest 0 9999/\inR x.off 0 99/\inR x.yl (-50) x.ym/\x.ym<=50
instance (n:Nat) (x:Qy):Decidable (Xs n x):=by unfold Xs;infer_instance
structure OkU (p:Zh):Prop where
 yj:inR p.yj 0 50
 guess:inR p.yc 1 p.yg
 most:p.yg<=99999
 zh:inR p.zh 0 8
 rlen:p.zi.length<=4
 xlen:p.zj.length<=8
 zi:∀ r∈p.zi,Ve r
 zj:∀ x∈p.zj,Xs p.zi.length x
def okU (p:Zh):Bool:=decide (inR p.yj 0 50)&&decide (inR p.yc 1 p.yg)&&decide (p.yg<=99999)&&decide (inR p.zh 0 8)&&decide (p.zi.length<=4)&&decide (p.zj.length<=8)&&decide (∀ r∈p.zi,Ve r)&&decide (∀ x∈p.zj,Xs p.zi.length x)
theorem Qvm (p:Zh):okU p=true↔OkU p:=by
 simp only[okU,QJY,decide_eq_true_eq];exact ⟨fun ⟨⟨⟨⟨⟨⟨⟨h1,h2⟩,h3⟩,h4⟩,h5⟩,h6⟩,h7⟩,h8⟩=>⟨h1,h2,h3,h4,h5,h6,h7,h8⟩,fun ⟨h1,h2,h3,h4,h5,h6,h7,h8⟩=>⟨⟨⟨⟨⟨⟨⟨h1,h2⟩,h3⟩,h4⟩,h5⟩,h6⟩,h7⟩,h8⟩⟩
instance (p:Zh):Decidable (OkU p):=decidable_of_iff _ (Qvm p)
def Qad (p:Zh) (x:Qy):Int:=(p.zi.getD x.rod.toNat ⟨0,0,0⟩).grow
def Qzo (p:Zh) (x:Qy) (len rl t:Int):Int:=len*(1000000+p.yj*t)-(x.count*rl+x.rest)*(1000000+Qad p x*t)
def Qt2 (p:Zh) (x:Qy) (len rl t:Int):Bool:=decide (Qzo p x len rl t<=x.off*1000000 /\ -Qzo p x len rl t<=x.off*1000000)
def Qg7 (x:Qy):Nat:=(x.ym-x.yl+1).toNat
def qG (p:Zh) (x:Qy) (len rl:Int):Bool:=(List.range (Qg7 x)).any fun (i:Nat)=>Qt2 p x len rl (x.yl+i)
def Uj (a b:Int):List Int:=(List.range (b-a+1).toNat).map fun (i:Nat)=>a+i
theorem Jx {a b x:Int}:x∈Uj a b↔a<=x/\x<=b:=by
 simp only[Uj,QKh,QKr];constructor
 ·omega
 intro h;exact ⟨(x-a).toNat,by omega,by omega⟩
theorem UF (a b:Int):(Uj a b).Pairwise (·<·):=by
 unfold Uj;rw[List.pairwise_map];exact List.pairwise_lt_range.imp fun h=>by omega
def Xx:List Rod->List (List Int)
 | []=>[[]]
 | r::rs=>(Uj (r.long-r.yb) r.long).flatMap fun n=>(Xx rs).map (n::·)
theorem Qe9:∀ (l:List Rod) (w:List Int),w∈Xx l->w.length=l.length
 | [],w,h=>by simp[Xx] at h;simp[h]
 | r::rs,w,h=>by
   simp only[Xx,QKC,QKh] at h;obtain ⟨n,_,v,hv,rfl⟩:=h;simp[Qe9 rs v hv]
theorem QdG:∀ (l:List Rod) (w:List Int),w∈Xx l->∀ (i:Nat) (h:i<l.length),l[i].long-l[i].yb<=w.getD i 0/\w.getD i 0<=l[i].long
 | [],w,h,i,hi=>by simp at hi
 | r::rs,w,h,i,hi=>by
   simp only[Xx,QKC,QKh] at h;obtain ⟨n,hn,v,hv,rfl⟩:=h;cases i with
   | zero=>simpa using Jx.1 hn
   | succ i =>
     have:=QdG rs v hv i (by simpa using hi)
     simpa using this
def Qtl (p:Zh) (wh:Int) (w:List Int) (len:Int) (x:Qy):Bool:=decide (x.yk=wh)&&!qG p x len (w.getD x.rod.toNat 0)
def wrU (p:Zh) (wh:Int) (w:List Int) (len:Int):Nat:=p.zj.countP (Qtl p wh w len)
def Yp (p:Zh):List Int:=Uj p.yc p.yg
structure TrU where
 yh:Int
 yi:Int
 zi:List Int
def Qg3 (p:Zh) (t:TrU):Nat:=wrU p 1 t.zi t.yh+wrU p 2 t.zi t.yi
def QCe (p:Zh):List TrU:=(Yp p).flatMap fun b=>(Yp p).flatMap fun a=>(Xx p.zi).map fun w=>⟨b,a,w⟩
def UN (p:Zh):List TrU:=(QCe p).filter fun t=>decide ((Qg3 p t:Int)<=p.zh)
def Qdh (p:Zh) (wh:Int) (w:List Int) (n:Nat):List Int:=(Yp p).filter fun len=>wrU p wh w len==n
def Qag (p:Zh) (wh:Int) (w:List Int):List Nat:=(List.range (p.zj.length+1)).filter fun n=>!(Qdh p wh w n).isEmpty
structure Grp where
 zh:Nat
 lens:List Int
def VD (p:Zh) (wh:Int) (w:List Int):List Grp:=(Qag p wh w).map fun n=>⟨n,Qdh p wh w n⟩
structure Bun where
 zi:List Int
 yh:Grp
 yi:Grp
def QcB (p:Zh):List Bun:=(Xx p.zi).flatMap fun w=>(VD p 1 w).flatMap fun g=>(VD p 2 w).map fun h=>⟨w,g,h⟩
def J4 (p:Zh):List Bun:=(QcB p).filter fun x=>decide (((x.yh.zh+x.yi.zh:Nat):Int)<=p.zh)
theorem Qea {p:Zh} {t:TrU}:t∈UN p↔t.yh∈Yp p/\t.yi∈Yp p/\t.zi∈Xx p.zi/\(Qg3 p t:Int)<=p.zh:=by
 simp only[UN,QCe,QKx,QKC,QKh,decide_eq_true_eq]
 grind
theorem Qe5 (p:Zh) (wh:Int) (w:List Int) (len:Int):wrU p wh w len<=p.zj.length:=QKQ
theorem X8 {p:Zh} {wh:Int} {w:List Int} {n:Nat} {len:Int}:len∈Qdh p wh w n↔len∈Yp p/\wrU p wh w len=n:=by
 simp[Qdh,QKx]
theorem Yh {p:Zh} {wh:Int} {w:List Int} {g:Grp}:g∈VD p wh w↔g.lens=Qdh p wh w g.zh/\g.lens≠[]:=by
 simp only[VD,Qag,QKh,QKx,QKr];constructor
 ·grind
 rintro ⟨h1,h2⟩
 refine ⟨g.zh,⟨?_,?_⟩,by rw[<- h1]⟩
 ·obtain ⟨x,hx⟩:=QKS _ h2
  rw[h1] at hx;have:=Qe5 p wh w x;have:=(X8.1 hx).2;omega
 grind
theorem Wd {p:Zh} {x:Bun}:x∈J4 p↔x.zi∈Xx p.zi/\x.yh∈VD p 1 x.zi/\x.yi∈VD p 2 x.zi/\((x.yh.zh+x.yi.zh:Nat):Int)<=p.zh:=by
 simp only[J4,QcB,QKx,QKC,QKh,decide_eq_true_eq]
 grind
theorem JC {p:Zh} {t:TrU} (h:t∈UN p):∃ x∈J4 p,x.zi=t.zi/\t.yh∈x.yh.lens/\t.yi∈x.yi.lens:=by
 obtain ⟨hb,ha,hw,hn⟩:=Qea.1 h;have h1:t.yh∈Qdh p 1 t.zi (wrU p 1 t.zi t.yh):=X8.2 ⟨hb,rfl⟩;have h2:t.yi∈Qdh p 2 t.zi (wrU p 2 t.zi t.yi):=X8.2 ⟨ha,rfl⟩
 exact ⟨⟨t.zi,⟨_,Qdh p 1 t.zi (wrU p 1 t.zi t.yh)⟩,⟨_,Qdh p 2 t.zi (wrU p 2 t.zi t.yi)⟩⟩,
  Wd.2 ⟨hw,Yh.2 ⟨rfl,List.ne_nil_of_mem h1⟩,Yh.2 ⟨rfl,List.ne_nil_of_mem h2⟩,hn⟩,rfl,h1,h2⟩
theorem Yw {p:Zh} {x:Bun} (h:x∈J4 p) {b a:Int} (hb:b∈x.yh.lens) (ha:a∈x.yi.lens):⟨b,a,x.zi⟩∈UN p:=by
 obtain ⟨hw,hg,hh,hn⟩:=Wd.1 h;have h1:=(Yh.1 hg).1;have h2:=(Yh.1 hh).1;rw[h1] at hb;rw[h2] at ha;obtain ⟨hb1,hb2⟩:=X8.1 hb;obtain ⟨ha1,ha2⟩:=X8.1 ha;refine Qea.2 ⟨hb1,ha1,hw,?_⟩;simp only[Qg3,hb2,ha2];exact hn
theorem ZR {p:Zh} {x:Bun} (h:x∈J4 p):x.yh.lens.Pairwise (·<·)/\x.yi.lens.Pairwise (·<·)/\x.yh.lens≠[]/\x.yi.lens≠[]:=by
 obtain ⟨_,hg,hh,_⟩:=Wd.1 h;have h1:=Yh.1 hg;have h2:=Yh.1 hh;refine ⟨?_,?_,h1.2,h2.2⟩
 ·rw[h1.1];exact (UF _ _).filter _
 rw[h2.1];exact (UF _ _).filter _
theorem Qar {p:Zh}:J4 p=[]↔UN p=[]:=by
 constructor
 ·intro h
  refine List.eq_nil_iff_forall_not_mem.2 fun t ht=>?_
  obtain ⟨x,hx,_⟩:=JC ht
  grind
 ·intro h
  refine List.eq_nil_iff_forall_not_mem.2 fun x hx=>?_
  obtain ⟨_,_,h1,h2⟩:=ZR hx;obtain ⟨b,hb⟩:=QKS _ h1;obtain ⟨a,ha⟩:=QKS _ h2;have:=Yw hx hb ha
  grind
theorem Qtn {l:List Int} (h:l.Pairwise (·<·)) (hne:l≠[]):l.head hne∈l/\l.getLast hne∈l/\∀ x∈l,l.head hne<=x/\x<=l.getLast hne:=by
 refine ⟨List.head_mem hne,List.getLast_mem hne,fun x hx=>⟨?_,?_⟩⟩
 ·cases l with
  | nil=>cases hx
  | cons a r =>
    rcases QJ7.1 hx with rfl | hx
    ·grind
    exact Int.le_of_lt (List.rel_of_pairwise_cons h hx)
 ·obtain ⟨i,hi,rfl⟩:=QKK hx
  rw[List.getLast_eq_getElem];rcases Nat.lt_or_eq_of_le (Nat.le_sub_one_of_lt hi) with h1 | h1
  ·exact Int.le_of_lt (QLd.1 h i _ hi (by omega) h1)
  grind
def Xd (l:List Int):Int:=l.headD 0
def Z3 (l:List Int):Int:=l.getLastD 0
theorem Z8 {l:List Int} (h:l.Pairwise (·<·)) (hne:l≠[]):Xd l∈l/\Z3 l∈l/\∀ x∈l,Xd l<=x/\x<=Z3 l:=by
 have:=Qtn h hne
 have e1:Xd l=l.head hne:=by cases l with
  | cons a r=>rfl
  | _=>grind
 have e2:Z3 l=l.getLast hne:=by cases l with
  | cons a r =>
    unfold Z3
    grind
  | _=>grind
 grind
theorem Qu2 {l:List Int} {a b:Int} (hne:l≠[]) (ha:a∈l) (hb:b∈l) (h:∀ x∈l,a<=x/\x<=b):span l=(a,b):=by
 have h1:=VR (fun x:Int=>x) l a ha
 have h2:=VR (fun x:Int=>x) l b hb
 have h3:=Qu1 (fun x:Int=>x) a l hne (fun x hx=>(h x hx).1)
 have h4:=Qu0 (fun x:Int=>x) b l hne (fun x hx=>(h x hx).2)
 simp only[List.map_id'] at h1 h2 h3 h4
 grind
def qi (t:TrU):Int:=t.yi-t.yh
def loB (x:Bun):Int:=Xd x.yi.lens-Z3 x.yh.lens
def hiB (x:Bun):Int:=Z3 x.yi.lens-Xd x.yh.lens
def QdP (p:Zh):Int × Int:=((span ((J4 p).map loB)).1,(span ((J4 p).map hiB)).2)
theorem Qa2 (p:Zh):QdP p=span ((UN p).map qi):=by
 by_cases hn:UN p=[]
 ·have:=Qar.2 hn
  simp[QdP,hn,this]
 ·have hb:J4 p≠[]:=fun h=>hn (Qar.1 h)
  have xf:(J4 p).map loB≠[]:=by simpa using hb
  have hhi:(J4 p).map hiB≠[]:=by simpa using hb
  have h1:=(QdS _ xf).1;have h2:=(QdS _ hhi).2
  symm
  obtain ⟨x,hx,ex⟩:=QKh.1 h1;obtain ⟨y,hy,ey⟩:=QKh.1 h2;obtain ⟨s1,s2,s3,s4⟩:=ZR hx;obtain ⟨s5,s6,s7,s8⟩:=ZR hy;refine Qu2 (by simpa using hn) ?_ ?_ ?_
  ·refine QKh.2 ⟨_,Yw hx (Z8 s1 s3).2.1 (Z8 s2 s4).1,?_⟩
   rw[<- ex];rfl
  ·refine QKh.2 ⟨_,Yw hy (Z8 s5 s7).1 (Z8 s6 s8).2.1,?_⟩
   rw[<- ey];rfl
  ·intro z hz
   obtain ⟨t,ht,rfl⟩:=QKh.1 hz;obtain ⟨u,hu,_,hub,hua⟩:=JC ht;obtain ⟨u1,u2,u3,u4⟩:=ZR hu;have e1:=(Z8 u1 u3).2.2 _ hub;have e2:=(Z8 u2 u4).2.2 _ hua;have f1:=(VR loB _ _ hu).1;have f2:=(VR hiB _ _ hu).2;simp only[loB,hiB,qi] at *;omega
def XA (b a part:Int):Bool:=decide (1000*(a-b)<=part*b)
theorem Qdg {b a b' a' part:Int} (hp:0<=part) (hb:b<=b') (ha:a'<=a) (h:XA b a part=true):XA b' a' part=true:=by
 simp only[XA,decide_eq_true_eq] at *;have:part*b<=part*b':=QK0 hb hp;omega
def Qde (p:Zh) (part:Int):Int :=
 if (J4 p).all fun x=>XA (Xd x.yh.lens) (Z3 x.yi.lens) part then 1 else if (J4 p).any fun x=>XA (Z3 x.yh.lens) (Xd x.yi.lens) part then 3 else 2
theorem QnN (p:Zh) (part:Int) (hp:0<=part):Qde p part=if (UN p).all fun t=>XA t.yh t.yi part then 1 else if (UN p).any fun t=>XA t.yh t.yi part then 3 else 2:=by
 have e1:((J4 p).all fun x=>XA (Xd x.yh.lens) (Z3 x.yi.lens) part)=((UN p).all fun t=>XA t.yh t.yi part):=by
  rw[QLE];simp only[QKw];constructor
  ·intro h t ht
   obtain ⟨u,hu,_,hub,hua⟩:=JC ht;obtain ⟨u1,u2,u3,u4⟩:=ZR hu;exact Qdg hp ((Z8 u1 u3).2.2 _ hub).1 ((Z8 u2 u4).2.2 _ hua).2 (h u hu)
  intro h x hx;obtain ⟨u1,u2,u3,u4⟩:=ZR hx;exact h _ (Yw hx (Z8 u1 u3).1 (Z8 u2 u4).2.1)
 have e2:((J4 p).any fun x=>XA (Z3 x.yh.lens) (Xd x.yi.lens) part)=((UN p).any fun t=>XA t.yh t.yi part):=by
  rw[QLE];simp only[QLg];constructor
  ·rintro ⟨x,hx,h⟩
   obtain ⟨u1,u2,u3,u4⟩:=ZR hx;exact ⟨_,Yw hx (Z8 u1 u3).2.1 (Z8 u2 u4).1,h⟩
  rintro ⟨t,ht,h⟩
  obtain ⟨u,hu,_,hub,hua⟩:=JC ht;obtain ⟨u1,u2,u3,u4⟩:=ZR hu;exact ⟨u,hu,Qdg hp ((Z8 u1 u3).2.2 _ hub).2 ((Z8 u2 u4).2.2 _ hua).1 h⟩
 unfold Qde;rw[e1,e2]
def QJx (p:Zh):Option Nat:=(List.range 1001).find? fun (i:Nat)=>decide (Qde p i=1)
def Qvb (p:Zh) (rod:Nat):List Int:=Jd ((J4 p).map fun x=>x.zi.getD rod 0)
theorem Qnj {p:Zh} {rod:Nat} {n:Int}:n∈Qvb p rod↔∃ t∈UN p,t.zi.getD rod 0=n:=by
 unfold Qvb;rw[Vl,QKh];constructor
 ·rintro ⟨x,hx,e⟩
  obtain ⟨_,_,h1,h2⟩:=ZR hx;obtain ⟨b,hb⟩:=QKS _ h1;obtain ⟨a,ha⟩:=QKS _ h2;exact ⟨_,Yw hx hb ha,e⟩
 rintro ⟨t,ht,e⟩
 obtain ⟨x,hx,h1,_⟩:=JC ht
 grind
end Go.Pf
namespace Go.Pf
open Go
set_option maxRecDepth 8000
abbrev Txt:=List UInt8
def Qd9 (w:Txt):Option Int :=
 if w.head?=some 45 then
  (if (w.drop 1).length<=9/\(w.drop 1).head?≠some 48 then (Lib.decNat (w.drop 1)).map fun (m:Nat) => -(m:Int) else none)
 else if w.length<=9/\(w.head?=some 48->w.length<=1) then (Lib.decNat w).map fun (m:Nat)=>(m:Int) else none
theorem QgC (u:Nat):Lib.decDigits u≠[]:=by
 rw[Lib.decDigits];split<;>simp
theorem UJ:∀ (l:Txt) (acc m:Nat) (c:UInt8),Lib.decFrom acc l=some m->Lib.decFrom acc (l++[c])=(Lib.digitVal c).map fun d=>m*10+d
 | [],acc,m,c,h=>by
   cases h;simp only[QKe,Lib.decFrom]
   grind
 | b::r,acc,m,c,h=>by
   simp only[QJ8,Lib.decFrom] at h |-;cases hb:Lib.digitVal b with
   | some d =>
     rw[hb] at h;exact UJ r _ m c h
   | _=>grind
theorem Qb7 {d:Nat} (h:d<10):Lib.digitVal (UInt8.ofNat (48+d))=some d:=by
 have:(UInt8.ofNat (48+d)).toNat=48+d:=by simp;omega
 unfold Lib.digitVal
 grind
theorem QcA (u:Nat):Lib.decFrom 0 (Lib.decDigits u)=some u:=by
 induction u using Nat.strongRecOn with
 | ind u ih =>
   rw[Lib.decDigits];split
   ·rename_i h
    have:=Qb7 h;simp only[Lib.decFrom,this];simp
   rename_i h;rw[UJ _ _ _ _ (ih (u / 10) (by omega)),Qb7 (by omega)]
   simp;omega
theorem WC (u:Nat):Lib.decNat (Lib.decDigits u)=some u:=by
 unfold Lib.decNat;rw[if_neg (by simpa[List.isEmpty_iff] using QgC u),QcA]
theorem UC (u:Nat):∃ d,d<10/\(Lib.decDigits u).head?=some (UInt8.ofNat (48+d))/\(d=0->u=0):=by
 induction u using Nat.strongRecOn with
 | ind u ih =>
   rw[Lib.decDigits];split
   ·rename_i h
    exact ⟨u,h,by simp,id⟩
   rename_i h;obtain ⟨d,h1,h2,h3⟩:=ih (u / 10) (by omega)
   grind
theorem QqV {d:Nat} (h:d<10):UInt8.ofNat (48+d)≠45:=by
 intro e;have:=congrArg UInt8.toNat e;simp at this;omega
theorem Qc4 {d:Nat} (h:d<10) (e:UInt8.ofNat (48+d)=48):d=0:=by
 have:=congrArg UInt8.toNat e;simp at this;omega
theorem qo:∀ (n:Nat) (l:Txt),l.length=n->∀ u,Lib.decNat l=some u->(l.head?=some 48->l.length<=1)->Lib.decDigits u=l
 | 0,l,hl,u,h,_=>by
   have:=QJ3 hl;subst this;cases h
 | n+1,l,hl,u,h,hz=>by
   have hne:l≠[]:=fun e=>by grind
   obtain ⟨r,c,rfl⟩:∃ r c,l=r++[c]:=⟨l.dropLast,l.getLast hne,(QK5 hne).symm⟩
   have hr:r.length=n:=by simpa using hl
   have h':Lib.decFrom 0 (r++[c])=some u:=by
    unfold Lib.decNat at h
    grind
   have hdv:∀ d,Lib.digitVal c=some d->d<10/\c=UInt8.ofNat (48+d):=fun d hd=>by
    unfold Lib.digitVal at hd;split at hd
    ·rename_i hc
     injection hd with hd
     refine ⟨by omega,UInt8.toNat_inj.1 ?_⟩
     simp;omega
    cases hd
   cases hm:Lib.decFrom 0 r with
   | none =>
     exfalso
     have:∀ (l:Txt) (acc:Nat),Lib.decFrom acc l=none->Lib.decFrom acc (l++[c])=none:=by
      intro l
      induction l with
      | nil=>intro acc h;cases h
      | cons b t ih =>
        intro acc h;simp only[QJ8,Lib.decFrom] at h |-
        grind
     grind
   | some m =>
     rw[UJ r 0 m c hm,QJ0] at h';obtain ⟨d,hd,rfl⟩:=h';obtain ⟨hd10,rfl⟩:=hdv d hd;by_cases hr0:r=[]
     ·subst hr0
      cases hm;rw[Lib.decDigits];simp[hd10]
     ·have hpos:0<r.length:=QK1.2 hr0
      have hhead:r.head?≠some 48:=fun e=>by
       grind
      have hm':Lib.decNat r=some m:=by
       unfold Lib.decNat
       grind
      have ih:=qo n r hr m hm' (fun e=>absurd e hhead)
      have hm0:m≠0:=fun e=>by
       subst e;have e1:Lib.decDigits 0=[48]:=by rw[Lib.decDigits];rfl
       grind
      rw[Lib.decDigits,dif_neg (by omega)]
      grind
theorem Qnc {w:Txt} {v:Int} (h:Qd9 w=some v):Lib.itoa v=w/\(Lib.trimPrefix w [45]).length<=9/\Lib.atoiAll w=.ok v:=by
 unfold Qd9 at h;split at h
 ·rename_i h45
  obtain ⟨r,rfl⟩:∃ r,w=45::r:=by
   cases w with
   | _=>grind
  simp only[List.drop_succ_cons,List.drop_zero] at h;split at h
  ·rename_i hc
   rw[QJ0] at h;obtain ⟨m,hm,rfl⟩:=h;have hd:=qo _ r rfl m hm (fun e=>absurd e hc.2)
   have hm1:1<=m:=by
    rcases QLs m with h0 | h0
    ·subst h0
     exfalso;have e1:Lib.decDigits 0=[48]:=by rw[Lib.decDigits];rfl
     grind
    exact h0
   refine ⟨by rw[Lib.itoa_neg m hm1,hd],by simp[Lib.trimPrefix,Lib.hasPrefix,hc.1],?_⟩
   rw[Lib.atoiAll_short _ (by simp;omega)]
   simp[Lib.atoi,hm,Lib.NumEnd.ofOption]
  cases h
 ·rename_i h45
  split at h
  ·rename_i hc
   rw[QJ0] at h;obtain ⟨m,hm,rfl⟩:=h;have hd:=qo _ w rfl m hm hc.2;obtain ⟨d,hd10,hh,_⟩:=UC m;rw[hd] at hh;refine ⟨by rw[Lib.itoa_nonneg,hd],?_,?_⟩
   ·have:Lib.hasPrefix w [45]=false:=by
     cases w with
     | nil=>rfl
     | cons a r =>
       have:a≠45:=fun e=>h45 (by rw[e];rfl)
       simp[Lib.hasPrefix,List.isPrefixOf,Ne.symm this]
    simp[Lib.trimPrefix,this,hc.1]
   rw[Lib.atoiAll_short _ (by omega)]
   cases w with
   | nil=>cases hm
   | cons a r =>
     have e45:a≠45:=fun e=>h45 (by rw[e];rfl)
     have e43:a≠43:=fun e=>by
      subst e;simp at hh;have:=congrArg UInt8.toNat hh;simp at this;omega
     simp[Lib.atoi,e45,e43,hm,Lib.NumEnd.ofOption]
  ·cases h
theorem Qf8 {w:Txt} {v:Int} (h1:Lib.itoa v=w) (h2:(Lib.trimPrefix w [45]).length<=9):Qd9 w=some v:=by
 unfold Lib.itoa at h1;split at h1
 ·rename_i hv
  subst h1;obtain ⟨d,hd10,hh,h0⟩:=UC v.natAbs
  have hz:(Lib.decDigits v.natAbs).head?≠some 48:=fun e=>by
   rw[hh] at e;injection e with e
   have:=h0 (Qc4 hd10 e);omega
  have hl:(Lib.decDigits v.natAbs).length<=9:=by simpa[Lib.trimPrefix,Lib.hasPrefix] using h2
  simp[Qd9,hz,hl,WC];omega
 rename_i hv;subst h1;obtain ⟨d,hd10,hh,h0⟩:=UC v.toNat
 have h45:(Lib.decDigits v.toNat).head?≠some 45:=fun e=>by
  rw[hh] at e;injection e with e
  exact QqV hd10 e
 have hp:Lib.hasPrefix (Lib.decDigits v.toNat) [45]=false:=by
  cases hw:Lib.decDigits v.toNat with
  | nil=>rfl
  | cons a r =>
    have:a≠45:=fun e=>h45 (by grind)
    simp[Lib.hasPrefix,List.isPrefixOf,Ne.symm this]
 have hl:(Lib.decDigits v.toNat).length<=9:=by simpa[Lib.trimPrefix,hp] using h2
 have h48:(Lib.decDigits v.toNat).head?=some 48->(Lib.decDigits v.toNat).length<=1:=fun e=>by
  rw[hh] at e;injection e with e
  have:=h0 (Qc4 hd10 e);rw[this,Lib.decDigits];simp
 unfold Qd9;rw[if_neg h45,if_pos ⟨hl,h48⟩,WC];simp;omega
end Go.Pf
namespace Go.Pf
open Go Go.Ev Go.Proofs Go.RowKit Go.Proofs.Tryz
set_option maxRecDepth 8000
structure Qd where
 ze:Qf
 zq:Zh
@[simp] def hoC (h:Qd):List IV:=[QB h.ze.zc.za,Qw h.ze.zc.zg,.int .i64 h.ze.zc.zh,QT h.ze.zb.zd,.int .i64 h.ze.zb.zr,.int .i64 h.ze.zb.zu,.int .i64 h.ze.zb.zw,XN h.ze.zb.zk,.int .i64 h.ze.zb.zh,
 Xi h.ze.zf,.int .i64 h.ze.zo,.int .i64 h.ze.ya,.int .i64 h.zq.yj,.int .i64 h.zq.yc,.int .i64 h.zq.yg,W0 h.zq.zi,Y1 h.zq.zj,.int .i64 h.zq.zh]
@[simp] def hoV (h:Qd):IV:=.agg (hoC h)
def okH (h:Qd):Prop:=OkP h.ze/\OkU h.zq
noncomputable instance (h:Qd):Decidable (okH h):=Classical.propDecidable _
def QeZ:Txt:=[121,101,115]
def tNo:Txt:=[110,111]
def QqE:Txt:=[110,111,110,101]
def Qff:Txt:=[119,104,97,116]
def QmC:Txt:=[115,117,114,101,108,121]
def QtH:Txt:=[110,101,118,101,114]
def QjO:Txt:=[112,101,114,104,97,112,115]
def Qct:List Txt->Txt
 | []=>[]
 | [x]=>x
 | x::y::r=>x++32::Qct (y::r)
def QAy (l:List Int):Txt:=if l=[] then QqE else Qct (l.map Lib.itoa)
def Yn (l:List Int) (e:Int):Txt:=if e=0 then QAy l else if e=3 then QqE else tNo
def QbJ (n e:Int):Txt:=if e=0 then (if n=1 then QmC else if n=2 then QtH else QjO) else Yn [] e
inductive WL where
 | weld | cut | turn | prove | undo | see | balance | read
 | who | wher | first | pulls | z8 | loads | xa | y9 | xb | opn | good | worth | zm | stretch | best | holds | zi
 deriving DecidableEq
def ZI:List (Txt × Nat × WL):=[
 ([119,101,108,100],4,.weld),([99,117,116],2,.cut),([116,117,114,110],0,.turn),([112,114,111,118,101],3,.prove),([117,110,100,111],0,.undo),
 ([115,101,101],5,.see),([98,97,108,97,110,99,101],4,.balance),([114,101,97,100],7,.read),
 ([119,104,111],1,.who),([119,104,101,114,101],1,.wher),([102,105,114,115,116],0,.first),([112,117,108,108,115],2,.pulls),([98,114,111,107,101],1,.z8),
 ([108,111,97,100,115],1,.loads),([102,97,105,108,117,114,101,115],0,.xa),([99,111,110,100,101,109,110,101,100],0,.y9),([112,114,111,118,101,100],1,.xb),
 ([111,112,101,110],0,.opn),([103,111,111,100],0,.good),([119,111,114,116,104],0,.worth),([119,101,105,103,104,116],0,.zm),([115,116,114,101,116,99,104],0,.stretch),
 ([98,101,115,116],0,.best),([104,111,108,100,115],1,.holds),([114,111,100,115],1,.zi)]
def Xq (w:Txt):Option (Nat × WL):=(ZI.find? fun p=>p.1==w).map (·.2)
def nI (l:List Int) (i:Nat):Int:=l.getD i 0
def Qh (h:Qd) (d:Qx):Qd:={ h with ze:={ h.ze with zc:={ h.ze.zc with za:=h.ze.zc.za++[d] } } }
def Zy (h:Qd) (v:WL) (l:List Int):Option Qd :=
 match v with
 | .weld=>some (Qh h ⟨1,nI l 0,nI l 1,nI l 2,nI l 3⟩)
 | .cut=>some (Qh h ⟨2,nI l 0,nI l 1,0,0⟩)
 | .turn=>some (Qh h ⟨3,0,0,0,0⟩)
 | .prove=>some { h with ze:={ h.ze with zc:={ h.ze.zc with za:=h.ze.zc.za++[⟨4,0,0,0,0⟩] },zf:=h.ze.zf++[⟨nI l 0,nI l 1,nI l 2⟩] } }
 | .undo=>match h.ze.zc.za.getLast? with
   | none=>none
   | some d=>some { h with ze:={ h.ze with zc:={ h.ze.zc with za:=h.ze.zc.za.dropLast },zf:=if d.zp=4 then h.ze.zf.dropLast else h.ze.zf } }
 | .see=>some { h with ze:={ h.ze with zc:={ h.ze.zc with zg:=h.ze.zc.zg++[⟨nI l 0,nI l 1,nI l 2,nI l 3,nI l 4⟩] } } }
 | .balance=>some { h with ze:={ h.ze with zb:={ h.ze.zb with zk:=h.ze.zb.zk++[⟨nI l 0,nI l 1,nI l 2,nI l 3⟩] } } }
 | .read=>some { h with zq:={ h.zq with zj:=h.zq.zj++[⟨nI l 0,nI l 1,nI l 2,nI l 3,nI l 4,nI l 5,nI l 6⟩] } }
 | _=>none
def Zi:WL->Bool
 | .weld | .cut | .turn | .prove | .undo | .see | .balance | .read=>true
 | _=>false
def QY (out:List Txt) (c:UInt8):List Txt:=if c=32 then out++[[]] else out.set (out.length-1) (out.getD (out.length-1) []++[c])
def spl (s:Txt):List Txt:=s.foldl QY [[]]
@[simp] def strs (l:List Txt):IV:=.sl 1 (l.map fun s=>[.str s])
theorem Qle (x:List Txt) (l:Txt) (c:UInt8):QY (x++[l]) c=x++QY [l] c:=by
 unfold QY
 grind
theorem Qhc (s:Txt):∀ (x:List Txt) (l:Txt),s.foldl QY (x++[l])=x++s.foldl QY [l]:=by
 induction s with
 | cons c s ih =>
   intro x l;simp only[QKL];rw[Qle];by_cases h:c=32
   ·have e:QY [l] c=[l]++[[]]:=by simp[QY,h]
    grind
   have e:QY [l] c=[l++[c]]:=by simp[QY,h]
   rw[e,ih]
 | _=>grind
theorem QcN (s:Txt):∀ l:Txt,s.foldl QY [l]≠[]:=by
 induction s with
 | cons c s ih =>
   intro l;simp only[QKL];by_cases h:c=32
   ·have e:QY [l] c=[l]++[[]]:=by simp[QY,h]
    rw[e,Qhc];simp
   have e:QY [l] c=[l++[c]]:=by simp[QY,h]
   grind
 | _=>grind
theorem Qfh (a b:Txt):spl (a++32::b)=spl a++spl b:=by
 unfold spl;rw[QLc];have h:=QcN a [];generalize a.foldl QY [[]]=x at *;obtain ⟨y,l,rfl⟩:∃ y l,x=y++[l]:=⟨x.dropLast,x.getLast h,(QK5 h).symm⟩
 simp only[QKL];have e:QY (y++[l]) 32=(y++[l])++[[]]:=by simp[QY]
 rw[e,Qhc]
theorem QjQ (a:Txt) (h:32 ∉ a):spl a=[a]:=by
 have:∀ (a l:Txt),32 ∉ a->a.foldl QY [l]=[l++a]:=by
  intro a
  induction a with
  | cons c s ih =>
    intro l h;simp only[QJ7,not_or] at h;have e:QY [l] c=[l++[c]]:=by simp[QY,Ne.symm h.1]
    grind
  | _=>grind
 have:=this a [] h;simpa[spl] using this
theorem X6 (s:Txt):spl (32::s)=[]::spl s:=by
 have:=Qfh [] s;simpa[spl] using this
theorem QqG (s:Txt):∀ l:Txt,s.foldl QY [l]=(l++(spl s).headD [])::(spl s).tail:=by
 induction s with
 | nil=>intro l;simp[spl]
 | cons c s ih =>
   intro l;by_cases h:c=32
   ·subst h
    rw[X6,QKL];have e:QY [l] 32=[l]++[[]]:=by simp[QY]
    rw[e,Qhc];simp[spl]
   have e:∀ l,QY [l] c=[l++[c]]:=fun l=>by simp[QY,h]
   rw[QKL,e,ih]
   have:spl (c::s)=([c]++(spl s).headD [])::(spl s).tail:=by
    unfold spl
    grind
   grind
theorem VP (c:UInt8) (s:Txt) (h:c≠32):spl (c::s)=(c::(spl s).headD [])::(spl s).tail:=by
 have e:QY [[]] c=[[c]]:=by simp[QY,h]
 unfold spl;rw[QKL,e,QqG];rfl
theorem splitK_spl:∀ s:Txt,Lib.splitK [32] 0 (Lib.count s [32]) s=spl s
 | []=>by
   rw[Lib.count_miss (by simp[Lib.index])]
   rfl
 | c::s=>by
   have ih:=splitK_spl s;by_cases h:c=32
   ·subst h
    have hix:Lib.index ((32:UInt8)::s) [32]=0:=by rw[Lib.index];grind
    rw[Lib.count_cons_eq,Nat.add_comm,Lib.splitK,hix,X6,<- ih];simp
   rw[Lib.count_cons_ne c 32 s h,VP c s h,<- ih];have hp:([32]:List UInt8).isPrefixOf (c::s)=false:=by grind
   have hix:Lib.index (c::s) [32]=if Lib.index s [32] == -1 then -1 else Lib.index s [32]+1:=by rw[Lib.index,hp];simp
   cases hk:Lib.count s [32] with
   | zero=>simp[Lib.splitK]
   | succ k =>
     have hm:¬ Lib.index s [32] = -1:=fun e=>by rw[Lib.count_miss e] at hk;cases hk
     have hge:=Lib.index_ge s [32];obtain ⟨j,hj⟩:∃ j:Nat,Lib.index s [32]=j:=⟨(Lib.index s [32]).toNat,by omega⟩
     have h1:¬ ((j:Int) == -1)=true:=by simp
     have h2:¬ ((j:Int)+1 == -1)=true:=by simp;omega
     have h3:((j:Int)+1).toNat=j+1:=by omega
     simp only[Lib.splitK,hix,hj,if_neg h1,if_neg h2,h3,QKB];simp
theorem spl_len:∀ s:Txt,(spl s).length<=s.length+1
 | []=>by simp[spl]
 | c::s=>by
   have ih:=spl_len s;by_cases h:c=32
   ·subst h;rw[X6];simp;exact ih
   rw[VP c s h];simp;omega
theorem qw (s:Txt):∀ x∈spl s,x.length<=s.length:=by
 induction s with
 | nil=>intro x hx;simp[spl] at hx;subst hx;simp
 | cons c s ih =>
   intro x hx;by_cases h:c=32
   ·subst h
    rw[X6] at hx
    grind
   rw[VP c s h] at hx;rcases QJ7.1 hx with rfl | hx
   ·cases hs:spl s with
    | _=>grind
   have:=ih x (List.mem_of_mem_tail hx);simp;omega
end Go.Pf
namespace Go.Ev
open Go Go.RowKit
section
variable {P:Program} {K:World->Prop}
end
section
variable {P:Program} {K:World->Prop}
theorem Qbj {ok w' fr o1 L'} (h:Qml fr ok w' (Qc o1) L') (xd:∀ b,fr b->b<w'.heap.size) :
  Rel ok ⟨0,[]⟩ ⟨w',fr,xd,fun _=>undef⟩ (look []) (Qc o1) { tmps:=#[],defers:=[] } w' L' :=
 ⟨Zq.refl _ _,⟨[],rfl,QLK,by simp⟩,rfl,fun t=>.iv _ _ (.any _),h.xc,h.apart,fun t ht=>by simp at ht⟩
theorem Wt (hK:∀ w w',K w->Below w.heap.size w w'->K w') {f xs y o1 r} (h:Y0 P K f (xs.map .iv) [] [] y o1) (hi:imm (Qc o1) 40 y=some r):Good P K f xs r:=by
 intro w ok vs hk hnew hl hvs;have hn:∀ b,¬ qs (Qc []) (fun _=>.one 0) b:=fun b ⟨id,ob,h1,_⟩=>by simp[Qc] at h1
 have hFr:∀ b,b<w.heap.size->FrO w (Qc []) (fun _=>.one 0) b:=fun b hb=>⟨hb,hn b⟩
 refine (h w ok (fun _=>.one 0) vs (fun w' y8=>hK w w' hk (y8.mono hFr).below) hnew (fun b hb=>absurd hb (hn b)) ⟨by simp[Qc],by simp[Qc]⟩ (by simpa using hl) (fun k x u hx hu=>?_)).mono
  fun e w' ⟨v,L',he,hlaid,hrep,y8,_⟩=>⟨v,he,?_,(y8.mono hFr).below⟩
 ·rw[QJ4,QJ0] at hx
  obtain ⟨z,hz,rfl⟩:=hx;exact .iv _ _ ((hvs k z u hz hu).mono fun b hb _=>⟨⟨hb,by simp[Qc]⟩,rfl⟩)
 ·have xd:∀ b,FrO w (Qc []) (fun _=>.one 0) b->b<w'.heap.size:=fun b hb=>QKA hb.1 y8.size
  refine (JA (Qbj hlaid xd) (ok1:=ok) (fun b hb=>hb.1) (lo':=Qc o1) (fun _ _ h=>h) (fun id ob b hob hb=>?_) 40).1 y v r hrep hi
  by_cases hbl:b<w.heap.size
  ·exact absurd (hFr b hbl) ((hlaid.xc id ob hob).lt hb).1
  ·exact hnew b (QK2.1 hbl)
theorem Y0.give {f args o rows st r cs xs} (h:Y0 P K f args o st (.iv r) ((0,.box cs)::rows)) (hst0:∀ i∈st,i=0)
  (hx:imms (fun i=>if i=0 then Option.none else Qc ((0,.box cs)::rows) i) 40 cs=some xs):Y0 P K f args o st (.iv r) [(0,.box (xs.map .iv))]:=by
 intro w ok L vs hK hnew hown hlaid hvl hvs;refine (h w ok L vs hK hnew hown hlaid hvl hvs).mono fun e w' ⟨v,L',he,hl',hrep,y8,hst⟩=>⟨v,L',he,?_,?_,y8,?_⟩
 ·have h0:Qc ((0,AO.box cs)::rows) 0=some (.box cs):=rfl
  have xd:∀ b,FrO w (Qc o) L b->b<w'.heap.size:=fun b hb=>QKA hb.1 y8.size
  have one0:∀ i ob,Qc [(0,AO.box (xs.map AV.iv))] i=some ob->i=0/\ob=.box (xs.map .iv):=fun i ob hob=>by
   simp only[Qc] at hob
   grind
  have hsub:∀ b,okL ok (Qc ((0,AO.box cs)::rows)) L' b->okL ok (Qc [(0,AO.box (xs.map AV.iv))]) L' b:=fun b hb=>⟨hb.1,fun i ob hob=>by
   obtain ⟨rfl,rfl⟩:=one0 i ob hob;exact hb.2 0 _ h0⟩
  have hs:=(JA (Qbj hl' xd) (ok1:=okL ok (Qc [(0,AO.box (xs.map AV.iv))]) L') hsub (lo':=fun i=>if i=0 then Option.none else Qc ((0,.box cs)::rows) i)
   (fun id ob hob=>by
     split at hob
     ·cases hob
     exact hob)
   (fun id ob b hob hb=>by
     split at hob
     ·cases hob
     rename_i hid;refine ⟨?_,fun i oi hi=>?_⟩
     ·have hnf:=((hl'.xc id ob hob).lt hb).1
      by_cases hbl:b<w.heap.size
      ·exact hown b (Classical.byContradiction fun hno=>hnf ⟨hbl,hno⟩)
      exact hnew b (QK2.1 hbl)
     obtain ⟨rfl,rfl⟩:=one0 i oi hi;exact fun hb0=>hl'.apart 0 id _ ob b (fun e=>hid e.symm) h0 hob hb0 hb) 40).2 cs xs hx
  refine ⟨fun i ob hob=>?_,fun i j oi oj b hij hi hj=>?_⟩
  ·obtain ⟨rfl,rfl⟩:=one0 i ob hob
   have hob0:=hl'.xc 0 _ h0;generalize L' 0=l0 at hob0;cases l0 with
   | box b =>
     obtain ⟨hB,t,us,hb,hul,h1,hcx⟩:=hob0;refine ⟨hB,t,us,hb,by rw[QJ9,hs.1];exact hul,h1,fun k x u hk hu=>?_⟩
     grind
   | _=>exact hob0.elim
  grind
 ·cases hrep with
  | iv _ _ hr=>exact .iv _ _ (hr.mono fun b hb _=>⟨⟨hb.1,fun i ob hob=>by
    simp only[Qc] at hob;split at hob
    ·rename_i hi
     subst hi;exact hb.2 0 _ (show Qc ((0,AO.box cs)::rows) 0=some (.box cs) from rfl)
    cases hob⟩,rfl⟩)
 intro i hi ob hob;have hi0:=hst0 i hi;subst hi0;obtain ⟨ob',h1,h2⟩:=hst 0 hi ob hob
 have:ob'=.box cs:=by
  have h0:Qc ((0,AO.box cs)::rows) 0=some (.box cs):=rfl;rw[h0] at h1;injection h1 with h1
  exact h1.symm
 subst this;refine ⟨_,rfl,?_⟩;cases ob<;>simp only[J2] at h2 |-
 grind
end
end Go.Ev
namespace Go.Pf
open Go Go.Ev Go.Proofs Go.RowKit Go.Proofs.Tryz
set_option maxRecDepth 8000
structure KW (w:World):Prop where
 shaped:w.ShapedOpen prog
 tab : Lib.TabIs prog w "internal/strconv.uint64pow10" .u64 Lib.pow10Tab
 syn : ∃ tp p, w.var? prog "strconv.ErrSyntax" = some #[.iface tp p]
 rng : ∃ tp p, w.var? prog "strconv.ErrRange" = some #[.iface tp p]
theorem Qxq {n:String} {cs:Array Value} {w:World} (h:w.var? prog n=some cs):∃ g,prog.globalNamed n=some g/\g<w.heap.size:=by
 unfold World.var? at h;cases hg:prog.globalNamed n with
 | _=>grind
theorem QdI {n:String} {cs:Array Value} {w w':World} (h:w.var? prog n=some cs) (hb:Below w.heap.size w w'):w'.var? prog n=some cs:=by
 obtain ⟨g,hg,xd⟩:=Qxq h;exact var?_below hb hg xd h
theorem hKW:∀ w w',KW w->Below w.heap.size w w'->KW w':=fun w w' ⟨h1,h2,⟨t1,p1,h3⟩,t2,p2,h4⟩ hb =>
 ⟨World.ShapedOpen.keptBut h1 (hb.frame (fun _=>False)) (fun _ c=>c.elim),QdI h2 hb,⟨t1,p1,QdI h3 hb⟩,t2,p2,QdI h4 hb⟩
theorem Qxa (s:Txt) (hs:s.length<=1000):Gd KW 138 [.str s,.str [32]] (strs (spl s)):=by
 intro w ok vs hk hok hl hx
 obtain ⟨v0,v1,rfl⟩:∃ v0 v1,vs=[v0,v1]:=by
  match vs,hl with
  | [a,b],_=>grind
 have r0:=hx 0 _ v0 rfl rfl;have r1:=hx 1 _ v1 rfl rfl;cases r0;cases r1;have:=Any.strings_Split_shaped Tryz.laysM146 ⟨s.toArray⟩ ⟨[32].toArray⟩ w hk.shaped (by simp[ByteArray.size];omega) (by simp[ByteArray.size])
 refine this.mono fun e w' ⟨he,hw⟩=>?_
 subst he hw;have hb:=Qz w (.cells ((Lib.splitB ⟨[32].toArray⟩ 0 (Lib.countB ⟨s.toArray⟩ ⟨[32].toArray⟩) ⟨s.toArray⟩).map Value.string).toArray (Tryz.laysM146_ren.t 9))
 have hd:(Lib.splitB ⟨[32].toArray⟩ 0 (Lib.countB ⟨s.toArray⟩ ⟨[32].toArray⟩) ⟨s.toArray⟩).map (·.data.toList)=spl s:=by
  rw[Lib.splitB_data];exact splitK_spl s
 have hlen:=Lib.splitB_all ⟨[32].toArray⟩ (by simp[ByteArray.size]) 0 _ ⟨s.toArray⟩ rfl
 generalize Lib.countB ⟨s.toArray⟩ ⟨[32].toArray⟩=n at *;generalize Lib.splitB ⟨[32].toArray⟩ 0 n ⟨s.toArray⟩=L at *;refine ⟨_,rfl,?_,hb⟩;have hl2:(spl s).length=n+1:=by grind
 have hnl:n+1<=maxLen:=by
  have:=spl_len s;simp only[maxLen];omega
 have rep:=QQ.sl (ok:=ok) (w:=w.alloc (.cells (L.map Value.string).toArray (Tryz.laysM146_ren.t 9))) 1 ((spl s).map fun s=>[IV.str s]) w.heap.size 0 (n+1) (fun k=>.string (L.getD k default)) (by simp[hl2]) hnl (by simp) (fun k hk=>?_) (fun i j c x hi hj=>?_)
 ·simpa[hl2] using rep
 ·simp[hl2] at hk
  have hkl:k<L.length:=by omega
  refine ⟨hok _ (QJ2 _),?_,rfl⟩;rw[QKl];exact Yb w _ _ k _ (by simp[hkl])
 ·simp only[QJ4,QJ0] at hi
  obtain ⟨t,ht,rfl⟩:=hi
  have hj0:j=0:=by
   grind
  subst hj0;simp at hj;subst hj;rw[<- hd,QJ4,QJ0] at ht;obtain ⟨z,hz,rfl⟩:=ht;have e:L.getD (i*1+0) default=z:=by simp[hz]
  rw[e];have:=QQ.str (ok:=ok) (w:=w.alloc (.cells (L.map Value.string).toArray (Tryz.laysM146_ren.t 9))) z.data.toList;simpa using this
theorem Qic (n:Int) (h : -9223372036854775808<=n/\n<=9223372036854775807):Gd KW 229 [.int .i64 n] (.str (Lib.itoa n)):=by
 intro w ok vs hk hok hl hx
 obtain ⟨v0,rfl⟩:∃ v0,vs=[v0]:=by
  match vs,hl with
  | [a],_=>exact ⟨a,rfl⟩
 have r0:=hx 0 _ v0 rfl rfl;cases r0;refine (Any.strconv_Itoa Tryz.laysM171 n h.1 h.2 w hk.tab).mono fun e w' ⟨he,k,os,hw⟩=>?_
 subst he hw;exact ⟨_,rfl,.str _,⟨rfl,rfl,rfl,by simp[Go.Sort.grow],fun b hb=>Array.getElem?_append_left hb⟩⟩
theorem QwH (s p:Txt):Gd KW 230 [.str s,.str p] (.str (Lib.trimPrefix s p)):=by
 intro w ok vs hk hok hl hx
 obtain ⟨v0,v1,rfl⟩:∃ v0 v1,vs=[v0,v1]:=by
  match vs,hl with
  | [a,b],_=>grind
 have r0:=hx 0 _ v0 rfl rfl;have r1:=hx 1 _ v1 rfl rfl;cases r0;cases r1;refine (Any.strings_TrimPrefix Tryz.lays101 ⟨s.toArray⟩ ⟨p.toArray⟩ w).mono fun e w' ⟨he,hw⟩=>?_
 subst he hw;exact ⟨_,rfl,.str _,Below.refl _ _⟩
theorem QwI (s:Txt) (hs:s.length<=1000):Gd KW 228 [.str s] (.xh (match Lib.atoiAll s with | .ok v=>[.int .i64 v,.lit .nilIface] | .range=>[.int .i64 (Lib.atoiSat s),.ifn] | _=>[.int .i64 0,.ifn])):=by
 intro w ok vs hk hok hl hx
 obtain ⟨v0,rfl⟩:∃ v0,vs=[v0]:=by
  match vs,hl with
  | [a],_=>exact ⟨a,rfl⟩
 have r0:=hx 0 _ v0 rfl rfl;cases r0
 have two:∀ (w':World) (n:Int) (z:IV) (u:Value),QQ ok w' z u->QQ ok w' (.xh [.int .i64 n,z]) (.tuple #[.int .i64 n,u]):=fun w' n z u hz=>by
  refine .xh [.int .i64 n,z] [.int .i64 n,u] rfl fun k x v hk hv=>?_
  match k,hk,hv with
  | 0,hk,hv=>injection hk with hk;injection hv with hv;subst hk hv;exact .int _ _
  | 1,hk,hv=>grind
  | k+2,hk,hv=>simp at hk
 cases h:Lib.atoiAll s with
 | ok v =>
   refine (Any.strconv_Atoi_ok Tryz.laysC172 ⟨s.toArray⟩ (by simp[ByteArray.size];omega) v (by simpa using h) w).mono fun e w' ⟨he,hw⟩=>?_
   subst he;refine ⟨_,rfl,two _ _ _ _ (.lit _),?_⟩;rcases hw with rfl | ⟨t,rfl⟩
   ·exact Below.refl _ _
   exact ⟨rfl,rfl,rfl,by rw[Lib.bytesWorld_size];omega,fun j hj=>Lib.bytesWorld_at_old _ _ _ j hj⟩
 | range =>
   obtain ⟨tp,p,hv⟩:=hk.rng;refine (Any.strconv_Atoi_range_var Tryz.laysC172 ⟨s.toArray⟩ (by simp[ByteArray.size];omega) (by simpa using h) tp p w hv).mono fun e w' ⟨N,he,_,_,hb⟩=>?_
   subst he;exact ⟨_,rfl,two _ _ _ _ (.ifn _ rfl),hb⟩
 | _ =>
   obtain ⟨tp,p,hv⟩:=hk.syn;refine (Any.strconv_Atoi_syntax_var Tryz.laysC172 ⟨s.toArray⟩ (by simp[ByteArray.size];omega) (by simpa using h) tp p w hv).mono fun e w' ⟨N,he,_,_,hb⟩=>?_
   subst he;exact ⟨_,rfl,two _ _ _ _ (.ifn _ rfl),hb⟩
theorem Qwv (l:List Txt) (hl0:l.length<=1000000) (hj:(Lib.join l [32]).length<=140737488355328):Gd KW 275 [strs l,.str [32]] (.str (Lib.join l [32])):=by
 intro w ok vs hk hok hl hx
 obtain ⟨v0,v1,rfl⟩:∃ v0 v1,vs=[v0,v1]:=by
  match vs,hl with
  | [a,b],_=>grind
 have r0:=hx 0 _ v0 rfl rfl;have r1:=hx 1 _ v1 rfl rfl;cases r1
 have none_:∀ (a:Option Addr) (c:Nat),l=[]->Calls prog 275 [Value.slice a 0 c,.string ⟨[32].toArray⟩].toArray w (fun e w'=>∃ v,e=.returned v/\QQ ok w' (.str (Lib.join l [32])) v/\Below w.heap.size w w'):=fun a c h0=>by
  subst h0;refine (Any.strings_Join_none Tryz.lays156 Tryz.Builder_Extra_156 a c ⟨[32].toArray⟩ w).mono fun e w' ⟨he,hw⟩=>?_
  subst he hw;exact ⟨_,rfl,.str [],Below.refl _ _⟩
 simp only[strs] at r0;generalize hrows:(l.map fun s=>[IV.str s])=rows at r0
 have hrl:rows.length=l.length:=by grind
 cases r0 with
 | sl _ _ b off cap u hlc hc hsz hu hxx =>
   have hcell:∀ (j:Nat) (x:ByteArray),(l.map fun s=>(⟨s.toArray⟩:ByteArray))[j]?=some x->w.cell? ⟨b,off+j,none⟩=some (.string x):=fun j x hj=>by
    rw[QJ4,QJ0] at hj;obtain ⟨s,hs,rfl⟩:=hj;have hjl:=(QJX.1 hs).1;have h1:=(hu j (by rw[hrl];omega)).2.1
    have h2:=hxx j 0 [.str s] (.str s) (by grind) rfl
    simp only[QLw,QKT] at h2;cases h2':u j with
    | _=>rw[h2'] at h2;first | (cases h2;rw[h1,h2']) | cases h2
   by_cases h0:l=[]
   ·grind
   have hbk:b<w.heap.size:=QKR w ⟨b,off+0,none⟩ (hu 0 (by grind)).2.1
   have hd:(l.map fun s=>(⟨s.toArray⟩:ByteArray)).map (·.data.toList)=l:=by simp[List.map_map,Function.comp_def]
   have:=Any.strings_Join Tryz.lays156 Tryz.Builder_Extra_156 b off cap (l.map fun s=>(⟨s.toArray⟩:ByteArray)) ⟨[32].toArray⟩ w hcell hbk (by simp;omega) (by simp;omega) (by rw[hd];exact hj)
   rw[hd,QJ9,<- hrl] at this;refine this.mono fun e w' ⟨he,hb⟩=>?_
   subst he;exact ⟨_,rfl,.str _,hb⟩
 | _=>grind
end Go.Pf
namespace Go.Pf
open Go Go.Ev Go.Proofs Go.RowKit Go.ChangeShapes Go.WideShapes Go.Proofs.YtcdbenehbakjgaaGreatDoor Go.Proofs.Tryz
theorem own:ownKnob prog.godebug=none:=by kernel_rfl
theorem Qnx:laidOutB prog=true:=by kernel_rfl
noncomputable def QbH (os:Os):World:=World.laidAll prog os Rows.booksHouseRow.laid
theorem Qq7 (os:Os) (args:Array Value):laidMet prog Rows.booksHouseRow.laid ((QbH os).forCall (fun _ _=>0) ⟨#[],args,[]⟩).memory :=
 laidMet_laidAll args (by kernel_rfl) (by kernel_rfl)
theorem QEZ : "*" ++ "errors.errorString" = "*errors.errorString" := by decide
set_option maxRecDepth 100000 in
theorem Quo (u : TypeId) (h : prog.typeName? 3 u = some "*errors.errorString") : u = 442 :=
 typeName_ptr_named (nm := "errors.errorString") (by rw [QEZ]; kernel_rfl) (by kernel_rfl) (by decide) u (by rw [QEZ]; exact h)
def Up (es:List Sh) (row:List IV):Prop:=∀ (j:Nat) (s:Sh) (x:IV),es[j]?=some s->row[j]?=some x->Qaj s x
abbrev shI:Sh:=Sh.int IntKind.i64
theorem QtP (n:Nat):∀ rows:List (List IV),(∀ row∈rows,row.length=n)->(∀ row∈rows,Up (List.replicate n shI) row)->∃ fs:List (List Int),rows=fs.map (fun l=>l.map fun x=>.int .i64 x)/\∀ l∈fs,l.length=n
 | [],_,_=>⟨[],rfl,by simp⟩
 | row::rows,hrl,hr=>by
   obtain ⟨fs,hfs,hl⟩:=QtP n rows (fun r hr'=>hrl r (by simp[hr'])) (fun r hr'=>hr r (by simp[hr']))
   have h1:=hrl row (by simp)
   have h2:=hr row (by simp)
   have key:∀ row:List IV,(∀ x∈row,Qaj shI x)->∃ l:List Int,row=l.map (fun x=>.int .i64 x)/\l.length=row.length:=fun row=>by
    induction row with
    | nil=>exact fun _=>⟨[],rfl,rfl⟩
    | cons x r ih =>
      intro h;obtain ⟨l,e,hl⟩:=ih fun y hy=>h y (by simp[hy])
      have hx:=h x (by simp)
      cases hx with
      | int _ m _ _=>exact ⟨m::l,by simp[<- e],by simp[hl]⟩
   obtain ⟨l,e,hll⟩:=key row fun x hx=>by
    obtain ⟨k,hk,rfl⟩:=QKK hx;exact h2 k shI row[k] (by simp[<- h1,hk]) (by simp[hk])
   exact ⟨l::fs,by simp[hfs,e],fun x hx=>by
    rcases QJ7.1 hx with rfl | hx
    ·omega
    exact hl x hx⟩
theorem Uu {α:Type} {n:Nat} {c:α->List IV} (g:List Int->α) (hg:∀ l:List Int,l.length=n->c (g l)=l.map fun x=>.int .i64 x) {rows:List (List IV)} (h1:∀ row∈rows,row.length=n) (h2:∀ row∈rows,Up (List.replicate n shI) row):∃ fs:List α,rows=fs.map c:=by
 obtain ⟨fs,rfl,hl⟩:=QtP n rows h1 h2;refine ⟨fs.map g,?_⟩;rw[List.map_map];exact QLp fun l h=>(hg l (hl l h)).symm
theorem Qln (rows:List (List IV)):(∀ row∈rows,row.length=5)->(∀ row∈rows,Up [shI,shI,shI,shI,shI] row)->∃ fs:List Qx,rows=fs.map dC :=
 Uu (fun l=>⟨l.getD 0 0,l.getD 1 0,l.getD 2 0,l.getD 3 0,l.getD 4 0⟩) fun l h=>match l,h with
  | [_,_,_,_,_],_=>rfl
theorem Qhn (rows:List (List IV)):(∀ row∈rows,row.length=5)->(∀ row∈rows,Up [shI,shI,shI,shI,shI] row)->∃ fs:List Xh,rows=fs.map sC :=
 Uu (fun l=>⟨l.getD 0 0,l.getD 1 0,l.getD 2 0,l.getD 3 0,l.getD 4 0⟩) fun l h=>match l,h with
  | [_,_,_,_,_],_=>rfl
theorem Qho (rows:List (List IV)):(∀ row∈rows,row.length=3)->(∀ row∈rows,Up [shI,shI,shI] row)->∃ fs:List ZE,rows=fs.map leC :=
 Uu (fun l=>⟨l.getD 0 0,l.getD 1 0,l.getD 2 0⟩) fun l h=>match l,h with
  | [_,_,_],_=>rfl
theorem QmQ (rows:List (List IV)):(∀ row∈rows,row.length=4)->(∀ row∈rows,Up [shI,shI,shI,shI] row)->∃ fs:List QR,rows=fs.map baC :=
 Uu (fun l=>⟨l.getD 0 0,l.getD 1 0,l.getD 2 0,l.getD 3 0⟩) fun l h=>match l,h with
  | [_,_,_,_],_=>rfl
theorem Qhm (rows:List (List IV)):(∀ row∈rows,row.length=3)->(∀ row∈rows,Up [shI,shI,shI] row)->∃ fs:List VM,rows=fs.map trC :=
 Uu (fun l=>⟨l.getD 0 0,l.getD 1 0,l.getD 2 0⟩) fun l h=>match l,h with
  | [_,_,_],_=>rfl
theorem QmP (rows:List (List IV)):(∀ row∈rows,row.length=3)->(∀ row∈rows,Up [shI,shI,shI] row)->∃ fs:List Rod,rows=fs.map roC :=
 Uu (fun l=>⟨l.getD 0 0,l.getD 1 0,l.getD 2 0⟩) fun l h=>match l,h with
  | [_,_,_],_=>rfl
theorem Qlm (rows:List (List IV)):(∀ row∈rows,row.length=7)->(∀ row∈rows,Up [shI,shI,shI,shI,shI,shI,shI] row)->∃ fs:List Qy,rows=fs.map reC :=
 Uu (fun l=>⟨l.getD 0 0,l.getD 1 0,l.getD 2 0,l.getD 3 0,l.getD 4 0,l.getD 5 0,l.getD 6 0⟩) fun l h=>match l,h with
  | [_,_,_,_,_,_,_],_=>rfl
theorem QDj:shp prog 7 40=some [.sl 40 [shI,shI,shI,shI,shI],.sl 40 [shI,shI,shI,shI,shI],shI,.sl 24 [shI,shI,shI],shI,shI,shI,.sl 32 [shI,shI,shI,shI],shI,.sl 24 [shI,shI,shI],shI,shI,shI,shI,shI,.sl 24 [shI,shI,shI],.sl 56 [shI,shI,shI,shI,shI,shI,shI],shI]:=by kernel_rfl
theorem QDa:∃ fs,prog.underlying 40=some (.struct fs):=⟨_,underlying40⟩
set_option maxRecDepth 100000 in
theorem Qp0 {x:IV} (h:QjE prog 40 x):∃ h,x=hoV h:=by
 obtain ⟨ss,h1,h2⟩:=h;rw[QDj] at h1;injection h1 with h1
 subst h1;obtain ⟨fs',hu⟩:=QDa;rw[hu] at h2;obtain ⟨xs,rfl,hl,hf⟩:=h2
 match xs,hl with
 | [a0,a1,a2,a3,a4,a5,a6,a7,a8,a9,a10,a11,a12,a13,a14,a15,a16,a17],_ =>
   have h0:=hf 0 _ a0 rfl rfl;have h1:=hf 1 _ a1 rfl rfl;have h2:=hf 2 _ a2 rfl rfl;have h3:=hf 3 _ a3 rfl rfl;have h4:=hf 4 _ a4 rfl rfl;have h5:=hf 5 _ a5 rfl rfl;have h6:=hf 6 _ a6 rfl rfl;have h7:=hf 7 _ a7 rfl rfl;have h8:=hf 8 _ a8 rfl rfl;have h9:=hf 9 _ a9 rfl rfl;have h10:=hf 10 _ a10 rfl rfl;have h11:=hf 11 _ a11 rfl rfl;have h12:=hf 12 _ a12 rfl rfl;have h13:=hf 13 _ a13 rfl rfl;have h14:=hf 14 _ a14 rfl rfl;have h15:=hf 15 _ a15 rfl rfl;have h16:=hf 16 _ a16 rfl rfl;have h17:=hf 17 _ a17 rfl rfl;cases h0 with
   | sl _ _ rows0 _ _ hrl0 hr0 =>
   cases h1 with
   | sl _ _ rows1 _ _ hrl1 hr1 =>
   cases h2 with
   | int _ n2 _ _ =>
   cases h3 with
   | sl _ _ rows3 _ _ hrl3 hr3 =>
   cases h4 with
   | int _ n4 _ _ =>
   cases h5 with
   | int _ n5 _ _ =>
   cases h6 with
   | int _ n6 _ _ =>
   cases h7 with
   | sl _ _ rows7 _ _ hrl7 hr7 =>
   cases h8 with
   | int _ n8 _ _ =>
   cases h9 with
   | sl _ _ rows9 _ _ hrl9 hr9 =>
   cases h10 with
   | int _ n10 _ _ =>
   cases h11 with
   | int _ n11 _ _ =>
   cases h12 with
   | int _ n12 _ _ =>
   cases h13 with
   | int _ n13 _ _ =>
   cases h14 with
   | int _ n14 _ _ =>
   cases h15 with
   | sl _ _ rows15 _ _ hrl15 hr15 =>
   cases h16 with
   | sl _ _ rows16 _ _ hrl16 hr16 =>
   cases h17 with
   | int _ n17 _ _ =>
   obtain ⟨l0,rfl⟩:=Qln rows0 hrl0 hr0;obtain ⟨l1,rfl⟩:=Qhn rows1 hrl1 hr1;obtain ⟨l3,rfl⟩:=Qho rows3 hrl3 hr3;obtain ⟨l7,rfl⟩:=QmQ rows7 hrl7 hr7;obtain ⟨l9,rfl⟩:=Qhm rows9 hrl9 hr9;obtain ⟨l15,rfl⟩:=QmP rows15 hrl15 hr15;obtain ⟨l16,rfl⟩:=Qlm rows16 hrl16 hr16;exact ⟨⟨⟨⟨l0,l1,n2⟩,⟨l3,n4,n5,n6,l7,n8⟩,l9,n10,n11⟩,⟨n12,n13,n14,l15,l16,n17⟩⟩,rfl⟩
theorem QDw {W:World} (hL:laidMetH prog Rows.booksHouseRow.laid W) (hsh:W.ShapedOpen prog):KW W:=by
 have hl:laidMet prog Rows.booksHouseRow.laid W:=by
  rw[MakeChecks.laidMetH_plain _ _ _ (by kernel_rfl)] at hL
  exact hL
 have h2:=hl.tail.tail;have h4:=h2.tail.tail;have h5:=h4.tail;refine ⟨hsh,?_,?_,?_⟩
 ·exact Lib.tabIs_of_head (n:=20) (rest:=Rows.booksHouseRow.laid.drop 3) (g:=5) (t:=446) (e:=406) (by kernel_rfl) (by kernel_rfl) underlying446 underlying406 (by kernel_rfl) (by kernel_rfl) h2
 ·obtain ⟨a0, s0, hv0, _⟩ := laid_sentinel h5 (show prog.globalNamed "strconv.ErrSyntax" = some 1 by kernel_rfl) (show (prog.globals[1]?).map (·.type) = some 273 by kernel_rfl) underlying273 Quo underlying442 underlying444 rfl rfl underlying9 (by kernel_rfl) (by kernel_rfl)
  exact ⟨_,_,hv0⟩
 obtain ⟨a0, s0, hv0, _⟩ := laid_sentinel h4 (show prog.globalNamed "strconv.ErrRange" = some 2 by kernel_rfl) (show (prog.globals[2]?).map (·.type) = some 273 by kernel_rfl) underlying273 Quo underlying442 underlying444 rfl rfl underlying9 (by kernel_rfl) (by kernel_rfl)
 exact ⟨_,_,hv0⟩
set_option maxRecDepth 100000
theorem QnA {P:Program} {f:FuncId} {fn:Func} {s:ChangeSpec} {c:OpenClaim}
  (k1:c.wf (OpenSpec.ofChange s)=true) (k2:laidOutB P=true) (k3:mapsRowed P=true) (k4:fn.params.all (P.readableRec ·)=true) (k5:namedTie P c.named s.vars=true)
  (k6:(c.stops==[])=true) (k7:(P.stops==[])=true) (k8:(c.knobs==[])=true) (k9:(P.stopKnobs==[])=true)
  (k10:(c.inPlace==P.inPlace f)=true) (k11:(c.unfollowed==P.unfollowed f)=true) (k12:(c.recurses==P.recurses f)=true) (k13:(c.named==P.varsNamed f)=true)
  (k14:(c.maps==(fn.params.toList++s.plain.varTypes P).any (P.mapsRec ·))=true) (k15:(c.ifaces==(fn.params.toList++s.plain.varTypes P).any (P.ifacesRec ·))=true) (k16:(c.mapsOut==P.mapsAmong fn.resultTypes.toList)=true)
  (k17:(c.loops==(fn.params.toList++s.plain.varTypes P).any (P.loopsFrom ·))=true) (k17b:(c.wideKeys==(fn.params.toList++s.plain.varTypes P++fn.resultTypes.toList).any (P.wideKeysFrom ·))=true)
  (k18:s.vars.all (P.varReadable ·)=true) (k19:fn.resultTypes.all (fun t=>P.readableRec t&&decide (t<P.types.size))=true) (k20:(c.ifacesOut==fn.resultTypes.toList.any (P.ifacesRec ·))=true) (k21:(c.loopsOut==fn.resultTypes.toList.any (P.loopsFrom ·))=true)
  (k22:(c.plainKeys==P.plainKeys)=true) (k23:c.shortTexts.isNone=true) (k23b:P.stopsHeard=true) (k24:P.mayEnter=true) (k24b:(c.lifted==P.liftsFinal)=true) (k24c:(P.make==some c.make)=true)
  (k25:(c.kinds==(if c.domain.isEmpty then [] else fn.params.toList.map fun t=>match P.underlying t with | some (.int k)=>some k | _=>none))=true) (k26:(c.pinned==c.pinnedBy)=true)
  (k27:(c.veiled==(fn.params.toList++s.plain.varTypes P++fn.resultTypes.toList).any (P.veiledRec ·))=true) (k28:c.veiledFits P fn.params.toList (fn.params.toList++s.plain.varTypes P++fn.resultTypes.toList)=true):joinedFacts P f fn s c=true:=by
 simp only[joinedFacts,QJY];exact ⟨⟨⟨⟨⟨⟨⟨⟨⟨⟨⟨⟨⟨⟨⟨⟨⟨⟨⟨⟨⟨⟨⟨⟨⟨⟨⟨⟨⟨⟨⟨k1,k2⟩,k3⟩,k4⟩,k5⟩,k6⟩,k7⟩,k8⟩,k9⟩,k10⟩,k11⟩,k12⟩,k13⟩,k14⟩,k15⟩,k16⟩,k17⟩,k17b⟩,k18⟩,k19⟩,k20⟩,k21⟩,k22⟩,k23⟩,k23b⟩,k24⟩,k24b⟩,k24c⟩,k25⟩,k26⟩,k27⟩,k28⟩
theorem QDQ:mapsRowed prog=true:=by kernel_rfl
theorem QDP:(prog.stops==[])=true:=by kernel_rfl
theorem QDO:(prog.stopKnobs==[])=true:=by kernel_rfl
theorem Qxx:prog.stopsHeard=true:=by kernel_rfl
theorem QBu:prog.mayEnter=true:=by kernel_rfl
theorem QDM:(Rows.booksHouseRow.plainKeys==prog.plainKeys)=true:=by kernel_rfl
theorem QDL:(Rows.booksHouseRow.lifted==prog.liftsFinal)=true:=by kernel_rfl
theorem QDK:(prog.make==some Rows.booksHouseRow.make)=true:=by kernel_rfl
theorem QBt:Tryz.pinned.checked.prog.looks []=true:=by kernel_rfl
end Go.Pf
namespace Go.Proofs
open Go.Shelf Go.RowKit Go.Lib
variable {P:Program} {ρ:Ren}
set_option maxHeartbeats 2000000 in
set_option maxRecDepth 100000 in
theorem Qmd (L:SlLaysE0.n41 P ρ) (i0:TypeInfo) (z:Value) (size bytes:Nat) (hi:P.info? (ρ.t 23)=some i0) (hz0:i0.zero=some z) (hz1:i0.size=size) (hz2:i0.bytes=bytes) (hzs:z.cells.size=size) (hsz:0<size)
  (z23:∀ w,(Go.sizeOf (ρ.t 23)).run P w=.ok size w) (a:Addr) (c:Nat) (w:World) :
  Calls P (ρ.f 41) #[.slice (some a) 0 c] w fun e w'=>∃ v',e=.returned v'/\w'.ownsRow w.heap.size (ρ.t 23) size v' 0 []/\Below w.heap.size w w':=by
 have mixed:=L.mixed;have t4:=L.t4;have a4:=L.a4;have z4:=L.z4;have v4:=L.v4;have t22:=L.t22;have a22:=L.a22;have z22:=L.z22;have v22:=L.v22;have q22:∀ (w:World) (a:Option Addr) (n c n' c':Nat),(binOp .eql (ρ.t 22) (.slice a n c) (.slice none n' c')).run P w=.ok (.bool a.isNone) w:=fun w a n c n' c'=>Lib.run_eql_slice_nil w _ _ a n c n' c' L.t22
 have u22:∀ w,Sem.run P (underlying (ρ.t 22)) w=.ok (TypeDesc.slice (ρ.t 23)) w:=run_underlying t22
 obtain ⟨_,_,FG⟩:=L.f41
 go_enter FG,SlBodyN.n41_ntmps ρ
 go_wp2_with (at_builtin;refine wpList_append_own _ rfl _ _ (ρ.t 22) rfl w.heap.size (ρ.t 23) i0 z size bytes t22 hi hz0 hz1 hz2 hzs hsz _ _ _ rfl (World.ownsRow_made w #[] 0 (QJ2 _) (QLb _) (by simp)) a 0 c [] rfl ?qc1 ?qc2 ?qc3 ?qc4 ?qc5 ?qc6 ?_)
 case qc1=>simp
 case qc2=>grind
 case qc3=>grind
 case qc4=>simp
 case qc5=>simp
 case qc6=>simp
 intro v' w1 hown hgrow hnil
 go_wp2
 go_ret
 refine ⟨v',rfl,by omega,?_⟩
 exact ((Below.refl _ w).alloc (QJ2 _) _).grown hgrow (by simp) (by intro k hk;simp[Value.ownBlock] at hk;omega)
end Go.Proofs
namespace Go.Ev
open Go Go.RowKit
section
variable {P:Program} {K:World->Prop}
theorem Qo5 {f:FuncId} {e:TypeId} {sz bytes:Nat}
  (hcl:∀ (b off n c:Nat) (news:List Value) (w:World),news.length=n*sz->n<=maxLen->n*bytes<=140737488355328->(∀ (j:Nat) (u:Value),news[j]?=some u->w.cell? ⟨b,off+j,none⟩=some u)->(∀ u∈news,u.oneCell'=true) ->
    Calls P f #[.slice (some ⟨b,off,none⟩) n c] w fun x w'=>∃ v',x=.returned v'/\w'.ownsRow w.heap.size e sz v' n news/\v'≠.slice none 0 0/\Below w.heap.size w w')
  (hnil:∀ w:World,Calls P f #[.slice none 0 0] w fun x w'=>x=.returned (.slice none 0 0)/\w'=w)
  (hzero:∀ (a:Addr) (w:World),Calls P f #[.slice (some a) 0 0] w fun x w'=>∃ v',x=.returned v'/\w'.ownsRow w.heap.size e sz v' 0 []/\Below w.heap.size w w')
  (rows:List (List IV)) (hb:rows.length*bytes<=140737488355328) (hsz:∀ c∈rows,c.length=sz):QjD P K f [.sl sz rows] (.yq 0 rows.length) e sz rows 0:=by
 by_cases hne:rows=[]
 ·subst hne
  intro w ok vs hk hnew hl hvs
  obtain ⟨v0,rfl⟩:∃ v0,vs=[v0]:=by
   match vs,hl with
   | [v],_=>exact ⟨v,rfl⟩
  have hrep:=hvs 0 _ v0 rfl rfl
  have fin:∀ (v':Value) (w':World),w'.ownsRow w.heap.size e sz v' 0 []->Below w.heap.size w w' ->
    ∃ v l,Ending.returned v'=.returned v/\QD (fun b=>b<w.heap.size) (okL ok (one (Xy e sz [] 0)) (fun _=>l)) w' (one (Xy e sz [] 0)) (fun _=>l) (Xy e sz [] 0) l /\
     QA (okL ok (one (Xy e sz [] 0)) (fun _=>l)) w' (one (Xy e sz [] 0)) (fun _=>l) (ren 0 (.yq 0 0)) v/\Below w.heap.size w w':=by
   intro v' w' hown hbel;have hsl:=Yf hown;have hge:∀ b,v'.ownBlock=some b->w.heap.size<=b:=fun b h=>(hown.lt b h).1
   have hown0:w'.ownsRow 0 e sz v' 0 []:=by
    obtain ⟨h1,h2⟩:=hown;refine ⟨h1,?_⟩
    grind
   refine ⟨v',.arr v' [],rfl,⟨⟨by simpa using hown0,fun b h1 h2=>by grind⟩,QLb _,by simp,by simp,by simp⟩,?_,hbel⟩
   exact QA.yq (ok:=okL ok (one (Xy e sz [] 0)) (fun _=>.arr v' [])) (w:=w') (lo:=one (Xy e sz [] 0)) (L:=fun _=>.arr v' []) 0 e sz [] 0 v' [] (by simp[one,Xy]) rfl hsl
  cases hrep with
  | nils _=>exact (hnil w).mono fun x w' ⟨h1,h2⟩=>by subst h1 h2;exact fin _ _ ⟨by simp,.inl ⟨rfl,rfl⟩⟩ (Below.refl _ _)
  | nilz _ a=>exact (hzero a w).mono fun x w' ⟨v',h1,h2,h3⟩=>by grind
  | sl _ _ b off cap u hlc hc hs hu hx=>exact (hcl b off 0 cap [] w (by simp) (by simp) (by simp) (by simp) (by simp)).mono fun x w' ⟨v',h1,h2,_,h3⟩=>by grind
 exact UK hcl rows hb hsz hne
end
end Go.Ev
namespace Go.Pf
open Go Go.Ev Go.Proofs Go.RowKit Go.Shelf Go.Proofs.Tryz
set_option maxRecDepth 8000
noncomputable def Qh3 (t:TypeId) (h:(prog.info? t).isSome=true):TypeInfo:=(prog.info? t).get h
noncomputable def QuF (i:TypeInfo) (h:i.zero.isSome=true):Value:=i.zero.get h
section
variable {K:World->Prop}
theorem Qb9 {f:FuncId} {ρ:Ren} {e:TypeId} (sz bytes:Nat) (L:SlLaysE0.n41 prog ρ) (hf:ρ.f 41=f) (he:ρ.t 23=e) (h1:(prog.info? e).isSome=true) (h2:(Qh3 e h1).zero.isSome=true) (h3:(Qh3 e h1).size=sz) (h4:(Qh3 e h1).bytes=bytes) (h5:(QuF (Qh3 e h1) h2).cells.size=sz) (h0:0<sz)
  (hz:∀ w,(Go.sizeOf e).run prog w=.ok sz w) (rows:List (List IV)) (hb:rows.length*bytes<=140737488355328) (hsz:∀ c∈rows,c.length=sz):Gp K f [.sl sz rows] (.yq 0 rows.length) e sz rows 0:=by
 subst hf he;have hi:prog.info? (ρ.t 23)=some (Qh3 _ h1):=by simp[Qh3]
 have hz0:(Qh3 _ h1).zero=some (QuF _ h2):=by simp[QuF]
 exact Qo5 (fun b off n c news w g1 g2 g3 g4 g5=>AnyE.slices_Clone L _ _ sz bytes hi hz0 h3 h4 h5 h0 hz b off n c news w g1 g2 g3 g4 g5) (fun w=>AnyE.slices_Clone_nil L 0 0 w)
  (fun a w=>Qmd L _ _ sz bytes hi hz0 h3 h4 h5 h0 hz a 0 w) rows hb hsz
theorem QBE (l:List Qx) (hl:l.length<=1000):Gp K 85 [QB l] (.yq 0 l.length) 73 5 (l.map dC) 0:=by
 have h:=Qb9 (K:=K) (f:=85) (e:=73) 5 40 Tryz.clone85 rfl rfl (by kernel_rfl) (by kernel_rfl) (by kernel_rfl) (by kernel_rfl) (by kernel_rfl) (by decide) sizeOf73 (l.map dC) (by simp;omega) (by simp)
 simpa using h
theorem QBD (l:List Xh) (hl:l.length<=1000):Gp K 86 [Qw l] (.yq 0 l.length) 78 5 (l.map sC) 0:=by
 have h:=Qb9 (K:=K) (f:=86) (e:=78) 5 40 Tryz.clone86 rfl rfl (by kernel_rfl) (by kernel_rfl) (by kernel_rfl) (by kernel_rfl) (by kernel_rfl) (by decide) sizeOf78 (l.map sC) (by simp;omega) (by simp)
 simpa using h
theorem QBC (l:List ZE) (hl:l.length<=1000):Gp K 87 [QT l] (.yq 0 l.length) 139 3 (l.map leC) 0:=by
 have h:=Qb9 (K:=K) (f:=87) (e:=139) 3 24 Tryz.clone87 rfl rfl (by kernel_rfl) (by kernel_rfl) (by kernel_rfl) (by kernel_rfl) (by kernel_rfl) (by decide) sizeOf139 (l.map leC) (by simp;omega) (by simp)
 simpa using h
theorem QBB (l:List QR) (hl:l.length<=1000):Gp K 88 [XN l] (.yq 0 l.length) 80 4 (l.map baC) 0:=by
 have h:=Qb9 (K:=K) (f:=88) (e:=80) 4 32 Tryz.clone88 rfl rfl (by kernel_rfl) (by kernel_rfl) (by kernel_rfl) (by kernel_rfl) (by kernel_rfl) (by decide) sizeOf80 (l.map baC) (by simp;omega) (by simp)
 simpa using h
theorem QBA (l:List Rod) (hl:l.length<=1000):Gp K 89 [W0 l] (.yq 0 l.length) 105 3 (l.map roC) 0:=by
 have h:=Qb9 (K:=K) (f:=89) (e:=105) 3 24 Tryz.clone89 rfl rfl (by kernel_rfl) (by kernel_rfl) (by kernel_rfl) (by kernel_rfl) (by kernel_rfl) (by decide) sizeOf105 (l.map roC) (by simp;omega) (by simp)
 simpa using h
theorem QBz (l:List Qy) (hl:l.length<=1000):Gp K 90 [Y1 l] (.yq 0 l.length) 82 7 (l.map reC) 0:=by
 have h:=Qb9 (K:=K) (f:=90) (e:=82) 7 56 Tryz.clone90 rfl rfl (by kernel_rfl) (by kernel_rfl) (by kernel_rfl) (by kernel_rfl) (by kernel_rfl) (by decide) sizeOf82 (l.map reC) (by simp;omega) (by simp)
 simpa using h
theorem QBy (l:List VM) (hl:l.length<=1000):Gp K 91 [Xi l] (.yq 0 l.length) 76 3 (l.map trC) 0:=by
 have h:=Qb9 (K:=K) (f:=91) (e:=76) 3 24 Tryz.clone91 rfl rfl (by kernel_rfl) (by kernel_rfl) (by kernel_rfl) (by kernel_rfl) (by kernel_rfl) (by decide) sizeOf76 (l.map trC) (by simp;omega) (by simp)
 simpa using h
end
end Go.Pf
namespace Go.Proofs
open Go.Proofs.Tryz
open Go.Shelf
def Tryz.keys423_ren:Go.Shelf.Ren:=⟨fun | 10=>423 | n=>n,fun | 23=>214 | 26=>3 | 3=>52 | 28=>248 | 0=>0 | 27=>247 | 33=>106 | 4=>4 | n=>n,fun | n=>n⟩
theorem Tryz.keys423:Go.Proofs.SlLaysZI.n10 prog Tryz.keys423_ren:={
 mixed:=by kernel_rfl
 f10:=⟨Tryz.f423.name,by decide,func423.trans (congrArg some (by kernel_rfl))⟩
 t0:=underlying0
 a0:=isAgg0
 z0:=sizeOf0
 v0:=zeroValue0
 t4:=underlying4
 a4:=isAgg4
 z4:=sizeOf4
 v4:=zeroValue4
 t23:=underlying214
 a23:=isAgg214
 z23:=sizeOf214
 v23:=zeroValue214
 t26:=underlying3
 a26:=isAgg3
 z26:=sizeOf3
 v26:=zeroValue3
 t33:=underlying106
 a33:=isAgg106
 z33:=sizeOf106
 v33:=zeroValue106 }
end Go.Proofs
namespace Go.Pf
open Go Go.Ev Go.Proofs Go.RowKit Go.Shelf Go.Proofs.Tryz
set_option maxRecDepth 8000
theorem Vk (lb:Array Value) (S:List Int->Prop) (N:Nat) (hN:N<=1000000) (w:World) (hseq:SeqGives Fence.wide 2 prog 423 lb encZ S N w) :
  Calls prog 206 #[.func (.func 423) #[] lb] w fun e w'=>∃ (v:Value) (ss:List Int),e=.returned v/\S ss /\
   w'.ownsRow w.heap.size 3 1 v ss.length ((ss.mergeSort (fun x y=>decide (x<=y))).map encZ)/\(v=.slice none 0 0↔ss=[])/\Below w.heap.size w w':=by
 refine (callsIn_wide (n:=5)).1 ?_;exact AnyZI.sorted_in Tryz.sorted206 Fence.wide 5 trivial trivial trivial trivial rfl (by omega) (Tryz.sorts290 _) (enters_of func290 (by kernel_rfl) rfl) 423 lb trivial (enters_of func423 (by kernel_rfl) rfl) S N (by unfold maxLen;omega) (by omega) w hseq
section
variable {K:World->Prop}
theorem QrI (kvs:List (MK × IV)) (ks:List Int) (hk:kvs.map (·.1)=ks.map (fun x=>MK.int .i64 x)) (hwf:∀ x∈ks,-9223372036854775808<=x/\x<9223372036854775808) (hlen:ks.length<=1000000) :
  Gd K 206 [.clo 423 [] [.ptr [.map kvs]]] (QW (ks.mergeSort fun x y=>decide (x<=y))):=by
 intro w ok vs hK hnew hl hvs
 obtain ⟨v0,rfl⟩:∃ v0,vs=[v0]:=by
  match vs,hl with
  | [v],_=>exact ⟨v,rfl⟩
 have hrep:=hvs 0 _ v0 rfl rfl
 have fin:∀ (v:Value) (w':World) (ss:List Int),ss.Perm ks->w'.ownsRow w.heap.size 3 1 v ss.length ((ss.mergeSort (fun x y=>decide (x<=y))).map encZ)->Below w.heap.size w w' ->
   ∃ v1,Ending.returned v=.returned v1/\QQ ok w' (QW (ks.mergeSort fun x y=>decide (x<=y))) v1/\Below w.heap.size w w':=fun v w' ss hp ho hb=>by
  refine ⟨v,rfl,?_,hb⟩;have e1:ss.mergeSort (fun x y=>decide (x<=y))=ks.mergeSort fun x y=>decide (x<=y):=mergeSort_of_perm_i hp
  rw[e1] at ho;have hl2:ss.length=ks.length:=hp.length_eq;have e3:(ks.mergeSort fun x y=>decide (x<=y)).length=ss.length:=by simp[hl2]
  generalize (ks.mergeSort fun x y=>decide (x<=y))=zs at *
  obtain ⟨h1,h2 | ⟨g,cap,cur,h2,h3,h4,h5,h6,h7,h8⟩⟩:=ho
  ·obtain ⟨rfl,h2⟩:=h2
   have:zs=[]:=QJ3 (by omega)
   subst this;exact .nils _
  subst h2;rw[<- e3];refine U2 zs g cap (by omega) h6 (hnew g h3) fun j z hj=>?_
  have hjl:=(QJX.1 hj).1;have:(cur.toList.take (ss.length*1))[j]?=some (.int .i64 z):=by grind
  rw[QKI,if_pos (by omega)] at this
  simp only[World.cell?,h4];simpa using this
 cases hrep with
 | clo _ _ _ us vs' h1 h2 hf hc =>
   obtain rfl:us=[]:=QJ3 h1
   obtain ⟨p,rfl⟩:∃ p,vs'=[p]:=by
    match vs',h2 with
    | [v],_=>exact ⟨v,rfl⟩
   have hp:=hc 0 _ p rfl rfl;cases hp with
   | ptr _ b off u hu hx =>
     have hcell:=(hu 0 (by simp)).2.1
     rw[QKT] at hcell;have hbw:b<w.heap.size:=QKR w ⟨b,off,none⟩ hcell;have hm:=hx 0 _ rfl;generalize u 0=u0 at hcell hm;cases hm with
     | mapn =>
       have hk0:ks=[]:=by simpa using hk.symm
       subst hk0;refine (Vk _ _ 0 (by omega) w (Ja (ρ:=Tryz.keys423_ren) { Tryz.keys423 with } Fence.wide 2 trivial rfl b off w hbw hcell)).mono ?_
       grind
     | map _ r es clock hok hr hmr hd hxx =>
       have hks:kvs.length=ks.length:=by simpa using congrArg List.length hk
       have hkey:∀ (i:Nat) (x:MapEntry),es[i]?=some x->∃ n:Int,ks[i]?=some n/\x.key=.int .i64 n:=fun i x hx=>by
        obtain ⟨k,h3,h4⟩:=hmr.keys i x hx;rw[<- QJ4,hk,QJ4,QJ0] at h3;obtain ⟨n,h5,rfl⟩:=h3;exact ⟨n,h5,h4⟩
       have hrd:∀ (i:Nat) (x:MapEntry),es[i]?=some x->∃ n:Int,ks[i]?=some n/\x.key=.int .i64 n/\WideElems.rd prog 3 QgX x=some (.int .i64 n,.nil):=fun i x hx=>by
        obtain ⟨n,h3,h4⟩:=hkey i x hx;exact ⟨n,h3,h4,QtT h4 (hwf n (QKd h3))⟩
       have hlist:es.toList.map (fun x=>intOf (WideElems.rg prog 3 QgX x).1)=ks:=by
        refine QLI fun i=>?_
        rw[QJ4];cases hx:es[i]? with
        | none =>
          have:es.size<=i:=by
           grind
          have hz:=hmr.size
          grind
        | some x =>
          obtain ⟨n,h3,h4,h5⟩:=hrd i x hx;rw[Array.getElem?_toList,hx,h3];simp[WideElems.rg,h5,intOf]
       have hown:w.ownsMap prog 3 QgX r ks.length (DataW.map ((es.toList.map (WideElems.rg prog 3 QgX)).foldr DataW.insert [])):=by
        refine ⟨es,clock,hr,⟨by have:=hmr.size;unfold maxLen;omega,⟨fun x hx=>?_,?_,?_⟩,fun x hx=>?_⟩,by grind,rfl⟩
        ·obtain ⟨i,hi⟩:=QKv hx
         exact hmr.born i x (by simpa using hi)
        ·rw[List.nodup_iff_pairwise_ne] at *
         refine QLd.2 fun i j hi hj hij heq=>?_
         simp at hi hj heq;have:=hmr.apart i j es[i] es[j] (by simp[hi]) (by simp[hj]) heq
         omega
        ·refine QLd.2 fun i j hi hj hij heq=>?_
         simp at hi hj heq;obtain ⟨k1,h3,h4⟩:=hmr.keys i es[i] (by simp[hi])
         obtain ⟨k2,h5,h6⟩:=hmr.keys j es[j] (by simp[hj])
         rw[QJ0] at h3 h5;obtain ⟨p,h7,rfl⟩:=h3;obtain ⟨q,h8,rfl⟩:=h5;rw[h4,h6] at heq
         have:p.1=q.1:=by
          cases hp1:p.1<;>cases hq1:q.1<;>rw[hp1,hq1] at heq<;>simp[MK.val] at heq |-<;>simp_all
         grind
        obtain ⟨i,hi⟩:=QKv hx
        grind
       have hperm:(intKeys (DataW.map ((es.toList.map (WideElems.rg prog 3 QgX)).foldr DataW.insert []))).Perm ks:=by
        have:=(sorted_perm (es.toList.map (WideElems.rg prog 3 QgX))).map fun p=>intOf p.1
        rw[List.map_map] at this;refine this.trans ?_;rw[show es.toList.map ((fun p=>intOf p.1)∘WideElems.rg prog 3 QgX)=ks from hlist]
       have hsz:=hown.size_le;refine (Vk _ _ _ (by omega) w (Um (ρ:=Tryz.keys423_ren) { Tryz.keys423 with } Fence.wide 2 trivial rfl (by omega) b off r _ _ w hbw hcell hown)).mono ?_
       grind
end
end Go.Pf
namespace Go.Pf
open Go Go.Ev Go.Proofs Go.RowKit Go.Proofs.Tryz
variable {K:World->Prop} (hK:∀ w w',K w->Below w.heap.size w w'->K w')
set_option maxRecDepth 8000
include hK
theorem X3 (x a b:Int):Gd K 178 [.int .i64 x,.int .i64 a,.int .i64 b] (.bool (decide (inR x a b))):=by
 refine Qb hK (fk func178 QG8 (by kernel_rfl)) (by simp) ?_
 by_cases h:a<=x<;>simp[inR,h]
theorem Y6 (x a b:Int):Gd K 42 [.int .i64 x,.int .i64 a,.int .i64 b] (.bool (decide (inR x a b))):=by
 refine Qb hK (fk func42 c42 (by kernel_rfl)) (by simp) ?_
 simp;exact cK (YQ hK x a b) (by simp)
theorem Qw1 (n:Int):Gd K 180 [.int .i64 n] (.bool (decide (n=1\/n=2))):=by
 refine Qb hK (fk func180 QG6 (by kernel_rfl)) (by simp) ?_
 by_cases h:n=1<;>simp[h]
theorem QA9 (n:Int):Gd K 43 [.int .i64 n] (.bool (decide (n=1\/n=2))):=by
 refine Qb hK (fk func43 c43 (by kernel_rfl)) (by simp) ?_
 by_cases h:n=1<;>simp[h]
theorem Qw4 (r:Rod):Gd K 177 [.agg (roC r)] (.bool (decide (Ve r))):=by
 refine Qb hK (fk func177 QG9 (by kernel_rfl)) (by simp) ?_
 simp;refine cK (X3 hK _ _ _) ?_;by_cases h1:inR r.long 1 9999
 ·have h1':=h1
  simp only[inR] at h1';simp[h1,Ve,Qc6];refine ⟨by omega,cK (X3 hK _ _ _) ?_⟩
  by_cases h2:inR r.yb 0 (min 9 (r.long-1))
  ·simp[h2]
   exact cK (X3 hK _ _ _) (by simp)
  simp[h2]
 simp[h1,Ve]
theorem Qw3 (p:Zh) (x:Qy) (hl:p.zi.length<=1000):Gd K 179 [.agg (reC x),.ptr (puC p)] (.bool (decide (Xs p.zi.length x))):=by
 refine Qb hK (fk func179 QG7 (by kernel_rfl)) (by simp) ?_
 simp;refine cK (Qw1 hK _) ?_;by_cases h1:x.yk=1\/x.yk=2;rotate_left
 ·simp[h1,Xs]
 ·simp[h1,Xs]
  intro _;refine ⟨by omega,cK (X3 hK _ _ _) ?_⟩
  by_cases h2:inR x.rod 0 ((p.zi.length:Int)-1);rotate_left
  ·simp[h2]
  ·simp[h2]
   refine cK (X3 hK _ _ _) ?_;by_cases h3:inR x.count 0 99
   ·simp[h3]
    refine cK (X3 hK _ _ _) ?_;by_cases h4:inR x.rest 0 9999
    ·simp[h4]
     refine cK (X3 hK _ _ _) ?_;by_cases h5:inR x.off 0 99
     ·simp[h5]
      refine cK (X3 hK _ _ _) ?_;by_cases h6:inR x.yl (-50) x.ym
      ·simp[h6]
      simp[h6]
     simp[h5]
    simp[h4]
   ·simp[h3]
theorem Qww (r:Qy) (g:FuncId) (cs:List IV) (q:Qy->Bool) (hg:Gd K g ([.agg (reC r)]++cs) (.bool (q r))) (hc:callee prog g=true):Gd K 273 [.agg (reC r),.ptr [.clo g [] cs]] (.bool (!q r)):=by
 refine Qb hK (fk func273 QGe (by kernel_rfl)) (by simp) ?_
 simp;exact ⟨hc,cK hg (by simp)⟩
theorem QrH (r:Rod) (g:FuncId) (q:Rod->Bool) (hg:Gd K g [.agg (roC r)] (.bool (q r))) (hc:callee prog g=true):Gd K 271 [.agg (roC r),.ptr [.fn g]] (.bool (!q r)):=by
 refine Qb hK Qyq (by simp) ?_
 simp;exact ⟨hc,cK hg (by simp)⟩
theorem Qwg (l:List Rod) (g:FuncId) (cs:List IV) (p:Rod->Bool) (hg:∀ x∈l,Gd K g ([.agg (roC x)]++cs) (.bool (p x))) (hc:callee prog g=true) (hl:l.length<=1000):Gd K 325 [W0 l,.clo g [] cs] (.int .i64 (fi p l)):=by
 refine Qb hK (fk func325 QFN (by kernel_rfl)) (by simp) ?_
 simp;intro _;refine Qi (fun i=>[(0,AV.iv (W0 l)),(1,AV.iv (.clo g [] cs)),(7,AV.iv (.int .i64 l.length)),(8,AV.iv (IV.int IntKind.i64 (i:Nat)))]) (fun _=>[]) l.length (fun i=>∀ x∈l.take i,p x=false) (by simp) ?_ ?_
 ·intro h
  rw[Qa QiU.eq_1];rw[QJ5] at h;simp[UH p l h]
 intro i hi h ih;rw[Qa QiU.eq_1];have hgi:=hg l[i] (QJ1 hi);simp[hi] at ih |-;refine ⟨hc,cK hgi ?_⟩;by_cases hp:p l[i]=true
 ·simp[hp,Qit p l i hi hp h]
 have hp':p l[i]=false:=by simpa using hp
 simp[hp'];refine ⟨by omega,ih ?_⟩
 rw[QJV hi]
 grind
theorem Qwf (l:List Qy) (g:FuncId) (cs:List IV) (p:Qy->Bool) (hg:∀ x∈l,Gd K g ([.agg (reC x)]++cs) (.bool (p x))) (hc:callee prog g=true) (hl:l.length<=1000):Gd K 326 [Y1 l,.clo g [] cs] (.int .i64 (fi p l)):=by
 refine Qb hK (fk func326 QFM (by kernel_rfl)) (by simp) ?_
 simp;intro _;refine Qi (fun i=>[(0,AV.iv (Y1 l)),(1,AV.iv (.clo g [] cs)),(7,AV.iv (.int .i64 l.length)),(8,AV.iv (IV.int IntKind.i64 (i:Nat)))]) (fun _=>[]) l.length (fun i=>∀ x∈l.take i,p x=false) (by simp) ?_ ?_
 ·intro h
  rw[Qa QiT.eq_1];rw[QJ5] at h;simp[UH p l h]
 intro i hi h ih;rw[Qa QiT.eq_1];have hgi:=hg l[i] (QJ1 hi);simp[hi] at ih |-;refine ⟨hc,cK hgi ?_⟩;by_cases hp:p l[i]=true
 ·simp[hp,Qit p l i hi hp h]
 have hp':p l[i]=false:=by simpa using hp
 simp[hp'];refine ⟨by omega,ih ?_⟩
 rw[QJV hi]
 grind
theorem Qwy (l:List Rod) (g:FuncId) (cs:List IV) (p:Rod->Bool) (hg:∀ x∈l,Gd K g ([.agg (roC x)]++cs) (.bool (p x))) (hc:callee prog g=true) (hl:l.length<=1000):Gd K 270 [W0 l,.clo g [] cs] (.bool (l.any p)):=by
 refine Qb hK (fk func270 QGh (by kernel_rfl)) (by simp) ?_
 simp;refine cK (Qwg hK l g cs p hg hc hl) ?_;simp[VH]
theorem Qwx (l:List Qy) (g:FuncId) (cs:List IV) (p:Qy->Bool) (hg:∀ x∈l,Gd K g ([.agg (reC x)]++cs) (.bool (p x))) (hc:callee prog g=true) (hl:l.length<=1000):Gd K 272 [Y1 l,.clo g [] cs] (.bool (l.any p)):=by
 refine Qb hK (fk func272 QGf (by kernel_rfl)) (by simp) ?_
 simp;refine cK (Qwf hK l g cs p hg hc hl) ?_;simp[VH]
theorem Qw0 (l:List Rod) (g:FuncId) (q:Rod->Bool) (hg:∀ x,Gd K g [.agg (roC x)] (.bool (q x))) (hc:callee prog g=true) (hl:l.length<=1000):Gd K 181 [W0 l,.fn g] (.bool (l.all q)):=by
 refine Qb hK (fk func181 QG5 (by kernel_rfl)) (by simp) ?_
 simp;refine cK (Qwy hK l 271 [.ptr [.fn g]] (fun x=>!q x) (fun x _=>QrH hK x g q (hg x) hc) (by kernel_rfl) hl) ?_
 simp[List.all_eq_not_any_not]
theorem QwZ (l:List Qy) (g:FuncId) (cs:List IV) (q:Qy->Bool) (hg:∀ x,Gd K g ([.agg (reC x)]++cs) (.bool (q x))) (hc:callee prog g=true) (hl:l.length<=1000):Gd K 182 [Y1 l,.clo g [] cs] (.bool (l.all q)):=by
 refine Qb hK (fk func182 QG4 (by kernel_rfl)) (by simp) ?_
 simp;refine cK (Qwx hK l 273 [.ptr [.clo g [] cs]] (fun x=>!q x) (fun x _=>Qww hK x g cs q (hg x) hc) (by kernel_rfl) hl) ?_
 simp[List.all_eq_not_any_not]
theorem Qt3 (p:Zh) (hl:p.zi.length<=1000) (hx:p.zj.length<=1000):Gd K 84 [puV p] (.int .i64 (if OkU p then 0 else 40)):=by
 refine Qb hK (fk func84 c84 (by kernel_rfl)) (by simp) ?_
 have no:∀ q:Prop,(OkU p->q)->¬ q->¬ OkU p:=fun q h1 h2 h=>h2 (h1 h)
 simp;refine cK (X3 hK _ _ _) ?_;by_cases h1:inR p.yj 0 50;rotate_left
 ·have:=no _ (fun h=>h.yj) h1
  simp[h1,this]
 simp[h1];refine cK (X3 hK _ _ _) ?_;by_cases h2:inR p.yc 1 p.yg;rotate_left
 ·have:=no _ (fun h=>h.guess) h2
  simp[h2,this]
 simp[h2];by_cases h3:p.yg<=99999;rotate_left
 ·have h3':99999<p.yg:=by omega
  have:=no _ (fun h=>h.most) h3
  grind
 have h3':¬ 99999<p.yg:=by omega
 simp[h3'];intro _;refine cK (X3 hK _ _ _) ?_;by_cases h4:inR p.zh 0 8;rotate_left
 ·have:=no _ (fun h=>h.zh) h4
  simp[h4,this]
 simp[h4];intro _;by_cases h5:p.zi.length<=4;rotate_left
 ·have h5':(4:Int)<p.zi.length:=by omega
  have:=no _ (fun h=>h.rlen) h5
  grind
 have h5':¬ (4:Int)<p.zi.length:=by omega
 simp[h5'];intro _;by_cases h6:p.zj.length<=8;rotate_left
 ·have h6':(8:Int)<p.zj.length:=by omega
  have:=no _ (fun h=>h.xlen) h6
  grind
 have h6':¬ (8:Int)<p.zj.length:=by omega
 simp[h6'];intros;refine cK (Qw0 hK p.zi 177 (fun r=>decide (Ve r)) (Qw4 hK) (by kernel_rfl) hl) ?_
 by_cases h7:∀ r∈p.zi,Ve r
 ·have h7':p.zi.all (fun r=>decide (Ve r))=true:=by simpa using h7
  simp only[h7'];simp;refine cK (QwZ hK p.zj 179 [.ptr (puC p)] (fun x=>decide (Xs p.zi.length x)) (fun x=>Qw3 hK p x hl) (by kernel_rfl) hx) ?_
  by_cases h8:∀ x∈p.zj,Xs p.zi.length x
  ·have h8':p.zj.all (fun x=>decide (Xs p.zi.length x))=true:=by simpa using h8
   have hok:OkU p:=⟨h1,h2,h3,h4,h5,h6,h7,h8⟩;simp only[h8'];simp[hok]
  have h8':p.zj.all (fun x=>decide (Xs p.zi.length x))=false:=by simpa using h8
  have:=no _ (fun h=>h.zj) h8
  simp only[h8'];simp[this]
 have h7':p.zi.all (fun r=>decide (Ve r))=false:=by simpa using h7
 have:=no _ (fun h=>h.zi) h7
 simp only[h7'];simp[this]
omit hK
theorem Qc5 {a b A B:Int} (h0:0<=a) (h1:a<=A) (h2 : -B<=b) (h3:b<=B) : -(A*B)<=a*b/\a*b<=A*B:=by
 have hB:0<=B:=by omega
 have hA:0<=A:=by omega
 have e1:a*b<=a*B:=QK0 h3 h0;have e2:a*B<=A*B:=QKo h1 hB;have e3:a*(-B)<=a*b:=QK0 h2 h0
 grind
theorem Qun {p:Zh} {x:Qy} {len rl t:Int} (hp:OkU p) (hx:Xs p.zi.length x) (hlen:0<=len/\len<=99999) (hrl:0<=rl/\rl<=9999) (ht : -50<=t/\t<=50) :
  (0<=x.count*rl/\x.count*rl<=1000000)/\(-2500<=p.yj*t/\p.yj*t<=2500)/\(-2500<=Qad p x*t/\Qad p x*t<=2500) /\
  (-200000000000<=len*(1000000+p.yj*t)/\len*(1000000+p.yj*t)<=200000000000) /\
  (-4000000000000<=(x.count*rl+x.rest)*(1000000+Qad p x*t)/\(x.count*rl+x.rest)*(1000000+Qad p x*t)<=4000000000000)/\(0<=x.off*1000000/\x.off*1000000<=99000000):=by
 obtain ⟨hw,hr,hc,hrest,hoff,hwl,hwh⟩:=hx;have hi:=hp.yj;simp only[inR] at *;have xd:x.rod.toNat<p.zi.length:=by omega
 have hg:0<=Qad p x/\Qad p x<=50:=by
  unfold Qad;rw[List.getD_eq_getElem?_getD,QJW xd];have:=(hp.zi _ (QJ1 xd)).2.2;simpa[inR] using this
 have b1:=Qc5 hc.1 hc.2 (b:=rl) (B:=9999) (by omega) (by omega)
 have b1':=QKY hc.1 hrl.1;have b2:=Qc5 hi.1 hi.2 (b:=t) (B:=50) (by omega) (by omega)
 have b3:=Qc5 hg.1 hg.2 (b:=t) (B:=50) (by omega) (by omega)
 have b4:=Qc5 hlen.1 hlen.2 (b:=1000000+p.yj*t) (B:=1002500) (by omega) (by omega)
 have b5:=Qc5 (a:=x.count*rl+x.rest) (A:=1000000) (by omega) (by omega) (b:=1000000+Qad p x*t) (B:=1002500) (by omega) (by omega)
 omega
theorem Qra (p:Zh) (x:Qy) (len rl t:Int):Qt2 p x len rl t=decide (max (Qzo p x len rl t) (-Qzo p x len rl t)<=x.off*1000000):=by
 unfold Qt2
 grind
theorem Qmq {n:Nat} {x:Qy} (hx:Xs n x):x.yl+Qg7 x=x.ym+1:=by
 obtain ⟨_,_,_,_,_,h,_⟩:=hx;simp only[inR] at h;unfold Qg7;omega
theorem QmU {p:Zh} {x:Qy} {len rl:Int} (h:∀ j:Nat,j<Qg7 x->Qt2 p x len rl (x.yl+j)=false):qG p x len rl=false:=by
 unfold qG
 grind
theorem QmV {p:Zh} {x:Qy} {len rl:Int} (j:Nat) (hj:j<Qg7 x) (h:Qt2 p x len rl (x.yl+j)=true):qG p x len rl=true :=
 QLg.2 ⟨j,QKr.2 hj,h⟩
include hK
theorem QA8 (p:Zh) (n:Int) (hl:p.zi.length<=1000):Gd K 44 [puV p,.int .i64 n] (.bool (decide (inR n 0 ((p.zi.length:Int)-1)))):=by
 refine Qb hK (fk func44 c44 (by kernel_rfl)) (by simp) ?_
 simp;intro _;refine ⟨by omega,cK (Y6 hK _ _ _) ?_⟩
 simp
theorem Qv0 (p:Zh) (x:Qy) (len rl:Int) (hp:OkU p) (hx:Xs p.zi.length x) (hlen:0<=len/\len<=99999) (hrl:0<=rl/\rl<=9999) :
  Gd K 422 [puV p,.agg (reC x),.int .i64 len,.int .i64 rl] (.bool (qG p x len rl)):=by
 refine Qb hK (fk func422 QFp (by kernel_rfl)) (by simp) ?_
 have h1:=hx.2.1;have h3:=hx.2.2.2.1;have hwl:=hx.2.2.2.2.2.1;have hwh:=hx.2.2.2.2.2.2;simp only[inR] at h1 h3 hwl;have b0:=(Qun hp hx hlen hrl (t:=0) (by omega)).1
 have xd:x.rod.toNat<p.zi.length:=by omega
 have hwp:=Qmq hx;simp;refine ⟨by omega,by omega,?_⟩
 have e0:AV.iv (.int .i64 x.yl)=AV.iv (.int .i64 (x.yl+((0:Nat):Int))):=by simp
 rw[e0];refine Qi (fun i=>[(2,AV.iv (.int .i64 len)),(4,AV.iv (.ptr (puC p))),(5,AV.iv (.ptr (reC x))),(9,AV.iv (.int .i64 (x.count*rl+x.rest))),(10,AV.iv (.int .i64 (x.yl+(i:Nat))))]) (fun _=>[]) (Qg7 x) (fun i=>∀ j:Nat,j<i->Qt2 p x len rl (x.yl+j)=false) (by simp) ?_ ?_
 ·intro h
  have hn:=QmU h;rw[Qa QiB.eq_1];have:¬ x.yl+((Qg7 x:Nat):Int)<=x.ym:=by omega
  simp[this,hn]
 intro i hi h ih;rw[Qa QiB.eq_1];have hle:x.yl+(i:Int)<=x.ym:=by omega
 obtain ⟨b1,b2,b3,b4,b5,b6⟩:=Qun hp hx hlen hrl (t:=x.yl+(i:Int)) (by omega)
 have hgr:p.zi[x.rod.toNat].grow=Qad p x:=by simp[Qad,xd]
 have hab:=Qra p x len rl (x.yl+(i:Int));have her:Qzo p x len rl (x.yl+(i:Int))=len*(1000000+p.yj*(x.yl+i))-(x.count*rl+x.rest)*(1000000+Qad p x*(x.yl+i)):=rfl;generalize hE:Qzo p x len rl (x.yl+(i:Int))=E at *;by_cases hh:Qt2 p x len rl (x.yl+(i:Int))=true
 ·have hr:=QmV i hi hh
  rw[hh] at hab
  have hm:(if E < -E then -E else E)<=x.off*1000000:=by
   grind
  simp[hle,xd,hgr,hr];omega
 have hf:Qt2 p x len rl (x.yl+(i:Int))=false:=by simpa using hh
 rw[hf] at hab
 have hm:¬ (if E < -E then -E else E)<=x.off*1000000:=by
  grind
 have ih:=ih (fun j hj=>by
  grind)
 simp at ih;simp[hle,xd,hgr]
 grind
theorem Qod (p:Zh) (hl:p.zi.length<=1000) (hx:p.zj.length<=1000):Gd K 17 [puV p] (.int .i64 (if OkU p then 0 else 40)):=by
 refine Qb hK Quw (by simp) ?_
 have no:∀ q:Prop,(OkU p->q)->¬ q->¬ OkU p:=fun q h1 h2 h=>h2 (h1 h)
 simp;refine cK (Y6 hK _ _ _) ?_;by_cases h1:inR p.yj 0 50;rotate_left
 ·have:=no _ (fun h=>h.yj) h1
  simp[h1,this]
 ·simp[h1]
  refine cK (Y6 hK _ _ _) ?_;by_cases h2:inR p.yc 1 p.yg;rotate_left
  ·have:=no _ (fun h=>h.guess) h2
   simp[h2,this]
  ·simp[h2]
   by_cases h3:p.yg<=99999;rotate_left
   ·have h3':99999<p.yg:=by omega
    have:=no _ (fun h=>h.most) h3
    grind
   ·have h3':¬ 99999<p.yg:=by omega
    simp[h3'];intro _;refine cK (Y6 hK _ _ _) ?_;by_cases h4:inR p.zh 0 8;rotate_left
    ·have:=no _ (fun h=>h.zh) h4
     simp[h4,this]
    ·simp[h4]
     intro _;by_cases h5:p.zi.length<=4;rotate_left
     ·have h5':(4:Int)<p.zi.length:=by omega
      have:=no _ (fun h=>h.rlen) h5
      grind
     ·have h5':¬ (4:Int)<p.zi.length:=by omega
      simp[h5'];intro _;by_cases h6:p.zj.length<=8;rotate_left
      ·have h6':(8:Int)<p.zj.length:=by omega
       have:=no _ (fun h=>h.xlen) h6
       grind
      ·have h6':¬ (8:Int)<p.zj.length:=by omega
       simp[h6'];intros;refine Qi (fun i=>[(1,AV.iv (.ptr (puC p))),(3,AV.iv (IV.int IntKind.i64 (i:Nat)))]) (fun _=>[]) p.zi.length (fun i=>∀ r∈p.zi.take i,Ve r) (by simp) ?_ ?_
       ·intro h7
        rw[QJ5] at h7;rw[Qa QpR.eq_1];simp;intro _;refine Qi (fun i=>[(1,AV.iv (.ptr (puC p))),(5,AV.iv (IV.int IntKind.i64 (i:Nat)))]) (fun _=>[]) p.zj.length (fun i=>∀ x∈p.zj.take i,Xs p.zi.length x) (by simp) ?_ ?_
        ·intro h8
         rw[QJ5] at h8;rw[Qa QpQ.eq_1];have hok:OkU p:=⟨h1,h2,h3,h4,h5,h6,h7,h8⟩;simp[hok]
        intro i hi h8 ih;have bad:¬ Xs p.zi.length p.zj[i]->¬ OkU p:=fun hb hh=>hb (hh.zj _ (QJ1 hi))
        have ih:=fun hr:Xs p.zi.length p.zj[i]=>ih (by
         rw[QJV hi]
         grind)
        rw[Qa QpQ.eq_1];generalize hX:p.zj[i]=X at *;simp[hi,hX] at ih |-;intros;refine cK (QA9 hK X.yk) ?_;by_cases k1:X.yk=1\/X.yk=2;rotate_left
        ·simp[k1,bad (fun hh=>k1 hh.1)]
        simp[k1];refine cK (by simpa using QA8 hK p X.rod hl) ?_
        by_cases k2:inR X.rod 0 ((p.zi.length:Int)-1);rotate_left
        ·simp[k2,bad (fun hh=>k2 hh.2.1)]
        simp[k2];refine cK (Y6 hK _ _ _) ?_;by_cases k3:inR X.count 0 99;rotate_left
        ·simp[k3,bad (fun hh=>k3 hh.2.2.1)]
        simp[k3];refine cK (Y6 hK _ _ _) ?_;by_cases k4:inR X.rest 0 9999
        ·simp[k4]
         refine cK (Y6 hK _ _ _) ?_;by_cases k5:inR X.off 0 99
         ·simp[k5]
          refine cK (Y6 hK _ _ _) ?_;by_cases k6:inR X.yl (-50) X.ym
          ·simp[k6]
           by_cases k7:X.ym<=50
           ·have ih:=ih ⟨k1,k2,k3,k4,k5,k6,k7⟩
            grind
           have:=bad (fun hh=>k7 hh.2.2.2.2.2.2)
           grind
          simp[k6,bad (fun hh=>k6 hh.2.2.2.2.2.1)]
         simp[k5,bad (fun hh=>k5 hh.2.2.2.2.1)]
        simp[k4,bad (fun hh=>k4 hh.2.2.2.1)]
       ·intro i hi h7 ih
        have bad:¬ Ve p.zi[i]->¬ OkU p:=fun hb hh=>hb (hh.zi _ (QJ1 hi))
        have ih:=fun hr:Ve p.zi[i]=>ih (by
         rw[QJV hi]
         grind)
        rw[Qa QpR.eq_1];generalize hX:p.zi[i]=X at *;simp[hi,hX] at ih |-;intros;refine cK (Y6 hK _ _ _) ?_;by_cases k1:inR X.long 1 9999
        ·have k1':=k1
         simp only[inR] at k1';simp[k1];have hmin:(if X.long-1<9 then X.long-1 else 9)=min 9 (X.long-1):=by omega
         refine ⟨by omega,cK (by simpa[hmin] using Y6 hK X.yb 0 (min 9 (X.long-1))) ?_⟩
         by_cases k2:inR X.yb 0 (min 9 (X.long-1))
         ·simp[k2]
          refine cK (Y6 hK _ _ _) ?_;by_cases k3:inR X.grow 0 50
          ·have ih:=ih ⟨k1,k2,k3⟩
           simp[k3]
           grind
          simp[k3,bad (fun hh=>k3 hh.2.2)]
         simp[k2,bad (fun hh=>k2 hh.2.1)]
        ·simp[k1,bad (fun hh=>k1 hh.1)]
@[simp] def tuV (t:TrU):List IV:=[.int .i64 t.yh,.int .i64 t.yi,QW t.zi]
omit hK
def QEY (p:Zh) (t:TrU) (x:Qy):Bool:=!qG p x (if x.yk=2 then t.yi else t.yh) (t.zi.getD x.rod.toNat 0)
structure QJH (p:Zh) (t:TrU):Prop where
 yh:0<=t.yh/\t.yh<=99999
 yi:0<=t.yi/\t.yi<=99999
 len:t.zi.length=p.zi.length
 zi:∀ r∈t.zi,0<=r/\r<=9999
theorem QaQ {p:Zh} (hp:OkU p) {w:List Int} (hw:w∈Xx p.zi):w.length=p.zi.length/\∀ r∈w,0<=r/\r<=9999:=by
 have hl:=Qe9 _ _ hw;refine ⟨hl,fun r hr=>?_⟩
 obtain ⟨i,hi,rfl⟩:=QKK hr;have hb:=QdG _ _ hw i (by omega)
 have hr:=hp.zi _ (QJ1 (show i<p.zi.length by omega))
 simp only[Ve,inR] at hr
 grind
theorem Qxt {p:Zh} (hp:OkU p) {t:TrU} (ht:t∈QCe p):QJH p t:=by
 simp only[QCe,QKC,QKh] at ht;obtain ⟨b,hb,a,ha,w,hw,rfl⟩:=ht;have hb:=Jx.1 hb;have ha:=Jx.1 ha;have hg:=hp.guess;have hm:=hp.most;simp only[inR] at hg;obtain ⟨h1,h2⟩:=QaQ hp hw;exact ⟨⟨by grind,by grind⟩,⟨by grind,by grind⟩,h1,h2⟩
include hK
omit hK
theorem QcJ:∀ l:List Rod,(∀ r∈l,Ve r)->(Xx l).length<=10 ^ l.length
 | [],_=>by simp[Xx]
 | r::rs,h=>by
   have ih:=QcJ rs fun x hx=>h x (by simp[hx])
   have hr:=(h r (by simp)).2.1
   simp only[inR] at hr;simp only[Xx,List.length_flatMap,QJ9]
   have:((Uj (r.long-r.yb) r.long).map fun _=>(Xx rs).length).sum<=10*10 ^ rs.length:=by
    rw[List.map_const',List.sum_replicate_nat];refine Nat.mul_le_mul ?_ ih;simp[Uj];omega
   grind
def QtV (first:List Int) (lo:Int) (rs:List Rod) (i:Nat):List (List Int):=(Xx rs).map fun w=>first++(lo+i)::w
theorem Qg5 (first:List Int) (r:Rod) (rs:List Rod):(Xx (r::rs)).map (first++·)=acc (QtV first (r.long-r.yb) rs) (r.long-(r.long-r.yb)+1).toNat:=by
 simp only[Xx,Uj,acc,QLL,List.flatMap_map,List.map_map];rfl
include hK
omit hK
def QAK (p:Zh):Nat:=(p.yg-p.yc+1).toNat
def Qvk (p:Zh) (b:Int) (j:Nat):List TrU:=(Xx p.zi).map fun w=>⟨b,p.yc+j,w⟩
def QDp (p:Zh) (i:Nat):List TrU:=acc (Qvk p (p.yc+i)) (QAK p)
noncomputable def uE (p:Zh) (is:Bool):Int:=if OkU p then (if is=true then (if UN p=[] then 3 else 0) else 1) else 40
def uL (p:Zh) (is:Bool):List TrU:=if OkU p/\is=true then UN p else []
include hK
omit hK
def QAI (part:Int) (t:TrU):Bool:=XA t.yh t.yi part
def Qdf (T:List TrU) (part:Int):Int:=if T.all (QAI part) then 1 else if T.any (QAI part) then 3 else 2
theorem Qgi (p:Zh) (part:Int) (hp:0<=part):Qdf (UN p) part=Qde p part:=(QnN p part hp).symm
def Qmc (T:List TrU):Option Nat:=(List.range 1001).find? fun i=>decide (Qdf T (i:Nat)=1)
def Qvc (T:List TrU) (rod:Nat):List Int:=T.map fun t=>t.zi.getD rod 0
theorem UW {α:Type} (f:α->Int) (l:List α) (i:Nat) (h:i<l.length):span ((l.take (i+1)).map f)=if i=0 then (f l[i],f l[i]) else (min (span ((l.take i).map f)).1 (f l[i]),max (span ((l.take i).map f)).2 (f l[i])):=by
 rw[QJV h,QKf,QLz,Qa4];cases i with
 | zero=>simp
 | succ i =>
   have:¬ (l.take (i+1)).map f=[]:=by
    intro c;simp_all
   grind
include hK
omit hK in
theorem QDb {p:Zh} {is:Bool} {t:TrU} (h:t∈uL p is):OkU p/\is=true/\t∈UN p:=by
 unfold uL at h
 grind
omit hK in
theorem QzD {p:Zh} {is:Bool} {t:TrU} (h:t∈uL p is):(0<=t.yh/\t.yh<=99999)/\(0<=t.yi/\t.yi<=99999):=by
 obtain ⟨hp,_,ht⟩:=QDb h;have:=Qxt hp (QKx.1 ht).1;exact ⟨this.yh,this.yi⟩
omit hK in
theorem QdK {p:Zh} {is:Bool} (h:uE p is=0):OkU p/\is=true/\uL p is=UN p/\UN p≠[]:=by
 unfold uE at h;split at h
 ·rename_i hp
  cases is
  ·simp at h
  simp only[if_true] at h;split at h
  ·cases h
  rename_i hne;exact ⟨hp,rfl,by simp[uL,hp],hne⟩
 ·cases h
structure QJI (p:Zh):Prop where
 zi:p.zi.length<=1000
 zj:p.zj.length<=1000
 all:OkU p->(QCe p).length<=1000000
def Qd5 (n:Int):Bool:=decide (inR n 0 1000)
def QtQ (p:Zh) (n:Int):Bool:=decide (inR n 0 ((p.zi.length:Int)-1))
noncomputable def qJ (p:Zh) (part:Int):Int:=if uE p (Qd5 part)=0 then Qdf (UN p) part else 0
noncomputable def Qd3 (p:Zh):Int × Int:=if uE p true=0 then (match Qmc (UN p) with | some n=>((n:Int),0) | none=>(0,3)) else (0,uE p true)
noncomputable def Qlt (p:Zh) (rod:Int):List Int:=if uE p (QtQ p rod)=0 then Jc (Qvc (UN p) rod.toNat) ((p.zi.getD rod.toNat ⟨0,0,0⟩).long-(p.zi.getD rod.toNat ⟨0,0,0⟩).yb) (p.zi.getD rod.toNat ⟨0,0,0⟩).long else []
omit hK
@[simp] def QhD (w:List Int):List IV:=[.int .i64 (w.getD 0 0),.int .i64 (w.getD 1 0),.int .i64 (w.getD 2 0),.int .i64 (w.getD 3 0)]
def Qgb (w:List Int):List IV:=[.agg (QhD w)]
def qY {α:Type} (pc:Nat->List α) (i n:Nat):List α:=((List.range n).drop i).flatMap pc
theorem VV {α:Type} (pc:Nat->List α) {i n:Nat} (h:i<n):qY pc i n=pc i++qY pc (i+1) n:=by
 unfold qY;rw[QKp (by simpa using h),QK4]
 simp
theorem U1 {α:Type} (pc:Nat->List α) (n:Nat):qY pc n n=[]:=by
 unfold qY;rw[QKN (by simp)]
 rfl
theorem QmW {α:Type} (pc:Nat->List α) (n:Nat):qY pc 0 n=acc pc n:=by simp[qY,acc]
def QaR (p:Zh) (first:List Int):List (List IV):=((Xx (p.zi.drop first.length)).map (first++·)).map Qgb
theorem Qk3 {p:Zh} {first:List Int} (h:first.length<p.zi.length):QaR p first=qY (fun i:Nat=>QaR p (first++[p.zi[first.length].long-p.zi[first.length].yb+i])) 0 (p.zi[first.length].yb+1).toNat:=by
 have e1:p.zi.drop first.length=p.zi[first.length]::p.zi.drop (first.length+1):=QKp h
 have e2:(p.zi[first.length].long-(p.zi[first.length].long-p.zi[first.length].yb)+1).toNat=(p.zi[first.length].yb+1).toNat:=by congr 1;omega
 rw[QmW];unfold QaR;rw[e1,Qg5,e2];simp only[acc,QLL,QKb,QKk,QKy,QKl]
 congr 1
 funext i
 simp[QtV,Function.comp_def]
include hK
theorem QnD (p:Zh) (hp:OkU p):∀ (n:Nat) (first:List Int),first.length+n=p.zi.length->Qal prog K 409 [puV p,.int .i64 (first.length:Nat),.agg (QhD first)] [] (QaR p first) (fun b=>.bool b)
 | 0,first,hn=>by
   intro s b s' hf;refine QL Qpx (by simp) hf.v rfl ?_
   have e1:p.zi.drop first.length=[]:=QKN (by omega)
   have e2:first.length=p.zi.length:=by omega
   have hw:QaR p first=[Qgb first]:=by simp[QaR,e1,Xx]
   rw[hw] at hf;simp[e2];intros;cases hf with
   | stop _ _ _ _ hg =>
     refine Q4 (by simpa[Qgb] using hg) rfl ?_
     simp
   | next _ _ _ s1 _ _ hg hr =>
     cases hr;refine Q4 (by simpa[Qgb] using hg) rfl ?_
     simp
 | n+1,first,hn=>by
   intro s b s' hf;refine QL Qpx (by simp) hf.v rfl ?_
   have xd:first.length<p.zi.length:=by omega
   have hne:¬ (first.length:Int)=p.zi.length:=by omega
   have h4:first.length<4:=by have:=hp.rlen;omega
   have hro:=hp.zi _ (QJ1 xd);obtain ⟨r1,r2,r3⟩:=hro;simp only[inR] at r1 r2 r3;rw[Qk3 xd] at hf
   have ih:∀ i:Nat,Qal prog K 409 [puV p,.int .i64 (first.length+1:Nat),.agg (QhD (first++[p.zi[first.length].long-p.zi[first.length].yb+i]))] [] (QaR p (first++[p.zi[first.length].long-p.zi[first.length].yb+i])) (fun b=>.bool b):=fun i=>by
    have:=QnD p hp n (first++[p.zi[first.length].long-p.zi[first.length].yb+(i:Int)]) (by simp;omega)
    simpa using this
   generalize hR:p.zi[first.length]=R at *
   generalize hpc:(fun i:Nat=>QaR p (first++[R.long-R.yb+i]))=pc at *
   have ih:∀ i:Nat,Qal prog K 409 [puV p,.int .i64 (first.length+1:Nat),.agg (QhD (first++[R.long-R.yb+i]))] [] (pc i) (fun b=>.bool b):=fun i=>by grind
   obtain ⟨N,hN⟩:∃ N,N=(R.yb+1).toNat:=⟨_,rfl⟩
   rw[<- hN] at hf;have hNv:(N:Int)=R.yb+1:=by omega
   clear hpc hn hN
   match first,h4,xd,hne,hR,ih with
   | [],_,xd,hne,hR,ih =>
     have hM:0<p.zi.length:=by omega
     have hR0:p.zi[0]'hM=R:=hR;have hne':¬ (0:Int)=p.zi.length:=by omega
     simp[hM,hR0,hne']
     (repeat' first | omega | (with_reducible apply And.intro) | intro _)
     refine Yi N (fun k e o=>∃ si,e=[(1,AV.iv (.int .i64 (([]:List Int).length:Nat))),(3,AV.cb 0),(4,AV.iv (.ptr (puC p))),(6,AV.loc 6 0),(9,AV.loc 9 0)] /\
      o=[(0,.ext si),(6,.box ((QhD ([]++[R.long-R.yb+(k:Int)])).map AV.iv)),(9,.box [.iv (.int .i64 R.long),.iv (.int .i64 R.yb),.iv (.int .i64 R.grow)])]/\ZO prog K (qY pc k N) si b s') ?_ ?_ _ _ ⟨s,by simp,by simp,by simpa using hf⟩
     ·rintro e o ⟨si,rfl,rfl,hfd⟩
      rw[U1] at hfd;cases hfd;have q:¬ R.long-R.yb+(N:Int)<=R.long:=by omega
      rw[Qa J0.eq_1];simp[q]
      try (intros;omega)
     rintro k e o hk ⟨si,rfl,rfl,hfd⟩ ihl
     rw[VV pc hk] at hfd;have q:R.long-R.yb+(k:Int)<=R.long:=by omega
     have q3:R.long-R.yb+((k:Int)+1)=R.long-R.yb+k+1:=by omega
     rw[Qa J0.eq_1];simp[q]
     (repeat' first | omega | (with_reducible apply And.intro) | intro _)
     rcases hfd.append with ⟨s1,hf1,hf2⟩ | ⟨rfl,hf1⟩
     ·refine ZH (by simpa using ih k _ _ _ hf1) rfl ?_
      cases b
      all_goals
       simp
       (repeat' first | omega | (with_reducible apply And.intro) | intro _)
       exact ihl _ _ ⟨s1,by simp,by simp[q3],by simpa using hf2⟩
     refine ZH (by simpa using ih k _ _ _ hf1) rfl ?_
     simp
   | [a],_,xd,hne,hR,ih =>
     have hM:1<p.zi.length:=by omega
     have hR0:p.zi[1]'hM=R:=hR;have hne':¬ (1:Int)=p.zi.length:=by omega
     simp[hM,hR0,hne']
     (repeat' first | omega | (with_reducible apply And.intro) | intro _)
     refine Yi N (fun k e o=>∃ si,e=[(1,AV.iv (.int .i64 (([a]:List Int).length:Nat))),(3,AV.cb 0),(4,AV.iv (.ptr (puC p))),(6,AV.loc 6 0),(9,AV.loc 9 0)] /\
      o=[(0,.ext si),(6,.box ((QhD ([a]++[R.long-R.yb+(k:Int)])).map AV.iv)),(9,.box [.iv (.int .i64 R.long),.iv (.int .i64 R.yb),.iv (.int .i64 R.grow)])]/\ZO prog K (qY pc k N) si b s') ?_ ?_ _ _ ⟨s,by simp,by simp,by simpa using hf⟩
     ·rintro e o ⟨si,rfl,rfl,hfd⟩
      rw[U1] at hfd;cases hfd;have q:¬ R.long-R.yb+(N:Int)<=R.long:=by omega
      rw[Qa J0.eq_1];simp[q]
      try (intros;omega)
     rintro k e o hk ⟨si,rfl,rfl,hfd⟩ ihl
     rw[VV pc hk] at hfd;have q:R.long-R.yb+(k:Int)<=R.long:=by omega
     have q3:R.long-R.yb+((k:Int)+1)=R.long-R.yb+k+1:=by omega
     rw[Qa J0.eq_1];simp[q]
     (repeat' first | omega | (with_reducible apply And.intro) | intro _)
     rcases hfd.append with ⟨s1,hf1,hf2⟩ | ⟨rfl,hf1⟩
     ·refine ZH (by simpa using ih k _ _ _ hf1) rfl ?_
      cases b
      all_goals
       simp
       (repeat' first | omega | (with_reducible apply And.intro) | intro _)
       exact ihl _ _ ⟨s1,by simp,by simp[q3],by simpa using hf2⟩
     refine ZH (by simpa using ih k _ _ _ hf1) rfl ?_
     simp
   | [a,a2],_,xd,hne,hR,ih =>
     have hM:2<p.zi.length:=by omega
     have hR0:p.zi[2]'hM=R:=hR;have hne':¬ (2:Int)=p.zi.length:=by omega
     simp[hM,hR0,hne']
     (repeat' first | omega | (with_reducible apply And.intro) | intro _)
     refine Yi N (fun k e o=>∃ si,e=[(1,AV.iv (.int .i64 (([a,a2]:List Int).length:Nat))),(3,AV.cb 0),(4,AV.iv (.ptr (puC p))),(6,AV.loc 6 0),(9,AV.loc 9 0)] /\
      o=[(0,.ext si),(6,.box ((QhD ([a,a2]++[R.long-R.yb+(k:Int)])).map AV.iv)),(9,.box [.iv (.int .i64 R.long),.iv (.int .i64 R.yb),.iv (.int .i64 R.grow)])]/\ZO prog K (qY pc k N) si b s') ?_ ?_ _ _ ⟨s,by simp,by simp,by simpa using hf⟩
     ·rintro e o ⟨si,rfl,rfl,hfd⟩
      rw[U1] at hfd;cases hfd;have q:¬ R.long-R.yb+(N:Int)<=R.long:=by omega
      rw[Qa J0.eq_1];simp[q]
      try (intros;omega)
     rintro k e o hk ⟨si,rfl,rfl,hfd⟩ ihl
     rw[VV pc hk] at hfd;have q:R.long-R.yb+(k:Int)<=R.long:=by omega
     have q3:R.long-R.yb+((k:Int)+1)=R.long-R.yb+k+1:=by omega
     rw[Qa J0.eq_1];simp[q]
     (repeat' first | omega | (with_reducible apply And.intro) | intro _)
     rcases hfd.append with ⟨s1,hf1,hf2⟩ | ⟨rfl,hf1⟩
     ·refine ZH (by simpa using ih k _ _ _ hf1) rfl ?_
      cases b
      all_goals
       simp
       (repeat' first | omega | (with_reducible apply And.intro) | intro _)
       exact ihl _ _ ⟨s1,by simp,by simp[q3],by simpa using hf2⟩
     refine ZH (by simpa using ih k _ _ _ hf1) rfl ?_
     simp
   | [a,a2,a3],_,xd,hne,hR,ih =>
     have hM:3<p.zi.length:=by omega
     have hR0:p.zi[3]'hM=R:=hR;have hne':¬ (3:Int)=p.zi.length:=by omega
     simp[hM,hR0,hne']
     (repeat' first | omega | (with_reducible apply And.intro) | intro _)
     refine Yi N (fun k e o=>∃ si,e=[(1,AV.iv (.int .i64 (([a,a2,a3]:List Int).length:Nat))),(3,AV.cb 0),(4,AV.iv (.ptr (puC p))),(6,AV.loc 6 0),(9,AV.loc 9 0)] /\
      o=[(0,.ext si),(6,.box ((QhD ([a,a2,a3]++[R.long-R.yb+(k:Int)])).map AV.iv)),(9,.box [.iv (.int .i64 R.long),.iv (.int .i64 R.yb),.iv (.int .i64 R.grow)])]/\ZO prog K (qY pc k N) si b s') ?_ ?_ _ _ ⟨s,by simp,by simp,by simpa using hf⟩
     ·rintro e o ⟨si,rfl,rfl,hfd⟩
      rw[U1] at hfd;cases hfd;have q:¬ R.long-R.yb+(N:Int)<=R.long:=by omega
      rw[Qa J0.eq_1];simp[q]
      try (intros;omega)
     rintro k e o hk ⟨si,rfl,rfl,hfd⟩ ihl
     rw[VV pc hk] at hfd;have q:R.long-R.yb+(k:Int)<=R.long:=by omega
     have q3:R.long-R.yb+((k:Int)+1)=R.long-R.yb+k+1:=by omega
     rw[Qa J0.eq_1];simp[q]
     (repeat' first | omega | (with_reducible apply And.intro) | intro _)
     rcases hfd.append with ⟨s1,hf1,hf2⟩ | ⟨rfl,hf1⟩
     ·refine ZH (by simpa using ih k _ _ _ hf1) rfl ?_
      cases b
      all_goals
       simp
       (repeat' first | omega | (with_reducible apply And.intro) | intro _)
       exact ihl _ _ ⟨s1,by simp,by simp[q3],by simpa using hf2⟩
     refine ZH (by simpa using ih k _ _ _ hf1) rfl ?_
     simp
   | _::_::_::_::_,h4,_,_,_,_=>simp at h4;omega
omit hK
theorem Qgo (x y:Int):∀ l:List (Int × Nat),QbX (QbP l x) y=QbX l y+(if x=y then 1 else 0)
 | []=>by simp[QbP,QbX]
 | p::r=>by
   unfold QbP;by_cases h:p.1=x
   ·simp only[h,if_true,QbX]
    grind
   simp only[h,if_false,QbX];by_cases h2:p.1=y
   ·grind
   simp[h2,Qgo x y r]
theorem Qok (y:Int):∀ l:List Int,QbX (XT l) y=l.count y:=by
 refine X7 (by simp[XT,QbX]) fun l x ih=>?_
 rw[XL,Qgo,ih,List.count_append,List.count_singleton]
 grind
def Qfr (p:Zh) (wh:Int) (w:List Int) (l:List Int):List Int:=l.flatMap fun len=>List.replicate (wrU p wh w len) len
def QtM (p:Zh) (wh:Int) (w:List Int):List Int:=Qfr p wh w (Yp p)
theorem Qfq (p:Zh) (wh:Int) (w:List Int) (y:Int):∀ l:List Int,l.Nodup->(Qfr p wh w l).count y=if y∈l then wrU p wh w y else 0
 | [],_=>by simp[Qfr]
 | a::r,h=>by
   rw[QLB] at h;have ih:=Qfq p wh w y r h.2;have e:Qfr p wh w (a::r)=List.replicate (wrU p wh w a) a++Qfr p wh w r:=by simp[Qfr]
   grind
theorem QqH {p:Zh} {wh:Int} {w:List Int} {len:Int} (h:len∈Yp p):QbX (XT (QtM p wh w)) len=wrU p wh w len:=by
 have hnd:(Yp p).Nodup:=(UF _ _).imp fun h=>by omega
 rw[Qok,QtM,Qfq p wh w len _ hnd,if_pos h]
theorem QkI (w:List Int) (n:Nat) (h:n<4):[IV.int .i64 (w.getD 0 0),.int .i64 (w.getD 1 0),.int .i64 (w.getD 2 0),.int .i64 (w.getD 3 0)].drop n=.int .i64 (w.getD n 0)::[IV.int .i64 (w.getD 0 0),.int .i64 (w.getD 1 0),.int .i64 (w.getD 2 0),.int .i64 (w.getD 3 0)].drop (n+1):=by
 grind
def UO (x:Bun):List IV:=QhD x.zi++[.int .i64 (x.yh.zh:Nat),QW x.yh.lens,.int .i64 (x.yi.zh:Nat),QW x.yi.lens]
def VB (x:Bun):List IV:=[.agg (UO x)]
include hK
theorem QvD (p:Zh) (hp:OkU p):Qam prog K 383 [puV p] [] (QaR p []):=by
 intro s b s' hf;refine QL (fk func383 QFu (by kernel_rfl)) (by simp) hf.v rfl ?_
 have ih:=QnD hK p hp p.zi.length [] (by simp) _ _ _ hf
 simp;refine ZH (by simpa using ih) rfl ?_
 simp
theorem Qv7 (x:Bun) (h1:x.yh.zh<=1000) (h2:x.yi.zh<=1000):Gd K 345 [.agg (UO x)] (.int .i64 ((x.yh.zh+x.yi.zh:Nat):Int)):=by
 refine Qb hK (fk func345 QFz (by kernel_rfl)) (by simp) ?_
 simp[UO];omega
theorem Qv2 (p:Zh) (wh:Int) (w:List Int) (hp:OkU p) (hw:w∈Xx p.zi) (hg:p.yg-p.yc<=100000):Gd K 410 [puV p,.int .i64 wh,.agg (QhD w)] (.map (Qaf (XT (QtM p wh w)))):=by
 refine Qb hK (fk func410 QFr (by kernel_rfl)) (by simp) ?_
 have hgu:=hp.guess;have hmo:=hp.most;have hxl:=hp.xlen;simp only[inR] at hgu;obtain ⟨hwl,hwb⟩:=QaQ hp hw;obtain ⟨G,hG⟩:∃ G,G=(p.yg-p.yc+1).toNat:=⟨_,rfl⟩
 have hGv:p.yc+(G:Int)=p.yg+1:=by omega
 have hlens:Yp p=(List.range G).map fun (i:Nat)=>p.yc+i:=by rw[hG];rfl
 have hseq:QtM p wh w=Qfr p wh w ((List.range G).map fun (i:Nat)=>p.yc+i):=by rw[QtM,hlens]
 rw[hseq];clear hseq hlens hG;simp;have e0:AV.iv (IV.int .i64 p.yc)=AV.iv (.int .i64 (p.yc+((0:Nat):Int))):=by simp
 rw[e0]
 refine Qi (fun i=>[(1,AV.iv (.int .i64 wh)),(3,AV.iv (.ptr (puC p))),(5,AV.iv (.ptr (QhD w))),(7,AV.yo 11),(8,AV.iv (IV.int IntKind.i64 (p.yc+(i:Nat))))])
  (fun i=>[(11,AO.xj (Qaf (XT (Qfr p wh w ((List.range i).map fun (i:Nat)=>p.yc+i)))))]) G (fun i=>True) trivial ?_ ?_
 ·intro _
  have q2:¬ p.yg+1<=p.yg:=by omega
  rw[hGv,Qa QiC.eq_1];simp[q2]
 intro i hi _ ih;have q1:p.yc+(i:Int)<=p.yg:=by omega
 have q3:p.yc+((i:Int)+1)=p.yc+i+1:=by omega
 have hS:Qfr p wh w ((List.range (i+1)).map fun (i:Nat)=>p.yc+i)=Qfr p wh w ((List.range i).map fun (i:Nat)=>p.yc+i)++List.replicate (wrU p wh w (p.yc+i)) (p.yc+i):=by
  rw[QKn,QKf];simp[Qfr]
 rw[hS] at ih
 have hlS:∀ n:Nat,(Qfr p wh w ((List.range n).map fun (i:Nat)=>p.yc+i)).length<=n*8:=by
  intro n
  induction n with
  | zero=>simp[Qfr]
  | succ n ihn =>
    have e:Qfr p wh w ((List.range (n+1)).map fun (i:Nat)=>p.yc+i)=Qfr p wh w ((List.range n).map fun (i:Nat)=>p.yc+i)++List.replicate (wrU p wh w (p.yc+n)) (p.yc+n):=by
     rw[QKn,QKf];simp[Qfr]
    have hwr:=Qe5 p wh w (p.yc+n)
    grind
 have hl1:=hlS i;rw[Qa QiC.eq_1];generalize Qfr p wh w ((List.range i).map fun (i:Nat)=>p.yc+i)=S at *
 have hlen:0<=p.yc+(i:Int)/\p.yc+(i:Int)<=99999:=by omega
 unfold wrU at ih;generalize hL:p.yc+(i:Int)=len at *;simp[q1,q3] at ih |-;intros;have eS:S=S++List.replicate ((p.zj.take 0).countP (Qtl p wh w len)) len:=by simp
 rw[eS]
 refine Qi (fun k=>[(1,AV.iv (.int .i64 wh)),(3,AV.iv (.ptr (puC p))),(5,AV.iv (.ptr (QhD w))),(7,AV.yo 11),(8,AV.iv (IV.int IntKind.i64 len)),(26,AV.iv (Y1 p.zj)),(27,AV.iv (.int .i64 p.zj.length)),(28,AV.iv (.int .i64 (k:Nat)))])
  (fun k=>[(11,AO.xj (Qaf (XT (S++List.replicate ((p.zj.take k).countP (Qtl p wh w len)) len))))]) p.zj.length (fun i=>True) trivial ?_ ?_
 ·intro _
  rw[Qa QiD.eq_1,QJ5];simp
  grind
 intro k hk _ ih2;have hx:=hp.zj _ (QJ1 hk);have hcl:(p.zj.take k).countP (Qtl p wh w len)<=k:=QKG QKQ (by simp;omega)
 rw[QJV hk,QLf] at ih2;generalize hX:p.zj[k]=X at *;have hr:=hx.2.1;simp only[inR] at hr;have hr4:X.rod.toNat<4:=by have:=hp.rlen;omega
 have hrl:0<=w.getD X.rod.toNat 0/\w.getD X.rod.toNat 0<=9999:=by
  have xd:X.rod.toNat<w.length:=by omega
  have:w.getD X.rod.toNat 0=w[X.rod.toNat]:=by simp[xd]
  rw[this];exact hwb _ (QJ1 xd)
 have hg:=Qv0 hK p X len (w.getD X.rod.toNat 0) hp hx hlen hrl;have hdp:=QkI w X.rod.toNat hr4;have hb:Qtl p wh w len X=(decide (X.yk=wh)&&!qG p X len (w.getD X.rod.toNat 0)):=rfl
 have hlen2:(S++List.replicate ((p.zj.take k).countP (Qtl p wh w len)) len).length<=900000:=by
  simp;omega
 rw[<- List.replicate_append_replicate,<- QKW] at ih2;have hc1:[X].countP (Qtl p wh w len)=if Qtl p wh w len X then 1 else 0:=by simp
 rw[hc1,hb] at ih2;generalize S++List.replicate ((p.zj.take k).countP (Qtl p wh w len)) len=S2 at *;have hle:=Qeu len S2;have hkk:=YC (XT S2);have hf:=JB len (XT S2);have hi2:=Ww len (XT S2);rw[Qa QiD.eq_1];have hr1:0<=X.rod/\X.rod<4/\X.rod<=4:=by omega
 simp only[List.getD_eq_getElem?_getD] at hdp hg ih2;generalize w[X.rod.toNat]?.getD 0=ww at *;by_cases hw2:X.yk=wh;rotate_left
 ·simp[hw2] at ih2
  simp[hk,hX,hw2]
  grind
 generalize qG p X len ww=rb at *;cases rb
 ·simp[hw2,XL] at ih2
  generalize XT S2=kv at *;simp[hk,hX,hw2];refine ⟨hr1,?_⟩;simp[hdp,hw2];refine cK (by simpa[hw2] using hg) ?_
  simp[hkk,hf,hi2]
  grind
 simp[hw2] at ih2;simp[hk,hX,hw2];refine ⟨hr1,?_⟩;simp[hdp,hw2];refine cK (by simpa[hw2] using hg) ?_
 simp
 grind
omit hK
def QBq (f:Int->Nat) (kvs:List (MK × List (List IV))) (x:Int):List (MK × List (List IV)) :=
 zn (.int .i64 (f x:Nat)) (((Qn (.int .i64 (f x:Nat)) kvs).getD [])++[[.int .i64 x]]) kvs
def gby (f:Int->Nat) (l:List Int):List (MK × List (List IV)):=l.foldl (QBq f) []
theorem QaC (f:Int->Nat) (l:List Int) (x:Int):gby f (l++[x])=QBq f (gby f l) x:=by simp[gby]
theorem QfV {α:Type} (k:MK) (v:α):∀ kvs:List (MK × α),(zn k v kvs).map (·.1)=if k∈kvs.map (·.1) then kvs.map (·.1) else kvs.map (·.1)++[k]
 | []=>by simp[zn]
 | p::r=>by
   have ih:=QfV k v r;unfold zn
   grind
theorem Qgp (f:Int->Nat):∀ l,Zx (some .i64) (gby f l):=by
 refine X7 trivial fun l x ih=>?_
 rw[QaC];exact Jy _ _ _ ih
theorem Qkz (f:Int->Nat) (n:Nat):∀ l,(Qn (.int .i64 (n:Nat)) (gby f l)).getD []=(l.filter fun x=>f x==n).map fun x=>[IV.int .i64 x]:=by
 refine X7 rfl fun l x ih=>?_
 rw[QaC,QBq,VG,QKX,QKf]
 grind
theorem QrK (f:Int->Nat):∀ l,∃ ks:List Nat,(gby f l).map (·.1)=ks.map (fun n:Nat=>MK.int .i64 (n:Int))/\ks.Nodup/\∀ n,n∈ks↔∃ y∈l,f y=n:=by
 refine X7 ⟨[],rfl,QLK,by simp⟩ fun l x ih=>?_
 obtain ⟨ks,h1,h2,h3⟩:=ih;rw[QaC,QBq,QfV,h1]
 have hm:MK.int .i64 ((f x:Nat):Int)∈ks.map (fun n:Nat=>MK.int .i64 (n:Int))↔f x∈ks:=by
  grind
 by_cases h:f x∈ks
 ·grind
 rw[if_neg (fun e=>h (hm.1 e))]
 refine ⟨ks++[f x],by simp,?_,fun n=>?_⟩
 all_goals grind
theorem Qxr (f:Int->Nat) (n:Nat) (l:List Int):((Qn (.int .i64 (n:Nat)) (gby f l)).getD []).length<=l.length:=by
 rw[Qkz]
 grind
theorem Qhe (ks cs:List Nat) (h1:ks.Nodup) (h2:cs.Pairwise (·<·)) (h3:∀ n,n∈ks↔n∈cs) :
  (ks.map fun n:Nat=>(n:Int)).mergeSort (fun x y=>decide (x<=y))=cs.map fun n:Nat=>(n:Int):=by
 have hp:ks.Perm cs:=(List.perm_ext_iff_of_nodup h1 (h2.imp fun h=>by omega)).2 h3
 rw[mergeSort_of_perm_i (hp.map fun n:Nat=>(n:Int))]
 refine List.mergeSort_of_pairwise ?_
 grind
def grC (g:Grp):List IV:=[.int .i64 (g.zh:Nat),QW g.lens]
def Ua (l:List Grp):IV:=.sl 2 (l.map grC)
theorem QfW {α β:Type} (g:α->β) (k:MK):∀ l:List (MK × α),Qn k (l.map fun p=>(p.1,g p.2))=(Qn k l).map g
 | []=>rfl
 | p::r=>by
   simp only[QKg,Qn];split
   ·rfl
   exact QfW g k r
theorem QbL {α β:Type} (kk:Option IntKind) (g:α->β):∀ l:List (MK × α),Zx kk l->Zx kk (l.map fun p=>(p.1,g p.2))
 | [],_=>trivial
 | _::r,h=>⟨h.1,QbL kk g r h.2⟩
include hK
theorem Qv1 (kvs:List (MK × IV)):Gd K 411 [.map kvs] (.clo 423 [] [.ptr [.map kvs]]):=by
 refine Qb hK (fk func411 QFq (by kernel_rfl)) (by simp) ?_
 simp
theorem QnV (p:Zh) (wh:Int) (w:List Int) (hp:OkU p) (hw:w∈Xx p.zi) (hg:p.yg-p.yc<=100000):Gd K 384 [puV p,.int .i64 wh,.agg (QhD w)] (Ua (VD p wh w)):=by
 refine Qb hK (fk func384 QFt (by kernel_rfl)) (by simp) ?_
 have hgu:=hp.guess;have hxl:=hp.xlen;have hmo:=hp.most;simp only[inR] at hgu;have h380:=Qv2 hK p wh w hp hw hg;have hget:=fun (len:Int) (h:len∈Yp p)=>QqH (wh:=wh) (w:=w) h
 have hkk:=YC (XT (QtM p wh w));have hfind:=fun (x:Int)=>JB x (XT (QtM p wh w))
 obtain ⟨G,hG⟩:∃ G,G=(p.yg-p.yc+1).toNat:=⟨_,rfl⟩
 have hGv:p.yc+(G:Int)=p.yg+1:=by omega
 have hlens:Yp p=(List.range G).map fun (i:Nat)=>p.yc+i:=by rw[hG];rfl
 simp;refine cK (by simpa using h380) ?_
 generalize Qaf (XT (QtM p wh w))=cn at *;simp;have e0:AV.iv (IV.int .i64 p.yc)=AV.iv (.int .i64 (p.yc+((0:Nat):Int))):=by simp
 rw[e0]
 refine Qi (fun i=>[(3,AV.iv (.ptr (puC p))),(7,AV.iv (.map cn)),(8,AV.yo 17),(9,AV.iv (IV.int IntKind.i64 (p.yc+(i:Nat))))])
  (fun i=>[(17,AO.yw 3 1 (gby (wrU p wh w) ((List.range i).map fun (i:Nat)=>p.yc+i)) none)]) G (fun i=>True) trivial ?_ ?_
 ·intro _
  have q2:¬ p.yg+1<=p.yg:=by omega
  rw[hGv,Qa QiF.eq_1,<- hlens];simp[q2];refine cK (by simpa using Qv1 hK _) ?_
  simp;obtain ⟨ks,hk1,hk2,hk3⟩:=QrK (wrU p wh w) (Yp p)
  have hkb:∀ n∈ks,n<=8:=fun n hn=>by
   obtain ⟨y,_,e⟩:=(hk3 n).1 hn;have:=Qe5 p wh w y;omega
  have hcp:(Qag p wh w).Pairwise (·<·):=List.pairwise_lt_range.filter _
  have hkc:∀ n,n∈ks↔n∈Qag p wh w:=fun n=>by
   rw[hk3];simp only[Qag,QKx,QKr];constructor
   ·rintro ⟨y,hy,e⟩
    have:=Qe5 p wh w y;have h5:y∈Qdh p wh w n:=X8.2 ⟨hy,e⟩
    grind
   rintro ⟨_,h⟩
   cases hz:Qdh p wh w n with
   | cons a r =>
     have h5:a∈Qdh p wh w n:=by rw[hz];simp
     exact ⟨a,(X8.1 h5).1,(X8.1 h5).2⟩
   | _=>grind
  have hperm:ks.Perm (Qag p wh w):=(List.perm_ext_iff_of_nodup hk2 (hcp.imp fun h=>by omega)).2 hkc
  have hcl:(Qag p wh w).length<=p.zj.length+1:=by
   have:=QKz (fun n=>!(Qdh p wh w n).isEmpty) (List.range (p.zj.length+1))
   simpa[Qag] using this
  have hkl:=hperm.length_eq;have hsort:=Qhe ks _ hk2 hcp hkc
  have h173:=QrI (K:=K) ((gby (wrU p wh w) (Yp p)).map fun p=>(p.1,IV.sl 1 p.2)) (ks.map fun n:Nat=>(n:Int)) (by rw[List.map_map,List.map_map];exact hk1) (fun x hx=>by
   grind) (by simp;omega)
  rw[hsort] at h173;refine cK h173 ?_
  have hfnd:∀ n:Nat,n∈Qag p wh w->(Qn (.int .i64 ((n:Nat):Int)) ((gby (wrU p wh w) (Yp p)).map fun p=>(p.1,IV.sl 1 p.2))).getD (.sl 1 [])=QW (Qdh p wh w n):=fun n hn=>by
   have h5:=Qkz (wrU p wh w) n (Yp p);rw[QfW];cases hz:Qn (.int .i64 ((n:Nat):Int)) (gby (wrU p wh w) (Yp p)) with
   | none =>
     rw[hz] at h5;simp[QW,Qdh];simpa using h5
   | some v =>
     rw[hz] at h5;simp[QW,Qdh];simpa using h5
  have hkk2:=QbL (some .i64) (fun r:List (List IV)=>IV.sl 1 r) _ (Qgp (wrU p wh w) (Yp p))
  generalize ((gby (wrU p wh w) (Yp p)).map fun p=>(p.1,IV.sl 1 p.2))=mv at *
  simp only[VD];generalize Qag p wh w=cs at *;simp[-List.map_map];intros
  refine Qi (fun i=>[(8,AV.iv (.map mv)),(10,AV.yq 10 i),(44,.iv (QW (cs.map fun n:Nat=>(n:Int)))),(45,AV.iv (.int .i64 cs.length)),(46,AV.iv (IV.int IntKind.i64 (i:Nat)))])
   (fun i=>[(10,AO.arr 328 2 (emb ((cs.take i).map fun n=>grC ⟨n,Qdh p wh w n⟩)) 0)]) cs.length (fun i=>True) trivial ?_ ?_
  ·intro _
   rw[Qa QiE.eq_1];simp[QJZ,Ua,QW]
  intro i hi _ ih2;rw[Qa QiE.eq_1];rw[QJV hi,QKf] at ih2;have hf1:=hfnd _ (QJ1 hi);simp[grC,QW] at ih2;simp[hi,QW,hkk2,hf1]
  repeat' first | omega | exact ih2 | apply And.intro
 intro i hi _ ih;have q1:p.yc+(i:Int)<=p.yg:=by omega
 have q3:p.yc+((i:Int)+1)=p.yc+i+1:=by omega
 have hS:((List.range (i+1)).map fun (i:Nat)=>p.yc+(i:Int))=((List.range i).map fun (i:Nat)=>p.yc+(i:Int))++[p.yc+(i:Int)]:=by
  rw[QKn,QKf];rfl
 have hmem:p.yc+(i:Int)∈Yp p:=Jx.2 ⟨by omega,by omega⟩
 have hgt:=hget _ hmem;have hf1:=hfind (p.yc+(i:Int));rw[hgt] at hf1;rw[hS,QaC] at ih;have hk1:=Qgp (wrU p wh w) ((List.range i).map fun (i:Nat)=>p.yc+(i:Int))
 have hl1:=Qxr (wrU p wh w) (wrU p wh w (p.yc+i)) ((List.range i).map fun (i:Nat)=>p.yc+(i:Int))
 have hwr:=Qe5 p wh w (p.yc+i);rw[QJ9,List.length_range] at hl1;unfold QBq at ih;generalize gby (wrU p wh w) ((List.range i).map fun (i:Nat)=>p.yc+(i:Int))=kvs at *
 generalize wrU p wh w (p.yc+i)=n at *;have hk2:=Jy n (((Qn (.int .i64 ((n:Nat):Int)) kvs).getD [])++[[.int .i64 (p.yc+(i:Int))]]) kvs hk1;have hfm:=VG (.int .i64 ((n:Nat):Int)) (.int .i64 ((n:Nat):Int)) (((Qn (.int .i64 ((n:Nat):Int)) kvs).getD [])++[[.int .i64 (p.yc+(i:Int))]]) kvs;rw[if_pos rfl] at hfm;rw[Qa QiF.eq_1];simp[q3] at ih;simp[q1,hkk,hf1,hk1,hk2,hfm]
 grind
omit hK
def QCZ (p:Zh) (w:List Int):List (List IV):=(VD p 1 w).flatMap fun g=>(VD p 2 w).map fun h=>VB ⟨w,g,h⟩
theorem Qaz (p:Zh) (wh:Int) (w:List Int):(VD p wh w).length<=p.zj.length+1:=by
 have:=QKz (fun n=>!(Qdh p wh w n).isEmpty) (List.range (p.zj.length+1))
 simpa[VD,Qag] using this
include hK
theorem QtR (p:Zh) (w:List Int) (hp:OkU p) (hw:w∈Xx p.zi) (hg:p.yg-p.yc<=100000) {ks:Env} (hks:ZC [2,3] [0,3] ks=[(2,.iv (.ptr (puC p))),(3,.loc 3 0)])
  (s:Ext) (b:Bool) (s1:Ext) (hf:ZO prog K (QCZ p w) s b s1) :
  Rnd prog K [12] QaI QeE [2,3] [0,3] (ZC [2,3] [0,3] ks) (Qgb w) [(0,.ext s),(3,.box [.cb 0])] (if b then .fall else .ret) [(0,.ext s1),(3,.box [.cb 0])]:=by
 have h1:=QnV hK p 1 w hp hw hg;have h2:=QnV hK p 2 w hp hw hg;have hl1:=Qaz p 1 w;have hl2:=Qaz p 2 w;have hxl:=hp.xlen;unfold QCZ at hf;generalize VD p 1 w=G1 at *;generalize VD p 2 w=G2 at *;rw[hks];refine ⟨rfl,?_⟩;simp[Qgb,QaI,QeE];refine cK (by simpa using h2) ?_
 simp;refine cK (by simpa using h1) ?_
 simp[Ua];intros
 refine Yi G1.length (fun i e o=>∃ si,e=[(2,AV.iv (.ptr (puC p))),(3,AV.loc 3 0),(4,AV.loc 4 0),(5,.iv (Ua G2)),(18,.iv (Ua G1)),(19,.iv (.int .i64 (G1.length:Nat))),(20,.iv (.int .i64 (i:Nat)))] /\
  o=[(0,.ext si),(3,.box [.cb 0]),(4,.box ((QhD w).map AV.iv))]/\ZO prog K ((G1.drop i).flatMap fun g=>G2.map fun h=>VB ⟨w,g,h⟩) si b s1) ?_ ?_ _ _ ⟨s,by simp[Ua],by simp,by simpa using hf⟩
 ·rintro e o ⟨si,rfl,rfl,hfd⟩
  rw[QKN (QJ2 _)] at hfd;cases hfd;rw[Qa QiG.eq_1];simp[Ua]
 ·rintro i e o hi ⟨si,rfl,rfl,hfd⟩ ih
  rw[QKp hi,QK4] at hfd;rw[Qa QiG.eq_1];generalize hX:G1[i]=X at *;simp[hi,Ua,hX,grC];intros
  refine Yi G2.length (fun k e o=>∃ si,e=[(2,AV.iv (.ptr (puC p))),(3,AV.loc 3 0),(4,AV.loc 4 0),(5,.iv (Ua G2)),(7,AV.loc 7 0),(18,.iv (Ua G1)),(19,.iv (.int .i64 (G1.length:Nat))),(20,.iv (.int .i64 (i:Nat))),(24,.iv (Ua G2)),(25,.iv (.int .i64 (G2.length:Nat))),(26,.iv (.int .i64 (k:Nat)))] /\
   o=[(0,.ext si),(3,.box [.cb 0]),(4,.box ((QhD w).map AV.iv)),(7,.box ((grC X).map AV.iv))]/\ZO prog K (((G2.drop k).map fun h=>VB ⟨w,X,h⟩)++(G1.drop (i+1)).flatMap fun g=>G2.map fun h=>VB ⟨w,g,h⟩) si b s1) ?_ ?_ _ _ ⟨si,by simp[Ua,grC],by simp[grC],by simpa using hfd⟩
  ·rintro e o ⟨si,rfl,rfl,hfd⟩
   rw[QKN (QJ2 _)] at hfd;rw[Qa QiH.eq_1];simp[Ua]
   (repeat' first | omega | (with_reducible apply And.intro) | intro _)
   exact ih _ _ ⟨si,by simp[Ua],by simp,by simpa using hfd⟩
  ·rintro k e o hk ⟨si,rfl,rfl,hfd⟩ ih2
   rw[QKp hk,QKg,QJ8] at hfd;rw[Qa QiH.eq_1];generalize hY:G2[k]=Y at *;simp[hk,Ua,hY,grC];have hit:VB ⟨w,X,Y⟩=[.agg (UO ⟨w,X,Y⟩)]:=rfl;rw[hit] at hfd;cases hfd with
   | stop _ _ _ _ hg =>
     refine Q4 (by simpa[UO] using hg) rfl ?_
     simp
   | next _ _ _ s1 _ _ hg hr =>
     refine Q4 (by simpa[UO] using hg) rfl ?_
     simp
     (repeat' first | omega | (with_reducible apply And.intro) | intro _)
     exact ih2 _ _ ⟨s1,by simp[Ua],by simp[grC],hr⟩
theorem QfG (p:Zh) (hp:OkU p) (hg:p.yg-p.yc<=100000) {ks:Env} (hks:ZC [2,3] [0,3] ks=[(2,.iv (.ptr (puC p))),(3,.loc 3 0)]) :
  ∀ (Ws:List (List Int)) (hW:∀ w∈Ws,w∈Xx p.zi) (s:Ext) (b:Bool) (s':Ext),ZO prog K (Ws.flatMap (QCZ p)) s b s' ->
   ∃ wy,(wy=.fall\/wy=.ret)/\Un prog K [12] QaI QeE [2,3] [0,3] (ZC [2,3] [0,3] ks) (Ws.map Qgb) [(0,.ext s),(3,.box [.cb 0])] wy [(0,.ext s'),(3,.box [.cb 0])]
 | [],_,s,b,s',h=>by
   cases h;exact ⟨.fall,.inl rfl,.nil _⟩
 | w::Ws,hW,s,b,s',h=>by
   rw[QK4] at h;rcases h.append with ⟨s1,h1,h2⟩ | ⟨rfl,h1⟩
   ·obtain ⟨wy,h3,h4⟩:=QfG p hp hg hks Ws (fun x hx=>hW x (by simp[hx])) s1 b s' h2
    exact ⟨wy,h3,.next _ _ _ _ _ _ (QtR hK p w hp (hW w (by simp)) hg hks s true s1 h1) h4⟩
   exact ⟨.ret,.inr rfl,.stop _ _ _ _ _ (by simp) (QtR hK p w hp (hW w (by simp)) hg hks s false s' h1)⟩
theorem QvE (p:Zh) (hp:OkU p) (hg:p.yg-p.yc<=100000):Qam prog K 344 [puV p] [] ((QcB p).map VB):=by
 intro s b s' hf;refine QL (fk func344 QFA (by kernel_rfl)) (by simp) hf.v rfl ?_
 have hw:QaR p []=(Xx p.zi).map Qgb:=by simp[QaR]
 have hit:=QvD hK p hp;rw[hw] at hit
 have hb:(QcB p).map VB=(Xx p.zi).flatMap (QCZ p):=by
  simp[QcB,QLL,List.map_map,Function.comp_def];rfl
 rw[hb] at hf;simp;obtain ⟨wy,h1,h2⟩:=QfG hK p hp hg (ks:=[(2,.iv (.ptr (puC p))),(3,.loc 3 0)]) rfl (Xx p.zi) (fun _ h=>h) s b s' hf
 refine Q6 (wy:=wy) (o':=[(0,.ext s'),(3,.box [.cb 0])]) rfl (by kernel_rfl) hit ?_ ?_
 ·simpa[ZC,Xz] using h2
 ·rcases h1 with rfl | rfl<;>simp
theorem Qba (p:Zh) (hp:OkU p) {ks:Env} (hks:ZC [2,3] [0,3] ks=[(2,.iv (.ptr (puC p))),(3,.loc 3 0)]) :
  ∀ (Bs:List Bun) (hB:∀ x∈Bs,x∈QcB p) (s:Ext) (b:Bool) (s':Ext),ZO prog K ((Bs.filter fun x=>decide (((x.yh.zh+x.yi.zh:Nat):Int)<=p.zh)).map VB) s b s' ->
   ∃ wy,(wy=.fall\/wy=.ret)/\Un prog K [7] WH Qcd [2,3] [0,3] (ZC [2,3] [0,3] ks) (Bs.map VB) [(0,.ext s),(3,.box [.cb 0])] wy [(0,.ext s'),(3,.box [.cb 0])]
 | [],_,s,b,s',h=>by
   cases h;exact ⟨.fall,.inl rfl,.nil _⟩
 | t::Ls,hB,s,b,s',h=>by
   have hbt:t.yh.zh<=1000/\t.yi.zh<=1000:=by
    have:=hB t (by simp)
    simp only[QcB,QKC,QKh] at this;obtain ⟨w,_,g,hg,h,hh,rfl⟩:=this;have hxl:=hp.xlen;simp only[VD,Qag,QKh,QKx,QKr] at hg hh
    grind
   have hw:=Qv7 hK t hbt.1 hbt.2;by_cases ht:((t.yh.zh+t.yi.zh:Nat):Int)<=p.zh
   ·rw[QLk (by simpa using ht)] at h
    cases h with
    | stop _ _ _ _ hg =>
      refine ⟨.ret,.inr rfl,.stop _ _ _ _ _ (by simp) ?_⟩
      rw[hks];refine ⟨rfl,?_⟩;simp[VB,UO,WH,Qcd];refine cK (by simpa[UO] using hw) ?_
      simp at ht;simp[ht];refine Q4 (by simpa[VB,UO] using hg) rfl ?_
      simp
    | next _ _ _ s1 _ _ hg hr =>
      obtain ⟨wy,h1,h2⟩:=Qba p hp hks Ls (fun x hx=>hB x (by simp[hx])) s1 b s' hr
      refine ⟨wy,h1,.next _ _ _ _ _ _ ?_ h2⟩;rw[hks];refine ⟨rfl,?_⟩;simp[VB,UO,WH,Qcd];refine cK (by simpa[UO] using hw) ?_
      simp at ht;simp[ht];refine Q4 (by simpa[VB,UO] using hg) rfl ?_
      simp
   rw[QLl (by simpa using ht)] at h
   obtain ⟨wy,h1,h2⟩:=Qba p hp hks Ls (fun x hx=>hB x (by simp[hx])) s b s' h
   refine ⟨wy,h1,.next _ _ _ _ _ _ ?_ h2⟩;rw[hks];refine ⟨rfl,?_⟩;simp[VB,UO,WH,Qcd];refine cK (by simpa[UO] using hw) ?_
   simp at ht;have ht':¬ ((t.yh.zh:Int)+t.yi.zh<=p.zh):=by omega
   simp[ht']
theorem QvF (p:Zh) (hp:OkU p) (hg:p.yg-p.yc<=100000):Qam prog K 296 [puV p] [] ((J4 p).map VB):=by
 intro s b s' hf;refine QL (fk func296 QFY (by kernel_rfl)) (by simp) hf.v rfl ?_
 simp;obtain ⟨wy,h1,h2⟩:=Qba hK p hp (ks:=[(2,.iv (.ptr (puC p))),(3,.loc 3 0)]) rfl (QcB p) (fun _ h=>h) s b s' hf
 refine Q6 (wy:=wy) (o':=[(0,.ext s'),(3,.box [.cb 0])]) rfl (by kernel_rfl) (QvE hK p hp hg) ?_ ?_
 ·simpa[ZC,Xz] using h2
 rcases h1 with rfl | rfl<;>simp
omit hK
theorem Qkv (p:Zh) (wh:Int) (w:List Int) (n:Nat):(Qdh p wh w n).length<=(p.yg-p.yc+1).toNat:=by
 have:=QKz (fun len=>wrU p wh w len==n) (Yp p)
 simpa[Qdh,Yp,Uj] using this
def VK (l:List Bun):IV:=.sl 8 (l.map UO)
include hK
theorem Qrh (p:Zh) (hp:OkU p) (hg:p.yg-p.yc<=100000) (hl:(J4 p).length<=1000000):Gh K 343 [.yr 8,.iv (.clo 296 [puV p] [])] [] [] (.iv (VK (J4 p))) []:=by
 refine Q0 [] [] [] [] (fk func343 QCW (by kernel_rfl)).p (by simp[QCW]) (by simp) ?_ ?_ ?_ ?_
 ·simp
 ·simp[clA]
 ·simp
 have hit:=QvF hK p hp hg;generalize J4 p=B at *;generalize hG:Qg0 QCW.res [] [] (AV.iv (VK B)) []=G;simp;refine Q6 (wy:=.fall) (o':=[(2,.box [.yq 3000 B.length]),(3000,.arr 330 8 (emb (B.map UO)) 0)]) rfl (by kernel_rfl) hit ?_ ?_
 ·have:=Un.all (P:=prog) (K:=K) (ps:=[7]) (asn:=QeF) (body:=QiI) (ks:=[2]) (ids:=[2,3000]) (eK:=[(2,.loc 2 0)]) (B.map VB)
   (fun i=>[(2,.box [.yq 3000 i]),(3000,.arr 330 8 (emb ((B.take i).map UO)) 0)]) fun i x hi=>by
   simp only[QJ4,QJ0] at hi;obtain ⟨y,hy,rfl⟩:=hi;obtain ⟨xd,hy⟩:=QJX.1 hy;refine ⟨rfl,?_⟩;rw[QJV xd,hy,QKf];simp[VB,UO,QeF,QiI];exact ⟨by omega,by simp[emb]⟩
  simpa[QJZ,QC] using this
 ·simp[QJZ]
  rw[<- hG];refine ⟨⟨_,rfl,?_⟩,by simp,by simp⟩
  have h0:(fun i=>if ([]:List Nat).contains i then none else Qc [(2,AO.box [AV.yq 3000 B.length]),(3000,AO.arr 330 8 (emb (B.map UO)) 0)] i)=Qc [(2,AO.box [AV.yq 3000 B.length]),(3000,AO.arr 330 8 (emb (B.map UO)) 0)]:=rfl
  rw[Qvf,h0];simp[look,VK,QJZ]
  trace_state
theorem Qwm (p:Zh) (hp:OkU p) (hg:p.yg-p.yc<=100000) (hl:(J4 p).length<=1000000):Gd K 295 [.clo 296 [puV p] []] (VK (J4 p)):=by
 refine Qb hK (fk func295 QFZ (by kernel_rfl)) (by simp) ?_
 simp;refine Qj (Qrh hK p hp hg hl) rfl ?_ ?_
 ·refine ⟨by simp,by simp[clA],by simp,by simp,by simp⟩
 simp[VK]
omit hK
theorem VF {α β:Type} (f:α->List β) (c:Nat):∀ l:List α,(∀ x∈l,(f x).length<=c)->(l.flatMap f).length<=l.length*c
 | [],_=>by simp
 | a::r,h=>by
   have h1:=h a (by simp)
   have h2:=VF f c r fun x hx=>h x (by simp[hx])
   rw[QK4,QKb,QKk,Nat.succ_mul];omega
theorem QaX {p:Zh} (hp:OkU p):(J4 p).length<=1000000:=by
 have hxl:=hp.xlen
 have h0:(QcB p).length<=(Xx p.zi).length*81:=by
  refine VF _ _ _ fun w _=>?_
  have h1:=Qaz p 1 w
  have h2:=VF (fun g=>(VD p 2 w).map fun h=>(⟨w,g,h⟩:Bun)) 9 (VD p 1 w) fun g _=>by
   have:=Qaz p 2 w
   grind
  omega
 have h1:=QKz (fun x:Bun=>decide (((x.yh.zh+x.yi.zh:Nat):Int)<=p.zh)) (QcB p)
 have h2:=QcJ p.zi hp.zi;have h3:10 ^ p.zi.length<=10 ^ 4:=QLi (by omega) hp.rlen
 unfold J4;omega
def uT (p:Zh) (is:Bool):List Bun:=if OkU p/\is=true then J4 p else []
theorem Qvz {p:Zh} {x:Bun} (h:x∈J4 p):(∀ n∈x.yh.lens,n∈Yp p)/\(∀ n∈x.yi.lens,n∈Yp p)/\x.yh.lens.length<=100000/\x.yi.lens.length<=100000\/¬ OkU p:=by
 by_cases hp:OkU p
 ·refine .inl ?_
  obtain ⟨_,hg,hh,_⟩:=Wd.1 h;have h1:=(Yh.1 hg).1;have h2:=(Yh.1 hh).1;have h3:=Qkv p 1 x.zi x.yh.zh;have h4:=Qkv p 2 x.zi x.yi.zh;have hgu:=hp.guess;have hmo:=hp.most;simp only[inR] at hgu;rw[h1,h2];exact ⟨fun n hn=>(X8.1 hn).1,fun n hn=>(X8.1 hn).1,by omega,by omega⟩
 grind
theorem QaB {l:List Int} (h:0<l.length):l[0]=Xd l:=by
 cases l with
 | nil=>cases h
 | cons a r=>rfl
theorem QaA {l:List Int} (h:l.length-1<l.length):l[l.length-1]=Z3 l:=by
 unfold Z3
 grind
structure QEW (x:Bun):Prop where
 bpos:0<x.yh.lens.length
 apos:0<x.yi.lens.length
 blen:x.yh.lens.length<=100000
 alen:x.yi.lens.length<=100000
 bh:0<=Xd x.yh.lens/\Xd x.yh.lens<=99999
 bl:0<=Z3 x.yh.lens/\Z3 x.yh.lens<=99999
 ah:0<=Xd x.yi.lens/\Xd x.yi.lens<=99999
 al:0<=Z3 x.yi.lens/\Z3 x.yi.lens<=99999
theorem QDJ {p:Zh} (hp:OkU p) {x:Bun} (h:x∈J4 p):QEW x:=by
 obtain ⟨h1,h2,h3,h4⟩:=ZR h;obtain ⟨k1,k2,k3,k4⟩:=(Qvz h).resolve_right (fun e=>e hp)
 have e1:=Z8 h1 h3;have e2:=Z8 h2 h4;have hgu:=hp.guess;have hmo:=hp.most;simp only[inR] at hgu
 have hin:∀ n∈Yp p,0<=n/\n<=99999:=fun n hn=>by
  have:=Jx.1 hn;omega
 exact ⟨QK1.2 h3,QK1.2 h4,k3,k4,hin _ (k1 _ e1.1),hin _ (k1 _ e1.2.1),hin _ (k2 _ e2.1),hin _ (k2 _ e2.2.1)⟩
include hK
theorem Qen (p:Zh) (is:Bool) (hl:p.zi.length<=1000) (hx:p.zj.length<=1000) :
  Gd K 223 [puV p,.bool is] (.xh [puV p,VK (uT p is),.int .i64 (uE p is)]):=by
 refine Qb hK (fk func223 QGA (by kernel_rfl)) (by simp) ?_
 simp;refine cK (by simpa using Qt3 hK p hl hx) ?_
 unfold uE uT;by_cases hp:OkU p
 ·have hgu:=hp.guess
  have hmo:=hp.most;simp only[inR] at hgu;cases is
  ·simp[hp,VK]
  have hln:=QaX hp;simp[hp];refine cK (by simpa using Qwm hK p hp (by omega) hln) ?_
  by_cases hn:UN p=[]
  ·have hb:=Qar.2 hn
   simp[hn,hb,VK]
  have hb:¬ J4 p=[]:=fun e=>hn (Qar.1 e)
  simp[hn,hb,VK]
  try omega
 ·simp[hp,VK]
theorem Qn0 (part b a:Int) (hpt:0<=part/\part<=1000) (hb:0<=b/\b<=99999) (ha:0<=a/\a<=99999):Gd K 297 [.int .i64 b,.int .i64 a,.ptr [.int .i64 part]] (.bool (XA b a part)):=by
 refine Qb hK (fk func297 QFX (by kernel_rfl)) (by simp) ?_
 have h1:=Qc5 hpt.1 hpt.2 (show -99999<=b by omega) hb.2
 simp[XA];omega
theorem Qn5 (T:List Bun) (h:∀ x∈T,QEW x) (hn:T.length<=1000000):Gd K 224 [VK T] (.agg [.int .i64 (span (T.map loB)).1,.int .i64 (span (T.map hiB)).2]):=by
 refine Qb hK (fk func224 QGz (by kernel_rfl)) (by simp) ?_
 simp[VK];intros
 refine Qi (fun i=>[(2,AV.loc 2 0),(3,AV.loc 3 0),(9,AV.iv (.sl 8 (T.map UO))),(10,AV.iv (.int .i64 T.length)),(11,AV.iv (.int .i64 (i:Nat)))])
  (fun i=>[(2,AO.box [.iv (.int .i64 0),.iv (.int .i64 0)]),(3,AO.box [.iv (.int .i64 (span ((T.take i).map loB)).1),.iv (.int .i64 (span ((T.take i).map hiB)).2)])]) T.length (fun _=>True) trivial ?_ ?_
 ·intro _
  rw[Qa Qjb.eq_1,QJ5];simp
 ·intro i hi _ ih
  have hb:=h _ (QJ1 hi);rw[UW loB T i hi,UW hiB T i hi] at ih;rw[Qa Qjb.eq_1];generalize hX:T[i]=X at *;obtain ⟨b1,b2,b3,b4,b5,b6,b7,b8⟩:=hb;have g1:=QaB b1;have g2:=QaB b2;have g3:=QaA (show X.yh.lens.length-1<X.yh.lens.length by omega)
  have g4:=QaA (show X.yi.lens.length-1<X.yi.lens.length by omega)
  have xf:loB X=Xd X.yi.lens-Z3 X.yh.lens:=rfl;have hhi:hiB X=Z3 X.yi.lens-Xd X.yh.lens:=rfl;have q1:X.yh.lens.length-1<X.yh.lens.length:=by omega
  have q2:X.yi.lens.length-1<X.yi.lens.length:=by omega
  have q3:((X.yh.lens.length:Int)-1).toNat=X.yh.lens.length-1:=by omega
  have q4:((X.yi.lens.length:Int)-1).toNat=X.yi.lens.length-1:=by omega
  by_cases h0:i=0
  ·subst h0
   simp[xf,hhi] at ih;simp[hi,hX,UO,b1,b2,g1,g2,g3,g4,q1,q2,q3,q4]
   grind
  ·have h0':¬ (i:Int)=0:=by omega
   rw[if_neg h0,if_neg h0] at ih;generalize span ((T.take i).map loB)=S1 at *;generalize span ((T.take i).map hiB)=S2 at *;simp[xf,hhi,Qc6,Qc7] at ih;simp[hi,hX,UO,b1,b2,g1,g2,g3,g4,q1,q2,q3,q4,h0,h0',Qc6,Qc7]
   grind
theorem Qn4 (T:List Bun) (part:Int) (h:∀ x∈T,QEW x) (hpt:0<=part/\part<=1000) (hn:T.length<=1000000) :
  Gd K 225 [VK T,.int .i64 part] (.int .i64 (if T.all fun x=>XA (Xd x.yh.lens) (Z3 x.yi.lens) part then 1 else if T.any fun x=>XA (Z3 x.yh.lens) (Xd x.yi.lens) part then 3 else 2)):=by
 refine Qb hK (fk func225 QGy (by kernel_rfl)) (by simp) ?_
 generalize hR:(if T.all fun x=>XA (Xd x.yh.lens) (Z3 x.yi.lens) part then (1:Int) else if T.any fun x=>XA (Z3 x.yh.lens) (Xd x.yi.lens) part then 3 else 2)=R
 simp[VK];intros
 refine Qi (fun i=>[(3,AV.iv (.ptr [.int .i64 part])),(5,AV.iv (.bool ((T.take i).any fun x=>XA (Z3 x.yh.lens) (Xd x.yi.lens) part))),(6,AV.iv (.bool (!(T.take i).all fun x=>XA (Xd x.yh.lens) (Z3 x.yi.lens) part))),(12,AV.iv (.sl 8 (T.map UO))),(13,AV.iv (.int .i64 T.length)),(14,AV.iv (.int .i64 (i:Nat)))])
  (fun i=>[]) T.length (fun _=>True) trivial ?_ ?_
 ·intro _
  rw[Qa Qja.eq_1,QJ5];cases hA:(T.all fun x=>XA (Xd x.yh.lens) (Z3 x.yi.lens) part)<;>cases hE:(T.any fun x=>XA (Z3 x.yh.lens) (Xd x.yi.lens) part)<;>simp[hA,hE] at hR<;>simp[hR]
 ·intro i hi _ ih
  have hb:=h _ (QJ1 hi);rw[QJV hi,List.any_append,List.all_append] at ih;rw[Qa Qja.eq_1];generalize hX:T[i]=X at *;obtain ⟨b1,b2,b3,b4,b5,b6,b7,b8⟩:=hb;have g1:=QaB b1;have g2:=QaB b2;have g3:=QaA (show X.yh.lens.length-1<X.yh.lens.length by omega)
  have g4:=QaA (show X.yi.lens.length-1<X.yi.lens.length by omega)
  have q1:X.yh.lens.length-1<X.yh.lens.length:=by omega
  have q2:X.yi.lens.length-1<X.yi.lens.length:=by omega
  have q3:((X.yh.lens.length:Int)-1).toNat=X.yh.lens.length-1:=by omega
  have q4:((X.yi.lens.length:Int)-1).toNat=X.yi.lens.length-1:=by omega
  have w1:=Qn0 hK part _ _ hpt b6 b7;have w2:=Qn0 hK part _ _ hpt b5 b8;generalize ((T.take i).any fun x=>XA (Z3 x.yh.lens) (Xd x.yi.lens) part)=e1 at *
  generalize ((T.take i).all fun x=>XA (Xd x.yh.lens) (Z3 x.yi.lens) part)=e2 at *
  have k1:(([X]:List Bun).any fun x=>XA (Z3 x.yh.lens) (Xd x.yi.lens) part)=XA (Z3 X.yh.lens) (Xd X.yi.lens) part:=by simp
  have k2:(([X]:List Bun).all fun x=>XA (Xd x.yh.lens) (Z3 x.yi.lens) part)=XA (Xd X.yh.lens) (Z3 X.yi.lens) part:=by simp
  rw[k1,k2] at ih;generalize XA (Z3 X.yh.lens) (Xd X.yi.lens) part=v1 at *;generalize XA (Xd X.yh.lens) (Z3 X.yi.lens) part=v2 at *;have hcal:callee prog 297=true:=by kernel_rfl
  have o1:(-9223372036854775808<=(X.yh.lens.length:Int)-1/\(X.yh.lens.length:Int)-1<=9223372036854775807)/\1<=(X.yh.lens.length:Int):=by omega
  have o2:(-9223372036854775808<=(X.yi.lens.length:Int)-1/\(X.yi.lens.length:Int)-1<=9223372036854775807)/\1<=(X.yi.lens.length:Int):=by omega
  cases e1<;>cases e2
  ·simp at ih
   simp[hi,hX,UO,b1,b2,g1,g2,g3,g4,q1,q2,q3,q4];intro _;refine ⟨o1.1,o1.2,hcal,cK (by simpa using w1) ?_⟩
   simp
   grind
  ·simp at ih
   simp[hi,hX,UO,b1,b2,g1,g2,g3,g4,q1,q2,q3,q4];intro _;refine ⟨o1.1,o1.2,hcal,cK (by simpa using w1) ?_⟩
   simp[b1,b2,g1,g2,g3,g4,q1,q2,q3,q4];intro _;refine ⟨o2.1,o2.2,hcal,cK (by simpa using w2) ?_⟩
   simp
   grind
  ·simp at ih
   simp[hi,hX,UO,b1,b2,g1,g2,g3,g4,q1,q2,q3,q4]
   grind
  ·simp at ih
   simp[hi,hX,UO,b1,b2,g1,g2,g3,g4,q1,q2,q3,q4];intro _;refine ⟨o2.1,o2.2,hcal,cK (by simpa using w2) ?_⟩
   simp
   grind
theorem Qxe (p:Zh) (hl:p.zi.length<=1000) (hx:p.zj.length<=1000):Gd K 131 [puV p] (.xh [.agg [.int .i64 (span ((uL p true).map qi)).1,.int .i64 (span ((uL p true).map qi)).2],.int .i64 (uE p true)]):=by
 refine Qb hK (fk func131 QHm (by kernel_rfl)) (by simp) ?_
 simp;refine cK (by simpa using Qen hK p true hl hx) ?_
 simp;by_cases hp:OkU p
 ·have hT:uT p true=J4 p:=by simp[uT,hp]
  have hL:uL p true=UN p:=by simp[uL,hp]
  have hs:=Qa2 p;rw[hT,hL,<- hs];refine cK (Qn5 hK (J4 p) (fun x hx=>QDJ hp hx) (QaX hp)) ?_
  simp[QdP]
 ·have hT:uT p true=[]:=by simp[uT,hp]
  have hL:uL p true=[]:=by simp[uL,hp]
  rw[hT,hL];refine cK (Qn5 hK [] (by simp) (by simp)) ?_
  simp
theorem Qxc (p:Zh) (part:Int) (hl:p.zi.length<=1000) (hx:p.zj.length<=1000):Gd K 135 [puV p,.int .i64 part] (.xh [.int .i64 (qJ p part),.int .i64 (uE p (Qd5 part))]):=by
 refine Qb hK (fk func135 QHk (by kernel_rfl)) (by simp) ?_
 simp;refine cK (X3 hK _ _ _) ?_;have hpd:decide (inR part 0 1000)=Qd5 part:=rfl;rw[hpd];simp;refine cK (by simpa using Qen hK p (Qd5 part) hl hx) ?_
 unfold qJ;by_cases h0:uE p (Qd5 part)=0
 ·obtain ⟨hp,hb,hL,hne⟩:=QdK h0
  have hpt:=of_decide_eq_true hb;simp only[inR] at hpt;have hT:uT p (Qd5 part)=J4 p:=by simp[uT,hp,hb]
  have hg:=Qn4 hK (J4 p) part (fun x hx=>QDJ hp hx) hpt (QaX hp)
  have hh:=Qgi p part hpt.1;unfold Qde at hh;rw[<- hh] at hg;rw[hT];simp[h0];refine cK (by simpa using hg) ?_
  simp
 simp[h0]
theorem Qxd (p:Zh) (hl:p.zi.length<=1000) (hx:p.zj.length<=1000):Gd K 133 [puV p] (.xh [.int .i64 (Qd3 p).1,.int .i64 (Qd3 p).2]):=by
 refine Qb hK (fk func133 QHl (by kernel_rfl)) (by simp) ?_
 simp;refine cK (by simpa using Qen hK p true hl hx) ?_
 unfold Qd3;by_cases h0:uE p true=0;rotate_left
 ·simp[h0]
 ·obtain ⟨hp,hb,hL,hne⟩:=QdK h0
  have hT:uT p true=J4 p:=by simp[uT,hp]
  rw[hT];simp[h0];refine Qi (fun i=>[(5,AV.iv (VK (J4 p))),(17,AV.iv (.int .i64 (i:Nat)))]) (fun _=>[]) 1001 (fun i=>∀ j,j<i->¬ Qdf (UN p) (j:Nat)=1) (by simp) ?_ ?_
  ·intro h
   have hn:Qmc (UN p)=none:=by
    unfold Qmc
    grind
   rw[Qa Qjq.eq_1];simp[hn]
  ·intro i hi h ih
   have hg:=Qn4 hK (J4 p) (i:Nat) (fun x hx=>QDJ hp hx) (by omega) (QaX hp)
   have hh0:=Qgi p (i:Nat) (by omega)
   unfold Qde at hh0;rw[<- hh0] at hg;rw[Qa Qjq.eq_1];have hi':(i:Int)<1001:=by omega
   simp[hi,hi'];refine cK (by simpa using hg) ?_
   by_cases hh:Qdf (UN p) (i:Nat)=1
   ·have hs:Qmc (UN p)=some i:=by
     unfold Qmc;rw[List.find?_eq_some_iff_getElem];exact ⟨by simp[hh],i,by simpa using hi,by simp,fun j hj=>by simpa using h j hj⟩
    simp[hh,hs]
   ·have ih:=ih (fun j hj=>by
     grind)
    simp[hh] at ih |-
    grind
theorem Qwl (l:List Int) (hw:∀ x∈l,-1000000<=x/\x<=1000000) (hl:l.length<=1000000):Gd K 298 [.map (Qaf (XT l))] (QW (Jd l)):=by
 refine Qb hK (fk func298 QFW (by kernel_rfl)) (by simp) ?_
 simp;refine cK (by simpa using Qii hK (Qaf (XT l))) ?_
 simp;refine cK (qj l hw hl) ?_;simp
theorem QwJ (T:List Bun) (rod:Nat) (hr:rod<4) (hw:∀ x∈T,0<=x.zi.getD rod 0/\x.zi.getD rod 0<=9999) (hn:T.length<=1000000):Gd K 226 [VK T,.int .i64 (rod:Nat)] (QW (Jd (T.map fun x=>x.zi.getD rod 0))):=by
 refine Qb hK (fk func226 QGx (by kernel_rfl)) (by simp) ?_
 have h249:=Qwl hK (T.map fun x=>x.zi.getD rod 0) (fun x hx=>by
  grind) (by simpa using hn)
 simp[VK];intros
 refine Qi (fun i=>[(1,AV.iv (.int .i64 (rod:Nat))),(5,AV.yo 8),(9,AV.iv (.sl 8 (T.map UO))),(10,AV.iv (.int .i64 T.length)),(11,AV.iv (.int .i64 (i:Nat)))])
  (fun i=>[(8,AO.xj (Qaf (XT ((T.take i).map fun x=>x.zi.getD rod 0))))]) T.length (fun _=>True) trivial ?_ ?_
 ·intro _
  rw[Qa Qi9.eq_1,QJ5];simp;refine cK (by simpa using h249) ?_
  simp
 ·intro i hi _ ih
  have hb:=hw _ (QJ1 hi);have hdp:=QkI T[i].zi rod hr;rw[QJV hi,QKf,QLz,XL] at ih;have hle:=Qeu (T[i].zi.getD rod 0) ((T.take i).map fun x=>x.zi.getD rod 0)
  have hkk:=YC (XT ((T.take i).map fun x=>x.zi.getD rod 0))
  have hf:=JB (T[i].zi.getD rod 0) (XT ((T.take i).map fun x=>x.zi.getD rod 0))
  have hi2:=Ww (T[i].zi.getD rod 0) (XT ((T.take i).map fun x=>x.zi.getD rod 0))
  have hlen:((T.take i).map fun x=>x.zi.getD rod 0).length<=1000000:=by simp;omega
  rw[Qa Qi9.eq_1];generalize XT ((T.take i).map fun x=>x.zi.getD rod 0)=kv at *
  generalize hX:T[i]=X at *;simp only[List.getD_eq_getElem?_getD] at hf hi2 hle ih hb;clear hdp;rw[QJ9,QKV] at hle;rcases (show rod=0\/rod=1\/rod=2\/rod=3 by omega) with rfl | rfl | rfl | rfl
  all_goals
   simp at ih;simp[hi,hX,UO,hkk,hf,hi2]
   repeat' first | omega | exact ih | intro _ | apply And.intro
theorem Qxb (p:Zh) (rod:Int) (hl:p.zi.length<=1000) (hx:p.zj.length<=1000):Gd K 137 [puV p,.int .i64 rod] (.xh [QW (Qlt p rod),.int .i64 (uE p (QtQ p rod))]):=by
 refine Qb hK (fk func137 QHj (by kernel_rfl)) (by simp) ?_
 simp;intro _;refine ⟨by omega,cK (X3 hK _ _ _) ?_⟩
 have hpd:decide (inR rod 0 ((p.zi.length:Int)-1))=QtQ p rod:=rfl;rw[hpd];simp;refine cK (by simpa using Qen hK p (QtQ p rod) hl hx) ?_
 unfold Qlt;by_cases h0:uE p (QtQ p rod)=0;rotate_left
 ·simp[h0]
 obtain ⟨hp,hb,hL,hne⟩:=QdK h0;have hpt:=of_decide_eq_true hb;simp only[inR] at hpt;have xd:rod.toNat<p.zi.length:=by omega
 have hT:uT p (QtQ p rod)=J4 p:=by simp[uT,hp,hb]
 have hro:((rod.toNat:Nat):Int)=rod:=by omega
 have hgd:p.zi.getD rod.toNat ⟨0,0,0⟩=p.zi[rod.toNat]:=by simp[xd]
 have hbd:∀ w∈Xx p.zi,0<=w.getD rod.toNat 0/\w.getD rod.toNat 0<=9999:=fun w hw=>by
  obtain ⟨h1,h2⟩:=QaQ hp hw;have hl2:rod.toNat<w.length:=by omega
  have:w.getD rod.toNat 0=w[rod.toNat]:=by simp[hl2]
  rw[this];exact h2 _ (QJ1 hl2)
 have hg:=QwJ hK (J4 p) rod.toNat (by have:=hp.rlen;omega) (fun x hx=>hbd _ (Wd.1 hx).1) (QaX hp)
 have he:Jc (Qvc (UN p) rod.toNat) (p.zi[rod.toNat].long-p.zi[rod.toNat].yb) p.zi[rod.toNat].long=Jd ((J4 p).map fun x=>x.zi.getD rod.toNat 0):=by
  refine QhC (qy _ _ _) (VS _) fun x=>?_
  have hm:=Qnj (p:=p) (rod:=rod.toNat) (n:=x);unfold Qvb at hm;rw[hm,Ur];simp only[Qvc,QKh];constructor
  ·grind
  rintro ⟨t,ht,rfl⟩
  have hw:=(Qea.1 ht).2.2.1;have:=QdG _ _ hw rod.toNat xd
  grind
 rw[hro] at hg;rw[hT,if_pos h0,hgd,he];simp[h0];refine cK (by simpa using hg) ?_
 simp
omit hK
def Qex (c:Qr) (ss:List Xh) (i:Nat):Nat:=((List.range i).map fun n=>Zf c.za ss (ZD c.za n)).foldl min ss.length
theorem Qdo (c:Qr) (ss:List Xh) (i:Nat):Qex c ss (i+1)=min (Qex c ss i) (Zf c.za ss (ZD c.za i)):=by
 unfold Qex;rw[QKn,QKf,QLc];rfl
def QBs (c:Qr) (ss:List Xh):Nat:=Qex c ss (2 ^ ZN c.za)
theorem QkE (c:Qr) (ss:List Xh):∀ i,Qex c ss i<=ss.length
 | 0=>QJ2 _
 | i+1=>by
   rw[Qdo];exact QKG (Nat.min_le_left _ _) (QkE c ss i)
def Qdn (c:Qr):Option Nat:=(List.range c.zg.length).find? fun i=>decide (0<QBs c (c.zg.take (i+1)))
noncomputable def U4 (c:Qr):Int × Int:=if OkC c then (match Qdn c with | some n=>((n:Int),0) | none=>(0,3)) else (0,20)
include hK
theorem QwT (c:Qr) (hc:OkC c) (ss:List Xh) (hs:∀ s∈ss,ZG s c.za) (hl:ss.length<=1000):Gd K 199 [.agg (VL c),Qw ss] (.int .i64 (QBs c ss:Nat)):=by
 refine Qb hK (fk func199 QGU (by kernel_rfl)) (by simp) ?_
 have hit:=QnG hK c (pmC c) (by have:=hc.len;have:=WU c.za;omega) (QjN hK c hc)
 have hcl:=hc.len;unfold QBs;generalize 2 ^ ZN c.za=N at *;simp;intros;refine Q6 (wy:=.fall) (o':=[(5,.box [.iv (.int .i64 (Qex c ss N:Nat))])]) rfl (by kernel_rfl) hit ?_ ?_
 ·have:=Un.all (P:=prog) (K:=K) (ps:=[11]) (asn:=QeM) (body:=Qjj) (ks:=[3,5]) (ids:=[5]) (eK:=[(3,.iv (.ptr [Qw ss])),(5,.loc 5 0)]) ((List.range N).map (XD c.za (pmC c)))
   (fun i=>[(5,.box [.iv (.int .i64 (Qex c ss i:Nat))])]) fun i x hi=>by
   simp only[QJ4,QJ0] at hi;obtain ⟨y,hy,rfl⟩:=hi;obtain ⟨xd,hy⟩:=QJX.1 hy;rw[List.getElem_range] at hy;subst hy;have hg:=Qn2 hK c.za (ZD c.za i) (pmC c i) ss hc.za (by omega) hs hl
   have hle:=QkE c ss i;have hle2:=QcH c.za ss (ZD c.za i);refine ⟨rfl,?_⟩;rw[Qdo];generalize Qex c ss i=m at *;simp[XD,QeM,Qjj];refine Qe (by simpa using hg) (.inl rfl) ?_
   simp
   try omega
  simpa[Qex] using this
 ·simp
theorem Qxo (c:Qr) (hl:c.za.length<=1000) (hs:c.zg.length<=1000):Gd K 107 [chV c] (.xh [.int .i64 (U4 c).1,.int .i64 (U4 c).2]):=by
 refine Qb hK (fk func107 QHy (by kernel_rfl)) (by simp) ?_
 simp;refine Qe (by simpa using QbV hK c hl hs) (.inl rfl) ?_
 unfold U4;by_cases hc:OkC c;rotate_left
 ·simp[hc]
 simp[hc];refine Qe (by simpa using Qim hK c hl) (.inl rfl) ?_
 simp;intros
 refine Qi (fun i=>[(1,AV.iv (.ptr [QB c.za,Qw c.zg,.int .i64 c.zh])),(5,AV.loc 5 0),(16,AV.iv (.int .i64 c.zg.length)),(17,AV.iv (.int .i64 (i:Nat)))])
  (fun _=>[(5,AO.box ((VL c).map AV.iv))]) c.zg.length (fun i=>∀ j,j<i->¬ 0<QBs c (c.zg.take (j+1))) (by simp) ?_ ?_
 ·intro h
  have hn:Qdn c=none:=by
   unfold Qdn;simp_all
  rw[Qa Qjv.eq_1];simp[hn]
 intro i hi h ih;have hg:=QwT hK c hc (c.zg.take (i+1)) (fun s hs=>hc.zg s (QKF hs)) (by simp;omega)
 rw[Qa Qjv.eq_1];simp[hi];refine ⟨by omega,by omega,fun _=>?_⟩
 refine Qe (by simpa[VL,List.map_take] using hg) (.inl rfl) ?_
 by_cases hh:0<QBs c (c.zg.take (i+1))
 ·have hs:Qdn c=some i:=by
   unfold Qdn;rw[List.find?_eq_some_iff_getElem];exact ⟨by simpa using hh,i,by simpa using hi,by simp,fun j hj=>by simpa using h j hj⟩
  simp[hh,hs]
 have ih:=ih (fun j hj=>by
  rcases QLu.1 hj with h5 | h5
  ·exact h j h5
  rw[h5];exact hh)
 simp[hh] at ih |-;exact ⟨by omega,ih⟩
omit hK
structure Qan (a p:Qf):Prop where
 sub:(QK a).Sublist (QK p)
 fail:∀ t,Xf a t=Xf p t
 xb:∀ l t,Zs a l t=Zs p l t
 good:∀ t,Ub a t=Ub p t
 ya:a.ya=p.ya
 link:∀ l,qa a l=qa p l
def QHV (p:Qf) (s:Xh):Qf:=⟨⟨p.zc.za,p.zc.zg++[s],p.zc.zh⟩,p.zb,p.zf,p.zo,p.ya⟩
def QHW (p:Qf) (b:QR):Qf:=⟨p.zc,⟨p.zb.zd,p.zb.zr,p.zb.zu,p.zb.zw,p.zb.zk++[b],p.zb.zh⟩,p.zf,p.zo,p.ya⟩
theorem QdN {α:Type} (f:α->Bool) {l l':List α} (h:∀ t∈l,t∈l') (hne:l≠[]) (h3:XV (l'.countP f) l'.length≠3):XV (l.countP f) l.length=XV (l'.countP f) l'.length:=by
 have hl:l.length≠0:=fun e=>hne (QJ3 e)
 obtain ⟨t,ht⟩:=QKS _ hne;have hl':l'.length≠0:=fun e=>by grind
 by_cases h1:XV (l'.countP f) l'.length=1
 ·rw[h1,QcM,List.countP_eq_length]
  rw[QcM,List.countP_eq_length] at h1
  grind
 ·have h2:XV (l'.countP f) l'.length=2:=by
   unfold XV at *;omega
  rw[h2,QaZ hl,QLN];rw[QaZ hl',QLN] at h2
  grind
theorem Qan.kE {a p:Qf} (h:Qan a p) (hp:OkP p) (hk:kE a true=0):kE p true=0:=by
 have hne:=(Jz hk).2.2.2;obtain ⟨t,ht⟩:=QKS _ hne;exact QDx hp (h.sub.subset ht)
theorem Qan.len {a p:Qf} (h:Qan a p) (ha:OkP a) (hp:OkP p):(kL a true).length<=(kL p true).length:=by
 rw[Uh ha,Uh hp];exact h.sub.length_le
theorem Qan.rFail {a p:Qf} (h:Qan a p) (hp:OkP p) (hk:Go.Pf.kE a true=0):(rFail p).1<=(rFail a).1/\(rFail a).2<=(rFail p).2:=by
 have hne:=(Jz hk).2.2.2;unfold Go.Pf.rFail;rw[Uh (Jz hk).1,Uh hp];have e:(fun t=>(Xf a t:Int))=fun t=>(Xf p t:Int):=funext fun t=>by rw[h.fail t]
 rw[e];have h1:=QdS ((QK a).map fun t=>(Xf p t:Int)) (fun e=>hne (List.map_eq_nil_iff.1 e))
 obtain ⟨t1,ht1,e1⟩:=QKh.1 h1.1;obtain ⟨t2,ht2,e2⟩:=QKh.1 h1.2;rw[<- e1,<- e2];exact ⟨(VR (fun t=>(Xf p t:Int)) _ t1 (h.sub.subset ht1)).1,(VR (fun t=>(Xf p t:Int)) _ t2 (h.sub.subset ht2)).2⟩
theorem Qan.rCond {a p:Qf} (h:Qan a p) (hp:OkP p) (hk:Go.Pf.kE a true=0) (h3:rCond p≠3):rCond a=rCond p:=by
 have hkp:=h.kE hp hk;unfold Go.Pf.rCond at *;rw[if_pos hkp] at h3 |-;rw[if_pos hk,Uh (Jz hk).1];rw[Uh hp] at h3 |-;have e:(fun t=>decide (a.ya<=(Xf a t:Int)))=fun t=>decide (p.ya<=(Xf p t:Int)):=funext fun t=>by rw[h.fail t,h.ya]
 rw[e];exact QdN _ (fun t ht=>h.sub.subset ht) (Jz hk).2.2.2 h3
theorem Qan.rGood {a p:Qf} (h:Qan a p) (hp:OkP p) (hk:Go.Pf.kE a true=0) (h3:rGood p≠3):rGood a=rGood p:=by
 have hkp:=h.kE hp hk;unfold Go.Pf.rGood at *;rw[if_pos hkp] at h3 |-;rw[if_pos hk,Uh (Jz hk).1];rw[Uh hp] at h3 |-;have e:Ub a=Ub p:=funext fun t=>h.good t
 rw[e];exact QdN _ (fun t ht=>h.sub.subset ht) (Jz hk).2.2.2 h3
theorem Qan.rProved {a p:Qf} (h:Qan a p) (hp:OkP p) (hk:Go.Pf.kE a true=0) {link:Int} (hl:qa p link=true) (h3:rProved p link≠3):rProved a link=rProved p link:=by
 have hkp:=h.kE hp hk;unfold Go.Pf.rProved at *;rw[h.link link];rw[hl] at h3 |-;rw[if_pos hkp] at h3 |-;rw[if_pos hk,Uh (Jz hk).1];rw[Uh hp] at h3 |-;have e:Zs a link=Zs p link:=funext fun t=>h.xb link t
 rw[e];exact QdN _ (fun t ht=>h.sub.subset ht) (Jz hk).2.2.2 h3
include hK
omit hK
def QIs (D:List Qx) (n:Nat):List Int:=(List.range D.length).map (ZD D n)
def Uf (l:List Nat) (link:Int):Int:=fi (fun k:Nat=>decide ((k:Int)=link)) l
def QcK (c:Qr) (link:Int) (n:Nat):Int:=Uf (cab c.za (ZD c.za n) c.za.length) link
def UA (c:Qr) (link:Int):Bool:=decide (inR link 0 ((Qmg c.za:Int)-1))
include hK
theorem Qws (left all link:Int) (h:0<=all/\all<=1000000):Gd K 279 [.int .i64 left,.int .i64 all,.ptr [.int .i64 link]] (.bool (decide (inR link 0 (all-1)))):=by
 refine Qb hK (fk func279 QGa (by kernel_rfl)) (by simp) ?_
 simp
 repeat' first | omega | intro _ | apply And.intro
 refine cK (Yr hK _ _ _) ?_;simp
theorem QwW (link:Int):Gd K 195 [.int .i64 link] (.clo 279 [] [.ptr [.int .i64 link]]):=by
 refine Qb hK (fk func195 QGY (by kernel_rfl)) (by simp) ?_
 simp
theorem QwU (l:List Nat) (link:Int) (hl:l.length<=1000000):Gd K 197 [Xc l,.int .i64 link] (.int .i64 (Uf l link)):=by
 refine Qb hK (fk func197 QGW (by kernel_rfl)) (by simp) ?_
 simp;intro _;refine Qi (fun i=>[(0,AV.iv (Xc l)),(1,AV.iv (.int .i64 link)),(7,AV.iv (.int .i64 l.length)),(8,AV.iv (.int .i64 (i:Nat)))]) (fun _=>[]) l.length (fun i=>∀ k,(h:k<l.length)->k<i->¬ ((l[k]:Nat):Int)=link) (by intro k _ h;omega) ?_ ?_
 ·intro h
  rw[Qa Qjl.eq_1]
  have:Uf l link = -1:=by
   unfold Uf fi
   grind
  simp[this]
 intro i hi h ih;rw[Qa Qjl.eq_1];by_cases he:((l[i]:Nat):Int)=link
 ·have:Uf l link=i:=by
   unfold Uf fi
   grind
  simp[hi,he,this]
 have he':¬ link=((l[i]:Nat):Int):=fun e=>he e.symm
 have hn:∀ k,(h:k<l.length)->k<i+1->¬ ((l[k]:Nat):Int)=link:=fun k hk hki=>by
  grind
 have ih:=ih hn;simp[hi,he'] at ih |-
 grind
theorem QwV (D:List Qx) (e:Nat->Int) (pm:IV) (link:Int) (hl:D.length<=1000) (hc:(cab D e D.length).length<=1000):Gd K 196 [.agg (J5 D e pm),.ptr [.int .i64 link]] (.int .i64 (Uf (cab D e D.length) link)):=by
 refine Qb hK (fk func196 QGX (by kernel_rfl)) (by simp) ?_
 have g120:=Qn8 hK D e pm hl;have g119:=QwU hK (cab D e D.length) link (by omega)
 simp;refine cK (by simpa using g120) ?_
 simp;refine cK (by simpa using g119) ?_
 simp
theorem Qxp (c:Qr) (link:Int) (hl:c.za.length<=1000) (hs:c.zg.length<=1000) :
  Gd K 104 [chV c,.int .i64 link] (.xh [QW (if YW c (UA c link)=0 then Jd ((QS c).map (QcK c link)) else []),.int .i64 (YW c (UA c link))]):=by
 refine Qb hK (fk func104 QHA (by kernel_rfl)) (by simp) ?_
 have hcl:∀ n,OkC c->(cab c.za (ZD c.za n) c.za.length).length<=12:=fun n h=>by
  have h1:=Xo (ZD c.za n) h.za c.za.length (QJ2 _) (QJ2 _);have h2:=OkD.cnt h.za c.za.length (QJ2 _) (QJ2 _);have h3:=h.len;omega
 have hal:Qmg c.za<=1000:=QKG (QKz _ _) hl
 have hg:=Qn9 hK c hl hs 279 [.ptr [.int .i64 link]] (UA c link) (fun _=>Qws hK _ _ link (by omega)) (by kernel_rfl)
  196 [.ptr [.int .i64 link]] (QcK c link) (fun h _ n _=>QwV hK c.za (ZD c.za n) (pmC c n) link hl (by grind)) (by kernel_rfl) (fun h _ n _=>by
   have h1:=hcl n h;unfold QcK Uf fi
   grind)
 simp;refine cK (by simpa using QwW hK link) ?_
 simp;refine cK (by simpa using hg) ?_
 simp
omit hK
def QIq (c:Qr) (ss:List Xh) (i:Nat):Nat:=(((Zu c.za).take i).map fun e=>Zf c.za ss (QN e)).foldl min ss.length
def QJP (c:Qr) (ss:List Xh):Nat:=((Zu c.za).map fun e=>Zf c.za ss (QN e)).foldl min ss.length
def plB (c:Qr) (n:Int):Bool:=decide (inR n 0 (XR c.za-1))
noncomputable def Qqx (c:Qr) (n:Int):List Int:=if YW c (plB c n)=0 then Jd ((QS c).map (Qqj c n)) else []
noncomputable def Qmp (c:Qr) (n:Int):List Int:=if YW c (UA c n)=0 then Jd ((QS c).map (QcK c n)) else []
noncomputable def Vt (p:Qf) (n:Int):Int × Int:=if kE p (Xb p n)=0 then Jw p.zb (tr p n.toNat).zm (tr p n.toNat).zn else (0,0)
noncomputable def Qhz (p:Qf) (n:Int):Int:=if kE p (Xb p n)=0 then tE p.zb (QaM (tr p n.toNat).zm (tr p n.toNat).zn 0) else kE p (Xb p n)
noncomputable def Ue (p:Qf):Int × Int:=if kE p true=0 then JL p.zb 0 p.zo else (0,kE p true)
noncomputable def JD (h:Qd) (v:WL) (l:List Int):Txt :=
 match v with
 | .who=>Yn (Qqx h.ze.zc (nI l 0)) (YW h.ze.zc (plB h.ze.zc (nI l 0)))
 | .wher=>Yn (Qmp h.ze.zc (nI l 0)) (YW h.ze.zc (UA h.ze.zc (nI l 0)))
 | .first=>Yn [(U4 h.ze.zc).1] (U4 h.ze.zc).2
 | .pulls=>Yn [(Jw h.ze.zb (nI l 0) (nI l 1)).1,(Jw h.ze.zb (nI l 0) (nI l 1)).2] (tE h.ze.zb (QaM (nI l 0) (nI l 1) 0))
 | .z8=>Yn (qK h.ze (nI l 0)) (kE h.ze (Xb h.ze (nI l 0)))
 | .loads=>Yn [(Vt h.ze (nI l 0)).1,(Vt h.ze (nI l 0)).2] (Qhz h.ze (nI l 0))
 | .xa=>Yn [(rFail h.ze).1,(rFail h.ze).2] (kE h.ze true)
 | .y9=>QbJ (rCond h.ze) (kE h.ze true)
 | .xb=>QbJ (rProved h.ze (nI l 0)) (kE h.ze (qa h.ze (nI l 0)))
 | .opn=>Yn (Qd2 h.ze) (kE h.ze true)
 | .good=>QbJ (rGood h.ze) (kE h.ze true)
 | .worth=>Yn [(J7 h.ze).1] (J7 h.ze).2
 | .zm=>Yn [(Ue h.ze).1] (Ue h.ze).2
 | .stretch=>Yn [(span ((uL h.zq true).map qi)).1,(span ((uL h.zq true).map qi)).2] (uE h.zq true)
 | .best=>Yn [(Qd3 h.zq).1] (Qd3 h.zq).2
 | .holds=>QbJ (qJ h.zq (nI l 0)) (uE h.zq (Qd5 (nI l 0)))
 | .zi=>Yn (Qlt h.zq (nI l 0)) (uE h.zq (QtQ h.zq (nI l 0)))
 | _=>[]
noncomputable def doV (h:Qd) (v:WL) (l:List Int):Txt × Qd :=
 if Zi v then (match Zy h v l with
  | some h'=>if okH h' then (QeZ,h') else (tNo,h)
  | none=>(tNo,h))
 else (JD h v l,h)
def XH:List Txt->Option (List Int)
 | []=>some []
 | w::r=>match Qd9 w,XH r with
   | some x,some l=>some (x::l)
   | _,_=>none
theorem YJ:∀ {ws:List Txt} {l:List Int},XH ws=some l->l.length=ws.length
 | [],l,h=>by simp[XH] at h;subst h;rfl
 | w::r,l,h=>by
   simp only[XH] at h;split at h
   ·rename_i x l' _ h2
    injection h with h
    subst h;simp[YJ h2]
   cases h
def Zw (t:Txt):Option (WL × List Int):=match spl t with
 | []=>none
 | w::ws=>match Xq w with
   | none=>none
   | some (n,v)=>if ws.length=n then (XH ws).map fun l=>(v,l) else none
noncomputable def Q3 (h:Qd) (t:Txt):Txt × Qd:=match Zw t with
 | none=>(Qff,h)
 | some (v,l)=>doV h v l
noncomputable def Qq (h:Qd) (s:List Txt) (i:Nat):Qd:=(s.take i).foldl (fun h t=>(Q3 h t).2) h
noncomputable def Vf (h:Qd) (s:List Txt) (i:Nat):List Txt:=(List.range i).map fun j=>(Q3 (Qq h s j) (s.getD j [])).1
theorem Zr (h:Qd) (s:List Txt) (i:Nat) (hi:i<s.length):Qq h s (i+1)=(Q3 (Qq h s i) s[i]).2:=by
 unfold Qq;rw[QJV hi,QLc];rfl
theorem Qme (h:Qd) (s:List Txt) (i:Nat) (hi:i<s.length):Vf h s (i+1)=Vf h s i++[(Q3 (Qq h s i) s[i]).1]:=by
 unfold Vf;rw[QKn,QKf,QLz,List.getD_eq_getElem?_getD,QJW hi];rfl
noncomputable def QnL (h:Qd):Int:=if okH h then 0 else 120
noncomputable def QAj (h:Qd) (s:List Txt):Int:=if okH h then (if 40<s.length then 2 else 0) else 120
structure QcF (h:Qd):Prop where
 ze:Few h.ze
 zq:QJI h.zq
theorem QBx {h:Qd} {v:WL} {l:List Int} (ho:okH h):okH (doV h v l).2:=by
 unfold doV
 grind
theorem Qq4 {h:Qd} {t:Txt} (ho:okH h):okH (Q3 h t).2:=by
 unfold Q3;split
 ·exact ho
 exact QBx ho
theorem UV {h:Qd} {s:List Txt} (ho:okH h):∀ i,okH (Qq h s i)
 | 0=>ho
 | i+1=>by
   by_cases hi:i<s.length
   ·rw[Zr h s i hi]
    exact Qq4 (UV ho i)
   have:Qq h s (i+1)=Qq h s i:=by
    unfold Qq;rw[QJZ (by omega),QJZ (by omega)]
   rw[this];exact UV ho i
structure QM (h:Qd):Prop where
 ze:QjC h.ze
 zi:h.zq.zi.length<=1000
 zj:h.zq.zj.length<=1000
@[simp] def Qqp (k:Nat) (h:Qd):List AV:=[.yq k h.ze.zc.za.length,.yq (k+1) h.ze.zc.zg.length,.iv (.int .i64 h.ze.zc.zh),.yq (k+2) h.ze.zb.zd.length,.iv (.int .i64 h.ze.zb.zr),.iv (.int .i64 h.ze.zb.zu),.iv (.int .i64 h.ze.zb.zw),
 .yq (k+3) h.ze.zb.zk.length,.iv (.int .i64 h.ze.zb.zh),.yq (k+4) h.ze.zf.length,.iv (.int .i64 h.ze.zo),.iv (.int .i64 h.ze.ya),.iv (.int .i64 h.zq.yj),.iv (.int .i64 h.zq.yc),.iv (.int .i64 h.zq.yg),.yq (k+5) h.zq.zi.length,.yq (k+6) h.zq.zj.length,.iv (.int .i64 h.zq.zh)]
@[simp] def Xl (k:Nat) (h:Qd):Qs:=[(k,.arr 73 5 (emb (h.ze.zc.za.map dC)) 0),(k+1,.arr 78 5 (emb (h.ze.zc.zg.map sC)) 0),(k+2,.arr 139 3 (emb (h.ze.zb.zd.map leC)) 0),(k+3,.arr 80 4 (emb (h.ze.zb.zk.map baC)) 0),
 (k+4,.arr 76 3 (emb (h.ze.zf.map trC)) 0),(k+5,.arr 105 3 (emb (h.zq.zi.map roC)) 0),(k+6,.arr 82 7 (emb (h.zq.zj.map reC)) 0)]
include hK
theorem QnS (h:Qd) (hs:QM h):Gh K 60 [.iv (hoV h)] [] [] (.agg (Qqp 0 h)) (Xl 0 h):=by
 obtain ⟨⟨h1,h2,h3,h4,h5⟩,h6,h7⟩:=hs;refine Q0 [17,22,33,38,62,49,54] [] [] [] (fk func60 c60 (by kernel_rfl)).p (by simp[c60]) (by simp) ?_ ?_ ?_ ?_
 ·intro q hq
  simp only[Xl,QJ7,QKc,or_false] at hq;rcases hq with rfl | rfl | rfl | rfl | rfl | rfl | rfl<;>exact ⟨by simp,rfl,XM _ _ _ _ _⟩
 ·simp[clA,clAL]
 ·simp
 generalize hG:Qg0 c60.res [17,22,33,38,62,49,54] [] (.agg (Qqp 0 h)) (Xl 0 h)=G;simp[c60];refine Yc (QBE h.ze.zc.za h1) (by simp[Qc]) ?_
 simp;refine Yc (QBD h.ze.zc.zg h2) (by simp[Qc]) ?_
 simp;refine Yc (QBC h.ze.zb.zd h3) (by simp[Qc]) ?_
 simp;refine Yc (QBB h.ze.zb.zk h4) (by simp[Qc]) ?_
 simp;refine Yc (QBA h.zq.zi h6) (by simp[Qc]) ?_
 simp;refine Yc (QBz h.zq.zj h7) (by simp[Qc]) ?_
 simp;refine Yc (QBy h.ze.zf h5) (by simp[Qc]) ?_
 simp;rw[<- hG];refine ⟨⟨_,rfl,rfl⟩,fun q hq=>?_,by simp⟩
 simp only[Xl,QJ7,QKc,or_false] at hq;rcases hq with rfl | rfl | rfl | rfl | rfl | rfl | rfl<;>simp[rnO,nth,qF,emb]
omit hK
@[reducible] def QF (h:Qd):Qs:=[(0,.box ((hoC h).map AV.iv))]
def UM (r:Nat) (y:Txt) (h':Qd):Env->Qs->Prop:=Qg0 [Qcp.tmp r] [0] [(0,0,0)] (.iv (.str y)) (QF h')
theorem Y9 (h:Qd):∀ q∈QF h,q.1<1/\Zn q.2=true/\clO ((QF h).map (·.1)) q.2=true:=by
 intro q hq;simp only[QJ7,QKc,or_false] at hq;subst hq;simp_all
theorem QP {r:Nat} {y:Txt} {h':Qd} {e:Env} {o:Qs} (h1:Ev.look e r=.iv (.str y)) (h2:Ev.look e 0=.loc 0 0) (h3:Qc o 0=some (.box ((hoC h').map AV.iv))):UM r y h' e o:=by
 refine ⟨⟨.iv (.str y),?_,rfl⟩,fun q hq=>?_,fun q hq=>?_⟩
 ·simp_all
 ·simp only[QJ7,QKc,or_false] at hq
  subst hq;refine h3.trans ?_;simp only[rnO,QfJ]
 grind
section
theorem Qp {f:FuncId} {A:AFn} {r:Nat} {args:List IV} {h h':Qd} {y:Txt} (hok:ZL prog f A [0]) (hres:A.res=[.tmp r]) (hlen:args.length<A.nt)
  (hrun:WpF prog K (FnF (UM r y h')) [.code A.code] (J1 0 (.loc 0 0::args.map .iv)) (QF h)):Gh K f (.loc 0 0::args.map .iv) (QF h) [0] (.iv (.str y)) (QF h'):=by
 refine Q0 [0] [0] [0] [(0,0,0)] hok (by simp;omega) (by simp) (Y9 h') (by simp[clA]) ?_ (by rw[hres];exact hrun)
 simp[nth,Qc]
 grind
theorem X9 {args0:List IV} {o:Qs} {h h':Qd} {a:Nat} (ho:Qc o a=some (.box ((hoC h).map AV.iv))):HOk [a] (.loc 0 0::args0.map .iv) o (QF h) (QF h'):=by
 refine ⟨by simp,?_,fun q hq=>?_,fun i hi h1=>?_,fun q hq=>⟨(Y9 h' q hq).1,(Y9 h' q hq).2.1⟩⟩
 ·simp[clA]
 ·have h1:=Y9 h q hq
  refine ⟨h1.1,?_,h1.2.2,h1.2.1⟩;simp only[QJ7,QKc,or_false] at hq;subst hq;refine ho.trans ?_;simp only[rnO,QfJ]
 ·simp at hi
  subst hi;simp_all
include hK
theorem Qt6 (h:Qd) (hs:QM h):Gd K 59 [hoV h] (.int .i64 (QnL h)):=by
 refine Qb hK (fk func59 c59 (by kernel_rfl)) (by simp) ?_
 have g1:=Qt4 hK h.ze hs.ze;have g2:=Qt3 hK h.zq hs.zi hs.zj;simp;refine cK (by simpa using g1) ?_
 unfold QnL okH;by_cases h1:OkP h.ze
 ·simp[h1]
  refine cK (by simpa using g2) ?_
  by_cases h2:OkU h.zq<;>simp[h2]
 ·simp[h1]
end
theorem QJw (h:Qd):imms (fun i=>if i=0 then none else Qc ((0,.box (Qqp 1 h))::Xl 1 h) i) 40 (Qqp 1 h)=some (hoC h):=by
 simp[imms,imm,immss,Qc,QJZ]
def CH (K:World->Prop) (g:FuncId) (cs:List IV) (h h':Qd):Prop:=Gh K g (.loc 0 0::cs.map .iv) ((0,.box (Qqp 1 h))::Xl 1 h) [0] (.iv (.xh [])) (QF h')
theorem Quy (h:Qd):∀ q∈((0,AO.box (Qqp 1 h))::Xl 1 h),q.1<8/\Zn q.2=true/\clO (((0,AO.box (Qqp 1 h))::Xl 1 h).map (·.1)) q.2=true:=by
 intro q hq;simp only[Xl,QJ7,QKc,or_false] at hq;rcases hq with rfl | rfl | rfl | rfl | rfl | rfl | rfl | rfl
 ·exact ⟨by omega,rfl,by simp[clO,clAL,clA]⟩
 all_goals exact ⟨by show (_:Nat)<8;omega,rfl,XM _ _ _ _ _⟩
def Qze (h':Qd):Env->Qs->Prop:=Qg0 [] [0,1,2,3,4,5,6,7] [(0,0,0)] (.iv (.xh [])) ((0,.box (Qqp 1 h'))::Xl 1 h')
theorem Qb6 {h':Qd} {e:Env} {o:Qs} (h1:Ev.look e 0=.loc 0 0) (h2:∀ q∈((0,AO.box (Qqp 1 h'))::Xl 1 h'),Qc o q.1=some q.2):Qze h' e o:=by
 refine ⟨⟨.iv (.xh []),rfl,rfl⟩,fun q hq=>?_,fun q hq=>?_⟩
 ·have h3:=h2 q hq
  simp only[Xl,QJ7,QKc,or_false] at hq;rcases hq with rfl | rfl | rfl | rfl | rfl | rfl | rfl | rfl
  ·refine h3.trans ?_
   simp[rnO,rnL,rn,nth]
  all_goals
   refine h3.trans ?_;rw[Je]
 grind
section
variable {K:World->Prop}
theorem VJ {f:FuncId} {A:AFn} {cs:List IV} {h h':Qd} (hok:ZL prog f A [0]) (hres:A.res=[]) (hlen:cs.length<A.nt)
  (hrun:WpF prog K (FnF (Qze h')) [.code A.code] (J1 0 (.loc 0 0::cs.map .iv)) ((0,.box (Qqp 1 h))::Xl 1 h)):CH K f cs h h':=by
 refine Y0.give (Q0 [0,1,2,3,4,5,6,7] [0] [0] [(0,0,0)] hok (by simp;omega) (by decide) (Quy h') (by simp[clA]) ?_ (by rw[hres];exact hrun)) (by simp) (QJw h')
 simp[nth,Qc]
 grind
theorem QsT:ZL prog 274 QBN [0]:=⟨_,func274,by kernel_rfl⟩
theorem QsY:ZL prog 185 QBR [0]:=⟨_,func185,by kernel_rfl⟩
theorem QsX:ZL prog 186 QyM [0]:=⟨_,func186,by kernel_rfl⟩
theorem QsW:ZL prog 187 QBQ [0]:=⟨_,func187,by kernel_rfl⟩
theorem QsV:ZL prog 188 QBP [0]:=⟨_,func188,by kernel_rfl⟩
theorem QsU:ZL prog 189 QBO [0]:=⟨_,func189,by kernel_rfl⟩
def Zj (h:Qd) (s:Xh):Qd:={ h with ze:={ h.ze with zc:={ h.ze.zc with zg:=h.ze.zc.zg++[s] } } }
def Xw (h:Qd) (b:QR):Qd:={ h with ze:={ h.ze with zb:={ h.ze.zb with zk:=h.ze.zb.zk++[b] } } }
def ZK (h:Qd) (x:Qy):Qd:={ h with zq:={ h.zq with zj:=h.zq.zj++[x] } }
def Q5 (h:Qd) (t:VM):Qd:={ h with ze:={ h.ze with zc:={ h.ze.zc with za:=h.ze.zc.za++[⟨4,0,0,0,0⟩] },zf:=h.ze.zf++[t] } }
def ZM (h:Qd):Qd:={ h with ze:={ h.ze with zc:={ h.ze.zc with za:=h.ze.zc.za.dropLast },zf:=if (h.ze.zc.za.getLast?.map (·.zp))=some 4 then h.ze.zf.dropLast else h.ze.zf } }
theorem QEf (h:Qd) (d:Qx) (hs:QM h):CH K 274 [.ptr (dC d)] h (Qh h d):=by
 obtain ⟨⟨h1,h2,h3,h4,h5⟩,h6,h7⟩:=hs;refine VJ QsT rfl (by simp[QBN]) ?_
 generalize hG:Qze (Qh h d)=G;simp[QBN];rw[<- hG]
 repeat' first | omega | exact Qb6 rfl (by
  intro q hq;simp only[Xl,QJ7,QKc,or_false] at hq;rcases hq with rfl | rfl | rfl | rfl | rfl | rfl | rfl | rfl<;>simp[Qc,Qh]) | intro _ | apply And.intro
theorem QEk (h:Qd) (a b c:Int) (hs:QM h):CH K 185 [.ptr [QW [a,b,c]]] h (Q5 h ⟨a,b,c⟩):=by
 obtain ⟨⟨h1,h2,h3,h4,h5⟩,h6,h7⟩:=hs;refine VJ QsY rfl (by simp[QBR]) ?_
 generalize hG:Qze (Q5 h ⟨a,b,c⟩)=G;simp[QBR];rw[<- hG]
 repeat' first | omega | exact Qb6 rfl (by
  intro q hq;simp only[Xl,QJ7,QKc,or_false] at hq;rcases hq with rfl | rfl | rfl | rfl | rfl | rfl | rfl | rfl<;>simp[Qc,Q5]) | intro _ | apply And.intro
theorem QEi (h:Qd) (a b c d e:Int) (hs:QM h):CH K 187 [.ptr [QW [a,b,c,d,e]]] h (Zj h ⟨a,b,c,d,e⟩):=by
 obtain ⟨⟨h1,h2,h3,h4,h5⟩,h6,h7⟩:=hs;refine VJ QsW rfl (by simp[QBQ]) ?_
 generalize hG:Qze (Zj h ⟨a,b,c,d,e⟩)=G;simp[QBQ];rw[<- hG]
 repeat' first | omega | exact Qb6 rfl (by
  intro q hq;simp only[Xl,QJ7,QKc,or_false] at hq;rcases hq with rfl | rfl | rfl | rfl | rfl | rfl | rfl | rfl<;>simp[Qc,Zj]) | intro _ | apply And.intro
theorem QEh (h:Qd) (a b c d:Int) (hs:QM h):CH K 188 [.ptr [QW [a,b,c,d]]] h (Xw h ⟨a,b,c,d⟩):=by
 obtain ⟨⟨h1,h2,h3,h4,h5⟩,h6,h7⟩:=hs;refine VJ QsV rfl (by simp[QBP]) ?_
 generalize hG:Qze (Xw h ⟨a,b,c,d⟩)=G;simp[QBP];rw[<- hG]
 repeat' first | omega | exact Qb6 rfl (by
  intro q hq;simp only[Xl,QJ7,QKc,or_false] at hq;rcases hq with rfl | rfl | rfl | rfl | rfl | rfl | rfl | rfl<;>simp[Qc,Xw]) | intro _ | apply And.intro
theorem QEg (h:Qd) (a b c d e f g:Int) (hs:QM h):CH K 189 [.ptr [QW [a,b,c,d,e,f,g]]] h (ZK h ⟨a,b,c,d,e,f,g⟩):=by
 obtain ⟨⟨h1,h2,h3,h4,h5⟩,h6,h7⟩:=hs;refine VJ QsU rfl (by simp[QBO]) ?_
 generalize hG:Qze (ZK h ⟨a,b,c,d,e,f,g⟩)=G;simp[QBO];rw[<- hG]
 repeat' first | omega | exact Qb6 rfl (by
  intro q hq;simp only[Xl,QJ7,QKc,or_false] at hq;rcases hq with rfl | rfl | rfl | rfl | rfl | rfl | rfl | rfl<;>simp[Qc,ZK,emb]) | intro _ | apply And.intro
theorem QEj (h:Qd) (hne:h.ze.zc.za≠[]) (ht:(h.ze.zc.za.getLast?.map (·.zp))=some 4->h.ze.zf≠[]) (hs:QM h):CH K 186 [.ptr [.int .i64 ((h.ze.zc.za.length:Int)-1)]] h (ZM h):=by
 obtain ⟨⟨h1,h2,h3,h4,h5⟩,h6,h7⟩:=hs;obtain ⟨D,d,hD⟩:∃ D d,h.ze.zc.za=D++[d]:=⟨_,_,(QK5 hne).symm⟩
 have hr:QyM.res=[]:=rfl;obtain ⟨⟨⟨za,zg,cw⟩,m,zf,zo,ya⟩,u⟩:=h;simp only at *;subst hD;refine Q0 [0] [0] [0] [(0,0,0)] QsX (by simp[QyM]) (by simp) (Y9 _) (by simp[clA]) ?_ ?_
 ·simp[nth,Qc]
  grind
 rw[hr]
 have fin:∀ (e:Env) (o:Qs) (h':Qd),Ev.look e 0=.loc 0 0->Qc o 0=some (.box ((hoC h').map AV.iv))->Qg0 [] [0] [(0,0,0)] (.iv (.xh [])) (QF h') e o:=fun e o h' q1 q2=>by
  refine ⟨⟨.iv (.xh []),rfl,rfl⟩,fun q hq=>?_,fun q hq=>?_⟩
  ·simp only[QJ7,QKc,or_false] at hq
   subst hq;refine q2.trans ?_;simp only[rnO,QfJ]
  grind
 generalize hG:Qg0 [] [0] [(0,0,0)] (.iv (.xh [])) (QF (ZM ⟨⟨⟨D++[d],zg,cw⟩,m,zf,zo,ya⟩,u⟩))=G;simp at ht h1
 have tk:∀ x:List IV,List.take D.length (List.take (D.length+1) (D.map dC++[x]))=D.map dC:=fun x=>by
  grind
 by_cases h4:d.zp=4
 ·have htl:1<=zf.length:=QK1.2 (ht h4)
  have htn:((zf.length:Int)-1).toNat=zf.length-1:=by omega
  simp[QyM,h4,htn];rw[<- hG]
  repeat' first | omega | exact fin _ _ _ rfl (by simp[Qc,ZM,h4,List.dropLast_eq_take,tk]) | intro _ | apply And.intro
 simp[QyM,h4];rw[<- hG]
 repeat' first | omega | exact fin _ _ _ rfl (by simp[Qc,ZM,h4,tk]) | intro _ | apply And.intro
end
theorem QsZ:ZL prog 184 QBS [0]:=⟨_,func184,by kernel_rfl⟩
theorem Qs0:ZL prog 183 QBT [0]:=⟨_,func183,by kernel_rfl⟩
theorem Qx3:ZL prog 92 c92 [0]:=⟨_,func92,by kernel_rfl⟩
theorem Qx2:ZL prog 93 c93 [0]:=⟨_,func93,by kernel_rfl⟩
theorem Qx1:ZL prog 94 c94 [0]:=⟨_,func94,by kernel_rfl⟩
theorem Qx0:ZL prog 95 c95 [0]:=⟨_,func95,by kernel_rfl⟩
theorem QxZ:ZL prog 96 c96 [0]:=⟨_,func96,by kernel_rfl⟩
theorem QxY:ZL prog 97 c97 [0]:=⟨_,func97,by kernel_rfl⟩
theorem QxX:ZL prog 98 c98 [0]:=⟨_,func98,by kernel_rfl⟩
theorem QxW:ZL prog 99 c99 [0]:=⟨_,func99,by kernel_rfl⟩
noncomputable def chT (h':Qd):Txt:=if okH h' then QeZ else tNo
noncomputable def chH (h h':Qd):Qd:=if okH h' then h' else h
include hK
theorem V2 (h h':Qd) (g:FuncId) (cs:List IV) (hs:QM h) (hs':QM h') (hc:callee prog g=true) (hg:CH K g cs h h') :
  Gh K 184 (.loc 0 0::[IV.clo g [] cs].map .iv) (QF h) [0] (.iv (.str (chT h'))) (QF (chH h h')):=by
 refine Qp QsZ rfl (by simp[QBS]) ?_
 generalize hG:UM 4 (chT h') (chH h h')=G;have g28:=QnS hK h hs;have g9:=Qt6 hK h' hs';simp[QBS];refine Qj (ids:=[11000,11001,11003,11007,11009,11015,11016]) g28 rfl ?_ ?_
 ·refine ⟨by decide,by simp[clA],by simp,?_,?_⟩
  ·simp[Qc]
   intro i hi;have:i=0\/i=1\/i=2\/i=3\/i=4\/i=5\/i=6:=by omega
   rcases this with rfl | rfl | rfl | rfl | rfl | rfl | rfl<;>simp[nth]
  intro q hq;simp only[Xl,QJ7,QKc,or_false] at hq;rcases hq with rfl | rfl | rfl | rfl | rfl | rfl | rfl<;>exact ⟨by simp_all,rfl⟩
 ·simp[rn,rnL,nth,Je]
  refine ⟨hc,?_⟩;refine Qj (ids:=[5,11000,11001,11003,11007,11009,11015,11016]) hg (by simp[nth,rn]) ?_ ?_
  ·refine ⟨by decide,by simp[clA],fun q hq=>?_,fun i hi h1=>?_,fun q hq=>?_⟩
   ·have h1:=Quy h q hq
    refine ⟨h1.1,?_,h1.2.2,h1.2.1⟩;simp only[Xl,QJ7,QKc,or_false] at hq;rcases hq with rfl | rfl | rfl | rfl | rfl | rfl | rfl | rfl
    ·simp[Qc,nth,rnO,rnL,rn]
    all_goals
     rw[Je];simp[Qc,nth]
   ·simp at hi
    have:i=0\/i=1\/i=2\/i=3\/i=4\/i=5\/i=6\/i=7:=by omega
    rcases this with rfl | rfl | rfl | rfl | rfl | rfl | rfl | rfl<;>simp[Qc] at h1
   have h1:=Y9 h' q hq
   grind
  ·simp[rn,nth]
   refine cK (by simpa using g9) ?_
   rw[<- hG];unfold QnL chT chH;by_cases ho:okH h'
   ·simp[ho]
    exact QP rfl rfl (by simp[Qc])
   ·simp[ho]
    exact QP rfl rfl (by simp[Qc])
theorem Qel (h:Qd) (d:Qx) (hs:QM h) (hs':QM (Qh h d)):Gh K 183 (.loc 0 0::[IV.agg (dC d)].map .iv) (QF h) [0] (.iv (.str (chT (Qh h d)))) (QF (chH h (Qh h d))):=by
 refine Qp Qs0 rfl (by simp[QBT]) ?_
 generalize hG:UM 4 (chT (Qh h d)) (chH h (Qh h d))=G;have hg:=V2 hK h (Qh h d) 274 [.ptr (dC d)] hs hs' (by kernel_rfl) (QEf h d hs)
 simp[QBT];refine Qj hg (by simp[nth,rn]) (X9 (by simp[Qc])) ?_
 simp[nth,rn];rw[<- hG];exact QP rfl rfl (by simp[Qc])
theorem QvW (h:Qd) (a b c d:Int) (hs:QM h) (hs':QM (Qh h ⟨1,a,b,c,d⟩)):Gh K 92 (.loc 0 0::[QW [a,b,c,d]].map .iv) (QF h) [0] (.iv (.str (chT (Qh h ⟨1,a,b,c,d⟩)))) (QF (chH h (Qh h ⟨1,a,b,c,d⟩))):=by
 refine Qp Qx3 rfl (by simp[c92]) ?_
 generalize hG:UM 4 (chT (Qh h ⟨1,a,b,c,d⟩)) (chH h (Qh h ⟨1,a,b,c,d⟩))=G;have hg:=Qel hK h ⟨1,a,b,c,d⟩ hs hs';simp[c92];refine Qj hg (by simp[nth,rn]) (X9 (by simp[Qc])) ?_
 simp[nth,rn];rw[<- hG];exact QP rfl rfl (by simp[Qc])
theorem QvV (h:Qd) (a b:Int) (hs:QM h) (hs':QM (Qh h ⟨2,a,b,0,0⟩)):Gh K 93 (.loc 0 0::[QW [a,b]].map .iv) (QF h) [0] (.iv (.str (chT (Qh h ⟨2,a,b,0,0⟩)))) (QF (chH h (Qh h ⟨2,a,b,0,0⟩))):=by
 refine Qp Qx2 rfl (by simp[c93]) ?_
 generalize hG:UM 4 (chT (Qh h ⟨2,a,b,0,0⟩)) (chH h (Qh h ⟨2,a,b,0,0⟩))=G;have hg:=Qel hK h ⟨2,a,b,0,0⟩ hs hs';simp[c93];refine Qj hg (by simp[nth,rn]) (X9 (by simp[Qc])) ?_
 simp[nth,rn];rw[<- hG];exact QP rfl rfl (by simp[Qc])
theorem QvU (h:Qd) (hs:QM h) (hs':QM (Qh h ⟨3,0,0,0,0⟩)):Gh K 94 (.loc 0 0::[QW []].map .iv) (QF h) [0] (.iv (.str (chT (Qh h ⟨3,0,0,0,0⟩)))) (QF (chH h (Qh h ⟨3,0,0,0,0⟩))):=by
 refine Qp Qx1 rfl (by simp[c94]) ?_
 generalize hG:UM 4 (chT (Qh h ⟨3,0,0,0,0⟩)) (chH h (Qh h ⟨3,0,0,0,0⟩))=G;have hg:=Qel hK h ⟨3,0,0,0,0⟩ hs hs';simp[c94];refine Qj hg (by simp[nth,rn]) (X9 (by simp[Qc])) ?_
 simp[nth,rn];rw[<- hG];exact QP rfl rfl (by simp[Qc])
theorem QvT (h:Qd) (a b c:Int) (hs:QM h) (hs':QM (Q5 h ⟨a,b,c⟩)):Gh K 95 (.loc 0 0::[QW [a,b,c]].map .iv) (QF h) [0] (.iv (.str (chT (Q5 h ⟨a,b,c⟩)))) (QF (chH h (Q5 h ⟨a,b,c⟩))):=by
 refine Qp Qx0 rfl (by simp[c95]) ?_
 generalize hG:UM 4 (chT (Q5 h ⟨a,b,c⟩)) (chH h (Q5 h ⟨a,b,c⟩))=G;have hg:=V2 hK h (Q5 h ⟨a,b,c⟩) 185 [.ptr [QW [a,b,c]]] hs hs' (by kernel_rfl) (QEk h a b c hs)
 simp[c95];refine Qj hg (by simp[nth,rn]) (X9 (by simp[Qc])) ?_
 simp[nth,rn];rw[<- hG];exact QP rfl rfl (by simp[Qc])
theorem QvR (h:Qd) (a b c d e:Int) (hs:QM h) (hs':QM (Zj h ⟨a,b,c,d,e⟩)):Gh K 97 (.loc 0 0::[QW [a,b,c,d,e]].map .iv) (QF h) [0] (.iv (.str (chT (Zj h ⟨a,b,c,d,e⟩)))) (QF (chH h (Zj h ⟨a,b,c,d,e⟩))):=by
 refine Qp QxY rfl (by simp[c97]) ?_
 generalize hG:UM 4 (chT (Zj h ⟨a,b,c,d,e⟩)) (chH h (Zj h ⟨a,b,c,d,e⟩))=G;have hg:=V2 hK h (Zj h ⟨a,b,c,d,e⟩) 187 [.ptr [QW [a,b,c,d,e]]] hs hs' (by kernel_rfl) (QEi h a b c d e hs)
 simp[c97];refine Qj hg (by simp[nth,rn]) (X9 (by simp[Qc])) ?_
 simp[nth,rn];rw[<- hG];exact QP rfl rfl (by simp[Qc])
theorem QvQ (h:Qd) (a b c d:Int) (hs:QM h) (hs':QM (Xw h ⟨a,b,c,d⟩)):Gh K 98 (.loc 0 0::[QW [a,b,c,d]].map .iv) (QF h) [0] (.iv (.str (chT (Xw h ⟨a,b,c,d⟩)))) (QF (chH h (Xw h ⟨a,b,c,d⟩))):=by
 refine Qp QxX rfl (by simp[c98]) ?_
 generalize hG:UM 4 (chT (Xw h ⟨a,b,c,d⟩)) (chH h (Xw h ⟨a,b,c,d⟩))=G;have hg:=V2 hK h (Xw h ⟨a,b,c,d⟩) 188 [.ptr [QW [a,b,c,d]]] hs hs' (by kernel_rfl) (QEh h a b c d hs)
 simp[c98];refine Qj hg (by simp[nth,rn]) (X9 (by simp[Qc])) ?_
 simp[nth,rn];rw[<- hG];exact QP rfl rfl (by simp[Qc])
theorem QvP (h:Qd) (a b c d e f g:Int) (hs:QM h) (hs':QM (ZK h ⟨a,b,c,d,e,f,g⟩)):Gh K 99 (.loc 0 0::[QW [a,b,c,d,e,f,g]].map .iv) (QF h) [0] (.iv (.str (chT (ZK h ⟨a,b,c,d,e,f,g⟩)))) (QF (chH h (ZK h ⟨a,b,c,d,e,f,g⟩))):=by
 refine Qp QxW rfl (by simp[c99]) ?_
 generalize hG:UM 4 (chT (ZK h ⟨a,b,c,d,e,f,g⟩)) (chH h (ZK h ⟨a,b,c,d,e,f,g⟩))=G;have hg:=V2 hK h (ZK h ⟨a,b,c,d,e,f,g⟩) 189 [.ptr [QW [a,b,c,d,e,f,g]]] hs hs' (by kernel_rfl) (QEg h a b c d e f g hs)
 simp[c99];refine Qj hg (by simp[nth,rn]) (X9 (by simp[Qc])) ?_
 simp[nth,rn];rw[<- hG];exact QP rfl rfl (by simp[Qc])
theorem QvS (h:Qd) (ht:(h.ze.zc.za.getLast?.map (·.zp))=some 4->h.ze.zf≠[]) (hs:QM h) (hs':QM (ZM h)):Gh K 96 (.loc 0 0::[QW []].map .iv) (QF h) [0] (.iv (.str (if h.ze.zc.za=[] then tNo else chT (ZM h)))) (QF (if h.ze.zc.za=[] then h else chH h (ZM h))):=by
 have hl:=hs.ze.za;refine Qp QxZ rfl (by simp[c96]) ?_
 by_cases hne:h.ze.zc.za=[]
 ·simp only[hne,if_true]
  generalize hG:UM 4 tNo h=G;simp[c96,hne];refine QgR _ _ _ _ _ _ _ _ ?_;simp;rw[<- hG];exact QP rfl rfl (by simp[Qc,hne])
 simp only[hne,if_false];generalize hG:UM 4 (chT (ZM h)) (chH h (ZM h))=G;have hlen:=QK1.2 hne;have hg:=V2 hK h (ZM h) 186 [.ptr [.int .i64 ((h.ze.zc.za.length:Int)-1)]] hs hs' (by kernel_rfl) (QEj h hne ht hs)
 have xd:¬ (h.ze.zc.za.length:Int)-1<0:=by omega
 simp[c96];intro _;refine ⟨by omega,?_⟩
 refine QgR _ _ _ _ _ _ _ _ ?_;simp[xd];refine Qj (ids:=[0,5]) hg (by simp[nth,rn]) ?_ ?_
 ·refine ⟨by decide,by simp[clA],fun q hq=>?_,fun i hi h1=>?_,fun q hq=>?_⟩
  ·have h1:=Y9 h q hq
   refine ⟨by grind,?_,h1.2.2,h1.2.1⟩
   simp only[QJ7,QKc,or_false] at hq;subst hq;simp[Qc,nth,rnO,rnL,rn]
  ·simp at hi
   have:i=0\/i=1:=by omega
   rcases this with rfl | rfl
   ·simp[Qc] at h1
   simp[Qc,nth]
  have h1:=Y9 (chH h (ZM h)) q hq
  grind
 simp[nth,rn];rw[<- hG];exact QP rfl rfl (by simp[Qc])
omit hK
set_option maxHeartbeats 10000000
def qZ (neg:Bool) (D:Txt):Option Nat:=if D.length=0\/9<D.length\/(D.head?=some 48/\(neg=true\/1<D.length)) then none else Lib.decFrom 0 D
theorem Qnb (w:Txt):Qd9 w=if w.head?=some 45 then (qZ true (w.drop 1)).map fun (m:Nat) => -(m:Int) else (qZ false w).map fun (m:Nat)=>(m:Int):=by
 unfold Qd9
 have dn:∀ D:Txt,D≠[]->Lib.decNat D=Lib.decFrom 0 D:=fun D h=>by
  unfold Lib.decNat
  grind
 split
 ·generalize w.drop 1=D
  unfold qZ;by_cases h0:D=[]
  ·subst h0;simp[Lib.decNat]
  grind
 unfold qZ;by_cases h0:w=[]
 ·subst h0;simp[Lib.decNat]
 grind
theorem Ya:∀ (a b:Txt) (acc:Nat),Lib.decFrom acc (a++b)=(Lib.decFrom acc a).bind fun m=>Lib.decFrom m b
 | [],b,acc=>rfl
 | c::a,b,acc=>by
   simp only[QJ8,Lib.decFrom];cases Lib.digitVal c with
   | none=>rfl
   | some d=>exact Ya a b _
theorem Y8 (c:UInt8):Lib.digitVal c=if 48<=c.toNat/\c.toNat<=57 then some (c.toNat-48) else none:=by
 unfold Lib.digitVal;rfl
theorem decFrom_lt:∀ (l:Txt) (m:Nat) (i:Nat),i<=l.length->Lib.decFrom 0 (l.take i)=some m->m<10 ^ i
 | l,m,0,_,h=>by simp[Lib.decFrom] at h;subst h;simp
 | l,m,i+1,hi,h=>by
   rw[QJV (by omega),Ya] at h
   cases hk:Lib.decFrom 0 (l.take i) with
   | some k =>
     have:=decFrom_lt l k i (by omega) hk
     rw[hk] at h;simp only[Option.bind_some,Lib.decFrom,Y8] at h
     grind
   | _=>grind
theorem WS (w:Txt):(∃ p∈ZI,p.1=w)\/∀ p∈ZI,¬ p.1=w:=by
 grind
theorem Xp:∀ p∈ZI,Xq p.1=some p.2:=by decide
theorem JI {w:Txt} (h:∀ p∈ZI,¬ p.1=w):Xq w=none:=by
 unfold Xq
 grind
def ixW (w:Txt):Nat:=(ZI.map (·.1)).idxOf w
theorem QAC (w:Txt):ixW w<=25:=List.idxOf_le_length
theorem Zl {w l:Txt} (k:Nat) (h:(ZI.map (·.1))[k]?=some l) (hd:(ZI.map (·.1)).idxOf l=k):w=l↔ixW w=k:=by
 constructor
 ·intro e
  subst e;exact hd
 intro e;unfold ixW at e
 grind
theorem Qms (w:Txt):Xq w=(ZI[ixW w]?).map (·.2):=by
 by_cases h:∃ p∈ZI,p.1=w
 ·obtain ⟨p,hp,rfl⟩:=h
  rw[Xp p hp];have xd:ixW p.1<(ZI.map (·.1)).length:=List.idxOf_lt_length_of_mem (QKh.2 ⟨p,hp,rfl⟩)
  have hlt':ixW p.1<ZI.length:=by grind
  have h1:=List.getElem_idxOf xd;rw[QJW hlt'];have h2:=Xp ZI[ixW p.1] (QJ1 hlt')
  have h3:ZI[ixW p.1].1=p.1:=by
   rw[<- List.getElem_map (f:=fun q:Txt × Nat × WL=>q.1) (h:=by grind)]
   exact h1
  rw[h3,Xp p hp] at h2;exact h2
 rw[JI fun p hp e=>h ⟨p,hp,e⟩]
 have:ixW w=(ZI.map (·.1)).length:=List.idxOf_eq_length fun hm=>by
  grind
 grind
theorem ix0 (w:Txt):(w=[119,101,108,100])=(ixW w=0):=propext (Zl 0 rfl rfl)
theorem ix1 (w:Txt):(w=[99,117,116])=(ixW w=1):=propext (Zl 1 rfl rfl)
theorem ix2 (w:Txt):(w=[116,117,114,110])=(ixW w=2):=propext (Zl 2 rfl rfl)
theorem ix3 (w:Txt):(w=[112,114,111,118,101])=(ixW w=3):=propext (Zl 3 rfl rfl)
theorem ix4 (w:Txt):(w=[117,110,100,111])=(ixW w=4):=propext (Zl 4 rfl rfl)
theorem ix5 (w:Txt):(w=[115,101,101])=(ixW w=5):=propext (Zl 5 rfl rfl)
theorem ix6 (w:Txt):(w=[98,97,108,97,110,99,101])=(ixW w=6):=propext (Zl 6 rfl rfl)
theorem ix7 (w:Txt):(w=[114,101,97,100])=(ixW w=7):=propext (Zl 7 rfl rfl)
theorem ix8 (w:Txt):(w=[119,104,111])=(ixW w=8):=propext (Zl 8 rfl rfl)
theorem ix9 (w:Txt):(w=[119,104,101,114,101])=(ixW w=9):=propext (Zl 9 rfl rfl)
theorem QIg (w:Txt):(w=[102,105,114,115,116])=(ixW w=10):=propext (Zl 10 rfl rfl)
theorem QIf (w:Txt):(w=[112,117,108,108,115])=(ixW w=11):=propext (Zl 11 rfl rfl)
theorem QIe (w:Txt):(w=[98,114,111,107,101])=(ixW w=12):=propext (Zl 12 rfl rfl)
theorem QId (w:Txt):(w=[108,111,97,100,115])=(ixW w=13):=propext (Zl 13 rfl rfl)
theorem QIc (w:Txt):(w=[102,97,105,108,117,114,101,115])=(ixW w=14):=propext (Zl 14 rfl rfl)
theorem QIb (w:Txt):(w=[99,111,110,100,101,109,110,101,100])=(ixW w=15):=propext (Zl 15 rfl rfl)
theorem QIa (w:Txt):(w=[112,114,111,118,101,100])=(ixW w=16):=propext (Zl 16 rfl rfl)
theorem QH9 (w:Txt):(w=[111,112,101,110])=(ixW w=17):=propext (Zl 17 rfl rfl)
theorem QH8 (w:Txt):(w=[103,111,111,100])=(ixW w=18):=propext (Zl 18 rfl rfl)
theorem QH7 (w:Txt):(w=[119,111,114,116,104])=(ixW w=19):=propext (Zl 19 rfl rfl)
theorem QH6 (w:Txt):(w=[119,101,105,103,104,116])=(ixW w=20):=propext (Zl 20 rfl rfl)
theorem QH5 (w:Txt):(w=[115,116,114,101,116,99,104])=(ixW w=21):=propext (Zl 21 rfl rfl)
theorem QH4 (w:Txt):(w=[98,101,115,116])=(ixW w=22):=propext (Zl 22 rfl rfl)
theorem QH3 (w:Txt):(w=[104,111,108,100,115])=(ixW w=23):=propext (Zl 23 rfl rfl)
theorem QH2 (w:Txt):(w=[114,111,100,115])=(ixW w=24):=propext (Zl 24 rfl rfl)
theorem Jk (n:Nat) (h:9<n):Lib.decDigits n=Lib.decDigits (n / 10)++[UInt8.ofNat (48+n % 10)]:=by
 rw[Lib.decDigits,dif_neg (by omega)]
theorem YV (n:Nat) (h:n<=9):Lib.decDigits n=[UInt8.ofNat (48+n)]:=by
 rw[Lib.decDigits,dif_pos (by omega)]
theorem WD (n:Nat):(Lib.decDigits n).length<=n+1:=by
 induction n using Nat.strongRecOn with
 | ind n ih =>
   by_cases h:n<=9
   ·rw[YV n h];simp
   rw[Jk n (by omega)]
   grind
include hK
theorem QAQ (s:Txt) (hs:s.length<=1000):Gd K 74 [.str s] (strs (spl s)):=by
 refine Qb hK (fk func74 c74 (by kernel_rfl)) (by simp) ?_
 simp
 refine Yi s.length (fun i e o=>∃ mv,mv<=((s.take i).foldl QY [[]]).length/\0<((s.take i).foldl QY [[]]).length/\((s.take i).foldl QY [[]]).length<=i+1/\(∀ x∈(s.take i).foldl QY [[]],x.length<=i) /\
  e=[(0,AV.iv (IV.str s)),(3,AV.yq 5 ((s.take i).foldl QY [[]]).length),(4,AV.iv (IV.int IntKind.i64 (i:Nat)))] /\
  o=[(5,AO.arr 9 1 (emb (((s.take i).foldl QY [[]]).map fun s=>[.str s])) mv)]) ?_ ?_ _ _ ⟨0,by simp,by simp,by simp,by simp,rfl,rfl⟩
 ·rintro e o ⟨mv,h1,h2,h3,_,rfl,rfl⟩
  rw[Qa Qph.eq_1];simp[spl] at h1 h2 h3 |-;simp[h1]
 ·rintro i e o hi ⟨mv,h1,h2,h3,hx,rfl,rfl⟩ ih
  have e1:(s.take (i+1)).foldl QY [[]]=QY ((s.take i).foldl QY [[]]) s[i]:=by
   rw[QJV hi,QLc];rfl
  rw[Qa Qph.eq_1];rw[e1] at ih;generalize (s.take i).foldl QY [[]]=X at *;have h4:X.length-1<X.length:=by omega
  have h5:((X.length:Int)-1).toNat=X.length-1:=by omega
  have h6:s[i].toNat<256:=s[i].toNat_lt
  have h7:s[i]=32↔(s[i].toNat:Int)=32:=by
   rw[<- UInt8.toNat_inj];simp;omega
  have h8':((i:Int)+1).toNat=i+1:=by omega
  by_cases e:(s[i].toNat:Int)=32
  ·simp[hi,e]
   refine ⟨⟨h1,by omega,by omega⟩,by omega,?_⟩
   refine ih _ _ ⟨mv,?_,?_,?_,?_,?_,?_⟩<;>simp[QY,h7.2 e]
   all_goals grind
  ·have h8:¬ s[i]=32:=fun c=>e (h7.1 c)
   have h9:=hx _ (QJ1 h4)
   have h10:(s.take (i+1)).drop i=[s[i]]:=by
    rw[QJV hi]
    grind
   simp[hi,e,h4,h5,h8',h10];refine ⟨h1,fun _=>⟨by omega,⟨by omega,h1⟩,h1,by omega,by omega,by omega,⟨by omega,h1⟩,h1,by omega,?_⟩⟩
   refine ih _ _ ⟨X.length,?_,?_,?_,?_,?_,?_⟩<;>simp[QY,h8,h2,h4]
   all_goals grind
theorem QAO (w:Txt):Gd K 76 [.str w] (.int .i64 (match Xq w with | some p=>(p.1:Int) | none => -1)):=by
 refine Qb hK (fk func76 c76 (by kernel_rfl)) (by simp) ?_
 rw[Qms];have xd:=QAC w;generalize hr:(match (ZI[ixW w]?).map (·.2) with | some p=>(p.1:Int) | none => -1)=r
 have key:∀ k,k<=25->ixW w=k->r=([4,2,0,3,0,5,4,7,1,1,0,2,1,1,0,0,1,0,0,0,0,0,0,1,1,-1]:List Int).getD k 0:=fun k hk e=>by
  rw[<- hr,e];have:∀ k≤25,(match (ZI[k]?).map (·.2) with | some p=>(p.1:Int) | none => -1)=([4,2,0,3,0,5,4,7,1,1,0,2,1,1,0,0,1,0,0,0,0,0,0,1,1,-1]:List Int).getD k 0:=by decide
  exact this k hk
 clear hr;simp (config:={ maxSteps:=10000000 }) [ix0,ix1,ix2,ix3,ix4,ix5,ix6,ix7,ix8,ix9,QIg,QIf,QIe,QId,QIc,QIb,QIa,QH9,QH8,QH7,QH6,QH5,QH4,QH3,QH2];generalize ixW w=n at *;have k0:=key 0 (by omega)
 have k1:=key 1 (by omega)
 have k2:=key 2 (by omega)
 have k3:=key 3 (by omega)
 have k4:=key 4 (by omega)
 have k5:=key 5 (by omega)
 have k6:=key 6 (by omega)
 have k7:=key 7 (by omega)
 have k8:=key 8 (by omega)
 have k9:=key 9 (by omega)
 have k10:=key 10 (by omega)
 have k11:=key 11 (by omega)
 have k12:=key 12 (by omega)
 have k13:=key 13 (by omega)
 have k14:=key 14 (by omega)
 have k15:=key 15 (by omega)
 have k16:=key 16 (by omega)
 have k17:=key 17 (by omega)
 have k18:=key 18 (by omega)
 have k19:=key 19 (by omega)
 have k20:=key 20 (by omega)
 have k21:=key 21 (by omega)
 have k22:=key 22 (by omega)
 have k23:=key 23 (by omega)
 have k24:=key 24 (by omega)
 have k25:=key 25 (by omega)
 simp only[List.getD_cons_zero,List.getD_cons_succ] at *;clear key
 repeat' first | apply And.intro | intro _
 all_goals omega
theorem Qt9 (w:Txt):Gd K 48 [.str w] (.bool (match Xq w with | some p=>Zi p.2 | none=>false)):=by
 refine Qb hK (fk func48 c48 (by kernel_rfl)) (by simp) ?_
 rcases WS w with ⟨p,hp,rfl⟩ | h
 ·rw[Xp p hp]
  simp only[ZI,QJ7,QKc,or_false] at hp;rcases hp with rfl | rfl | rfl | rfl | rfl | rfl | rfl | rfl | rfl | rfl | rfl | rfl | rfl | rfl | rfl | rfl | rfl | rfl | rfl | rfl | rfl | rfl | rfl | rfl | rfl<;>simp (config:={ maxSteps:=1000000 }) [Zi]
 ·rw[JI h]
  simp only[ZI,QJ7,QKc,or_false,forall_eq_or_imp,forall_eq,@eq_comm _ _ w] at h;simp[h]
theorem QnT (n:Nat) (hn:n<10 ^ 18):Gd K 53 [.int .i64 n] (.str (Lib.decDigits n)):=by
 refine Qb hK Qus (by simp) ?_
 have hneg:¬ (n:Int)<0:=by omega
 have hm:∀ m:Nat,((m:Int).tmod 10)=(m:Int) % 10:=fun m=>QKM (by omega)
 have hw:∀ m:Nat,IntKind.wrap .i32 (48+(m:Int) % 10)=48+(m:Int) % 10:=fun m=>UQ (by simp only[IntKind.inR];exact ⟨by simp;omega,by simp;omega⟩)
 have hd:∀ m:Nat,((48:Int)+(m:Int) % 10).toNat=48+m % 10:=fun m=>by omega
 have hq:∀ m:Nat,((m:Int).tdiv 10)=(m:Int) / 10:=fun m=>QKD (by omega)
 have hd2:∀ m:Nat,((48:Int)+(m:Int) / 10 % 10).toNat=48+m / 10 % 10:=fun m=>by omega
 have hm2:∀ m:Nat,(((m:Int) / 10).tmod 10)=(m:Int) / 10 % 10:=fun m=>QKM (by omega)
 have hw2:∀ m:Nat,IntKind.wrap .i32 (48+(m:Int) / 10 % 10)=48+(m:Int) / 10 % 10:=fun m=>UQ (by simp only[IntKind.inR];exact ⟨by simp;omega,by simp;omega⟩)
 have hln:=WD n;simp[hneg,hm,hw,hd];refine ⟨by omega,by omega,?_⟩
 refine QtY (S:=Nat × Txt) (fun s=>[(0,AV.iv (.int .i64 s.1)),(3,AV.iv (.str s.2))]) (fun _=>[]) (fun s=>s.1<=n/\∃ rest,s.2=UInt8.ofNat (48+s.1 % 10)::rest/\Lib.decDigits s.1++rest=Lib.decDigits n) (fun s=>s.1) ?_ (n,_) ⟨QJ2 _,[],by simp,by simp⟩
 rintro ⟨m,out⟩ ⟨h1,rest,h2,h3⟩ ih
 simp only at h1 h2 h3 ih |-;have hl:=congrArg List.length h3;simp only[QKb] at hl;rw[Qa Qut.eq_1];by_cases h9:9<m
 ·have h9':(9:Int)<(m:Int):=by omega
  have ih:=ih (m / 10,UInt8.ofNat (48+m / 10 % 10)::out) ⟨by omega,out,rfl,by
   rw[h2,<- h3,Jk m h9];simp⟩ (by omega)
  simp[h9',hq,hm2,hw2,hd2];refine ⟨by omega,by omega,⟨by omega,by omega⟩,by grind,?_⟩
  simpa using ih
 ·have h9':¬ (9:Int)<(m:Int):=by omega
  have:Lib.decDigits n=out:=by
   rw[<- h3,YV m (by omega),h2]
   have:m % 10=m:=by omega
   grind
  simp[h9',this]
theorem QA1 (n:Int) (h : -1000000000000000<=n/\n<=1000000000000000):Gd K 53 [.int .i64 n] (.str (Lib.itoa n)):=by
 by_cases hn:n<0
 ·have hg:=QnT hK n.natAbs (by omega)
  have e1:Lib.itoa n=45::Lib.decDigits n.natAbs:=by
   unfold Lib.itoa;rw[if_pos hn]
  have e2:((n.natAbs:Nat):Int)=0-n:=by omega
  have hl:=WD n.natAbs;refine Qb hK Qus (by simp) ?_
  have m1:(if (1:Int) < -n then -n else 1)=((n.natAbs:Nat):Int):=by grind
  rw[e1];simp[hn,m1];refine ⟨by omega,cK (by simpa using hg) ?_⟩
  simp;omega
 have e1:Lib.itoa n=Lib.decDigits n.toNat:=by
  unfold Lib.itoa;rw[if_neg hn]
 have hg:=QnT hK n.toNat (by omega)
 grind
omit hK
def OkL (l:List Int):Prop:=l.length<=1000000/\∀ n∈l,-1000000000000000<=n/\n<=1000000000000000
theorem Yo {n:Int} (h : -1000000000000000<=n/\n<=1000000000000000):OkL [n]:=⟨by simp,by simpa using h⟩
theorem Qd7 {a b:Int} (h : -1000000000000000<=a/\a<=1000000000000000) (h' : -1000000000000000<=b/\b<=1000000000000000):OkL [a,b]:=⟨by simp,by
 grind⟩
theorem Qd8:OkL []:=⟨by simp,by simp⟩
theorem WA (n:Nat):∀ k,n<10 ^ k->0<k->(Lib.decDigits n).length<=k:=by
 induction n using Nat.strongRecOn with
 | ind n ih =>
   intro k hk h0;by_cases h:n<=9
   ·rw[YV n h];simp;omega
   rw[Jk n (by omega)]
   obtain ⟨j,rfl⟩:∃ j,k=j+1:=⟨k-1,by omega⟩
   have hj:0<j:=by
    grind
   have:=ih (n / 10) (by omega) j (by omega) hj
   simp;omega
theorem Qei {n:Int} (h : -1000000000000000<=n/\n<=1000000000000000):(Lib.itoa n).length<=20:=by
 unfold Lib.itoa;split
 ·have:=WA n.natAbs 16 (by omega) (by omega)
  simp;omega
 have:=WA n.toNat 16 (by omega) (by omega)
 omega
theorem Qf7:∀ (l:List Txt) (c:Nat),(∀ x∈l,x.length<=c)->(Qct l).length<=(c+1)*l.length
 | [],_,_=>by simp[Qct]
 | [x],c,h=>by
   have:=h x (by simp)
   simp[Qct];omega
 | x::y::r,c,h=>by
   have h1:=h x (by simp)
   have h2:=Qf7 (y::r) c fun z hz=>h z (by simp[hz])
   simp only[Qct,QKb,QKk] at h2 |-
   grind
theorem QlJ {l:List Int} (h:OkL l) (i:Nat):(Qct ((l.take i).map Lib.itoa)).length<=21000000:=by
 have h1:=Qf7 ((l.take i).map Lib.itoa) 20 fun x hx=>by
  obtain ⟨n,hn,rfl⟩:=QKh.1 hx;exact Qei (h.2 n (QKF hn))
 have h2:((l.take i).map Lib.itoa).length<=1000000:=by
  have:=h.1;simp;omega
 omega
theorem QkK {D:Txt} {i:Nat} (hi:i<D.length) (h:Lib.digitVal D[i]=none):Lib.decFrom 0 D=none:=by
 have e:D=D.take i++D[i]::D.drop (i+1):=by simp
 rw[e,Ya];cases Lib.decFrom 0 (D.take i) with
 | none=>rfl
 | some m=>simp[Lib.decFrom,h]
theorem QsK {D:Txt} {i m:Nat} (hi:i<D.length) (hm:Lib.decFrom 0 (D.take i)=some m) (h:48<=D[i].toNat/\D[i].toNat<=57):Lib.decFrom 0 (D.take (i+1))=some (m*10+(D[i].toNat-48)):=by
 rw[QJV hi,Ya,hm];simp[Lib.decFrom,Y8,h]
@[simp] abbrev QFc:AC:=.seq (.ops [⟨some 65,none,.xi (.t 4)⟩,⟨some 66,none,.xi (.t 6)⟩,⟨some 67,none,.bin .mul (.t 65) (.t 66)⟩,⟨some 2,none,.xi (.t 67)⟩,⟨some 3,none,.xi (.bool true)⟩] false) .ret
theorem Qnn {K:World->Prop} (sg:Int) (hsg:sg=1\/sg = -1) (D:Txt) (hD:D.length<=9) (r:Int) (b:Bool) (hs:∀ m,Lib.decFrom 0 D=some m->r=sg*m/\b=true) (hn:Lib.decFrom 0 D=none->r=0/\b=false) :
  XB prog K (FnF (QgU [Qcp.tmp 2,Qcp.tmp 3] (.xh [.int .i64 r,.bool b]))) QgI [4,5,6,7] [] [AI.inBlock 0,AI.code QFc] [(4,.iv (.int .i64 sg)),(5,.iv (.str D)),(6,.iv (.int .i64 0)),(7,.iv (.int .i64 0))] []:=by
 refine Qi (fun i=>[(4,AV.iv (.int .i64 sg)),(5,AV.iv (.str D)),(6,AV.iv (.int .i64 (((Lib.decFrom 0 (D.take i)).getD 0:Nat):Int))),(7,AV.iv (.int .i64 (i:Nat)))]) (fun _=>[]) D.length (fun i=>(Lib.decFrom 0 (D.take i)).isSome=true) (by simp[Lib.decFrom]) ?_ ?_
 ·intro h
  rw[QJ5] at h;obtain ⟨m,hm⟩:=QKt.1 h;obtain ⟨rfl,rfl⟩:=hs m hm;have xd:=decFrom_lt D m D.length (QJ2 _) (by grind)
  have hb:(10:Nat) ^ D.length<=10 ^ 9:=QLi (by omega) hD
  rw[Qa QgI.eq_1];simp[hm]
  grind
 ·intro i hi h ih
  obtain ⟨m,hm⟩:=QKt.1 h;have xd:=decFrom_lt D m i (by omega) hm
  have hb:(10:Nat) ^ i<=10 ^ 9:=QLi (by omega) (by omega)
  have hc:D[i].toNat<256:=D[i].toNat_lt;rw[Qa QgI.eq_1];by_cases h1:D[i].toNat<48
  ·obtain ⟨rfl,rfl⟩:=hn (QkK hi (by rw[Y8,if_neg (by omega)]))
   have h1':(D[i].toNat:Int)<48:=by omega
   simp[hi,h1',hm]
  ·have h1':¬ (D[i].toNat:Int)<48:=by omega
   by_cases h2:57<D[i].toNat
   ·obtain ⟨rfl,rfl⟩:=hn (QkK hi (by rw[Y8,if_neg (by omega)]))
    have h2':(57:Int)<(D[i].toNat:Int):=by omega
    simp[hi,h1',h2',hm]
   ·have h2':¬ (57:Int)<(D[i].toNat:Int):=by omega
    have hstep:=QsK hi hm (by omega)
    have ih:=ih (by rw[hstep];rfl)
    rw[hstep] at ih;have hw:IntKind.wrap .i64 ((D[i].toNat:Int)-48)=(D[i].toNat:Int)-48:=wrap_i64 (by omega) (by omega)
    have e2:(10:Int)*m+((D[i].toNat:Int)-48)=((m*10+(D[i].toNat-48):Nat):Int):=by omega
    simp only[QKO] at ih;rw[<- e2] at ih;simp[hi,h1',h2',hm,hw] at ih |-
    grind
theorem qN (ws:List Txt) (w:Txt):XH (ws++[w])=match XH ws,Qd9 w with | some l,some n=>some (l++[n]) | _,_=>none:=by
 induction ws with
 | nil=>simp only[QKe,XH];grind
 | cons x r ih =>
   simp only[QJ8,XH,ih]
   grind
def XF (t:Txt):Txt × List Int × Bool:=match spl t with
 | []=>([],[],false)
 | w::ws=>match XH ws with
   | none=>([],[],false)
   | some l=>(w,l,decide ((l.length:Int)=match Xq w with | some p=>(p.1:Int) | none => -1))
theorem Qbr:∀ {ws:List Txt} {l:List Int},XH ws=some l->∀ w∈ws,(Qd9 w).isSome=true
 | [],_,_,w,hw=>by simp at hw
 | x::r,l,h,w,hw=>by
   simp only[XH] at h;split at h
   ·rename_i n l' h1 h2
    rcases QJ7.1 hw with rfl | hw
    ·rw[h1];rfl
    exact Qbr h2 w hw
   cases h
include hK
theorem QAP (w:Txt) (hw:w.length<=1000):Gd K 75 [.str w] (.xh [.int .i64 ((Qd9 w).getD 0),.bool (Qd9 w).isSome]):=by
 refine Qb hK (fk func75 c75 (by kernel_rfl)) (by simp) ?_
 rw[Qnb]
 have head_of:∀ (D:Txt) (h:0<D.length),(D.head?=some 48↔((D[0]'h).toNat:Int)=48):=fun D h=>by
  cases D with
  | nil=>simp at h
  | cons d r =>
    simp only[List.head?_cons,Option.some.injEq,QLx];rw[<- UInt8.toNat_inj]
    grind
 by_cases h45:w.head?=some 45
 ·obtain ⟨D,hwD⟩:∃ D,w=45::D:=by
   cases w with
   | _=>grind
  have f5:0<w.length:=by rw[hwD];simp
  have f1:(0:Int)<w.length:=by omega
  have f2:((w[0]'f5).toNat:Int)=45:=by subst hwD;rfl
  have f3:w.tail=D:=by rw[hwD];rfl
  have f4:(1:Int)<=w.length:=by omega
  rw[if_pos h45,List.drop_one,f3];clear hwD;by_cases c1:D.length=0
  ·have hD:=QJ3 c1
   have n1:qZ true D=none:=by simp[qZ,c1]
   subst hD;simp[f1,f2,f3,f4,f5,n1]
  have c1':¬ (D.length:Int)=0:=by omega
  have c0:0<D.length:=by omega
  by_cases c2:9<D.length
  ·have n1:qZ true D=none:=by simp[qZ,c2]
   have c2':(9:Int)<D.length:=by omega
   simp[f1,f2,f3,f4,f5,n1,c1',c2',c0]
  have c2':¬ (9:Int)<D.length:=by omega
  have hh:=head_of D c0;by_cases c3:((D[0]'c0).toNat:Int)=48
  ·have n1:qZ true D=none:=by simp[qZ,hh.2 c3]
   simp[f1,f2,f3,f4,f5,n1,c1',c2',c0,c3]
  have n1:qZ true D=Lib.decFrom 0 D:=by simp[qZ,c1,c2,mt hh.1 c3]
  rw[n1];have lp:=Qnn (K:=K) (-1) (.inr rfl) D (by omega) (((Lib.decFrom 0 D).map fun (m:Nat) => -(m:Int)).getD 0) ((Lib.decFrom 0 D).map fun (m:Nat) => -(m:Int)).isSome (fun m h=>by simp[h]) (fun h=>by simp[h])
  simp at lp;have ne:¬ D=[]:=fun e=>c1 (by rw[e];rfl)
  simp[f1,f2,f3,f4,f5,c1',c2',c0,c3,ne];exact lp
 ·rw[if_neg h45]
  by_cases c1:w.length=0
  ·have hD:=QJ3 c1
   have n1:qZ false w=none:=by simp[qZ,c1]
   subst hD;simp[n1]
  have f1:(0:Int)<w.length:=by omega
  have f5:0<w.length:=by omega
  have f2:¬ ((w[0]'f5).toNat:Int)=45:=by
   cases w with
   | nil=>simp at c1
   | cons d r =>
     simp only[List.head?_cons,Option.some.injEq] at h45;rw[<- UInt8.toNat_inj] at h45
     grind
  have c1':¬ (w.length:Int)=0:=by omega
  have ne:¬ w=[]:=fun e=>c1 (by rw[e];rfl)
  by_cases c2:9<w.length
  ·have n1:qZ false w=none:=by simp[qZ,c2]
   have c2':(9:Int)<w.length:=by omega
   simp[f1,f2,f5,n1,c1',c2']
  have c2':¬ (9:Int)<w.length:=by omega
  have hh:=head_of w f5
  have fin:qZ false w=Lib.decFrom 0 w->XB prog K (FnF (QgU [Qcp.tmp 2,Qcp.tmp 3] (.xh [.int .i64 (((qZ false w).map fun (m:Nat)=>(m:Int)).getD 0),.bool ((qZ false w).map fun (m:Nat)=>(m:Int)).isSome]))) QgI [4,5,6,7] [] [AI.inBlock 0,AI.code QFc] [(4,.iv (.int .i64 1)),(5,.iv (.str w)),(6,.iv (.int .i64 0)),(7,.iv (.int .i64 0))] []:=fun n1=>by
   rw[n1];exact Qnn (K:=K) 1 (.inl rfl) w (by omega) _ _ (fun m h=>by simp[h]) (fun h=>by simp[h])
  by_cases c3:((w[0]'f5).toNat:Int)=48
  ·by_cases c4:1<w.length
   ·have n1:qZ false w=none:=by simp[qZ,c4,hh.2 c3]
    have c4':(1:Int)<w.length:=by omega
    simp[f1,f2,f5,n1,c1',c2',c3,c4']
   have n1:qZ false w=Lib.decFrom 0 w:=by simp[qZ,c1,c2,c4]
   have c4':¬ (1:Int)<w.length:=by omega
   have lp:=fin n1;simp at lp;simp[f1,f2,f5,c1',c2',c3,c4',ne];exact lp
  ·have n1:qZ false w=Lib.decFrom 0 w:=by simp[qZ,c1,c2,mt hh.1 c3]
   have lp:=fin n1;simp at lp;simp[f1,f2,f5,c1',c2',c3,ne];exact lp
theorem Qua (t:Txt) (ht:t.length<=1000):Gd K 47 [.str t] (.xh [.str (XF t).1,QW (XF t).2.1,.bool (XF t).2.2]):=by
 refine Qb hK (fk func47 c47 (by kernel_rfl)) (by simp) ?_
 have hsl:=spl_len t;have hwl:=qw t;have hg:=QAQ hK t ht;unfold XF;cases hs:spl t with
 | nil=>exact absurd hs (QcN t [])
 | cons w ws =>
   rw[hs] at hg hsl hwl;simp at hsl;simp;refine cK (by simpa using hg) ?_
   simp;refine Qi (fun i=>[(3,AV.yq 3 ((XH (ws.take i)).getD []).length),(5,AV.iv (strs (w::ws))),(6,AV.iv (.int .i64 ((i+1:Nat):Int)))]) (fun i=>[(3,.arr 3 1 (emb (((XH (ws.take i)).getD []).map fun n=>[.int .i64 n])) 0)]) ws.length (fun i=>(XH (ws.take i)).isSome=true) (by simp[XH]) ?_ ?_
   ·intro h
    rw[QJ5] at h;obtain ⟨l,hl⟩:=QKt.1 h;have hll:=YJ hl;have hn:=QAO hK w;rw[Qa Qpr.eq_1];simp[hl];intro _ _;refine cK (by simpa using hn) ?_
    simp
    try exact Iff.rfl
   intro i hi h ih;obtain ⟨l,hl⟩:=QKt.1 h;have hll:=YJ hl;simp at hll;have hg2:=QAP hK ws[i] (by grind)
   have e1:ws.take (i+1)=ws.take i++[ws[i]]:=QJV hi;rw[Qa Qpr.eq_1];have hi2:((i:Int)+1)<(ws.length:Int)+1:=by omega
   have hi3:((i:Int)+1).toNat=i+1:=by omega
   cases hv:Qd9 ws[i] with
   | none =>
     have hn:XH ws=none:=by
      cases hq:XH ws with
      | none=>rfl
      | some l' =>
        have:=Qbr hq ws[i] (by simp)
        grind
     rw[hv] at hg2;simp[hi,hi2,hi3,hl];intro _;refine ⟨by omega,cK (by omega) ?_⟩
     simp[hn]
   | some n =>
     rw[hv] at hg2;have e2:XH (ws.take (i+1))=some (l++[n]):=by rw[e1,qN,hl,hv]
     have ih:=ih (by rw[e2];rfl)
     rw[e2] at ih;simp[hi,hi2,hi3,hl] at ih |-;intro _;refine ⟨by omega,cK (by omega) ?_⟩
     simp
     grind
omit hK
theorem Qeh:∀ l:List Txt,Lib.join l [32]=Qct l
 | []=>rfl
 | [x]=>by simp[Lib.join,Qct]
 | x::y::r=>by
   have:=Qeh (y::r);simp only[Qct];rw[<- this];simp[Lib.join]
theorem Qw9 (w:Txt) (hw:w.length<=1000):∃ n,((Qd9 w).isSome=true->n=(Qd9 w).getD 0)/\Gd KW 139 [.str w] (.xh [.int .i64 n,.bool (Qd9 w).isSome]):=by
 have g1:=QwI w hw;have g3:=QwH w [45];cases hv:Qd9 w with
 | some v =>
   obtain ⟨h1,h2,h3⟩:=Qnc hv;have hb:=Lib.atoiAll_bounds h3;have g2:=Qic v hb;rw[h3] at g1;rw[h1] at g2;refine ⟨v,fun _=>rfl,Qb hKW QeO (by simp) ?_⟩
   have h2':((Lib.trimPrefix w [45]).length:Int)<=9:=by omega
   simp;refine cK (by simpa using g1) ?_
   simp;refine cK (by simpa using g2) ?_
   simp;refine cK (by simpa using g3) ?_
   simp[h2']
 | none =>
   cases ha:Lib.atoiAll w with
   | ok v =>
     have hb:=Lib.atoiAll_bounds ha;have g2:=Qic v hb;rw[ha] at g1;refine ⟨v,fun h=>by simp at h,Qb hKW QeO (by simp) ?_⟩
     simp;refine cK (by simpa using g1) ?_
     simp;refine cK (by simpa using g2) ?_
     by_cases hi:Lib.itoa v=w
     ·have hl:¬ (Lib.trimPrefix w [45]).length<=9:=fun h=>by
       have:=Qf8 hi h
       grind
      have hl':¬ ((Lib.trimPrefix w [45]).length:Int)<=9:=by omega
      simp[hi];refine cK (by simpa using g3) ?_
      simp;omega
     simp[hi]
   | range =>
     rw[ha] at g1;refine ⟨Lib.atoiSat w,fun h=>by simp at h,Qb hKW QeO (by simp) ?_⟩
     simp;refine cK (by simpa using g1) ?_
     simp
   | _ =>
     rw[ha] at g1;refine ⟨0,fun h=>by simp at h,Qb hKW QeO (by simp) ?_⟩
     simp;refine cK (by simpa using g1) ?_
     simp
theorem Qeo (e:Int) (l:List Int) (h:e=0->OkL l):Gd KW 190 [.int .i64 e,QW l] (.str (Yn l e)):=by
 refine Qb hKW (fk func190 QG3 (by kernel_rfl)) (by simp) ?_
 unfold Yn QAy;by_cases h0:e=0;rotate_left
 ·by_cases h3:e=3
  ·simp[h3,QqE]
  simp[h0,h3,tNo]
 ·subst h0
  have hl:=h rfl;have h1:=hl.1;by_cases hne:l=[]
  ·subst hne
   simp[QqE]
  ·have hpos:=QK1.2 hne
   have hne':¬ (l.length:Int)=0:=by omega
   simp[hne,hne'];intro _;refine Qi (fun i=>[(5,AV.yq 5 i),(16,AV.iv (QW l)),(17,AV.iv (.int .i64 l.length)),(18,AV.iv (.int .i64 (i:Nat)))]) (fun i=>[(5,.arr 9 1 (emb (((l.take i).map Lib.itoa).map fun s=>[.str s])) 0)]) l.length (fun _=>True) trivial ?_ ?_
   ·intro _
    have hj:=QlJ hl l.length;rw[QJ5] at hj;have hg:=Qwv (l.map Lib.itoa) (by simpa using h1) (by rw[Qeh];omega)
    rw[Qeh] at hg;rw[Qa Qjn.eq_1];simp[-List.map_map,Qbn];rw[QJZ (by simp)]
    refine Qe (by simpa using hg) (.inr rfl) ?_
    simp
   ·intro i hi _ ih
    have hg:=Qic l[i] (by have:=hl.2 l[i] (QJ1 hi);omega)
    have e3:List.take (i+1) (List.map ((fun s=>[IV.str s])∘Lib.itoa) l)=List.take i (List.map ((fun s=>[IV.str s])∘Lib.itoa) l)++[[.str (Lib.itoa l[i])]]:=by
     rw[QJV (by simpa using hi)]
     simp
    rw[Qa Qjn.eq_1];simp[hi] at ih |-;rw[e3] at ih;refine cK (by simpa using hg) ?_
    simp
    grind
theorem QbW (l:List Int) (e:Int) (h:e=0->OkL l):Gd KW 101 [QW l,.int .i64 e] (.str (Yn l e)):=by
 refine Qb hKW (fk func101 QHC (by kernel_rfl)) (by simp) ?_
 have hg:=Qeo e l h;simp;refine cK (by simpa using hg) ?_
 simp
theorem Qes (n e:Int) (h:e=0->OkL [n]):Gd KW 106 [.int .i64 n,.int .i64 e] (.str (Yn [n] e)):=by
 refine Qb hKW (fk func106 QHz (by kernel_rfl)) (by simp) ?_
 have hg:=Qeo e [n] h;simp;refine cK (by simpa using hg) ?_
 simp
theorem Qer (a b e:Int) (h:e=0->OkL [a,b]):Gd KW 109 [.agg [.int .i64 a,.int .i64 b],.int .i64 e] (.str (Yn [a,b] e)):=by
 refine Qb hKW (fk func109 QHx (by kernel_rfl)) (by simp) ?_
 have hg:=Qeo e [a,b] h;simp;refine cK (by simpa using hg) ?_
 simp
theorem Qeq (n e:Int) (h:e=0->n=1\/n=2\/n=3):Gd KW 118 [.int .i64 n,.int .i64 e] (.str (QbJ n e)):=by
 refine Qb hKW (fk func118 QHs (by kernel_rfl)) (by simp) ?_
 unfold QbJ;by_cases h0:e=0
 ·rcases h h0 with rfl | rfl | rfl<;>simp[h0,QmC,QtH,QjO]
 have hg:=Qeo e [] (fun h=>absurd h h0)
 simp[h0];refine cK (by simpa using hg) ?_
 simp
abbrev Sml (n:Int):Prop := -1000000000000000<=n/\n<=1000000000000000
theorem VQ {l:List Int} (h:∀ x∈l,Sml x):Sml (span l).1/\Sml (span l).2:=by
 by_cases hne:l=[]
 ·subst hne;simp[Sml]
 obtain ⟨h1,h2⟩:=QdS l hne
 grind
theorem Qfi (l:List Int) (lo hi:Int) (h1 : -1000000<=lo) (h3:hi<=1000000) (h4:hi-lo<=999999):OkL (Jc l lo hi):=by
 refine ⟨?_,fun n hn=>?_⟩
 ·have:=Qhd l lo (hi+1-lo).toNat
  unfold Jc;omega
 have:=(Ur l lo hi n).1 hn;omega
theorem Qlf (l:List Int):(Jd l).length<=l.length:=by
 unfold Jd;rw[List.length_mergeSort,QJ9];exact QkO l
theorem Qlq (c:Qr):(QS c).length<=2 ^ ZN c.za:=by
 unfold QS
 grind
theorem Qhu {c:Qr} (hc:OkC c):(QS c).length<=4096:=by
 have h1:=Qlq c;have h2:=WU c.za;have h3:=hc.len;have h4:2 ^ ZN c.za<=2 ^ 12:=QLi (by omega) (by omega)
 omega
theorem QjS {c:Qr} (hc:OkC c) (f:Nat->Int) (h:∀ n,-1000<=f n/\f n<=1000):OkL (Jd ((QS c).map f)):=by
 refine ⟨?_,fun n hn=>?_⟩
 ·have h1:=Qlf ((QS c).map f)
  have h2:=Qhu hc
  grind
 rw[Vl] at hn
 grind
theorem QxV {c:Qr} (hc:OkC c) (e:Nat->Int):∀ x∈cab c.za e c.za.length,x<12:=fun x hx=>by
 have h1:=qS c.za e c.za.length x hx;have h2:=Qg6 c.za c.za.length;have h3:=hc.len;omega
theorem Qpg {c:Qr} (hc:OkC c) (e:Nat->Int):(cab c.za e c.za.length).length<=12:=by
 have h1:=Xo e hc.za c.za.length (QJ2 _) (QJ2 _);have h2:=OkD.cnt hc.za c.za.length (QJ2 _) (QJ2 _);have h3:=hc.len;omega
theorem Qzz {c:Qr} (hc:OkC c) (n:Int):OkL (Qqx c n):=by
 unfold Qqx;split
 ·refine QjS hc _ fun k=>?_
  unfold Qqj;have:=QxV hc (ZD c.za k);rw[List.getD_eq_getElem?_getD];cases h:(cab c.za (ZD c.za k) c.za.length)[n.toNat]? with
  | none=>simp
  | some x =>
    have:=this x (QKd h);simp;omega
 exact Qd8
theorem QuJ {c:Qr} (hc:OkC c) (n:Int):OkL (Qmp c n):=by
 unfold Qmp;split
 ·refine QjS hc _ fun k=>?_
  unfold QcK Uf fi;have h1:=Qpg hc (ZD c.za k)
  grind
 exact Qd8
theorem QrN {c:Qr} (hc:OkC c):OkL [(U4 c).1]:=by
 have h1:=hc.slen;unfold U4;rw[if_pos hc];split
 ·rename_i n hn
  unfold Qdn at hn;have:=List.mem_of_find?_eq_some hn;rw[QKr] at this;exact Yo (by grind)
 exact Yo (by simp)
theorem Qnq {m:Machine} (w mn:Int):OkL [(Jw m w mn).1,(Jw m w mn).2]:=by
 have key:∀ s∈tL m (QaM w mn 0),Sml (Qbz m w mn s)/\Sml (upS m w mn s):=fun s hs=>by
  obtain ⟨hm,ha,ho⟩:=QDe hs;have ha:=of_decide_eq_true ha;obtain ⟨n1,n2⟩:=hm.numB ho ha.1 ha.2.1;obtain ⟨d1,d2⟩:=hm.denB ho;unfold Qbz upS Sml;have q1:=QKD n1 (b:=den s);have q2:=QKD (show 0<=num m s w mn+den s-1 by omega) (b:=den s)
  rw[q1,q2];have a1:=Int.ediv_nonneg n1 (show 0<=den s by omega)
  have a2:=Int.ediv_le_self (den s) n1;have a3:=Int.ediv_nonneg (show 0<=num m s w mn+den s-1 by omega) (show 0<=den s by omega)
  have a4:=Int.ediv_le_self (den s) (show 0<=num m s w mn+den s-1 by omega)
  omega
 unfold Jw;refine Qd7 (VQ fun x hx=>?_).1 (VQ fun x hx=>?_).2
 all_goals grind
theorem Qti (p:Qf) (n:Int):OkL (qK p n):=Qfi _ 0 12 (by omega) (by omega) (by omega)
theorem QqZ (p:Qf) (n:Int):OkL [(Vt p n).1,(Vt p n).2]:=by
 unfold Vt;split
 ·exact Qnq _ _
 exact Qd7 (by simp) (by simp)
theorem Qxw {p:Qf} (hp:OkP p):OkL [(rFail p).1,(rFail p).2]:=by
 have h1:p.zf.length<=12:=by
  rw[hp.many];exact QKG (U5 _) hp.zc.len
 have key:∀ x∈(kL p true).map (fun t=>(Xf p t:Int)),Sml x:=fun x hx=>by
  obtain ⟨t,_,rfl⟩:=QKh.1 hx;have:=QkF p t;omega
 exact Qd7 (VQ key).1 (VQ key).2
theorem Qy6 {α:Type} {pc:Nat->List α} {n:Nat} {x:α} (h:x∈acc pc n):∃ i<n,x∈pc i:=by
 unfold acc at h
 grind
theorem Qvl {p:Qf} (hp:OkP p):OkL (Qd2 p):=by
 have h2:=OkD.cnt hp.zc.za p.zc.za.length (QJ2 _) (QJ2 _);have h3:=hp.zc.len;have h4:(XR p.zc.za).toNat<=12:=by unfold XR;omega
 unfold Qd2;split
 ·refine ⟨?_,fun n hn=>?_⟩
  ·refine QKG (QjB _ 1 (fun i=>?_) _) (by omega)
   split<;>simp
  obtain ⟨i,hi,hx⟩:=Qy6 hn
  grind
 exact Qd8
theorem Qqv (p:Qf):OkL [(J7 p).1]:=by
 have h:=Qm1 p;unfold J7;split
 ·split
  ·exact Yo (by simp)
  exact Yo (by grind)
 exact Yo (by simp)
theorem Qqz (p:Qf):OkL [(Ue p).1]:=by
 unfold Ue;split
 ·unfold JL
  split
  ·split
   ·exact Yo (by simp)
   have:=(QlI p.zb (tL p.zb (QaM 0 0 p.zo)) 0 p.zo).1;exact Yo (by grind)
  exact Yo (by simp)
 exact Yo (by simp)
theorem Qla (u:Zh):OkL [(span ((uL u true).map qi)).1,(span ((uL u true).map qi)).2]:=by
 have key:∀ x∈(uL u true).map qi,Sml x:=fun x hx=>by
  obtain ⟨t,ht,rfl⟩:=QKh.1 hx;have:=QzD ht;unfold qi Sml;omega
 exact Qd7 (VQ key).1 (VQ key).2
theorem Qy4 (u:Zh):OkL [(Qd3 u).1]:=by
 unfold Qd3;split
 ·split
  ·rename_i n hn
   unfold Qmc at hn;have:=List.mem_of_find?_eq_some hn;rw[QKr] at this;exact Yo (by grind)
  exact Yo (by simp)
 exact Yo (by simp)
theorem Qva (u:Zh) (n:Int):OkL (Qlt u n):=by
 unfold Qlt;split
 ·rename_i h
  obtain ⟨hp,hb,_⟩:=QdK h;have hb:=of_decide_eq_true hb;simp only[inR] at hb;have xd:n.toNat<u.zi.length:=by omega
  have hr:=hp.zi _ (QJ1 xd);rw[List.getD_eq_getElem?_getD,QJW xd,QKO];simp only[Ve,inR] at hr;exact Qfi _ _ _ (by omega) (by omega) (by omega)
 exact Qd8
theorem Qa0 (a b:Int):XV a b=1\/XV a b=2\/XV a b=3:=by
 unfold XV;omega
theorem QsM {p:Qf} (h:kE p true=0):rCond p=1\/rCond p=2\/rCond p=3:=by
 unfold rCond;rw[if_pos h];exact Qa0 _ _
theorem QrF {p:Qf} (h:kE p true=0):rGood p=1\/rGood p=2\/rGood p=3:=by
 unfold rGood;rw[if_pos h];exact Qa0 _ _
theorem Qlv {p:Qf} {n:Int} (h:kE p (qa p n)=0):rProved p n=1\/rProved p n=2\/rProved p n=3:=by
 unfold rProved;rw[if_pos h];exact Qa0 _ _
theorem QnM {u:Zh} {n:Int} (h:uE u (Qd5 n)=0):qJ u n=1\/qJ u n=2\/qJ u n=3:=by
 unfold qJ Qdf;omega
theorem Qv {h:Qd} (ho:okH h):QM h:=by
 have h1:=ho.1.zc.len;have h2:=ho.1.zc.slen;have h3:=ho.1.zb.len;have h4:=ho.1.zb.blen;have h5:=ho.1.many;have h6:=U5 h.ze.zc.za;have h7:=ho.2.rlen;have h8:=ho.2.xlen;exact ⟨⟨by omega,by omega,by omega,by omega,by omega⟩,by omega,by omega⟩
theorem Qth:ZL prog 100 QCc [0]:=⟨_,func100,by kernel_rfl⟩
theorem Qtg:ZL prog 103 QCb [0]:=⟨_,func103,by kernel_rfl⟩
theorem Qtf:ZL prog 105 QCa [0]:=⟨_,func105,by kernel_rfl⟩
theorem Qte:ZL prog 108 QB9 [0]:=⟨_,func108,by kernel_rfl⟩
theorem Qtd:ZL prog 111 QB8 [0]:=⟨_,func111,by kernel_rfl⟩
theorem Qtc:ZL prog 113 QB7 [0]:=⟨_,func113,by kernel_rfl⟩
theorem Qtb:ZL prog 115 QB6 [0]:=⟨_,func115,by kernel_rfl⟩
theorem Qta:ZL prog 117 QB5 [0]:=⟨_,func117,by kernel_rfl⟩
theorem Qs9:ZL prog 120 QB4 [0]:=⟨_,func120,by kernel_rfl⟩
theorem Qs8:ZL prog 122 QB3 [0]:=⟨_,func122,by kernel_rfl⟩
theorem Qs7:ZL prog 124 QB2 [0]:=⟨_,func124,by kernel_rfl⟩
theorem Qs6:ZL prog 126 QB1 [0]:=⟨_,func126,by kernel_rfl⟩
theorem Qs5:ZL prog 128 QB0 [0]:=⟨_,func128,by kernel_rfl⟩
theorem Qs4:ZL prog 130 QBZ [0]:=⟨_,func130,by kernel_rfl⟩
theorem Qs3:ZL prog 132 QBY [0]:=⟨_,func132,by kernel_rfl⟩
theorem Qs2:ZL prog 134 QBX [0]:=⟨_,func134,by kernel_rfl⟩
theorem Qs1:ZL prog 136 QBW [0]:=⟨_,func136,by kernel_rfl⟩
theorem QrE (h:Qd) (a:Int) (ho:okH h) (hf:QcF h):Gh KW 100 (.loc 0 0::[QW [a]].map .iv) (QF h) [0] (.iv (.str (JD h .who [a]))) (QF h):=by
 have hc:=ho.1.zc;obtain ⟨⟨h1,h2,h3,h4,h5⟩,h6,h7⟩:=Qv ho;refine Qp Qth rfl (by simp[QCc]) ?_
 generalize hG:UM 4 (JD h .who [a]) h=G;have g1:=Qoj hKW h.ze.zc a h1 h2;have g2:=QbW (Qqx h.ze.zc a) (YW h.ze.zc (plB h.ze.zc a)) (fun _=>Qzz hc a)
 have e1:(if YW h.ze.zc (decide (inR a 0 (XR h.ze.zc.za-1)))=0 then Jd ((QS h.ze.zc).map (Qqj h.ze.zc a)) else [])=Qqx h.ze.zc a:=rfl
 have e2:YW h.ze.zc (decide (inR a 0 (XR h.ze.zc.za-1)))=YW h.ze.zc (plB h.ze.zc a):=rfl;rw[e1,e2] at g1;simp[QCc];refine cK (by simpa using g1) ?_
 simp;refine cK (by simpa using g2) ?_
 simp;rw[<- hG];exact QP rfl rfl (by simp[Qc])
theorem QrD (h:Qd) (a:Int) (ho:okH h) (hf:QcF h):Gh KW 103 (.loc 0 0::[QW [a]].map .iv) (QF h) [0] (.iv (.str (JD h .wher [a]))) (QF h):=by
 have hc:=ho.1.zc;obtain ⟨⟨h1,h2,h3,h4,h5⟩,h6,h7⟩:=Qv ho;refine Qp Qtg rfl (by simp[QCb]) ?_
 generalize hG:UM 4 (JD h .wher [a]) h=G;have g1:=Qxp hKW h.ze.zc a h1 h2;have g2:=QbW (Qmp h.ze.zc a) (YW h.ze.zc (UA h.ze.zc a)) (fun _=>QuJ hc a)
 have e1:(if YW h.ze.zc (UA h.ze.zc a)=0 then Jd ((QS h.ze.zc).map (QcK h.ze.zc a)) else [])=Qmp h.ze.zc a:=rfl
 rw[e1] at g1;simp[QCb];refine cK (by simpa using g1) ?_
 simp;refine cK (by simpa using g2) ?_
 simp;rw[<- hG];exact QP rfl rfl (by simp[Qc])
theorem QrC (h:Qd) (ho:okH h) (hf:QcF h):Gh KW 105 (.loc 0 0::[QW []].map .iv) (QF h) [0] (.iv (.str (JD h .first []))) (QF h):=by
 have hc:=ho.1.zc;obtain ⟨⟨h1,h2,h3,h4,h5⟩,h6,h7⟩:=Qv ho;refine Qp Qtf rfl (by simp[QCa]) ?_
 generalize hG:UM 4 (JD h .first []) h=G;have g1:=Qxo hKW h.ze.zc h1 h2;have g2:=Qes (U4 h.ze.zc).1 (U4 h.ze.zc).2 (fun _=>QrN hc)
 simp[QCa];refine cK (by simpa using g1) ?_
 simp;refine cK (by simpa using g2) ?_
 simp;rw[<- hG];exact QP rfl rfl (by simp[Qc])
theorem QrB (h:Qd) (a b:Int) (ho:okH h) (hf:QcF h):Gh KW 108 (.loc 0 0::[QW [a,b]].map .iv) (QF h) [0] (.iv (.str (JD h .pulls [a,b]))) (QF h):=by
 have hc:=ho.1.zc;obtain ⟨⟨h1,h2,h3,h4,h5⟩,h6,h7⟩:=Qv ho;refine Qp Qte rfl (by simp[QB9]) ?_
 generalize hG:UM 4 (JD h .pulls [a,b]) h=G;have g1:=Qoi hKW h.ze.zb a b h3 h4;have g2:=Qer (Jw h.ze.zb a b).1 (Jw h.ze.zb a b).2 (tE h.ze.zb (QaM a b 0)) (fun _=>Qnq a b)
 simp[QB9];refine cK (by simpa using g1) ?_
 simp;refine cK (by simpa using g2) ?_
 simp;rw[<- hG];exact QP rfl rfl (by simp[Qc])
theorem QrA (h:Qd) (a:Int) (ho:okH h) (hf:QcF h):Gh KW 111 (.loc 0 0::[QW [a]].map .iv) (QF h) [0] (.iv (.str (JD h .z8 [a]))) (QF h):=by
 have hc:=ho.1.zc;obtain ⟨⟨h1,h2,h3,h4,h5⟩,h6,h7⟩:=Qv ho;refine Qp Qtd rfl (by simp[QB8]) ?_
 generalize hG:UM 4 (JD h .z8 [a]) h=G;have g1:=Qxn hKW h.ze a hf.ze;have g2:=QbW (qK h.ze a) (kE h.ze (Xb h.ze a)) (fun _=>Qti h.ze a)
 simp[QB8];refine cK (by simpa using g1) ?_
 simp;refine cK (by simpa using g2) ?_
 simp;rw[<- hG];exact QP rfl rfl (by simp[Qc])
theorem Qrz (h:Qd) (a:Int) (ho:okH h) (hf:QcF h):Gh KW 113 (.loc 0 0::[QW [a]].map .iv) (QF h) [0] (.iv (.str (JD h .loads [a]))) (QF h):=by
 have hc:=ho.1.zc;obtain ⟨⟨h1,h2,h3,h4,h5⟩,h6,h7⟩:=Qv ho;refine Qp Qtc rfl (by simp[QB7]) ?_
 generalize hG:UM 4 (JD h .loads [a]) h=G;have g1:=Qxm hKW h.ze a hf.ze;have g2:=Qer (Vt h.ze a).1 (Vt h.ze a).2 (Qhz h.ze a) (fun _=>QqZ h.ze a)
 have e1:(if kE h.ze (Xb h.ze a)=0 then (Jw h.ze.zb (tr h.ze a.toNat).zm (tr h.ze a.toNat).zn).1 else 0)=(Vt h.ze a).1:=by unfold Vt;split<;>rfl
 have e2:(if kE h.ze (Xb h.ze a)=0 then (Jw h.ze.zb (tr h.ze a.toNat).zm (tr h.ze a.toNat).zn).2 else 0)=(Vt h.ze a).2:=by unfold Vt;split<;>rfl
 have e3:(if kE h.ze (Xb h.ze a)=0 then tE h.ze.zb (QaM (tr h.ze a.toNat).zm (tr h.ze a.toNat).zn 0) else kE h.ze (Xb h.ze a))=Qhz h.ze a:=rfl
 rw[e1,e2,e3] at g1;simp[QB7];refine cK (by simpa using g1) ?_
 simp;refine cK (by simpa using g2) ?_
 simp;rw[<- hG];exact QP rfl rfl (by simp[Qc])
theorem Qry (h:Qd) (ho:okH h) (hf:QcF h):Gh KW 115 (.loc 0 0::[QW []].map .iv) (QF h) [0] (.iv (.str (JD h .xa []))) (QF h):=by
 have hc:=ho.1.zc;obtain ⟨⟨h1,h2,h3,h4,h5⟩,h6,h7⟩:=Qv ho;refine Qp Qtb rfl (by simp[QB6]) ?_
 generalize hG:UM 4 (JD h .xa []) h=G;have g1:=Qxl hKW h.ze hf.ze;have g2:=Qer (rFail h.ze).1 (rFail h.ze).2 (kE h.ze true) (fun _=>Qxw ho.1)
 simp[QB6];refine cK (by simpa using g1) ?_
 simp;refine cK (by simpa using g2) ?_
 simp;rw[<- hG];exact QP rfl rfl (by simp[Qc])
theorem Qrx (h:Qd) (ho:okH h) (hf:QcF h):Gh KW 117 (.loc 0 0::[QW []].map .iv) (QF h) [0] (.iv (.str (JD h .y9 []))) (QF h):=by
 have hc:=ho.1.zc;obtain ⟨⟨h1,h2,h3,h4,h5⟩,h6,h7⟩:=Qv ho;refine Qp Qta rfl (by simp[QB5]) ?_
 generalize hG:UM 4 (JD h .y9 []) h=G;have g1:=Qxk hKW h.ze hf.ze;have g2:=Qeq (rCond h.ze) (kE h.ze true) QsM;simp[QB5];refine cK (by simpa using g1) ?_
 simp;refine cK (by simpa using g2) ?_
 simp;rw[<- hG];exact QP rfl rfl (by simp[Qc])
theorem Qrw (h:Qd) (a:Int) (ho:okH h) (hf:QcF h):Gh KW 120 (.loc 0 0::[QW [a]].map .iv) (QF h) [0] (.iv (.str (JD h .xb [a]))) (QF h):=by
 have hc:=ho.1.zc;obtain ⟨⟨h1,h2,h3,h4,h5⟩,h6,h7⟩:=Qv ho;refine Qp Qs9 rfl (by simp[QB4]) ?_
 generalize hG:UM 4 (JD h .xb [a]) h=G;have g1:=Qxj hKW h.ze a hf.ze;have g2:=Qeq (rProved h.ze a) (kE h.ze (qa h.ze a)) Qlv;simp[QB4];refine cK (by simpa using g1) ?_
 simp;refine cK (by simpa using g2) ?_
 simp;rw[<- hG];exact QP rfl rfl (by simp[Qc])
theorem Qrv (h:Qd) (ho:okH h) (hf:QcF h):Gh KW 122 (.loc 0 0::[QW []].map .iv) (QF h) [0] (.iv (.str (JD h .opn []))) (QF h):=by
 have hc:=ho.1.zc;obtain ⟨⟨h1,h2,h3,h4,h5⟩,h6,h7⟩:=Qv ho;refine Qp Qs8 rfl (by simp[QB3]) ?_
 generalize hG:UM 4 (JD h .opn []) h=G;have g1:=Qxi hKW h.ze hf.ze;have g2:=QbW (Qd2 h.ze) (kE h.ze true) (fun _=>Qvl ho.1)
 simp[QB3];refine cK (by simpa using g1) ?_
 simp;refine cK (by simpa using g2) ?_
 simp;rw[<- hG];exact QP rfl rfl (by simp[Qc])
theorem Qru (h:Qd) (ho:okH h) (hf:QcF h):Gh KW 124 (.loc 0 0::[QW []].map .iv) (QF h) [0] (.iv (.str (JD h .good []))) (QF h):=by
 have hc:=ho.1.zc;obtain ⟨⟨h1,h2,h3,h4,h5⟩,h6,h7⟩:=Qv ho;refine Qp Qs7 rfl (by simp[QB2]) ?_
 generalize hG:UM 4 (JD h .good []) h=G;have g1:=Qxh hKW h.ze hf.ze;have g2:=Qeq (rGood h.ze) (kE h.ze true) QrF;simp[QB2];refine cK (by simpa using g1) ?_
 simp;refine cK (by simpa using g2) ?_
 simp;rw[<- hG];exact QP rfl rfl (by simp[Qc])
theorem Qrt (h:Qd) (ho:okH h) (hf:QcF h):Gh KW 126 (.loc 0 0::[QW []].map .iv) (QF h) [0] (.iv (.str (JD h .worth []))) (QF h):=by
 have hc:=ho.1.zc;obtain ⟨⟨h1,h2,h3,h4,h5⟩,h6,h7⟩:=Qv ho;refine Qp Qs6 rfl (by simp[QB1]) ?_
 generalize hG:UM 4 (JD h .worth []) h=G;have g1:=Qxg hKW h.ze hf.ze;have g2:=Qes (J7 h.ze).1 (J7 h.ze).2 (fun _=>Qqv h.ze)
 simp[QB1];refine cK (by simpa using g1) ?_
 simp;refine cK (by simpa using g2) ?_
 simp;rw[<- hG];exact QP rfl rfl (by simp[Qc])
theorem Qrs (h:Qd) (ho:okH h) (hf:QcF h):Gh KW 128 (.loc 0 0::[QW []].map .iv) (QF h) [0] (.iv (.str (JD h .zm []))) (QF h):=by
 have hc:=ho.1.zc;obtain ⟨⟨h1,h2,h3,h4,h5⟩,h6,h7⟩:=Qv ho;refine Qp Qs5 rfl (by simp[QB0]) ?_
 generalize hG:UM 4 (JD h .zm []) h=G;have g1:=Qxf hKW h.ze hf.ze;have g2:=Qes (Ue h.ze).1 (Ue h.ze).2 (fun _=>Qqz h.ze)
 have e1:(if kE h.ze true=0 then (JL h.ze.zb 0 h.ze.zo).1 else 0)=(Ue h.ze).1:=by unfold Ue;split<;>rfl
 have e2:(if kE h.ze true=0 then (JL h.ze.zb 0 h.ze.zo).2 else kE h.ze true)=(Ue h.ze).2:=by unfold Ue;split<;>rfl
 rw[e1,e2] at g1;simp[QB0];refine cK (by simpa using g1) ?_
 simp;refine cK (by simpa using g2) ?_
 simp;rw[<- hG];exact QP rfl rfl (by simp[Qc])
theorem Qrr (h:Qd) (ho:okH h) (hf:QcF h):Gh KW 130 (.loc 0 0::[QW []].map .iv) (QF h) [0] (.iv (.str (JD h .stretch []))) (QF h):=by
 have hc:=ho.1.zc;obtain ⟨⟨h1,h2,h3,h4,h5⟩,h6,h7⟩:=Qv ho;refine Qp Qs4 rfl (by simp[QBZ]) ?_
 generalize hG:UM 4 (JD h .stretch []) h=G;have g1:=Qxe hKW h.zq h6 h7;have g2:=Qer (span ((uL h.zq true).map qi)).1 (span ((uL h.zq true).map qi)).2 (uE h.zq true) (fun _=>Qla h.zq)
 simp[QBZ];refine cK (by simpa using g1) ?_
 simp;refine cK (by simpa using g2) ?_
 simp;rw[<- hG];exact QP rfl rfl (by simp[Qc])
theorem Qrq (h:Qd) (ho:okH h) (hf:QcF h):Gh KW 132 (.loc 0 0::[QW []].map .iv) (QF h) [0] (.iv (.str (JD h .best []))) (QF h):=by
 have hc:=ho.1.zc;obtain ⟨⟨h1,h2,h3,h4,h5⟩,h6,h7⟩:=Qv ho;refine Qp Qs3 rfl (by simp[QBY]) ?_
 generalize hG:UM 4 (JD h .best []) h=G;have g1:=Qxd hKW h.zq h6 h7;have g2:=Qes (Qd3 h.zq).1 (Qd3 h.zq).2 (fun _=>Qy4 h.zq)
 simp[QBY];refine cK (by simpa using g1) ?_
 simp;refine cK (by simpa using g2) ?_
 simp;rw[<- hG];exact QP rfl rfl (by simp[Qc])
theorem Qrp (h:Qd) (a:Int) (ho:okH h) (hf:QcF h):Gh KW 134 (.loc 0 0::[QW [a]].map .iv) (QF h) [0] (.iv (.str (JD h .holds [a]))) (QF h):=by
 have hc:=ho.1.zc;obtain ⟨⟨h1,h2,h3,h4,h5⟩,h6,h7⟩:=Qv ho;refine Qp Qs2 rfl (by simp[QBX]) ?_
 generalize hG:UM 4 (JD h .holds [a]) h=G;have g1:=Qxc hKW h.zq a h6 h7;have g2:=Qeq (qJ h.zq a) (uE h.zq (Qd5 a)) QnM;simp[QBX];refine cK (by simpa using g1) ?_
 simp;refine cK (by simpa using g2) ?_
 simp;rw[<- hG];exact QP rfl rfl (by simp[Qc])
theorem Qro (h:Qd) (a:Int) (ho:okH h) (hf:QcF h):Gh KW 136 (.loc 0 0::[QW [a]].map .iv) (QF h) [0] (.iv (.str (JD h .zi [a]))) (QF h):=by
 have hc:=ho.1.zc;obtain ⟨⟨h1,h2,h3,h4,h5⟩,h6,h7⟩:=Qv ho;refine Qp Qs1 rfl (by simp[QBW]) ?_
 generalize hG:UM 4 (JD h .zi [a]) h=G;have g1:=Qxb hKW h.zq a h6 h7;have g2:=QbW (Qlt h.zq a) (uE h.zq (QtQ h.zq a)) (fun _=>Qva h.zq a)
 simp[QBW];refine cK (by simpa using g1) ?_
 simp;refine cK (by simpa using g2) ?_
 simp;rw[<- hG];exact QP rfl rfl (by simp[Qc])
def chB (first:List Int) (rest:List Qx):List (List Int):=(Zu rest).map (first++·)
include hK
omit hK
def teT (c:Qr) (i:Nat):List (List Int):=((Zu c.za).take i).filter fun e=>decide ((Zf c.za c.zg (QN e):Int)<=c.zh)
def teL (c:Qr):List (List Int):=(Zu c.za).filter fun e=>decide ((Zf c.za c.zg (QN e):Int)<=c.zh)
theorem QzI {c:Qr} (hc:OkC c):Xn c [] c.za=teL c:=by
 unfold Xn teL;rw[show ((Zu c.za).map (([]:List Int)++·))=Zu c.za by simp]
 refine QLn fun e he=>?_
 obtain ⟨h1,h2⟩:=Zg he
 have hch:QCF c.za e:=⟨h1,fun i hi hi'=>by
  have hm:=Qb4 (h2 i hi hi');obtain ⟨h3,h4⟩:=hm;refine ⟨by simp only[inR];omega,fun h=>by omega⟩⟩
 simp[Qt1,hch]
theorem QpZ:∀ {a b:List Int},a.Pairwise (·<·)->b.Pairwise (·<·)->(∀ x,x∈a↔x∈b)->a=b
 | [],[],_,_,_=>rfl
 | [],y::b,_,_,h=>absurd ((h y).2 (by simp)) (by simp)
 | x::a,[],_,_,h=>absurd ((h x).1 (by simp)) (by simp)
 | x::a,y::b,ha,hb,h=>by
   have h1:=List.pairwise_cons.1 ha;have h2:=List.pairwise_cons.1 hb
   have hxy:x=y:=by
    have e1:=(h x).1 (by simp)
    have e2:=(h y).2 (by simp)
    rcases QJ7.1 e1 with e1 | e1
    ·exact e1
    rcases QJ7.1 e2 with e2 | e2
    ·exact e2.symm
    have:=h1.1 y e2;have:=h2.1 x e1;omega
   subst hxy;rw[QpZ h1.2 h2.2 fun z=>?_]
   have hz:=h z;constructor
   ·intro hm
    rcases QJ7.1 (hz.1 (QLj _ hm)) with e | e
    ·subst e;have:=h1.1 z hm;omega
    exact e
   intro hm;rcases QJ7.1 (hz.2 (QLj _ hm)) with e | e
   ·subst e;have:=h2.1 z hm;omega
   exact e
def QJL (c:Qr) (n:Int) (e:List Int):Int:=((cab c.za (QN e) c.za.length).getD n.toNat 0:Nat)
def QHH (c:Qr) (n:Int) (e:List Int):Int:=Uf (cab c.za (QN e) c.za.length) n
include hK
omit hK
set_option maxRecDepth 100000
def Quv:=f0 0xa02f6c28060c30c0277d3d777773d74d7773d75d5d6c2d232c1f232b1f20114e0cd01c240c417791f17771f17731f17711f17701f50113e0cd0dc210481f377d3d777773d74d7773d75d5d6c21d0a2206c221a ⟨_,by conv=>lhs;reduce⟩
def Qur:=f0 0xa02f0c2801b21a4198f635f305773d74d7773d75d5d0c2d0221fb40221fa402cc320e93d0221f9438dd232c1f23281f20161e0cd01c243417711f17701f20160e0cd0721044c1f3773d74d7773d75d5d0c21d0a2200c2216c ⟨_,by conv=>lhs;reduce⟩
def QpJ:=fk func32 Quv (by kernel_rfl)
def Qpp:=fk func63 Qur (by kernel_rfl)
attribute [simp] Quv Qur
def trA (k:Nat) (l:List VM):AV:=if l=[] then .zsl 3 else .yq k l.length
def trO (k:Nat) (l:List VM):Qs:=if l=[] then [] else [(k,.arr 76 3 (emb (l.map trC)) 0)]
def Ul (k:Nat) (p:Qf):List AV:=[.yq k p.zc.za.length,.yq (k+1) p.zc.zg.length,.iv (.int .i64 p.zc.zh),.yq (k+2) p.zb.zd.length,.iv (.int .i64 p.zb.zr),.iv (.int .i64 p.zb.zu),.iv (.int .i64 p.zb.zw),
 .yq (k+3) p.zb.zk.length,.iv (.int .i64 p.zb.zh),trA (k+4) p.zf,.iv (.int .i64 p.zo),.iv (.int .i64 p.ya)]
def Vi (k:Nat) (p:Qf):Qs:=[(k,.arr 73 5 (emb (p.zc.za.map dC)) 0),(k+1,.arr 78 5 (emb (p.zc.zg.map sC)) 0),(k+2,.arr 139 3 (emb (p.zb.zd.map leC)) 0),(k+3,.arr 80 4 (emb (p.zb.zk.map baC)) 0)]++trO (k+4) p.zf
def qR (k:Nat) (h:Qd):List AV:=Ul k h.ze++[.iv (.int .i64 h.zq.yj),.iv (.int .i64 h.zq.yc),.iv (.int .i64 h.zq.yg),.yq (k+5) h.zq.zi.length,.yq (k+6) h.zq.zj.length,.iv (.int .i64 h.zq.zh)]
def WP (k:Nat) (h:Qd):Qs:=Vi k h.ze++[(k+5,.arr 105 3 (emb (h.zq.zi.map roC)) 0),(k+6,.arr 82 7 (emb (h.zq.zj.map reC)) 0)]
theorem Zb {ids:List Nat} {args0:List AV} {o o1:Qs} (h1:ids.Nodup) (h2:args0.all (clA [])=true) (h3:o1.all (fun q=>decide (q.1<ids.length)&&Zn q.2)=true) (h4:ids.all (fun j=>(Qc o j).isNone)=true):HOk ids args0 o [] o1:=by
 refine ⟨h1,h2,by simp,fun i hi _=>?_,fun q hq=>?_⟩
 ·have hi:=QKr.1 hi
  have:=QKw.1 h4 (nth ids i) (by unfold nth;grind)
  simpa using this
 grind
include hK
theorem Qrn (c:Qr) (hl:c.za.length<=1000) (hs:c.zg.length<=1000):Gh K 140 [.iv (chV c)] [] [] (.agg [.yq 0 c.za.length,.yq 1 c.zg.length,.iv (.int .i64 c.zh)]) [(0,.arr 73 5 (emb (c.za.map dC)) 0),(1,.arr 78 5 (emb (c.zg.map sC)) 0)]:=by
 refine Q0 [5,9] [] [] [] Qy0.p (by simp[QBV]) (by simp) ?_ ?_ ?_ ?_
 ·intro q hq
  simp only[QJ7,QKc,or_false] at hq;rcases hq with rfl | rfl<;>exact ⟨by simp,rfl,XM _ _ _ _ _⟩
 ·simp[clA,clAL]
 ·simp
 generalize hG:Qg0 QBV.res _ _ _ _=G;simp[QBV];refine ⟨by omega,by omega,?_⟩
 rw[<- hG];refine ⟨⟨_,rfl,rfl⟩,fun q hq=>?_,by simp⟩
 simp only[QJ7,QKc,or_false] at hq;rcases hq with rfl | rfl<;>simp[rnO,nth,qF,emb,Qc]
theorem Qrm (m:Machine) (hl:m.zd.length<=1000) (hs:m.zk.length<=1000):Gh K 141 [.iv (maV m)] [] [] (.agg [.yq 0 m.zd.length,.iv (.int .i64 m.zr),.iv (.int .i64 m.zu),.iv (.int .i64 m.zw),.yq 1 m.zk.length,.iv (.int .i64 m.zh)]) [(0,.arr 139 3 (emb (m.zd.map leC)) 0),(1,.arr 80 4 (emb (m.zk.map baC)) 0)]:=by
 refine Q0 [5,9] [] [] [] QyZ.p (by simp[QBU]) (by simp) ?_ ?_ ?_ ?_
 ·intro q hq
  simp only[QJ7,QKc,or_false] at hq;rcases hq with rfl | rfl<;>exact ⟨by simp,rfl,XM _ _ _ _ _⟩
 ·simp[clA,clAL]
 ·simp
 generalize hG:Qg0 QBU.res _ _ _ _=G;simp[QBU];refine ⟨by omega,by omega,?_⟩
 rw[<- hG];refine ⟨⟨_,rfl,rfl⟩,fun q hq=>?_,by simp⟩
 simp only[QJ7,QKc,or_false] at hq;rcases hq with rfl | rfl<;>simp[rnO,nth,qF,emb,Qc]
theorem QvX (p:Zh) (hl:p.zi.length<=1000) (hs:p.zj.length<=1000):Gh K 64 [.iv (puV p)] [] [] (.agg [.iv (.int .i64 p.yj),.iv (.int .i64 p.yc),.iv (.int .i64 p.yg),.yq 0 p.zi.length,.yq 1 p.zj.length,.iv (.int .i64 p.zh)]) [(0,.arr 105 3 (emb (p.zi.map roC)) 0),(1,.arr 82 7 (emb (p.zj.map reC)) 0)]:=by
 refine Q0 [5,9] [] [] [] (fk func64 c64 (by kernel_rfl)).p (by simp[c64]) (by simp) ?_ ?_ ?_ ?_
 ·intro q hq
  simp only[QJ7,QKc,or_false] at hq;rcases hq with rfl | rfl<;>exact ⟨by simp,rfl,XM _ _ _ _ _⟩
 ·simp[clA,clAL]
 ·simp
 generalize hG:Qg0 c64.res _ _ _ _=G;simp[c64];refine ⟨by omega,by omega,?_⟩
 rw[<- hG];refine ⟨⟨_,rfl,rfl⟩,fun q hq=>?_,by simp⟩
 simp only[QJ7,QKc,or_false] at hq;rcases hq with rfl | rfl<;>simp[rnO,nth,qF,emb,Qc]
theorem QvY (p:Qf) (hs:QjC p):Gh K 63 [.iv (prV p)] [] [] (.agg (Ul 0 p)) (Vi 0 p):=by
 obtain ⟨h1,h2,h3,h4,h5⟩:=hs;have g52:=Qrn hK p.zc h1 h2;have g53:=Qrm hK p.zb h3 h4;cases ht:p.zf with
 | nil =>
   refine Q0 [6000,6001,9000,9004,9] [] [] [] Qpp.p (by simp[Qur]) (by simp) ?_ ?_ ?_ ?_
   ·intro q hq
    simp only[Vi,trO,ht,if_true,if_false,QKj,QJ8,QKe,reduceCtorEq,QJ7,QKc,or_false] at hq;rcases hq with rfl | rfl | rfl | rfl<;>exact ⟨by simp,rfl,XM _ _ _ _ _⟩
   ·simp[Ul,Vi,trA,trO,ht,clA,clAL]
   ·simp
   generalize hG:Qg0 Qur.res _ _ _ _=G;simp[Qur];refine Qj g52 (by simp[nth,rn]) (Zb (by decide) rfl (by simp[Zn]) (by simp[Qc])) ?_
   simp[nth,rn];refine Qj g53 (by simp[nth,rn]) (Zb (by decide) rfl (by simp[Zn]) (by simp[Qc])) ?_
   simp[nth,rn,ht];rw[<- hG];refine ⟨⟨_,rfl,by simp[Ul,trA,ht,rn,rnL,nth]⟩,fun q hq=>?_,by simp⟩
   simp only[Vi,trO,ht,if_true,if_false,QKj,QJ8,QKe,reduceCtorEq,QJ7,QKc,or_false] at hq;rcases hq with rfl | rfl | rfl | rfl<;>simp[rnO,nth,qF,emb,Qc]
 | cons t r =>
   rw[ht] at h5;simp at h5;refine Q0 [6000,6001,9000,9004,9] [] [] [] Qpp.p (by simp[Qur]) (by simp) ?_ ?_ ?_ ?_
   ·intro q hq
    simp only[Vi,trO,ht,if_true,if_false,QKj,QJ8,QKe,reduceCtorEq,QJ7,QKc,or_false] at hq;rcases hq with rfl | rfl | rfl | rfl | rfl<;>exact ⟨by simp,rfl,XM _ _ _ _ _⟩
   ·simp[Ul,Vi,trA,trO,ht,clA,clAL]
   ·simp
   generalize hG:Qg0 Qur.res _ _ _ _=G;simp[Qur];refine Qj g52 (by simp[nth,rn]) (Zb (by decide) rfl (by simp[Zn]) (by simp[Qc])) ?_
   simp[nth,rn];refine Qj g53 (by simp[nth,rn]) (Zb (by decide) rfl (by simp[Zn]) (by simp[Qc])) ?_
   simp[nth,rn,ht];refine ⟨by omega,?_⟩
   rw[<- hG];refine ⟨⟨_,rfl,by simp[Ul,trA,ht,rn,rnL,nth]⟩,fun q hq=>?_,by simp⟩
   simp only[Vi,trO,ht,if_true,if_false,QKj,QJ8,QKe,reduceCtorEq,QJ7,QKc,or_false] at hq;rcases hq with rfl | rfl | rfl | rfl | rfl<;>simp[rnO,nth,qF,emb,Qc]
theorem JW (h:Qd) (hs:QM h):Gh K 32 [.iv (hoV h)] [] [] (.agg (qR 0 h)) (WP 0 h):=by
 have g24:=QvY hK h.ze hs.ze;have g25:=QvX hK h.zq hs.zi hs.zj;have hsr:=hs.zi;have hsx:=hs.zj;cases ht:h.ze.zf with
 | nil =>
   refine Q0 [6000,6001,6003,6007,6009,9003,9004] [] [] [] QpJ.p (by simp[Quv]) (by simp) ?_ ?_ ?_ ?_
   ·intro q hq
    simp only[WP,Vi,trO,ht,if_true,if_false,QKj,QJ8,QKe,reduceCtorEq,QJ7,QKc,or_false] at hq;rcases hq with rfl | rfl | rfl | rfl | rfl | rfl<;>exact ⟨by simp,rfl,XM _ _ _ _ _⟩
   ·simp[qR,WP,Ul,Vi,trA,trO,ht,clA,clAL]
   ·simp
   generalize hG:Qg0 Quv.res _ _ _ _=G;simp only[Ul,Vi,trA,trO,ht,if_true,if_false,reduceCtorEq] at g24;simp[Quv];refine Qj g24 (by simp[nth,rn]) (Zb (by decide) rfl (by simp[Zn]) (by simp[Qc])) ?_
   simp[nth,rn,rnL];refine Qj g25 (by simp[nth,rn]) (Zb (by decide) rfl (by simp[Zn]) (by simp[Qc])) ?_
   simp[nth,rn,rnL];rw[<- hG];refine ⟨⟨_,rfl,by simp[qR,Ul,trA,ht,rn,rnL,nth]⟩,fun q hq=>?_,by simp⟩
   simp only[WP,Vi,trO,ht,if_true,if_false,QKj,QJ8,QKe,reduceCtorEq,QJ7,QKc,or_false] at hq;rcases hq with rfl | rfl | rfl | rfl | rfl | rfl<;>simp[rnO,nth,qF,emb,Qc]
 | cons t r =>
   refine Q0 [6000,6001,6003,6007,6009,9003,9004] [] [] [] QpJ.p (by simp[Quv]) (by simp) ?_ ?_ ?_ ?_
   ·intro q hq
    simp only[WP,Vi,trO,ht,if_true,if_false,QKj,QJ8,QKe,reduceCtorEq,QJ7,QKc,or_false] at hq;rcases hq with rfl | rfl | rfl | rfl | rfl | rfl | rfl<;>exact ⟨by simp,rfl,XM _ _ _ _ _⟩
   ·simp[qR,WP,Ul,Vi,trA,trO,ht,clA,clAL]
   ·simp
   generalize hG:Qg0 Quv.res _ _ _ _=G;simp only[Ul,Vi,trA,trO,ht,if_true,if_false,reduceCtorEq] at g24;simp[Quv];refine Qj g24 (by simp[nth,rn]) (Zb (by decide) rfl (by simp[Zn]) (by simp[Qc])) ?_
   simp[nth,rn,rnL];refine Qj g25 (by simp[nth,rn]) (Zb (by decide) rfl (by simp[Zn]) (by simp[Qc])) ?_
   simp[nth,rn,rnL];rw[<- hG];refine ⟨⟨_,rfl,by simp[qR,Ul,trA,ht,rn,rnL,nth]⟩,fun q hq=>?_,by simp⟩
   simp only[WP,Vi,trO,ht,if_true,if_false,QKj,QJ8,QKe,reduceCtorEq,QJ7,QKc,or_false] at hq;rcases hq with rfl | rfl | rfl | rfl | rfl | rfl | rfl<;>simp[rnO,nth,qF,emb,Qc]
end Go.Pf
