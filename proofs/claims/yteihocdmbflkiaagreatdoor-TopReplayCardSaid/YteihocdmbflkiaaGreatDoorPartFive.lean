/- What proofs answers: Loads, Broke. -/
import Derived.Test.YteihocdmbflkiaaGreatDoorPartFour
import Derived.Lib.ItoaNum
import Derived.Lib.ItoaMem
import Derived.Lib.AtoiTie
import Derived.Lib.Strings
import Derived.Lib.SplitLaws
import Derived.Test.YteihocdmbflkiaaGreatDoorPartThree
import Derived.ChangeAgain
import Derived.WalkSmall
import Derived.Test.YteihocdmbflkiaaGreatDoorCards
import Derived.Test.YteihocdmbflkiaaGreatDoorTie
import Derived.ProofKit
import Derived.OpenShut
import Derived.Lay
import Derived.Lib.LaidTab
import Derived.Stop.LaidErr
import Derived.JoinedCond
set_option linter.all false
namespace Go.Pf
open Go Go.Ev Go.Proofs Go.RowKit Go.Proofs.Tryz
variable {K:World->Prop} (hK:∀ w w',K w->Below w.heap.size w w'->K w')
set_option maxRecDepth 8000
theorem qI (l:List Int) (lo hi:Int):(Jg l lo hi).Pairwise (·<·):=by
 unfold Jg Qbf;refine List.Pairwise.filter _ ?_;rw[List.pairwise_map];exact List.pairwise_lt_range.imp fun {a b} h=>by omega
theorem UC (l:List Int) (lo hi x:Int):x∈Jg l lo hi↔lo<=x/\x<=hi/\x∈l:=by
 unfold Jg Qbf;simp only[QLw,QK8,QLi,decide_eq_true_eq];constructor
 ·grind
 ·rintro ⟨h1,h2,h3⟩
  exact ⟨⟨(x-lo).toNat,by omega,by omega⟩,h3⟩
include hK
theorem QBc (p:Qe) (n:Int) (hf:Few p):Gd K 93 [prV p,.int .i64 n] (.xg [Q0 (qU p n),.int .i64 (kE p (Xk p n))]):=by
 refine Qb hK (fk func93 c93 (by kernel_rfl)) (by simp) ?_
 have hg:=UO hK p (Xk p n) hf.fine;have hg93:Gd K 176 [prV p,.int .i64 n] (.bool (Xk p n)):=Qoo hK p n hf.fine.small.zf;simp;refine cK (by simpa using hg93) ?_
 simp;refine cK (by simpa using hg) ?_
 by_cases he:kE p (Xk p n)=0;rotate_left
 ·have hk:=QnN he
  have hr:qU p n=[]:=by unfold qU;rw[hk];simp[Jg,Qbf]
  simp[he,hr]
 ·obtain ⟨hp,hn,hk,hne⟩:=JE he
  have hn':=of_decide_eq_true hn;simp only[inR] at hn';have hE:=hf.ends hp;have htl:=hp.trialsLen;obtain ⟨i,rfl⟩:∃ i:Nat,n=i:=⟨n.toNat,by omega⟩
  have hi:i<p.zf.length:=by omega
  have hbr:qU p i=Jh (((Z3 p.zc [] p.zc.za).map fun e=>QI p i (QO e)).filter fun x=>decide (0<=x)):=by
   refine QhV (qI _ _ _) (V3 _) fun x=>?_
   unfold qU;rw[UC,Vp,hk];simp only[QLQ,QK8,QLw,decide_eq_true_eq]
   have hS:Q3 p.zb [] p.zb.zd≠[]:=fun c=>by
    have h1:=Wq p;rw[Wn,c] at h1;exact hne (QKT (by simpa using h1))
   constructor
   ·rintro ⟨h1,h2,t,ht,rfl⟩
    simp only[QF,QLv,QK8] at ht
    grind
   rintro ⟨⟨e,he,rfl⟩,h1⟩
   have h2:=QaU hp (QO e) hi;refine ⟨h1,by omega,?_⟩
   obtain ⟨s,hs⟩:=QLM _ hS;exact ⟨⟨e,s⟩,by simp only[QF,QLv,QK8];grind,rfl⟩
  rw[hbr];have hfile:Un p=prC p++[.sl 3 (QZ p),.sl 1 (XO p)]:=rfl;have hst:QZ p=(Z3 p.zc [] p.zc.za).map fun e=>ZX p (QO e):=rfl
  rw[hfile,hst];generalize XO p=LL at *;generalize Z3 p.zc [] p.zc.za=E at *;simp[he,prC];intro _
  refine Ql (fun j=>[(1,AV.iv (.int .i64 (i:Nat))),(8,.yn 22),(26,.iv (.sl 3 (E.map fun e=>ZX p (QO e)))),(27,.iv (.int .i64 E.length)),(28,.iv (.int .i64 (j:Nat)))])
   (fun j=>[(22,.xi (Qap (XY (((E.take j).map fun e=>QI p i (QO e)).filter fun x=>decide (0<=x)))))]) E.length (fun _=>True) trivial ?_ ?_
  ·intro _
   rw[Qa QpC.eq_1];simp;refine cK (by simpa using Qiu hK (Qap (XY ((E.map fun e=>QI p i (QO e)).filter fun x=>decide (0<=x))))) ?_
   simp;refine cK (qt ((E.map fun e=>QI p i (QO e)).filter fun x=>decide (0<=x)) (fun x hx=>?_) ?_) ?_
   ·simp only[QLw,QK8] at hx
    obtain ⟨⟨e,_,rfl⟩,_⟩:=hx;have:=QaU hp (QO e) hi;omega
   ·grind
   simp
  ·intro j hj _ ih
   have hst:ZX p (QO E[j])=[.sl 1 ((List.range p.zf.length).map fun i=>[.int .u64 (Xu (ZC p i (QO E[j])):Nat)]),.sl 1 ((List.range p.zf.length).map fun i=>[.int .i64 (QI p i (QO E[j]))]),ZZ (Ji p (QO E[j]))]:=rfl
   rw[Qa QpC.eq_1];rw[QKL hj,QK3,QL7] at ih;by_cases hb:0<=QI p i (QO E[j])
   ·have hfc:(List.map (fun e=>QI p i (QO e)) [E[j]]).filter (fun x=>decide (0<=x))=[QI p i (QO E[j])]:=by simp[hb]
    rw[hfc,XQ] at ih;generalize hl:((E.take j).map fun e=>QI p i (QO e)).filter (fun x=>decide (0<=x))=l at *
    have hll:l.length<=1000000:=by
     grind
    have hle:=QeE (QI p i (QO E[j])) l;have hkk:=YH (XY l);have hff:=JH (QI p i (QO E[j])) (XY l);have hii:=WF (QI p i (QO E[j])) (XY l);generalize XY l=kv at *;simp[hj,hst,hi,hb,hkk,hff,hii] at ih |-
    grind
   ·have hfc:(List.map (fun e=>QI p i (QO e)) [E[j]]).filter (fun x=>decide (0<=x))=[]:=by simp[hb]
    rw[hfc,QK9] at ih;simp[hj,hst,hi,hb] at ih |-
    grind
theorem QBb (p:Qe) (n:Int) (hf:Few p):Gd K 95 [prV p,.int .i64 n] (.xg [.agg [.int .i64 (if kE p (Xk p n)=0 then (JA p.zb (tr p n.toNat).zm (tr p n.toNat).zn).1 else 0),.int .i64 (if kE p (Xk p n)=0 then (JA p.zb (tr p n.toNat).zm (tr p n.toNat).zn).2 else 0)],
   .int .i64 (if kE p (Xk p n)=0 then tE p.zb (QaV (tr p n.toNat).zm (tr p n.toNat).zn 0) else kE p (Xk p n))]):=by
 refine Qb hK (fk func95 c95 (by kernel_rfl)) (by simp) ?_
 have hg:=UO hK p (Xk p n) hf.fine;have hg93:Gd K 176 [prV p,.int .i64 n] (.bool (Xk p n)):=Qoo hK p n hf.fine.small.zf;simp;refine cK (by simpa using hg93) ?_
 simp;refine cK (by simpa using hg) ?_
 by_cases he:kE p (Xk p n)=0
 ·obtain ⟨hp,hn,hk,hne⟩:=JE he
  have hn':=of_decide_eq_true hn;simp only[inR] at hn';have hS:=hf.sets hp;have htl:=hp.trialsLen;obtain ⟨i,rfl⟩:∃ i:Nat,n=i:=⟨n.toNat,by omega⟩
  have hi:i<p.zf.length:=by omega
  have hSne:Q3 p.zb [] p.zb.zd≠[]:=fun c=>by
   have h1:=Wq p;rw[Wn,c] at h1;exact hne (QKT (by simpa using h1))
  have ha:QaV (tr p i).zm (tr p i).zn 0=true:=by
   have a1:=(hp.trial hi).1;have a2:=(hp.trial hi).2.1;simp only[QaV,inR] at a1 a2 |-;simp;omega
  have htE:tE p.zb true=0:=by
   unfold tE;rw[if_pos hp.zb,if_pos rfl,if_neg hSne]
  have hrl:JA p.zb (tr p i).zm (tr p i).zn=((span ((Q3 p.zb [] p.zb.zd).map (QbJ p.zb (tr p i).zm (tr p i).zn))).1,(span ((Q3 p.zb [] p.zb.zd).map (upS p.zb (tr p i).zm (tr p i).zn))).2):=by
   unfold JA tL;rw[ha,if_pos ⟨hp.zb,rfl⟩]
  rw[QLQ,ha,htE,hrl];have hfile:Un p=prC p++[.sl 3 (QZ p),.sl 1 (XO p)]:=rfl;have hlv:XO p=(Q3 p.zb [] p.zb.zd).map fun s=>[.sl 2 (Zq p s)]:=rfl
  rw[hfile,hlv];have hld:∀ s,(Zq p s)[i]?=some [.int .i64 (QbJ p.zb (tr p i).zm (tr p i).zn s),.int .i64 (upS p.zb (tr p i).zm (tr p i).zn s)]:=fun s=>by simp[Zq,hi]
  have hll:∀ s,(Zq p s).length=p.zf.length:=fun s=>by simp[Zq]
  have hld2:∀ s (h:i<(Zq p s).length),(Zq p s)[i]'h=[.int .i64 (QbJ p.zb (tr p i).zm (tr p i).zn s),.int .i64 (upS p.zb (tr p i).zm (tr p i).zn s)]:=fun s h=>by
   grind
  generalize QZ p=SS at *;generalize Q3 p.zb [] p.zb.zd=S at *;have hpos:0<S.length:=QLW.2 hSne;obtain ⟨s0,hs0⟩:∃ s0,S[0]=s0:=⟨_,rfl⟩
  have hcons:∃ S',S=s0::S':=by
   cases S with
   | _=>grind
  generalize QbJ p.zb (tr p i).zm (tr p i).zn=lo at *;generalize upS p.zb (tr p i).zm (tr p i).zn=up at *
  have hmin:(span (S.map lo)).1=(S.map lo).foldl min (lo s0):=by
   obtain ⟨S',rfl⟩:=hcons;show (S'.map lo).foldl min (lo s0)=(S'.map lo).foldl min (min (lo s0) (lo s0))
   grind
  have hmax:(span (S.map up)).2=(S.map up).foldl max (up s0):=by
   obtain ⟨S',rfl⟩:=hcons;show (S'.map up).foldl max (up s0)=(S'.map up).foldl max (max (up s0) (up s0))
   grind
  clear hcons;rw[hmin,hmax];simp[he,prC,hi,hll,hld2,hpos,hs0];intro _
  refine Ql (fun j=>[(1,AV.iv (.int .i64 (i:Nat))),(4,.loc 4 0),(8,.loc 8 0),(35,.iv (.sl 1 (S.map fun s=>[.sl 2 (Zq p s)]))),(36,.iv (.int .i64 (S.length:Nat))),(37,.iv (.int .i64 (j:Nat)))])
   (fun j=>[(4,.box [.iv (.int .i64 0),.iv (.int .i64 0)]),(8,.box [.iv (.int .i64 (((S.map lo).take j).foldl min (lo s0))),.iv (.int .i64 (((S.map up).take j).foldl max (up s0)))])]) S.length (fun _=>True) trivial ?_ ?_
  ·intro _
   rw[Qa QpB.eq_1];simp[QKP]
  intro j hj _ ih;rw[Qa QpB.eq_1];rw[Ue _ _ _ j (by simpa using hj),Ue _ _ _ j (by simpa using hj)] at ih
  simp[hj,hi,hll,hld2,Qdf,Qdg] at ih |-
  grind
 simp[he]
omit hK
theorem Qfj (T:List Q5) (B:Q5->Bool) (hne:T≠[]):(XZ (T.countP B) T.length=1)↔T.all B=true:=by
 have h1:0<T.length:=QLW.2 hne
 have h2:T.countP B=T.length↔T.all B=true:=by
  rw[List.countP_eq_length,QLo]
 unfold XZ
 grind
include hK
theorem Qw0 (p:Qe) (t:Q5) (k:Nat) (hk:k<(Ji p (QO t.ends)).length) (hp:OkP p) (hs:okS p.zb t.set):Gd K 188 [.agg (ZM p t),.ptr (prC p),.ptr [.int .i64 k]] (.bool (Zu p ((Ji p (QO t.ends)).getD k 0:Nat) t)):=by
 refine Qb hK (fk func188 QHp (by kernel_rfl)) (by simp) ?_
 have hl:=hp.deedsLen;have hgd:(Ji p (QO t.ends)).getD k 0=(Ji p (QO t.ends))[k]:=by grind
 have hlt12:(Ji p (QO t.ends))[k]<12:=by
  have:=Qad _ _ _ _ (QKR hk);have:=Qhn p.zc.za p.zc.za.length;omega
 have hg:=Qir hK p t p.zo hp;have hb:=Qee hp hs (zo:=p.zo) (k:=(Ji p (QO t.ends))[k]) (by omega)
 have xc:∀ n,pmN (nd p p.zo) t n<2 ^ 64:=fun n=>Qko hp t n
 have hg2:=Qiq hK (pmN (nd p p.zo) t p.zf.length) (Ji p (QO t.ends))[k] (xc _) (by omega)
 have hnd:nd p p.zo=p:=rfl;rw[hb,hnd] at hg2;rw[hnd] at hg;rw[hgd];obtain ⟨v0,v1,v3,hv⟩:∃ v0 v1 v3,ZM p t=[v0,v1,ZZ (Ji p (QO t.ends)),v3]:=⟨_,_,_,rfl⟩
 rw[hv] at hg |-;generalize Ji p (QO t.ends)=now at *;simp[prC];refine cK (by simpa using hg) ?_
 simp[hk];refine cK (by simpa using hg2) ?_
 simp
theorem QxC (p:Qe) (hf:Few p):Gd K 104 [prV p] (.xg [Q0 (Qec p),.int .i64 (kE p true)]):=by
 refine Qb hK (fk func104 QIn (by kernel_rfl)) (by simp) ?_
 have hg:=UO hK p true hf.fine;simp;refine cK (by simpa using hg) ?_
 by_cases he:kE p true=0
 ·obtain ⟨hp,_,hk,hne⟩:=JE he
  have hdl:=hp.deedsLen;have hnl:∀ e,((Ji p e).length:Int)=XU p.zc.za:=fun e=>Xx e hp.zc.za p.zc.za.length (QKS _) (QKS _)
  have hcb:=hp.zc.za.cnt p.zc.za.length (QKS _) (QKS _);have hnl2:∀ e,(Ji p e).length=(XU p.zc.za).toNat:=fun e=>by grind
  have hNb:(XU p.zc.za).toNat<=12:=by show (cnt p.zc.za p.zc.za.length).toNat<=12;omega
  have hg75:∀ s:Nat,s<(XU p.zc.za).toNat->Gd K 187 [.ptr (Un p),.clo 188 [] [.ptr (prC p),.ptr [.int .i64 s]]] (.int .i64 (XZ ((QF p).countP (fun t=>Zu p ((Ji p (QO t.ends)).getD s 0:Nat) t)) (QF p).length)):=fun s hs =>
   Qip hK p (hf.ends hp) (hf.sets hp) (by have:=hf.all hp;omega) 188 [] _ _ (fun t ht=>by simpa using Qw0 hK p t s (by grind) hp (Yn ht)) (by kernel_rfl)
  have hr:Qec p=acc (fun s:Nat=>if (QF p).all (fun t=>Zu p ((Ji p (QO t.ends)).getD s 0:Nat) t) then [] else [(s:Int)]) (XU p.zc.za).toNat:=by unfold Qec;rw[if_pos he,hk]
  have hts:∀ s:Nat,(XZ ((QF p).countP (fun t=>Zu p ((Ji p (QO t.ends)).getD s 0:Nat) t)) (QF p).length=1)↔(QF p).all (fun t=>Zu p ((Ji p (QO t.ends)).getD s 0:Nat) t)=true:=fun s=>Qfj _ _ hne
  have hE:Z3 p.zc [] p.zc.za≠[]:=fun c=>by
   have h1:=Wq p;rw[UB,c] at h1;exact hne (QKT (by simpa using h1))
  have hst:∃ s0 s1 now rest,QZ p=[s0,s1,ZZ now]::rest/\now.length=(XU p.zc.za).toNat:=by
   unfold QZ;cases hEE:Z3 p.zc [] p.zc.za with
   | cons e r=>exact ⟨_,_,Ji p (QO e),_,rfl,hnl2 _⟩
   | _=>grind
  obtain ⟨s0,s1,now,rest,hst,hnow⟩:=hst;rw[hr];have hfile:Un p=prC p++[.sl 3 (QZ p),.sl 1 (XO p)]:=rfl;rw[hfile,hst] at hg75 |-;clear hg hr hfile hst hE;generalize QF p=T at *;generalize XO p=LL at *;generalize (XU p.zc.za).toNat=N at *;obtain ⟨tv,htv⟩:∃ tv:Nat->Int,∀ s,tv s=XZ (T.countP (fun t=>Zu p ((Ji p (QO t.ends)).getD s 0:Nat) t)) T.length:=⟨_,fun _=>rfl⟩
  obtain ⟨all,xf⟩:∃ all:Nat->Bool,∀ s,all s=T.all (fun t=>Zu p ((Ji p (QO t.ends)).getD s 0:Nat) t):=⟨_,fun _=>rfl⟩
  simp only[<- htv,<- xf] at hg75 hts |-;obtain ⟨pc,hpc⟩:∃ pc:Nat->List Int,pc=fun s:Nat=>if all s=true then [] else [(s:Int)]:=⟨_,rfl⟩
  rw[<- hpc];have hpc2:∀ s:Nat,pc s=if all s=true then [] else [(s:Int)]:=fun s=>by rw[hpc]
  clear hpc htv xf;simp[he,prC];intro _;rw[hnow]
  refine Ql (fun i=>[(1,AV.iv (.ptr (prC p))),(4,.iv (.ptr (prC p++[.sl 3 ([s0,s1,ZZ now]::rest),.sl 1 LL]))),(6,.yo 6 (acc pc i).length),(23,.iv (.int .i64 (N:Nat))),(24,.iv (.int .i64 (i:Nat)))])
   (fun i=>[(6,.arr 3 1 (emb ((acc pc i).map fun n=>[.int .i64 n])) 0)]) N (fun _=>True) trivial ?_ ?_
  ·intro _
   rw[Qa QjQ.eq_1];simp[QKP]
  intro i hi _ ih;have hlen:(acc pc i).length<=i*1:=QjV pc 1 (fun s=>by grind) i
  rw[Qa QjQ.eq_1];rw[QaW pc i,hpc2 i] at ih;have hgi:=hg75 i hi;have htsi:=hts i;generalize tv i=tvi at *;generalize acc pc i=A at *;have hi':(i:Int)<N:=by omega
  simp[hi,hi'];refine Qf (by simpa using hgi) (.inr rfl) ?_
  by_cases hal:all i=true
  ·have h1:=htsi.2 hal
   rw[if_pos hal] at ih;simp[h1] at ih |-
   grind
  have h1:¬ tvi=1:=fun c=>hal (htsi.1 c)
  rw[if_neg hal] at ih;simp[h1] at ih |-
  grind
 have hr:Qec p=[]:=by unfold Qec;rw[if_neg he]
 simp[he,hr]
omit hK
theorem JZ {α:Type} (f:α->Int) (n:Int):∀ (l:List α) (b:Int),n<=l.foldl (fun b k=>min b (f k)) b↔n<=b/\∀ k∈l,n<=f k
 | [],b=>by simp
 | a::l,b=>by
   rw[QLs,JZ f n l]
   grind
theorem QnK (p:Qe) (t:Q5) (k:Nat) (n:Int) (hn:0<=n):∀ N:Nat,n<=Qh0 p t k N↔∃ i<N,inN (ZC p i (QO t.ends)) k=true/\¬ QI p i (QO t.ends)=k/\n<=(VE p i t.set).tdiv (den t.set)
 | 0=>by
   have:Qh0 p t k 0 = -1:=rfl;omega
 | N+1=>by
   rw[QlQ];have ih:=QnK p t k n hn N;unfold Qnu;split
   ·rename_i h
    constructor
    all_goals grind
   grind
theorem Qgf (p:Qe) (t:Q5) (n:Int):∀ (l:List Nat) (b:Int),n<=l.foldl (Qqb p t) b↔n<=b/\∀ i∈l,0<=(tr p i).z7->p.z8<=(Qb7 p t i p.zf.length:Int)->n<=(VE p i t.set+den t.set-1).tdiv (den t.set)-1
 | [],b=>by simp
 | a::l,b=>by
   rw[QLs,Qgf p t n l];simp only[QKV,forall_eq_or_imp];unfold Qqb
   grind
theorem Qn1 (f:Nat->Int):∀ l:List Nat,l≠[]->∃ a∈l,∀ b∈l,f b<=f a
 | [],h=>absurd rfl h
 | [a],_=>⟨a,by simp,by simp⟩
 | a::b::l,_=>by
   obtain ⟨c,h1,h2⟩:=Qn1 f (b::l) (by simp)
   grind
theorem QoI {p:Qe} (hp:OkP p) (t:Q5) (n:Int):(Xn (nd p n) t:Int)<p.z8↔∀ i<p.zf.length,0<=(tr p i).z7->p.z8<=(Qb7 p t i p.zf.length:Int)->¬ VE p i t.set<=n*den t.set:=by
 have hrule:=hp.z8;simp only[inR] at hrule;have hf:Xn (nd p n) t=(List.range p.zf.length).countP fun i=>decide (0<=(tr p i).z7)&&decide (VE p i t.set<=n*den t.set):=rfl
 rw[hf];constructor
 ·intro h i hi h1 h2 h3
  have:Qb7 p t i p.zf.length<=(List.range p.zf.length).countP fun i=>decide (0<=(tr p i).z7)&&decide (VE p i t.set<=n*den t.set):=by
   unfold Qb7;refine List.countP_mono_left fun k _ hk=>?_
   grind
  omega
 ·intro h
  refine Classical.byContradiction fun hc=>?_
  have hpos:0<(List.range p.zf.length).countP fun i=>decide (0<=(tr p i).z7)&&decide (VE p i t.set<=n*den t.set):=by omega
  rw[List.countP_eq_length_filter] at hpos hc;obtain ⟨a,ha,hmax⟩:=Qn1 (fun i=>VE p i t.set) _ (QLW.1 hpos)
  simp only[QLw,QLi,QKO,decide_eq_true_eq] at ha;refine h a ha.1 ha.2.1 ?_ ha.2.2
  have:((List.range p.zf.length).filter fun i=>decide (0<=(tr p i).z7)&&decide (VE p i t.set<=n*den t.set)).length<=Qb7 p t a p.zf.length:=by
   rw[<- List.countP_eq_length_filter];unfold Qb7;refine List.countP_mono_left fun k hk1 hk=>?_
   grind
  omega
theorem Qdq {p:Qe} (hp:OkP p) {t:Q5} (hs:okS p.zb t.set) {n:Int} (h0:0<=n) (h1:n<=999999999):Um (nd p n) t=true↔n<=Qfe p t:=by
 have hden:=(hp.zb.denB hs).1;have hld:∀ i<p.zf.length,0<=VE p i t.set:=fun i hi=>(hp.zb.numB hs (hp.trial hi).1 (hp.trial hi).2.1).1
 have hg:Um (nd p n) t=(((Ji p (QO t.ends)).all fun (k:Nat)=>Zu (nd p n) k t)&&decide ((Xn (nd p n) t:Int)<p.z8)):=rfl
 rw[hg,QKO,decide_eq_true_eq,QLo,QoI hp];unfold Qfe;rw[Qgf];unfold QCs;rw[JZ]
 have hprov:∀ k:Nat,Zu (nd p n) k t=true↔n<=Qh0 p t k p.zf.length:=fun k=>by
  rw[QnK p t k n h0];have hpb:Zu (nd p n) k t=(List.range p.zf.length).any fun i=>decide (n*den t.set<=VE p i t.set)&&inN (ZC p i (QO t.ends)) k&&!decide (QI p i (QO t.ends)=k):=rfl
  rw[hpb,QMh];constructor
  ·rintro ⟨i,hi,h2⟩
   have hi:=QLi.1 hi;simp at h2;exact ⟨i,hi,h2.1.2,h2.2,(UK (hld i hi) hden).2 h2.1.1⟩
  rintro ⟨i,hi,h2,h3,h4⟩
  have h5:=(UK (hld i hi) hden).1 h4
  grind
 constructor
 ·rintro ⟨h2,h3⟩
  refine ⟨⟨h1,fun k hk=>(hprov k).1 (h2 k hk)⟩,fun i hi h4 h5=>?_⟩
  have hi:=QLi.1 hi;have h6:=h3 i hi h4 h5;have h7:¬ (VE p i t.set+den t.set-1).tdiv (den t.set)<=n:=fun c=>h6 ((UA (hld i hi) hden).1 c)
  omega
 rintro ⟨⟨_,h2⟩,h3⟩
 refine ⟨fun k hk=>(hprov k).2 (h2 k hk),fun i hi h4 h5 h6=>?_⟩
 have h7:=h3 i (QLi.2 hi) h4 h5;have h8:=(UA (c:=n) (hld i hi) hden).2 h6;omega
theorem Qlq {p:Qe} (hp:OkP p) (he:kE p true=0) {n:Int} (h0:0<=n) (h1:n<=999999999):(QF p).all (Um (nd p n))=true↔n<=Jz p:=by
 unfold Jz;rw[(JE he).2.2.1,JZ,QLo];constructor
 ·exact fun h=>⟨h1,fun t ht=>(Qdq hp (Yn ht) h0 h1).1 (h t ht)⟩
 ·exact fun h t ht=>(Qdq hp (Yn ht) h0 h1).2 (h.2 t ht)
include hK
theorem QwX (p:Qe) (t:Q5) (n:Int) (hp:OkP p) (hs:okS p.zb t.set):Gd K 192 [.agg (ZM p t),.ptr [.int .i64 n],.ptr (prC p)] (.bool (Um (nd p n) t)):=by
 refine Qb hK (fk func192 QHl (by kernel_rfl)) (by simp) ?_
 have hg:=Qon hK p t n hp hs;obtain ⟨v0,v1,v2,v3,hv⟩:∃ v0 v1 v2 v3,ZM p t=[v0,v1,v2,v3]:=⟨_,_,_,_,rfl⟩
 rw[hv] at hg |-;simp[prC];refine cK (by simpa using hg) ?_
 simp
theorem QwY (p:Qe) (n:Int) (hf:Few p) (he:kE p true=0) (h0:0<=n) (h1:n<=999999999):Gd K 191 [.int .i64 n,.ptr [.ptr (Un p)],.ptr (prC p)] (.bool (decide (n<=Jz p))):=by
 refine Qb hK (fk func191 QHm (by kernel_rfl)) (by simp) ?_
 obtain ⟨hp,_,hk,hne⟩:=JE he;have hg:=Qip hK p (hf.ends hp) (hf.sets hp) (by have:=hf.all hp;omega) 192 [] [.ptr [.int .i64 n],.ptr (prC p)] (Um (nd p n)) (fun t ht=>by simpa using QwX hK p t n hp (Yn ht)) (by kernel_rfl)
 have hs:=Qfj (QF p) (Um (nd p n)) hne;rw[Qlq hp he h0 h1] at hs;generalize XZ ((QF p).countP (Um (nd p n))) (QF p).length=tv at *;generalize Un p=F at *;simp;refine cK (by simpa using hg) ?_
 by_cases h:n<=Jz p
 ·have:=hs.2 h
  simp[h,this]
 ·have:¬ tv=1:=fun c=>h (hs.1 c)
  simp[h,this]
theorem QxA (p:Qe) (hf:Few p):Gd K 108 [prV p] (.xg [.int .i64 (Vf p).1,.int .i64 (Vf p).2]):=by
 refine Qb hK (fk func108 QIl (by kernel_rfl)) (by simp) ?_
 have hg:=UO hK p true hf.fine;simp;refine cK (by simpa using hg) ?_
 by_cases he:kE p true=0;rotate_left
 ·have hr:Vf p=(0,kE p true):=by unfold Vf;rw[if_neg he]
  rw[hr];simp[he];refine Qg7 _ _ _ _ _ _ _ _ ?_;simp[he]
 obtain ⟨hp,_,hk,hne⟩:=JE he;have hg74:=fun n h0 h1=>QwY hK p n hf he h0 h1
 have hw:Jz p<=999999999:=(JZ (Qfe p) (Jz p) (kL p true) 999999999).1 (Int.le_refl _) |>.1
 have hr:Vf p=if Jz p<0 then (0,3) else (Jz p,0):=by unfold Vf;rw[if_pos he]
 rw[hr];generalize Jz p=W at *;generalize Un p=F at *;simp[he,prC];refine Qg7 _ _ _ _ _ _ _ _ ?_;simp;refine ⟨by kernel_rfl,cK (by simpa[prC] using hg74 0 (by omega) (by omega)) ?_⟩
 by_cases hneg:W<0
 ·have h2:¬ 0<=W:=by omega
  simp[hneg,h2]
 have h2:0<=W:=by omega
 simp[hneg,h2];refine QAW (S:=Int × Int) (fun s=>[(6,.iv (.clo 191 [] [.ptr [.ptr F],.ptr (prC p)])),(7,.iv (.int .i64 s.1)),(8,.iv (.int .i64 s.2))]) (fun _=>[]) (fun s=>0<=s.1/\s.1<=W/\W<=s.2/\s.2<=999999999) (fun s=>(s.2-s.1).toNat) ?_ (0,999999999) ⟨by omega,h2,hw,by omega⟩
 rintro ⟨low,high⟩ ⟨i1,i2,i3,i4⟩ ih
 simp only at i1 i2 i3 i4 ih |-;rw[Qa Qp7.eq_1];by_cases xc:low<high
 ·have hmid:(low+high+1).tdiv 2=(low+high+1) / 2:=QLD (by omega)
  have hm1:low<(low+high+1) / 2:=by omega
  have hm2:(low+high+1) / 2<=high:=by omega
  have hgm:=hg74 ((low+high+1) / 2) (by omega) (by omega)
  simp[xc,hmid];generalize (low+high+1) / 2=mid at *
  (repeat' first | omega | (with_reducible apply And.intro) | intro _)
  ·kernel_rfl
  refine cK (by omega) ?_
  by_cases hmw:mid<=W
  ·simp[hmw]
   exact ih (mid,high) ⟨by simp only;omega,hmw,i3,i4⟩ (by simp only;omega)
  simp[hmw]
  (repeat' first | omega | (with_reducible apply And.intro) | intro _)
  exact ih (low,mid-1) ⟨i1,i2,by simp only;omega,by simp only;omega⟩ (by simp only;omega)
 have:low=W:=by omega
 subst this;simp[xc]
omit hK
def exD:List Qx:=[⟨1,0,0,5,1⟩,⟨1,1,0,5,2⟩,⟨1,2,0,6,1⟩,⟨4,0,0,0,0⟩,⟨2,0,2,0,0⟩,⟨1,0,1,7,2⟩]
def exC:Qs:=⟨exD++[⟨4,0,0,0,0⟩],[],0⟩
def exM:Machine:=⟨[⟨100,10,11⟩,⟨50,5,5⟩],20,1,2,[⟨10,5,2500,250⟩],0⟩
def exP:Qe:=⟨exC,exM,[⟨30,0,0⟩,⟨31,0,-1⟩],4600,1⟩
include hK
theorem Qxi:Gd K 137 [] (maV exM):=by
 refine Qb hK (fk func137 QHZ (by kernel_rfl)) (by simp) ?_
 simp[exM]
def Qr4:AV:=.xg [.agg [.yo 0 6,.iv (.sl 5 []),.iv (.int .i64 0)],.iv (.agg [.int .i64 6,.int .i64 1,.int .i64 0,.int .i64 6,.int .i64 (-1)]),.iv (.agg [.int .i64 6,.int .i64 0,.int .i64 0,.int .i64 (-1),.int .i64 1])]
theorem QrF:Gh K 136 [] [] [] Qr4 [(0,.arr 139 5 (emb (exD.map dC)) 0)]:=by
 refine QW [9] [] [] [] (fk func136 QDf (by kernel_rfl)).p (by simp[QDf]) (by simp) ?_ ?_ ?_ ?_
 ·intro q hq
  simp only[QLe] at hq;subst hq;exact ⟨by simp,rfl,Xw _ _ _ _ _⟩
 ·simp[clA,clAL,Qr4]
 ·simp
 ·generalize hG:Qha QDf.res [9] [] Qr4 [(0,.arr 139 5 (emb (exD.map dC)) 0)]=G
  simp;rw[<- hG];refine ⟨⟨_,rfl,rfl⟩,fun q hq=>?_,by simp⟩
  simp only[QLe] at hq;subst hq;rfl
theorem QBk:Gd K 54 [] (prV exP):=by
 refine Qb hK (fk func54 c54 (by kernel_rfl)) (by simp) ?_
 simp;refine Qj (QrF hK) rfl ?_ ?_
 ·refine ⟨by simp,by simp,by simp,by simp[Qc],?_⟩
  simp[Zp]
 simp[Qr4,rn,rnL,nth,YL];refine ⟨⟨rfl,by decide,by decide⟩,cK (by simpa using Qxi hK) ?_⟩
 simp[exP,exC,exM,exD,emb]
omit hK
theorem QgJ:OkC exC:=by
 refine ⟨by decide,by decide,by decide,fun i h _=>?_,fun s hs=>by simp[exC] at hs⟩
 have all:∀ i<7,Zr (exC.za.getD i d0) (cnt exC.za i):=by decide
 have:=all i h
 grind
theorem QoL:OkM exM:=by
 refine ⟨by decide,?_,by decide,by decide,by decide,by decide,?_,by decide⟩
 ·intro l hl;simp[exM] at hl;rcases hl with rfl | rfl<;>decide
 intro l hl;simp[exM] at hl;subst hl;decide
theorem QgI:OkP exP:=by
 refine ⟨QgJ,QoL,by decide,by decide,by decide,fun i h h'=>?_⟩
 have all:∀ i<2,Yt (exP.zf.getD i t0) (cnt exP.zc.za ((pv exP.zc.za).getD i 0)):=by decide
 have:=all i h'
 grind
theorem QgO {c:Qs} (hc:OkC c) (hs:c.zg=[]):Z3 c [] c.za=QX c.za:=by
 have hw:=hc.zh;simp only[inR] at hw;unfold Z3;have e1:((QX c.za).map fun x=>[]++x)=QX c.za:=by simp
 rw[e1,List.filter_eq_self];intro e he;have h1:=QjY hc he;have h2:(Q6 c.za c.zg (QO e):Int)<=c.zh:=by rw[hs];simpa[Q6] using hw.1
 simpa using ⟨h1,h2⟩
theorem QcV:∀ {ls:List ZI} {e:List Int},e∈Za ls->e.length=ls.length/\∀ i (h:i<ls.length) (h':i<e.length),inR e[i] ls[i].lo ls[i].hi
 | [],e,h=>by simp[Za] at h;subst h;simp
 | l::r,e,h=>by
   simp only[Za,acc,QLv,QK8,QLi] at h;obtain ⟨i,hi,e',he',rfl⟩:=h;obtain ⟨h1,h2⟩:=QcV he';refine ⟨by simp[h1],fun j h h'=>?_⟩
   cases j with
   | zero=>simp only[QMs,inR];omega
   | _=>grind
theorem Qvc {m:Machine} {s:Qm} (h:s∈Zm m [] m.zd):okS m s:=by
 simp only[Zm,QLv,QK8,QLi] at h;obtain ⟨e,he,k,hk,rfl⟩:=h;obtain ⟨h1,h2⟩:=QcV he;exact ⟨by simpa using h1,by simp only[inR];omega,by simpa using h2⟩
theorem Qhz (m:Machine):Q3 m [] m.zd=(Zm m [] m.zd).filter fun s=>decide ((ZW m m.zk s:Int)<=m.zh):=by
 unfold Q3;refine QMn fun s hs=>?_
 rw[Bool.eq_iff_iff];simp only[decide_eq_true_eq];exact ⟨fun h=>h.2,fun h=>⟨Qvc hs,h⟩⟩
def exT:List Q5:=[⟨[0,0,0,0,0,1,0],⟨[10,5],1⟩⟩,⟨[0,0,0,0,0,1,0],⟨[11,5],1⟩⟩,⟨[0,0,0,0,1,1,0],⟨[10,5],1⟩⟩,⟨[0,0,0,0,1,1,0],⟨[11,5],1⟩⟩]
theorem Qr1:QF exP=exT:=by
 unfold QF;rw[show exP.zc=exC from rfl,show exP.zb=exM from rfl,QgO QgJ rfl,Qhz]
 decide
theorem QBQ (r:Int) (hr:inR r 1 12):Few { exP with z8:=r }:=by
 have h2:QF { exP with z8:=r }=exT:=Qr1
 refine ⟨⟨⟨show exP.zc.za.length<=1000 by decide,show exP.zc.zg.length<=1000 by decide,show exP.zb.zd.length<=1000 by decide,show exP.zb.zk.length<=1000 by decide,show exP.zf.length<=1000 by decide⟩,fun _=>show sets exP.zb exP.zb.zd.length<=1000000 by decide⟩,fun _=>?_,fun _=>?_,fun _=>by rw[h2];decide⟩
 ·rw[show ({ exP with z8:=r }:Qe).zc=exC from rfl,QgO QgJ rfl];decide
 ·rw[show ({ exP with z8:=r }:Qe).zb=exM from rfl,Qhz]
  exact QLp (QLl _ _) (by decide)
include hK
omit hK
theorem Qcf:∀ ds:List Qx,(QX ds).length<=2 ^ ZA ds
 | []=>by show 1<=2 ^ 0;decide
 | d::r=>by
   have ih:=Qcf r;by_cases h2:d.z6=2
   ·have e1:ZA (d::r)=ZA r+1:=by simp[ZA,h2]
    rw[e1,Nat.pow_succ];simp[QX,UT,h2];omega
   have e1:ZA (d::r)=ZA r:=by simp[ZA,h2]
   rw[e1];by_cases h0:d.z6=0
   ·simp[QX,UT,h0];omega
   by_cases h1:d.z6=1
   ·simp[QX,UT,h1];omega
   simp[QX,UT,h0,h1,h2]
theorem QkX (c:Qs):(Z3 c [] c.za).length<=2 ^ ZA c.za:=by
 refine QLp (QLl _ _) ?_;simpa using Qcf c.za
theorem QqV {p:Qe} (h:¬ Qhe p):Qmw p:=by
 unfold Qhe Quv QoG at h;simp only[not_or] at h;exact ⟨by omega,by omega,by omega,by omega,by omega⟩
theorem QdP {p:Qe} (h:¬ Qhe p) (hp:OkP p):1<=sets p.zb p.zb.zd.length/\sets p.zb p.zb.zd.length<=48/\2 ^ ZA p.zc.za<=48:=by
 have h1:ways p<=48:=by
  unfold Qhe at h
  grind
 have hl:=hp.zb.zx;simp only[inR] at hl
 have h2:1<=sets p.zb p.zb.zd.length:=by
  have h3:=Vy Z4 p.zb.zd fun l hl=>(hp.zb.span hl).1
  unfold sets;rw[QKP (QKS _)];have h4:1*Q4 Z4 p.zb.zd<=(p.zb.zw-p.zb.zu+1)*Q4 Z4 p.zb.zd:=QLc (by omega) (by omega)
  omega
 unfold ways at h1;have hpos:1<=(2 ^ ZA p.zc.za:Nat):=Nat.pos_of_ne_zero (by simp)
 generalize (2 ^ ZA p.zc.za:Nat)=W at *;generalize sets p.zb p.zb.zd.length=S at *;have a1:S*1<=S*(W:Int):=QLL (by omega) (by omega)
 have a2:1*(W:Int)<=S*(W:Int):=QLc h2 (by omega)
 omega
theorem QBK {p:Qe} (h:¬ Qhe p):Few p:=by
 refine ⟨⟨QqV h,fun hp=>by have:=QdP h hp;omega⟩,fun hp=>?_,fun hp=>?_,fun hp=>?_⟩
 ·have h1:=QkX p.zc;have h2:=QdP h hp;omega
 ·have h1:=QaE hp.zb;have h2:=QdP h hp;omega
 have h1:=QkX p.zc;have h2:=QdP h hp;have h3:=QaE hp.zb;rw[Wq,UB,Wn];have h4:(Z3 p.zc [] p.zc.za).length*(Q3 p.zb [] p.zb.zd).length<=48*48:=Nat.mul_le_mul (by omega) (by omega)
 omega
include hK
omit hK
def QCF (p:Qe) (r:Int):Qe:=⟨p.zc,p.zb,p.zf,p.zo,r⟩
theorem QcS {c n:Nat}:XZ c n=1↔c=n:=by
 unfold XZ;omega
theorem Qa7 {c n:Nat} (hn:n≠0):XZ c n=2↔c=0:=by
 unfold XZ;omega
def QID (p:Qe) (i:Nat):Nat:=(List.range i).countP fun k=>decide (0<=(tr p k).z7)
include hK
omit hK
theorem Qne (p:Qe):Jz p<=999999999:=by
 unfold Jz
 have h:∀ (l:List Q5) (b:Int),l.foldl (fun b t=>min b (Qfe p t)) b<=b:=by
  intro l
  induction l with
  | _=>grind
 exact h _ _
include hK
omit hK
theorem QDU {p:Qe} (hp:OkP p) {t:Q5} (h:t∈QF p):kE p true=0:=by
 unfold kE
 grind
theorem V2 {α:Type} (f:α->Int):∀ (l:List α) (t:α),t∈l->(span (l.map f)).1<=f t/\f t<=(span (l.map f)).2
 | [],_,h=>by cases h
 | a::r,t,h=>by
   have mono:∀ (l:List α) (x u:Int),(l.map f).foldl min x<=x/\u<=(l.map f).foldl max u:=by
    intro l
    induction l with
    | cons b l ih =>
      intro x u;simp only[QLa,QLs];have:=ih (min x (f b)) (max u (f b));omega
    | _=>grind
   have key:∀ (l:List α) (x u:Int),t∈l->(l.map f).foldl min x<=f t/\f t<=(l.map f).foldl max u:=by
    intro l
    induction l with
    | cons b l ih =>
      intro x u h;simp only[QLa,QLs];rcases QKV.1 h with rfl | h
      ·have:=mono l (min x (f t)) (max u (f t))
       omega
      exact ih _ _ h
    | _=>grind
   simp only[QLa,span];rcases QKV.1 h with rfl | h
   ·exact mono r _ _
   ·exact key r _ _ h
def Qqs (k:Int) (b:Bool):Prop:=k=3\/(k=1/\b=true)\/(k=2/\b=false)
theorem Qu7 {α:Type} (f:α->Int) (a:Int):∀ l:List α,l≠[]->(∀ t∈l,a<=f t)->a<=(span (l.map f)).1
 | [],h,_=>absurd rfl h
 | b::r,_,h=>by
   have key:∀ (l:List α) (x:Int),(∀ t∈l,a<=f t)->a<=x->a<=(l.map f).foldl min x:=by
    intro l
    induction l with
    | _=>grind
   simp only[QLa,span]
   grind
theorem Qu6 {α:Type} (f:α->Int) (a:Int):∀ l:List α,l≠[]->(∀ t∈l,f t<=a)->(span (l.map f)).2<=a
 | [],h,_=>absurd rfl h
 | b::r,_,h=>by
   have key:∀ (l:List α) (x:Int),(∀ t∈l,f t<=a)->x<=a->(l.map f).foldl max x<=a:=by
    intro l
    induction l with
    | _=>grind
   simp only[QLa,span]
   grind
instance (k:Int) (b:Bool):Decidable (Qqs k b):=by unfold Qqs;infer_instance
include hK
omit hK
def QKG:=F0 "8boN3>81o7Z0[:ZdjTeGco4xb862AmJ7lKfPnX;0saXy:gPBdi0]ms3KBDo57]XR<QxNmUwZAYdDRcPGN8CBQ>4u=f3" ⟨_,by conv=>lhs;reduce⟩
def QKF:=F0 "iR7tjmBCLF6C_0ET:mCpXd6?8wdmRq0lkBJayc[[S[x9YPxPKMTNDiEozPlzw8VV]j^Tq<WeS0j7<rXC?[w30yAZZl3" ⟨_,by conv=>lhs;reduce⟩
def QKE:=F0 "0FF8zw[pa9]b_ngUV0xx:i_lqMuS;D6GyyiZ>MVPWP?b1977f61Q84nYhR?4P[JcAFuYwj1a;8J8SLAEYi:Z?<Aav^Qvgf29" ⟨_,by conv=>lhs;reduce⟩
def QJG:=F0 "WQCfE:iIja]r]zAt9LbVn8qpJTCGYXjTNxq]_>^7GMT5KLQo[nokuP_iK6j1>gX7JFTf6In2s7s?VK4DEQG:TUciEpmnM:sCE<nd2E9t83" ⟨_,by conv=>lhs;reduce⟩
def QKI:=F0 "MN08AVXL:oYlK;BLQumj5z5eDS=EtlGQFNB6g>AY:t^c67a_NCyGZ68<2vQUcoEgX5K_1UPC2W=_V[zsmE8QYYpSVBl7s3EvcJxxZFJv<3" ⟨_,by conv=>lhs;reduce⟩
def QKH:=F0 "Vx86uYP=e4hjq?ZUlX6pNT[IhvQLLhTDJe_^zmL4sPkhIT^_fvsPpa1vyk4<aba>egYWpD0BotZ21i^3]7hmI1CH<KiSewgLe8?019qTDg" ⟨_,by conv=>lhs;reduce⟩
def QEQ:=fk func29 QJG (by kernel_rfl)
@[simp] theorem QAi {α:Type} (lod:Nat->Option AO) (ids:List Nat) (f:α->List IV) (l:List α):List.map (QmR lod ids∘List.map AV.iv∘f) l=List.map (List.map AV.iv∘f) l :=
 QLO fun a _=>Qht lod ids (f a)
include hK
@[simp] def prA (p:Qe) (ds ss bs ts:AV):List AV:=[ds,ss,.iv (.int .i64 p.zc.zh),.iv (QV p.zb.zd),.iv (.int .i64 p.zb.zr),.iv (.int .i64 p.zb.zu),.iv (.int .i64 p.zb.zw),bs,.iv (.int .i64 p.zb.zh),ts,.iv (.int .i64 p.zo),.iv (.int .i64 p.z8)]
omit hK
def prv:Qx:=⟨4,0,0,0,0⟩
def QKr (D:List Qx):List Qx:=D++[prv]
def QKs (c:Qs):Qs:=⟨QKr c.za,c.zg,c.zh⟩
def QKq (p:Qe) (w:Int):Qe:=⟨QKs p.zc,p.zb,p.zf++[⟨w,0,-1⟩],p.zo,p.z8⟩
def QKK (t:Q5):Q5:=⟨t.ends++[0],t.set⟩
@[simp] theorem QC2 (L:List (List IV)) (a b c d e:IV):emb L++[[.iv a,.iv b,.iv c,.iv d,.iv e]]=emb (L++[[a,b,c,d,e]]):=by simp[emb]
theorem Ut {p:Qe} (hp:OkP p):kL p true=QF p:=by unfold kL;grind
theorem QlW (m:Machine) (l:List Qm) (mn load:Int):0<=Wp m l mn load/\(Wp m l mn load<=9999->Xi m l (Wp m l mn load) mn load):=by
 classical
 unfold Wp;refine ⟨by omega,fun h=>?_⟩
 have:=List.findIdx_getElem (p:=fun (n:Nat)=>decide (Xi m l n mn load)) (xs:=List.range 10000) (w:=by
  grind)
 simpa using this
include hK
omit hK
def chD (x fin:Int) (d:Qx):Qx :=
 if d.zp=1 then ⟨d.zp,d.pos,fin,(d.bar+x).tmod 100,(d.z1+x).tmod 100⟩ else if d.zp=2 then ⟨d.zp,d.pos,fin,d.bar,d.z1⟩ else d
def chL (x fin:Int) (D:List Qx) (i:Nat):List (List IV):=((D.take i).map (chD x fin)++D.drop i).map dC
def mvN (n:Nat):Nat->Nat
 | 0=>0
 | _+1=>n
def chP (p:Qe) (x fin:Int):Qe:=⟨⟨p.zc.za.map (chD x fin),[],p.zc.zh⟩,p.zb,p.zf,p.zo,p.z8⟩
theorem Qd0:∀ l:List Int,l≠[]->(span l).1∈l/\(span l).2∈l
 | [],h=>absurd rfl h
 | a::r,_=>by
   have key:∀ (r:List Int) (x u:Int),(r.foldl min x=x\/r.foldl min x∈r)/\(r.foldl max u=u\/r.foldl max u∈r):=by
    intro r
    induction r with
    | cons b r ih =>
      intro x u;obtain ⟨h1,h2⟩:=ih (min x b) (max u b);simp only[QLs,QKV];refine ⟨?_,?_⟩
      ·rcases h1 with h1 | h1
       ·rw[h1];omega
       grind
      rcases h2 with h2 | h2
      ·rw[h2];omega
      grind
    | _=>grind
   obtain ⟨h1,h2⟩:=key r a a;simp only[span,QKV];exact ⟨h1,h2⟩
include hK
omit hK
structure Rod where
 long:Int
 ya:Int
 grow:Int
 deriving DecidableEq
structure Qz where
 yj:Int
 rod:Int
 count:Int
 rest:Int
 off:Int
 yk:Int
 yl:Int
 deriving DecidableEq
structure Zj where
 yi:Int
 yb:Int
 yc:Int
 zi:List Rod
 zj:List Qz
 zh:Int
 deriving DecidableEq
@[simp] def roC (r:Rod):List IV:=[.int .i64 r.long,.int .i64 r.ya,.int .i64 r.grow]
@[simp] def reC (x:Qz):List IV:=[.int .i64 x.yj,.int .i64 x.rod,.int .i64 x.count,.int .i64 x.rest,.int .i64 x.off,.int .i64 x.yk,.int .i64 x.yl]
@[simp] def qb (l:List Rod):IV:=.sl 3 (l.map roC)
@[simp] def Y7 (l:List Qz):IV:=.sl 7 (l.map reC)
@[simp] def puC (p:Zj):List IV:=[.int .i64 p.yi,.int .i64 p.yb,.int .i64 p.yc,qb p.zi,Y7 p.zj,.int .i64 p.zh]
@[simp] def puV (p:Zj):IV:=.agg (puC p)
def Vk (r:Rod):Prop:=inR r.long 1 9999/\inR r.ya 0 (min 9 (r.long-1))/\inR r.grow 0 50
instance (r:Rod):Decidable (Vk r):=by unfold Vk;infer_instance
def XM (n:Nat) (x:Qz):Prop:=(x.yj=1\/x.yj=2)/\inR x.rod 0 ((n:Int)-1)/\inR x.count 0 99/\inR x.rest 0 9999/\inR x.off 0 99/\inR x.yk (-50) x.yl/\x.yl<=50
instance (n:Nat) (x:Qz):Decidable (XM n x):=by unfold XM;infer_instance
structure OkU (p:Zj):Prop where
 yi:inR p.yi 0 50
 guess:inR p.yb 1 p.yc
 most:p.yc<=99999
 zh:inR p.zh 0 8
 rlen:p.zi.length<=4
 xlen:p.zj.length<=8
 zi:∀ r∈p.zi,Vk r
 zj:∀ x∈p.zj,XM p.zi.length x
def okU (p:Zj):Bool:=decide (inR p.yi 0 50)&&decide (inR p.yb 1 p.yc)&&decide (p.yc<=99999)&&decide (inR p.zh 0 8)&&decide (p.zi.length<=4)&&decide (p.zj.length<=8)&&decide (∀ r∈p.zi,Vk r)&&decide (∀ x∈p.zj,XM p.zi.length x)
theorem Qvq (p:Zj):okU p=true↔OkU p:=by
 simp only[okU,QKO,decide_eq_true_eq];exact ⟨fun ⟨⟨⟨⟨⟨⟨⟨h1,h2⟩,h3⟩,h4⟩,h5⟩,h6⟩,h7⟩,h8⟩=>⟨h1,h2,h3,h4,h5,h6,h7,h8⟩,fun ⟨h1,h2,h3,h4,h5,h6,h7,h8⟩=>⟨⟨⟨⟨⟨⟨⟨h1,h2⟩,h3⟩,h4⟩,h5⟩,h6⟩,h7⟩,h8⟩⟩
instance (p:Zj):Decidable (OkU p):=decidable_of_iff _ (Qvq p)
def Qan (p:Zj) (x:Qz):Int:=(p.zi.getD x.rod.toNat ⟨0,0,0⟩).grow
def QzS (p:Zj) (x:Qz) (len rl t:Int):Int:=len*(1000000+p.yi*t)-(x.count*rl+x.rest)*(1000000+Qan p x*t)
def Que (p:Zj) (x:Qz) (len rl t:Int):Bool:=decide (QzS p x len rl t<=x.off*1000000 /\ -QzS p x len rl t<=x.off*1000000)
def Qho (x:Qz):Nat:=(x.yl-x.yk+1).toNat
def qR (p:Zj) (x:Qz) (len rl:Int):Bool:=(List.range (Qho x)).any fun (i:Nat)=>Que p x len rl (x.yk+i)
def VM (a b:Int):List Int:=(List.range (b-a+1).toNat).map fun (i:Nat)=>a+i
theorem JB {a b x:Int}:x∈VM a b↔a<=x/\x<=b:=by
 simp only[VM,QK8,QLi];constructor
 ·omega
 intro h;exact ⟨(x-a).toNat,by omega,by omega⟩
theorem UQ (a b:Int):(VM a b).Pairwise (·<·):=by
 unfold VM;rw[List.pairwise_map];exact List.pairwise_lt_range.imp fun h=>by omega
def Xc:List Rod->List (List Int)
 | []=>[[]]
 | r::rs=>(VM (r.long-r.ya) r.long).flatMap fun n=>(Xc rs).map (n::·)
theorem Qff:∀ (l:List Rod) (w:List Int),w∈Xc l->w.length=l.length
 | [],w,h=>by simp[Xc] at h;simp[h]
 | r::rs,w,h=>by
   simp only[Xc,QLv,QK8] at h;obtain ⟨n,_,v,hv,rfl⟩:=h;simp[Qff rs v hv]
theorem QdN:∀ (l:List Rod) (w:List Int),w∈Xc l->∀ (i:Nat) (h:i<l.length),l[i].long-l[i].ya<=w.getD i 0/\w.getD i 0<=l[i].long
 | [],w,h,i,hi=>by simp at hi
 | r::rs,w,h,i,hi=>by
   simp only[Xc,QLv,QK8] at h;obtain ⟨n,hn,v,hv,rfl⟩:=h;cases i with
   | zero=>simpa using JB.1 hn
   | succ i =>
     have:=QdN rs v hv i (by simpa using hi)
     simpa using this
def Qto (p:Zj) (wh:Int) (w:List Int) (len:Int) (x:Qz):Bool:=decide (x.yj=wh)&&!qR p x len (w.getD x.rod.toNat 0)
def wrU (p:Zj) (wh:Int) (w:List Int) (len:Int):Nat:=p.zj.countP (Qto p wh w len)
def Xf (p:Zj):List Int:=VM p.yb p.yc
structure TrU where
 yg:Int
 yh:Int
 zi:List Int
def Qhj (p:Zj) (t:TrU):Nat:=wrU p 1 t.zi t.yg+wrU p 2 t.zi t.yh
def Qzy (p:Zj):List TrU:=(Xf p).flatMap fun b=>(Xf p).flatMap fun a=>(Xc p.zi).map fun w=>⟨b,a,w⟩
def UY (p:Zj):List TrU:=(Qzy p).filter fun t=>decide ((Qhj p t:Int)<=p.zh)
def Qdo (p:Zj) (wh:Int) (w:List Int) (n:Nat):List Int:=(Xf p).filter fun len=>wrU p wh w len==n
def Qaq (p:Zj) (wh:Int) (w:List Int):List Nat:=(List.range (p.zj.length+1)).filter fun n=>!(Qdo p wh w n).isEmpty
structure Grp where
 zh:Nat
 lens:List Int
def VK (p:Zj) (wh:Int) (w:List Int):List Grp:=(Qaq p wh w).map fun n=>⟨n,Qdo p wh w n⟩
structure Bun where
 zi:List Int
 yg:Grp
 yh:Grp
def QcI (p:Zj):List Bun:=(Xc p.zi).flatMap fun w=>(VK p 1 w).flatMap fun g=>(VK p 2 w).map fun h=>⟨w,g,h⟩
def Vc (p:Zj):List Bun:=(QcI p).filter fun x=>decide (((x.yg.zh+x.yh.zh:Nat):Int)<=p.zh)
theorem Qel {p:Zj} {t:TrU}:t∈UY p↔t.yg∈Xf p/\t.yh∈Xf p/\t.zi∈Xc p.zi/\(Qhj p t:Int)<=p.zh:=by
 simp only[UY,Qzy,QLw,QLv,QK8,decide_eq_true_eq]
 grind
theorem Qfb (p:Zj) (wh:Int) (w:List Int) (len:Int):wrU p wh w len<=p.zj.length:=QLJ
theorem Yd {p:Zj} {wh:Int} {w:List Int} {n:Nat} {len:Int}:len∈Qdo p wh w n↔len∈Xf p/\wrU p wh w len=n:=by
 simp[Qdo,QLw]
theorem Ym {p:Zj} {wh:Int} {w:List Int} {g:Grp}:g∈VK p wh w↔g.lens=Qdo p wh w g.zh/\g.lens≠[]:=by
 simp only[VK,Qaq,QK8,QLw,QLi];constructor
 ·grind
 rintro ⟨h1,h2⟩
 refine ⟨g.zh,⟨?_,?_⟩,by rw[<- h1]⟩
 ·obtain ⟨x,hx⟩:=QLM _ h2
  rw[h1] at hx;have:=Qfb p wh w x;have:=(Yd.1 hx).2;omega
 grind
theorem Wl {p:Zj} {x:Bun}:x∈Vc p↔x.zi∈Xc p.zi/\x.yg∈VK p 1 x.zi/\x.yh∈VK p 2 x.zi/\((x.yg.zh+x.yh.zh:Nat):Int)<=p.zh:=by
 simp only[Vc,QcI,QLw,QLv,QK8,decide_eq_true_eq]
 grind
theorem JJ {p:Zj} {t:TrU} (h:t∈UY p):∃ x∈Vc p,x.zi=t.zi/\t.yg∈x.yg.lens/\t.yh∈x.yh.lens:=by
 obtain ⟨hb,ha,hw,hn⟩:=Qel.1 h;have h1:t.yg∈Qdo p 1 t.zi (wrU p 1 t.zi t.yg):=Yd.2 ⟨hb,rfl⟩;have h2:t.yh∈Qdo p 2 t.zi (wrU p 2 t.zi t.yh):=Yd.2 ⟨ha,rfl⟩
 exact ⟨⟨t.zi,⟨_,Qdo p 1 t.zi (wrU p 1 t.zi t.yg)⟩,⟨_,Qdo p 2 t.zi (wrU p 2 t.zi t.yh)⟩⟩,
  Wl.2 ⟨hw,Ym.2 ⟨rfl,List.ne_nil_of_mem h1⟩,Ym.2 ⟨rfl,List.ne_nil_of_mem h2⟩,hn⟩,rfl,h1,h2⟩
theorem YB {p:Zj} {x:Bun} (h:x∈Vc p) {b a:Int} (hb:b∈x.yg.lens) (ha:a∈x.yh.lens):⟨b,a,x.zi⟩∈UY p:=by
 obtain ⟨hw,hg,hh,hn⟩:=Wl.1 h;have h1:=(Ym.1 hg).1;have h2:=(Ym.1 hh).1;rw[h1] at hb;rw[h2] at ha;obtain ⟨hb1,hb2⟩:=Yd.1 hb;obtain ⟨ha1,ha2⟩:=Yd.1 ha;refine Qel.2 ⟨hb1,ha1,hw,?_⟩;simp only[Qhj,hb2,ha2];exact hn
theorem ZT {p:Zj} {x:Bun} (h:x∈Vc p):x.yg.lens.Pairwise (·<·)/\x.yh.lens.Pairwise (·<·)/\x.yg.lens≠[]/\x.yh.lens≠[]:=by
 obtain ⟨_,hg,hh,_⟩:=Wl.1 h;have h1:=Ym.1 hg;have h2:=Ym.1 hh;refine ⟨?_,?_,h1.2,h2.2⟩
 ·rw[h1.1];exact (UQ _ _).filter _
 rw[h2.1];exact (UQ _ _).filter _
theorem QaC {p:Zj}:Vc p=[]↔UY p=[]:=by
 constructor
 ·intro h
  refine List.eq_nil_iff_forall_not_mem.2 fun t ht=>?_
  obtain ⟨x,hx,_⟩:=JJ ht
  grind
 ·intro h
  refine List.eq_nil_iff_forall_not_mem.2 fun x hx=>?_
  obtain ⟨_,_,h1,h2⟩:=ZT hx;obtain ⟨b,hb⟩:=QLM _ h1;obtain ⟨a,ha⟩:=QLM _ h2;have:=YB hx hb ha
  grind
theorem Qtr {l:List Int} (h:l.Pairwise (·<·)) (hne:l≠[]):l.head hne∈l/\l.getLast hne∈l/\∀ x∈l,l.head hne<=x/\x<=l.getLast hne:=by
 refine ⟨List.head_mem hne,List.getLast_mem hne,fun x hx=>⟨?_,?_⟩⟩
 ·cases l with
  | nil=>cases hx
  | cons a r =>
    rcases QKV.1 hx with rfl | hx
    ·grind
    exact Int.le_of_lt (List.rel_of_pairwise_cons h hx)
 ·obtain ⟨i,hi,rfl⟩:=QLA hx
  rw[List.getLast_eq_getElem];rcases Nat.lt_or_eq_of_le (Nat.le_sub_one_of_lt hi) with h1 | h1
  ·exact Int.le_of_lt (QL5.1 h i _ hi (by omega) h1)
  grind
def Xl (l:List Int):Int:=l.headD 0
def Z8 (l:List Int):Int:=l.getLastD 0
theorem Xg {l:List Int} (h:l.Pairwise (·<·)) (hne:l≠[]):Xl l∈l/\Z8 l∈l/\∀ x∈l,Xl l<=x/\x<=Z8 l:=by
 have:=Qtr h hne
 have e1:Xl l=l.head hne:=by cases l with
  | cons a r=>rfl
  | _=>grind
 have e2:Z8 l=l.getLast hne:=by cases l with
  | cons a r =>
    unfold Z8
    grind
  | _=>grind
 grind
theorem Qu8 {l:List Int} {a b:Int} (hne:l≠[]) (ha:a∈l) (hb:b∈l) (h:∀ x∈l,a<=x/\x<=b):span l=(a,b):=by
 have h1:=V2 (fun x:Int=>x) l a ha
 have h2:=V2 (fun x:Int=>x) l b hb
 have h3:=Qu7 (fun x:Int=>x) a l hne (fun x hx=>(h x hx).1)
 have h4:=Qu6 (fun x:Int=>x) b l hne (fun x hx=>(h x hx).2)
 simp only[List.map_id'] at h1 h2 h3 h4
 grind
def qs (t:TrU):Int:=t.yh-t.yg
def loB (x:Bun):Int:=Xl x.yh.lens-Z8 x.yg.lens
def hiB (x:Bun):Int:=Z8 x.yh.lens-Xl x.yg.lens
def QdW (p:Zj):Int × Int:=((span ((Vc p).map loB)).1,(span ((Vc p).map hiB)).2)
theorem Qba (p:Zj):QdW p=span ((UY p).map qs):=by
 by_cases hn:UY p=[]
 ·have:=QaC.2 hn
  simp[QdW,hn,this]
 ·have hb:Vc p≠[]:=fun h=>hn (QaC.1 h)
  have xd:(Vc p).map loB≠[]:=by simpa using hb
  have hhi:(Vc p).map hiB≠[]:=by simpa using hb
  have h1:=(Qd0 _ xd).1;have h2:=(Qd0 _ hhi).2
  symm
  obtain ⟨x,hx,ex⟩:=QK8.1 h1;obtain ⟨y,hy,ey⟩:=QK8.1 h2;obtain ⟨s1,s2,s3,s4⟩:=ZT hx;obtain ⟨s5,s6,s7,s8⟩:=ZT hy;refine Qu8 (by simpa using hn) ?_ ?_ ?_
  ·refine QK8.2 ⟨_,YB hx (Xg s1 s3).2.1 (Xg s2 s4).1,?_⟩
   rw[<- ex];rfl
  ·refine QK8.2 ⟨_,YB hy (Xg s5 s7).1 (Xg s6 s8).2.1,?_⟩
   rw[<- ey];rfl
  ·intro z hz
   obtain ⟨t,ht,rfl⟩:=QK8.1 hz;obtain ⟨u,hu,_,hub,hua⟩:=JJ ht;obtain ⟨u1,u2,u3,u4⟩:=ZT hu;have e1:=(Xg u1 u3).2.2 _ hub;have e2:=(Xg u2 u4).2.2 _ hua;have f1:=(V2 loB _ _ hu).1;have f2:=(V2 hiB _ _ hu).2;simp only[loB,hiB,qs] at *;omega
def XG (b a part:Int):Bool:=decide (1000*(a-b)<=part*b)
theorem Qdn {b a b' a' part:Int} (hp:0<=part) (hb:b<=b') (ha:a'<=a) (h:XG b a part=true):XG b' a' part=true:=by
 simp only[XG,decide_eq_true_eq] at *;have:part*b<=part*b':=QLL hb hp;omega
def Qdl (p:Zj) (part:Int):Int :=
 if (Vc p).all fun x=>XG (Xl x.yg.lens) (Z8 x.yh.lens) part then 1 else if (Vc p).any fun x=>XG (Z8 x.yg.lens) (Xl x.yh.lens) part then 3 else 2
theorem Qn0 (p:Zj) (part:Int) (hp:0<=part):Qdl p part=if (UY p).all fun t=>XG t.yg t.yh part then 1 else if (UY p).any fun t=>XG t.yg t.yh part then 3 else 2:=by
 have e1:((Vc p).all fun x=>XG (Xl x.yg.lens) (Z8 x.yh.lens) part)=((UY p).all fun t=>XG t.yg t.yh part):=by
  rw[Bool.eq_iff_iff];simp only[QLo];constructor
  ·intro h t ht
   obtain ⟨u,hu,_,hub,hua⟩:=JJ ht;obtain ⟨u1,u2,u3,u4⟩:=ZT hu;exact Qdn hp ((Xg u1 u3).2.2 _ hub).1 ((Xg u2 u4).2.2 _ hua).2 (h u hu)
  intro h x hx;obtain ⟨u1,u2,u3,u4⟩:=ZT hx;exact h _ (YB hx (Xg u1 u3).1 (Xg u2 u4).2.1)
 have e2:((Vc p).any fun x=>XG (Z8 x.yg.lens) (Xl x.yh.lens) part)=((UY p).any fun t=>XG t.yg t.yh part):=by
  rw[Bool.eq_iff_iff];simp only[QMh];constructor
  ·rintro ⟨x,hx,h⟩
   obtain ⟨u1,u2,u3,u4⟩:=ZT hx;exact ⟨_,YB hx (Xg u1 u3).2.1 (Xg u2 u4).1,h⟩
  rintro ⟨t,ht,h⟩
  obtain ⟨u,hu,_,hub,hua⟩:=JJ ht;obtain ⟨u1,u2,u3,u4⟩:=ZT hu;exact ⟨u,hu,Qdn hp ((Xg u1 u3).2.2 _ hub).2 ((Xg u2 u4).2.2 _ hua).1 h⟩
 unfold Qdl;rw[e1,e2]
def QKl (p:Zj):Option Nat:=(List.range 1001).find? fun (i:Nat)=>decide (Qdl p i=1)
def Qvf (p:Zj) (rod:Nat):List Int:=Jh ((Vc p).map fun x=>x.zi.getD rod 0)
theorem Qnw {p:Zj} {rod:Nat} {n:Int}:n∈Qvf p rod↔∃ t∈UY p,t.zi.getD rod 0=n:=by
 unfold Qvf;rw[Vp,QK8];constructor
 ·rintro ⟨x,hx,e⟩
  obtain ⟨_,_,h1,h2⟩:=ZT hx;obtain ⟨b,hb⟩:=QLM _ h1;obtain ⟨a,ha⟩:=QLM _ h2;exact ⟨_,YB hx hb ha,e⟩
 rintro ⟨t,ht,e⟩
 obtain ⟨x,hx,h1,_⟩:=JJ ht
 grind
end Go.Pf
namespace Go.Pf
open Go
set_option maxRecDepth 8000
abbrev Txt:=List UInt8
def Qdd (w:Txt):Option Int :=
 if w.head?=some 45 then
  (if (w.drop 1).length<=9/\(w.drop 1).head?≠some 48 then (Lib.decNat (w.drop 1)).map fun (m:Nat) => -(m:Int) else none)
 else if w.length<=9/\(w.head?=some 48->w.length<=1) then (Lib.decNat w).map fun (m:Nat)=>(m:Int) else none
theorem QgT (u:Nat):Lib.decDigits u≠[]:=by
 rw[Lib.decDigits];split<;>simp
theorem UU:∀ (l:Txt) (acc m:Nat) (c:UInt8),Lib.decFrom acc l=some m->Lib.decFrom acc (l++[c])=(Lib.digitVal c).map fun d=>m*10+d
 | [],acc,m,c,h=>by
   cases h;simp only[QK5,Lib.decFrom]
   grind
 | b::r,acc,m,c,h=>by
   simp only[QK1,Lib.decFrom] at h |-;cases hb:Lib.digitVal b with
   | some d =>
     rw[hb] at h;exact UU r _ m c h
   | _=>grind
theorem Qcb {d:Nat} (h:d<10):Lib.digitVal (UInt8.ofNat (48+d))=some d:=by
 have:(UInt8.ofNat (48+d)).toNat=48+d:=by simp;omega
 unfold Lib.digitVal
 grind
theorem QcG (u:Nat):Lib.decFrom 0 (Lib.decDigits u)=some u:=by
 induction u using Nat.strongRecOn with
 | ind u ih =>
   rw[Lib.decDigits];split
   ·rename_i h
    have:=Qcb h;simp only[Lib.decFrom,this];simp
   rename_i h;rw[UU _ _ _ _ (ih (u / 10) (by omega)),Qcb (by omega)]
   simp;omega
theorem WK (u:Nat):Lib.decNat (Lib.decDigits u)=some u:=by
 unfold Lib.decNat;rw[if_neg (by simpa[List.isEmpty_iff] using QgT u),QcG]
theorem UN (u:Nat):∃ d,d<10/\(Lib.decDigits u).head?=some (UInt8.ofNat (48+d))/\(d=0->u=0):=by
 induction u using Nat.strongRecOn with
 | ind u ih =>
   rw[Lib.decDigits];split
   ·rename_i h
    exact ⟨u,h,by simp,id⟩
   rename_i h;obtain ⟨d,h1,h2,h3⟩:=ih (u / 10) (by omega)
   grind
theorem Qrb {d:Nat} (h:d<10):UInt8.ofNat (48+d)≠45:=by
 intro e;have:=congrArg UInt8.toNat e;simp at this;omega
theorem Qdc {d:Nat} (h:d<10) (e:UInt8.ofNat (48+d)=48):d=0:=by
 have:=congrArg UInt8.toNat e;simp at this;omega
theorem qy:∀ (n:Nat) (l:Txt),l.length=n->∀ u,Lib.decNat l=some u->(l.head?=some 48->l.length<=1)->Lib.decDigits u=l
 | 0,l,hl,u,h,_=>by
   have:=QKT hl;subst this;cases h
 | n+1,l,hl,u,h,hz=>by
   have hne:l≠[]:=fun e=>by grind
   obtain ⟨r,c,rfl⟩:∃ r c,l=r++[c]:=⟨l.dropLast,l.getLast hne,(QLN hne).symm⟩
   have hr:r.length=n:=by simpa using hl
   have h':Lib.decFrom 0 (r++[c])=some u:=by
    unfold Lib.decNat at h
    grind
   have hdv:∀ d,Lib.digitVal c=some d->d<10/\c=UInt8.ofNat (48+d):=fun d hd=>by
    unfold Lib.digitVal at hd;split at hd
    ·rename_i hc
     injection hd with hd
     refine ⟨by omega,UInt8.toNat_inj.1 ?_⟩
     simp;omega
    cases hd
   cases hm:Lib.decFrom 0 r with
   | none =>
     exfalso
     have:∀ (l:Txt) (acc:Nat),Lib.decFrom acc l=none->Lib.decFrom acc (l++[c])=none:=by
      intro l
      induction l with
      | nil=>intro acc h;cases h
      | cons b t ih =>
        intro acc h;simp only[QK1,Lib.decFrom] at h |-
        grind
     grind
   | some m =>
     rw[UU r 0 m c hm,QKQ] at h';obtain ⟨d,hd,rfl⟩:=h';obtain ⟨hd10,rfl⟩:=hdv d hd;by_cases hr0:r=[]
     ·subst hr0
      cases hm;rw[Lib.decDigits];simp[hd10]
     ·have hpos:0<r.length:=QLW.2 hr0
      have hhead:r.head?≠some 48:=fun e=>by
       grind
      have hm':Lib.decNat r=some m:=by
       unfold Lib.decNat
       grind
      have ih:=qy n r hr m hm' (fun e=>absurd e hhead)
      have hm0:m≠0:=fun e=>by
       subst e;have e1:Lib.decDigits 0=[48]:=by rw[Lib.decDigits];rfl
       grind
      rw[Lib.decDigits,dif_neg (by omega)]
      grind
theorem Qnq {w:Txt} {v:Int} (h:Qdd w=some v):Lib.itoa v=w/\(Lib.trimPrefix w [45]).length<=9/\Lib.atoiAll w=.ok v:=by
 unfold Qdd at h;split at h
 ·rename_i h45
  obtain ⟨r,rfl⟩:∃ r,w=45::r:=by
   cases w with
   | _=>grind
  simp only[List.drop_succ_cons,List.drop_zero] at h;split at h
  ·rename_i hc
   rw[QKQ] at h;obtain ⟨m,hm,rfl⟩:=h;have hd:=qy _ r rfl m hm (fun e=>absurd e hc.2)
   have hm1:1<=m:=by
    rcases QMi m with h0 | h0
    ·subst h0
     exfalso;have e1:Lib.decDigits 0=[48]:=by rw[Lib.decDigits];rfl
     grind
    exact h0
   refine ⟨by rw[Lib.itoa_neg m hm1,hd],by simp[Lib.trimPrefix,Lib.hasPrefix,hc.1],?_⟩
   rw[Lib.atoiAll_short _ (by simp;omega)]
   simp[Lib.atoi,hm,Lib.NumEnd.ofOption]
  cases h
 ·rename_i h45
  split at h
  ·rename_i hc
   rw[QKQ] at h;obtain ⟨m,hm,rfl⟩:=h;have hd:=qy _ w rfl m hm hc.2;obtain ⟨d,hd10,hh,_⟩:=UN m;rw[hd] at hh;refine ⟨by rw[Lib.itoa_nonneg,hd],?_,?_⟩
   ·have:Lib.hasPrefix w [45]=false:=by
     cases w with
     | nil=>rfl
     | cons a r =>
       have:a≠45:=fun e=>h45 (by rw[e];rfl)
       simp[Lib.hasPrefix,List.isPrefixOf,Ne.symm this]
    simp[Lib.trimPrefix,this,hc.1]
   rw[Lib.atoiAll_short _ (by omega)]
   cases w with
   | nil=>cases hm
   | cons a r =>
     have e45:a≠45:=fun e=>h45 (by rw[e];rfl)
     have e43:a≠43:=fun e=>by
      subst e;simp at hh;have:=congrArg UInt8.toNat hh;simp at this;omega
     simp[Lib.atoi,e45,e43,hm,Lib.NumEnd.ofOption]
  ·cases h
theorem Qgi {w:Txt} {v:Int} (h1:Lib.itoa v=w) (h2:(Lib.trimPrefix w [45]).length<=9):Qdd w=some v:=by
 unfold Lib.itoa at h1;split at h1
 ·rename_i hv
  subst h1;obtain ⟨d,hd10,hh,h0⟩:=UN v.natAbs
  have hz:(Lib.decDigits v.natAbs).head?≠some 48:=fun e=>by
   rw[hh] at e;injection e with e
   have:=h0 (Qdc hd10 e);omega
  have hl:(Lib.decDigits v.natAbs).length<=9:=by simpa[Lib.trimPrefix,Lib.hasPrefix] using h2
  simp[Qdd,hz,hl,WK];omega
 rename_i hv;subst h1;obtain ⟨d,hd10,hh,h0⟩:=UN v.toNat
 have h45:(Lib.decDigits v.toNat).head?≠some 45:=fun e=>by
  rw[hh] at e;injection e with e
  exact Qrb hd10 e
 have hp:Lib.hasPrefix (Lib.decDigits v.toNat) [45]=false:=by
  cases hw:Lib.decDigits v.toNat with
  | nil=>rfl
  | cons a r =>
    have:a≠45:=fun e=>h45 (by grind)
    simp[Lib.hasPrefix,List.isPrefixOf,Ne.symm this]
 have hl:(Lib.decDigits v.toNat).length<=9:=by simpa[Lib.trimPrefix,hp] using h2
 have h48:(Lib.decDigits v.toNat).head?=some 48->(Lib.decDigits v.toNat).length<=1:=fun e=>by
  rw[hh] at e;injection e with e
  have:=h0 (Qdc hd10 e);rw[this,Lib.decDigits];simp
 unfold Qdd;rw[if_neg h45,if_pos ⟨hl,h48⟩,WK];simp;omega
end Go.Pf
namespace Go.Pf
open Go Go.Ev Go.Proofs Go.RowKit Go.Proofs.Tryz
set_option maxRecDepth 8000
structure Qd where
 ze:Qe
 zq:Zj
@[simp] def hoC (h:Qd):List IV:=[QC h.ze.zc.za,Qy h.ze.zc.zg,.int .i64 h.ze.zc.zh,QV h.ze.zb.zd,.int .i64 h.ze.zb.zr,.int .i64 h.ze.zb.zu,.int .i64 h.ze.zb.zw,XR h.ze.zb.zk,.int .i64 h.ze.zb.zh,
 Xq h.ze.zf,.int .i64 h.ze.zo,.int .i64 h.ze.z8,.int .i64 h.zq.yi,.int .i64 h.zq.yb,.int .i64 h.zq.yc,qb h.zq.zi,Y7 h.zq.zj,.int .i64 h.zq.zh]
@[simp] def hoV (h:Qd):IV:=.agg (hoC h)
def okH (h:Qd):Prop:=OkP h.ze/\OkU h.zq
noncomputable instance (h:Qd):Decidable (okH h):=Classical.propDecidable _
def Qhs:Txt:=[121,101,115]
def tNo:Txt:=[110,111]
def QqS:Txt:=[110,111,110,101]
def Qfk:Txt:=[119,104,97,116]
def QmQ:Txt:=[115,117,114,101,108,121]
def QtQ:Txt:=[110,101,118,101,114]
def Qj5:Txt:=[112,101,114,104,97,112,115]
def QcA:List Txt->Txt
 | []=>[]
 | [x]=>x
 | x::y::r=>x++32::QcA (y::r)
def QAY (l:List Int):Txt:=if l=[] then QqS else QcA (l.map Lib.itoa)
def Ys (l:List Int) (e:Int):Txt:=if e=0 then QAY l else if e=3 then QqS else tNo
def QbP (n e:Int):Txt:=if e=0 then (if n=1 then QmQ else if n=2 then QtQ else Qj5) else Ys [] e
inductive WS where
 | weld | cut | turn | prove | undo | see | balance | read
 | who | wher | first | pulls | z7 | loads | y9 | y8 | xa | opn | good | worth | zm | stretch | best | holds | zi
 deriving DecidableEq
def ZL:List (Txt × Nat × WS):=[
 ([119,101,108,100],4,.weld),([99,117,116],2,.cut),([116,117,114,110],0,.turn),([112,114,111,118,101],3,.prove),([117,110,100,111],0,.undo),
 ([115,101,101],5,.see),([98,97,108,97,110,99,101],4,.balance),([114,101,97,100],7,.read),
 ([119,104,111],1,.who),([119,104,101,114,101],1,.wher),([102,105,114,115,116],0,.first),([112,117,108,108,115],2,.pulls),([98,114,111,107,101],1,.z7),
 ([108,111,97,100,115],1,.loads),([102,97,105,108,117,114,101,115],0,.y9),([99,111,110,100,101,109,110,101,100],0,.y8),([112,114,111,118,101,100],1,.xa),
 ([111,112,101,110],0,.opn),([103,111,111,100],0,.good),([119,111,114,116,104],0,.worth),([119,101,105,103,104,116],0,.zm),([115,116,114,101,116,99,104],0,.stretch),
 ([98,101,115,116],0,.best),([104,111,108,100,115],1,.holds),([114,111,100,115],1,.zi)]
def Xz (w:Txt):Option (Nat × WS):=(ZL.find? fun p=>p.1==w).map (·.2)
def nI (l:List Int) (i:Nat):Int:=l.getD i 0
def Qg (h:Qd) (d:Qx):Qd:={ h with ze:={ h.ze with zc:={ h.ze.zc with za:=h.ze.zc.za++[d] } } }
def Zy (h:Qd) (v:WS) (l:List Int):Option Qd :=
 match v with
 | .weld=>some (Qg h ⟨1,nI l 0,nI l 1,nI l 2,nI l 3⟩)
 | .cut=>some (Qg h ⟨2,nI l 0,nI l 1,0,0⟩)
 | .turn=>some (Qg h ⟨3,0,0,0,0⟩)
 | .prove=>some { h with ze:={ h.ze with zc:={ h.ze.zc with za:=h.ze.zc.za++[⟨4,0,0,0,0⟩] },zf:=h.ze.zf++[⟨nI l 0,nI l 1,nI l 2⟩] } }
 | .undo=>match h.ze.zc.za.getLast? with
   | none=>none
   | some d=>some { h with ze:={ h.ze with zc:={ h.ze.zc with za:=h.ze.zc.za.dropLast },zf:=if d.zp=4 then h.ze.zf.dropLast else h.ze.zf } }
 | .see=>some { h with ze:={ h.ze with zc:={ h.ze.zc with zg:=h.ze.zc.zg++[⟨nI l 0,nI l 1,nI l 2,nI l 3,nI l 4⟩] } } }
 | .balance=>some { h with ze:={ h.ze with zb:={ h.ze.zb with zk:=h.ze.zb.zk++[⟨nI l 0,nI l 1,nI l 2,nI l 3⟩] } } }
 | .read=>some { h with zq:={ h.zq with zj:=h.zq.zj++[⟨nI l 0,nI l 1,nI l 2,nI l 3,nI l 4,nI l 5,nI l 6⟩] } }
 | _=>none
def Zf:WS->Bool
 | .weld | .cut | .turn | .prove | .undo | .see | .balance | .read=>true
 | _=>false
def Qu (out:List Txt) (c:UInt8):List Txt:=if c=32 then out++[[]] else out.set (out.length-1) (out.getD (out.length-1) []++[c])
def spl (s:Txt):List Txt:=s.foldl Qu [[]]
@[simp] def strs (l:List Txt):IV:=.sl 1 (l.map fun s=>[.str s])
theorem W7 (x:List Txt) (l:Txt) (c:UInt8):Qu (x++[l]) c=x++Qu [l] c:=by
 unfold Qu
 grind
theorem Qhw (s:Txt):∀ (x:List Txt) (l:Txt),s.foldl Qu (x++[l])=x++s.foldl Qu [l]:=by
 induction s with
 | cons c s ih =>
   intro x l;simp only[QLs];rw[W7];by_cases h:c=32
   ·have e:Qu [l] c=[l]++[[]]:=by simp[Qu,h]
    grind
   have e:Qu [l] c=[l++[c]]:=by simp[Qu,h]
   rw[e,ih]
 | _=>grind
theorem QcU (s:Txt):∀ l:Txt,s.foldl Qu [l]≠[]:=by
 induction s with
 | cons c s ih =>
   intro l;simp only[QLs];by_cases h:c=32
   ·have e:Qu [l] c=[l]++[[]]:=by simp[Qu,h]
    rw[e,Qhw];simp
   have e:Qu [l] c=[l++[c]]:=by simp[Qu,h]
   grind
 | _=>grind
theorem Qbd (a b:Txt):spl (a++32::b)=spl a++spl b:=by
 unfold spl;rw[QL4];have h:=QcU a [];generalize a.foldl Qu [[]]=x at *;obtain ⟨y,l,rfl⟩:∃ y l,x=y++[l]:=⟨x.dropLast,x.getLast h,(QLN h).symm⟩
 simp only[QLs];have e:Qu (y++[l]) 32=(y++[l])++[[]]:=by simp[Qu]
 rw[e,Qhw]
theorem QdZ (a:Txt) (h:32 ∉ a):spl a=[a]:=by
 have:∀ (a l:Txt),32 ∉ a->a.foldl Qu [l]=[l++a]:=by
  intro a
  induction a with
  | cons c s ih =>
    intro l h;simp only[QKV,not_or] at h;have e:Qu [l] c=[l++[c]]:=by simp[Qu,Ne.symm h.1]
    grind
  | _=>grind
 have:=this a [] h;simpa[spl] using this
theorem Yb (s:Txt):spl (32::s)=[]::spl s:=by
 have:=Qbd [] s;simpa[spl] using this
theorem QqU (s:Txt):∀ l:Txt,s.foldl Qu [l]=(l++(spl s).headD [])::(spl s).tail:=by
 induction s with
 | nil=>intro l;simp[spl]
 | cons c s ih =>
   intro l;by_cases h:c=32
   ·subst h
    rw[Yb,QLs];have e:Qu [l] 32=[l]++[[]]:=by simp[Qu]
    rw[e,Qhw];simp[spl]
   have e:∀ l,Qu [l] c=[l++[c]]:=fun l=>by simp[Qu,h]
   rw[QLs,e,ih]
   have:spl (c::s)=([c]++(spl s).headD [])::(spl s).tail:=by
    unfold spl
    grind
   grind
theorem V0 (c:UInt8) (s:Txt) (h:c≠32):spl (c::s)=(c::(spl s).headD [])::(spl s).tail:=by
 have e:Qu [[]] c=[[c]]:=by simp[Qu,h]
 unfold spl;rw[QLs,e,QqU];rfl
theorem splitK_spl:∀ s:Txt,Lib.splitK [32] 0 (Lib.count s [32]) s=spl s
 | []=>by
   rw[Lib.count_miss (by simp[Lib.index])]
   rfl
 | c::s=>by
   have ih:=splitK_spl s;by_cases h:c=32
   ·subst h
    have hix:Lib.index ((32:UInt8)::s) [32]=0:=by rw[Lib.index];grind
    rw[Lib.count_cons_eq,Nat.add_comm,Lib.splitK,hix,Yb,<- ih];simp
   rw[Lib.count_cons_ne c 32 s h,V0 c s h,<- ih];have hp:([32]:List UInt8).isPrefixOf (c::s)=false:=by grind
   have hix:Lib.index (c::s) [32]=if Lib.index s [32] == -1 then -1 else Lib.index s [32]+1:=by rw[Lib.index,hp];simp
   cases hk:Lib.count s [32] with
   | zero=>simp[Lib.splitK]
   | succ k =>
     have hm:¬ Lib.index s [32] = -1:=fun e=>by rw[Lib.count_miss e] at hk;cases hk
     have hge:=Lib.index_ge s [32];obtain ⟨j,hj⟩:∃ j:Nat,Lib.index s [32]=j:=⟨(Lib.index s [32]).toNat,by omega⟩
     have h1:¬ ((j:Int) == -1)=true:=by simp
     have h2:¬ ((j:Int)+1 == -1)=true:=by simp;omega
     have h3:((j:Int)+1).toNat=j+1:=by omega
     simp only[Lib.splitK,hix,hj,if_neg h1,if_neg h2,h3,QLQ];simp
theorem spl_len:∀ s:Txt,(spl s).length<=s.length+1
 | []=>by simp[spl]
 | c::s=>by
   have ih:=spl_len s;by_cases h:c=32
   ·subst h;rw[Yb];simp;exact ih
   rw[V0 c s h];simp;omega
theorem qG (s:Txt):∀ x∈spl s,x.length<=s.length:=by
 induction s with
 | nil=>intro x hx;simp[spl] at hx;subst hx;simp
 | cons c s ih =>
   intro x hx;by_cases h:c=32
   ·subst h
    rw[Yb] at hx
    grind
   rw[V0 c s h] at hx;rcases QKV.1 hx with rfl | hx
   ·cases hs:spl s with
    | _=>grind
   have:=ih x (List.mem_of_mem_tail hx);simp;omega
end Go.Pf
namespace Go.Ev
open Go Go.RowKit
section
variable {P:Program} {K:World->Prop}
end
section
variable {P:Program} {K:World->Prop}
theorem Qbt {ok w' fr o1 L'} (h:Qmz fr ok w' (Qc o1) L') (xc:∀ b,fr b->b<w'.heap.size) :
  Rel ok ⟨0,[]⟩ ⟨w',fr,xc,fun _=>undef⟩ (look []) (Qc o1) { tmps:=#[],defers:=[] } w' L' :=
 ⟨Zt.refl _ _,⟨[],rfl,QMz,by simp⟩,rfl,fun t=>.iv _ _ (.any _),h.xb,h.apart,fun t ht=>by simp at ht⟩
theorem WC (hK:∀ w w',K w->Below w.heap.size w w'->K w') {f xs y o1 r} (h:Y6 P K f (xs.map .iv) [] [] y o1) (hi:imm (Qc o1) 40 y=some r):Good P K f xs r:=by
 intro w ok vs hk hnew hl hvs;have hn:∀ b,¬ qC (Qc []) (fun _=>.one 0) b:=fun b ⟨id,ob,h1,_⟩=>by simp[Qc] at h1
 have hFr:∀ b,b<w.heap.size->FrO w (Qc []) (fun _=>.one 0) b:=fun b hb=>⟨hb,hn b⟩
 refine (h w ok (fun _=>.one 0) vs (fun w' y7=>hK w w' hk (y7.mono hFr).below) hnew (fun b hb=>absurd hb (hn b)) ⟨by simp[Qc],by simp[Qc]⟩ (by simpa using hl) (fun k x u hx hu=>?_)).mono
  fun e w' ⟨v,L',he,hlaid,hrep,y7,_⟩=>⟨v,he,?_,(y7.mono hFr).below⟩
 ·rw[QKU,QKQ] at hx
  obtain ⟨z,hz,rfl⟩:=hx;exact .iv _ _ ((hvs k z u hz hu).mono fun b hb _=>⟨⟨hb,by simp[Qc]⟩,rfl⟩)
 ·have xc:∀ b,FrO w (Qc []) (fun _=>.one 0) b->b<w'.heap.size:=fun b hb=>QLj hb.1 y7.size
  refine (JF (Qbt hlaid xc) (ok1:=ok) (fun b hb=>hb.1) (lo':=Qc o1) (fun _ _ h=>h) (fun id ob b hob hb=>?_) 40).1 y v r hrep hi
  by_cases hbl:b<w.heap.size
  ·exact absurd (hFr b hbl) ((hlaid.xb id ob hob).lt hb).1
  ·exact hnew b (QLP.1 hbl)
theorem Y6.give {f args o rows st r cs xs} (h:Y6 P K f args o st (.iv r) ((0,.box cs)::rows)) (hst0:∀ i∈st,i=0)
  (hx:imms (fun i=>if i=0 then Option.none else Qc ((0,.box cs)::rows) i) 40 cs=some xs):Y6 P K f args o st (.iv r) [(0,.box (xs.map .iv))]:=by
 intro w ok L vs hK hnew hown hlaid hvl hvs;refine (h w ok L vs hK hnew hown hlaid hvl hvs).mono fun e w' ⟨v,L',he,hl',hrep,y7,hst⟩=>⟨v,L',he,?_,?_,y7,?_⟩
 ·have h0:Qc ((0,AO.box cs)::rows) 0=some (.box cs):=rfl
  have xc:∀ b,FrO w (Qc o) L b->b<w'.heap.size:=fun b hb=>QLj hb.1 y7.size
  have one0:∀ i ob,Qc [(0,AO.box (xs.map AV.iv))] i=some ob->i=0/\ob=.box (xs.map .iv):=fun i ob hob=>by
   simp only[Qc] at hob
   grind
  have hsub:∀ b,okL ok (Qc ((0,AO.box cs)::rows)) L' b->okL ok (Qc [(0,AO.box (xs.map AV.iv))]) L' b:=fun b hb=>⟨hb.1,fun i ob hob=>by
   obtain ⟨rfl,rfl⟩:=one0 i ob hob;exact hb.2 0 _ h0⟩
  have hs:=(JF (Qbt hl' xc) (ok1:=okL ok (Qc [(0,AO.box (xs.map AV.iv))]) L') hsub (lo':=fun i=>if i=0 then Option.none else Qc ((0,.box cs)::rows) i)
   (fun id ob hob=>by
     split at hob
     ·cases hob
     exact hob)
   (fun id ob b hob hb=>by
     split at hob
     ·cases hob
     rename_i hid;refine ⟨?_,fun i oi hi=>?_⟩
     ·have hnf:=((hl'.xb id ob hob).lt hb).1
      by_cases hbl:b<w.heap.size
      ·exact hown b (Classical.byContradiction fun hno=>hnf ⟨hbl,hno⟩)
      exact hnew b (QLP.1 hbl)
     obtain ⟨rfl,rfl⟩:=one0 i oi hi;exact fun hb0=>hl'.apart 0 id _ ob b (fun e=>hid e.symm) h0 hob hb0 hb) 40).2 cs xs hx
  refine ⟨fun i ob hob=>?_,fun i j oi oj b hij hi hj=>?_⟩
  ·obtain ⟨rfl,rfl⟩:=one0 i ob hob
   have hob0:=hl'.xb 0 _ h0;generalize L' 0=l0 at hob0;cases l0 with
   | box b =>
     obtain ⟨hB,t,us,hb,hul,h1,hcx⟩:=hob0;refine ⟨hB,t,us,hb,by rw[QKZ,hs.1];exact hul,h1,fun k x u hk hu=>?_⟩
     grind
   | _=>exact hob0.elim
  grind
 ·cases hrep with
  | iv _ _ hr=>exact .iv _ _ (hr.mono fun b hb _=>⟨⟨hb.1,fun i ob hob=>by
    simp only[Qc] at hob;split at hob
    ·rename_i hi
     subst hi;exact hb.2 0 _ (show Qc ((0,AO.box cs)::rows) 0=some (.box cs) from rfl)
    cases hob⟩,rfl⟩)
 intro i hi ob hob;have hi0:=hst0 i hi;subst hi0;obtain ⟨ob',h1,h2⟩:=hst 0 hi ob hob
 have:ob'=.box cs:=by
  have h0:Qc ((0,AO.box cs)::rows) 0=some (.box cs):=rfl;rw[h0] at h1;injection h1 with h1
  exact h1.symm
 subst this;refine ⟨_,rfl,?_⟩;cases ob<;>simp only[Va] at h2 |-
 grind
end
end Go.Ev
namespace Go.Pf
open Go Go.Ev Go.Proofs Go.RowKit Go.Proofs.Tryz
set_option maxRecDepth 8000
structure KW (w:World):Prop where
 shaped:w.ShapedOpen prog
 tab : Lib.TabIs prog w "internal/strconv.uint64pow10" .u64 Lib.pow10Tab
 syn : ∃ tp p, w.var? prog "strconv.ErrSyntax" = some #[.iface tp p]
 rng : ∃ tp p, w.var? prog "strconv.ErrRange" = some #[.iface tp p]
theorem QxF {n:String} {cs:Array Value} {w:World} (h:w.var? prog n=some cs):∃ g,prog.globalNamed n=some g/\g<w.heap.size:=by
 unfold World.var? at h;cases hg:prog.globalNamed n with
 | _=>grind
theorem QdQ {n:String} {cs:Array Value} {w w':World} (h:w.var? prog n=some cs) (hb:Below w.heap.size w w'):w'.var? prog n=some cs:=by
 obtain ⟨g,hg,xc⟩:=QxF h;exact var?_below hb hg xc h
theorem hKW:∀ w w',KW w->Below w.heap.size w w'->KW w':=fun w w' ⟨h1,h2,⟨t1,p1,h3⟩,t2,p2,h4⟩ hb =>
 ⟨World.ShapedOpen.keptBut h1 (hb.frame (fun _=>False)) (fun _ c=>c.elim),QdQ h2 hb,⟨t1,p1,QdQ h3 hb⟩,t2,p2,QdQ h4 hb⟩
theorem Qox (s:Txt) (hs:s.length<=1000):Gd KW 119 [.str s,.str [32]] (strs (spl s)):=by
 intro w ok vs hk hok hl hx
 obtain ⟨v0,v1,rfl⟩:∃ v0 v1,vs=[v0,v1]:=by
  match vs,hl with
  | [a,b],_=>grind
 have r0:=hx 0 _ v0 rfl rfl;have r1:=hx 1 _ v1 rfl rfl;cases r0;cases r1;have:=Any.strings_Split_shaped Tryz.laysM146 ⟨s.toArray⟩ ⟨[32].toArray⟩ w hk.shaped (by simp[ByteArray.size];omega) (by simp[ByteArray.size])
 refine this.mono fun e w' ⟨he,hw⟩=>?_
 subst he hw;have hb:=QA w (.cells ((Lib.splitB ⟨[32].toArray⟩ 0 (Lib.countB ⟨s.toArray⟩ ⟨[32].toArray⟩) ⟨s.toArray⟩).map Value.string).toArray (Tryz.laysM146_ren.t 9))
 have hd:(Lib.splitB ⟨[32].toArray⟩ 0 (Lib.countB ⟨s.toArray⟩ ⟨[32].toArray⟩) ⟨s.toArray⟩).map (·.data.toList)=spl s:=by
  rw[Lib.splitB_data];exact splitK_spl s
 have hlen:=Lib.splitB_all ⟨[32].toArray⟩ (by simp[ByteArray.size]) 0 _ ⟨s.toArray⟩ rfl
 generalize Lib.countB ⟨s.toArray⟩ ⟨[32].toArray⟩=n at *;generalize Lib.splitB ⟨[32].toArray⟩ 0 n ⟨s.toArray⟩=L at *;refine ⟨_,rfl,?_,hb⟩;have hl2:(spl s).length=n+1:=by grind
 have hnl:n+1<=maxLen:=by
  have:=spl_len s;simp only[maxLen];omega
 have rep:=QS.sl (ok:=ok) (w:=w.alloc (.cells (L.map Value.string).toArray (Tryz.laysM146_ren.t 9))) 1 ((spl s).map fun s=>[IV.str s]) w.heap.size 0 (n+1) (fun k=>.string (L.getD k default)) (by simp[hl2]) hnl (by simp) (fun k hk=>?_) (fun i j c x hi hj=>?_)
 ·simpa[hl2] using rep
 ·simp[hl2] at hk
  have hkl:k<L.length:=by omega
  refine ⟨hok _ (QKS _),?_,rfl⟩;rw[QLb];exact Yg w _ _ k _ (by simp[hkl])
 ·simp only[QKU,QKQ] at hi
  obtain ⟨t,ht,rfl⟩:=hi
  have hj0:j=0:=by
   grind
  subst hj0;simp at hj;subst hj;rw[<- hd,QKU,QKQ] at ht;obtain ⟨z,hz,rfl⟩:=ht;have e:L.getD (i*1+0) default=z:=by simp[hz]
  rw[e];have:=QS.str (ok:=ok) (w:=w.alloc (.cells (L.map Value.string).toArray (Tryz.laysM146_ren.t 9))) z.data.toList;simpa using this
theorem Qio (n:Int) (h : -9223372036854775808<=n/\n<=9223372036854775807):Gd KW 200 [.int .i64 n] (.str (Lib.itoa n)):=by
 intro w ok vs hk hok hl hx
 obtain ⟨v0,rfl⟩:∃ v0,vs=[v0]:=by
  match vs,hl with
  | [a],_=>exact ⟨a,rfl⟩
 have r0:=hx 0 _ v0 rfl rfl;cases r0;refine (Any.strconv_Itoa Tryz.laysM171 n h.1 h.2 w hk.tab).mono fun e w' ⟨he,k,os,hw⟩=>?_
 subst he hw;exact ⟨_,rfl,.str _,⟨rfl,rfl,rfl,by simp[Go.Sort.grow],fun b hb=>Array.getElem?_append_left hb⟩⟩
theorem QwT (s p:Txt):Gd KW 201 [.str s,.str p] (.str (Lib.trimPrefix s p)):=by
 intro w ok vs hk hok hl hx
 obtain ⟨v0,v1,rfl⟩:∃ v0 v1,vs=[v0,v1]:=by
  match vs,hl with
  | [a,b],_=>grind
 have r0:=hx 0 _ v0 rfl rfl;have r1:=hx 1 _ v1 rfl rfl;cases r0;cases r1;refine (Any.strings_TrimPrefix Tryz.lays101 ⟨s.toArray⟩ ⟨p.toArray⟩ w).mono fun e w' ⟨he,hw⟩=>?_
 subst he hw;exact ⟨_,rfl,.str _,Below.refl _ _⟩
theorem QwU (s:Txt) (hs:s.length<=1000):Gd KW 199 [.str s] (.xg (match Lib.atoiAll s with | .ok v=>[.int .i64 v,.lit .nilIface] | .range=>[.int .i64 (Lib.atoiSat s),.ifn] | _=>[.int .i64 0,.ifn])):=by
 intro w ok vs hk hok hl hx
 obtain ⟨v0,rfl⟩:∃ v0,vs=[v0]:=by
  match vs,hl with
  | [a],_=>exact ⟨a,rfl⟩
 have r0:=hx 0 _ v0 rfl rfl;cases r0
 have two:∀ (w':World) (n:Int) (z:IV) (u:Value),QS ok w' z u->QS ok w' (.xg [.int .i64 n,z]) (.tuple #[.int .i64 n,u]):=fun w' n z u hz=>by
  refine .xg [.int .i64 n,z] [.int .i64 n,u] rfl fun k x v hk hv=>?_
  match k,hk,hv with
  | 0,hk,hv=>injection hk with hk;injection hv with hv;subst hk hv;exact .int _ _
  | 1,hk,hv=>grind
  | k+2,hk,hv=>simp at hk
 cases h:Lib.atoiAll s with
 | ok v =>
   refine (Any.strconv_Atoi_ok Tryz.laysC172 ⟨s.toArray⟩ (by simp[ByteArray.size];omega) v (by simpa using h) w).mono fun e w' ⟨he,hw⟩=>?_
   subst he;refine ⟨_,rfl,two _ _ _ _ (.lit _),?_⟩;rcases hw with rfl | ⟨t,rfl⟩
   ·exact Below.refl _ _
   exact ⟨rfl,rfl,rfl,by rw[Lib.bytesWorld_size];omega,fun j hj=>Lib.bytesWorld_at_old _ _ _ j hj⟩
 | range =>
   obtain ⟨tp,p,hv⟩:=hk.rng;refine (Any.strconv_Atoi_range_var Tryz.laysC172 ⟨s.toArray⟩ (by simp[ByteArray.size];omega) (by simpa using h) tp p w hv).mono fun e w' ⟨N,he,_,_,hb⟩=>?_
   subst he;exact ⟨_,rfl,two _ _ _ _ (.ifn _ rfl),hb⟩
 | _ =>
   obtain ⟨tp,p,hv⟩:=hk.syn;refine (Any.strconv_Atoi_syntax_var Tryz.laysC172 ⟨s.toArray⟩ (by simp[ByteArray.size];omega) (by simpa using h) tp p w hv).mono fun e w' ⟨N,he,_,_,hb⟩=>?_
   subst he;exact ⟨_,rfl,two _ _ _ _ (.ifn _ rfl),hb⟩
theorem QwI (l:List Txt) (hl0:l.length<=1000000) (hj:(Lib.join l [32]).length<=140737488355328):Gd KW 247 [strs l,.str [32]] (.str (Lib.join l [32])):=by
 intro w ok vs hk hok hl hx
 obtain ⟨v0,v1,rfl⟩:∃ v0 v1,vs=[v0,v1]:=by
  match vs,hl with
  | [a,b],_=>grind
 have r0:=hx 0 _ v0 rfl rfl;have r1:=hx 1 _ v1 rfl rfl;cases r1
 have none_:∀ (a:Option Addr) (c:Nat),l=[]->Calls prog 247 [Value.slice a 0 c,.string ⟨[32].toArray⟩].toArray w (fun e w'=>∃ v,e=.returned v/\QS ok w' (.str (Lib.join l [32])) v/\Below w.heap.size w w'):=fun a c h0=>by
  subst h0;refine (Any.strings_Join_none Tryz.lays156 Tryz.Builder_Extra_156 a c ⟨[32].toArray⟩ w).mono fun e w' ⟨he,hw⟩=>?_
  subst he hw;exact ⟨_,rfl,.str [],Below.refl _ _⟩
 simp only[strs] at r0;generalize hrows:(l.map fun s=>[IV.str s])=rows at r0
 have hrl:rows.length=l.length:=by grind
 cases r0 with
 | sl _ _ b off cap u hlc hc hsz hu hxx =>
   have hcell:∀ (j:Nat) (x:ByteArray),(l.map fun s=>(⟨s.toArray⟩:ByteArray))[j]?=some x->w.cell? ⟨b,off+j,none⟩=some (.string x):=fun j x hj=>by
    rw[QKU,QKQ] at hj;obtain ⟨s,hs,rfl⟩:=hj;have hjl:=(QKN.1 hs).1;have h1:=(hu j (by rw[hrl];omega)).2.1
    have h2:=hxx j 0 [.str s] (.str s) (by grind) rfl
    simp only[QMq,QLS] at h2;cases h2':u j with
    | _=>rw[h2'] at h2;first | (cases h2;rw[h1,h2']) | cases h2
   by_cases h0:l=[]
   ·grind
   have hbk:b<w.heap.size:=QLK w ⟨b,off+0,none⟩ (hu 0 (by grind)).2.1
   have hd:(l.map fun s=>(⟨s.toArray⟩:ByteArray)).map (·.data.toList)=l:=by simp[List.map_map,Function.comp_def]
   have:=Any.strings_Join Tryz.lays156 Tryz.Builder_Extra_156 b off cap (l.map fun s=>(⟨s.toArray⟩:ByteArray)) ⟨[32].toArray⟩ w hcell hbk (by simp;omega) (by simp;omega) (by rw[hd];exact hj)
   rw[hd,QKZ,<- hrl] at this;refine this.mono fun e w' ⟨he,hb⟩=>?_
   subst he;exact ⟨_,rfl,.str _,hb⟩
 | _=>grind
end Go.Pf
namespace Go.Pf
open Go Go.Ev Go.Proofs Go.RowKit Go.ChangeShapes Go.WideShapes Go.Proofs.YteihocdmbflkiaaGreatDoor Go.Proofs.Tryz
theorem own:ownKnob prog.godebug=none:=by kernel_rfl
theorem QnL:laidOutB prog=true:=by kernel_rfl
noncomputable def QbO (os:Os):World:=World.laidAll prog os Rows.topReplayRow.laid
theorem Qrr (os:Os) (args:Array Value):laidMet prog Rows.topReplayRow.laid ((QbO os).forCall (fun _ _=>0) ⟨#[],args,[]⟩).memory :=
 laidMet_laidAll args (by kernel_rfl) (by kernel_rfl)
theorem QFp : "*" ++ "errors.errorString" = "*errors.errorString" := by decide
set_option maxRecDepth 100000 in
theorem QuB (u : TypeId) (h : prog.typeName? 3 u = some "*errors.errorString") : u = 455 :=
 typeName_ptr_named (nm := "errors.errorString") (by rw [QFp]; kernel_rfl) (by kernel_rfl) (by decide) u (by rw [QFp]; exact h)
def VY (es:List Sh) (row:List IV):Prop:=∀ (j:Nat) (s:Sh) (x:IV),es[j]?=some s->row[j]?=some x->Qat s x
abbrev shI:Sh:=Sh.int IntKind.i64
theorem Qt1 (n:Nat):∀ rows:List (List IV),(∀ row∈rows,row.length=n)->(∀ row∈rows,VY (List.replicate n shI) row)->∃ fs:List (List Int),rows=fs.map (fun l=>l.map fun x=>.int .i64 x)/\∀ l∈fs,l.length=n
 | [],_,_=>⟨[],rfl,by simp⟩
 | row::rows,hrl,hr=>by
   obtain ⟨fs,hfs,hl⟩:=Qt1 n rows (fun r hr'=>hrl r (by simp[hr'])) (fun r hr'=>hr r (by simp[hr']))
   have h1:=hrl row (by simp)
   have h2:=hr row (by simp)
   have key:∀ row:List IV,(∀ x∈row,Qat shI x)->∃ l:List Int,row=l.map (fun x=>.int .i64 x)/\l.length=row.length:=fun row=>by
    induction row with
    | nil=>exact fun _=>⟨[],rfl,rfl⟩
    | cons x r ih =>
      intro h;obtain ⟨l,e,hl⟩:=ih fun y hy=>h y (by simp[hy])
      have hx:=h x (by simp)
      cases hx with
      | int _ m _ _=>exact ⟨m::l,by simp[<- e],by simp[hl]⟩
   obtain ⟨l,e,hll⟩:=key row fun x hx=>by
    obtain ⟨k,hk,rfl⟩:=QLA hx;exact h2 k shI row[k] (by simp[<- h1,hk]) (by simp[hk])
   exact ⟨l::fs,by simp[hfs,e],fun x hx=>by
    rcases QKV.1 hx with rfl | hx
    ·omega
    exact hl x hx⟩
theorem UF {α:Type} {n:Nat} {c:α->List IV} (g:List Int->α) (hg:∀ l:List Int,l.length=n->c (g l)=l.map fun x=>.int .i64 x) {rows:List (List IV)} (h1:∀ row∈rows,row.length=n) (h2:∀ row∈rows,VY (List.replicate n shI) row):∃ fs:List α,rows=fs.map c:=by
 obtain ⟨fs,rfl,hl⟩:=Qt1 n rows h1 h2;refine ⟨fs.map g,?_⟩;rw[List.map_map];exact QLO fun l h=>(hg l (hl l h)).symm
theorem QlC (rows:List (List IV)):(∀ row∈rows,row.length=5)->(∀ row∈rows,VY [shI,shI,shI,shI,shI] row)->∃ fs:List Qx,rows=fs.map dC :=
 UF (fun l=>⟨l.getD 0 0,l.getD 1 0,l.getD 2 0,l.getD 3 0,l.getD 4 0⟩) fun l h=>match l,h with
  | [_,_,_,_,_],_=>rfl
theorem QhH (rows:List (List IV)):(∀ row∈rows,row.length=5)->(∀ row∈rows,VY [shI,shI,shI,shI,shI] row)->∃ fs:List Xp,rows=fs.map sC :=
 UF (fun l=>⟨l.getD 0 0,l.getD 1 0,l.getD 2 0,l.getD 3 0,l.getD 4 0⟩) fun l h=>match l,h with
  | [_,_,_,_,_],_=>rfl
theorem QhI (rows:List (List IV)):(∀ row∈rows,row.length=3)->(∀ row∈rows,VY [shI,shI,shI] row)->∃ fs:List ZI,rows=fs.map leC :=
 UF (fun l=>⟨l.getD 0 0,l.getD 1 0,l.getD 2 0⟩) fun l h=>match l,h with
  | [_,_,_],_=>rfl
theorem Qm2 (rows:List (List IV)):(∀ row∈rows,row.length=4)->(∀ row∈rows,VY [shI,shI,shI,shI] row)->∃ fs:List QT,rows=fs.map baC :=
 UF (fun l=>⟨l.getD 0 0,l.getD 1 0,l.getD 2 0,l.getD 3 0⟩) fun l h=>match l,h with
  | [_,_,_,_],_=>rfl
theorem QhG (rows:List (List IV)):(∀ row∈rows,row.length=3)->(∀ row∈rows,VY [shI,shI,shI] row)->∃ fs:List VW,rows=fs.map trC :=
 UF (fun l=>⟨l.getD 0 0,l.getD 1 0,l.getD 2 0⟩) fun l h=>match l,h with
  | [_,_,_],_=>rfl
theorem Qm1 (rows:List (List IV)):(∀ row∈rows,row.length=3)->(∀ row∈rows,VY [shI,shI,shI] row)->∃ fs:List Rod,rows=fs.map roC :=
 UF (fun l=>⟨l.getD 0 0,l.getD 1 0,l.getD 2 0⟩) fun l h=>match l,h with
  | [_,_,_],_=>rfl
theorem QlB (rows:List (List IV)):(∀ row∈rows,row.length=7)->(∀ row∈rows,VY [shI,shI,shI,shI,shI,shI,shI] row)->∃ fs:List Qz,rows=fs.map reC :=
 UF (fun l=>⟨l.getD 0 0,l.getD 1 0,l.getD 2 0,l.getD 3 0,l.getD 4 0,l.getD 5 0,l.getD 6 0⟩) fun l h=>match l,h with
  | [_,_,_,_,_,_,_],_=>rfl
theorem QfJ:∀ rows:List (List IV),(∀ row∈rows,row.length=1)->(∀ row∈rows,VY [Sh.str] row)->∃ fs:List Txt,rows=fs.map fun s=>[IV.str s]
 | [],_,_=>⟨[],rfl⟩
 | row::rows,hrl,hr=>by
   obtain ⟨fs,hfs⟩:=QfJ rows (fun r hr'=>hrl r (by simp[hr'])) (fun r hr'=>hr r (by simp[hr']))
   have h1:=hrl row (by simp)
   match row,h1 with
   | [c],_ =>
     have hc:=hr [c] (by simp) 0 _ c rfl rfl
     cases hc with
     | str s _=>exact ⟨s::fs,by simp[hfs]⟩
theorem QDx:shp prog 7 40=some [.sl 40 [shI,shI,shI,shI,shI],.sl 40 [shI,shI,shI,shI,shI],shI,.sl 24 [shI,shI,shI],shI,shI,shI,.sl 32 [shI,shI,shI,shI],shI,.sl 24 [shI,shI,shI],shI,shI,shI,shI,shI,.sl 24 [shI,shI,shI],.sl 56 [shI,shI,shI,shI,shI,shI,shI],shI]:=by kernel_rfl
theorem QDw:shp prog 7 41=some [.sl 16 [.str]]:=by kernel_rfl
theorem QDv:shp prog 7 42=some [.sl 8 [shI]]:=by kernel_rfl
theorem QDo:∃ fs,prog.underlying 40=some (.struct fs):=⟨_,underlying40⟩
set_option maxRecDepth 100000 in
theorem Qqg {x:IV} (h:Qhc prog 40 x):∃ h,x=hoV h:=by
 obtain ⟨ss,h1,h2⟩:=h;rw[QDx] at h1;injection h1 with h1
 subst h1;obtain ⟨fs',hu⟩:=QDo;rw[hu] at h2;obtain ⟨xs,rfl,hl,hf⟩:=h2
 match xs,hl with
 | [a0,a1,a2,a3,a4,a5,a6,a7,a8,a9,a10,a11,a12,a13,a14,a15,a16,a17],_ =>
   have h0:=hf 0 _ a0 rfl rfl;have h1:=hf 1 _ a1 rfl rfl;have h2:=hf 2 _ a2 rfl rfl;have h3:=hf 3 _ a3 rfl rfl;have h4:=hf 4 _ a4 rfl rfl;have h5:=hf 5 _ a5 rfl rfl;have h6:=hf 6 _ a6 rfl rfl;have h7:=hf 7 _ a7 rfl rfl;have h8:=hf 8 _ a8 rfl rfl;have h9:=hf 9 _ a9 rfl rfl;have h10:=hf 10 _ a10 rfl rfl;have h11:=hf 11 _ a11 rfl rfl;have h12:=hf 12 _ a12 rfl rfl;have h13:=hf 13 _ a13 rfl rfl;have h14:=hf 14 _ a14 rfl rfl;have h15:=hf 15 _ a15 rfl rfl;have h16:=hf 16 _ a16 rfl rfl;have h17:=hf 17 _ a17 rfl rfl;cases h0 with
   | sl _ _ rows0 _ _ hrl0 hr0 =>
   cases h1 with
   | sl _ _ rows1 _ _ hrl1 hr1 =>
   cases h2 with
   | int _ n2 _ _ =>
   cases h3 with
   | sl _ _ rows3 _ _ hrl3 hr3 =>
   cases h4 with
   | int _ n4 _ _ =>
   cases h5 with
   | int _ n5 _ _ =>
   cases h6 with
   | int _ n6 _ _ =>
   cases h7 with
   | sl _ _ rows7 _ _ hrl7 hr7 =>
   cases h8 with
   | int _ n8 _ _ =>
   cases h9 with
   | sl _ _ rows9 _ _ hrl9 hr9 =>
   cases h10 with
   | int _ n10 _ _ =>
   cases h11 with
   | int _ n11 _ _ =>
   cases h12 with
   | int _ n12 _ _ =>
   cases h13 with
   | int _ n13 _ _ =>
   cases h14 with
   | int _ n14 _ _ =>
   cases h15 with
   | sl _ _ rows15 _ _ hrl15 hr15 =>
   cases h16 with
   | sl _ _ rows16 _ _ hrl16 hr16 =>
   cases h17 with
   | int _ n17 _ _ =>
   obtain ⟨l0,rfl⟩:=QlC rows0 hrl0 hr0;obtain ⟨l1,rfl⟩:=QhH rows1 hrl1 hr1;obtain ⟨l3,rfl⟩:=QhI rows3 hrl3 hr3;obtain ⟨l7,rfl⟩:=Qm2 rows7 hrl7 hr7;obtain ⟨l9,rfl⟩:=QhG rows9 hrl9 hr9;obtain ⟨l15,rfl⟩:=Qm1 rows15 hrl15 hr15;obtain ⟨l16,rfl⟩:=QlB rows16 hrl16 hr16;exact ⟨⟨⟨⟨l0,l1,n2⟩,⟨l3,n4,n5,n6,l7,n8⟩,l9,n10,n11⟩,⟨n12,n13,n14,l15,l16,n17⟩⟩,rfl⟩
theorem QfK:∀ rows:List (List IV),(∀ row∈rows,row.length=1)->(∀ row∈rows,VY [shI] row)->∃ fs:List Int,rows=fs.map fun n=>[IV.int .i64 n]
 | [],_,_=>⟨[],rfl⟩
 | row::rows,hrl,hr=>by
   obtain ⟨fs,hfs⟩:=QfK rows (fun r hr'=>hrl r (by simp[hr'])) (fun r hr'=>hr r (by simp[hr']))
   have h1:=hrl row (by simp)
   match row,h1 with
   | [c],_ =>
     have hc:=hr [c] (by simp) 0 _ c rfl rfl
     cases hc with
     | int _ n _ _=>exact ⟨n::fs,by simp[hfs]⟩
set_option maxRecDepth 100000 in
theorem Qqf {x:IV} (h:Qhc prog 41 x):∃ l,x=strs l/\l.length*16<=140737488351232:=by
 obtain ⟨ss,h1,h2⟩:=h;rw[QDw] at h1;injection h1 with h1
 subst h1;rw[underlying41] at h2;obtain ⟨s,hs,hf⟩:=h2;injection hs with hs _
 subst hs;cases hf with
 | sl _ _ rows hw hm hrl hr =>
   obtain ⟨fs,rfl⟩:=QfJ rows hrl hr;exact ⟨fs,rfl,by simpa[reachBytes] using hw⟩
set_option maxRecDepth 100000 in
theorem Qts {x:IV} (h:Qhc prog 42 x):∃ v,x=Q0 v:=by
 obtain ⟨ss,h1,h2⟩:=h;rw[QDv] at h1;injection h1 with h1
 subst h1;rw[underlying42] at h2;obtain ⟨s,hs,hf⟩:=h2;injection hs with hs _
 subst hs;cases hf with
 | sl _ _ rows hw hm hrl hr =>
   obtain ⟨fs,rfl⟩:=QfK rows hrl hr;exact ⟨fs,rfl⟩
theorem QDS {W:World} (hL:laidMetH prog Rows.topReplayRow.laid W) (hsh:W.ShapedOpen prog):KW W:=by
 have hl:laidMet prog Rows.topReplayRow.laid W:=by
  rw[MakeChecks.laidMetH_plain _ _ _ (by kernel_rfl)] at hL
  exact hL
 have h2:=hl.tail.tail;have h4:=h2.tail.tail;have h5:=h4.tail;refine ⟨hsh,?_,?_,?_⟩
 ·exact Lib.tabIs_of_head (n:=20) (rest:=Rows.topReplayRow.laid.drop 3) (g:=5) (t:=459) (e:=411) (by kernel_rfl) (by kernel_rfl) underlying459 underlying411 (by kernel_rfl) (by kernel_rfl) h2
 ·obtain ⟨a0, s0, hv0, _⟩ := laid_sentinel h5 (show prog.globalNamed "strconv.ErrSyntax" = some 1 by kernel_rfl) (show (prog.globals[1]?).map (·.type) = some 277 by kernel_rfl) underlying277 QuB underlying455 underlying457 rfl rfl underlying9 (by kernel_rfl) (by kernel_rfl)
  exact ⟨_,_,hv0⟩
 obtain ⟨a0, s0, hv0, _⟩ := laid_sentinel h4 (show prog.globalNamed "strconv.ErrRange" = some 2 by kernel_rfl) (show (prog.globals[2]?).map (·.type) = some 277 by kernel_rfl) underlying277 QuB underlying455 underlying457 rfl rfl underlying9 (by kernel_rfl) (by kernel_rfl)
 exact ⟨_,_,hv0⟩
set_option maxRecDepth 100000
theorem QnO {P:Program} {f:FuncId} {fn:Func} {s:ChangeSpec} {c:OpenClaim}
  (k1:c.wf (OpenSpec.ofChange s)=true) (k2:laidOutB P=true) (k3:mapsRowed P=true) (k4:fn.params.all (P.readableRec ·)=true) (k5:namedTie P c.named s.vars=true)
  (k6:(c.stops==[])=true) (k7:(P.stops==[])=true) (k8:(c.knobs==[])=true) (k9:(P.stopKnobs==[])=true)
  (k10:(c.inPlace==P.inPlace f)=true) (k11:(c.unfollowed==P.unfollowed f)=true) (k12:(c.recurses==P.recurses f)=true) (k13:(c.named==P.varsNamed f)=true)
  (k14:(c.maps==(fn.params.toList++s.plain.varTypes P).any (P.mapsRec ·))=true) (k15:(c.ifaces==(fn.params.toList++s.plain.varTypes P).any (P.ifacesRec ·))=true) (k16:(c.mapsOut==P.mapsAmong fn.resultTypes.toList)=true)
  (k17:(c.loops==(fn.params.toList++s.plain.varTypes P).any (P.loopsFrom ·))=true) (k17b:(c.wideKeys==(fn.params.toList++s.plain.varTypes P++fn.resultTypes.toList).any (P.wideKeysFrom ·))=true)
  (k18:s.vars.all (P.varReadable ·)=true) (k19:fn.resultTypes.all (fun t=>P.readableRec t&&decide (t<P.types.size))=true) (k20:(c.ifacesOut==fn.resultTypes.toList.any (P.ifacesRec ·))=true) (k21:(c.loopsOut==fn.resultTypes.toList.any (P.loopsFrom ·))=true)
  (k22:(c.plainKeys==P.plainKeys)=true) (k23:c.shortTexts.isNone=true) (k23b:P.stopsHeard=true) (k24:P.mayEnter=true) (k24b:(c.lifted==P.liftsFinal)=true) (k24c:(P.make==some c.make)=true)
  (k25:(c.kinds==(if c.domain.isEmpty then [] else fn.params.toList.map fun t=>match P.underlying t with | some (.int k)=>some k | _=>none))=true) (k26:(c.pinned==c.pinnedBy)=true)
  (k27:(c.veiled==(fn.params.toList++s.plain.varTypes P++fn.resultTypes.toList).any (P.veiledRec ·))=true) (k28:c.veiledFits P fn.params.toList (fn.params.toList++s.plain.varTypes P++fn.resultTypes.toList)=true):joinedFacts P f fn s c=true:=by
 simp only[joinedFacts,QKO];exact ⟨⟨⟨⟨⟨⟨⟨⟨⟨⟨⟨⟨⟨⟨⟨⟨⟨⟨⟨⟨⟨⟨⟨⟨⟨⟨⟨⟨⟨⟨⟨k1,k2⟩,k3⟩,k4⟩,k5⟩,k6⟩,k7⟩,k8⟩,k9⟩,k10⟩,k11⟩,k12⟩,k13⟩,k14⟩,k15⟩,k16⟩,k17⟩,k17b⟩,k18⟩,k19⟩,k20⟩,k21⟩,k22⟩,k23⟩,k23b⟩,k24⟩,k24b⟩,k24c⟩,k25⟩,k26⟩,k27⟩,k28⟩
theorem QEf:mapsRowed prog=true:=by kernel_rfl
theorem QEe:(prog.stops==[])=true:=by kernel_rfl
theorem QEd:(prog.stopKnobs==[])=true:=by kernel_rfl
theorem QxO:prog.stopsHeard=true:=by kernel_rfl
theorem QBO:prog.mayEnter=true:=by kernel_rfl
theorem QEb:(Rows.topReplayRow.plainKeys==prog.plainKeys)=true:=by kernel_rfl
theorem QBN:(Rows.topReplayRow.lifted==prog.liftsFinal)=true:=by kernel_rfl
theorem QEa:(prog.make==some Rows.topReplayRow.make)=true:=by kernel_rfl
theorem QBM:Tryz.pinned.checked.prog.looks []=true:=by kernel_rfl
end Go.Pf
namespace Go.Proofs
open Go.Shelf Go.RowKit Go.Lib
variable {P:Program} {ρ:Ren}
set_option maxHeartbeats 2000000 in
set_option maxRecDepth 100000 in
theorem Qmp (L:SlLaysE0.n41 P ρ) (i0:TypeInfo) (z:Value) (size bytes:Nat) (hi:P.info? (ρ.t 23)=some i0) (hz0:i0.zero=some z) (hz1:i0.size=size) (hz2:i0.bytes=bytes) (hzs:z.cells.size=size) (hsz:0<size)
  (z23:∀ w,(Go.sizeOf (ρ.t 23)).run P w=.ok size w) (a:Addr) (c:Nat) (w:World) :
  Calls P (ρ.f 41) #[.slice (some a) 0 c] w fun e w'=>∃ v',e=.returned v'/\w'.ownsRow w.heap.size (ρ.t 23) size v' 0 []/\Below w.heap.size w w':=by
 have mixed:=L.mixed;have t4:=L.t4;have a4:=L.a4;have z4:=L.z4;have v4:=L.v4;have t22:=L.t22;have a22:=L.a22;have z22:=L.z22;have v22:=L.v22;have q22:∀ (w:World) (a:Option Addr) (n c n' c':Nat),(binOp .eql (ρ.t 22) (.slice a n c) (.slice none n' c')).run P w=.ok (.bool a.isNone) w:=fun w a n c n' c'=>Lib.run_eql_slice_nil w _ _ a n c n' c' L.t22
 have u22:∀ w,Sem.run P (underlying (ρ.t 22)) w=.ok (TypeDesc.slice (ρ.t 23)) w:=run_underlying t22
 obtain ⟨_,_,FG⟩:=L.f41
 go_enter FG,SlBodyN.n41_ntmps ρ
 go_wp2_with (at_builtin;refine wpList_append_own _ rfl _ _ (ρ.t 22) rfl w.heap.size (ρ.t 23) i0 z size bytes t22 hi hz0 hz1 hz2 hzs hsz _ _ _ rfl (World.ownsRow_made w #[] 0 (QKS _) (QL3 _) (by simp)) a 0 c [] rfl ?qc1 ?qc2 ?qc3 ?qc4 ?qc5 ?qc6 ?_)
 case qc1=>simp
 case qc2=>grind
 case qc3=>grind
 case qc4=>simp
 case qc5=>simp
 case qc6=>simp
 intro v' w1 hown hgrow hnil
 go_wp2
 go_ret
 refine ⟨v',rfl,by omega,?_⟩
 exact ((Below.refl _ w).alloc (QKS _) _).grown hgrow (by simp) (by intro k hk;simp[Value.ownBlock] at hk;omega)
end Go.Proofs
namespace Go.Ev
open Go Go.RowKit
section
variable {P:Program} {K:World->Prop}
theorem Qpo {f:FuncId} {e:TypeId} {sz bytes:Nat}
  (hcl:∀ (b off n c:Nat) (news:List Value) (w:World),news.length=n*sz->n<=maxLen->n*bytes<=140737488355328->(∀ (j:Nat) (u:Value),news[j]?=some u->w.cell? ⟨b,off+j,none⟩=some u)->(∀ u∈news,u.oneCell'=true) ->
    Calls P f #[.slice (some ⟨b,off,none⟩) n c] w fun x w'=>∃ v',x=.returned v'/\w'.ownsRow w.heap.size e sz v' n news/\v'≠.slice none 0 0/\Below w.heap.size w w')
  (hnil:∀ w:World,Calls P f #[.slice none 0 0] w fun x w'=>x=.returned (.slice none 0 0)/\w'=w)
  (hzero:∀ (a:Addr) (w:World),Calls P f #[.slice (some a) 0 0] w fun x w'=>∃ v',x=.returned v'/\w'.ownsRow w.heap.size e sz v' 0 []/\Below w.heap.size w w')
  (rows:List (List IV)) (hb:rows.length*bytes<=140737488355328) (hsz:∀ c∈rows,c.length=sz):QjW P K f [.sl sz rows] (.yo 0 rows.length) e sz rows 0:=by
 by_cases hne:rows=[]
 ·subst hne
  intro w ok vs hk hnew hl hvs
  obtain ⟨v0,rfl⟩:∃ v0,vs=[v0]:=by
   match vs,hl with
   | [v],_=>exact ⟨v,rfl⟩
  have hrep:=hvs 0 _ v0 rfl rfl
  have fin:∀ (v':Value) (w':World),w'.ownsRow w.heap.size e sz v' 0 []->Below w.heap.size w w' ->
    ∃ v l,Ending.returned v'=.returned v/\QE (fun b=>b<w.heap.size) (okL ok (one (XE e sz [] 0)) (fun _=>l)) w' (one (XE e sz [] 0)) (fun _=>l) (XE e sz [] 0) l /\
     QB (okL ok (one (XE e sz [] 0)) (fun _=>l)) w' (one (XE e sz [] 0)) (fun _=>l) (ren 0 (.yo 0 0)) v/\Below w.heap.size w w':=by
   intro v' w' hown hbel;have hsl:=Yk hown;have hge:∀ b,v'.ownBlock=some b->w.heap.size<=b:=fun b h=>(hown.lt b h).1
   have hown0:w'.ownsRow 0 e sz v' 0 []:=by
    obtain ⟨h1,h2⟩:=hown;refine ⟨h1,?_⟩
    grind
   refine ⟨v',.arr v' [],rfl,⟨⟨by simpa using hown0,fun b h1 h2=>by grind⟩,QL3 _,by simp,by simp,by simp⟩,?_,hbel⟩
   exact QB.yo (ok:=okL ok (one (XE e sz [] 0)) (fun _=>.arr v' [])) (w:=w') (lo:=one (XE e sz [] 0)) (L:=fun _=>.arr v' []) 0 e sz [] 0 v' [] (by simp[one,XE]) rfl hsl
  cases hrep with
  | nils _=>exact (hnil w).mono fun x w' ⟨h1,h2⟩=>by subst h1 h2;exact fin _ _ ⟨by simp,.inl ⟨rfl,rfl⟩⟩ (Below.refl _ _)
  | nilz _ a=>exact (hzero a w).mono fun x w' ⟨v',h1,h2,h3⟩=>by grind
  | sl _ _ b off cap u hlc hc hs hu hx=>exact (hcl b off 0 cap [] w (by simp) (by simp) (by simp) (by simp) (by simp)).mono fun x w' ⟨v',h1,h2,_,h3⟩=>by grind
 exact UV hcl rows hb hsz hne
end
end Go.Ev
namespace Go.Pf
open Go Go.Ev Go.Proofs Go.RowKit Go.Shelf Go.Proofs.Tryz
set_option maxRecDepth 8000
noncomputable def Qij (t:TypeId) (h:(prog.info? t).isSome=true):TypeInfo:=(prog.info? t).get h
noncomputable def QuN (i:TypeInfo) (h:i.zero.isSome=true):Value:=i.zero.get h
section
variable {K:World->Prop}
theorem Qce {f:FuncId} {ρ:Ren} {e:TypeId} (sz bytes:Nat) (L:SlLaysE0.n41 prog ρ) (hf:ρ.f 41=f) (he:ρ.t 23=e) (h1:(prog.info? e).isSome=true) (h2:(Qij e h1).zero.isSome=true) (h3:(Qij e h1).size=sz) (h4:(Qij e h1).bytes=bytes) (h5:(QuN (Qij e h1) h2).cells.size=sz) (h0:0<sz)
  (hz:∀ w,(Go.sizeOf e).run prog w=.ok sz w) (rows:List (List IV)) (hb:rows.length*bytes<=140737488355328) (hsz:∀ c∈rows,c.length=sz):Gp K f [.sl sz rows] (.yo 0 rows.length) e sz rows 0:=by
 subst hf he;have hi:prog.info? (ρ.t 23)=some (Qij _ h1):=by simp[Qij]
 have hz0:(Qij _ h1).zero=some (QuN _ h2):=by simp[QuN]
 exact Qpo (fun b off n c news w g1 g2 g3 g4 g5=>AnyE.slices_Clone L _ _ sz bytes hi hz0 h3 h4 h5 h0 hz b off n c news w g1 g2 g3 g4 g5) (fun w=>AnyE.slices_Clone_nil L 0 0 w)
  (fun a w=>Qmp L _ _ sz bytes hi hz0 h3 h4 h5 h0 hz a 0 w) rows hb hsz
theorem QB1 (l:List Qx) (hl:l.length<=1000):Gp K 66 [QC l] (.yo 0 l.length) 139 5 (l.map dC) 0:=by
 have h:=Qce (K:=K) (f:=66) (e:=139) 5 40 Tryz.clone66 rfl rfl (by kernel_rfl) (by kernel_rfl) (by kernel_rfl) (by kernel_rfl) (by kernel_rfl) (by decide) sizeOf139 (l.map dC) (by simp;omega) (by simp)
 simpa using h
theorem QB0 (l:List Xp) (hl:l.length<=1000):Gp K 67 [Qy l] (.yo 0 l.length) 142 5 (l.map sC) 0:=by
 have h:=Qce (K:=K) (f:=67) (e:=142) 5 40 Tryz.clone67 rfl rfl (by kernel_rfl) (by kernel_rfl) (by kernel_rfl) (by kernel_rfl) (by kernel_rfl) (by decide) sizeOf142 (l.map sC) (by simp;omega) (by simp)
 simpa using h
theorem QBZ (l:List ZI) (hl:l.length<=1000):Gp K 68 [QV l] (.yo 0 l.length) 145 3 (l.map leC) 0:=by
 have h:=Qce (K:=K) (f:=68) (e:=145) 3 24 Tryz.clone68 rfl rfl (by kernel_rfl) (by kernel_rfl) (by kernel_rfl) (by kernel_rfl) (by kernel_rfl) (by decide) sizeOf145 (l.map leC) (by simp;omega) (by simp)
 simpa using h
theorem QBY (l:List QT) (hl:l.length<=1000):Gp K 69 [XR l] (.yo 0 l.length) 148 4 (l.map baC) 0:=by
 have h:=Qce (K:=K) (f:=69) (e:=148) 4 32 Tryz.clone69 rfl rfl (by kernel_rfl) (by kernel_rfl) (by kernel_rfl) (by kernel_rfl) (by kernel_rfl) (by decide) sizeOf148 (l.map baC) (by simp;omega) (by simp)
 simpa using h
theorem QBX (l:List Rod) (hl:l.length<=1000):Gp K 70 [qb l] (.yo 0 l.length) 106 3 (l.map roC) 0:=by
 have h:=Qce (K:=K) (f:=70) (e:=106) 3 24 Tryz.clone70 rfl rfl (by kernel_rfl) (by kernel_rfl) (by kernel_rfl) (by kernel_rfl) (by kernel_rfl) (by decide) sizeOf106 (l.map roC) (by simp;omega) (by simp)
 simpa using h
theorem QBW (l:List Qz) (hl:l.length<=1000):Gp K 71 [Y7 l] (.yo 0 l.length) 108 7 (l.map reC) 0:=by
 have h:=Qce (K:=K) (f:=71) (e:=108) 7 56 Tryz.clone71 rfl rfl (by kernel_rfl) (by kernel_rfl) (by kernel_rfl) (by kernel_rfl) (by kernel_rfl) (by decide) sizeOf108 (l.map reC) (by simp;omega) (by simp)
 simpa using h
theorem QBV (l:List VW) (hl:l.length<=1000):Gp K 72 [Xq l] (.yo 0 l.length) 104 3 (l.map trC) 0:=by
 have h:=Qce (K:=K) (f:=72) (e:=104) 3 24 Tryz.clone72 rfl rfl (by kernel_rfl) (by kernel_rfl) (by kernel_rfl) (by kernel_rfl) (by kernel_rfl) (by decide) sizeOf104 (l.map trC) (by simp;omega) (by simp)
 simpa using h
end
end Go.Pf
namespace Go.Proofs
open Go.Proofs.Tryz
open Go.Shelf
def Tryz.keys424_ren:Go.Shelf.Ren:=⟨fun | 10=>424 | n=>n,fun | 23=>219 | 26=>3 | 3=>42 | 28=>253 | 0=>0 | 27=>252 | 33=>109 | 4=>4 | n=>n,fun | n=>n⟩
theorem Tryz.keys424:Go.Proofs.SlLaysZI.n10 prog Tryz.keys424_ren:={
 mixed:=by kernel_rfl
 f10:=⟨Tryz.f424.name,by decide,func424.trans (congrArg some (by kernel_rfl))⟩
 t0:=underlying0
 a0:=isAgg0
 z0:=sizeOf0
 v0:=zeroValue0
 t4:=underlying4
 a4:=isAgg4
 z4:=sizeOf4
 v4:=zeroValue4
 t23:=underlying219
 a23:=isAgg219
 z23:=sizeOf219
 v23:=zeroValue219
 t26:=underlying3
 a26:=isAgg3
 z26:=sizeOf3
 v26:=zeroValue3
 t33:=underlying109
 a33:=isAgg109
 z33:=sizeOf109
 v33:=zeroValue109 }
end Go.Proofs
namespace Go.Pf
open Go Go.Ev Go.Proofs Go.RowKit Go.Shelf Go.Proofs.Tryz
set_option maxRecDepth 8000
theorem Vo (lb:Array Value) (S:List Int->Prop) (N:Nat) (hN:N<=1000000) (w:World) (hseq:SeqGives Fence.wide 2 prog 424 lb encZ S N w) :
  Calls prog 177 #[.func (.func 424) #[] lb] w fun e w'=>∃ (v:Value) (ss:List Int),e=.returned v/\S ss /\
   w'.ownsRow w.heap.size 3 1 v ss.length ((ss.mergeSort (fun x y=>decide (x<=y))).map encZ)/\(v=.slice none 0 0↔ss=[])/\Below w.heap.size w w':=by
 refine (callsIn_wide (n:=5)).1 ?_;exact AnyZI.sorted_in Tryz.sorted177 Fence.wide 5 trivial trivial trivial trivial rfl (by omega) (Tryz.sorts262 _) (enters_of func262 (by kernel_rfl) rfl) 424 lb trivial (enters_of func424 (by kernel_rfl) rfl) S N (by unfold maxLen;omega) (by omega) w hseq
section
variable {K:World->Prop}
theorem QrS (kvs:List (MK × IV)) (ks:List Int) (hk:kvs.map (·.1)=ks.map (fun x=>MK.int .i64 x)) (hwf:∀ x∈ks,-9223372036854775808<=x/\x<9223372036854775808) (hlen:ks.length<=1000000) :
  Gd K 177 [.clo 424 [] [.ptr [.map kvs]]] (Q0 (ks.mergeSort fun x y=>decide (x<=y))):=by
 intro w ok vs hK hnew hl hvs
 obtain ⟨v0,rfl⟩:∃ v0,vs=[v0]:=by
  match vs,hl with
  | [v],_=>exact ⟨v,rfl⟩
 have hrep:=hvs 0 _ v0 rfl rfl
 have fin:∀ (v:Value) (w':World) (ss:List Int),ss.Perm ks->w'.ownsRow w.heap.size 3 1 v ss.length ((ss.mergeSort (fun x y=>decide (x<=y))).map encZ)->Below w.heap.size w w' ->
   ∃ v1,Ending.returned v=.returned v1/\QS ok w' (Q0 (ks.mergeSort fun x y=>decide (x<=y))) v1/\Below w.heap.size w w':=fun v w' ss hp ho hb=>by
  refine ⟨v,rfl,?_,hb⟩;have e1:ss.mergeSort (fun x y=>decide (x<=y))=ks.mergeSort fun x y=>decide (x<=y):=mergeSort_of_perm_i hp
  rw[e1] at ho;have hl2:ss.length=ks.length:=hp.length_eq;have e3:(ks.mergeSort fun x y=>decide (x<=y)).length=ss.length:=by simp[hl2]
  generalize (ks.mergeSort fun x y=>decide (x<=y))=zs at *
  obtain ⟨h1,h2 | ⟨g,cap,cur,h2,h3,h4,h5,h6,h7,h8⟩⟩:=ho
  ·obtain ⟨rfl,h2⟩:=h2
   have:zs=[]:=QKT (by omega)
   subst this;exact .nils _
  subst h2;rw[<- e3];refine Wd zs g cap (by omega) h6 (hnew g h3) fun j z hj=>?_
  have hjl:=(QKN.1 hj).1;have:(cur.toList.take (ss.length*1))[j]?=some (.int .i64 z):=by grind
  rw[QLt,if_pos (by omega)] at this
  simp only[World.cell?,h4];simpa using this
 cases hrep with
 | clo _ _ _ us vs' h1 h2 hf hc =>
   obtain rfl:us=[]:=QKT h1
   obtain ⟨p,rfl⟩:∃ p,vs'=[p]:=by
    match vs',h2 with
    | [v],_=>exact ⟨v,rfl⟩
   have hp:=hc 0 _ p rfl rfl;cases hp with
   | ptr _ b off u hu hx =>
     have hcell:=(hu 0 (by simp)).2.1
     rw[QLS] at hcell;have hbw:b<w.heap.size:=QLK w ⟨b,off,none⟩ hcell;have hm:=hx 0 _ rfl;generalize u 0=u0 at hcell hm;cases hm with
     | mapn =>
       have hk0:ks=[]:=by simpa using hk.symm
       subst hk0;refine (Vo _ _ 0 (by omega) w (Jf (ρ:=Tryz.keys424_ren) { Tryz.keys424 with } Fence.wide 2 trivial rfl b off w hbw hcell)).mono ?_
       grind
     | map _ r es clock hok hr hmr hd hxx =>
       have hks:kvs.length=ks.length:=by simpa using congrArg List.length hk
       have hkey:∀ (i:Nat) (x:MapEntry),es[i]?=some x->∃ n:Int,ks[i]?=some n/\x.key=.int .i64 n:=fun i x hx=>by
        obtain ⟨k,h3,h4⟩:=hmr.keys i x hx;rw[<- QKU,hk,QKU,QKQ] at h3;obtain ⟨n,h5,rfl⟩:=h3;exact ⟨n,h5,h4⟩
       have hrd:∀ (i:Nat) (x:MapEntry),es[i]?=some x->∃ n:Int,ks[i]?=some n/\x.key=.int .i64 n/\WideElems.rd prog 3 Qhf x=some (.int .i64 n,.nil):=fun i x hx=>by
        obtain ⟨n,h3,h4⟩:=hkey i x hx;exact ⟨n,h3,h4,Qt5 h4 (hwf n (QK4 h3))⟩
       have hlist:es.toList.map (fun x=>intOf (WideElems.rg prog 3 Qhf x).1)=ks:=by
        refine QMo fun i=>?_
        rw[QKU];cases hx:es[i]? with
        | none =>
          have:es.size<=i:=by
           grind
          have hz:=hmr.size
          grind
        | some x =>
          obtain ⟨n,h3,h4,h5⟩:=hrd i x hx;rw[Array.getElem?_toList,hx,h3];simp[WideElems.rg,h5,intOf]
       have hown:w.ownsMap prog 3 Qhf r ks.length (DataW.map ((es.toList.map (WideElems.rg prog 3 Qhf)).foldr DataW.insert [])):=by
        refine ⟨es,clock,hr,⟨by have:=hmr.size;unfold maxLen;omega,⟨fun x hx=>?_,?_,?_⟩,fun x hx=>?_⟩,by grind,rfl⟩
        ·obtain ⟨i,hi⟩:=QLn hx
         exact hmr.born i x (by simpa using hi)
        ·rw[List.nodup_iff_pairwise_ne] at *
         refine QL5.2 fun i j hi hj hij heq=>?_
         simp at hi hj heq;have:=hmr.apart i j es[i] es[j] (by simp[hi]) (by simp[hj]) heq
         omega
        ·refine QL5.2 fun i j hi hj hij heq=>?_
         simp at hi hj heq;obtain ⟨k1,h3,h4⟩:=hmr.keys i es[i] (by simp[hi])
         obtain ⟨k2,h5,h6⟩:=hmr.keys j es[j] (by simp[hj])
         rw[QKQ] at h3 h5;obtain ⟨p,h7,rfl⟩:=h3;obtain ⟨q,h8,rfl⟩:=h5;rw[h4,h6] at heq
         have:p.1=q.1:=by
          cases hp1:p.1<;>cases hq1:q.1<;>rw[hp1,hq1] at heq<;>simp[MK.val] at heq |-<;>simp_all
         grind
        obtain ⟨i,hi⟩:=QLn hx
        grind
       have hperm:(intKeys (DataW.map ((es.toList.map (WideElems.rg prog 3 Qhf)).foldr DataW.insert []))).Perm ks:=by
        have:=(sorted_perm (es.toList.map (WideElems.rg prog 3 Qhf))).map fun p=>intOf p.1
        rw[List.map_map] at this;refine this.trans ?_;rw[show es.toList.map ((fun p=>intOf p.1)∘WideElems.rg prog 3 Qhf)=ks from hlist]
       have hsz:=hown.size_le;refine (Vo _ _ _ (by omega) w (Ux (ρ:=Tryz.keys424_ren) { Tryz.keys424 with } Fence.wide 2 trivial rfl (by omega) b off r _ _ w hbw hcell hown)).mono ?_
       grind
end
end Go.Pf
namespace Go.Pf
open Go Go.Ev Go.Proofs Go.RowKit Go.Proofs.Tryz
variable {K:World->Prop} (hK:∀ w w',K w->Below w.heap.size w w'->K w')
set_option maxRecDepth 8000
include hK
theorem X7 (x a b:Int):Gd K 149 [.int .i64 x,.int .i64 a,.int .i64 b] (.bool (decide (inR x a b))):=by
 refine Qb hK (fk func149 QHP (by kernel_rfl)) (by simp) ?_
 by_cases h:a<=x<;>simp[inR,h]
theorem VL (x a b:Int):Gd K 49 [.int .i64 x,.int .i64 a,.int .i64 b] (.bool (decide (inR x a b))):=by
 refine Qb hK (fk func49 c49 (by kernel_rfl)) (by simp) ?_
 simp;exact cK (Xv hK x a b) (by simp)
theorem Qxd (n:Int):Gd K 151 [.int .i64 n] (.bool (decide (n=1\/n=2))):=by
 refine Qb hK (fk func151 QHN (by kernel_rfl)) (by simp) ?_
 by_cases h:n=1<;>simp[h]
theorem QBo (n:Int):Gd K 50 [.int .i64 n] (.bool (decide (n=1\/n=2))):=by
 refine Qb hK (fk func50 c50 (by kernel_rfl)) (by simp) ?_
 by_cases h:n=1<;>simp[h]
theorem Qxf (r:Rod):Gd K 148 [.agg (roC r)] (.bool (decide (Vk r))):=by
 refine Qb hK (fk func148 QHQ (by kernel_rfl)) (by simp) ?_
 simp;refine cK (X7 hK _ _ _) ?_;by_cases h1:inR r.long 1 9999
 ·have h1':=h1
  simp only[inR] at h1';simp[h1,Vk,Qdf];refine ⟨by omega,cK (X7 hK _ _ _) ?_⟩
  by_cases h2:inR r.ya 0 (min 9 (r.long-1))
  ·simp[h2]
   exact cK (X7 hK _ _ _) (by simp)
  simp[h2]
 simp[h1,Vk]
theorem Qxe (p:Zj) (x:Qz) (hl:p.zi.length<=1000):Gd K 150 [.agg (reC x),.ptr (puC p)] (.bool (decide (XM p.zi.length x))):=by
 refine Qb hK (fk func150 QHO (by kernel_rfl)) (by simp) ?_
 simp;refine cK (Qxd hK _) ?_;by_cases h1:x.yj=1\/x.yj=2;rotate_left
 ·simp[h1,XM]
 ·simp[h1,XM]
  intro _;refine ⟨by omega,cK (X7 hK _ _ _) ?_⟩
  by_cases h2:inR x.rod 0 ((p.zi.length:Int)-1);rotate_left
  ·simp[h2]
  ·simp[h2]
   refine cK (X7 hK _ _ _) ?_;by_cases h3:inR x.count 0 99
   ·simp[h3]
    refine cK (X7 hK _ _ _) ?_;by_cases h4:inR x.rest 0 9999
    ·simp[h4]
     refine cK (X7 hK _ _ _) ?_;by_cases h5:inR x.off 0 99
     ·simp[h5]
      refine cK (X7 hK _ _ _) ?_;by_cases h6:inR x.yk (-50) x.yl
      ·simp[h6]
      simp[h6]
     simp[h5]
    simp[h4]
   ·simp[h3]
theorem QwJ (r:Qz) (g:FuncId) (cs:List IV) (q:Qz->Bool) (hg:Gd K g ([.agg (reC r)]++cs) (.bool (q r))) (hc:callee prog g=true):Gd K 245 [.agg (reC r),.ptr [.clo g [] cs]] (.bool (!q r)):=by
 refine Qb hK (fk func245 QGV (by kernel_rfl)) (by simp) ?_
 simp;exact ⟨hc,cK hg (by simp)⟩
theorem QrR (r:Rod) (g:FuncId) (q:Rod->Bool) (hg:Gd K g [.agg (roC r)] (.bool (q r))) (hc:callee prog g=true):Gd K 243 [.agg (roC r),.ptr [.fn g]] (.bool (!q r)):=by
 refine Qb hK Qze (by simp) ?_
 simp;exact ⟨hc,cK hg (by simp)⟩
theorem Qws (l:List Rod) (g:FuncId) (cs:List IV) (p:Rod->Bool) (hg:∀ x∈l,Gd K g ([.agg (roC x)]++cs) (.bool (p x))) (hc:callee prog g=true) (hl:l.length<=1000):Gd K 308 [qb l,.clo g [] cs] (.int .i64 (fi p l)):=by
 refine Qb hK (fk func308 QGw (by kernel_rfl)) (by simp) ?_
 simp;intro _;refine Ql (fun i=>[(0,AV.iv (qb l)),(1,AV.iv (.clo g [] cs)),(7,AV.iv (.int .i64 l.length)),(8,AV.iv (IV.int IntKind.i64 (i:Nat)))]) (fun _=>[]) l.length (fun i=>∀ x∈l.take i,p x=false) (by simp) ?_ ?_
 ·intro h
  rw[Qa Qjb.eq_1];rw[QKX] at h;simp[UR p l h]
 intro i hi h ih;rw[Qa Qjb.eq_1];have hgi:=hg l[i] (QKR hi);simp[hi] at ih |-;refine ⟨hc,cK hgi ?_⟩;by_cases hp:p l[i]=true
 ·simp[hp,QiH p l i hi hp h]
 have hp':p l[i]=false:=by simpa using hp
 simp[hp'];refine ⟨by omega,ih ?_⟩
 rw[QKL hi]
 grind
theorem Qwr (l:List Qz) (g:FuncId) (cs:List IV) (p:Qz->Bool) (hg:∀ x∈l,Gd K g ([.agg (reC x)]++cs) (.bool (p x))) (hc:callee prog g=true) (hl:l.length<=1000):Gd K 309 [Y7 l,.clo g [] cs] (.int .i64 (fi p l)):=by
 refine Qb hK (fk func309 QGv (by kernel_rfl)) (by simp) ?_
 simp;intro _;refine Ql (fun i=>[(0,AV.iv (Y7 l)),(1,AV.iv (.clo g [] cs)),(7,AV.iv (.int .i64 l.length)),(8,AV.iv (IV.int IntKind.i64 (i:Nat)))]) (fun _=>[]) l.length (fun i=>∀ x∈l.take i,p x=false) (by simp) ?_ ?_
 ·intro h
  rw[Qa Qja.eq_1];rw[QKX] at h;simp[UR p l h]
 intro i hi h ih;rw[Qa Qja.eq_1];have hgi:=hg l[i] (QKR hi);simp[hi] at ih |-;refine ⟨hc,cK hgi ?_⟩;by_cases hp:p l[i]=true
 ·simp[hp,QiH p l i hi hp h]
 have hp':p l[i]=false:=by simpa using hp
 simp[hp'];refine ⟨by omega,ih ?_⟩
 rw[QKL hi]
 grind
theorem QwL (l:List Rod) (g:FuncId) (cs:List IV) (p:Rod->Bool) (hg:∀ x∈l,Gd K g ([.agg (roC x)]++cs) (.bool (p x))) (hc:callee prog g=true) (hl:l.length<=1000):Gd K 242 [qb l,.clo g [] cs] (.bool (l.any p)):=by
 refine Qb hK (fk func242 QGY (by kernel_rfl)) (by simp) ?_
 simp;refine cK (Qws hK l g cs p hg hc hl) ?_;simp[VP]
theorem QwK (l:List Qz) (g:FuncId) (cs:List IV) (p:Qz->Bool) (hg:∀ x∈l,Gd K g ([.agg (reC x)]++cs) (.bool (p x))) (hc:callee prog g=true) (hl:l.length<=1000):Gd K 244 [Y7 l,.clo g [] cs] (.bool (l.any p)):=by
 refine Qb hK (fk func244 QGW (by kernel_rfl)) (by simp) ?_
 simp;refine cK (Qwr hK l g cs p hg hc hl) ?_;simp[VP]
theorem Qxc (l:List Rod) (g:FuncId) (q:Rod->Bool) (hg:∀ x,Gd K g [.agg (roC x)] (.bool (q x))) (hc:callee prog g=true) (hl:l.length<=1000):Gd K 152 [qb l,.fn g] (.bool (l.all q)):=by
 refine Qb hK (fk func152 QHM (by kernel_rfl)) (by simp) ?_
 simp;refine cK (QwL hK l 243 [.ptr [.fn g]] (fun x=>!q x) (fun x _=>QrR hK x g q (hg x) hc) (by kernel_rfl) hl) ?_
 simp[List.all_eq_not_any_not]
theorem Qxb (l:List Qz) (g:FuncId) (cs:List IV) (q:Qz->Bool) (hg:∀ x,Gd K g ([.agg (reC x)]++cs) (.bool (q x))) (hc:callee prog g=true) (hl:l.length<=1000):Gd K 153 [Y7 l,.clo g [] cs] (.bool (l.all q)):=by
 refine Qb hK (fk func153 QHL (by kernel_rfl)) (by simp) ?_
 simp;refine cK (QwK hK l 245 [.ptr [.clo g [] cs]] (fun x=>!q x) (fun x _=>QwJ hK x g cs q (hg x) hc) (by kernel_rfl) hl) ?_
 simp[List.all_eq_not_any_not]
theorem Quh (p:Zj) (hl:p.zi.length<=1000) (hx:p.zj.length<=1000):Gd K 65 [puV p] (.int .i64 (if OkU p then 0 else 40)):=by
 refine Qb hK (fk func65 c65 (by kernel_rfl)) (by simp) ?_
 have no:∀ q:Prop,(OkU p->q)->¬ q->¬ OkU p:=fun q h1 h2 h=>h2 (h1 h)
 simp;refine cK (X7 hK _ _ _) ?_;by_cases h1:inR p.yi 0 50;rotate_left
 ·have:=no _ (fun h=>h.yi) h1
  simp[h1,this]
 simp[h1];refine cK (X7 hK _ _ _) ?_;by_cases h2:inR p.yb 1 p.yc;rotate_left
 ·have:=no _ (fun h=>h.guess) h2
  simp[h2,this]
 simp[h2];by_cases h3:p.yc<=99999;rotate_left
 ·have h3':99999<p.yc:=by omega
  have:=no _ (fun h=>h.most) h3
  grind
 have h3':¬ 99999<p.yc:=by omega
 simp[h3'];intro _;refine cK (X7 hK _ _ _) ?_;by_cases h4:inR p.zh 0 8;rotate_left
 ·have:=no _ (fun h=>h.zh) h4
  simp[h4,this]
 simp[h4];intro _;by_cases h5:p.zi.length<=4;rotate_left
 ·have h5':(4:Int)<p.zi.length:=by omega
  have:=no _ (fun h=>h.rlen) h5
  grind
 have h5':¬ (4:Int)<p.zi.length:=by omega
 simp[h5'];intro _;by_cases h6:p.zj.length<=8;rotate_left
 ·have h6':(8:Int)<p.zj.length:=by omega
  have:=no _ (fun h=>h.xlen) h6
  grind
 have h6':¬ (8:Int)<p.zj.length:=by omega
 simp[h6'];intros;refine cK (Qxc hK p.zi 148 (fun r=>decide (Vk r)) (Qxf hK) (by kernel_rfl) hl) ?_
 by_cases h7:∀ r∈p.zi,Vk r
 ·have h7':p.zi.all (fun r=>decide (Vk r))=true:=by simpa using h7
  simp only[h7'];simp;refine cK (Qxb hK p.zj 150 [.ptr (puC p)] (fun x=>decide (XM p.zi.length x)) (fun x=>Qxe hK p x hl) (by kernel_rfl) hx) ?_
  by_cases h8:∀ x∈p.zj,XM p.zi.length x
  ·have h8':p.zj.all (fun x=>decide (XM p.zi.length x))=true:=by simpa using h8
   have hok:OkU p:=⟨h1,h2,h3,h4,h5,h6,h7,h8⟩;simp only[h8'];simp[hok]
  have h8':p.zj.all (fun x=>decide (XM p.zi.length x))=false:=by simpa using h8
  have:=no _ (fun h=>h.zj) h8
  simp only[h8'];simp[this]
 have h7':p.zi.all (fun r=>decide (Vk r))=false:=by simpa using h7
 have:=no _ (fun h=>h.zi) h7
 simp only[h7'];simp[this]
omit hK
theorem Qde {a b A B:Int} (h0:0<=a) (h1:a<=A) (h2 : -B<=b) (h3:b<=B) : -(A*B)<=a*b/\a*b<=A*B:=by
 have hB:0<=B:=by omega
 have hA:0<=A:=by omega
 have e1:a*b<=a*B:=QLL h3 h0;have e2:a*B<=A*B:=QLc h1 hB;have e3:a*(-B)<=a*b:=QLL h2 h0
 grind
theorem QuA {p:Zj} {x:Qz} {len rl t:Int} (hp:OkU p) (hx:XM p.zi.length x) (hlen:0<=len/\len<=99999) (hrl:0<=rl/\rl<=9999) (ht : -50<=t/\t<=50) :
  (0<=x.count*rl/\x.count*rl<=1000000)/\(-2500<=p.yi*t/\p.yi*t<=2500)/\(-2500<=Qan p x*t/\Qan p x*t<=2500) /\
  (-200000000000<=len*(1000000+p.yi*t)/\len*(1000000+p.yi*t)<=200000000000) /\
  (-4000000000000<=(x.count*rl+x.rest)*(1000000+Qan p x*t)/\(x.count*rl+x.rest)*(1000000+Qan p x*t)<=4000000000000)/\(0<=x.off*1000000/\x.off*1000000<=99000000):=by
 obtain ⟨hw,hr,hc,hrest,hoff,hwl,hwh⟩:=hx;have hi:=hp.yi;simp only[inR] at *;have xc:x.rod.toNat<p.zi.length:=by omega
 have hg:0<=Qan p x/\Qan p x<=50:=by
  unfold Qan;rw[List.getD_eq_getElem?_getD,QKM xc];have:=(hp.zi _ (QKR xc)).2.2;simpa[inR] using this
 have b1:=Qde hc.1 hc.2 (b:=rl) (B:=9999) (by omega) (by omega)
 have b1':=QLU hc.1 hrl.1;have b2:=Qde hi.1 hi.2 (b:=t) (B:=50) (by omega) (by omega)
 have b3:=Qde hg.1 hg.2 (b:=t) (B:=50) (by omega) (by omega)
 have b4:=Qde hlen.1 hlen.2 (b:=1000000+p.yi*t) (B:=1002500) (by omega) (by omega)
 have b5:=Qde (a:=x.count*rl+x.rest) (A:=1000000) (by omega) (by omega) (b:=1000000+Qan p x*t) (B:=1002500) (by omega) (by omega)
 omega
theorem Qrv (p:Zj) (x:Qz) (len rl t:Int):Que p x len rl t=decide (max (QzS p x len rl t) (-QzS p x len rl t)<=x.off*1000000):=by
 unfold Que
 grind
theorem QmF {n:Nat} {x:Qz} (hx:XM n x):x.yk+Qho x=x.yl+1:=by
 obtain ⟨_,_,_,_,_,h,_⟩:=hx;simp only[inR] at h;unfold Qho;omega
theorem Qm6 {p:Zj} {x:Qz} {len rl:Int} (h:∀ j:Nat,j<Qho x->Que p x len rl (x.yk+j)=false):qR p x len rl=false:=by
 unfold qR
 grind
theorem Qm7 {p:Zj} {x:Qz} {len rl:Int} (j:Nat) (hj:j<Qho x) (h:Que p x len rl (x.yk+j)=true):qR p x len rl=true :=
 QMh.2 ⟨j,QLi.2 hj,h⟩
include hK
theorem QBn (p:Zj) (n:Int) (hl:p.zi.length<=1000):Gd K 51 [puV p,.int .i64 n] (.bool (decide (inR n 0 ((p.zi.length:Int)-1)))):=by
 refine Qb hK (fk func51 c51 (by kernel_rfl)) (by simp) ?_
 simp;intro _;refine ⟨by omega,cK (VL hK _ _ _) ?_⟩
 simp
theorem Qwd (p:Zj) (x:Qz) (len rl:Int) (hp:OkU p) (hx:XM p.zi.length x) (hlen:0<=len/\len<=99999) (hrl:0<=rl/\rl<=9999) :
  Gd K 423 [puV p,.agg (reC x),.int .i64 len,.int .i64 rl] (.bool (qR p x len rl)):=by
 refine Qb hK (fk func423 QF1 (by kernel_rfl)) (by simp) ?_
 have h1:=hx.2.1;have h3:=hx.2.2.2.1;have hwl:=hx.2.2.2.2.2.1;have hwh:=hx.2.2.2.2.2.2;simp only[inR] at h1 h3 hwl;have b0:=(QuA hp hx hlen hrl (t:=0) (by omega)).1
 have xc:x.rod.toNat<p.zi.length:=by omega
 have hwp:=QmF hx;simp;refine ⟨by omega,by omega,?_⟩
 have e0:AV.iv (.int .i64 x.yk)=AV.iv (.int .i64 (x.yk+((0:Nat):Int))):=by simp
 rw[e0];refine Ql (fun i=>[(2,AV.iv (.int .i64 len)),(4,AV.iv (.ptr (puC p))),(5,AV.iv (.ptr (reC x))),(9,AV.iv (.int .i64 (x.count*rl+x.rest))),(10,AV.iv (.int .i64 (x.yk+(i:Nat))))]) (fun _=>[]) (Qho x) (fun i=>∀ j:Nat,j<i->Que p x len rl (x.yk+j)=false) (by simp) ?_ ?_
 ·intro h
  have hn:=Qm6 h;rw[Qa QiS.eq_1];have:¬ x.yk+((Qho x:Nat):Int)<=x.yl:=by omega
  simp[this,hn]
 intro i hi h ih;rw[Qa QiS.eq_1];have hle:x.yk+(i:Int)<=x.yl:=by omega
 obtain ⟨b1,b2,b3,b4,b5,b6⟩:=QuA hp hx hlen hrl (t:=x.yk+(i:Int)) (by omega)
 have hgr:p.zi[x.rod.toNat].grow=Qan p x:=by simp[Qan,xc]
 have hab:=Qrv p x len rl (x.yk+(i:Int));have her:QzS p x len rl (x.yk+(i:Int))=len*(1000000+p.yi*(x.yk+i))-(x.count*rl+x.rest)*(1000000+Qan p x*(x.yk+i)):=rfl;generalize hE:QzS p x len rl (x.yk+(i:Int))=E at *;by_cases hh:Que p x len rl (x.yk+(i:Int))=true
 ·have hr:=Qm7 i hi hh
  rw[hh] at hab
  have hm:(if E < -E then -E else E)<=x.off*1000000:=by
   grind
  simp[hle,xc,hgr,hr];omega
 have hf:Que p x len rl (x.yk+(i:Int))=false:=by simpa using hh
 rw[hf] at hab
 have hm:¬ (if E < -E then -E else E)<=x.off*1000000:=by
  grind
 have ih:=ih (fun j hj=>by
  grind)
 simp at ih;simp[hle,xc,hgr]
 grind
theorem Quq (p:Zj) (hl:p.zi.length<=1000) (hx:p.zj.length<=1000):Gd K 18 [puV p] (.int .i64 (if OkU p then 0 else 40)):=by
 refine Qb hK (fk func18 c18 (by kernel_rfl)) (by simp) ?_
 have no:∀ q:Prop,(OkU p->q)->¬ q->¬ OkU p:=fun q h1 h2 h=>h2 (h1 h)
 simp;refine cK (VL hK _ _ _) ?_;by_cases h1:inR p.yi 0 50;rotate_left
 ·have:=no _ (fun h=>h.yi) h1
  simp[h1,this]
 ·simp[h1]
  refine cK (VL hK _ _ _) ?_;by_cases h2:inR p.yb 1 p.yc;rotate_left
  ·have:=no _ (fun h=>h.guess) h2
   simp[h2,this]
  ·simp[h2]
   by_cases h3:p.yc<=99999;rotate_left
   ·have h3':99999<p.yc:=by omega
    have:=no _ (fun h=>h.most) h3
    grind
   ·have h3':¬ 99999<p.yc:=by omega
    simp[h3'];intro _;refine cK (VL hK _ _ _) ?_;by_cases h4:inR p.zh 0 8;rotate_left
    ·have:=no _ (fun h=>h.zh) h4
     simp[h4,this]
    ·simp[h4]
     intro _;by_cases h5:p.zi.length<=4;rotate_left
     ·have h5':(4:Int)<p.zi.length:=by omega
      have:=no _ (fun h=>h.rlen) h5
      grind
     ·have h5':¬ (4:Int)<p.zi.length:=by omega
      simp[h5'];intro _;by_cases h6:p.zj.length<=8;rotate_left
      ·have h6':(8:Int)<p.zj.length:=by omega
       have:=no _ (fun h=>h.xlen) h6
       grind
      ·have h6':¬ (8:Int)<p.zj.length:=by omega
       simp[h6'];intros;refine Ql (fun i=>[(1,AV.iv (.ptr (puC p))),(3,AV.iv (IV.int IntKind.i64 (i:Nat)))]) (fun _=>[]) p.zi.length (fun i=>∀ r∈p.zi.take i,Vk r) (by simp) ?_ ?_
       ·intro h7
        rw[QKX] at h7;rw[Qa Qp1.eq_1];simp;intro _;refine Ql (fun i=>[(1,AV.iv (.ptr (puC p))),(5,AV.iv (IV.int IntKind.i64 (i:Nat)))]) (fun _=>[]) p.zj.length (fun i=>∀ x∈p.zj.take i,XM p.zi.length x) (by simp) ?_ ?_
        ·intro h8
         rw[QKX] at h8;rw[Qa Qp0.eq_1];have hok:OkU p:=⟨h1,h2,h3,h4,h5,h6,h7,h8⟩;simp[hok]
        intro i hi h8 ih;have bad:¬ XM p.zi.length p.zj[i]->¬ OkU p:=fun hb hh=>hb (hh.zj _ (QKR hi))
        have ih:=fun hr:XM p.zi.length p.zj[i]=>ih (by
         rw[QKL hi]
         grind)
        rw[Qa Qp0.eq_1];generalize hX:p.zj[i]=X at *;simp[hi,hX] at ih |-;intros;refine cK (QBo hK X.yj) ?_;by_cases k1:X.yj=1\/X.yj=2;rotate_left
        ·simp[k1,bad (fun hh=>k1 hh.1)]
        simp[k1];refine cK (by simpa using QBn hK p X.rod hl) ?_
        by_cases k2:inR X.rod 0 ((p.zi.length:Int)-1);rotate_left
        ·simp[k2,bad (fun hh=>k2 hh.2.1)]
        simp[k2];refine cK (VL hK _ _ _) ?_;by_cases k3:inR X.count 0 99;rotate_left
        ·simp[k3,bad (fun hh=>k3 hh.2.2.1)]
        simp[k3];refine cK (VL hK _ _ _) ?_;by_cases k4:inR X.rest 0 9999
        ·simp[k4]
         refine cK (VL hK _ _ _) ?_;by_cases k5:inR X.off 0 99
         ·simp[k5]
          refine cK (VL hK _ _ _) ?_;by_cases k6:inR X.yk (-50) X.yl
          ·simp[k6]
           by_cases k7:X.yl<=50
           ·have ih:=ih ⟨k1,k2,k3,k4,k5,k6,k7⟩
            grind
           have:=bad (fun hh=>k7 hh.2.2.2.2.2.2)
           grind
          simp[k6,bad (fun hh=>k6 hh.2.2.2.2.2.1)]
         simp[k5,bad (fun hh=>k5 hh.2.2.2.2.1)]
        simp[k4,bad (fun hh=>k4 hh.2.2.2.1)]
       ·intro i hi h7 ih
        have bad:¬ Vk p.zi[i]->¬ OkU p:=fun hb hh=>hb (hh.zi _ (QKR hi))
        have ih:=fun hr:Vk p.zi[i]=>ih (by
         rw[QKL hi]
         grind)
        rw[Qa Qp1.eq_1];generalize hX:p.zi[i]=X at *;simp[hi,hX] at ih |-;intros;refine cK (VL hK _ _ _) ?_;by_cases k1:inR X.long 1 9999
        ·have k1':=k1
         simp only[inR] at k1';simp[k1];have hmin:(if X.long-1<9 then X.long-1 else 9)=min 9 (X.long-1):=by omega
         refine ⟨by omega,cK (by simpa[hmin] using VL hK X.ya 0 (min 9 (X.long-1))) ?_⟩
         by_cases k2:inR X.ya 0 (min 9 (X.long-1))
         ·simp[k2]
          refine cK (VL hK _ _ _) ?_;by_cases k3:inR X.grow 0 50
          ·have ih:=ih ⟨k1,k2,k3⟩
           simp[k3]
           grind
          simp[k3,bad (fun hh=>k3 hh.2.2)]
         simp[k2,bad (fun hh=>k2 hh.2.1)]
        ·simp[k1,bad (fun hh=>k1 hh.1)]
@[simp] def tuV (t:TrU):List IV:=[.int .i64 t.yg,.int .i64 t.yh,Q0 t.zi]
omit hK
def QFi (p:Zj) (t:TrU) (x:Qz):Bool:=!qR p x (if x.yj=2 then t.yh else t.yg) (t.zi.getD x.rod.toNat 0)
structure QKu (p:Zj) (t:TrU):Prop where
 yg:0<=t.yg/\t.yg<=99999
 yh:0<=t.yh/\t.yh<=99999
 len:t.zi.length=p.zi.length
 zi:∀ r∈t.zi,0<=r/\r<=9999
theorem QaZ {p:Zj} (hp:OkU p) {w:List Int} (hw:w∈Xc p.zi):w.length=p.zi.length/\∀ r∈w,0<=r/\r<=9999:=by
 have hl:=Qff _ _ hw;refine ⟨hl,fun r hr=>?_⟩
 obtain ⟨i,hi,rfl⟩:=QLA hr;have hb:=QdN _ _ hw i (by omega)
 have hr:=hp.zi _ (QKR (show i<p.zi.length by omega))
 simp only[Vk,inR] at hr
 grind
theorem QxJ {p:Zj} (hp:OkU p) {t:TrU} (ht:t∈Qzy p):QKu p t:=by
 simp only[Qzy,QLv,QK8] at ht;obtain ⟨b,hb,a,ha,w,hw,rfl⟩:=ht;have hb:=JB.1 hb;have ha:=JB.1 ha;have hg:=hp.guess;have hm:=hp.most;simp only[inR] at hg;obtain ⟨h1,h2⟩:=QaZ hp hw;exact ⟨⟨by grind,by grind⟩,⟨by grind,by grind⟩,h1,h2⟩
include hK
omit hK
theorem WY:∀ l:List Rod,(∀ r∈l,Vk r)->(Xc l).length<=10 ^ l.length
 | [],_=>by simp[Xc]
 | r::rs,h=>by
   have ih:=WY rs fun x hx=>h x (by simp[hx])
   have hr:=(h r (by simp)).2.1
   simp only[inR] at hr;simp only[Xc,List.length_flatMap,QKZ]
   have:((VM (r.long-r.ya) r.long).map fun _=>(Xc rs).length).sum<=10*10 ^ rs.length:=by
    rw[List.map_const',List.sum_replicate_nat];refine Nat.mul_le_mul ?_ ih;simp[VM];omega
   grind
def Qt7 (first:List Int) (lo:Int) (rs:List Rod) (i:Nat):List (List Int):=(Xc rs).map fun w=>first++(lo+i)::w
theorem Qhl (first:List Int) (r:Rod) (rs:List Rod):(Xc (r::rs)).map (first++·)=acc (Qt7 first (r.long-r.ya) rs) (r.long-(r.long-r.ya)+1).toNat:=by
 simp only[Xc,VM,acc,QMA,List.flatMap_map,List.map_map];rfl
include hK
omit hK
def QA9 (p:Zj):Nat:=(p.yc-p.yb+1).toNat
def Qvo (p:Zj) (b:Int) (j:Nat):List TrU:=(Xc p.zi).map fun w=>⟨b,p.yb+j,w⟩
def QDE (p:Zj) (i:Nat):List TrU:=acc (Qvo p (p.yb+i)) (QA9 p)
noncomputable def uE (p:Zj) (is:Bool):Int:=if OkU p then (if is=true then (if UY p=[] then 3 else 0) else 1) else 40
def uL (p:Zj) (is:Bool):List TrU:=if OkU p/\is=true then UY p else []
include hK
omit hK
def QA8 (part:Int) (t:TrU):Bool:=XG t.yg t.yh part
def Qdm (T:List TrU) (part:Int):Int:=if T.all (QA8 part) then 1 else if T.any (QA8 part) then 3 else 2
theorem Qgs (p:Zj) (part:Int) (hp:0<=part):Qdm (UY p) part=Qdl p part:=(Qn0 p part hp).symm
def Qmo (T:List TrU):Option Nat:=(List.range 1001).find? fun i=>decide (Qdm T (i:Nat)=1)
def Qvg (T:List TrU) (rod:Nat):List Int:=T.map fun t=>t.zi.getD rod 0
theorem U6 {α:Type} (f:α->Int) (l:List α) (i:Nat) (h:i<l.length):span ((l.take (i+1)).map f)=if i=0 then (f l[i],f l[i]) else (min (span ((l.take i).map f)).1 (f l[i]),max (span ((l.take i).map f)).2 (f l[i])):=by
 rw[QKL h,QK3,QMj,Qbe];cases i with
 | zero=>simp
 | succ i =>
   have:¬ (l.take (i+1)).map f=[]:=by
    intro c;simp_all
   grind
include hK
omit hK in
theorem QDp {p:Zj} {is:Bool} {t:TrU} (h:t∈uL p is):OkU p/\is=true/\t∈UY p:=by
 unfold uL at h
 grind
omit hK in
theorem QAa {p:Zj} {is:Bool} {t:TrU} (h:t∈uL p is):(0<=t.yg/\t.yg<=99999)/\(0<=t.yh/\t.yh<=99999):=by
 obtain ⟨hp,_,ht⟩:=QDp h;have:=QxJ hp (QLw.1 ht).1;exact ⟨this.yg,this.yh⟩
omit hK in
theorem QdS {p:Zj} {is:Bool} (h:uE p is=0):OkU p/\is=true/\uL p is=UY p/\UY p≠[]:=by
 unfold uE at h;split at h
 ·rename_i hp
  cases is
  ·simp at h
  simp only[if_true] at h;split at h
  ·cases h
  rename_i hne;exact ⟨hp,rfl,by simp[uL,hp],hne⟩
 ·cases h
structure QFg (p:Zj):Prop where
 zi:p.zi.length<=1000
 zj:p.zj.length<=1000
 all:OkU p->(Qzy p).length<=1000000
def Qef (n:Int):Bool:=decide (inR n 0 1000)
def Qt2 (p:Zj) (n:Int):Bool:=decide (inR n 0 ((p.zi.length:Int)-1))
noncomputable def qT (p:Zj) (part:Int):Int:=if uE p (Qef part)=0 then Qdm (UY p) part else 0
noncomputable def Qed (p:Zj):Int × Int:=if uE p true=0 then (match Qmo (UY p) with | some n=>((n:Int),0) | none=>(0,3)) else (0,uE p true)
noncomputable def QlI (p:Zj) (rod:Int):List Int:=if uE p (Qt2 p rod)=0 then Jg (Qvg (UY p) rod.toNat) ((p.zi.getD rod.toNat ⟨0,0,0⟩).long-(p.zi.getD rod.toNat ⟨0,0,0⟩).ya) (p.zi.getD rod.toNat ⟨0,0,0⟩).long else []
omit hK
@[simp] def QhW (w:List Int):List IV:=[.int .i64 (w.getD 0 0),.int .i64 (w.getD 1 0),.int .i64 (w.getD 2 0),.int .i64 (w.getD 3 0)]
def Qgl (w:List Int):List IV:=[.agg (QhW w)]
def Qaj {α:Type} (pc:Nat->List α) (i n:Nat):List α:=((List.range n).drop i).flatMap pc
theorem V6 {α:Type} (pc:Nat->List α) {i n:Nat} (h:i<n):Qaj pc i n=pc i++Qaj pc (i+1) n:=by
 unfold Qaj;rw[QLg (by simpa using h),QLH]
 simp
theorem Wc {α:Type} (pc:Nat->List α) (n:Nat):Qaj pc n n=[]:=by
 unfold Qaj;rw[QLE (by simp)]
 rfl
theorem Qm8 {α:Type} (pc:Nat->List α) (n:Nat):Qaj pc 0 n=acc pc n:=by simp[Qaj,acc]
def Qa0 (p:Zj) (first:List Int):List (List IV):=((Xc (p.zi.drop first.length)).map (first++·)).map Qgl
theorem Qll {p:Zj} {first:List Int} (h:first.length<p.zi.length):Qa0 p first=Qaj (fun i:Nat=>Qa0 p (first++[p.zi[first.length].long-p.zi[first.length].ya+i])) 0 (p.zi[first.length].ya+1).toNat:=by
 have e1:p.zi.drop first.length=p.zi[first.length]::p.zi.drop (first.length+1):=QLg h
 have e2:(p.zi[first.length].long-(p.zi[first.length].long-p.zi[first.length].ya)+1).toNat=(p.zi[first.length].ya+1).toNat:=by congr 1;omega
 rw[Qm8];unfold Qa0;rw[e1,Qhl,e2];simp only[acc,QMA,QKW,QK6,QLr,QLb]
 congr 1
 funext i
 simp[Qt7,Function.comp_def]
include hK
theorem QnR (p:Zj) (hp:OkU p):∀ (n:Nat) (first:List Int),first.length+n=p.zi.length->Qav prog K 408 [puV p,.int .i64 (first.length:Nat),.agg (QhW first)] [] (Qa0 p first) (fun b=>.bool b)
 | 0,first,hn=>by
   intro s b s' hf;refine QN QpL (by simp) hf.v rfl ?_
   have e1:p.zi.drop first.length=[]:=QLE (by omega)
   have e2:first.length=p.zi.length:=by omega
   have hw:Qa0 p first=[Qgl first]:=by simp[Qa0,e1,Xc]
   rw[hw] at hf;simp[e2];intros;cases hf with
   | stop _ _ _ _ hg =>
     refine Q7 (by simpa[Qgl] using hg) rfl ?_
     simp
   | next _ _ _ s1 _ _ hg hr =>
     cases hr;refine Q7 (by simpa[Qgl] using hg) rfl ?_
     simp
 | n+1,first,hn=>by
   intro s b s' hf;refine QN QpL (by simp) hf.v rfl ?_
   have xc:first.length<p.zi.length:=by omega
   have hne:¬ (first.length:Int)=p.zi.length:=by omega
   have h4:first.length<4:=by have:=hp.rlen;omega
   have hro:=hp.zi _ (QKR xc);obtain ⟨r1,r2,r3⟩:=hro;simp only[inR] at r1 r2 r3;rw[Qll xc] at hf
   have ih:∀ i:Nat,Qav prog K 408 [puV p,.int .i64 (first.length+1:Nat),.agg (QhW (first++[p.zi[first.length].long-p.zi[first.length].ya+i]))] [] (Qa0 p (first++[p.zi[first.length].long-p.zi[first.length].ya+i])) (fun b=>.bool b):=fun i=>by
    have:=QnR p hp n (first++[p.zi[first.length].long-p.zi[first.length].ya+(i:Int)]) (by simp;omega)
    simpa using this
   generalize hR:p.zi[first.length]=R at *
   generalize hpc:(fun i:Nat=>Qa0 p (first++[R.long-R.ya+i]))=pc at *
   have ih:∀ i:Nat,Qav prog K 408 [puV p,.int .i64 (first.length+1:Nat),.agg (QhW (first++[R.long-R.ya+i]))] [] (pc i) (fun b=>.bool b):=fun i=>by grind
   obtain ⟨N,hN⟩:∃ N,N=(R.ya+1).toNat:=⟨_,rfl⟩
   rw[<- hN] at hf;have hNv:(N:Int)=R.ya+1:=by omega
   clear hpc hn hN
   match first,h4,xc,hne,hR,ih with
   | [],_,xc,hne,hR,ih =>
     have hM:0<p.zi.length:=by omega
     have hR0:p.zi[0]'hM=R:=hR;have hne':¬ (0:Int)=p.zi.length:=by omega
     simp[hM,hR0,hne']
     (repeat' first | omega | (with_reducible apply And.intro) | intro _)
     refine XV N (fun k e o=>∃ si,e=[(1,AV.iv (.int .i64 (([]:List Int).length:Nat))),(3,AV.cb 0),(4,AV.iv (.ptr (puC p))),(6,AV.loc 6 0),(9,AV.loc 9 0)] /\
      o=[(0,.ext si),(6,.box ((QhW ([]++[R.long-R.ya+(k:Int)])).map AV.iv)),(9,.box [.iv (.int .i64 R.long),.iv (.int .i64 R.ya),.iv (.int .i64 R.grow)])]/\ZS prog K (Qaj pc k N) si b s') ?_ ?_ _ _ ⟨s,by simp,by simp,by simpa using hf⟩
     ·rintro e o ⟨si,rfl,rfl,hfd⟩
      rw[Wc] at hfd;cases hfd;have q:¬ R.long-R.ya+(N:Int)<=R.long:=by omega
      rw[Qa J8.eq_1];simp[q]
      try (intros;omega)
     rintro k e o hk ⟨si,rfl,rfl,hfd⟩ ihl
     rw[V6 pc hk] at hfd;have q:R.long-R.ya+(k:Int)<=R.long:=by omega
     have q3:R.long-R.ya+((k:Int)+1)=R.long-R.ya+k+1:=by omega
     rw[Qa J8.eq_1];simp[q]
     (repeat' first | omega | (with_reducible apply And.intro) | intro _)
     rcases hfd.append with ⟨s1,hf1,hf2⟩ | ⟨rfl,hf1⟩
     ·refine ZK (by simpa using ih k _ _ _ hf1) rfl ?_
      cases b
      all_goals
       simp
       (repeat' first | omega | (with_reducible apply And.intro) | intro _)
       exact ihl _ _ ⟨s1,by simp,by simp[q3],by simpa using hf2⟩
     refine ZK (by simpa using ih k _ _ _ hf1) rfl ?_
     simp
   | [a],_,xc,hne,hR,ih =>
     have hM:1<p.zi.length:=by omega
     have hR0:p.zi[1]'hM=R:=hR;have hne':¬ (1:Int)=p.zi.length:=by omega
     simp[hM,hR0,hne']
     (repeat' first | omega | (with_reducible apply And.intro) | intro _)
     refine XV N (fun k e o=>∃ si,e=[(1,AV.iv (.int .i64 (([a]:List Int).length:Nat))),(3,AV.cb 0),(4,AV.iv (.ptr (puC p))),(6,AV.loc 6 0),(9,AV.loc 9 0)] /\
      o=[(0,.ext si),(6,.box ((QhW ([a]++[R.long-R.ya+(k:Int)])).map AV.iv)),(9,.box [.iv (.int .i64 R.long),.iv (.int .i64 R.ya),.iv (.int .i64 R.grow)])]/\ZS prog K (Qaj pc k N) si b s') ?_ ?_ _ _ ⟨s,by simp,by simp,by simpa using hf⟩
     ·rintro e o ⟨si,rfl,rfl,hfd⟩
      rw[Wc] at hfd;cases hfd;have q:¬ R.long-R.ya+(N:Int)<=R.long:=by omega
      rw[Qa J8.eq_1];simp[q]
      try (intros;omega)
     rintro k e o hk ⟨si,rfl,rfl,hfd⟩ ihl
     rw[V6 pc hk] at hfd;have q:R.long-R.ya+(k:Int)<=R.long:=by omega
     have q3:R.long-R.ya+((k:Int)+1)=R.long-R.ya+k+1:=by omega
     rw[Qa J8.eq_1];simp[q]
     (repeat' first | omega | (with_reducible apply And.intro) | intro _)
     rcases hfd.append with ⟨s1,hf1,hf2⟩ | ⟨rfl,hf1⟩
     ·refine ZK (by simpa using ih k _ _ _ hf1) rfl ?_
      cases b
      all_goals
       simp
       (repeat' first | omega | (with_reducible apply And.intro) | intro _)
       exact ihl _ _ ⟨s1,by simp,by simp[q3],by simpa using hf2⟩
     refine ZK (by simpa using ih k _ _ _ hf1) rfl ?_
     simp
   | [a,a2],_,xc,hne,hR,ih =>
     have hM:2<p.zi.length:=by omega
     have hR0:p.zi[2]'hM=R:=hR;have hne':¬ (2:Int)=p.zi.length:=by omega
     simp[hM,hR0,hne']
     (repeat' first | omega | (with_reducible apply And.intro) | intro _)
     refine XV N (fun k e o=>∃ si,e=[(1,AV.iv (.int .i64 (([a,a2]:List Int).length:Nat))),(3,AV.cb 0),(4,AV.iv (.ptr (puC p))),(6,AV.loc 6 0),(9,AV.loc 9 0)] /\
      o=[(0,.ext si),(6,.box ((QhW ([a,a2]++[R.long-R.ya+(k:Int)])).map AV.iv)),(9,.box [.iv (.int .i64 R.long),.iv (.int .i64 R.ya),.iv (.int .i64 R.grow)])]/\ZS prog K (Qaj pc k N) si b s') ?_ ?_ _ _ ⟨s,by simp,by simp,by simpa using hf⟩
     ·rintro e o ⟨si,rfl,rfl,hfd⟩
      rw[Wc] at hfd;cases hfd;have q:¬ R.long-R.ya+(N:Int)<=R.long:=by omega
      rw[Qa J8.eq_1];simp[q]
      try (intros;omega)
     rintro k e o hk ⟨si,rfl,rfl,hfd⟩ ihl
     rw[V6 pc hk] at hfd;have q:R.long-R.ya+(k:Int)<=R.long:=by omega
     have q3:R.long-R.ya+((k:Int)+1)=R.long-R.ya+k+1:=by omega
     rw[Qa J8.eq_1];simp[q]
     (repeat' first | omega | (with_reducible apply And.intro) | intro _)
     rcases hfd.append with ⟨s1,hf1,hf2⟩ | ⟨rfl,hf1⟩
     ·refine ZK (by simpa using ih k _ _ _ hf1) rfl ?_
      cases b
      all_goals
       simp
       (repeat' first | omega | (with_reducible apply And.intro) | intro _)
       exact ihl _ _ ⟨s1,by simp,by simp[q3],by simpa using hf2⟩
     refine ZK (by simpa using ih k _ _ _ hf1) rfl ?_
     simp
   | [a,a2,a3],_,xc,hne,hR,ih =>
     have hM:3<p.zi.length:=by omega
     have hR0:p.zi[3]'hM=R:=hR;have hne':¬ (3:Int)=p.zi.length:=by omega
     simp[hM,hR0,hne']
     (repeat' first | omega | (with_reducible apply And.intro) | intro _)
     refine XV N (fun k e o=>∃ si,e=[(1,AV.iv (.int .i64 (([a,a2,a3]:List Int).length:Nat))),(3,AV.cb 0),(4,AV.iv (.ptr (puC p))),(6,AV.loc 6 0),(9,AV.loc 9 0)] /\
      o=[(0,.ext si),(6,.box ((QhW ([a,a2,a3]++[R.long-R.ya+(k:Int)])).map AV.iv)),(9,.box [.iv (.int .i64 R.long),.iv (.int .i64 R.ya),.iv (.int .i64 R.grow)])]/\ZS prog K (Qaj pc k N) si b s') ?_ ?_ _ _ ⟨s,by simp,by simp,by simpa using hf⟩
     ·rintro e o ⟨si,rfl,rfl,hfd⟩
      rw[Wc] at hfd;cases hfd;have q:¬ R.long-R.ya+(N:Int)<=R.long:=by omega
      rw[Qa J8.eq_1];simp[q]
      try (intros;omega)
     rintro k e o hk ⟨si,rfl,rfl,hfd⟩ ihl
     rw[V6 pc hk] at hfd;have q:R.long-R.ya+(k:Int)<=R.long:=by omega
     have q3:R.long-R.ya+((k:Int)+1)=R.long-R.ya+k+1:=by omega
     rw[Qa J8.eq_1];simp[q]
     (repeat' first | omega | (with_reducible apply And.intro) | intro _)
     rcases hfd.append with ⟨s1,hf1,hf2⟩ | ⟨rfl,hf1⟩
     ·refine ZK (by simpa using ih k _ _ _ hf1) rfl ?_
      cases b
      all_goals
       simp
       (repeat' first | omega | (with_reducible apply And.intro) | intro _)
       exact ihl _ _ ⟨s1,by simp,by simp[q3],by simpa using hf2⟩
     refine ZK (by simpa using ih k _ _ _ hf1) rfl ?_
     simp
   | _::_::_::_::_,h4,_,_,_,_=>simp at h4;omega
omit hK
theorem QgA (x y:Int):∀ l:List (Int × Nat),Qb2 (QbU l x) y=Qb2 l y+(if x=y then 1 else 0)
 | []=>by simp[QbU,Qb2]
 | p::r=>by
   unfold QbU;by_cases h:p.1=x
   ·simp only[h,if_true,Qb2]
    grind
   simp only[h,if_false,Qb2];by_cases h2:p.1=y
   ·grind
   simp[h2,QgA x y r]
theorem Qoy (y:Int):∀ l:List Int,Qb2 (XY l) y=l.count y:=by
 refine Yc (by simp[XY,Qb2]) fun l x ih=>?_
 rw[XQ,QgA,ih,List.count_append,List.count_singleton]
 grind
def Qfv (p:Zj) (wh:Int) (w:List Int) (l:List Int):List Int:=l.flatMap fun len=>List.replicate (wrU p wh w len) len
def QtW (p:Zj) (wh:Int) (w:List Int):List Int:=Qfv p wh w (Xf p)
theorem Qfu (p:Zj) (wh:Int) (w:List Int) (y:Int):∀ l:List Int,l.Nodup->(Qfv p wh w l).count y=if y∈l then wrU p wh w y else 0
 | [],_=>by simp[Qfv]
 | a::r,h=>by
   rw[QMv] at h;have ih:=Qfu p wh w y r h.2;have e:Qfv p wh w (a::r)=List.replicate (wrU p wh w a) a++Qfv p wh w r:=by simp[Qfv]
   grind
theorem QqW {p:Zj} {wh:Int} {w:List Int} {len:Int} (h:len∈Xf p):Qb2 (XY (QtW p wh w)) len=wrU p wh w len:=by
 have hnd:(Xf p).Nodup:=(UQ _ _).imp fun h=>by omega
 rw[Qoy,QtW,Qfu p wh w len _ hnd,if_pos h]
theorem QkZ (w:List Int) (n:Nat) (h:n<4):[IV.int .i64 (w.getD 0 0),.int .i64 (w.getD 1 0),.int .i64 (w.getD 2 0),.int .i64 (w.getD 3 0)].drop n=.int .i64 (w.getD n 0)::[IV.int .i64 (w.getD 0 0),.int .i64 (w.getD 1 0),.int .i64 (w.getD 2 0),.int .i64 (w.getD 3 0)].drop (n+1):=by
 grind
def UZ (x:Bun):List IV:=QhW x.zi++[.int .i64 (x.yg.zh:Nat),Q0 x.yg.lens,.int .i64 (x.yh.zh:Nat),Q0 x.yh.lens]
def VH (x:Bun):List IV:=[.agg (UZ x)]
include hK
theorem QvH (p:Zj) (hp:OkU p):Qaw prog K 377 [puV p] [] (Qa0 p []):=by
 intro s b s' hf;refine QN (fk func377 QF7 (by kernel_rfl)) (by simp) hf.v rfl ?_
 have ih:=QnR hK p hp p.zi.length [] (by simp) _ _ _ hf
 simp;refine ZK (by simpa using ih) rfl ?_
 simp
theorem Qwj (x:Bun) (h1:x.yg.zh<=1000) (h2:x.yh.zh<=1000):Gd K 328 [.agg (UZ x)] (.int .i64 ((x.yg.zh+x.yh.zh:Nat):Int)):=by
 refine Qb hK (fk func328 QGj (by kernel_rfl)) (by simp) ?_
 simp[UZ];omega
theorem Qwf (p:Zj) (wh:Int) (w:List Int) (hp:OkU p) (hw:w∈Xc p.zi) (hg:p.yc-p.yb<=100000):Gd K 409 [puV p,.int .i64 wh,.agg (QhW w)] (.map (Qap (XY (QtW p wh w)))):=by
 refine Qb hK (fk func409 QF3 (by kernel_rfl)) (by simp) ?_
 have hgu:=hp.guess;have hmo:=hp.most;have hxl:=hp.xlen;simp only[inR] at hgu;obtain ⟨hwl,hwb⟩:=QaZ hp hw;obtain ⟨G,hG⟩:∃ G,G=(p.yc-p.yb+1).toNat:=⟨_,rfl⟩
 have hGv:p.yb+(G:Int)=p.yc+1:=by omega
 have hlens:Xf p=(List.range G).map fun (i:Nat)=>p.yb+i:=by rw[hG];rfl
 have hseq:QtW p wh w=Qfv p wh w ((List.range G).map fun (i:Nat)=>p.yb+i):=by rw[QtW,hlens]
 rw[hseq];clear hseq hlens hG;simp;have e0:AV.iv (IV.int .i64 p.yb)=AV.iv (.int .i64 (p.yb+((0:Nat):Int))):=by simp
 rw[e0]
 refine Ql (fun i=>[(1,AV.iv (.int .i64 wh)),(3,AV.iv (.ptr (puC p))),(5,AV.iv (.ptr (QhW w))),(7,AV.yn 11),(8,AV.iv (IV.int IntKind.i64 (p.yb+(i:Nat))))])
  (fun i=>[(11,AO.xi (Qap (XY (Qfv p wh w ((List.range i).map fun (i:Nat)=>p.yb+i)))))]) G (fun i=>True) trivial ?_ ?_
 ·intro _
  have q2:¬ p.yc+1<=p.yc:=by omega
  rw[hGv,Qa QiT.eq_1];simp[q2]
 intro i hi _ ih;have q1:p.yb+(i:Int)<=p.yc:=by omega
 have q3:p.yb+((i:Int)+1)=p.yb+i+1:=by omega
 have hS:Qfv p wh w ((List.range (i+1)).map fun (i:Nat)=>p.yb+i)=Qfv p wh w ((List.range i).map fun (i:Nat)=>p.yb+i)++List.replicate (wrU p wh w (p.yb+i)) (p.yb+i):=by
  rw[QLf,QK3];simp[Qfv]
 rw[hS] at ih
 have hlS:∀ n:Nat,(Qfv p wh w ((List.range n).map fun (i:Nat)=>p.yb+i)).length<=n*8:=by
  intro n
  induction n with
  | zero=>simp[Qfv]
  | succ n ihn =>
    have e:Qfv p wh w ((List.range (n+1)).map fun (i:Nat)=>p.yb+i)=Qfv p wh w ((List.range n).map fun (i:Nat)=>p.yb+i)++List.replicate (wrU p wh w (p.yb+n)) (p.yb+n):=by
     rw[QLf,QK3];simp[Qfv]
    have hwr:=Qfb p wh w (p.yb+n)
    grind
 have hl1:=hlS i;rw[Qa QiT.eq_1];generalize Qfv p wh w ((List.range i).map fun (i:Nat)=>p.yb+i)=S at *
 have hlen:0<=p.yb+(i:Int)/\p.yb+(i:Int)<=99999:=by omega
 unfold wrU at ih;generalize hL:p.yb+(i:Int)=len at *;simp[q1,q3] at ih |-;intros;have eS:S=S++List.replicate ((p.zj.take 0).countP (Qto p wh w len)) len:=by simp
 rw[eS]
 refine Ql (fun k=>[(1,AV.iv (.int .i64 wh)),(3,AV.iv (.ptr (puC p))),(5,AV.iv (.ptr (QhW w))),(7,AV.yn 11),(8,AV.iv (IV.int IntKind.i64 len)),(26,AV.iv (Y7 p.zj)),(27,AV.iv (.int .i64 p.zj.length)),(28,AV.iv (.int .i64 (k:Nat)))])
  (fun k=>[(11,AO.xi (Qap (XY (S++List.replicate ((p.zj.take k).countP (Qto p wh w len)) len))))]) p.zj.length (fun i=>True) trivial ?_ ?_
 ·intro _
  rw[Qa QiU.eq_1,QKX];simp
  grind
 intro k hk _ ih2;have hx:=hp.zj _ (QKR hk);have hcl:(p.zj.take k).countP (Qto p wh w len)<=k:=QLp QLJ (by simp;omega)
 rw[QKL hk,QL8] at ih2;generalize hX:p.zj[k]=X at *;have hr:=hx.2.1;simp only[inR] at hr;have hr4:X.rod.toNat<4:=by have:=hp.rlen;omega
 have hrl:0<=w.getD X.rod.toNat 0/\w.getD X.rod.toNat 0<=9999:=by
  have xc:X.rod.toNat<w.length:=by omega
  have:w.getD X.rod.toNat 0=w[X.rod.toNat]:=by simp[xc]
  rw[this];exact hwb _ (QKR xc)
 have hg:=Qwd hK p X len (w.getD X.rod.toNat 0) hp hx hlen hrl;have hdp:=QkZ w X.rod.toNat hr4;have hb:Qto p wh w len X=(decide (X.yj=wh)&&!qR p X len (w.getD X.rod.toNat 0)):=rfl
 have hlen2:(S++List.replicate ((p.zj.take k).countP (Qto p wh w len)) len).length<=900000:=by
  simp;omega
 rw[<- List.replicate_append_replicate,<- QLz] at ih2;have hc1:[X].countP (Qto p wh w len)=if Qto p wh w len X then 1 else 0:=by simp
 rw[hc1,hb] at ih2;generalize S++List.replicate ((p.zj.take k).countP (Qto p wh w len)) len=S2 at *;have hle:=QeE len S2;have hkk:=YH (XY S2);have hf:=JH len (XY S2);have hi2:=WF len (XY S2);rw[Qa QiU.eq_1];have hr1:0<=X.rod/\X.rod<4/\X.rod<=4:=by omega
 simp only[List.getD_eq_getElem?_getD] at hdp hg ih2;generalize w[X.rod.toNat]?.getD 0=ww at *;by_cases hw2:X.yj=wh;rotate_left
 ·simp[hw2] at ih2
  simp[hk,hX,hw2]
  grind
 generalize qR p X len ww=rb at *;cases rb
 ·simp[hw2,XQ] at ih2
  generalize XY S2=kv at *;simp[hk,hX,hw2];refine ⟨hr1,?_⟩;simp[hdp,hw2];refine cK (by simpa[hw2] using hg) ?_
  simp[hkk,hf,hi2]
  grind
 simp[hw2] at ih2;simp[hk,hX,hw2];refine ⟨hr1,?_⟩;simp[hdp,hw2];refine cK (by simpa[hw2] using hg) ?_
 simp
 grind
omit hK
def QBI (f:Int->Nat) (kvs:List (MK × List (List IV))) (x:Int):List (MK × List (List IV)) :=
 zn (.int .i64 (f x:Nat)) (((Qo (.int .i64 (f x:Nat)) kvs).getD [])++[[.int .i64 x]]) kvs
def gby (f:Int->Nat) (l:List Int):List (MK × List (List IV)):=l.foldl (QBI f) []
theorem QaN (f:Int->Nat) (l:List Int) (x:Int):gby f (l++[x])=QBI f (gby f l) x:=by simp[gby]
theorem Qf3 {α:Type} (k:MK) (v:α):∀ kvs:List (MK × α),(zn k v kvs).map (·.1)=if k∈kvs.map (·.1) then kvs.map (·.1) else kvs.map (·.1)++[k]
 | []=>by simp[zn]
 | p::r=>by
   have ih:=Qf3 k v r;unfold zn
   grind
theorem QgB (f:Int->Nat):∀ l,Zw (some .i64) (gby f l):=by
 refine Yc trivial fun l x ih=>?_
 rw[QaN];exact JD _ _ _ ih
theorem QkP (f:Int->Nat) (n:Nat):∀ l,(Qo (.int .i64 (n:Nat)) (gby f l)).getD []=(l.filter fun x=>f x==n).map fun x=>[IV.int .i64 x]:=by
 refine Yc rfl fun l x ih=>?_
 rw[QaN,QBI,VO,QL7,QK3]
 grind
theorem QrU (f:Int->Nat):∀ l,∃ ks:List Nat,(gby f l).map (·.1)=ks.map (fun n:Nat=>MK.int .i64 (n:Int))/\ks.Nodup/\∀ n,n∈ks↔∃ y∈l,f y=n:=by
 refine Yc ⟨[],rfl,QMz,by simp⟩ fun l x ih=>?_
 obtain ⟨ks,h1,h2,h3⟩:=ih;rw[QaN,QBI,Qf3,h1]
 have hm:MK.int .i64 ((f x:Nat):Int)∈ks.map (fun n:Nat=>MK.int .i64 (n:Int))↔f x∈ks:=by
  grind
 by_cases h:f x∈ks
 ·grind
 rw[if_neg (fun e=>h (hm.1 e))]
 refine ⟨ks++[f x],by simp,?_,fun n=>?_⟩
 all_goals grind
theorem QxG (f:Int->Nat) (n:Nat) (l:List Int):((Qo (.int .i64 (n:Nat)) (gby f l)).getD []).length<=l.length:=by
 rw[QkP]
 grind
theorem Qhy (ks cs:List Nat) (h1:ks.Nodup) (h2:cs.Pairwise (·<·)) (h3:∀ n,n∈ks↔n∈cs) :
  (ks.map fun n:Nat=>(n:Int)).mergeSort (fun x y=>decide (x<=y))=cs.map fun n:Nat=>(n:Int):=by
 have hp:ks.Perm cs:=(List.perm_ext_iff_of_nodup h1 (h2.imp fun h=>by omega)).2 h3
 rw[mergeSort_of_perm_i (hp.map fun n:Nat=>(n:Int))]
 refine List.mergeSort_of_pairwise ?_
 grind
def grC (g:Grp):List IV:=[.int .i64 (g.zh:Nat),Q0 g.lens]
def Ul (l:List Grp):IV:=.sl 2 (l.map grC)
theorem Qf4 {α β:Type} (g:α->β) (k:MK):∀ l:List (MK × α),Qo k (l.map fun p=>(p.1,g p.2))=(Qo k l).map g
 | []=>rfl
 | p::r=>by
   simp only[QLa,Qo];split
   ·rfl
   exact Qf4 g k r
theorem QbR {α β:Type} (kk:Option IntKind) (g:α->β):∀ l:List (MK × α),Zw kk l->Zw kk (l.map fun p=>(p.1,g p.2))
 | [],_=>trivial
 | _::r,h=>⟨h.1,QbR kk g r h.2⟩
include hK
theorem Qwe (kvs:List (MK × IV)):Gd K 410 [.map kvs] (.clo 424 [] [.ptr [.map kvs]]):=by
 refine Qb hK (fk func410 QF2 (by kernel_rfl)) (by simp) ?_
 simp
theorem Qn9 (p:Zj) (wh:Int) (w:List Int) (hp:OkU p) (hw:w∈Xc p.zi) (hg:p.yc-p.yb<=100000):Gd K 378 [puV p,.int .i64 wh,.agg (QhW w)] (Ul (VK p wh w)):=by
 refine Qb hK (fk func378 QF6 (by kernel_rfl)) (by simp) ?_
 have hgu:=hp.guess;have hxl:=hp.xlen;have hmo:=hp.most;simp only[inR] at hgu;have h380:=Qwf hK p wh w hp hw hg;have hget:=fun (len:Int) (h:len∈Xf p)=>QqW (wh:=wh) (w:=w) h
 have hkk:=YH (XY (QtW p wh w));have hfind:=fun (x:Int)=>JH x (XY (QtW p wh w))
 obtain ⟨G,hG⟩:∃ G,G=(p.yc-p.yb+1).toNat:=⟨_,rfl⟩
 have hGv:p.yb+(G:Int)=p.yc+1:=by omega
 have hlens:Xf p=(List.range G).map fun (i:Nat)=>p.yb+i:=by rw[hG];rfl
 simp;refine cK (by simpa using h380) ?_
 generalize Qap (XY (QtW p wh w))=cn at *;simp;have e0:AV.iv (IV.int .i64 p.yb)=AV.iv (.int .i64 (p.yb+((0:Nat):Int))):=by simp
 rw[e0]
 refine Ql (fun i=>[(3,AV.iv (.ptr (puC p))),(7,AV.iv (.map cn)),(8,AV.yn 17),(9,AV.iv (IV.int IntKind.i64 (p.yb+(i:Nat))))])
  (fun i=>[(17,AO.yu 3 1 (gby (wrU p wh w) ((List.range i).map fun (i:Nat)=>p.yb+i)) none)]) G (fun i=>True) trivial ?_ ?_
 ·intro _
  have q2:¬ p.yc+1<=p.yc:=by omega
  rw[hGv,Qa QiW.eq_1,<- hlens];simp[q2];refine cK (by simpa using Qwe hK _) ?_
  simp;obtain ⟨ks,hk1,hk2,hk3⟩:=QrU (wrU p wh w) (Xf p)
  have hkb:∀ n∈ks,n<=8:=fun n hn=>by
   obtain ⟨y,_,e⟩:=(hk3 n).1 hn;have:=Qfb p wh w y;omega
  have hcp:(Qaq p wh w).Pairwise (·<·):=List.pairwise_lt_range.filter _
  have hkc:∀ n,n∈ks↔n∈Qaq p wh w:=fun n=>by
   rw[hk3];simp only[Qaq,QLw,QLi];constructor
   ·rintro ⟨y,hy,e⟩
    have:=Qfb p wh w y;have h5:y∈Qdo p wh w n:=Yd.2 ⟨hy,e⟩
    grind
   rintro ⟨_,h⟩
   cases hz:Qdo p wh w n with
   | cons a r =>
     have h5:a∈Qdo p wh w n:=by rw[hz];simp
     exact ⟨a,(Yd.1 h5).1,(Yd.1 h5).2⟩
   | _=>grind
  have hperm:ks.Perm (Qaq p wh w):=(List.perm_ext_iff_of_nodup hk2 (hcp.imp fun h=>by omega)).2 hkc
  have hcl:(Qaq p wh w).length<=p.zj.length+1:=by
   have:=QLl (fun n=>!(Qdo p wh w n).isEmpty) (List.range (p.zj.length+1))
   simpa[Qaq] using this
  have hkl:=hperm.length_eq;have hsort:=Qhy ks _ hk2 hcp hkc
  have h173:=QrS (K:=K) ((gby (wrU p wh w) (Xf p)).map fun p=>(p.1,IV.sl 1 p.2)) (ks.map fun n:Nat=>(n:Int)) (by rw[List.map_map,List.map_map];exact hk1) (fun x hx=>by
   grind) (by simp;omega)
  rw[hsort] at h173;refine cK h173 ?_
  have hfnd:∀ n:Nat,n∈Qaq p wh w->(Qo (.int .i64 ((n:Nat):Int)) ((gby (wrU p wh w) (Xf p)).map fun p=>(p.1,IV.sl 1 p.2))).getD (.sl 1 [])=Q0 (Qdo p wh w n):=fun n hn=>by
   have h5:=QkP (wrU p wh w) n (Xf p);rw[Qf4];cases hz:Qo (.int .i64 ((n:Nat):Int)) (gby (wrU p wh w) (Xf p)) with
   | none =>
     rw[hz] at h5;simp[Q0,Qdo];simpa using h5
   | some v =>
     rw[hz] at h5;simp[Q0,Qdo];simpa using h5
  have hkk2:=QbR (some .i64) (fun r:List (List IV)=>IV.sl 1 r) _ (QgB (wrU p wh w) (Xf p))
  generalize ((gby (wrU p wh w) (Xf p)).map fun p=>(p.1,IV.sl 1 p.2))=mv at *
  simp only[VK];generalize Qaq p wh w=cs at *;simp[-List.map_map];intros
  refine Ql (fun i=>[(8,AV.iv (.map mv)),(10,AV.yo 10 i),(44,.iv (Q0 (cs.map fun n:Nat=>(n:Int)))),(45,AV.iv (.int .i64 cs.length)),(46,AV.iv (IV.int IntKind.i64 (i:Nat)))])
   (fun i=>[(10,AO.arr 311 2 (emb ((cs.take i).map fun n=>grC ⟨n,Qdo p wh w n⟩)) 0)]) cs.length (fun i=>True) trivial ?_ ?_
  ·intro _
   rw[Qa QiV.eq_1];simp[QKP,Ul,Q0]
  intro i hi _ ih2;rw[Qa QiV.eq_1];rw[QKL hi,QK3] at ih2;have hf1:=hfnd _ (QKR hi);simp[grC,Q0] at ih2;simp[hi,Q0,hkk2,hf1]
  repeat' first | omega | exact ih2 | apply And.intro
 intro i hi _ ih;have q1:p.yb+(i:Int)<=p.yc:=by omega
 have q3:p.yb+((i:Int)+1)=p.yb+i+1:=by omega
 have hS:((List.range (i+1)).map fun (i:Nat)=>p.yb+(i:Int))=((List.range i).map fun (i:Nat)=>p.yb+(i:Int))++[p.yb+(i:Int)]:=by
  rw[QLf,QK3];rfl
 have hmem:p.yb+(i:Int)∈Xf p:=JB.2 ⟨by omega,by omega⟩
 have hgt:=hget _ hmem;have hf1:=hfind (p.yb+(i:Int));rw[hgt] at hf1;rw[hS,QaN] at ih;have hk1:=QgB (wrU p wh w) ((List.range i).map fun (i:Nat)=>p.yb+(i:Int))
 have hl1:=QxG (wrU p wh w) (wrU p wh w (p.yb+i)) ((List.range i).map fun (i:Nat)=>p.yb+(i:Int))
 have hwr:=Qfb p wh w (p.yb+i);rw[QKZ,List.length_range] at hl1;unfold QBI at ih;generalize gby (wrU p wh w) ((List.range i).map fun (i:Nat)=>p.yb+(i:Int))=kvs at *
 generalize wrU p wh w (p.yb+i)=n at *;have hk2:=JD n (((Qo (.int .i64 ((n:Nat):Int)) kvs).getD [])++[[.int .i64 (p.yb+(i:Int))]]) kvs hk1;have hfm:=VO (.int .i64 ((n:Nat):Int)) (.int .i64 ((n:Nat):Int)) (((Qo (.int .i64 ((n:Nat):Int)) kvs).getD [])++[[.int .i64 (p.yb+(i:Int))]]) kvs;rw[if_pos rfl] at hfm;rw[Qa QiW.eq_1];simp[q3] at ih;simp[q1,hkk,hf1,hk1,hk2,hfm]
 grind
omit hK
def QDg (p:Zj) (w:List Int):List (List IV):=(VK p 1 w).flatMap fun g=>(VK p 2 w).map fun h=>VH ⟨w,g,h⟩
theorem QaK (p:Zj) (wh:Int) (w:List Int):(VK p wh w).length<=p.zj.length+1:=by
 have:=QLl (fun n=>!(Qdo p wh w n).isEmpty) (List.range (p.zj.length+1))
 simpa[VK,Qaq] using this
include hK
theorem Qt3 (p:Zj) (w:List Int) (hp:OkU p) (hw:w∈Xc p.zi) (hg:p.yc-p.yb<=100000) {ks:Env} (hks:ZG [2,3] [0,3] ks=[(2,.iv (.ptr (puC p))),(3,.loc 3 0)])
  (s:Ext) (b:Bool) (s1:Ext) (hf:ZS prog K (QDg p w) s b s1) :
  Rnd prog K [12] QaT QeP [2,3] [0,3] (ZG [2,3] [0,3] ks) (Qgl w) [(0,.ext s),(3,.box [.cb 0])] (if b then .fall else .ret) [(0,.ext s1),(3,.box [.cb 0])]:=by
 have h1:=Qn9 hK p 1 w hp hw hg;have h2:=Qn9 hK p 2 w hp hw hg;have hl1:=QaK p 1 w;have hl2:=QaK p 2 w;have hxl:=hp.xlen;unfold QDg at hf;generalize VK p 1 w=G1 at *;generalize VK p 2 w=G2 at *;rw[hks];refine ⟨rfl,?_⟩;simp[Qgl,QaT,QeP];refine cK (by simpa using h2) ?_
 simp;refine cK (by simpa using h1) ?_
 simp[Ul];intros
 refine XV G1.length (fun i e o=>∃ si,e=[(2,AV.iv (.ptr (puC p))),(3,AV.loc 3 0),(4,AV.loc 4 0),(5,.iv (Ul G2)),(18,.iv (Ul G1)),(19,.iv (.int .i64 (G1.length:Nat))),(20,.iv (.int .i64 (i:Nat)))] /\
  o=[(0,.ext si),(3,.box [.cb 0]),(4,.box ((QhW w).map AV.iv))]/\ZS prog K ((G1.drop i).flatMap fun g=>G2.map fun h=>VH ⟨w,g,h⟩) si b s1) ?_ ?_ _ _ ⟨s,by simp[Ul],by simp,by simpa using hf⟩
 ·rintro e o ⟨si,rfl,rfl,hfd⟩
  rw[QLE (QKS _)] at hfd;cases hfd;rw[Qa QiX.eq_1];simp[Ul]
 ·rintro i e o hi ⟨si,rfl,rfl,hfd⟩ ih
  rw[QLg hi,QLH] at hfd;rw[Qa QiX.eq_1];generalize hX:G1[i]=X at *;simp[hi,Ul,hX,grC];intros
  refine XV G2.length (fun k e o=>∃ si,e=[(2,AV.iv (.ptr (puC p))),(3,AV.loc 3 0),(4,AV.loc 4 0),(5,.iv (Ul G2)),(7,AV.loc 7 0),(18,.iv (Ul G1)),(19,.iv (.int .i64 (G1.length:Nat))),(20,.iv (.int .i64 (i:Nat))),(24,.iv (Ul G2)),(25,.iv (.int .i64 (G2.length:Nat))),(26,.iv (.int .i64 (k:Nat)))] /\
   o=[(0,.ext si),(3,.box [.cb 0]),(4,.box ((QhW w).map AV.iv)),(7,.box ((grC X).map AV.iv))]/\ZS prog K (((G2.drop k).map fun h=>VH ⟨w,X,h⟩)++(G1.drop (i+1)).flatMap fun g=>G2.map fun h=>VH ⟨w,g,h⟩) si b s1) ?_ ?_ _ _ ⟨si,by simp[Ul,grC],by simp[grC],by simpa using hfd⟩
  ·rintro e o ⟨si,rfl,rfl,hfd⟩
   rw[QLE (QKS _)] at hfd;rw[Qa QiY.eq_1];simp[Ul]
   (repeat' first | omega | (with_reducible apply And.intro) | intro _)
   exact ih _ _ ⟨si,by simp[Ul],by simp,by simpa using hfd⟩
  ·rintro k e o hk ⟨si,rfl,rfl,hfd⟩ ih2
   rw[QLg hk,QLa,QK1] at hfd;rw[Qa QiY.eq_1];generalize hY:G2[k]=Y at *;simp[hk,Ul,hY,grC];have hit:VH ⟨w,X,Y⟩=[.agg (UZ ⟨w,X,Y⟩)]:=rfl;rw[hit] at hfd;cases hfd with
   | stop _ _ _ _ hg =>
     refine Q7 (by simpa[UZ] using hg) rfl ?_
     simp
   | next _ _ _ s1 _ _ hg hr =>
     refine Q7 (by simpa[UZ] using hg) rfl ?_
     simp
     (repeat' first | omega | (with_reducible apply And.intro) | intro _)
     exact ih2 _ _ ⟨s1,by simp[Ul],by simp[grC],hr⟩
theorem QfM (p:Zj) (hp:OkU p) (hg:p.yc-p.yb<=100000) {ks:Env} (hks:ZG [2,3] [0,3] ks=[(2,.iv (.ptr (puC p))),(3,.loc 3 0)]) :
  ∀ (Ws:List (List Int)) (hW:∀ w∈Ws,w∈Xc p.zi) (s:Ext) (b:Bool) (s':Ext),ZS prog K (Ws.flatMap (QDg p)) s b s' ->
   ∃ wy,(wy=.fall\/wy=.ret)/\Uy prog K [12] QaT QeP [2,3] [0,3] (ZG [2,3] [0,3] ks) (Ws.map Qgl) [(0,.ext s),(3,.box [.cb 0])] wy [(0,.ext s'),(3,.box [.cb 0])]
 | [],_,s,b,s',h=>by
   cases h;exact ⟨.fall,.inl rfl,.nil _⟩
 | w::Ws,hW,s,b,s',h=>by
   rw[QLH] at h;rcases h.append with ⟨s1,h1,h2⟩ | ⟨rfl,h1⟩
   ·obtain ⟨wy,h3,h4⟩:=QfM p hp hg hks Ws (fun x hx=>hW x (by simp[hx])) s1 b s' h2
    exact ⟨wy,h3,.next _ _ _ _ _ _ (Qt3 hK p w hp (hW w (by simp)) hg hks s true s1 h1) h4⟩
   exact ⟨.ret,.inr rfl,.stop _ _ _ _ _ (by simp) (Qt3 hK p w hp (hW w (by simp)) hg hks s false s' h1)⟩
theorem QvI (p:Zj) (hp:OkU p) (hg:p.yc-p.yb<=100000):Qaw prog K 327 [puV p] [] ((QcI p).map VH):=by
 intro s b s' hf;refine QN (fk func327 QGk (by kernel_rfl)) (by simp) hf.v rfl ?_
 have hw:Qa0 p []=(Xc p.zi).map Qgl:=by simp[Qa0]
 have hit:=QvH hK p hp;rw[hw] at hit
 have hb:(QcI p).map VH=(Xc p.zi).flatMap (QDg p):=by
  simp[QcI,QMA,List.map_map,Function.comp_def];rfl
 rw[hb] at hf;simp;obtain ⟨wy,h1,h2⟩:=QfM hK p hp hg (ks:=[(2,.iv (.ptr (puC p))),(3,.loc 3 0)]) rfl (Xc p.zi) (fun _ h=>h) s b s' hf
 refine Q9 (wy:=wy) (o':=[(0,.ext s'),(3,.box [.cb 0])]) rfl (by kernel_rfl) hit ?_ ?_
 ·simpa[ZG,XF] using h2
 ·rcases h1 with rfl | rfl<;>simp
theorem Qbk (p:Zj) (hp:OkU p) {ks:Env} (hks:ZG [2,3] [0,3] ks=[(2,.iv (.ptr (puC p))),(3,.loc 3 0)]) :
  ∀ (Bs:List Bun) (hB:∀ x∈Bs,x∈QcI p) (s:Ext) (b:Bool) (s':Ext),ZS prog K ((Bs.filter fun x=>decide (((x.yg.zh+x.yh.zh:Nat):Int)<=p.zh)).map VH) s b s' ->
   ∃ wy,(wy=.fall\/wy=.ret)/\Uy prog K [7] WO Qcj [2,3] [0,3] (ZG [2,3] [0,3] ks) (Bs.map VH) [(0,.ext s),(3,.box [.cb 0])] wy [(0,.ext s'),(3,.box [.cb 0])]
 | [],_,s,b,s',h=>by
   cases h;exact ⟨.fall,.inl rfl,.nil _⟩
 | t::Ls,hB,s,b,s',h=>by
   have hbt:t.yg.zh<=1000/\t.yh.zh<=1000:=by
    have:=hB t (by simp)
    simp only[QcI,QLv,QK8] at this;obtain ⟨w,_,g,hg,h,hh,rfl⟩:=this;have hxl:=hp.xlen;simp only[VK,Qaq,QK8,QLw,QLi] at hg hh
    grind
   have hw:=Qwj hK t hbt.1 hbt.2;by_cases ht:((t.yg.zh+t.yh.zh:Nat):Int)<=p.zh
   ·rw[QMb (by simpa using ht)] at h
    cases h with
    | stop _ _ _ _ hg =>
      refine ⟨.ret,.inr rfl,.stop _ _ _ _ _ (by simp) ?_⟩
      rw[hks];refine ⟨rfl,?_⟩;simp[VH,UZ,WO,Qcj];refine cK (by simpa[UZ] using hw) ?_
      simp at ht;simp[ht];refine Q7 (by simpa[VH,UZ] using hg) rfl ?_
      simp
    | next _ _ _ s1 _ _ hg hr =>
      obtain ⟨wy,h1,h2⟩:=Qbk p hp hks Ls (fun x hx=>hB x (by simp[hx])) s1 b s' hr
      refine ⟨wy,h1,.next _ _ _ _ _ _ ?_ h2⟩;rw[hks];refine ⟨rfl,?_⟩;simp[VH,UZ,WO,Qcj];refine cK (by simpa[UZ] using hw) ?_
      simp at ht;simp[ht];refine Q7 (by simpa[VH,UZ] using hg) rfl ?_
      simp
   rw[QMc (by simpa using ht)] at h
   obtain ⟨wy,h1,h2⟩:=Qbk p hp hks Ls (fun x hx=>hB x (by simp[hx])) s b s' h
   refine ⟨wy,h1,.next _ _ _ _ _ _ ?_ h2⟩;rw[hks];refine ⟨rfl,?_⟩;simp[VH,UZ,WO,Qcj];refine cK (by simpa[UZ] using hw) ?_
   simp at ht;have ht':¬ ((t.yg.zh:Int)+t.yh.zh<=p.zh):=by omega
   simp[ht']
theorem QvJ (p:Zj) (hp:OkU p) (hg:p.yc-p.yb<=100000):Qaw prog K 268 [puV p] [] ((Vc p).map VH):=by
 intro s b s' hf;refine QN (fk func268 QGF (by kernel_rfl)) (by simp) hf.v rfl ?_
 simp;obtain ⟨wy,h1,h2⟩:=Qbk hK p hp (ks:=[(2,.iv (.ptr (puC p))),(3,.loc 3 0)]) rfl (QcI p) (fun _ h=>h) s b s' hf
 refine Q9 (wy:=wy) (o':=[(0,.ext s'),(3,.box [.cb 0])]) rfl (by kernel_rfl) (QvI hK p hp hg) ?_ ?_
 ·simpa[ZG,XF] using h2
 rcases h1 with rfl | rfl<;>simp
omit hK
theorem QkH (p:Zj) (wh:Int) (w:List Int) (n:Nat):(Qdo p wh w n).length<=(p.yc-p.yb+1).toNat:=by
 have:=QLl (fun len=>wrU p wh w len==n) (Xf p)
 simpa[Qdo,Xf,VM] using this
def VT (l:List Bun):IV:=.sl 8 (l.map UZ)
include hK
theorem QrA (p:Zj) (hp:OkU p) (hg:p.yc-p.yb<=100000) (hl:(Vc p).length<=1000000):Gh K 326 [.yq 8,.iv (.clo 268 [puV p] [])] [] [] (.iv (VT (Vc p))) []:=by
 refine QW [] [] [] [] (fk func326 QDc (by kernel_rfl)).p (by simp[QDc]) (by simp) ?_ ?_ ?_ ?_
 ·simp
 ·simp[clA]
 ·simp
 have hit:=QvJ hK p hp hg;generalize Vc p=B at *;generalize hG:Qha QDc.res [] [] (AV.iv (VT B)) []=G;simp;refine Q9 (wy:=.fall) (o':=[(2,.box [.yo 3000 B.length]),(3000,.arr 313 8 (emb (B.map UZ)) 0)]) rfl (by kernel_rfl) hit ?_ ?_
 ·have:=Uy.all (P:=prog) (K:=K) (ps:=[7]) (asn:=QeQ) (body:=QiZ) (ks:=[2]) (ids:=[2,3000]) (eK:=[(2,.loc 2 0)]) (B.map VH)
   (fun i=>[(2,.box [.yo 3000 i]),(3000,.arr 313 8 (emb ((B.take i).map UZ)) 0)]) fun i x hi=>by
   simp only[QKU,QKQ] at hi;obtain ⟨y,hy,rfl⟩:=hi;obtain ⟨xc,hy⟩:=QKN.1 hy;refine ⟨rfl,?_⟩;rw[QKL xc,hy,QK3];simp[VH,UZ,QeQ,QiZ];exact ⟨by omega,by simp[emb]⟩
  simpa[QKP,QD] using this
 ·simp[QKP]
  rw[<- hG];refine ⟨⟨_,rfl,?_⟩,by simp,by simp⟩
  have h0:(fun i=>if ([]:List Nat).contains i then none else Qc [(2,AO.box [AV.yo 3000 B.length]),(3000,AO.arr 313 8 (emb (B.map UZ)) 0)] i)=Qc [(2,AO.box [AV.yo 3000 B.length]),(3000,AO.arr 313 8 (emb (B.map UZ)) 0)]:=rfl
  rw[Qvj,h0];simp[look,VT,QKP]
  trace_state
theorem Qwz (p:Zj) (hp:OkU p) (hg:p.yc-p.yb<=100000) (hl:(Vc p).length<=1000000):Gd K 267 [.clo 268 [puV p] []] (VT (Vc p)):=by
 refine Qb hK (fk func267 QGG (by kernel_rfl)) (by simp) ?_
 simp;refine Qj (QrA hK p hp hg hl) rfl ?_ ?_
 ·refine ⟨by simp,by simp[clA],by simp,by simp,by simp⟩
 simp[VT]
omit hK
theorem VN {α β:Type} (f:α->List β) (c:Nat):∀ l:List α,(∀ x∈l,(f x).length<=c)->(l.flatMap f).length<=l.length*c
 | [],_=>by simp
 | a::r,h=>by
   have h1:=h a (by simp)
   have h2:=VN f c r fun x hx=>h x (by simp[hx])
   rw[QLH,QKW,QK6,Nat.succ_mul];omega
theorem Qa6 {p:Zj} (hp:OkU p):(Vc p).length<=1000000:=by
 have hxl:=hp.xlen
 have h0:(QcI p).length<=(Xc p.zi).length*81:=by
  refine VN _ _ _ fun w _=>?_
  have h1:=QaK p 1 w
  have h2:=VN (fun g=>(VK p 2 w).map fun h=>(⟨w,g,h⟩:Bun)) 9 (VK p 1 w) fun g _=>by
   have:=QaK p 2 w
   grind
  omega
 have h1:=QLl (fun x:Bun=>decide (((x.yg.zh+x.yh.zh:Nat):Int)<=p.zh)) (QcI p)
 have h2:=WY p.zi hp.zi;have h3:10 ^ p.zi.length<=10 ^ 4:=QLB (by omega) hp.rlen
 unfold Vc;omega
def uT (p:Zj) (is:Bool):List Bun:=if OkU p/\is=true then Vc p else []
theorem QvD {p:Zj} {x:Bun} (h:x∈Vc p):(∀ n∈x.yg.lens,n∈Xf p)/\(∀ n∈x.yh.lens,n∈Xf p)/\x.yg.lens.length<=100000/\x.yh.lens.length<=100000\/¬ OkU p:=by
 by_cases hp:OkU p
 ·refine .inl ?_
  obtain ⟨_,hg,hh,_⟩:=Wl.1 h;have h1:=(Ym.1 hg).1;have h2:=(Ym.1 hh).1;have h3:=QkH p 1 x.zi x.yg.zh;have h4:=QkH p 2 x.zi x.yh.zh;have hgu:=hp.guess;have hmo:=hp.most;simp only[inR] at hgu;rw[h1,h2];exact ⟨fun n hn=>(Yd.1 hn).1,fun n hn=>(Yd.1 hn).1,by omega,by omega⟩
 grind
theorem QaM {l:List Int} (h:0<l.length):l[0]=Xl l:=by
 cases l with
 | nil=>cases h
 | cons a r=>rfl
theorem QaL {l:List Int} (h:l.length-1<l.length):l[l.length-1]=Z8 l:=by
 unfold Z8
 grind
structure QFf (x:Bun):Prop where
 bpos:0<x.yg.lens.length
 apos:0<x.yh.lens.length
 blen:x.yg.lens.length<=100000
 alen:x.yh.lens.length<=100000
 bh:0<=Xl x.yg.lens/\Xl x.yg.lens<=99999
 bl:0<=Z8 x.yg.lens/\Z8 x.yg.lens<=99999
 ah:0<=Xl x.yh.lens/\Xl x.yh.lens<=99999
 al:0<=Z8 x.yh.lens/\Z8 x.yh.lens<=99999
theorem QD9 {p:Zj} (hp:OkU p) {x:Bun} (h:x∈Vc p):QFf x:=by
 obtain ⟨h1,h2,h3,h4⟩:=ZT h;obtain ⟨k1,k2,k3,k4⟩:=(QvD h).resolve_right (fun e=>e hp)
 have e1:=Xg h1 h3;have e2:=Xg h2 h4;have hgu:=hp.guess;have hmo:=hp.most;simp only[inR] at hgu
 have hin:∀ n∈Xf p,0<=n/\n<=99999:=fun n hn=>by
  have:=JB.1 hn;omega
 exact ⟨QLW.2 h3,QLW.2 h4,k3,k4,hin _ (k1 _ e1.1),hin _ (k1 _ e1.2.1),hin _ (k2 _ e2.1),hin _ (k2 _ e2.2.1)⟩
include hK
theorem Qez (p:Zj) (is:Bool) (hl:p.zi.length<=1000) (hx:p.zj.length<=1000) :
  Gd K 194 [puV p,.bool is] (.xg [puV p,VT (uT p is),.int .i64 (uE p is)]):=by
 refine Qb hK (fk func194 QHj (by kernel_rfl)) (by simp) ?_
 simp;refine cK (by simpa using Quh hK p hl hx) ?_
 unfold uE uT;by_cases hp:OkU p
 ·have hgu:=hp.guess
  have hmo:=hp.most;simp only[inR] at hgu;cases is
  ·simp[hp,VT]
  have hln:=Qa6 hp;simp[hp];refine cK (by simpa using Qwz hK p hp (by omega) hln) ?_
  by_cases hn:UY p=[]
  ·have hb:=QaC.2 hn
   simp[hn,hb,VT]
  have hb:¬ Vc p=[]:=fun e=>hn (QaC.1 e)
  simp[hn,hb,VT]
  try omega
 ·simp[hp,VT]
theorem Qoc (part b a:Int) (hpt:0<=part/\part<=1000) (hb:0<=b/\b<=99999) (ha:0<=a/\a<=99999):Gd K 269 [.int .i64 b,.int .i64 a,.ptr [.int .i64 part]] (.bool (XG b a part)):=by
 refine Qb hK (fk func269 QGE (by kernel_rfl)) (by simp) ?_
 have h1:=Qde hpt.1 hpt.2 (show -99999<=b by omega) hb.2
 simp[XG];omega
theorem Qom (T:List Bun) (h:∀ x∈T,QFf x) (hn:T.length<=1000000):Gd K 195 [VT T] (.agg [.int .i64 (span (T.map loB)).1,.int .i64 (span (T.map hiB)).2]):=by
 refine Qb hK (fk func195 QHi (by kernel_rfl)) (by simp) ?_
 simp[VT];intros
 refine Ql (fun i=>[(2,AV.loc 2 0),(3,AV.loc 3 0),(9,AV.iv (.sl 8 (T.map UZ))),(10,AV.iv (.int .i64 T.length)),(11,AV.iv (.int .i64 (i:Nat)))])
  (fun i=>[(2,AO.box [.iv (.int .i64 0),.iv (.int .i64 0)]),(3,AO.box [.iv (.int .i64 (span ((T.take i).map loB)).1),.iv (.int .i64 (span ((T.take i).map hiB)).2)])]) T.length (fun _=>True) trivial ?_ ?_
 ·intro _
  rw[Qa Qjs.eq_1,QKX];simp
 ·intro i hi _ ih
  have hb:=h _ (QKR hi);rw[U6 loB T i hi,U6 hiB T i hi] at ih;rw[Qa Qjs.eq_1];generalize hX:T[i]=X at *;obtain ⟨b1,b2,b3,b4,b5,b6,b7,b8⟩:=hb;have g1:=QaM b1;have g2:=QaM b2;have g3:=QaL (show X.yg.lens.length-1<X.yg.lens.length by omega)
  have g4:=QaL (show X.yh.lens.length-1<X.yh.lens.length by omega)
  have xd:loB X=Xl X.yh.lens-Z8 X.yg.lens:=rfl;have hhi:hiB X=Z8 X.yh.lens-Xl X.yg.lens:=rfl;have q1:X.yg.lens.length-1<X.yg.lens.length:=by omega
  have q2:X.yh.lens.length-1<X.yh.lens.length:=by omega
  have q3:((X.yg.lens.length:Int)-1).toNat=X.yg.lens.length-1:=by omega
  have q4:((X.yh.lens.length:Int)-1).toNat=X.yh.lens.length-1:=by omega
  by_cases h0:i=0
  ·subst h0
   simp[xd,hhi] at ih;simp[hi,hX,UZ,b1,b2,g1,g2,g3,g4,q1,q2,q3,q4]
   grind
  ·have h0':¬ (i:Int)=0:=by omega
   rw[if_neg h0,if_neg h0] at ih;generalize span ((T.take i).map loB)=S1 at *;generalize span ((T.take i).map hiB)=S2 at *;simp[xd,hhi,Qdf,Qdg] at ih;simp[hi,hX,UZ,b1,b2,g1,g2,g3,g4,q1,q2,q3,q4,h0,h0',Qdf,Qdg]
   grind
theorem Qol (T:List Bun) (part:Int) (h:∀ x∈T,QFf x) (hpt:0<=part/\part<=1000) (hn:T.length<=1000000) :
  Gd K 196 [VT T,.int .i64 part] (.int .i64 (if T.all fun x=>XG (Xl x.yg.lens) (Z8 x.yh.lens) part then 1 else if T.any fun x=>XG (Z8 x.yg.lens) (Xl x.yh.lens) part then 3 else 2)):=by
 refine Qb hK (fk func196 QHh (by kernel_rfl)) (by simp) ?_
 generalize hR:(if T.all fun x=>XG (Xl x.yg.lens) (Z8 x.yh.lens) part then (1:Int) else if T.any fun x=>XG (Z8 x.yg.lens) (Xl x.yh.lens) part then 3 else 2)=R
 simp[VT];intros
 refine Ql (fun i=>[(3,AV.iv (.ptr [.int .i64 part])),(5,AV.iv (.bool ((T.take i).any fun x=>XG (Z8 x.yg.lens) (Xl x.yh.lens) part))),(6,AV.iv (.bool (!(T.take i).all fun x=>XG (Xl x.yg.lens) (Z8 x.yh.lens) part))),(12,AV.iv (.sl 8 (T.map UZ))),(13,AV.iv (.int .i64 T.length)),(14,AV.iv (.int .i64 (i:Nat)))])
  (fun i=>[]) T.length (fun _=>True) trivial ?_ ?_
 ·intro _
  rw[Qa Qjr.eq_1,QKX];cases hA:(T.all fun x=>XG (Xl x.yg.lens) (Z8 x.yh.lens) part)<;>cases hE:(T.any fun x=>XG (Z8 x.yg.lens) (Xl x.yh.lens) part)<;>simp[hA,hE] at hR<;>simp[hR]
 ·intro i hi _ ih
  have hb:=h _ (QKR hi);rw[QKL hi,List.any_append,List.all_append] at ih;rw[Qa Qjr.eq_1];generalize hX:T[i]=X at *;obtain ⟨b1,b2,b3,b4,b5,b6,b7,b8⟩:=hb;have g1:=QaM b1;have g2:=QaM b2;have g3:=QaL (show X.yg.lens.length-1<X.yg.lens.length by omega)
  have g4:=QaL (show X.yh.lens.length-1<X.yh.lens.length by omega)
  have q1:X.yg.lens.length-1<X.yg.lens.length:=by omega
  have q2:X.yh.lens.length-1<X.yh.lens.length:=by omega
  have q3:((X.yg.lens.length:Int)-1).toNat=X.yg.lens.length-1:=by omega
  have q4:((X.yh.lens.length:Int)-1).toNat=X.yh.lens.length-1:=by omega
  have w1:=Qoc hK part _ _ hpt b6 b7;have w2:=Qoc hK part _ _ hpt b5 b8;generalize ((T.take i).any fun x=>XG (Z8 x.yg.lens) (Xl x.yh.lens) part)=e1 at *
  generalize ((T.take i).all fun x=>XG (Xl x.yg.lens) (Z8 x.yh.lens) part)=e2 at *
  have k1:(([X]:List Bun).any fun x=>XG (Z8 x.yg.lens) (Xl x.yh.lens) part)=XG (Z8 X.yg.lens) (Xl X.yh.lens) part:=by simp
  have k2:(([X]:List Bun).all fun x=>XG (Xl x.yg.lens) (Z8 x.yh.lens) part)=XG (Xl X.yg.lens) (Z8 X.yh.lens) part:=by simp
  rw[k1,k2] at ih;generalize XG (Z8 X.yg.lens) (Xl X.yh.lens) part=v1 at *;generalize XG (Xl X.yg.lens) (Z8 X.yh.lens) part=v2 at *;have hcal:callee prog 269=true:=by kernel_rfl
  have o1:(-9223372036854775808<=(X.yg.lens.length:Int)-1/\(X.yg.lens.length:Int)-1<=9223372036854775807)/\1<=(X.yg.lens.length:Int):=by omega
  have o2:(-9223372036854775808<=(X.yh.lens.length:Int)-1/\(X.yh.lens.length:Int)-1<=9223372036854775807)/\1<=(X.yh.lens.length:Int):=by omega
  cases e1<;>cases e2
  ·simp at ih
   simp[hi,hX,UZ,b1,b2,g1,g2,g3,g4,q1,q2,q3,q4];intro _;refine ⟨o1.1,o1.2,hcal,cK (by simpa using w1) ?_⟩
   simp
   grind
  ·simp at ih
   simp[hi,hX,UZ,b1,b2,g1,g2,g3,g4,q1,q2,q3,q4];intro _;refine ⟨o1.1,o1.2,hcal,cK (by simpa using w1) ?_⟩
   simp[b1,b2,g1,g2,g3,g4,q1,q2,q3,q4];intro _;refine ⟨o2.1,o2.2,hcal,cK (by simpa using w2) ?_⟩
   simp
   grind
  ·simp at ih
   simp[hi,hX,UZ,b1,b2,g1,g2,g3,g4,q1,q2,q3,q4]
   grind
  ·simp at ih
   simp[hi,hX,UZ,b1,b2,g1,g2,g3,g4,q1,q2,q3,q4];intro _;refine ⟨o2.1,o2.2,hcal,cK (by simpa using w2) ?_⟩
   simp
   grind
theorem Qxy (p:Zj) (hl:p.zi.length<=1000) (hx:p.zj.length<=1000):Gd K 112 [puV p] (.xg [.agg [.int .i64 (span ((uL p true).map qs)).1,.int .i64 (span ((uL p true).map qs)).2],.int .i64 (uE p true)]):=by
 refine Qb hK (fk func112 QIj (by kernel_rfl)) (by simp) ?_
 simp;refine cK (by simpa using Qez hK p true hl hx) ?_
 simp;by_cases hp:OkU p
 ·have hT:uT p true=Vc p:=by simp[uT,hp]
  have hL:uL p true=UY p:=by simp[uL,hp]
  have hs:=Qba p;rw[hT,hL,<- hs];refine cK (Qom hK (Vc p) (fun x hx=>QD9 hp hx) (Qa6 hp)) ?_
  simp[QdW]
 ·have hT:uT p true=[]:=by simp[uT,hp]
  have hL:uL p true=[]:=by simp[uL,hp]
  rw[hT,hL];refine cK (Qom hK [] (by simp) (by simp)) ?_
  simp
theorem Qxw (p:Zj) (part:Int) (hl:p.zi.length<=1000) (hx:p.zj.length<=1000):Gd K 116 [puV p,.int .i64 part] (.xg [.int .i64 (qT p part),.int .i64 (uE p (Qef part))]):=by
 refine Qb hK (fk func116 QIh (by kernel_rfl)) (by simp) ?_
 simp;refine cK (X7 hK _ _ _) ?_;have hpd:decide (inR part 0 1000)=Qef part:=rfl;rw[hpd];simp;refine cK (by simpa using Qez hK p (Qef part) hl hx) ?_
 unfold qT;by_cases h0:uE p (Qef part)=0
 ·obtain ⟨hp,hb,hL,hne⟩:=QdS h0
  have hpt:=of_decide_eq_true hb;simp only[inR] at hpt;have hT:uT p (Qef part)=Vc p:=by simp[uT,hp,hb]
  have hg:=Qol hK (Vc p) part (fun x hx=>QD9 hp hx) hpt (Qa6 hp)
  have hh:=Qgs p part hpt.1;unfold Qdl at hh;rw[<- hh] at hg;rw[hT];simp[h0];refine cK (by simpa using hg) ?_
  simp
 simp[h0]
theorem Qxx (p:Zj) (hl:p.zi.length<=1000) (hx:p.zj.length<=1000):Gd K 114 [puV p] (.xg [.int .i64 (Qed p).1,.int .i64 (Qed p).2]):=by
 refine Qb hK (fk func114 QIi (by kernel_rfl)) (by simp) ?_
 simp;refine cK (by simpa using Qez hK p true hl hx) ?_
 unfold Qed;by_cases h0:uE p true=0;rotate_left
 ·simp[h0]
 ·obtain ⟨hp,hb,hL,hne⟩:=QdS h0
  have hT:uT p true=Vc p:=by simp[uT,hp]
  rw[hT];simp[h0];refine Ql (fun i=>[(5,AV.iv (VT (Vc p))),(17,AV.iv (.int .i64 (i:Nat)))]) (fun _=>[]) 1001 (fun i=>∀ j,j<i->¬ Qdm (UY p) (j:Nat)=1) (by simp) ?_ ?_
  ·intro h
   have hn:Qmo (UY p)=none:=by
    unfold Qmo
    grind
   rw[Qa QjP.eq_1];simp[hn]
  ·intro i hi h ih
   have hg:=Qol hK (Vc p) (i:Nat) (fun x hx=>QD9 hp hx) (by omega) (Qa6 hp)
   have hh0:=Qgs p (i:Nat) (by omega)
   unfold Qdl at hh0;rw[<- hh0] at hg;rw[Qa QjP.eq_1];have hi':(i:Int)<1001:=by omega
   simp[hi,hi'];refine cK (by simpa using hg) ?_
   by_cases hh:Qdm (UY p) (i:Nat)=1
   ·have hs:Qmo (UY p)=some i:=by
     unfold Qmo;rw[List.find?_eq_some_iff_getElem];exact ⟨by simp[hh],i,by simpa using hi,by simp,fun j hj=>by simpa using h j hj⟩
    simp[hh,hs]
   ·have ih:=ih (fun j hj=>by
     grind)
    simp[hh] at ih |-
    grind
theorem Qwy (l:List Int) (hw:∀ x∈l,-1000000<=x/\x<=1000000) (hl:l.length<=1000000):Gd K 270 [.map (Qap (XY l))] (Q0 (Jh l)):=by
 refine Qb hK (fk func270 QGD (by kernel_rfl)) (by simp) ?_
 simp;refine cK (by simpa using Qiu hK (Qap (XY l))) ?_
 simp;refine cK (qt l hw hl) ?_;simp
theorem QwV (T:List Bun) (rod:Nat) (hr:rod<4) (hw:∀ x∈T,0<=x.zi.getD rod 0/\x.zi.getD rod 0<=9999) (hn:T.length<=1000000):Gd K 197 [VT T,.int .i64 (rod:Nat)] (Q0 (Jh (T.map fun x=>x.zi.getD rod 0))):=by
 refine Qb hK (fk func197 QHg (by kernel_rfl)) (by simp) ?_
 have h249:=Qwy hK (T.map fun x=>x.zi.getD rod 0) (fun x hx=>by
  grind) (by simpa using hn)
 simp[VT];intros
 refine Ql (fun i=>[(1,AV.iv (.int .i64 (rod:Nat))),(5,AV.yn 8),(9,AV.iv (.sl 8 (T.map UZ))),(10,AV.iv (.int .i64 T.length)),(11,AV.iv (.int .i64 (i:Nat)))])
  (fun i=>[(8,AO.xi (Qap (XY ((T.take i).map fun x=>x.zi.getD rod 0))))]) T.length (fun _=>True) trivial ?_ ?_
 ·intro _
  rw[Qa Qjq.eq_1,QKX];simp;refine cK (by simpa using h249) ?_
  simp
 ·intro i hi _ ih
  have hb:=hw _ (QKR hi);have hdp:=QkZ T[i].zi rod hr;rw[QKL hi,QK3,QMj,XQ] at ih;have hle:=QeE (T[i].zi.getD rod 0) ((T.take i).map fun x=>x.zi.getD rod 0)
  have hkk:=YH (XY ((T.take i).map fun x=>x.zi.getD rod 0))
  have hf:=JH (T[i].zi.getD rod 0) (XY ((T.take i).map fun x=>x.zi.getD rod 0))
  have hi2:=WF (T[i].zi.getD rod 0) (XY ((T.take i).map fun x=>x.zi.getD rod 0))
  have hlen:((T.take i).map fun x=>x.zi.getD rod 0).length<=1000000:=by simp;omega
  rw[Qa Qjq.eq_1];generalize XY ((T.take i).map fun x=>x.zi.getD rod 0)=kv at *
  generalize hX:T[i]=X at *;simp only[List.getD_eq_getElem?_getD] at hf hi2 hle ih hb;clear hdp;rw[QKZ,QLF] at hle;rcases (show rod=0\/rod=1\/rod=2\/rod=3 by omega) with rfl | rfl | rfl | rfl
  all_goals
   simp at ih;simp[hi,hX,UZ,hkk,hf,hi2]
   repeat' first | omega | exact ih | intro _ | apply And.intro
theorem Qxv (p:Zj) (rod:Int) (hl:p.zi.length<=1000) (hx:p.zj.length<=1000):Gd K 118 [puV p,.int .i64 rod] (.xg [Q0 (QlI p rod),.int .i64 (uE p (Qt2 p rod))]):=by
 refine Qb hK (fk func118 QIg (by kernel_rfl)) (by simp) ?_
 simp;intro _;refine ⟨by omega,cK (X7 hK _ _ _) ?_⟩
 have hpd:decide (inR rod 0 ((p.zi.length:Int)-1))=Qt2 p rod:=rfl;rw[hpd];simp;refine cK (by simpa using Qez hK p (Qt2 p rod) hl hx) ?_
 unfold QlI;by_cases h0:uE p (Qt2 p rod)=0;rotate_left
 ·simp[h0]
 obtain ⟨hp,hb,hL,hne⟩:=QdS h0;have hpt:=of_decide_eq_true hb;simp only[inR] at hpt;have xc:rod.toNat<p.zi.length:=by omega
 have hT:uT p (Qt2 p rod)=Vc p:=by simp[uT,hp,hb]
 have hro:((rod.toNat:Nat):Int)=rod:=by omega
 have hgd:p.zi.getD rod.toNat ⟨0,0,0⟩=p.zi[rod.toNat]:=by simp[xc]
 have hbd:∀ w∈Xc p.zi,0<=w.getD rod.toNat 0/\w.getD rod.toNat 0<=9999:=fun w hw=>by
  obtain ⟨h1,h2⟩:=QaZ hp hw;have hl2:rod.toNat<w.length:=by omega
  have:w.getD rod.toNat 0=w[rod.toNat]:=by simp[hl2]
  rw[this];exact h2 _ (QKR hl2)
 have hg:=QwV hK (Vc p) rod.toNat (by have:=hp.rlen;omega) (fun x hx=>hbd _ (Wl.1 hx).1) (Qa6 hp)
 have he:Jg (Qvg (UY p) rod.toNat) (p.zi[rod.toNat].long-p.zi[rod.toNat].ya) p.zi[rod.toNat].long=Jh ((Vc p).map fun x=>x.zi.getD rod.toNat 0):=by
  refine QhV (qI _ _ _) (V3 _) fun x=>?_
  have hm:=Qnw (p:=p) (rod:=rod.toNat) (n:=x);unfold Qvf at hm;rw[hm,UC];simp only[Qvg,QK8];constructor
  ·grind
  rintro ⟨t,ht,rfl⟩
  have hw:=(Qel.1 ht).2.2.1;have:=QdN _ _ hw rod.toNat xc
  grind
 rw[hro] at hg;rw[hT,if_pos h0,hgd,he];simp[h0];refine cK (by simpa using hg) ?_
 simp
omit hK
def QeI (c:Qs) (ss:List Xp) (i:Nat):Nat:=((List.range i).map fun n=>Q6 c.za ss (ZH c.za n)).foldl min ss.length
theorem Qdt (c:Qs) (ss:List Xp) (i:Nat):QeI c ss (i+1)=min (QeI c ss i) (Q6 c.za ss (ZH c.za i)):=by
 unfold QeI;rw[QLf,QK3,QL4];rfl
def QBL (c:Qs) (ss:List Xp):Nat:=QeI c ss (2 ^ ZA c.za)
theorem QkV (c:Qs) (ss:List Xp):∀ i,QeI c ss i<=ss.length
 | 0=>QKS _
 | i+1=>by
   rw[Qdt];exact QLp (Nat.min_le_left _ _) (QkV c ss i)
def Qds (c:Qs):Option Nat:=(List.range c.zg.length).find? fun i=>decide (0<QBL c (c.zg.take (i+1)))
noncomputable def Wf (c:Qs):Int × Int:=if OkC c then (match Qds c with | some n=>((n:Int),0) | none=>(0,3)) else (0,20)
include hK
theorem Qw5 (c:Qs) (hc:OkC c) (ss:List Xp) (hs:∀ s∈ss,ZR s c.za) (hl:ss.length<=1000):Gd K 170 [.agg (VU c),Qy ss] (.int .i64 (QBL c ss:Nat)):=by
 refine Qb hK (fk func170 QHD (by kernel_rfl)) (by simp) ?_
 have hit:=QnU hK c (pmC c) (by have:=hc.len;have:=W2 c.za;omega) (Qj4 hK c hc)
 have hcl:=hc.len;unfold QBL;generalize 2 ^ ZA c.za=N at *;simp;intros;refine Q9 (wy:=.fall) (o':=[(5,.box [.iv (.int .i64 (QeI c ss N:Nat))])]) rfl (by kernel_rfl) hit ?_ ?_
 ·have:=Uy.all (P:=prog) (K:=K) (ps:=[11]) (asn:=QeX) (body:=QjA) (ks:=[3,5]) (ids:=[5]) (eK:=[(3,.iv (.ptr [Qy ss])),(5,.loc 5 0)]) ((List.range N).map (XI c.za (pmC c)))
   (fun i=>[(5,.box [.iv (.int .i64 (QeI c ss i:Nat))])]) fun i x hi=>by
   simp only[QKU,QKQ] at hi;obtain ⟨y,hy,rfl⟩:=hi;obtain ⟨xc,hy⟩:=QKN.1 hy;rw[List.getElem_range] at hy;subst hy;have hg:=Qoe hK c.za (ZH c.za i) (pmC c i) ss hc.za (by omega) hs hl
   have hle:=QkV c ss i;have hle2:=QcO c.za ss (ZH c.za i);refine ⟨rfl,?_⟩;rw[Qdt];generalize QeI c ss i=m at *;simp[XI,QeX,QjA];refine Qf (by simpa using hg) (.inl rfl) ?_
   simp
   try omega
  simpa[QeI] using this
 ·simp
theorem QBd (c:Qs) (hl:c.za.length<=1000) (hs:c.zg.length<=1000):Gd K 88 [chV c] (.xg [.int .i64 (Wf c).1,.int .i64 (Wf c).2]):=by
 refine Qb hK (fk func88 c88 (by kernel_rfl)) (by simp) ?_
 simp;refine Qf (by simpa using Qb0 hK c hl hs) (.inl rfl) ?_
 unfold Wf;by_cases hc:OkC c;rotate_left
 ·simp[hc]
 simp[hc];refine Qf (by simpa using Qiy hK c hl) (.inl rfl) ?_
 simp;intros
 refine Ql (fun i=>[(1,AV.iv (.ptr [QC c.za,Qy c.zg,.int .i64 c.zh])),(5,AV.loc 5 0),(16,AV.iv (.int .i64 c.zg.length)),(17,AV.iv (.int .i64 (i:Nat)))])
  (fun _=>[(5,AO.box ((VU c).map AV.iv))]) c.zg.length (fun i=>∀ j,j<i->¬ 0<QBL c (c.zg.take (j+1))) (by simp) ?_ ?_
 ·intro h
  have hn:Qds c=none:=by
   unfold Qds;simp_all
  rw[Qa QpD.eq_1];simp[hn]
 intro i hi h ih;have hg:=Qw5 hK c hc (c.zg.take (i+1)) (fun s hs=>hc.zg s (QLC hs)) (by simp;omega)
 rw[Qa QpD.eq_1];simp[hi];refine ⟨by omega,by omega,fun _=>?_⟩
 refine Qf (by simpa[VU,QMr] using hg) (.inl rfl) ?_
 by_cases hh:0<QBL c (c.zg.take (i+1))
 ·have hs:Qds c=some i:=by
   unfold Qds;rw[List.find?_eq_some_iff_getElem];exact ⟨by simpa using hh,i,by simpa using hi,by simp,fun j hj=>by simpa using h j hj⟩
  simp[hh,hs]
 have ih:=ih (fun j hj=>by
  rcases QMD.1 hj with h5 | h5
  ·exact h j h5
  rw[h5];exact hh)
 simp[hh] at ih |-;exact ⟨by omega,ih⟩
omit hK
structure Qax (a p:Qe):Prop where
 sub:(QF a).Sublist (QF p)
 fail:∀ t,Xn a t=Xn p t
 xa:∀ l t,Zu a l t=Zu p l t
 good:∀ t,Um a t=Um p t
 z8:a.z8=p.z8
 link:∀ l,qk a l=qk p l
def QIH (p:Qe) (s:Xp):Qe:=⟨⟨p.zc.za,p.zc.zg++[s],p.zc.zh⟩,p.zb,p.zf,p.zo,p.z8⟩
def QII (p:Qe) (b:QT):Qe:=⟨p.zc,⟨p.zb.zd,p.zb.zr,p.zb.zu,p.zb.zw,p.zb.zk++[b],p.zb.zh⟩,p.zf,p.zo,p.z8⟩
theorem QdU {α:Type} (f:α->Bool) {l l':List α} (h:∀ t∈l,t∈l') (hne:l≠[]) (h3:XZ (l'.countP f) l'.length≠3):XZ (l.countP f) l.length=XZ (l'.countP f) l'.length:=by
 have hl:l.length≠0:=fun e=>hne (QKT e)
 obtain ⟨t,ht⟩:=QLM _ hne;have hl':l'.length≠0:=fun e=>by grind
 by_cases h1:XZ (l'.countP f) l'.length=1
 ·rw[h1,QcS,List.countP_eq_length]
  rw[QcS,List.countP_eq_length] at h1
  grind
 ·have h2:XZ (l'.countP f) l'.length=2:=by
   unfold XZ at *;omega
  rw[h2,Qa7 hl,QMC];rw[Qa7 hl',QMC] at h2
  grind
theorem Qax.kE {a p:Qe} (h:Qax a p) (hp:OkP p) (hk:kE a true=0):kE p true=0:=by
 have hne:=(JE hk).2.2.2;obtain ⟨t,ht⟩:=QLM _ hne;exact QDU hp (h.sub.subset ht)
theorem Qax.len {a p:Qe} (h:Qax a p) (ha:OkP a) (hp:OkP p):(kL a true).length<=(kL p true).length:=by
 rw[Ut ha,Ut hp];exact h.sub.length_le
theorem Qax.rFail {a p:Qe} (h:Qax a p) (hp:OkP p) (hk:Go.Pf.kE a true=0):(rFail p).1<=(rFail a).1/\(rFail a).2<=(rFail p).2:=by
 have hne:=(JE hk).2.2.2;unfold Go.Pf.rFail;rw[Ut (JE hk).1,Ut hp];have e:(fun t=>(Xn a t:Int))=fun t=>(Xn p t:Int):=funext fun t=>by rw[h.fail t]
 rw[e];have h1:=Qd0 ((QF a).map fun t=>(Xn p t:Int)) (fun e=>hne (List.map_eq_nil_iff.1 e))
 obtain ⟨t1,ht1,e1⟩:=QK8.1 h1.1;obtain ⟨t2,ht2,e2⟩:=QK8.1 h1.2;rw[<- e1,<- e2];exact ⟨(V2 (fun t=>(Xn p t:Int)) _ t1 (h.sub.subset ht1)).1,(V2 (fun t=>(Xn p t:Int)) _ t2 (h.sub.subset ht2)).2⟩
theorem Qax.rCond {a p:Qe} (h:Qax a p) (hp:OkP p) (hk:Go.Pf.kE a true=0) (h3:rCond p≠3):rCond a=rCond p:=by
 have hkp:=h.kE hp hk;unfold Go.Pf.rCond at *;rw[if_pos hkp] at h3 |-;rw[if_pos hk,Ut (JE hk).1];rw[Ut hp] at h3 |-;have e:(fun t=>decide (a.z8<=(Xn a t:Int)))=fun t=>decide (p.z8<=(Xn p t:Int)):=funext fun t=>by rw[h.fail t,h.z8]
 rw[e];exact QdU _ (fun t ht=>h.sub.subset ht) (JE hk).2.2.2 h3
theorem Qax.rGood {a p:Qe} (h:Qax a p) (hp:OkP p) (hk:Go.Pf.kE a true=0) (h3:rGood p≠3):rGood a=rGood p:=by
 have hkp:=h.kE hp hk;unfold Go.Pf.rGood at *;rw[if_pos hkp] at h3 |-;rw[if_pos hk,Ut (JE hk).1];rw[Ut hp] at h3 |-;have e:Um a=Um p:=funext fun t=>h.good t
 rw[e];exact QdU _ (fun t ht=>h.sub.subset ht) (JE hk).2.2.2 h3
theorem Qax.rProved {a p:Qe} (h:Qax a p) (hp:OkP p) (hk:Go.Pf.kE a true=0) {link:Int} (hl:qk p link=true) (h3:rProved p link≠3):rProved a link=rProved p link:=by
 have hkp:=h.kE hp hk;unfold Go.Pf.rProved at *;rw[h.link link];rw[hl] at h3 |-;rw[if_pos hkp] at h3 |-;rw[if_pos hk,Ut (JE hk).1];rw[Ut hp] at h3 |-;have e:Zu a link=Zu p link:=funext fun t=>h.xa link t
 rw[e];exact QdU _ (fun t ht=>h.sub.subset ht) (JE hk).2.2.2 h3
include hK
omit hK
def QJj (D:List Qx) (n:Nat):List Int:=(List.range D.length).map (ZH D n)
def Ur (l:List Nat) (link:Int):Int:=fi (fun k:Nat=>decide ((k:Int)=link)) l
def QcQ (c:Qs) (link:Int) (n:Nat):Int:=Ur (cab c.za (ZH c.za n) c.za.length) link
def UL (c:Qs) (link:Int):Bool:=decide (inR link 0 ((Qmt c.za:Int)-1))
include hK
theorem QwF (left all link:Int) (h:0<=all/\all<=1000000):Gd K 251 [.int .i64 left,.int .i64 all,.ptr [.int .i64 link]] (.bool (decide (inR link 0 (all-1)))):=by
 refine Qb hK (fk func251 QGR (by kernel_rfl)) (by simp) ?_
 simp
 repeat' first | omega | intro _ | apply And.intro
 refine cK (Yw hK _ _ _) ?_;simp
theorem Qw8 (link:Int):Gd K 166 [.int .i64 link] (.clo 251 [] [.ptr [.int .i64 link]]):=by
 refine Qb hK (fk func166 QHF (by kernel_rfl)) (by simp) ?_
 simp
theorem Qw6 (l:List Nat) (link:Int) (hl:l.length<=1000000):Gd K 168 [ZZ l,.int .i64 link] (.int .i64 (Ur l link)):=by
 refine Qb hK (fk func168 c168 (by kernel_rfl)) (by simp) ?_
 simp;intro _;refine Ql (fun i=>[(0,AV.iv (ZZ l)),(1,AV.iv (.int .i64 link)),(7,AV.iv (.int .i64 l.length)),(8,AV.iv (.int .i64 (i:Nat)))]) (fun _=>[]) l.length (fun i=>∀ k,(h:k<l.length)->k<i->¬ ((l[k]:Nat):Int)=link) (by intro k _ h;omega) ?_ ?_
 ·intro h
  rw[Qa QjC.eq_1]
  have:Ur l link = -1:=by
   unfold Ur fi
   grind
  simp[this]
 intro i hi h ih;rw[Qa QjC.eq_1];by_cases he:((l[i]:Nat):Int)=link
 ·have:Ur l link=i:=by
   unfold Ur fi
   grind
  simp[hi,he,this]
 have he':¬ link=((l[i]:Nat):Int):=fun e=>he e.symm
 have hn:∀ k,(h:k<l.length)->k<i+1->¬ ((l[k]:Nat):Int)=link:=fun k hk hki=>by
  grind
 have ih:=ih hn;simp[hi,he'] at ih |-
 grind
theorem Qw7 (D:List Qx) (e:Nat->Int) (pm:IV) (link:Int) (hl:D.length<=1000) (hc:(cab D e D.length).length<=1000):Gd K 167 [.agg (Vd D e pm),.ptr [.int .i64 link]] (.int .i64 (Ur (cab D e D.length) link)):=by
 refine Qb hK (fk func167 c167 (by kernel_rfl)) (by simp) ?_
 have g120:=Qop hK D e pm hl;have g119:=Qw6 hK (cab D e D.length) link (by omega)
 simp;refine cK (by simpa using g120) ?_
 simp;refine cK (by simpa using g119) ?_
 simp
theorem QBe (c:Qs) (link:Int) (hl:c.za.length<=1000) (hs:c.zg.length<=1000) :
  Gd K 85 [chV c,.int .i64 link] (.xg [Q0 (if Y0 c (UL c link)=0 then Jh ((QU c).map (QcQ c link)) else []),.int .i64 (Y0 c (UL c link))]):=by
 refine Qb hK (fk func85 c85 (by kernel_rfl)) (by simp) ?_
 have hcl:∀ n,OkC c->(cab c.za (ZH c.za n) c.za.length).length<=12:=fun n h=>by
  have h1:=Xx (ZH c.za n) h.za c.za.length (QKS _) (QKS _);have h2:=OkD.cnt h.za c.za.length (QKS _) (QKS _);have h3:=h.len;omega
 have hal:Qmt c.za<=1000:=QLp (QLl _ _) hl
 have hg:=Qoq hK c hl hs 251 [.ptr [.int .i64 link]] (UL c link) (fun _=>QwF hK _ _ link (by omega)) (by kernel_rfl)
  167 [.ptr [.int .i64 link]] (QcQ c link) (fun h _ n _=>Qw7 hK c.za (ZH c.za n) (pmC c n) link hl (by grind)) (by kernel_rfl) (fun h _ n _=>by
   have h1:=hcl n h;unfold QcQ Ur fi
   grind)
 simp;refine cK (by simpa using Qw8 hK link) ?_
 simp;refine cK (by simpa using hg) ?_
 simp
omit hK
def QJh (c:Qs) (ss:List Xp) (i:Nat):Nat:=(((QX c.za).take i).map fun e=>Q6 c.za ss (QO e)).foldl min ss.length
def QKC (c:Qs) (ss:List Xp):Nat:=((QX c.za).map fun e=>Q6 c.za ss (QO e)).foldl min ss.length
def plB (c:Qs) (n:Int):Bool:=decide (inR n 0 (XU c.za-1))
noncomputable def QqL (c:Qs) (n:Int):List Int:=if Y0 c (plB c n)=0 then Jh ((QU c).map (QqA c n)) else []
noncomputable def QmE (c:Qs) (n:Int):List Int:=if Y0 c (UL c n)=0 then Jh ((QU c).map (QcQ c n)) else []
noncomputable def Vx (p:Qe) (n:Int):Int × Int:=if kE p (Xk p n)=0 then JA p.zb (tr p n.toNat).zm (tr p n.toNat).zn else (0,0)
noncomputable def QhT (p:Qe) (n:Int):Int:=if kE p (Xk p n)=0 then tE p.zb (QaV (tr p n.toNat).zm (tr p n.toNat).zn 0) else kE p (Xk p n)
noncomputable def Uq (p:Qe):Int × Int:=if kE p true=0 then JS p.zb 0 p.zo else (0,kE p true)
noncomputable def Jo (h:Qd) (v:WS) (l:List Int):Txt :=
 match v with
 | .who=>Ys (QqL h.ze.zc (nI l 0)) (Y0 h.ze.zc (plB h.ze.zc (nI l 0)))
 | .wher=>Ys (QmE h.ze.zc (nI l 0)) (Y0 h.ze.zc (UL h.ze.zc (nI l 0)))
 | .first=>Ys [(Wf h.ze.zc).1] (Wf h.ze.zc).2
 | .pulls=>Ys [(JA h.ze.zb (nI l 0) (nI l 1)).1,(JA h.ze.zb (nI l 0) (nI l 1)).2] (tE h.ze.zb (QaV (nI l 0) (nI l 1) 0))
 | .z7=>Ys (qU h.ze (nI l 0)) (kE h.ze (Xk h.ze (nI l 0)))
 | .loads=>Ys [(Vx h.ze (nI l 0)).1,(Vx h.ze (nI l 0)).2] (QhT h.ze (nI l 0))
 | .y9=>Ys [(rFail h.ze).1,(rFail h.ze).2] (kE h.ze true)
 | .y8=>QbP (rCond h.ze) (kE h.ze true)
 | .xa=>QbP (rProved h.ze (nI l 0)) (kE h.ze (qk h.ze (nI l 0)))
 | .opn=>Ys (Qec h.ze) (kE h.ze true)
 | .good=>QbP (rGood h.ze) (kE h.ze true)
 | .worth=>Ys [(Vf h.ze).1] (Vf h.ze).2
 | .zm=>Ys [(Uq h.ze).1] (Uq h.ze).2
 | .stretch=>Ys [(span ((uL h.zq true).map qs)).1,(span ((uL h.zq true).map qs)).2] (uE h.zq true)
 | .best=>Ys [(Qed h.zq).1] (Qed h.zq).2
 | .holds=>QbP (qT h.zq (nI l 0)) (uE h.zq (Qef (nI l 0)))
 | .zi=>Ys (QlI h.zq (nI l 0)) (uE h.zq (Qt2 h.zq (nI l 0)))
 | _=>[]
noncomputable def doV (h:Qd) (v:WS) (l:List Int):Txt × Qd :=
 if Zf v then (match Zy h v l with
  | some h'=>if okH h' then (Qhs,h') else (tNo,h)
  | none=>(tNo,h))
 else (Jo h v l,h)
def XN:List Txt->Option (List Int)
 | []=>some []
 | w::r=>match Qdd w,XN r with
   | some x,some l=>some (x::l)
   | _,_=>none
theorem YP:∀ {ws:List Txt} {l:List Int},XN ws=some l->l.length=ws.length
 | [],l,h=>by simp[XN] at h;subst h;rfl
 | w::r,l,h=>by
   simp only[XN] at h;split at h
   ·rename_i x l' _ h2
    injection h with h
    subst h;simp[YP h2]
   cases h
def Zk (t:Txt):Option (WS × List Int):=match spl t with
 | []=>none
 | w::ws=>match Xz w with
   | none=>none
   | some (n,v)=>if ws.length=n then (XN ws).map fun l=>(v,l) else none
noncomputable def QP (h:Qd) (t:Txt):Txt × Qd:=match Zk t with
 | none=>(Qfk,h)
 | some (v,l)=>doV h v l
noncomputable def Qi (h:Qd) (s:List Txt) (i:Nat):Qd:=(s.take i).foldl (fun h t=>(QP h t).2) h
noncomputable def Xh (h:Qd) (s:List Txt) (i:Nat):List Txt:=(List.range i).map fun j=>(QP (Qi h s j) (s.getD j [])).1
theorem Q2 (h:Qd) (s:List Txt) (i:Nat) (hi:i<s.length):Qi h s (i+1)=(QP (Qi h s i) s[i]).2:=by
 unfold Qi;rw[QKL hi,QL4];rfl
theorem qB (h:Qd) (s:List Txt) (i:Nat) (hi:i<s.length):Xh h s (i+1)=Xh h s i++[(QP (Qi h s i) s[i]).1]:=by
 unfold Xh;rw[QLf,QK3,QMj,List.getD_eq_getElem?_getD,QKM hi];rfl
noncomputable def Qru (h:Qd):Int:=if okH h then 0 else 120
noncomputable def QtZ (h:Qd) (s:List Txt):Int:=if okH h then (if 40<s.length then 2 else 0) else 120
structure Qay (h:Qd):Prop where
 ze:Few h.ze
 zq:QFg h.zq
theorem QBU {h:Qd} {v:WS} {l:List Int} (ho:okH h):okH (doV h v l).2:=by
 unfold doV
 grind
theorem Qrp {h:Qd} {t:Txt} (ho:okH h):okH (QP h t).2:=by
 unfold QP;split
 ·exact ho
 exact QBU ho
theorem U5 {h:Qd} {s:List Txt} (ho:okH h):∀ i,okH (Qi h s i)
 | 0=>ho
 | i+1=>by
   by_cases hi:i<s.length
   ·rw[Q2 h s i hi]
    exact Qrp (U5 ho i)
   have:Qi h s (i+1)=Qi h s i:=by
    unfold Qi;rw[QKP (by omega),QKP (by omega)]
   rw[this];exact U5 ho i
structure QK (h:Qd):Prop where
 ze:Qmw h.ze
 zi:h.zq.zi.length<=1000
 zj:h.zq.zj.length<=1000
@[simp] def QqF (k:Nat) (h:Qd):List AV:=[.yo k h.ze.zc.za.length,.yo (k+1) h.ze.zc.zg.length,.iv (.int .i64 h.ze.zc.zh),.yo (k+2) h.ze.zb.zd.length,.iv (.int .i64 h.ze.zb.zr),.iv (.int .i64 h.ze.zb.zu),.iv (.int .i64 h.ze.zb.zw),
 .yo (k+3) h.ze.zb.zk.length,.iv (.int .i64 h.ze.zb.zh),.yo (k+4) h.ze.zf.length,.iv (.int .i64 h.ze.zo),.iv (.int .i64 h.ze.z8),.iv (.int .i64 h.zq.yi),.iv (.int .i64 h.zq.yb),.iv (.int .i64 h.zq.yc),.yo (k+5) h.zq.zi.length,.yo (k+6) h.zq.zj.length,.iv (.int .i64 h.zq.zh)]
@[simp] def Xs (k:Nat) (h:Qd):Qr:=[(k,.arr 139 5 (emb (h.ze.zc.za.map dC)) 0),(k+1,.arr 142 5 (emb (h.ze.zc.zg.map sC)) 0),(k+2,.arr 145 3 (emb (h.ze.zb.zd.map leC)) 0),(k+3,.arr 148 4 (emb (h.ze.zb.zk.map baC)) 0),
 (k+4,.arr 104 3 (emb (h.ze.zf.map trC)) 0),(k+5,.arr 106 3 (emb (h.zq.zi.map roC)) 0),(k+6,.arr 108 7 (emb (h.zq.zj.map reC)) 0)]
include hK
theorem Qn7 (h:Qd) (hs:QK h):Gh K 32 [.iv (hoV h)] [] [] (.agg (QqF 0 h)) (Xs 0 h):=by
 obtain ⟨⟨h1,h2,h3,h4,h5⟩,h6,h7⟩:=hs;refine QW [17,22,33,38,62,49,54] [] [] [] (fk func32 c32 (by kernel_rfl)).p (by simp[c32]) (by simp) ?_ ?_ ?_ ?_
 ·intro q hq
  simp only[Xs,QKV,QK2,or_false] at hq;rcases hq with rfl | rfl | rfl | rfl | rfl | rfl | rfl<;>exact ⟨by simp,rfl,Xw _ _ _ _ _⟩
 ·simp[clA,clAL]
 ·simp
 generalize hG:Qha c32.res [17,22,33,38,62,49,54] [] (.agg (QqF 0 h)) (Xs 0 h)=G;simp[c32];refine Yh (QB1 h.ze.zc.za h1) (by simp[Qc]) ?_
 simp;refine Yh (QB0 h.ze.zc.zg h2) (by simp[Qc]) ?_
 simp;refine Yh (QBZ h.ze.zb.zd h3) (by simp[Qc]) ?_
 simp;refine Yh (QBY h.ze.zb.zk h4) (by simp[Qc]) ?_
 simp;refine Yh (QBX h.zq.zi h6) (by simp[Qc]) ?_
 simp;refine Yh (QBW h.zq.zj h7) (by simp[Qc]) ?_
 simp;refine Yh (QBV h.ze.zf h5) (by simp[Qc]) ?_
 simp;rw[<- hG];refine ⟨⟨_,rfl,rfl⟩,fun q hq=>?_,by simp⟩
 simp only[Xs,QKV,QK2,or_false] at hq;rcases hq with rfl | rfl | rfl | rfl | rfl | rfl | rfl<;>simp[rnO,nth,qQ,emb]
omit hK
@[reducible] def QH (h:Qd):Qr:=[(0,.box ((hoC h).map AV.iv))]
def UX (r:Nat) (y:Txt) (h':Qd):Env->Qr->Prop:=Qha [Y2.tmp r] [0] [(0,0,0)] (.iv (.str y)) (QH h')
theorem Je (h:Qd):∀ q∈QH h,q.1<1/\Zp q.2=true/\clO ((QH h).map (·.1)) q.2=true:=by
 intro q hq;simp only[QKV,QK2,or_false] at hq;subst hq;simp_all
theorem QR {r:Nat} {y:Txt} {h':Qd} {e:Env} {o:Qr} (h1:Ev.look e r=.iv (.str y)) (h2:Ev.look e 0=.loc 0 0) (h3:Qc o 0=some (.box ((hoC h').map AV.iv))):UX r y h' e o:=by
 refine ⟨⟨.iv (.str y),?_,rfl⟩,fun q hq=>?_,fun q hq=>?_⟩
 ·simp_all
 ·simp only[QKV,QK2,or_false] at hq
  subst hq;refine h3.trans ?_;simp only[rnO,QfP]
 grind
section
theorem Qq {f:FuncId} {A:AFn} {r:Nat} {args:List IV} {h h':Qd} {y:Txt} (hok:ZP prog f A [0]) (hres:A.res=[.tmp r]) (hlen:args.length<A.nt)
  (hrun:WpF prog K (FnF (UX r y h')) [.code A.code] (J9 0 (.loc 0 0::args.map .iv)) (QH h)):Gh K f (.loc 0 0::args.map .iv) (QH h) [0] (.iv (.str y)) (QH h'):=by
 refine QW [0] [0] [0] [(0,0,0)] hok (by simp;omega) (by simp) (Je h') (by simp[clA]) ?_ (by rw[hres];exact hrun)
 simp[nth,Qc]
 grind
theorem Ye {args0:List IV} {o:Qr} {h h':Qd} {a:Nat} (ho:Qc o a=some (.box ((hoC h).map AV.iv))):HOk [a] (.loc 0 0::args0.map .iv) o (QH h) (QH h'):=by
 refine ⟨by simp,?_,fun q hq=>?_,fun i hi h1=>?_,fun q hq=>⟨(Je h' q hq).1,(Je h' q hq).2.1⟩⟩
 ·simp[clA]
 ·have h1:=Je h q hq
  refine ⟨h1.1,?_,h1.2.2,h1.2.1⟩;simp only[QKV,QK2,or_false] at hq;subst hq;refine ho.trans ?_;simp only[rnO,QfP]
 ·simp at hi
  subst hi;simp_all
include hK
theorem Quo (h:Qd) (hs:QK h):Gd K 31 [hoV h] (.int .i64 (Qru h)):=by
 refine Qb hK (fk func31 c31 (by kernel_rfl)) (by simp) ?_
 have g1:=Qui hK h.ze hs.ze;have g2:=Quh hK h.zq hs.zi hs.zj;simp;refine cK (by simpa using g1) ?_
 unfold Qru okH;by_cases h1:OkP h.ze
 ·simp[h1]
  refine cK (by simpa using g2) ?_
  by_cases h2:OkU h.zq<;>simp[h2]
 ·simp[h1]
end
theorem QKk (h:Qd):imms (fun i=>if i=0 then none else Qc ((0,.box (QqF 1 h))::Xs 1 h) i) 40 (QqF 1 h)=some (hoC h):=by
 simp[imms,imm,immss,Qc,QKP]
def CH (K:World->Prop) (g:FuncId) (cs:List IV) (h h':Qd):Prop:=Gh K g (.loc 0 0::cs.map .iv) ((0,.box (QqF 1 h))::Xs 1 h) [0] (.iv (.xg [])) (QH h')
theorem QuG (h:Qd):∀ q∈((0,AO.box (QqF 1 h))::Xs 1 h),q.1<8/\Zp q.2=true/\clO (((0,AO.box (QqF 1 h))::Xs 1 h).map (·.1)) q.2=true:=by
 intro q hq;simp only[Xs,QKV,QK2,or_false] at hq;rcases hq with rfl | rfl | rfl | rfl | rfl | rfl | rfl | rfl
 ·exact ⟨by omega,rfl,by simp[clO,clAL,clA]⟩
 all_goals exact ⟨by show (_:Nat)<8;omega,rfl,Xw _ _ _ _ _⟩
def QzH (h':Qd):Env->Qr->Prop:=Qha [] [0,1,2,3,4,5,6,7] [(0,0,0)] (.iv (.xg [])) ((0,.box (QqF 1 h'))::Xs 1 h')
theorem Qca {h':Qd} {e:Env} {o:Qr} (h1:Ev.look e 0=.loc 0 0) (h2:∀ q∈((0,AO.box (QqF 1 h'))::Xs 1 h'),Qc o q.1=some q.2):QzH h' e o:=by
 refine ⟨⟨.iv (.xg []),rfl,rfl⟩,fun q hq=>?_,fun q hq=>?_⟩
 ·have h3:=h2 q hq
  simp only[Xs,QKV,QK2,or_false] at hq;rcases hq with rfl | rfl | rfl | rfl | rfl | rfl | rfl | rfl
  ·refine h3.trans ?_
   simp[rnO,rnL,rn,nth]
  all_goals
   refine h3.trans ?_;rw[YL]
 grind
section
variable {K:World->Prop}
theorem VR {f:FuncId} {A:AFn} {cs:List IV} {h h':Qd} (hok:ZP prog f A [0]) (hres:A.res=[]) (hlen:cs.length<A.nt)
  (hrun:WpF prog K (FnF (QzH h')) [.code A.code] (J9 0 (.loc 0 0::cs.map .iv)) ((0,.box (QqF 1 h))::Xs 1 h)):CH K f cs h h':=by
 refine Y6.give (QW [0,1,2,3,4,5,6,7] [0] [0] [(0,0,0)] hok (by simp;omega) (by decide) (QuG h') (by simp[clA]) ?_ (by rw[hres];exact hrun)) (by simp) (QKk h')
 simp[nth,Qc]
 grind
theorem Qs3:ZP prog 246 QCb [0]:=⟨_,func246,by kernel_rfl⟩
theorem Qs8:ZP prog 156 QCf [0]:=⟨_,func156,by kernel_rfl⟩
theorem Qs7:ZP prog 157 Qzr [0]:=⟨_,func157,by kernel_rfl⟩
theorem Qs6:ZP prog 158 QCe [0]:=⟨_,func158,by kernel_rfl⟩
theorem Qs5:ZP prog 159 QCd [0]:=⟨_,func159,by kernel_rfl⟩
theorem Qs4:ZP prog 160 QCc [0]:=⟨_,func160,by kernel_rfl⟩
def Zl (h:Qd) (s:Xp):Qd:={ h with ze:={ h.ze with zc:={ h.ze.zc with zg:=h.ze.zc.zg++[s] } } }
def XD (h:Qd) (b:QT):Qd:={ h with ze:={ h.ze with zb:={ h.ze.zb with zk:=h.ze.zb.zk++[b] } } }
def ZO (h:Qd) (x:Qz):Qd:={ h with zq:={ h.zq with zj:=h.zq.zj++[x] } }
def Q8 (h:Qd) (t:VW):Qd:={ h with ze:={ h.ze with zc:={ h.ze.zc with za:=h.ze.zc.za++[⟨4,0,0,0,0⟩] },zf:=h.ze.zf++[t] } }
def ZQ (h:Qd):Qd:={ h with ze:={ h.ze with zc:={ h.ze.zc with za:=h.ze.zc.za.dropLast },zf:=if (h.ze.zc.za.getLast?.map (·.zp))=some 4 then h.ze.zf.dropLast else h.ze.zf } }
theorem QEE (h:Qd) (d:Qx) (hs:QK h):CH K 246 [.ptr (dC d)] h (Qg h d):=by
 obtain ⟨⟨h1,h2,h3,h4,h5⟩,h6,h7⟩:=hs;refine VR Qs3 rfl (by simp[QCb]) ?_
 generalize hG:QzH (Qg h d)=G;simp[QCb];rw[<- hG]
 repeat' first | omega | exact Qca rfl (by
  intro q hq;simp only[Xs,QKV,QK2,or_false] at hq;rcases hq with rfl | rfl | rfl | rfl | rfl | rfl | rfl | rfl<;>simp[Qc,Qg]) | intro _ | apply And.intro
theorem QEJ (h:Qd) (a b c:Int) (hs:QK h):CH K 156 [.ptr [Q0 [a,b,c]]] h (Q8 h ⟨a,b,c⟩):=by
 obtain ⟨⟨h1,h2,h3,h4,h5⟩,h6,h7⟩:=hs;refine VR Qs8 rfl (by simp[QCf]) ?_
 generalize hG:QzH (Q8 h ⟨a,b,c⟩)=G;simp[QCf];rw[<- hG]
 repeat' first | omega | exact Qca rfl (by
  intro q hq;simp only[Xs,QKV,QK2,or_false] at hq;rcases hq with rfl | rfl | rfl | rfl | rfl | rfl | rfl | rfl<;>simp[Qc,Q8]) | intro _ | apply And.intro
theorem QEH (h:Qd) (a b c d e:Int) (hs:QK h):CH K 158 [.ptr [Q0 [a,b,c,d,e]]] h (Zl h ⟨a,b,c,d,e⟩):=by
 obtain ⟨⟨h1,h2,h3,h4,h5⟩,h6,h7⟩:=hs;refine VR Qs6 rfl (by simp[QCe]) ?_
 generalize hG:QzH (Zl h ⟨a,b,c,d,e⟩)=G;simp[QCe];rw[<- hG]
 repeat' first | omega | exact Qca rfl (by
  intro q hq;simp only[Xs,QKV,QK2,or_false] at hq;rcases hq with rfl | rfl | rfl | rfl | rfl | rfl | rfl | rfl<;>simp[Qc,Zl]) | intro _ | apply And.intro
theorem QEG (h:Qd) (a b c d:Int) (hs:QK h):CH K 159 [.ptr [Q0 [a,b,c,d]]] h (XD h ⟨a,b,c,d⟩):=by
 obtain ⟨⟨h1,h2,h3,h4,h5⟩,h6,h7⟩:=hs;refine VR Qs5 rfl (by simp[QCd]) ?_
 generalize hG:QzH (XD h ⟨a,b,c,d⟩)=G;simp[QCd];rw[<- hG]
 repeat' first | omega | exact Qca rfl (by
  intro q hq;simp only[Xs,QKV,QK2,or_false] at hq;rcases hq with rfl | rfl | rfl | rfl | rfl | rfl | rfl | rfl<;>simp[Qc,XD]) | intro _ | apply And.intro
theorem QEF (h:Qd) (a b c d e f g:Int) (hs:QK h):CH K 160 [.ptr [Q0 [a,b,c,d,e,f,g]]] h (ZO h ⟨a,b,c,d,e,f,g⟩):=by
 obtain ⟨⟨h1,h2,h3,h4,h5⟩,h6,h7⟩:=hs;refine VR Qs4 rfl (by simp[QCc]) ?_
 generalize hG:QzH (ZO h ⟨a,b,c,d,e,f,g⟩)=G;simp[QCc];rw[<- hG]
 repeat' first | omega | exact Qca rfl (by
  intro q hq;simp only[Xs,QKV,QK2,or_false] at hq;rcases hq with rfl | rfl | rfl | rfl | rfl | rfl | rfl | rfl<;>simp[Qc,ZO,emb]) | intro _ | apply And.intro
theorem QEI (h:Qd) (hne:h.ze.zc.za≠[]) (ht:(h.ze.zc.za.getLast?.map (·.zp))=some 4->h.ze.zf≠[]) (hs:QK h):CH K 157 [.ptr [.int .i64 ((h.ze.zc.za.length:Int)-1)]] h (ZQ h):=by
 obtain ⟨⟨h1,h2,h3,h4,h5⟩,h6,h7⟩:=hs;obtain ⟨D,d,hD⟩:∃ D d,h.ze.zc.za=D++[d]:=⟨_,_,(QLN hne).symm⟩
 have hr:Qzr.res=[]:=rfl;obtain ⟨⟨⟨za,zg,cw⟩,m,zf,zo,z8⟩,u⟩:=h;simp only at *;subst hD;refine QW [0] [0] [0] [(0,0,0)] Qs7 (by simp[Qzr]) (by simp) (Je _) (by simp[clA]) ?_ ?_
 ·simp[nth,Qc]
  grind
 rw[hr]
 have fin:∀ (e:Env) (o:Qr) (h':Qd),Ev.look e 0=.loc 0 0->Qc o 0=some (.box ((hoC h').map AV.iv))->Qha [] [0] [(0,0,0)] (.iv (.xg [])) (QH h') e o:=fun e o h' q1 q2=>by
  refine ⟨⟨.iv (.xg []),rfl,rfl⟩,fun q hq=>?_,fun q hq=>?_⟩
  ·simp only[QKV,QK2,or_false] at hq
   subst hq;refine q2.trans ?_;simp only[rnO,QfP]
  grind
 generalize hG:Qha [] [0] [(0,0,0)] (.iv (.xg [])) (QH (ZQ ⟨⟨⟨D++[d],zg,cw⟩,m,zf,zo,z8⟩,u⟩))=G;simp at ht h1
 have tk:∀ x:List IV,List.take D.length (List.take (D.length+1) (D.map dC++[x]))=D.map dC:=fun x=>by
  grind
 by_cases h4:d.zp=4
 ·have htl:1<=zf.length:=QLW.2 (ht h4)
  have htn:((zf.length:Int)-1).toNat=zf.length-1:=by omega
  simp[Qzr,h4,htn];rw[<- hG]
  repeat' first | omega | exact fin _ _ _ rfl (by simp[Qc,ZQ,h4,List.dropLast_eq_take,tk]) | intro _ | apply And.intro
 simp[Qzr,h4];rw[<- hG]
 repeat' first | omega | exact fin _ _ _ rfl (by simp[Qc,ZQ,h4,tk]) | intro _ | apply And.intro
end
theorem Qs9:ZP prog 155 QCg [0]:=⟨_,func155,by kernel_rfl⟩
theorem Qta:ZP prog 154 QCh [0]:=⟨_,func154,by kernel_rfl⟩
theorem Qyv:ZP prog 73 c73 [0]:=⟨_,func73,by kernel_rfl⟩
theorem Qyu:ZP prog 74 c74 [0]:=⟨_,func74,by kernel_rfl⟩
theorem Qyt:ZP prog 75 c75 [0]:=⟨_,func75,by kernel_rfl⟩
theorem Qys:ZP prog 76 c76 [0]:=⟨_,func76,by kernel_rfl⟩
theorem Qyr:ZP prog 77 c77 [0]:=⟨_,func77,by kernel_rfl⟩
theorem Qyq:ZP prog 78 c78 [0]:=⟨_,func78,by kernel_rfl⟩
theorem Qyp:ZP prog 79 c79 [0]:=⟨_,func79,by kernel_rfl⟩
theorem Qyo:ZP prog 80 c80 [0]:=⟨_,func80,by kernel_rfl⟩
noncomputable def chT (h':Qd):Txt:=if okH h' then Qhs else tNo
noncomputable def chH (h h':Qd):Qd:=if okH h' then h' else h
include hK
theorem Ud (h h':Qd) (g:FuncId) (cs:List IV) (hs:QK h) (hs':QK h') (hc:callee prog g=true) (hg:CH K g cs h h') :
  Gh K 155 (.loc 0 0::[IV.clo g [] cs].map .iv) (QH h) [0] (.iv (.str (chT h'))) (QH (chH h h')):=by
 refine Qq Qs9 rfl (by simp[QCg]) ?_
 generalize hG:UX 4 (chT h') (chH h h')=G;have g28:=Qn7 hK h hs;have g9:=Quo hK h' hs';simp[QCg];refine Qj (ids:=[11000,11001,11003,11007,11009,11015,11016]) g28 rfl ?_ ?_
 ·refine ⟨by decide,by simp[clA],by simp,?_,?_⟩
  ·simp[Qc]
   intro i hi;have:i=0\/i=1\/i=2\/i=3\/i=4\/i=5\/i=6:=by omega
   rcases this with rfl | rfl | rfl | rfl | rfl | rfl | rfl<;>simp[nth]
  intro q hq;simp only[Xs,QKV,QK2,or_false] at hq;rcases hq with rfl | rfl | rfl | rfl | rfl | rfl | rfl<;>exact ⟨by simp_all,rfl⟩
 ·simp[rn,rnL,nth,YL]
  refine ⟨hc,?_⟩;refine Qj (ids:=[5,11000,11001,11003,11007,11009,11015,11016]) hg (by simp[nth,rn]) ?_ ?_
  ·refine ⟨by decide,by simp[clA],fun q hq=>?_,fun i hi h1=>?_,fun q hq=>?_⟩
   ·have h1:=QuG h q hq
    refine ⟨h1.1,?_,h1.2.2,h1.2.1⟩;simp only[Xs,QKV,QK2,or_false] at hq;rcases hq with rfl | rfl | rfl | rfl | rfl | rfl | rfl | rfl
    ·simp[Qc,nth,rnO,rnL,rn]
    all_goals
     rw[YL];simp[Qc,nth]
   ·simp at hi
    have:i=0\/i=1\/i=2\/i=3\/i=4\/i=5\/i=6\/i=7:=by omega
    rcases this with rfl | rfl | rfl | rfl | rfl | rfl | rfl | rfl<;>simp[Qc] at h1
   have h1:=Je h' q hq
   grind
  ·simp[rn,nth]
   refine cK (by simpa using g9) ?_
   rw[<- hG];unfold Qru chT chH;by_cases ho:okH h'
   ·simp[ho]
    exact QR rfl rfl (by simp[Qc])
   ·simp[ho]
    exact QR rfl rfl (by simp[Qc])
theorem Qex (h:Qd) (d:Qx) (hs:QK h) (hs':QK (Qg h d)):Gh K 154 (.loc 0 0::[IV.agg (dC d)].map .iv) (QH h) [0] (.iv (.str (chT (Qg h d)))) (QH (chH h (Qg h d))):=by
 refine Qq Qta rfl (by simp[QCh]) ?_
 generalize hG:UX 4 (chT (Qg h d)) (chH h (Qg h d))=G;have hg:=Ud hK h (Qg h d) 246 [.ptr (dC d)] hs hs' (by kernel_rfl) (QEE h d hs)
 simp[QCh];refine Qj hg (by simp[nth,rn]) (Ye (by simp[Qc])) ?_
 simp[nth,rn];rw[<- hG];exact QR rfl rfl (by simp[Qc])
theorem Qv6 (h:Qd) (a b c d:Int) (hs:QK h) (hs':QK (Qg h ⟨1,a,b,c,d⟩)):Gh K 73 (.loc 0 0::[Q0 [a,b,c,d]].map .iv) (QH h) [0] (.iv (.str (chT (Qg h ⟨1,a,b,c,d⟩)))) (QH (chH h (Qg h ⟨1,a,b,c,d⟩))):=by
 refine Qq Qyv rfl (by simp[c73]) ?_
 generalize hG:UX 4 (chT (Qg h ⟨1,a,b,c,d⟩)) (chH h (Qg h ⟨1,a,b,c,d⟩))=G;have hg:=Qex hK h ⟨1,a,b,c,d⟩ hs hs';simp[c73];refine Qj hg (by simp[nth,rn]) (Ye (by simp[Qc])) ?_
 simp[nth,rn];rw[<- hG];exact QR rfl rfl (by simp[Qc])
theorem Qv5 (h:Qd) (a b:Int) (hs:QK h) (hs':QK (Qg h ⟨2,a,b,0,0⟩)):Gh K 74 (.loc 0 0::[Q0 [a,b]].map .iv) (QH h) [0] (.iv (.str (chT (Qg h ⟨2,a,b,0,0⟩)))) (QH (chH h (Qg h ⟨2,a,b,0,0⟩))):=by
 refine Qq Qyu rfl (by simp[c74]) ?_
 generalize hG:UX 4 (chT (Qg h ⟨2,a,b,0,0⟩)) (chH h (Qg h ⟨2,a,b,0,0⟩))=G;have hg:=Qex hK h ⟨2,a,b,0,0⟩ hs hs';simp[c74];refine Qj hg (by simp[nth,rn]) (Ye (by simp[Qc])) ?_
 simp[nth,rn];rw[<- hG];exact QR rfl rfl (by simp[Qc])
theorem Qn6 (h:Qd) (hs:QK h) (hs':QK (Qg h ⟨3,0,0,0,0⟩)):Gh K 75 (.loc 0 0::[Q0 []].map .iv) (QH h) [0] (.iv (.str (chT (Qg h ⟨3,0,0,0,0⟩)))) (QH (chH h (Qg h ⟨3,0,0,0,0⟩))):=by
 refine Qq Qyt rfl (by simp[c75]) ?_
 generalize hG:UX 4 (chT (Qg h ⟨3,0,0,0,0⟩)) (chH h (Qg h ⟨3,0,0,0,0⟩))=G;have hg:=Qex hK h ⟨3,0,0,0,0⟩ hs hs';simp[c75];refine Qj hg (by simp[nth,rn]) (Ye (by simp[Qc])) ?_
 simp[nth,rn];rw[<- hG];exact QR rfl rfl (by simp[Qc])
theorem Qv4 (h:Qd) (a b c:Int) (hs:QK h) (hs':QK (Q8 h ⟨a,b,c⟩)):Gh K 76 (.loc 0 0::[Q0 [a,b,c]].map .iv) (QH h) [0] (.iv (.str (chT (Q8 h ⟨a,b,c⟩)))) (QH (chH h (Q8 h ⟨a,b,c⟩))):=by
 refine Qq Qys rfl (by simp[c76]) ?_
 generalize hG:UX 4 (chT (Q8 h ⟨a,b,c⟩)) (chH h (Q8 h ⟨a,b,c⟩))=G;have hg:=Ud hK h (Q8 h ⟨a,b,c⟩) 156 [.ptr [Q0 [a,b,c]]] hs hs' (by kernel_rfl) (QEJ h a b c hs)
 simp[c76];refine Qj hg (by simp[nth,rn]) (Ye (by simp[Qc])) ?_
 simp[nth,rn];rw[<- hG];exact QR rfl rfl (by simp[Qc])
theorem Qv2 (h:Qd) (a b c d e:Int) (hs:QK h) (hs':QK (Zl h ⟨a,b,c,d,e⟩)):Gh K 78 (.loc 0 0::[Q0 [a,b,c,d,e]].map .iv) (QH h) [0] (.iv (.str (chT (Zl h ⟨a,b,c,d,e⟩)))) (QH (chH h (Zl h ⟨a,b,c,d,e⟩))):=by
 refine Qq Qyq rfl (by simp[c78]) ?_
 generalize hG:UX 4 (chT (Zl h ⟨a,b,c,d,e⟩)) (chH h (Zl h ⟨a,b,c,d,e⟩))=G;have hg:=Ud hK h (Zl h ⟨a,b,c,d,e⟩) 158 [.ptr [Q0 [a,b,c,d,e]]] hs hs' (by kernel_rfl) (QEH h a b c d e hs)
 simp[c78];refine Qj hg (by simp[nth,rn]) (Ye (by simp[Qc])) ?_
 simp[nth,rn];rw[<- hG];exact QR rfl rfl (by simp[Qc])
theorem Qv1 (h:Qd) (a b c d:Int) (hs:QK h) (hs':QK (XD h ⟨a,b,c,d⟩)):Gh K 79 (.loc 0 0::[Q0 [a,b,c,d]].map .iv) (QH h) [0] (.iv (.str (chT (XD h ⟨a,b,c,d⟩)))) (QH (chH h (XD h ⟨a,b,c,d⟩))):=by
 refine Qq Qyp rfl (by simp[c79]) ?_
 generalize hG:UX 4 (chT (XD h ⟨a,b,c,d⟩)) (chH h (XD h ⟨a,b,c,d⟩))=G;have hg:=Ud hK h (XD h ⟨a,b,c,d⟩) 159 [.ptr [Q0 [a,b,c,d]]] hs hs' (by kernel_rfl) (QEG h a b c d hs)
 simp[c79];refine Qj hg (by simp[nth,rn]) (Ye (by simp[Qc])) ?_
 simp[nth,rn];rw[<- hG];exact QR rfl rfl (by simp[Qc])
theorem Qv0 (h:Qd) (a b c d e f g:Int) (hs:QK h) (hs':QK (ZO h ⟨a,b,c,d,e,f,g⟩)):Gh K 80 (.loc 0 0::[Q0 [a,b,c,d,e,f,g]].map .iv) (QH h) [0] (.iv (.str (chT (ZO h ⟨a,b,c,d,e,f,g⟩)))) (QH (chH h (ZO h ⟨a,b,c,d,e,f,g⟩))):=by
 refine Qq Qyo rfl (by simp[c80]) ?_
 generalize hG:UX 4 (chT (ZO h ⟨a,b,c,d,e,f,g⟩)) (chH h (ZO h ⟨a,b,c,d,e,f,g⟩))=G;have hg:=Ud hK h (ZO h ⟨a,b,c,d,e,f,g⟩) 160 [.ptr [Q0 [a,b,c,d,e,f,g]]] hs hs' (by kernel_rfl) (QEF h a b c d e f g hs)
 simp[c80];refine Qj hg (by simp[nth,rn]) (Ye (by simp[Qc])) ?_
 simp[nth,rn];rw[<- hG];exact QR rfl rfl (by simp[Qc])
theorem Qv3 (h:Qd) (ht:(h.ze.zc.za.getLast?.map (·.zp))=some 4->h.ze.zf≠[]) (hs:QK h) (hs':QK (ZQ h)):Gh K 77 (.loc 0 0::[Q0 []].map .iv) (QH h) [0] (.iv (.str (if h.ze.zc.za=[] then tNo else chT (ZQ h)))) (QH (if h.ze.zc.za=[] then h else chH h (ZQ h))):=by
 have hl:=hs.ze.za;refine Qq Qyr rfl (by simp[c77]) ?_
 by_cases hne:h.ze.zc.za=[]
 ·simp only[hne,if_true]
  generalize hG:UX 4 tNo h=G;simp[c77,hne];refine Qg7 _ _ _ _ _ _ _ _ ?_;simp;rw[<- hG];exact QR rfl rfl (by simp[Qc,hne])
 simp only[hne,if_false];generalize hG:UX 4 (chT (ZQ h)) (chH h (ZQ h))=G;have hlen:=QLW.2 hne;have hg:=Ud hK h (ZQ h) 157 [.ptr [.int .i64 ((h.ze.zc.za.length:Int)-1)]] hs hs' (by kernel_rfl) (QEI h hne ht hs)
 have xc:¬ (h.ze.zc.za.length:Int)-1<0:=by omega
 simp[c77];intro _;refine ⟨by omega,?_⟩
 refine Qg7 _ _ _ _ _ _ _ _ ?_;simp[xc];refine Qj (ids:=[0,5]) hg (by simp[nth,rn]) ?_ ?_
 ·refine ⟨by decide,by simp[clA],fun q hq=>?_,fun i hi h1=>?_,fun q hq=>?_⟩
  ·have h1:=Je h q hq
   refine ⟨by grind,?_,h1.2.2,h1.2.1⟩
   simp only[QKV,QK2,or_false] at hq;subst hq;simp[Qc,nth,rnO,rnL,rn]
  ·simp at hi
   have:i=0\/i=1:=by omega
   rcases this with rfl | rfl
   ·simp[Qc] at h1
   simp[Qc,nth]
  have h1:=Je (chH h (ZQ h)) q hq
  grind
 simp[nth,rn];rw[<- hG];exact QR rfl rfl (by simp[Qc])
omit hK
set_option maxHeartbeats 10000000
def Qak (neg:Bool) (D:Txt):Option Nat:=if D.length=0\/9<D.length\/(D.head?=some 48/\(neg=true\/1<D.length)) then none else Lib.decFrom 0 D
theorem Qnp (w:Txt):Qdd w=if w.head?=some 45 then (Qak true (w.drop 1)).map fun (m:Nat) => -(m:Int) else (Qak false w).map fun (m:Nat)=>(m:Int):=by
 unfold Qdd
 have dn:∀ D:Txt,D≠[]->Lib.decNat D=Lib.decFrom 0 D:=fun D h=>by
  unfold Lib.decNat
  grind
 split
 ·generalize w.drop 1=D
  unfold Qak;by_cases h0:D=[]
  ·subst h0;simp[Lib.decNat]
  grind
 unfold Qak;by_cases h0:w=[]
 ·subst h0;simp[Lib.decNat]
 grind
theorem Yf:∀ (a b:Txt) (acc:Nat),Lib.decFrom acc (a++b)=(Lib.decFrom acc a).bind fun m=>Lib.decFrom m b
 | [],b,acc=>rfl
 | c::a,b,acc=>by
   simp only[QK1,Lib.decFrom];cases Lib.digitVal c with
   | none=>rfl
   | some d=>exact Yf a b _
theorem Jd (c:UInt8):Lib.digitVal c=if 48<=c.toNat/\c.toNat<=57 then some (c.toNat-48) else none:=by
 unfold Lib.digitVal;rfl
theorem decFrom_lt:∀ (l:Txt) (m:Nat) (i:Nat),i<=l.length->Lib.decFrom 0 (l.take i)=some m->m<10 ^ i
 | l,m,0,_,h=>by simp[Lib.decFrom] at h;subst h;simp
 | l,m,i+1,hi,h=>by
   rw[QKL (by omega),Yf] at h
   cases hk:Lib.decFrom 0 (l.take i) with
   | some k =>
     have:=decFrom_lt l k i (by omega) hk
     rw[hk] at h;simp only[Option.bind_some,Lib.decFrom,Jd] at h
     grind
   | _=>grind
theorem WZ (w:Txt):(∃ p∈ZL,p.1=w)\/∀ p∈ZL,¬ p.1=w:=by
 grind
theorem Xy:∀ p∈ZL,Xz p.1=some p.2:=by decide
theorem JP {w:Txt} (h:∀ p∈ZL,¬ p.1=w):Xz w=none:=by
 unfold Xz
 grind
def ixW (w:Txt):Nat:=(ZL.map (·.1)).idxOf w
theorem QA5 (w:Txt):ixW w<=25:=List.idxOf_le_length
theorem Zn {w l:Txt} (k:Nat) (h:(ZL.map (·.1))[k]?=some l) (hd:(ZL.map (·.1)).idxOf l=k):w=l↔ixW w=k:=by
 constructor
 ·intro e
  subst e;exact hd
 intro e;unfold ixW at e
 grind
theorem QmG (w:Txt):Xz w=(ZL[ixW w]?).map (·.2):=by
 by_cases h:∃ p∈ZL,p.1=w
 ·obtain ⟨p,hp,rfl⟩:=h
  rw[Xy p hp];have xc:ixW p.1<(ZL.map (·.1)).length:=List.idxOf_lt_length_of_mem (QK8.2 ⟨p,hp,rfl⟩)
  have hlt':ixW p.1<ZL.length:=by grind
  have h1:=List.getElem_idxOf xc;rw[QKM hlt'];have h2:=Xy ZL[ixW p.1] (QKR hlt')
  have h3:ZL[ixW p.1].1=p.1:=by
   rw[<- List.getElem_map (f:=fun q:Txt × Nat × WS=>q.1) (h:=by grind)]
   exact h1
  rw[h3,Xy p hp] at h2;exact h2
 rw[JP fun p hp e=>h ⟨p,hp,e⟩]
 have:ixW w=(ZL.map (·.1)).length:=List.idxOf_eq_length fun hm=>by
  grind
 grind
theorem ix0 (w:Txt):(w=[119,101,108,100])=(ixW w=0):=propext (Zn 0 rfl rfl)
theorem ix1 (w:Txt):(w=[99,117,116])=(ixW w=1):=propext (Zn 1 rfl rfl)
theorem ix2 (w:Txt):(w=[116,117,114,110])=(ixW w=2):=propext (Zn 2 rfl rfl)
theorem ix3 (w:Txt):(w=[112,114,111,118,101])=(ixW w=3):=propext (Zn 3 rfl rfl)
theorem ix4 (w:Txt):(w=[117,110,100,111])=(ixW w=4):=propext (Zn 4 rfl rfl)
theorem ix5 (w:Txt):(w=[115,101,101])=(ixW w=5):=propext (Zn 5 rfl rfl)
theorem ix6 (w:Txt):(w=[98,97,108,97,110,99,101])=(ixW w=6):=propext (Zn 6 rfl rfl)
theorem ix7 (w:Txt):(w=[114,101,97,100])=(ixW w=7):=propext (Zn 7 rfl rfl)
theorem ix8 (w:Txt):(w=[119,104,111])=(ixW w=8):=propext (Zn 8 rfl rfl)
theorem ix9 (w:Txt):(w=[119,104,101,114,101])=(ixW w=9):=propext (Zn 9 rfl rfl)
theorem QI4 (w:Txt):(w=[102,105,114,115,116])=(ixW w=10):=propext (Zn 10 rfl rfl)
theorem QI3 (w:Txt):(w=[112,117,108,108,115])=(ixW w=11):=propext (Zn 11 rfl rfl)
theorem QI2 (w:Txt):(w=[98,114,111,107,101])=(ixW w=12):=propext (Zn 12 rfl rfl)
theorem QI1 (w:Txt):(w=[108,111,97,100,115])=(ixW w=13):=propext (Zn 13 rfl rfl)
theorem QI0 (w:Txt):(w=[102,97,105,108,117,114,101,115])=(ixW w=14):=propext (Zn 14 rfl rfl)
theorem QIZ (w:Txt):(w=[99,111,110,100,101,109,110,101,100])=(ixW w=15):=propext (Zn 15 rfl rfl)
theorem QIY (w:Txt):(w=[112,114,111,118,101,100])=(ixW w=16):=propext (Zn 16 rfl rfl)
theorem QIX (w:Txt):(w=[111,112,101,110])=(ixW w=17):=propext (Zn 17 rfl rfl)
theorem QIW (w:Txt):(w=[103,111,111,100])=(ixW w=18):=propext (Zn 18 rfl rfl)
theorem QIV (w:Txt):(w=[119,111,114,116,104])=(ixW w=19):=propext (Zn 19 rfl rfl)
theorem QIU (w:Txt):(w=[119,101,105,103,104,116])=(ixW w=20):=propext (Zn 20 rfl rfl)
theorem QIT (w:Txt):(w=[115,116,114,101,116,99,104])=(ixW w=21):=propext (Zn 21 rfl rfl)
theorem QIS (w:Txt):(w=[98,101,115,116])=(ixW w=22):=propext (Zn 22 rfl rfl)
theorem QIR (w:Txt):(w=[104,111,108,100,115])=(ixW w=23):=propext (Zn 23 rfl rfl)
theorem QIQ (w:Txt):(w=[114,111,100,115])=(ixW w=24):=propext (Zn 24 rfl rfl)
theorem QcH (n:Nat) (h:9<n):Lib.decDigits n=Lib.decDigits (n / 10)++[UInt8.ofNat (48+n % 10)]:=by
 rw[Lib.decDigits,dif_neg (by omega)]
theorem Qcd (n:Nat) (h:n<=9):Lib.decDigits n=[UInt8.ofNat (48+n)]:=by
 rw[Lib.decDigits,dif_pos (by omega)]
include hK
theorem Qxp (s:Txt) (hs:s.length<=1000):Gd K 125 [.str s] (strs (spl s)):=by
 refine Qb hK (fk func125 QH9 (by kernel_rfl)) (by simp) ?_
 simp
 refine XV s.length (fun i e o=>∃ mv,mv<=((s.take i).foldl Qu [[]]).length/\0<((s.take i).foldl Qu [[]]).length/\((s.take i).foldl Qu [[]]).length<=i+1/\(∀ x∈(s.take i).foldl Qu [[]],x.length<=i) /\
  e=[(0,AV.iv (IV.str s)),(3,AV.yo 5 ((s.take i).foldl Qu [[]]).length),(4,AV.iv (IV.int IntKind.i64 (i:Nat)))] /\
  o=[(5,AO.arr 9 1 (emb (((s.take i).foldl Qu [[]]).map fun s=>[.str s])) mv)]) ?_ ?_ _ _ ⟨0,by simp,by simp,by simp,by simp,rfl,rfl⟩
 ·rintro e o ⟨mv,h1,h2,h3,_,rfl,rfl⟩
  rw[Qa QjI.eq_1];simp[spl] at h1 h2 h3 |-;simp[h1]
 ·rintro i e o hi ⟨mv,h1,h2,h3,hx,rfl,rfl⟩ ih
  have e1:(s.take (i+1)).foldl Qu [[]]=Qu ((s.take i).foldl Qu [[]]) s[i]:=by
   rw[QKL hi,QL4];rfl
  rw[Qa QjI.eq_1];rw[e1] at ih;generalize (s.take i).foldl Qu [[]]=X at *;have h4:X.length-1<X.length:=by omega
  have h5:((X.length:Int)-1).toNat=X.length-1:=by omega
  have h6:s[i].toNat<256:=s[i].toNat_lt
  have h7:s[i]=32↔(s[i].toNat:Int)=32:=by
   rw[<- UInt8.toNat_inj];simp;omega
  have h8':((i:Int)+1).toNat=i+1:=by omega
  by_cases e:(s[i].toNat:Int)=32
  ·simp[hi,e]
   refine ⟨⟨h1,by omega,by omega⟩,by omega,?_⟩
   refine ih _ _ ⟨mv,?_,?_,?_,?_,?_,?_⟩<;>simp[Qu,h7.2 e]
   all_goals grind
  ·have h8:¬ s[i]=32:=fun c=>e (h7.1 c)
   have h9:=hx _ (QKR h4)
   have h10:(s.take (i+1)).drop i=[s[i]]:=by
    rw[QKL hi]
    grind
   simp[hi,e,h4,h5,h8',h10];refine ⟨h1,fun _=>⟨by omega,⟨by omega,h1⟩,h1,by omega,by omega,by omega,⟨by omega,h1⟩,h1,by omega,?_⟩⟩
   refine ih _ _ ⟨X.length,?_,?_,?_,?_,?_,?_⟩<;>simp[Qu,h8,h2,h4]
   all_goals grind
theorem Qxn (w:Txt):Gd K 127 [.str w] (.int .i64 (match Xz w with | some p=>(p.1:Int) | none => -1)):=by
 refine Qb hK (fk func127 c127 (by kernel_rfl)) (by simp) ?_
 rw[QmG];have xc:=QA5 w;generalize hr:(match (ZL[ixW w]?).map (·.2) with | some p=>(p.1:Int) | none => -1)=r
 have key:∀ k,k<=25->ixW w=k->r=([4,2,0,3,0,5,4,7,1,1,0,2,1,1,0,0,1,0,0,0,0,0,0,1,1,-1]:List Int).getD k 0:=fun k hk e=>by
  rw[<- hr,e];have:∀ k≤25,(match (ZL[k]?).map (·.2) with | some p=>(p.1:Int) | none => -1)=([4,2,0,3,0,5,4,7,1,1,0,2,1,1,0,0,1,0,0,0,0,0,0,1,1,-1]:List Int).getD k 0:=by decide
  exact this k hk
 clear hr;simp (config:={ maxSteps:=10000000 }) [ix0,ix1,ix2,ix3,ix4,ix5,ix6,ix7,ix8,ix9,QI4,QI3,QI2,QI1,QI0,QIZ,QIY,QIX,QIW,QIV,QIU,QIT,QIS,QIR,QIQ];generalize ixW w=n at *;have k0:=key 0 (by omega)
 have k1:=key 1 (by omega)
 have k2:=key 2 (by omega)
 have k3:=key 3 (by omega)
 have k4:=key 4 (by omega)
 have k5:=key 5 (by omega)
 have k6:=key 6 (by omega)
 have k7:=key 7 (by omega)
 have k8:=key 8 (by omega)
 have k9:=key 9 (by omega)
 have k10:=key 10 (by omega)
 have k11:=key 11 (by omega)
 have k12:=key 12 (by omega)
 have k13:=key 13 (by omega)
 have k14:=key 14 (by omega)
 have k15:=key 15 (by omega)
 have k16:=key 16 (by omega)
 have k17:=key 17 (by omega)
 have k18:=key 18 (by omega)
 have k19:=key 19 (by omega)
 have k20:=key 20 (by omega)
 have k21:=key 21 (by omega)
 have k22:=key 22 (by omega)
 have k23:=key 23 (by omega)
 have k24:=key 24 (by omega)
 have k25:=key 25 (by omega)
 simp only[List.getD_cons_zero,List.getD_cons_succ] at *;clear key
 repeat' first | apply And.intro | intro _
 all_goals omega
theorem Qum (w:Txt):Gd K 40 [.str w] (.bool (match Xz w with | some p=>Zf p.2 | none=>false)):=by
 refine Qb hK (fk func40 c40 (by kernel_rfl)) (by simp) ?_
 rcases WZ w with ⟨p,hp,rfl⟩ | h
 ·rw[Xy p hp]
  simp only[ZL,QKV,QK2,or_false] at hp;rcases hp with rfl | rfl | rfl | rfl | rfl | rfl | rfl | rfl | rfl | rfl | rfl | rfl | rfl | rfl | rfl | rfl | rfl | rfl | rfl | rfl | rfl | rfl | rfl | rfl | rfl<;>simp (config:={ maxSteps:=1000000 }) [Zf]
 ·rw[JP h]
  simp only[ZL,QKV,QK2,or_false,forall_eq_or_imp,forall_eq,@eq_comm _ _ w] at h;simp[h]
omit hK
def OkL (l:List Int):Prop:=l.length<=1000000/\∀ n∈l,-1000000000000000<=n/\n<=1000000000000000
theorem Yu {n:Int} (h : -1000000000000000<=n/\n<=1000000000000000):OkL [n]:=⟨by simp,by simpa using h⟩
theorem Qeh {a b:Int} (h : -1000000000000000<=a/\a<=1000000000000000) (h' : -1000000000000000<=b/\b<=1000000000000000):OkL [a,b]:=⟨by simp,by
 grind⟩
theorem Qei:OkL []:=⟨by simp,by simp⟩
theorem WI (n:Nat):∀ k,n<10 ^ k->0<k->(Lib.decDigits n).length<=k:=by
 induction n using Nat.strongRecOn with
 | ind n ih =>
   intro k hk h0;by_cases h:n<=9
   ·rw[Qcd n h];simp;omega
   rw[QcH n (by omega)]
   obtain ⟨j,rfl⟩:∃ j,k=j+1:=⟨k-1,by omega⟩
   have hj:0<j:=by
    grind
   have:=ih (n / 10) (by omega) j (by omega) hj
   simp;omega
theorem QkE {n:Int} (h : -1000000000000000<=n/\n<=1000000000000000):(Lib.itoa n).length<=20:=by
 unfold Lib.itoa;split
 ·have:=WI n.natAbs 16 (by omega) (by omega)
  simp;omega
 have:=WI n.toNat 16 (by omega) (by omega)
 omega
theorem Qgh:∀ (l:List Txt) (c:Nat),(∀ x∈l,x.length<=c)->(QcA l).length<=(c+1)*l.length
 | [],_,_=>by simp[QcA]
 | [x],c,h=>by
   have:=h x (by simp)
   simp[QcA];omega
 | x::y::r,c,h=>by
   have h1:=h x (by simp)
   have h2:=Qgh (y::r) c fun z hz=>h z (by simp[hz])
   simp only[QcA,QKW,QK6] at h2 |-
   grind
theorem QlX {l:List Int} (h:OkL l) (i:Nat):(QcA ((l.take i).map Lib.itoa)).length<=21000000:=by
 have h1:=Qgh ((l.take i).map Lib.itoa) 20 fun x hx=>by
  obtain ⟨n,hn,rfl⟩:=QK8.1 hx;exact QkE (h.2 n (QLC hn))
 have h2:((l.take i).map Lib.itoa).length<=1000000:=by
  have:=h.1;simp;omega
 omega
theorem Qk2 {D:Txt} {i:Nat} (hi:i<D.length) (h:Lib.digitVal D[i]=none):Lib.decFrom 0 D=none:=by
 have e:D=D.take i++D[i]::D.drop (i+1):=by simp
 rw[e,Yf];cases Lib.decFrom 0 (D.take i) with
 | none=>rfl
 | some m=>simp[Lib.decFrom,h]
theorem QsU {D:Txt} {i m:Nat} (hi:i<D.length) (hm:Lib.decFrom 0 (D.take i)=some m) (h:48<=D[i].toNat/\D[i].toNat<=57):Lib.decFrom 0 (D.take (i+1))=some (m*10+(D[i].toNat-48)):=by
 rw[QKL hi,Yf,hm];simp[Lib.decFrom,Jd,h]
@[simp] abbrev QFE:AC:=.seq (.ops [⟨some 65,none,.xh (.t 4)⟩,⟨some 66,none,.xh (.t 6)⟩,⟨some 67,none,.bin .mul (.t 65) (.t 66)⟩,⟨some 2,none,.xh (.t 67)⟩,⟨some 3,none,.xh (.bool true)⟩] false) .ret
theorem QnB {K:World->Prop} (sg:Int) (hsg:sg=1\/sg = -1) (D:Txt) (hD:D.length<=9) (r:Int) (b:Bool) (hs:∀ m,Lib.decFrom 0 D=some m->r=sg*m/\b=true) (hn:Lib.decFrom 0 D=none->r=0/\b=false) :
  ZB prog K (FnF (Ya [Y2.tmp 2,Y2.tmp 3] (.xg [.int .i64 r,.bool b]))) Qcm [4,5,6,7] [] [AI.inBlock 0,AI.code QFE] [(4,.iv (.int .i64 sg)),(5,.iv (.str D)),(6,.iv (.int .i64 0)),(7,.iv (.int .i64 0))] []:=by
 refine Ql (fun i=>[(4,AV.iv (.int .i64 sg)),(5,AV.iv (.str D)),(6,AV.iv (.int .i64 (((Lib.decFrom 0 (D.take i)).getD 0:Nat):Int))),(7,AV.iv (.int .i64 (i:Nat)))]) (fun _=>[]) D.length (fun i=>(Lib.decFrom 0 (D.take i)).isSome=true) (by simp[Lib.decFrom]) ?_ ?_
 ·intro h
  rw[QKX] at h;obtain ⟨m,hm⟩:=QLk.1 h;obtain ⟨rfl,rfl⟩:=hs m hm;have xc:=decFrom_lt D m D.length (QKS _) (by grind)
  have hb:(10:Nat) ^ D.length<=10 ^ 9:=QLB (by omega) hD
  rw[Qa Qcm.eq_1];simp[hm]
  grind
 ·intro i hi h ih
  obtain ⟨m,hm⟩:=QLk.1 h;have xc:=decFrom_lt D m i (by omega) hm
  have hb:(10:Nat) ^ i<=10 ^ 9:=QLB (by omega) (by omega)
  have hc:D[i].toNat<256:=D[i].toNat_lt;rw[Qa Qcm.eq_1];by_cases h1:D[i].toNat<48
  ·obtain ⟨rfl,rfl⟩:=hn (Qk2 hi (by rw[Jd,if_neg (by omega)]))
   have h1':(D[i].toNat:Int)<48:=by omega
   simp[hi,h1',hm]
  ·have h1':¬ (D[i].toNat:Int)<48:=by omega
   by_cases h2:57<D[i].toNat
   ·obtain ⟨rfl,rfl⟩:=hn (Qk2 hi (by rw[Jd,if_neg (by omega)]))
    have h2':(57:Int)<(D[i].toNat:Int):=by omega
    simp[hi,h1',h2',hm]
   ·have h2':¬ (57:Int)<(D[i].toNat:Int):=by omega
    have hstep:=QsU hi hm (by omega)
    have ih:=ih (by rw[hstep];rfl)
    rw[hstep] at ih;have hw:IntKind.wrap .i64 ((D[i].toNat:Int)-48)=(D[i].toNat:Int)-48:=wrap_i64 (by omega) (by omega)
    have e2:(10:Int)*m+((D[i].toNat:Int)-48)=((m*10+(D[i].toNat-48):Nat):Int):=by omega
    simp only[QLu] at ih;rw[<- e2] at ih;simp[hi,h1',h2',hm,hw] at ih |-
    grind
theorem qX (ws:List Txt) (w:Txt):XN (ws++[w])=match XN ws,Qdd w with | some l,some n=>some (l++[n]) | _,_=>none:=by
 induction ws with
 | nil=>simp only[QK5,XN];grind
 | cons x r ih =>
   simp only[QK1,XN,ih]
   grind
def XK (t:Txt):Txt × List Int × Bool:=match spl t with
 | []=>([],[],false)
 | w::ws=>match XN ws with
   | none=>([],[],false)
   | some l=>(w,l,decide ((l.length:Int)=match Xz w with | some p=>(p.1:Int) | none => -1))
theorem QbC:∀ {ws:List Txt} {l:List Int},XN ws=some l->∀ w∈ws,(Qdd w).isSome=true
 | [],_,_,w,hw=>by simp at hw
 | x::r,l,h,w,hw=>by
   simp only[XN] at h;split at h
   ·rename_i n l' h1 h2
    rcases QKV.1 hw with rfl | hw
    ·rw[h1];rfl
    exact QbC h2 w hw
   cases h
include hK
theorem Qxo (w:Txt) (hw:w.length<=1000):Gd K 126 [.str w] (.xg [.int .i64 ((Qdd w).getD 0),.bool (Qdd w).isSome]):=by
 refine Qb hK (fk func126 QH8 (by kernel_rfl)) (by simp) ?_
 rw[Qnp]
 have head_of:∀ (D:Txt) (h:0<D.length),(D.head?=some 48↔((D[0]'h).toNat:Int)=48):=fun D h=>by
  cases D with
  | nil=>simp at h
  | cons d r =>
    simp only[List.head?_cons,Option.some.injEq,QMs];rw[<- UInt8.toNat_inj]
    grind
 by_cases h45:w.head?=some 45
 ·obtain ⟨D,hwD⟩:∃ D,w=45::D:=by
   cases w with
   | _=>grind
  have f5:0<w.length:=by rw[hwD];simp
  have f1:(0:Int)<w.length:=by omega
  have f2:((w[0]'f5).toNat:Int)=45:=by subst hwD;rfl
  have f3:w.tail=D:=by rw[hwD];rfl
  have f4:(1:Int)<=w.length:=by omega
  rw[if_pos h45,List.drop_one,f3];clear hwD;by_cases c1:D.length=0
  ·have hD:=QKT c1
   have n1:Qak true D=none:=by simp[Qak,c1]
   subst hD;simp[f1,f2,f3,f4,f5,n1]
  have c1':¬ (D.length:Int)=0:=by omega
  have c0:0<D.length:=by omega
  by_cases c2:9<D.length
  ·have n1:Qak true D=none:=by simp[Qak,c2]
   have c2':(9:Int)<D.length:=by omega
   simp[f1,f2,f3,f4,f5,n1,c1',c2',c0]
  have c2':¬ (9:Int)<D.length:=by omega
  have hh:=head_of D c0;by_cases c3:((D[0]'c0).toNat:Int)=48
  ·have n1:Qak true D=none:=by simp[Qak,hh.2 c3]
   simp[f1,f2,f3,f4,f5,n1,c1',c2',c0,c3]
  have n1:Qak true D=Lib.decFrom 0 D:=by simp[Qak,c1,c2,mt hh.1 c3]
  rw[n1];have lp:=QnB (K:=K) (-1) (.inr rfl) D (by omega) (((Lib.decFrom 0 D).map fun (m:Nat) => -(m:Int)).getD 0) ((Lib.decFrom 0 D).map fun (m:Nat) => -(m:Int)).isSome (fun m h=>by simp[h]) (fun h=>by simp[h])
  simp at lp;have ne:¬ D=[]:=fun e=>c1 (by rw[e];rfl)
  simp[f1,f2,f3,f4,f5,c1',c2',c0,c3,ne];exact lp
 ·rw[if_neg h45]
  by_cases c1:w.length=0
  ·have hD:=QKT c1
   have n1:Qak false w=none:=by simp[Qak,c1]
   subst hD;simp[n1]
  have f1:(0:Int)<w.length:=by omega
  have f5:0<w.length:=by omega
  have f2:¬ ((w[0]'f5).toNat:Int)=45:=by
   cases w with
   | nil=>simp at c1
   | cons d r =>
     simp only[List.head?_cons,Option.some.injEq] at h45;rw[<- UInt8.toNat_inj] at h45
     grind
  have c1':¬ (w.length:Int)=0:=by omega
  have ne:¬ w=[]:=fun e=>c1 (by rw[e];rfl)
  by_cases c2:9<w.length
  ·have n1:Qak false w=none:=by simp[Qak,c2]
   have c2':(9:Int)<w.length:=by omega
   simp[f1,f2,f5,n1,c1',c2']
  have c2':¬ (9:Int)<w.length:=by omega
  have hh:=head_of w f5
  have fin:Qak false w=Lib.decFrom 0 w->ZB prog K (FnF (Ya [Y2.tmp 2,Y2.tmp 3] (.xg [.int .i64 (((Qak false w).map fun (m:Nat)=>(m:Int)).getD 0),.bool ((Qak false w).map fun (m:Nat)=>(m:Int)).isSome]))) Qcm [4,5,6,7] [] [AI.inBlock 0,AI.code QFE] [(4,.iv (.int .i64 1)),(5,.iv (.str w)),(6,.iv (.int .i64 0)),(7,.iv (.int .i64 0))] []:=fun n1=>by
   rw[n1];exact QnB (K:=K) 1 (.inl rfl) w (by omega) _ _ (fun m h=>by simp[h]) (fun h=>by simp[h])
  by_cases c3:((w[0]'f5).toNat:Int)=48
  ·by_cases c4:1<w.length
   ·have n1:Qak false w=none:=by simp[Qak,c4,hh.2 c3]
    have c4':(1:Int)<w.length:=by omega
    simp[f1,f2,f5,n1,c1',c2',c3,c4']
   have n1:Qak false w=Lib.decFrom 0 w:=by simp[Qak,c1,c2,c4]
   have c4':¬ (1:Int)<w.length:=by omega
   have lp:=fin n1;simp at lp;simp[f1,f2,f5,c1',c2',c3,c4',ne];exact lp
  ·have n1:Qak false w=Lib.decFrom 0 w:=by simp[Qak,c1,c2,mt hh.1 c3]
   have lp:=fin n1;simp at lp;simp[f1,f2,f5,c1',c2',c3,ne];exact lp
theorem Qun (t:Txt) (ht:t.length<=1000):Gd K 39 [.str t] (.xg [.str (XK t).1,Q0 (XK t).2.1,.bool (XK t).2.2]):=by
 refine Qb hK (fk func39 c39 (by kernel_rfl)) (by simp) ?_
 have hsl:=spl_len t;have hwl:=qG t;have hg:=Qxp hK t ht;unfold XK;cases hs:spl t with
 | nil=>exact absurd hs (QcU t [])
 | cons w ws =>
   rw[hs] at hg hsl hwl;simp at hsl;simp;refine cK (by simpa using hg) ?_
   simp;refine Ql (fun i=>[(3,AV.yo 3 ((XN (ws.take i)).getD []).length),(5,AV.iv (strs (w::ws))),(6,AV.iv (.int .i64 ((i+1:Nat):Int)))]) (fun i=>[(3,.arr 3 1 (emb (((XN (ws.take i)).getD []).map fun n=>[.int .i64 n])) 0)]) ws.length (fun i=>(XN (ws.take i)).isSome=true) (by simp[XN]) ?_ ?_
   ·intro h
    rw[QKX] at h;obtain ⟨l,hl⟩:=QLk.1 h;have hll:=YP hl;have hn:=Qxn hK w;rw[Qa QpM.eq_1];simp[hl];intro _ _;refine cK (by simpa using hn) ?_
    simp
    try exact Iff.rfl
   intro i hi h ih;obtain ⟨l,hl⟩:=QLk.1 h;have hll:=YP hl;simp at hll;have hg2:=Qxo hK ws[i] (by grind)
   have e1:ws.take (i+1)=ws.take i++[ws[i]]:=QKL hi;rw[Qa QpM.eq_1];have hi2:((i:Int)+1)<(ws.length:Int)+1:=by omega
   have hi3:((i:Int)+1).toNat=i+1:=by omega
   cases hv:Qdd ws[i] with
   | none =>
     have hn:XN ws=none:=by
      cases hq:XN ws with
      | none=>rfl
      | some l' =>
        have:=QbC hq ws[i] (by simp)
        grind
     rw[hv] at hg2;simp[hi,hi2,hi3,hl];intro _;refine ⟨by omega,cK (by omega) ?_⟩
     simp[hn]
   | some n =>
     rw[hv] at hg2;have e2:XN (ws.take (i+1))=some (l++[n]):=by rw[e1,qX,hl,hv]
     have ih:=ih (by rw[e2];rfl)
     rw[e2] at ih;simp[hi,hi2,hi3,hl] at ih |-;intro _;refine ⟨by omega,cK (by omega) ?_⟩
     simp
     grind
omit hK
theorem Qet:∀ l:List Txt,Lib.join l [32]=QcA l
 | []=>rfl
 | [x]=>by simp[Lib.join,QcA]
 | x::y::r=>by
   have:=Qet (y::r);simp only[QcA];rw[<- this];simp[Lib.join]
theorem Qxu (w:Txt) (hw:w.length<=1000):∃ n,((Qdd w).isSome=true->n=(Qdd w).getD 0)/\Gd KW 120 [.str w] (.xg [.int .i64 n,.bool (Qdd w).isSome]):=by
 have g1:=QwU w hw;have g3:=QwT w [45];cases hv:Qdd w with
 | some v =>
   obtain ⟨h1,h2,h3⟩:=Qnq hv;have hb:=Lib.atoiAll_bounds h3;have g2:=Qio v hb;rw[h3] at g1;rw[h1] at g2;refine ⟨v,fun _=>rfl,Qb hKW QeZ (by simp) ?_⟩
   have h2':((Lib.trimPrefix w [45]).length:Int)<=9:=by omega
   simp;refine cK (by simpa using g1) ?_
   simp;refine cK (by simpa using g2) ?_
   simp;refine cK (by simpa using g3) ?_
   simp[h2']
 | none =>
   cases ha:Lib.atoiAll w with
   | ok v =>
     have hb:=Lib.atoiAll_bounds ha;have g2:=Qio v hb;rw[ha] at g1;refine ⟨v,fun h=>by simp at h,Qb hKW QeZ (by simp) ?_⟩
     simp;refine cK (by simpa using g1) ?_
     simp;refine cK (by simpa using g2) ?_
     by_cases hi:Lib.itoa v=w
     ·have hl:¬ (Lib.trimPrefix w [45]).length<=9:=fun h=>by
       have:=Qgi hi h
       grind
      have hl':¬ ((Lib.trimPrefix w [45]).length:Int)<=9:=by omega
      simp[hi];refine cK (by simpa using g3) ?_
      simp;omega
     simp[hi]
   | range =>
     rw[ha] at g1;refine ⟨Lib.atoiSat w,fun h=>by simp at h,Qb hKW QeZ (by simp) ?_⟩
     simp;refine cK (by simpa using g1) ?_
     simp
   | _ =>
     rw[ha] at g1;refine ⟨0,fun h=>by simp at h,Qb hKW QeZ (by simp) ?_⟩
     simp;refine cK (by simpa using g1) ?_
     simp
theorem QeA (e:Int) (l:List Int) (h:e=0->OkL l):Gd KW 161 [.int .i64 e,Q0 l] (.str (Ys l e)):=by
 refine Qb hKW (fk func161 QHK (by kernel_rfl)) (by simp) ?_
 unfold Ys QAY;by_cases h0:e=0;rotate_left
 ·by_cases h3:e=3
  ·simp[h3,QqS]
  simp[h0,h3,tNo]
 ·subst h0
  have hl:=h rfl;have h1:=hl.1;by_cases hne:l=[]
  ·subst hne
   simp[QqS]
  ·have hpos:=QLW.2 hne
   have hne':¬ (l.length:Int)=0:=by omega
   simp[hne,hne'];intro _;refine Ql (fun i=>[(5,AV.yo 5 i),(16,AV.iv (Q0 l)),(17,AV.iv (.int .i64 l.length)),(18,AV.iv (.int .i64 (i:Nat)))]) (fun i=>[(5,.arr 9 1 (emb (((l.take i).map Lib.itoa).map fun s=>[.str s])) 0)]) l.length (fun _=>True) trivial ?_ ?_
   ·intro _
    have hj:=QlX hl l.length;rw[QKX] at hj;have hg:=QwI (l.map Lib.itoa) (by simpa using h1) (by rw[Qet];omega)
    rw[Qet] at hg;rw[Qa QjE.eq_1];simp[-List.map_map,Qbx];rw[QKP (by simp)]
    refine Qf (by simpa using hg) (.inr rfl) ?_
    simp
   ·intro i hi _ ih
    have hg:=Qio l[i] (by have:=hl.2 l[i] (QKR hi);omega)
    have e3:List.take (i+1) (List.map ((fun s=>[IV.str s])∘Lib.itoa) l)=List.take i (List.map ((fun s=>[IV.str s])∘Lib.itoa) l)++[[.str (Lib.itoa l[i])]]:=by
     rw[QKL (by simpa using hi)]
     simp
    rw[Qa QjE.eq_1];simp[hi] at ih |-;rw[e3] at ih;refine cK (by simpa using hg) ?_
    simp
    grind
theorem Qgu (l:List Int) (e:Int) (h:e=0->OkL l):Gd KW 82 [Q0 l,.int .i64 e] (.str (Ys l e)):=by
 refine Qb hKW (fk func82 c82 (by kernel_rfl)) (by simp) ?_
 have hg:=QeA e l h;simp;refine cK (by simpa using hg) ?_
 simp
theorem QkK (n e:Int) (h:e=0->OkL [n]):Gd KW 87 [.int .i64 n,.int .i64 e] (.str (Ys [n] e)):=by
 refine Qb hKW (fk func87 c87 (by kernel_rfl)) (by simp) ?_
 have hg:=QeA e [n] h;simp;refine cK (by simpa using hg) ?_
 simp
theorem QkJ (a b e:Int) (h:e=0->OkL [a,b]):Gd KW 90 [.agg [.int .i64 a,.int .i64 b],.int .i64 e] (.str (Ys [a,b] e)):=by
 refine Qb hKW (fk func90 c90 (by kernel_rfl)) (by simp) ?_
 have hg:=QeA e [a,b] h;simp;refine cK (by simpa using hg) ?_
 simp
theorem QkI (n e:Int) (h:e=0->n=1\/n=2\/n=3):Gd KW 99 [.int .i64 n,.int .i64 e] (.str (QbP n e)):=by
 refine Qb hKW (fk func99 c99 (by kernel_rfl)) (by simp) ?_
 unfold QbP;by_cases h0:e=0
 ·rcases h h0 with rfl | rfl | rfl<;>simp[h0,QmQ,QtQ,Qj5]
 have hg:=QeA e [] (fun h=>absurd h h0)
 simp[h0];refine cK (by simpa using hg) ?_
 simp
abbrev Sml (n:Int):Prop := -1000000000000000<=n/\n<=1000000000000000
theorem V1 {l:List Int} (h:∀ x∈l,Sml x):Sml (span l).1/\Sml (span l).2:=by
 by_cases hne:l=[]
 ·subst hne;simp[Sml]
 obtain ⟨h1,h2⟩:=Qd0 l hne
 grind
theorem Qfn (l:List Int) (lo hi:Int) (h1 : -1000000<=lo) (h3:hi<=1000000) (h4:hi-lo<=999999):OkL (Jg l lo hi):=by
 refine ⟨?_,fun n hn=>?_⟩
 ·have:=Qhx l lo (hi+1-lo).toNat
  unfold Jg;omega
 have:=(UC l lo hi n).1 hn;omega
theorem Qlv (l:List Int):(Jh l).length<=l.length:=by
 unfold Jh;rw[List.length_mergeSort,QKZ];exact Qk6 l
theorem QlE (c:Qs):(QU c).length<=2 ^ ZA c.za:=by
 unfold QU
 grind
theorem QhO {c:Qs} (hc:OkC c):(QU c).length<=4096:=by
 have h1:=QlE c;have h2:=W2 c.za;have h3:=hc.len;have h4:2 ^ ZA c.za<=2 ^ 12:=QLB (by omega) (by omega)
 omega
theorem Qj8 {c:Qs} (hc:OkC c) (f:Nat->Int) (h:∀ n,-1000<=f n/\f n<=1000):OkL (Jh ((QU c).map f)):=by
 refine ⟨?_,fun n hn=>?_⟩
 ·have h1:=Qlv ((QU c).map f)
  have h2:=QhO hc
  grind
 rw[Vp] at hn
 grind
theorem Qyf {c:Qs} (hc:OkC c) (e:Nat->Int):∀ x∈cab c.za e c.za.length,x<12:=fun x hx=>by
 have h1:=Qad c.za e c.za.length x hx;have h2:=Qhn c.za c.za.length;have h3:=hc.len;omega
theorem Qpz {c:Qs} (hc:OkC c) (e:Nat->Int):(cab c.za e c.za.length).length<=12:=by
 have h1:=Xx e hc.za c.za.length (QKS _) (QKS _);have h2:=OkD.cnt hc.za c.za.length (QKS _) (QKS _);have h3:=hc.len;omega
theorem Qz4 {c:Qs} (hc:OkC c) (n:Int):OkL (QqL c n):=by
 unfold QqL;split
 ·refine Qj8 hc _ fun k=>?_
  unfold QqA;have:=Qyf hc (ZH c.za k);rw[List.getD_eq_getElem?_getD];cases h:(cab c.za (ZH c.za k) c.za.length)[n.toNat]? with
  | none=>simp
  | some x =>
    have:=this x (QK4 h);simp;omega
 exact Qei
theorem QuR {c:Qs} (hc:OkC c) (n:Int):OkL (QmE c n):=by
 unfold QmE;split
 ·refine Qj8 hc _ fun k=>?_
  unfold QcQ Ur fi;have h1:=Qpz hc (ZH c.za k)
  grind
 exact Qei
theorem QrY {c:Qs} (hc:OkC c):OkL [(Wf c).1]:=by
 have h1:=hc.slen;unfold Wf;rw[if_pos hc];split
 ·rename_i n hn
  unfold Qds at hn;have:=List.mem_of_find?_eq_some hn;rw[QLi] at this;exact Yu (by grind)
 exact Yu (by simp)
theorem QnE {m:Machine} (w mn:Int):OkL [(JA m w mn).1,(JA m w mn).2]:=by
 have key:∀ s∈tL m (QaV w mn 0),Sml (QbJ m w mn s)/\Sml (upS m w mn s):=fun s hs=>by
  obtain ⟨hm,ha,ho⟩:=QDr hs;have ha:=of_decide_eq_true ha;obtain ⟨n1,n2⟩:=hm.numB ho ha.1 ha.2.1;obtain ⟨d1,d2⟩:=hm.denB ho;unfold QbJ upS Sml;have q1:=QLD n1 (b:=den s);have q2:=QLD (show 0<=num m s w mn+den s-1 by omega) (b:=den s)
  rw[q1,q2];have a1:=Int.ediv_nonneg n1 (show 0<=den s by omega)
  have a2:=Int.ediv_le_self (den s) n1;have a3:=Int.ediv_nonneg (show 0<=num m s w mn+den s-1 by omega) (show 0<=den s by omega)
  have a4:=Int.ediv_le_self (den s) (show 0<=num m s w mn+den s-1 by omega)
  omega
 unfold JA;refine Qeh (V1 fun x hx=>?_).1 (V1 fun x hx=>?_).2
 all_goals grind
theorem Qtk (p:Qe) (n:Int):OkL (qU p n):=Qfn _ 0 12 (by omega) (by omega) (by omega)
theorem Qrk (p:Qe) (n:Int):OkL [(Vx p n).1,(Vx p n).2]:=by
 unfold Vx;split
 ·exact QnE _ _
 exact Qeh (by simp) (by simp)
theorem QxN {p:Qe} (hp:OkP p):OkL [(rFail p).1,(rFail p).2]:=by
 have h1:p.zf.length<=12:=by
  rw[hp.many];exact QLp (Qc8 _) hp.zc.len
 have key:∀ x∈(kL p true).map (fun t=>(Xn p t:Int)),Sml x:=fun x hx=>by
  obtain ⟨t,_,rfl⟩:=QK8.1 hx;have:=QkW p t;omega
 exact Qeh (V1 key).1 (V1 key).2
theorem Qzz {α:Type} {pc:Nat->List α} {n:Nat} {x:α} (h:x∈acc pc n):∃ i<n,x∈pc i:=by
 unfold acc at h
 grind
theorem Qvp {p:Qe} (hp:OkP p):OkL (Qec p):=by
 have h2:=OkD.cnt hp.zc.za p.zc.za.length (QKS _) (QKS _);have h3:=hp.zc.len;have h4:(XU p.zc.za).toNat<=12:=by unfold XU;omega
 unfold Qec;split
 ·refine ⟨?_,fun n hn=>?_⟩
  ·refine QLp (QjV _ 1 (fun i=>?_) _) (by omega)
   split<;>simp
  obtain ⟨i,hi,hx⟩:=Qzz hn
  grind
 exact Qei
theorem QqJ (p:Qe):OkL [(Vf p).1]:=by
 have h:=Qne p;unfold Vf;split
 ·split
  ·exact Yu (by simp)
  exact Yu (by grind)
 exact Yu (by simp)
theorem QqN (p:Qe):OkL [(Uq p).1]:=by
 unfold Uq;split
 ·unfold JS
  split
  ·split
   ·exact Yu (by simp)
   have:=(QlW p.zb (tL p.zb (QaV 0 0 p.zo)) 0 p.zo).1;exact Yu (by grind)
  exact Yu (by simp)
 exact Yu (by simp)
theorem Qlr (u:Zj):OkL [(span ((uL u true).map qs)).1,(span ((uL u true).map qs)).2]:=by
 have key:∀ x∈(uL u true).map qs,Sml x:=fun x hx=>by
  obtain ⟨t,ht,rfl⟩:=QK8.1 hx;have:=QAa ht;unfold qs Sml;omega
 exact Qeh (V1 key).1 (V1 key).2
theorem Qzw (u:Zj):OkL [(Qed u).1]:=by
 unfold Qed;split
 ·split
  ·rename_i n hn
   unfold Qmo at hn;have:=List.mem_of_find?_eq_some hn;rw[QLi] at this;exact Yu (by grind)
  exact Yu (by simp)
 exact Yu (by simp)
theorem Qve (u:Zj) (n:Int):OkL (QlI u n):=by
 unfold QlI;split
 ·rename_i h
  obtain ⟨hp,hb,_⟩:=QdS h;have hb:=of_decide_eq_true hb;simp only[inR] at hb;have xc:n.toNat<u.zi.length:=by omega
  have hr:=hp.zi _ (QKR xc);rw[List.getD_eq_getElem?_getD,QKM xc,QLu];simp only[Vk,inR] at hr;exact Qfn _ _ _ (by omega) (by omega) (by omega)
 exact Qei
theorem Qa8 (a b:Int):XZ a b=1\/XZ a b=2\/XZ a b=3:=by
 unfold XZ;omega
theorem QsW {p:Qe} (h:kE p true=0):rCond p=1\/rCond p=2\/rCond p=3:=by
 unfold rCond;rw[if_pos h];exact Qa8 _ _
theorem QrP {p:Qe} (h:kE p true=0):rGood p=1\/rGood p=2\/rGood p=3:=by
 unfold rGood;rw[if_pos h];exact Qa8 _ _
theorem QlK {p:Qe} {n:Int} (h:kE p (qk p n)=0):rProved p n=1\/rProved p n=2\/rProved p n=3:=by
 unfold rProved;rw[if_pos h];exact Qa8 _ _
theorem QnZ {u:Zj} {n:Int} (h:uE u (Qef n)=0):qT u n=1\/qT u n=2\/qT u n=3:=by
 unfold qT Qdm;omega
theorem Qt {h:Qd} (ho:okH h):QK h:=by
 have h1:=ho.1.zc.len;have h2:=ho.1.zc.slen;have h3:=ho.1.zb.len;have h4:=ho.1.zb.blen;have h5:=ho.1.many;have h6:=Qc8 h.ze.zc.za;have h7:=ho.2.rlen;have h8:=ho.2.xlen;exact ⟨⟨by omega,by omega,by omega,by omega,by omega⟩,by omega,by omega⟩
theorem Qyn:ZP prog 81 c81 [0]:=⟨_,func81,by kernel_rfl⟩
theorem Qym:ZP prog 84 c84 [0]:=⟨_,func84,by kernel_rfl⟩
theorem Qyl:ZP prog 86 c86 [0]:=⟨_,func86,by kernel_rfl⟩
theorem Qyk:ZP prog 89 c89 [0]:=⟨_,func89,by kernel_rfl⟩
theorem Qyj:ZP prog 92 c92 [0]:=⟨_,func92,by kernel_rfl⟩
theorem Qyi:ZP prog 94 c94 [0]:=⟨_,func94,by kernel_rfl⟩
theorem Qyh:ZP prog 96 c96 [0]:=⟨_,func96,by kernel_rfl⟩
theorem Qyg:ZP prog 98 c98 [0]:=⟨_,func98,by kernel_rfl⟩
theorem Qtj:ZP prog 101 QCq [0]:=⟨_,func101,by kernel_rfl⟩
theorem Qti:ZP prog 103 QCp [0]:=⟨_,func103,by kernel_rfl⟩
theorem Qth:ZP prog 105 QCo [0]:=⟨_,func105,by kernel_rfl⟩
theorem Qtg:ZP prog 107 QCn [0]:=⟨_,func107,by kernel_rfl⟩
theorem Qtf:ZP prog 109 QCm [0]:=⟨_,func109,by kernel_rfl⟩
theorem Qte:ZP prog 111 QCl [0]:=⟨_,func111,by kernel_rfl⟩
theorem Qtd:ZP prog 113 QCk [0]:=⟨_,func113,by kernel_rfl⟩
theorem Qtc:ZP prog 115 QCj [0]:=⟨_,func115,by kernel_rfl⟩
theorem Qtb:ZP prog 117 QCi [0]:=⟨_,func117,by kernel_rfl⟩
theorem Qn5 (h:Qd) (a:Int) (ho:okH h) (hf:Qay h):Gh KW 81 (.loc 0 0::[Q0 [a]].map .iv) (QH h) [0] (.iv (.str (Jo h .who [a]))) (QH h):=by
 have hc:=ho.1.zc;obtain ⟨⟨h1,h2,h3,h4,h5⟩,h6,h7⟩:=Qt ho;refine Qq Qyn rfl (by simp[c81]) ?_
 generalize hG:UX 4 (Jo h .who [a]) h=G;have g1:=Qug hKW h.ze.zc a h1 h2;have g2:=Qgu (QqL h.ze.zc a) (Y0 h.ze.zc (plB h.ze.zc a)) (fun _=>Qz4 hc a)
 have e1:(if Y0 h.ze.zc (decide (inR a 0 (XU h.ze.zc.za-1)))=0 then Jh ((QU h.ze.zc).map (QqA h.ze.zc a)) else [])=QqL h.ze.zc a:=rfl
 have e2:Y0 h.ze.zc (decide (inR a 0 (XU h.ze.zc.za-1)))=Y0 h.ze.zc (plB h.ze.zc a):=rfl;rw[e1,e2] at g1;simp[c81];refine cK (by simpa using g1) ?_
 simp;refine cK (by simpa using g2) ?_
 simp;rw[<- hG];exact QR rfl rfl (by simp[Qc])
theorem QvZ (h:Qd) (a:Int) (ho:okH h) (hf:Qay h):Gh KW 84 (.loc 0 0::[Q0 [a]].map .iv) (QH h) [0] (.iv (.str (Jo h .wher [a]))) (QH h):=by
 have hc:=ho.1.zc;obtain ⟨⟨h1,h2,h3,h4,h5⟩,h6,h7⟩:=Qt ho;refine Qq Qym rfl (by simp[c84]) ?_
 generalize hG:UX 4 (Jo h .wher [a]) h=G;have g1:=QBe hKW h.ze.zc a h1 h2;have g2:=Qgu (QmE h.ze.zc a) (Y0 h.ze.zc (UL h.ze.zc a)) (fun _=>QuR hc a)
 have e1:(if Y0 h.ze.zc (UL h.ze.zc a)=0 then Jh ((QU h.ze.zc).map (QcQ h.ze.zc a)) else [])=QmE h.ze.zc a:=rfl
 rw[e1] at g1;simp[c84];refine cK (by simpa using g1) ?_
 simp;refine cK (by simpa using g2) ?_
 simp;rw[<- hG];exact QR rfl rfl (by simp[Qc])
theorem QvY (h:Qd) (ho:okH h) (hf:Qay h):Gh KW 86 (.loc 0 0::[Q0 []].map .iv) (QH h) [0] (.iv (.str (Jo h .first []))) (QH h):=by
 have hc:=ho.1.zc;obtain ⟨⟨h1,h2,h3,h4,h5⟩,h6,h7⟩:=Qt ho;refine Qq Qyl rfl (by simp[c86]) ?_
 generalize hG:UX 4 (Jo h .first []) h=G;have g1:=QBd hKW h.ze.zc h1 h2;have g2:=QkK (Wf h.ze.zc).1 (Wf h.ze.zc).2 (fun _=>QrY hc)
 simp[c86];refine cK (by simpa using g1) ?_
 simp;refine cK (by simpa using g2) ?_
 simp;rw[<- hG];exact QR rfl rfl (by simp[Qc])
theorem QvX (h:Qd) (a b:Int) (ho:okH h) (hf:Qay h):Gh KW 89 (.loc 0 0::[Q0 [a,b]].map .iv) (QH h) [0] (.iv (.str (Jo h .pulls [a,b]))) (QH h):=by
 have hc:=ho.1.zc;obtain ⟨⟨h1,h2,h3,h4,h5⟩,h6,h7⟩:=Qt ho;refine Qq Qyk rfl (by simp[c89]) ?_
 generalize hG:UX 4 (Jo h .pulls [a,b]) h=G;have g1:=Quf hKW h.ze.zb a b h3 h4;have g2:=QkJ (JA h.ze.zb a b).1 (JA h.ze.zb a b).2 (tE h.ze.zb (QaV a b 0)) (fun _=>QnE a b)
 simp[c89];refine cK (by simpa using g1) ?_
 simp;refine cK (by simpa using g2) ?_
 simp;rw[<- hG];exact QR rfl rfl (by simp[Qc])
theorem QvW (h:Qd) (a:Int) (ho:okH h) (hf:Qay h):Gh KW 92 (.loc 0 0::[Q0 [a]].map .iv) (QH h) [0] (.iv (.str (Jo h .z7 [a]))) (QH h):=by
 have hc:=ho.1.zc;obtain ⟨⟨h1,h2,h3,h4,h5⟩,h6,h7⟩:=Qt ho;refine Qq Qyj rfl (by simp[c92]) ?_
 generalize hG:UX 4 (Jo h .z7 [a]) h=G;have g1:=QBc hKW h.ze a hf.ze;have g2:=Qgu (qU h.ze a) (kE h.ze (Xk h.ze a)) (fun _=>Qtk h.ze a)
 simp[c92];refine cK (by simpa using g1) ?_
 simp;refine cK (by simpa using g2) ?_
 simp;rw[<- hG];exact QR rfl rfl (by simp[Qc])
theorem QvV (h:Qd) (a:Int) (ho:okH h) (hf:Qay h):Gh KW 94 (.loc 0 0::[Q0 [a]].map .iv) (QH h) [0] (.iv (.str (Jo h .loads [a]))) (QH h):=by
 have hc:=ho.1.zc;obtain ⟨⟨h1,h2,h3,h4,h5⟩,h6,h7⟩:=Qt ho;refine Qq Qyi rfl (by simp[c94]) ?_
 generalize hG:UX 4 (Jo h .loads [a]) h=G;have g1:=QBb hKW h.ze a hf.ze;have g2:=QkJ (Vx h.ze a).1 (Vx h.ze a).2 (QhT h.ze a) (fun _=>Qrk h.ze a)
 have e1:(if kE h.ze (Xk h.ze a)=0 then (JA h.ze.zb (tr h.ze a.toNat).zm (tr h.ze a.toNat).zn).1 else 0)=(Vx h.ze a).1:=by unfold Vx;split<;>rfl
 have e2:(if kE h.ze (Xk h.ze a)=0 then (JA h.ze.zb (tr h.ze a.toNat).zm (tr h.ze a.toNat).zn).2 else 0)=(Vx h.ze a).2:=by unfold Vx;split<;>rfl
 have e3:(if kE h.ze (Xk h.ze a)=0 then tE h.ze.zb (QaV (tr h.ze a.toNat).zm (tr h.ze a.toNat).zn 0) else kE h.ze (Xk h.ze a))=QhT h.ze a:=rfl
 rw[e1,e2,e3] at g1;simp[c94];refine cK (by simpa using g1) ?_
 simp;refine cK (by simpa using g2) ?_
 simp;rw[<- hG];exact QR rfl rfl (by simp[Qc])
theorem QvU (h:Qd) (ho:okH h) (hf:Qay h):Gh KW 96 (.loc 0 0::[Q0 []].map .iv) (QH h) [0] (.iv (.str (Jo h .y9 []))) (QH h):=by
 have hc:=ho.1.zc;obtain ⟨⟨h1,h2,h3,h4,h5⟩,h6,h7⟩:=Qt ho;refine Qq Qyh rfl (by simp[c96]) ?_
 generalize hG:UX 4 (Jo h .y9 []) h=G;have g1:=QBa hKW h.ze hf.ze;have g2:=QkJ (rFail h.ze).1 (rFail h.ze).2 (kE h.ze true) (fun _=>QxN ho.1)
 simp[c96];refine cK (by simpa using g1) ?_
 simp;refine cK (by simpa using g2) ?_
 simp;rw[<- hG];exact QR rfl rfl (by simp[Qc])
theorem QvT (h:Qd) (ho:okH h) (hf:Qay h):Gh KW 98 (.loc 0 0::[Q0 []].map .iv) (QH h) [0] (.iv (.str (Jo h .y8 []))) (QH h):=by
 have hc:=ho.1.zc;obtain ⟨⟨h1,h2,h3,h4,h5⟩,h6,h7⟩:=Qt ho;refine Qq Qyg rfl (by simp[c98]) ?_
 generalize hG:UX 4 (Jo h .y8 []) h=G;have g1:=QxE hKW h.ze hf.ze;have g2:=QkI (rCond h.ze) (kE h.ze true) QsW;simp[c98];refine cK (by simpa using g1) ?_
 simp;refine cK (by simpa using g2) ?_
 simp;rw[<- hG];exact QR rfl rfl (by simp[Qc])
theorem QrO (h:Qd) (a:Int) (ho:okH h) (hf:Qay h):Gh KW 101 (.loc 0 0::[Q0 [a]].map .iv) (QH h) [0] (.iv (.str (Jo h .xa [a]))) (QH h):=by
 have hc:=ho.1.zc;obtain ⟨⟨h1,h2,h3,h4,h5⟩,h6,h7⟩:=Qt ho;refine Qq Qtj rfl (by simp[QCq]) ?_
 generalize hG:UX 4 (Jo h .xa [a]) h=G;have g1:=QxD hKW h.ze a hf.ze;have g2:=QkI (rProved h.ze a) (kE h.ze (qk h.ze a)) QlK;simp[QCq];refine cK (by simpa using g1) ?_
 simp;refine cK (by simpa using g2) ?_
 simp;rw[<- hG];exact QR rfl rfl (by simp[Qc])
theorem QrN (h:Qd) (ho:okH h) (hf:Qay h):Gh KW 103 (.loc 0 0::[Q0 []].map .iv) (QH h) [0] (.iv (.str (Jo h .opn []))) (QH h):=by
 have hc:=ho.1.zc;obtain ⟨⟨h1,h2,h3,h4,h5⟩,h6,h7⟩:=Qt ho;refine Qq Qti rfl (by simp[QCp]) ?_
 generalize hG:UX 4 (Jo h .opn []) h=G;have g1:=QxC hKW h.ze hf.ze;have g2:=Qgu (Qec h.ze) (kE h.ze true) (fun _=>Qvp ho.1)
 simp[QCp];refine cK (by simpa using g1) ?_
 simp;refine cK (by simpa using g2) ?_
 simp;rw[<- hG];exact QR rfl rfl (by simp[Qc])
theorem QrM (h:Qd) (ho:okH h) (hf:Qay h):Gh KW 105 (.loc 0 0::[Q0 []].map .iv) (QH h) [0] (.iv (.str (Jo h .good []))) (QH h):=by
 have hc:=ho.1.zc;obtain ⟨⟨h1,h2,h3,h4,h5⟩,h6,h7⟩:=Qt ho;refine Qq Qth rfl (by simp[QCo]) ?_
 generalize hG:UX 4 (Jo h .good []) h=G;have g1:=QxB hKW h.ze hf.ze;have g2:=QkI (rGood h.ze) (kE h.ze true) QrP;simp[QCo];refine cK (by simpa using g1) ?_
 simp;refine cK (by simpa using g2) ?_
 simp;rw[<- hG];exact QR rfl rfl (by simp[Qc])
theorem QrL (h:Qd) (ho:okH h) (hf:Qay h):Gh KW 107 (.loc 0 0::[Q0 []].map .iv) (QH h) [0] (.iv (.str (Jo h .worth []))) (QH h):=by
 have hc:=ho.1.zc;obtain ⟨⟨h1,h2,h3,h4,h5⟩,h6,h7⟩:=Qt ho;refine Qq Qtg rfl (by simp[QCn]) ?_
 generalize hG:UX 4 (Jo h .worth []) h=G;have g1:=QxA hKW h.ze hf.ze;have g2:=QkK (Vf h.ze).1 (Vf h.ze).2 (fun _=>QqJ h.ze)
 simp[QCn];refine cK (by simpa using g1) ?_
 simp;refine cK (by simpa using g2) ?_
 simp;rw[<- hG];exact QR rfl rfl (by simp[Qc])
theorem QrK (h:Qd) (ho:okH h) (hf:Qay h):Gh KW 109 (.loc 0 0::[Q0 []].map .iv) (QH h) [0] (.iv (.str (Jo h .zm []))) (QH h):=by
 have hc:=ho.1.zc;obtain ⟨⟨h1,h2,h3,h4,h5⟩,h6,h7⟩:=Qt ho;refine Qq Qtf rfl (by simp[QCm]) ?_
 generalize hG:UX 4 (Jo h .zm []) h=G;have g1:=Qxz hKW h.ze hf.ze;have g2:=QkK (Uq h.ze).1 (Uq h.ze).2 (fun _=>QqN h.ze)
 have e1:(if kE h.ze true=0 then (JS h.ze.zb 0 h.ze.zo).1 else 0)=(Uq h.ze).1:=by unfold Uq;split<;>rfl
 have e2:(if kE h.ze true=0 then (JS h.ze.zb 0 h.ze.zo).2 else kE h.ze true)=(Uq h.ze).2:=by unfold Uq;split<;>rfl
 rw[e1,e2] at g1;simp[QCm];refine cK (by simpa using g1) ?_
 simp;refine cK (by simpa using g2) ?_
 simp;rw[<- hG];exact QR rfl rfl (by simp[Qc])
theorem QrJ (h:Qd) (ho:okH h) (hf:Qay h):Gh KW 111 (.loc 0 0::[Q0 []].map .iv) (QH h) [0] (.iv (.str (Jo h .stretch []))) (QH h):=by
 have hc:=ho.1.zc;obtain ⟨⟨h1,h2,h3,h4,h5⟩,h6,h7⟩:=Qt ho;refine Qq Qte rfl (by simp[QCl]) ?_
 generalize hG:UX 4 (Jo h .stretch []) h=G;have g1:=Qxy hKW h.zq h6 h7;have g2:=QkJ (span ((uL h.zq true).map qs)).1 (span ((uL h.zq true).map qs)).2 (uE h.zq true) (fun _=>Qlr h.zq)
 simp[QCl];refine cK (by simpa using g1) ?_
 simp;refine cK (by simpa using g2) ?_
 simp;rw[<- hG];exact QR rfl rfl (by simp[Qc])
theorem QrI (h:Qd) (ho:okH h) (hf:Qay h):Gh KW 113 (.loc 0 0::[Q0 []].map .iv) (QH h) [0] (.iv (.str (Jo h .best []))) (QH h):=by
 have hc:=ho.1.zc;obtain ⟨⟨h1,h2,h3,h4,h5⟩,h6,h7⟩:=Qt ho;refine Qq Qtd rfl (by simp[QCk]) ?_
 generalize hG:UX 4 (Jo h .best []) h=G;have g1:=Qxx hKW h.zq h6 h7;have g2:=QkK (Qed h.zq).1 (Qed h.zq).2 (fun _=>Qzw h.zq)
 simp[QCk];refine cK (by simpa using g1) ?_
 simp;refine cK (by simpa using g2) ?_
 simp;rw[<- hG];exact QR rfl rfl (by simp[Qc])
theorem QrH (h:Qd) (a:Int) (ho:okH h) (hf:Qay h):Gh KW 115 (.loc 0 0::[Q0 [a]].map .iv) (QH h) [0] (.iv (.str (Jo h .holds [a]))) (QH h):=by
 have hc:=ho.1.zc;obtain ⟨⟨h1,h2,h3,h4,h5⟩,h6,h7⟩:=Qt ho;refine Qq Qtc rfl (by simp[QCj]) ?_
 generalize hG:UX 4 (Jo h .holds [a]) h=G;have g1:=Qxw hKW h.zq a h6 h7;have g2:=QkI (qT h.zq a) (uE h.zq (Qef a)) QnZ;simp[QCj];refine cK (by simpa using g1) ?_
 simp;refine cK (by simpa using g2) ?_
 simp;rw[<- hG];exact QR rfl rfl (by simp[Qc])
theorem QrG (h:Qd) (a:Int) (ho:okH h) (hf:Qay h):Gh KW 117 (.loc 0 0::[Q0 [a]].map .iv) (QH h) [0] (.iv (.str (Jo h .zi [a]))) (QH h):=by
 have hc:=ho.1.zc;obtain ⟨⟨h1,h2,h3,h4,h5⟩,h6,h7⟩:=Qt ho;refine Qq Qtb rfl (by simp[QCi]) ?_
 generalize hG:UX 4 (Jo h .zi [a]) h=G;have g1:=Qxv hKW h.zq a h6 h7;have g2:=Qgu (QlI h.zq a) (uE h.zq (Qt2 h.zq a)) (fun _=>Qve h.zq a)
 simp[QCi];refine cK (by simpa using g1) ?_
 simp;refine cK (by simpa using g2) ?_
 simp;rw[<- hG];exact QR rfl rfl (by simp[Qc])
def chB (first:List Int) (rest:List Qx):List (List Int):=(QX rest).map (first++·)
include hK
omit hK
def teT (c:Qs) (i:Nat):List (List Int):=((QX c.za).take i).filter fun e=>decide ((Q6 c.za c.zg (QO e):Int)<=c.zh)
def teL (c:Qs):List (List Int):=(QX c.za).filter fun e=>decide ((Q6 c.za c.zg (QO e):Int)<=c.zh)
theorem QAe {c:Qs} (hc:OkC c):Z3 c [] c.za=teL c:=by
 unfold Z3 teL;rw[show ((QX c.za).map (([]:List Int)++·))=QX c.za by simp]
 refine QMn fun e he=>?_
 obtain ⟨h1,h2⟩:=Zi he
 have hch:QCV c.za e:=⟨h1,fun i hi hi'=>by
  have hm:=Qb9 (h2 i hi hi');obtain ⟨h3,h4⟩:=hm;refine ⟨by simp only[inR];omega,fun h=>by omega⟩⟩
 simp[Qud,hch]
theorem Qqe:∀ {a b:List Int},a.Pairwise (·<·)->b.Pairwise (·<·)->(∀ x,x∈a↔x∈b)->a=b
 | [],[],_,_,_=>rfl
 | [],y::b,_,_,h=>absurd ((h y).2 (by simp)) (by simp)
 | x::a,[],_,_,h=>absurd ((h x).1 (by simp)) (by simp)
 | x::a,y::b,ha,hb,h=>by
   have h1:=List.pairwise_cons.1 ha;have h2:=List.pairwise_cons.1 hb
   have hxy:x=y:=by
    have e1:=(h x).1 (by simp)
    have e2:=(h y).2 (by simp)
    rcases QKV.1 e1 with e1 | e1
    ·exact e1
    rcases QKV.1 e2 with e2 | e2
    ·exact e2.symm
    have:=h1.1 y e2;have:=h2.1 x e1;omega
   subst hxy;rw[Qqe h1.2 h2.2 fun z=>?_]
   have hz:=h z;constructor
   ·intro hm
    rcases QKV.1 (hz.1 (QMa _ hm)) with e | e
    ·subst e;have:=h1.1 z hm;omega
    exact e
   intro hm;rcases QKV.1 (hz.2 (QMa _ hm)) with e | e
   ·subst e;have:=h2.1 z hm;omega
   exact e
def QKx (c:Qs) (n:Int) (e:List Int):Int:=((cab c.za (QO e) c.za.length).getD n.toNat 0:Nat)
def QIv (c:Qs) (n:Int) (e:List Int):Int:=Ur (cab c.za (QO e) c.za.length) n
include hK
omit hK
set_option maxRecDepth 100000
def QuF:=F0 "_W0gdsJgEa]GTjhZrBliiZyx1[ZizBTFA^^u^S_h6iE?UmGZyV9hQ3HPEUUXeh<YwIg1DDpzSWsg4xbJKHMLRLm55^MJP26DM;q:oBn39v:" ⟨_,by conv=>lhs;reduce⟩
def QuE:=F0 "edP^JaRvczq<:y?1Srb1Vx_56uglplWmTM=crRwio2nzucz8mP47pVIyK=an6UoZX6B;xQTSaNwZ;[=YXLU=e1Q;yrSZzw]PYM:Ck:f;mYkAsL1tlA51" ⟨_,by conv=>lhs;reduce⟩
def Qp6:=fk func11 QuF (by kernel_rfl)
def QpW:=fk func29 QuE (by kernel_rfl)
attribute [simp] QuF QuE
def trA (k:Nat) (l:List VW):AV:=if l=[] then .zsl 3 else .yo k l.length
def trO (k:Nat) (l:List VW):Qr:=if l=[] then [] else [(k,.arr 104 3 (emb (l.map trC)) 0)]
def Uw (k:Nat) (p:Qe):List AV:=[.yo k p.zc.za.length,.yo (k+1) p.zc.zg.length,.iv (.int .i64 p.zc.zh),.yo (k+2) p.zb.zd.length,.iv (.int .i64 p.zb.zr),.iv (.int .i64 p.zb.zu),.iv (.int .i64 p.zb.zw),
 .yo (k+3) p.zb.zk.length,.iv (.int .i64 p.zb.zh),trA (k+4) p.zf,.iv (.int .i64 p.zo),.iv (.int .i64 p.z8)]
def Vm (k:Nat) (p:Qe):Qr:=[(k,.arr 139 5 (emb (p.zc.za.map dC)) 0),(k+1,.arr 142 5 (emb (p.zc.zg.map sC)) 0),(k+2,.arr 145 3 (emb (p.zb.zd.map leC)) 0),(k+3,.arr 148 4 (emb (p.zb.zk.map baC)) 0)]++trO (k+4) p.zf
def Qac (k:Nat) (h:Qd):List AV:=Uw k h.ze++[.iv (.int .i64 h.zq.yi),.iv (.int .i64 h.zq.yb),.iv (.int .i64 h.zq.yc),.yo (k+5) h.zq.zi.length,.yo (k+6) h.zq.zj.length,.iv (.int .i64 h.zq.zh)]
def WV (k:Nat) (h:Qd):Qr:=Vm k h.ze++[(k+5,.arr 106 3 (emb (h.zq.zi.map roC)) 0),(k+6,.arr 108 7 (emb (h.zq.zj.map reC)) 0)]
theorem Zd {ids:List Nat} {args0:List AV} {o o1:Qr} (h1:ids.Nodup) (h2:args0.all (clA [])=true) (h3:o1.all (fun q=>decide (q.1<ids.length)&&Zp q.2)=true) (h4:ids.all (fun j=>(Qc o j).isNone)=true):HOk ids args0 o [] o1:=by
 refine ⟨h1,h2,by simp,fun i hi _=>?_,fun q hq=>?_⟩
 ·have hi:=QLi.1 hi
  have:=QLo.1 h4 (nth ids i) (by unfold nth;grind)
  simpa using this
 grind
include hK
theorem Qv8 (c:Qs) (hl:c.za.length<=1000) (hs:c.zg.length<=1000):Gh K 62 [.iv (chV c)] [] [] (.agg [.yo 0 c.za.length,.yo 1 c.zg.length,.iv (.int .i64 c.zh)]) [(0,.arr 139 5 (emb (c.za.map dC)) 0),(1,.arr 142 5 (emb (c.zg.map sC)) 0)]:=by
 refine QW [5,9] [] [] [] QCa.p (by simp[c62]) (by simp) ?_ ?_ ?_ ?_
 ·intro q hq
  simp only[QKV,QK2,or_false] at hq;rcases hq with rfl | rfl<;>exact ⟨by simp,rfl,Xw _ _ _ _ _⟩
 ·simp[clA,clAL]
 ·simp
 generalize hG:Qha c62.res _ _ _ _=G;simp[c62];refine ⟨by omega,by omega,?_⟩
 rw[<- hG];refine ⟨⟨_,rfl,rfl⟩,fun q hq=>?_,by simp⟩
 simp only[QKV,QK2,or_false] at hq;rcases hq with rfl | rfl<;>simp[rnO,nth,qQ,emb,Qc]
theorem Qv7 (m:Machine) (hl:m.zd.length<=1000) (hs:m.zk.length<=1000):Gh K 63 [.iv (maV m)] [] [] (.agg [.yo 0 m.zd.length,.iv (.int .i64 m.zr),.iv (.int .i64 m.zu),.iv (.int .i64 m.zw),.yo 1 m.zk.length,.iv (.int .i64 m.zh)]) [(0,.arr 145 3 (emb (m.zd.map leC)) 0),(1,.arr 148 4 (emb (m.zk.map baC)) 0)]:=by
 refine QW [5,9] [] [] [] QB9.p (by simp[c63]) (by simp) ?_ ?_ ?_ ?_
 ·intro q hq
  simp only[QKV,QK2,or_false] at hq;rcases hq with rfl | rfl<;>exact ⟨by simp,rfl,Xw _ _ _ _ _⟩
 ·simp[clA,clAL]
 ·simp
 generalize hG:Qha c63.res _ _ _ _=G;simp[c63];refine ⟨by omega,by omega,?_⟩
 rw[<- hG];refine ⟨⟨_,rfl,rfl⟩,fun q hq=>?_,by simp⟩
 simp only[QKV,QK2,or_false] at hq;rcases hq with rfl | rfl<;>simp[rnO,nth,qQ,emb,Qc]
theorem Qwa (p:Zj) (hl:p.zi.length<=1000) (hs:p.zj.length<=1000):Gh K 30 [.iv (puV p)] [] [] (.agg [.iv (.int .i64 p.yi),.iv (.int .i64 p.yb),.iv (.int .i64 p.yc),.yo 0 p.zi.length,.yo 1 p.zj.length,.iv (.int .i64 p.zh)]) [(0,.arr 106 3 (emb (p.zi.map roC)) 0),(1,.arr 108 7 (emb (p.zj.map reC)) 0)]:=by
 refine QW [5,9] [] [] [] (fk func30 c30 (by kernel_rfl)).p (by simp[c30]) (by simp) ?_ ?_ ?_ ?_
 ·intro q hq
  simp only[QKV,QK2,or_false] at hq;rcases hq with rfl | rfl<;>exact ⟨by simp,rfl,Xw _ _ _ _ _⟩
 ·simp[clA,clAL]
 ·simp
 generalize hG:Qha c30.res _ _ _ _=G;simp[c30];refine ⟨by omega,by omega,?_⟩
 rw[<- hG];refine ⟨⟨_,rfl,rfl⟩,fun q hq=>?_,by simp⟩
 simp only[QKV,QK2,or_false] at hq;rcases hq with rfl | rfl<;>simp[rnO,nth,qQ,emb,Qc]
theorem Qwb (p:Qe) (hs:Qmw p):Gh K 29 [.iv (prV p)] [] [] (.agg (Uw 0 p)) (Vm 0 p):=by
 obtain ⟨h1,h2,h3,h4,h5⟩:=hs;have g52:=Qv8 hK p.zc h1 h2;have g53:=Qv7 hK p.zb h3 h4;cases ht:p.zf with
 | nil =>
   refine QW [6000,6001,9000,9004,9] [] [] [] QpW.p (by simp[QuE]) (by simp) ?_ ?_ ?_ ?_
   ·intro q hq
    simp only[Vm,trO,ht,if_true,if_false,QK9,QK1,QK5,reduceCtorEq,QKV,QK2,or_false] at hq;rcases hq with rfl | rfl | rfl | rfl<;>exact ⟨by simp,rfl,Xw _ _ _ _ _⟩
   ·simp[Uw,Vm,trA,trO,ht,clA,clAL]
   ·simp
   generalize hG:Qha QuE.res _ _ _ _=G;simp[QuE];refine Qj g52 (by simp[nth,rn]) (Zd (by decide) rfl (by simp[Zp]) (by simp[Qc])) ?_
   simp[nth,rn];refine Qj g53 (by simp[nth,rn]) (Zd (by decide) rfl (by simp[Zp]) (by simp[Qc])) ?_
   simp[nth,rn,ht];rw[<- hG];refine ⟨⟨_,rfl,by simp[Uw,trA,ht,rn,rnL,nth]⟩,fun q hq=>?_,by simp⟩
   simp only[Vm,trO,ht,if_true,if_false,QK9,QK1,QK5,reduceCtorEq,QKV,QK2,or_false] at hq;rcases hq with rfl | rfl | rfl | rfl<;>simp[rnO,nth,qQ,emb,Qc]
 | cons t r =>
   rw[ht] at h5;simp at h5;refine QW [6000,6001,9000,9004,9] [] [] [] QpW.p (by simp[QuE]) (by simp) ?_ ?_ ?_ ?_
   ·intro q hq
    simp only[Vm,trO,ht,if_true,if_false,QK9,QK1,QK5,reduceCtorEq,QKV,QK2,or_false] at hq;rcases hq with rfl | rfl | rfl | rfl | rfl<;>exact ⟨by simp,rfl,Xw _ _ _ _ _⟩
   ·simp[Uw,Vm,trA,trO,ht,clA,clAL]
   ·simp
   generalize hG:Qha QuE.res _ _ _ _=G;simp[QuE];refine Qj g52 (by simp[nth,rn]) (Zd (by decide) rfl (by simp[Zp]) (by simp[Qc])) ?_
   simp[nth,rn];refine Qj g53 (by simp[nth,rn]) (Zd (by decide) rfl (by simp[Zp]) (by simp[Qc])) ?_
   simp[nth,rn,ht];refine ⟨by omega,?_⟩
   rw[<- hG];refine ⟨⟨_,rfl,by simp[Uw,trA,ht,rn,rnL,nth]⟩,fun q hq=>?_,by simp⟩
   simp only[Vm,trO,ht,if_true,if_false,QK9,QK1,QK5,reduceCtorEq,QKV,QK2,or_false] at hq;rcases hq with rfl | rfl | rfl | rfl | rfl<;>simp[rnO,nth,qQ,emb,Qc]
theorem J2 (h:Qd) (hs:QK h):Gh K 11 [.iv (hoV h)] [] [] (.agg (Qac 0 h)) (WV 0 h):=by
 have g24:=Qwb hK h.ze hs.ze;have g25:=Qwa hK h.zq hs.zi hs.zj;have hsr:=hs.zi;have hsx:=hs.zj;cases ht:h.ze.zf with
 | nil =>
   refine QW [6000,6001,6003,6007,6009,9003,9004] [] [] [] Qp6.p (by simp[QuF]) (by simp) ?_ ?_ ?_ ?_
   ·intro q hq
    simp only[WV,Vm,trO,ht,if_true,if_false,QK9,QK1,QK5,reduceCtorEq,QKV,QK2,or_false] at hq;rcases hq with rfl | rfl | rfl | rfl | rfl | rfl<;>exact ⟨by simp,rfl,Xw _ _ _ _ _⟩
   ·simp[Qac,WV,Uw,Vm,trA,trO,ht,clA,clAL]
   ·simp
   generalize hG:Qha QuF.res _ _ _ _=G;simp only[Uw,Vm,trA,trO,ht,if_true,if_false,reduceCtorEq] at g24;simp[QuF];refine Qj g24 (by simp[nth,rn]) (Zd (by decide) rfl (by simp[Zp]) (by simp[Qc])) ?_
   simp[nth,rn,rnL];refine Qj g25 (by simp[nth,rn]) (Zd (by decide) rfl (by simp[Zp]) (by simp[Qc])) ?_
   simp[nth,rn,rnL];rw[<- hG];refine ⟨⟨_,rfl,by simp[Qac,Uw,trA,ht,rn,rnL,nth]⟩,fun q hq=>?_,by simp⟩
   simp only[WV,Vm,trO,ht,if_true,if_false,QK9,QK1,QK5,reduceCtorEq,QKV,QK2,or_false] at hq;rcases hq with rfl | rfl | rfl | rfl | rfl | rfl<;>simp[rnO,nth,qQ,emb,Qc]
 | cons t r =>
   refine QW [6000,6001,6003,6007,6009,9003,9004] [] [] [] Qp6.p (by simp[QuF]) (by simp) ?_ ?_ ?_ ?_
   ·intro q hq
    simp only[WV,Vm,trO,ht,if_true,if_false,QK9,QK1,QK5,reduceCtorEq,QKV,QK2,or_false] at hq;rcases hq with rfl | rfl | rfl | rfl | rfl | rfl | rfl<;>exact ⟨by simp,rfl,Xw _ _ _ _ _⟩
   ·simp[Qac,WV,Uw,Vm,trA,trO,ht,clA,clAL]
   ·simp
   generalize hG:Qha QuF.res _ _ _ _=G;simp only[Uw,Vm,trA,trO,ht,if_true,if_false,reduceCtorEq] at g24;simp[QuF];refine Qj g24 (by simp[nth,rn]) (Zd (by decide) rfl (by simp[Zp]) (by simp[Qc])) ?_
   simp[nth,rn,rnL];refine Qj g25 (by simp[nth,rn]) (Zd (by decide) rfl (by simp[Zp]) (by simp[Qc])) ?_
   simp[nth,rn,rnL];rw[<- hG];refine ⟨⟨_,rfl,by simp[Qac,Uw,trA,ht,rn,rnL,nth]⟩,fun q hq=>?_,by simp⟩
   simp only[WV,Vm,trO,ht,if_true,if_false,QK9,QK1,QK5,reduceCtorEq,QKV,QK2,or_false] at hq;rcases hq with rfl | rfl | rfl | rfl | rfl | rfl | rfl<;>simp[rnO,nth,qQ,emb,Qc]
end Go.Pf
