/- The spots of a loss: the links that can have broken. -/
import Derived.Test.YtenlhiebmnojhaaGreatDoorPartFive
import Derived.Test.YtenlhiebmnojhaaGreatDoorPartFour
import Derived.Shelf.SlicesE.Compact
import Derived.Test.YtenlhiebmnojhaaGreatDoorPartThree
import Derived.KernelRfl
set_option linter.all false
namespace Go.Pf
open Go Go.Ev Go.Proofs Go.RowKit Go.Proofs.Tryz
variable {K:World->Prop} (hK:∀ w w',K w->Below w.heap.size w w'->K w')
set_option maxRecDepth 8000
def qz {α:Type} [DecidableEq α]:List (α × Nat)->α->List (α × Nat)
 | [],x=>[(x,1)]
 | p::r,x=>if p.1=x then (x,p.2+1)::r else p::qz r x
def Wp {α:Type} [DecidableEq α]:List (α × Nat)->α->Nat
 | [],_=>0
 | p::r,x=>if p.1=x then p.2 else Wp r x
def Jb {α:Type} (k:α->MK) (l:List (α × Nat)):List (MK × IV):=l.map fun p=>(k p.1,.int .i64 (p.2:Nat))
section
variable {α:Type} [DecidableEq α] {k:α->MK} (hk:∀ x y,k x=k y->x=y)
include hk
theorem Uh (x:α):∀ l,(Qh (k x) (Jb k l)).getD (.int .i64 0)=.int .i64 (Wp l x:Nat)
 | []=>rfl
 | p::r=>by
   by_cases h:p.1=x
   ·simp[Jb,Qh,Wp,h]
   have h2:¬ k p.1=k x:=fun e=>h (hk _ _ e);have:=Uh x r;simp[Jb,Qh,Wp,h,h2] at this |-;exact this
theorem Qbm (x:α):∀ l,zn (k x) (.int .i64 ((Wp l x:Nat)+1)) (Jb k l)=Jb k (qz l x)
 | []=>by simp[Jb,zn,Wp,qz]
 | p::r=>by
   by_cases h:p.1=x
   ·simp[Jb,zn,Wp,qz,h]
   have h2:¬ k p.1=k x:=fun e=>h (hk _ _ e);have:=Qbm x r;simp[Jb,zn,Wp,qz,h,h2] at this |-;exact this
end
theorem JZ {α:Type} {k:α->MK} {kk:KK} (hk:∀ x,(k x).kind=kk):∀ l:List (α × Nat),QP kk (Jb k l)
 | []=>trivial
 | _::r=>⟨hk _,JZ hk r⟩
theorem Qmd {α:Type} [DecidableEq α] (x y:α):∀ l,Wp (qz l x) y<=Wp l y+1
 | []=>by simp[qz,Wp];split<;>omega
 | p::r=>by
   unfold qz;split
   ·simp only[Wp];grind
   simp only[Wp];split
   ·omega
   exact Qmd x y r
def Uj {α:Type} [DecidableEq α] (l:List α):List (α × Nat):=l.foldl qz []
theorem YB {α:Type} [DecidableEq α] (l:List α) (x:α):Uj (l++[x])=qz (Uj l) x:=by simp[Uj]
theorem QjI {α:Type} [DecidableEq α] (y:α):∀ l:List α,Wp (Uj l) y<=l.length:=by
 refine ZQ (by simp[Uj,Wp]) fun l x ih=>?_;rw[YB];have:=Qmd x y (Uj l);simp;omega
theorem Ql5 {α:Type} [DecidableEq α] (x y:α):∀ l,y∈(qz l x).map (·.1)↔y∈l.map (·.1)\/y=x
 | []=>by simp[qz]
 | p::r=>by
   unfold qz;split
   ·grind
   have:=Ql5 x y r;grind
theorem Qmz {α:Type} [DecidableEq α] (y:α):∀ l:List α,y∈(Uj l).map (·.1)↔y∈l:=by
 refine ZQ (by simp[Uj]) fun l x ih=>?_;rw[YB,Ql5,ih];simp
structure Yj where
 link:Int
 pos:Int
 z1:Int
 pv:Bool
 deriving DecidableEq
def spK (s:Yj):MK:=.agg [.int .i64 s.link,.int .i64 s.pos,.int .i64 s.z1,.bool s.pv]
theorem QeR (x y:Yj) (h:spK x=spK y):x=y:=by
 cases x;cases y;simpa[spK] using h
theorem Qlu (x:Yj):(spK x).kind=.agg [some .i64,some .i64,some .i64,none]:=rfl
noncomputable def Jh (c:Qf) (p:Int):Yj:=⟨UT c p 0,p,XC c p 0,decide (0<VE c (UT c p 0) 0)⟩
noncomputable def U9 (l:Zs) (c:Qf) (at_ way:Int):List Yj:=if Ud c l.marks at_ way then [Jh c (at_+way*l.z5)] else []
noncomputable def QaO (l:Zs) (c:Qf) (at_:Int):List Yj:=U9 l c at_ 1++U9 l c at_ (-1)
noncomputable def X0 (l:Zs) (c:Qf) (n:Nat):List Yj:=(List.range n).flatMap fun a=>QaO l c (a:Nat)
noncomputable def Jk (l:Zs) (L:List Qf):List Yj:=L.flatMap fun c=>X0 l c (Ql c.za).toNat
theorem WD (l:Zs) (c:Qf) (a w:Int):(U9 l c a w).length<=1:=by unfold U9;split<;>simp
theorem QdB (l:Zs) (c:Qf) (n:Nat):X0 l c (n+1)=X0 l c n++QaO l c n:=by simp[X0,QLs]
theorem WE (l:Zs) (c:Qf):∀ n,(X0 l c n).length<=n*2
 | 0=>by simp[X0]
 | n+1=>by
   have ih:=WE l c n;have h1:=WD l c n 1;have h2:=WD l c n (-1);rw[QdB];unfold QaO;simp;omega
theorem QdG:∀ ds:List Qv,∀ x∈Ji ds,Z2 x=0
 | [],x,h=>by
   simp[Ji] at h;subst h;rfl
 | d::r,x,h=>by
   have ih:=QdG r;unfold Ji at h;split at h
   ·simp at h;rcases h with ⟨y,hy,rfl⟩ | ⟨y,hy,rfl⟩
    ·have:=ih y hy;simp[Z2,QL0,VP] at this |-;exact this
    have:=ih y hy;simp[Z2,QL0,VP] at this |-;exact this
   rename_i hd;simp at h;obtain ⟨y,hy,rfl⟩:=h;have:=ih y hy;simp[Z2,QL0,hd] at this |-;exact this
theorem UE {c c':Qf} (h:c'∈QL c):QrU c':=by
 unfold QL at h;obtain ⟨h1,h2⟩:=QK9.1 h;obtain ⟨ds,hds,rfl⟩:=QKT.1 h1;have h2:=of_decide_eq_true h2;have h3:=QdG _ _ hds;unfold Xu at h2;exact ⟨by grind,h3,by grind⟩
theorem Qgs:∀ ds:List Qv,(Ji ds).length<=2 ^ ds.length
 | []=>by simp[Ji]
 | d::r=>by
   have ih:=Qgs r;unfold Ji;split<;>simp[Nat.pow_succ]<;>omega
theorem Qd2 (c:Qf) (h:c.za.length<=12):(QL c).length<=4096:=by
 have h1:=Qgs c.za;have h2:=Va h;unfold QL;refine QLv (QK5 _ _) ?_;simp;omega
theorem Qw2 (x:Int):loD [x]=x:=by simp[loD,JO]
theorem Qxg (x:Int):hiD [x]=x:=by simp[hiD,JO]
include hK
theorem QvB (c:Qf) (hc:QrU c) (link:Int) (hp:inR link 0 ((Qbv c.za:Int)-1)):Gd K 233 [chV c,.int .i64 link] (.xd [.agg [.int .i64 (VE c link 0),.int .i64 (VE c link 0)],.int .i64 0]):=by
 have h:=Qys hK c link (by have:=hc.ok.len;omega) (by have:=hc.ok.slen;omega);rw[hc.ask hp,hc.right0] at h;simpa[Qw2,Qxg] using h
theorem QBj (c:Qf) (hc:QrU c):Gd K 169 [chV c] (.xd [.int .i64 (Ql c.za),.int .i64 0]):=by
 have h:=qU hK c (by have:=hc.ok.len;omega) (by have:=hc.ok.slen;omega);simpa[hc.ok] using h
omit hK
theorem Qp1 {c:Qf} {l:Zs} {a w:Int} (h:Ud c l.marks a w) (hb:inR l.z5 0 ((l.marks.length:Int)-1)):inR (a+w*l.z5) 0 (Ql c.za-1):=by
 simp only[inR] at hb;have h1:=h l.z5.toNat (by omega);have e:((l.z5.toNat:Nat):Int)=l.z5:=by omega
 rw[e] at h1;unfold Qnj at h1;grind
theorem Qvf {c:Qf} (hc:OkC c) {p:Int} (hp:inR p 0 (Ql c.za-1)):inR (UT c p 0) 0 ((Qbv c.za:Int)-1):=by
 simp only[inR] at hp;have h1:=ZI (Q1 c.za 0) hc.za c.za.length (QKJ _) (QKJ _);have h2:p.toNat<(cab c.za (Q1 c.za 0) c.za.length).length:=by unfold Ql at hp;omega
 have h3:=Qbp (Q1 c.za 0) p.toNat h2;have h4:(Xe c.za).length=Qbv c.za:=rfl;unfold UT;rw[List.getD_eq_getElem?_getD,QKF h2];simp only[inR,QLB];omega
noncomputable def Yt (l:Zs) (c:Qf) (a:Int):Nat->List Yj
 | 0=>[]
 | 1=>U9 l c a 1
 | _=>QaO l c a
include hK
theorem Qy4 (l:Zs) (hl:OkL l):Gd K 143 [lsV l] (.map (Jb spK (Uj (Jk l (QL l.zc))))):=by
 refine Qb hK (fk func143 QJq (by kernel_rfl)) (by simp) ?_;have h12:=hl.zc.len;have h8:=hl.zc.slen;have hkl:=Qd2 l.zc h12;have hm8:=hl.mlen;have hbr:=hl.z5;simp only[inR] at hm8;have hbr':=hbr;simp only[inR] at hbr';simp;refine cK (by simpa using Qyu hK l.zc) ?_;simp;refine QS (wy:=.fall) (o':=[(3,.box [.yk 14]),(14,.xg (Jb spK (Uj (Jk l (QL l.zc)))))]) rfl (by kernel_rfl) (Qw9 hK l.zc (by omega) (by omega)) ?_ ?_
 ·have:=VI.all (P:=prog) (K:=K) (ps:=[18]) (asn:=QfY) (body:=Qk5) (ks:=[1,3]) (ids:=[3,14]) (eK:=[(1,.iv (.ptr (lsC l))),(3,.loc 3 0)]) ((QL l.zc).map UP)
   (fun i=>[(3,.box [.yk 14]),(14,.xg (Jb spK (Uj (Jk l ((QL l.zc).take i)))))]) fun i x hi=>by
   simp only[QKN,QKK] at hi;obtain ⟨c,hc,rfl⟩:=hi;have xa:=(QKG.1 hc).1;have hci:(QL l.zc)[i]=c:=(QKG.1 hc).2;have hs1:=UE (QKW hc);have hsp:Jk l ((QL l.zc).take (i+1))=Jk l ((QL l.zc).take i)++X0 l c (Ql c.za).toNat:=by
    rw[QKH xa,hci];simp[Jk]
   have hPl:(Jk l ((QL l.zc).take i)).length<=i*24:=by
    have h1:=ZZ (fun c=>X0 l c (Ql c.za).toNat) 24 ((QL l.zc).take i) (fun c' hc'=>by
     have h2:=UE (QLw hc');have h3:=h2.ok.za.cnt c'.za.length (QKJ _) (QKJ _);have h4:=WE l c' (Ql c'.za).toNat;have h5:=h2.ok.len;unfold Ql at *;omega)
    unfold Jk;simp at h1 |-;omega
   rw[hsp];generalize Jk l ((QL l.zc).take i)=P at *;have hlb:=hs1.ok.za.cnt c.za.length (QKJ _) (QKJ _);have hc12:=hs1.ok.len;have hlb':0<=Ql c.za/\Ql c.za<=12:=by unfold Ql;omega
   refine ⟨rfl,?_⟩;simp[UP,QfY,Qk5];refine cK (by simpa using QBj hK c hs1) ?_;simp;have e0:AO.xg (Jb spK (Uj P))=.xg (Jb spK (Uj (P++X0 l c 0))):=by simp[X0]
   rw[e0]
   refine Qi (fun a=>[(1,AV.iv (.ptr (lsC l))),(3,AV.loc 3 0),(4,AV.loc 4 0),(24,AV.iv (.int .i64 (Ql c.za))),(25,AV.iv (IV.int IntKind.i64 (a:Nat)))])
    (fun a=>[(3,.box [.yk 14]),(4,.box [.iv (Qz c.za),.iv (Qu c.zg),.iv (.int .i64 c.zh)]),(14,.xg (Jb spK (Uj (P++X0 l c a))))]) (Ql c.za).toNat (fun _=>True) trivial ?_ ?_
   ·intro _;have e1:(((Ql c.za).toNat:Nat):Int)=Ql c.za:=by omega
    rw[Qa Qk6.eq_1];simp[e1]
   intro a ha _ ih;have ha':(a:Int)<Ql c.za:=by omega
   have hal:=WE l c a;rw[QdB] at ih;rw[Qa Qk6.eq_1];simp[ha'];have e1:AO.xg (Jb spK (Uj (P++X0 l c a)))=.xg (Jb spK (Uj (P++X0 l c a++Yt l c a 0))):=by simp[Yt]
   rw[e1]
   refine Qi (fun k=>[(1,AV.iv (.ptr (lsC l))),(3,AV.loc 3 0),(4,AV.loc 4 0),(7,AV.iv (IV.int IntKind.i64 (a:Nat))),(24,AV.iv (.int .i64 (Ql c.za))),(25,AV.iv (IV.int IntKind.i64 (a:Nat))),(28,AV.iv (.agg [.int .i64 1,.int .i64 (-1)])),(29,AV.iv (IV.int IntKind.i64 (k:Nat)))])
    (fun k=>[(3,.box [.yk 14]),(4,.box [.iv (Qz c.za),.iv (Qu c.zg),.iv (.int .i64 c.zh)]),(14,.xg (Jb spK (Uj (P++X0 l c a++Yt l c a k))))]) 2 (fun _=>True) trivial ?_ ?_
   ·intro _;rw[Qa Qk7.eq_1];simp[Yt] at ih |-;exact ⟨by omega,ih⟩
   intro k hk _ ih2;rw[Qa Qk7.eq_1];have hk2:k=0\/k=1:=by omega
   rcases hk2 with rfl | rfl
   ·simp only[QKY,Nat.reduceAdd] at ih2;by_cases hf:Ud c l.marks a (1);rotate_left
    ·have hWk:Yt l c a 1=Yt l c a 0:=by simp[Yt,QaO,U9,hf]
     rw[hWk] at ih2;generalize Uj (P++X0 l c a++Yt l c a 0)=kv at *;simp at ih2 |-;refine cK (by simpa using Qfn hK c l a (1) hs1 (by omega) (by omega) (.inl rfl)) ?_;simp[hf];exact ih2
    have hp:inR ((a:Int)+l.z5) 0 (Ql c.za-1):=by simpa using Qp1 hf hbr
    have hw:=Qvf hs1.ok hp;have hWk:Yt l c a 1=Yt l c a 0++[Jh c ((a:Int)+l.z5)]:=by simp[Yt,QaO,U9,hf]
    have hle:=QjI (Jh c ((a:Int)+l.z5)) (P++X0 l c a++Yt l c a 0);have hkl2:(P++X0 l c a++Yt l c a 0).length<=200000:=by
     have:=WD l c a 1;simp[Yt];omega
    rw[hWk,<- QK8,YB] at ih2;generalize Uj (P++X0 l c a++Yt l c a 0)=kv at *;have q1:(Qh (MK.agg [.int .i64 (UT c ((a:Int)+l.z5) 0),.int .i64 ((a:Int)+l.z5),.int .i64 (XC c ((a:Int)+l.z5) 0),.bool (decide (0<VE c (UT c ((a:Int)+l.z5) 0) 0))]) (Jb spK kv)).getD (.int .i64 0)=.int .i64 (Wp kv (Jh c ((a:Int)+l.z5)):Nat):=Uh QeR (Jh c ((a:Int)+l.z5)) kv;have q2:zn (MK.agg [.int .i64 (UT c ((a:Int)+l.z5) 0),.int .i64 ((a:Int)+l.z5),.int .i64 (XC c ((a:Int)+l.z5) 0),.bool (decide (0<VE c (UT c ((a:Int)+l.z5) 0) 0))]) (.int .i64 ((Wp kv (Jh c ((a:Int)+l.z5)):Nat)+1)) (Jb spK kv)=Jb spK (qz kv (Jh c ((a:Int)+l.z5))):=Qbm QeR (Jh c ((a:Int)+l.z5)) kv;have q3:QP (.agg [some .i64,some .i64,some .i64,none]) (Jb spK kv):=JZ Qlu kv;generalize Jh c ((a:Int)+l.z5)=sp at *;simp at ih2 |-;refine cK (by simpa using Qfn hK c l a (1) hs1 (by omega) (by omega) (.inl rfl)) ?_;simp[hf]
    (repeat' first|omega|with_reducible apply And.intro|intro)
    refine cK (by simpa using QvC hK c hs1 _ hp) ?_;simp;refine cK (by simpa using Qce hK (UT c ((a:Int)+l.z5) 0) 0) ?_;simp;refine cK (by simpa using QvB hK c hs1 _ hw) ?_;simp;refine cK (by simpa using QoC hK c hs1 _ hp) ?_;simp;refine cK (by simpa using Qce hK (XC c ((a:Int)+l.z5) 0) 0) ?_;simp[Qhj,QBs,KC.kind,q1,q3,WT,Qfb,q2];exact ⟨by omega,by simpa using ih2⟩
   simp only[QKY,Nat.reduceAdd] at ih2;by_cases hf:Ud c l.marks a (-1);rotate_left
   ·have hWk:Yt l c a 2=Yt l c a 1:=by simp[Yt,QaO,U9,hf]
    rw[hWk] at ih2;generalize Uj (P++X0 l c a++Yt l c a 1)=kv at *;simp at ih2 |-;refine cK (by simpa using Qfn hK c l a (-1) hs1 (by omega) (by omega) (.inr rfl)) ?_;simp[hf];exact ih2
   have hp:inR ((a:Int) + -l.z5) 0 (Ql c.za-1):=by simpa using Qp1 hf hbr
   have hw:=Qvf hs1.ok hp;have hWk:Yt l c a 2=Yt l c a 1++[Jh c ((a:Int) + -l.z5)]:=by simp[Yt,QaO,U9,hf]
   have hle:=QjI (Jh c ((a:Int) + -l.z5)) (P++X0 l c a++Yt l c a 1);have hkl2:(P++X0 l c a++Yt l c a 1).length<=200000:=by
    have:=WD l c a 1;simp[Yt];omega
   rw[hWk,<- QK8,YB] at ih2;generalize Uj (P++X0 l c a++Yt l c a 1)=kv at *;have q1:(Qh (MK.agg [.int .i64 (UT c ((a:Int) + -l.z5) 0),.int .i64 ((a:Int) + -l.z5),.int .i64 (XC c ((a:Int) + -l.z5) 0),.bool (decide (0<VE c (UT c ((a:Int) + -l.z5) 0) 0))]) (Jb spK kv)).getD (.int .i64 0)=.int .i64 (Wp kv (Jh c ((a:Int) + -l.z5)):Nat):=Uh QeR (Jh c ((a:Int) + -l.z5)) kv;have q2:zn (MK.agg [.int .i64 (UT c ((a:Int) + -l.z5) 0),.int .i64 ((a:Int) + -l.z5),.int .i64 (XC c ((a:Int) + -l.z5) 0),.bool (decide (0<VE c (UT c ((a:Int) + -l.z5) 0) 0))]) (.int .i64 ((Wp kv (Jh c ((a:Int) + -l.z5)):Nat)+1)) (Jb spK kv)=Jb spK (qz kv (Jh c ((a:Int) + -l.z5))):=Qbm QeR (Jh c ((a:Int) + -l.z5)) kv;have q3:QP (.agg [some .i64,some .i64,some .i64,none]) (Jb spK kv):=JZ Qlu kv;generalize Jh c ((a:Int) + -l.z5)=sp at *;simp at ih2 |-;refine cK (by simpa using Qfn hK c l a (-1) hs1 (by omega) (by omega) (.inr rfl)) ?_;simp[hf]
   (repeat' first|omega|with_reducible apply And.intro|intro)
   refine cK (by simpa using QvC hK c hs1 _ hp) ?_;simp;refine cK (by simpa using Qce hK (UT c ((a:Int) + -l.z5) 0) 0) ?_;simp;refine cK (by simpa using QvB hK c hs1 _ hw) ?_;simp;refine cK (by simpa using QoC hK c hs1 _ hp) ?_;simp;refine cK (by simpa using Qce hK (XC c ((a:Int) + -l.z5) 0) 0) ?_;simp[Qhj,QBs,KC.kind,q1,q3,WT,Qfb,q2];exact ⟨by omega,by simpa using ih2⟩
  simpa[Jk,Uj,Jb,QKM] using this
 simp
end Go.Pf
namespace Go.Proofs
open Go.Proofs.Tryz
open Go.Shelf
def Tryz.clone318_ren:Go.Shelf.Ren:=⟨fun | 41=>318 | n=>n,fun | 22=>26 | 23=>28 | 4=>4 | n=>n,fun | n=>n⟩
theorem Tryz.clone318:Go.Proofs.SlLaysE0.n41 prog Tryz.clone318_ren:={
 mixed:=by kernel_rfl
 f41:=⟨Tryz.f318.name,by decide,func318.trans (congrArg some (by kernel_rfl))⟩
 t4:=underlying4
 a4:=isAgg4
 z4:=sizeOf4
 v4:=zeroValue4
 t22:=underlying26
 a22:=isAgg26
 z22:=sizeOf26
 v22:=zeroValue26 }
end Go.Proofs
namespace Go.Pf
open Go Go.Ev Go.Proofs Go.RowKit Go.Proofs.Tryz
variable {K:World->Prop} (hK:∀ w w',K w->Below w.heap.size w w'->K w')
set_option maxRecDepth 8000
noncomputable def QEb:TypeInfo:=(prog.info? 28).get (by kernel_rfl)
def Qiw (c:Sea) (i:Nat) (n:Int):Sea:={ c with waters:=c.waters.set i (n,n) }
def qy (c:Sea) (n:Int):Sea:={ c with yh:=n,yi:=n }
def UU (lo hi:Int):List Int:=(List.range (hi+1-lo).toNat).map fun k=>lo+(k:Nat)
def QAL (c:Sea):Int:=loD ((wTr c).map fun w=>Xc c w c.voys.length)
def QBA (c:Sea):Int:=loD ((wTr c).map fun w=>Y8 c (Xc c w c.voys.length))
noncomputable def Qfh (l:Zs) (c:Sea) (n:Int):List Int:=if tW (qy c n) true=0/\¬ (0<=l.pth/\QAL (qy c n)≠l.pth) then [QBA (qy c n)] else []
noncomputable def VF (l:Zs):Nat->Sea->Nat->List Int
 | 0,c,_=>(UU c.yh c.yi).flatMap (Qfh l c)
 | k+1,c,w=>(UU (c.waters.getD w (0,0)).1 (c.waters.getD w (0,0)).2).flatMap fun n=>VF l k (Qiw c w n) (w+1)
@[reducible] def VQ (l:Zs) (P:List Int):Qm:=[(0,.box [.clo 317 [] [.loc 0 0,.iv (.ptr (lsC l)),.loc 1 0]]),(1,.box [.yk 2]),(2,.xg (J6 (ZH P)))]
theorem XU {P:Program} {K:World->Prop} {F:Ev.Way->Env->Qm->Prop} {c:AC} {ks ids:List Nat} {k:List AI} {e0:Env} {o0:Qm} (st:Nat->Env) (so:Nat->Qm) (n:Nat) (Q:Nat->Prop) (h0:Q 0)
  (hn:Q n->Xa P K F c ks ids k (st n) (so n))
  (hs:∀ i,i<n->Q i->(Q (i+1)->Xa P K F c ks ids k (st (i+1)) (so (i+1)))->Xa P K F c ks ids k (st i) (so i)) (he:e0=st 0) (ho:o0=so 0):Xa P K F c ks ids k e0 o0:=by
 subst he ho;exact Qi st so n Q h0 hn hs
section
theorem clone318 (l:List (Int × Int)) (hl:l.length<=1000) (hne:l≠[]):Gp K 318 [ZV l] (.yl 0 l.length) 28 2 (l.map spC) 0:=by
 have h:=Vv (P:=prog) (K:=K) (f:=318) (e:=28) (sz:=2) (bytes:=16) (AnyE.slices_Clone Tryz.clone318 QEb (.agg #[.int .i64 0,.int .i64 0]) 2 16 (by kernel_rfl) (by kernel_rfl) (by kernel_rfl) (by kernel_rfl) rfl (by decide) sizeOf28) (l.map spC) (by simp;omega) (fun c hc=>by obtain ⟨x,_,rfl⟩:=QKT.1 hc;rfl) (by simpa using hne);simpa using h
theorem Quq:Zv prog 317 Qz7 [2,4]:=⟨_,func317,by kernel_rfl⟩
theorem Qbb (l:Zs) (P:List Int):∀ q∈VQ l P,q.1<3/\XR q.2=true/\clO ((VQ l P).map (·.1)) q.2=true:=by
 intro q hq;simp only[QKU,QK1,or_false] at hq;rcases hq with rfl | rfl | rfl
 ·exact ⟨by omega,rfl,by simp[clO,clAL,clA]⟩
 ·exact ⟨by omega,rfl,by simp[clO,clAL,clA]⟩
 exact ⟨by omega,rfl,by simp[clO]⟩
def QD5 (l:Zs) (Q:List Int):Env->Qm->Prop:=Qic [] [0,1,2] [(2,0,0),(4,1,0)] (.iv (.xd [])) (VQ l Q)
theorem Qqo {l:Zs} {Q:List Int} {e:Env} {o:Qm} (h1:Ev.look e 2=.loc 0 0) (h2:Ev.look e 4=.loc 1 0) (h3:∀ q∈VQ l Q,Qc o q.1=some q.2):QD5 l Q e o:=by
 refine ⟨⟨.iv (.xd []),rfl,rfl⟩,fun q hq=>?_,fun q hq=>?_⟩
 ·have h4:=h3 q hq;simp only[VQ,QKU,QK1,or_false] at hq;rcases hq with rfl | rfl | rfl
  ·exact h4
  ·exact h4
  exact h4
 grind
theorem Qed (l:Zs) (c:Sea) (w:Nat) (P Q:List Int) (h:WpF prog K (FnF (QD5 l Q)) [.code Qz7.code] (Yi 0 [.iv (Qix c),.iv (.int .i64 w),.loc 0 0,.iv (.ptr (lsC l)),.loc 1 0]) (VQ l P)) :
  Gh K 317 [.iv (Qix c),.iv (.int .i64 w),.loc 0 0,.iv (.ptr (lsC l)),.loc 1 0] (VQ l P) [0,1] (.iv (.xd [])) (VQ l Q):=by
 refine Zp [0,1,2] [0,1] [2,4] [(2,0,0),(4,1,0)] Quq (by simp[Qz7]) (by decide) (Qbb l _) (by simp[clA]) (fun i hi=>?_) h;have:i=0\/i=1:=by simpa using hi
 rcases this with rfl | rfl
 ·exact ⟨rfl,⟨_,rfl⟩,⟨_,rfl⟩,2,0,by simp,by simp,by simp⟩
 exact ⟨rfl,⟨_,rfl⟩,⟨_,rfl⟩,4,0,by simp,by simp,by simp⟩
theorem Uv (lo hi:Int):(UU lo hi).length=(hi+1-lo).toNat:=by simp[UU]
theorem QeX (lo hi:Int) (i:Nat) (h:i<(UU lo hi).length):(UU lo hi)[i]=lo+(i:Nat):=by simp[UU]
theorem QbJ {α:Type} (f:Int->List α) (l:List Int) (i:Nat) (h:i<l.length):(l.take (i+1)).flatMap f=(l.take i).flatMap f++f l[i]:=by
 rw[QKH h,QMs];simp
theorem Qam {α:Type} (f:Int->List α) (l:List Int) (i:Nat):((l.take i).flatMap f).length<=(l.flatMap f).length:=by
 conv=>rhs;rw[<- List.take_append_drop i l]
 rw[QMs,QKP];omega
theorem QF7 (l:Zs) (R R2:List Int) {args0:List AV} (o:Qm) {ids:List Nat} (hnd:ids.Nodup) (hl:ids.length=3) (ha:args0.all (clA [0,1,2])=true) (h0:Qc o (nth ids 0)=some (.box [.clo 317 [] [.loc (nth ids 0) 0,.iv (.ptr (lsC l)),.loc (nth ids 1) 0]])) (h1:Qc o (nth ids 1)=some (.box [.yk (nth ids 2)])) (h2:Qc o (nth ids 2)=some (.xg (J6 (ZH R)))) :
  HOk ids args0 o (VQ l R) (VQ l R2):=by
 refine ⟨hnd,ha,fun q hq=>?_,fun i hi h=>?_,fun q hq=>⟨by rw[hl];exact (Qbb l R2 q hq).1,(Qbb l R2 q hq).2.1⟩⟩
 ·have h3:=Qbb l R q hq;refine ⟨by rw[hl];exact h3.1,?_,h3.2.2,h3.2.1⟩;simp only[VQ,QKU,QK1,or_false] at hq;rcases hq with rfl | rfl | rfl
  ·exact h0
  ·exact h1
  exact h2
 simp[hl] at hi;have:i=0\/i=1\/i=2:=by omega
 rcases this with rfl | rfl | rfl<;>simp[Qc] at h
theorem QlO {c:Sea} (hc:Qx c) {w:Nat} (hw:w<c.waters.length) {n:Int} (h0:c.waters[w].1<=n) (h1:n<=c.waters[w].2):Qx (Qiw c w n):=by
 have h2:=ZW (hc.waters _ (QKL hw));refine ⟨hc.thick,hc.str,hc.zh,by simpa[Qiw] using hc.nw,hc.z7,fun s hs=>?_,hc.nv,by simpa[Qiw] using hc.voys,hc.ng,hc.gauges⟩;rcases QMq hs with h | h
 ·exact hc.waters s h
 subst h;simp[Zq,inR];omega
theorem QjJ {f:Int->List Int} {m:Nat}:∀ l:List Int,(∀ x∈l,(f x).length<=m)->(l.flatMap f).length<=l.length*m
 | [],_=>by simp
 | a::r,h=>by
   have h1:=QjJ r fun x hx=>h x (by simp[hx]);have h2:=h a (by simp);rw[QLx,QKP,QKV,QLl];omega
theorem WL {lo hi n:Int} (h:n∈UU lo hi):lo<=n/\n<=hi:=by
 simp only[UU,QKT,QLa] at h;obtain ⟨k,hk,rfl⟩:=h;omega
theorem QmB (l:Zs):∀ (k:Nat) (c:Sea) (w:Nat),w+k=c.waters.length->Qx c->(VF l k c w).length<=10*10 ^ k
 | 0,c,w,_,hc=>by
   have h1:=ZW hc.z7;have h2:=QjJ (f:=Qfh l c) (m:=1) (UU c.yh c.yi) fun x _=>by unfold Qfh;split<;>simp
   rw[Uv] at h2;simp only[VF];simp at h1;omega
 | k+1,c,w,hw,hc=>by
   have hw':w<c.waters.length:=by omega
   have hge:c.waters.getD w (0,0)=c.waters[w]:=by simp[hw']
   have h1:=ZW (hc.waters _ (QKL hw'));have h2:=QjJ (f:=fun n=>VF l k (Qiw c w n) (w+1)) (m:=10*10 ^ k) (UU c.waters[w].1 c.waters[w].2) fun x hx=>by
    have h3:=WL hx;exact QmB l k _ _ (by simp[Qiw];omega) (QlO hc hw' h3.1 h3.2)
   rw[Uv] at h2;simp only[VF];rw[hge];have h4:(c.waters[w].2+1-c.waters[w].1).toNat<=10:=by omega
   have h5:=QLc (10*10 ^ k) h4;rw[Nat.pow_succ];omega
noncomputable def UN (l:Zs):List Int:=VF l l.sea.waters.length l.sea 0
theorem Qly {l:Zs} (hc:Qx l.sea):(UN l).length<=100000:=by
 have h1:=QmB l l.sea.waters.length l.sea 0 (by omega) hc;have h2:=QLS (show 0<10 by omega) hc.nw;unfold UN;omega
include hK
theorem QsN (l:Zs):∀ (k:Nat) (c:Sea) (w:Nat) (P:List Int),w+k=c.waters.length->Qx c->P.length+(VF l k c w).length<=1000000 ->
  Gh K 317 [.iv (Qix c),.iv (.int .i64 w),.loc 0 0,.iv (.ptr (lsC l)),.loc 1 0] (VQ l P) [0,1] (.iv (.xd [])) (VQ l (P++VF l k c w)):=by
 intro k;induction k with
 | zero =>
   intro c w P hw hc hle;refine Qed l c w P _ ?_;generalize hG:QD5 l _=G;have hw':c.waters.length=w:=by omega
   have hnw:=hc.nw;have hwr:=ZW hc.z7;have hlen:=Uv c.yh c.yi;simp only[VF] at hG hle;simp[Qz7,hw']
   (repeat' first|omega|with_reducible apply And.intro|intro)
   refine XU (fun i=>[(2,.loc 0 0),(3,.iv (.ptr (lsC l))),(4,.loc 1 0),(5,.iv (.ptr (VH c))),(9,.iv (.int .i64 (c.yh+(i:Nat))))]) (fun i=>VQ l (P++((UU c.yh c.yi).take i).flatMap (Qfh l c))) (UU c.yh c.yi).length (fun _=>True) trivial ?_ ?_ (by simp) (by simp)
   ·intro _;rw[Qa Qko.eq_1];have h1:¬ c.yh+((UU c.yh c.yi).length:Int)<=c.yi:=by omega
    simp[h1];rw[<- hG];exact Qqo rfl rfl (by simp[Qc])
   intro i hi _ ih;rw[Qa Qko.eq_1];have h1:c.yh+(i:Int)<=c.yi:=by omega
   rw[QbJ _ _ _ hi,QeX] at ih;have hg1:=QxR hK (qy c (c.yh+i)) c.voys.length (by simp[qy]);have hg2:=QpG hK (qy c (c.yh+i)) c.voys.length (by simp[qy]);have hnv:=hc.nv;have hdef:Qfh l c (c.yh+(i:Int))=if tW (qy c (c.yh+(i:Int))) true=0/\¬ (0<=l.pth/\QAL (qy c (c.yh+(i:Int)))≠l.pth) then [QBA (qy c (c.yh+(i:Int)))] else []:=rfl
   have hle2:=Qam (Qfh l c) (UU c.yh c.yi) i;rw[hdef] at ih;have e1:(loD ((wTr (qy c (c.yh+(i:Int)))).map fun w=>Xc (qy c (c.yh+(i:Int))) w c.voys.length))=QAL (qy c (c.yh+(i:Int))):=rfl;have e2:(loD ((wTr (qy c (c.yh+(i:Int)))).map fun w=>Y8 (qy c (c.yh+(i:Int))) (Xc (qy c (c.yh+(i:Int))) w c.voys.length)))=QBA (qy c (c.yh+(i:Int))):=rfl;rw[e1] at hg1;rw[e2] at hg2;clear hdef e1 e2;generalize QAL (qy c (c.yh+(i:Int)))=th at *;generalize QBA (qy c (c.yh+(i:Int)))=ho at *;generalize tW (qy c (c.yh+(i:Int))) true=tt at *;have e3:c.yh+((i+1:Nat):Int)=c.yh+i+1:=by omega
   rw[e3] at ih;generalize hR:P++List.flatMap (Qfh l c) (List.take i (UU c.yh c.yi))=R at *;have hRl:R.length<=1000000:=by rw[<- hR,QKP];omega
   rw[<- QK8,hR] at ih;have hgl:=qY ho R;have hkk:=XG (ZH R);have hf:=YA ho (ZH R);have hin:=Vs ho (ZH R);simp[h1]
   (repeat' first|omega|with_reducible apply And.intro|intro)
   refine cK (by simpa[qy] using hg1) ?_;by_cases h2:tt=0;rotate_left
   ·simp[h2] at ih |-
    exact ⟨by omega,ih⟩
   by_cases h3:0<=l.pth
   ·by_cases h4:th=l.pth
    ·simp[h2,h4] at ih |-
     simp only[VQ] at ih;rw[ZK] at ih;generalize ZH R=kv at *;simp[h3]
     (repeat' first|omega|with_reducible apply And.intro|intro)
     refine cK (by simpa[qy,h2] using hg2) ?_;simp[hkk,hf,hin];exact ⟨by omega,by omega,ih⟩
    simp[h2,h3,h4] at ih |-;exact ⟨by omega,ih⟩
   simp[h2,h3] at ih |-;simp only[VQ] at ih;rw[ZK] at ih;generalize ZH R=kv at *
   (repeat' first|omega|with_reducible apply And.intro|intro)
   refine cK (by simpa[qy,h2] using hg2) ?_;simp[hkk,hf,hin];exact ⟨by omega,by omega,ih⟩
 | succ k ih =>
   intro c w P hw hc hle;refine Qed l c w P _ ?_;have hw':w<c.waters.length:=by omega
   generalize hG:QD5 l _=G;have hsp:=ZW (hc.waters _ (QKL hw'));have hge:c.waters.getD w (0,0)=c.waters[w]:=by simp[hw']
   simp only[VF] at hG hle;rw[hge] at hG hle;have hlen:=Uv c.waters[w].1 c.waters[w].2;have hne:c.waters≠[]:=List.ne_nil_of_length_pos (by omega);have hgc:=clone318 (K:=K) c.waters (by have:=hc.nw;omega) hne;simp[Qz7,hw']
   (repeat' first|omega|with_reducible apply And.intro|intro)
   refine XU (fun i=>[(1,.iv (.int .i64 w)),(2,.loc 0 0),(4,.loc 1 0),(5,.iv (.ptr (VH c))),(7,.iv (.int .i64 (c.waters[w].1+(i:Nat))))]) (fun i=>VQ l (P++((UU c.waters[w].1 c.waters[w].2).take i).flatMap fun n=>VF l k (Qiw c w n) (w+1))) (UU c.waters[w].1 c.waters[w].2).length (fun _=>True) trivial ?_ ?_ (by simp) (by simp)
   ·intro _;rw[Qa Qkp.eq_1];have h1:¬ c.waters[w].1+((UU c.waters[w].1 c.waters[w].2).length:Int)<=c.waters[w].2:=by omega
    simp[h1,hw'];rw[<- hG];exact Qqo rfl rfl (by simp[Qc])
   intro i hi _ ih2;rw[Qa Qkp.eq_1];have h1:c.waters[w].1+(i:Int)<=c.waters[w].2:=by omega
   have hle2:=Qam (fun n=>VF l k (Qiw c w n) (w+1)) (UU c.waters[w].1 c.waters[w].2) (i+1);rw[QbJ _ _ _ hi,QeX] at ih2 hle2;have e3:c.waters[w].1+((i+1:Nat):Int)=c.waters[w].1+i+1:=by omega
   rw[e3,<- QK8] at ih2;generalize hR:P++List.flatMap (fun n=>VF l k (Qiw c w n) (w+1)) (List.take i (UU c.waters[w].1 c.waters[w].2))=R at *
   have hg:=ih (Qiw c w (c.waters[w].1+i)) (w+1) R (by simp[Qiw];omega) (QlO hc hw' (by omega) h1) (by
    rw[<- hR,QKP];rw[QKP] at hle2;omega)
   have hset:∀ x:Int,(List.map (List.map AV.iv∘spC) c.waters).set w [AV.iv (.int .i64 x),AV.iv (.int .i64 x)]=emb ((c.waters.set w (x,x)).map spC):=fun x=>by
    simp[emb,List.map_set]
   simp[h1,hw']
   (repeat' first|omega|with_reducible apply And.intro|intro)
   refine Z9 hgc (by simp) ?_;simp[hw',hset,QKM];refine ⟨by omega,by kernel_rfl,QH hg (by simp[nth,rn,Qiw,List.map_set]) (QF7 l _ _ _ (by decide) rfl (by simp[clA]) (by simp[Qc,nth]) (by simp[Qc,nth]) (by simp[Qc,nth])) ?_⟩;simp[nth,rn];exact ⟨by omega,ih2 trivial⟩
theorem Qyp (l:Zs) (hc:Qx l.sea):Gd K 238 [lsV l] (.map (J6 (ZH (UN l)))):=by
 refine Qb hK (fk func238 QH6 (by kernel_rfl)) (by simp) ?_;have hle:=Qly hc;have hg:=QsN hK l l.sea.waters.length l.sea 0 [] (by omega) hc (by simpa[UN] using (by omega:(UN l).length<=1000000));have e1:VF l l.sea.waters.length l.sea 0=UN l:=rfl;rw[e1,QLm] at hg;simp;refine ⟨by kernel_rfl,QH hg (by simp[nth,rn]) (QF7 l _ _ _ (by decide) rfl (by simp[clA]) (by simp[Qc,nth]) (by simp[Qc,nth]) (by simp[Qc,nth,ZH,J6])) ?_⟩;simp[nth,rn]
end
structure Evt where
 cause:Int
 flaw:Int
 held:Int
 zq:Int × Int
 rated:Int × Int
 deriving DecidableEq
@[simp] def evC (e:Evt):List IV:=[.int .i64 e.cause,.int .i64 e.flaw,.int .i64 e.held,.int .i64 e.zq.1,.int .i64 e.zq.2,.int .i64 e.rated.1,.int .i64 e.rated.2]
def isE (e:Evt):Bool:=decide (e.zq.1<=e.zq.2)&&decide (e.rated.1<=e.rated.2)
def JK (load flaw:Int):Int:=(load*(100-flaw)).tdiv 100
def ZL (a b:Int × Int):Int × Int:=(max a.1 b.1,min a.2 b.2)
@[reducible] def evO (es:List Evt):Qm:=[(0,.box [.yl 1 es.length]),(1,.arr 321 7 (emb (es.map evC)) 0)]
def QFS (es:List Evt):Env->Qm->Prop:=Qic [] [0,1] [(1,0,0)] (.iv (.xd [])) (evO es)
theorem Qqp {es:List Evt} {e:Env} {o:Qm} (h1:Ev.look e 1=.loc 0 0) (h2:Qc o 0=some (.box [.yl 1 es.length])) (h3:Qc o 1=some (.arr 321 7 (emb (es.map evC)) 0)):QFS es e o:=by
 refine ⟨⟨.iv (.xd []),rfl,rfl⟩,fun q hq=>?_,fun q hq=>?_⟩
 ·simp only[evO,QKU,QK1,or_false] at hq;rcases hq with rfl | rfl
  ·exact h2
  rw[Ya];exact h3
 grind
theorem Qms (es:List Evt):∀ q∈evO es,q.1<2/\XR q.2=true/\clO ((evO es).map (·.1)) q.2=true:=by
 intro q hq;simp only[evO,QKU,QK1,or_false] at hq;rcases hq with rfl | rfl
 ·exact ⟨by omega,rfl,by simp[clO,clAL,clA]⟩
 exact ⟨by show (1:Nat)<2;omega,rfl,Vw _ _ _ _ _⟩
theorem Quv:Zv prog 235 QCI [1]:=⟨_,func235,by kernel_rfl⟩
def QiW (e:Evt):List Evt:=if isE e then [e] else []
def evF (l:Zs) (fr h f:Int):List Evt :=
 QiW ⟨1,f,JK h f,ZL (ZL (l.plo,l.phi) (JK h f+1,99999)) (l.rlo+1,99999),ZL (l.rlo,l.rhi) (0,(ZL (l.plo,l.phi) (JK h f+1,99999)).2-1)⟩ ++
 QiW ⟨2,f,JK h f,ZL (ZL (ZL (l.plo,l.phi) (JK h f+1,99999)) (0,l.rhi)) (0,JK fr f),ZL (l.rlo,l.rhi) ((ZL (ZL (ZL (l.plo,l.phi) (JK h f+1,99999)) (0,l.rhi)) (0,JK fr f)).1,99999)⟩ ++
 QiW ⟨if l.part<f then 3 else 4,f,JK h f,ZL (ZL (ZL (l.plo,l.phi) (JK h f+1,99999)) (0,l.rhi)) (JK fr f+1,99999),ZL (l.rlo,l.rhi) ((ZL (ZL (ZL (l.plo,l.phi) (JK h f+1,99999)) (0,l.rhi)) (JK fr f+1,99999)).1,99999)⟩
def evH (l:Zs) (fr h:Int):List Evt:=(UU l.flo l.fhi).flatMap (evF l fr h)
def QlR (c:Sea):Sea:={ c with gauges:=[] }
noncomputable def ZB (l:Zs):Int:=if tW (QlR l.sea) true=0 then loD ((wTr (QlR l.sea)).map fun w=>Y8 (QlR l.sea) (Xc (QlR l.sea) w 0)) else 0
noncomputable def X2 (l:Zs):List Int:=(ZH (UN l)).map (·.1)
noncomputable def Xi (l:Zs):List Evt:=(X2 l).flatMap (evH l (ZB l))
noncomputable def evS (l:Zs) (seen:List Nat):List Evt:=seen.reverse.flatMap fun i=>evH l (ZB l) ((X2 l).getD i 0)
theorem Qmr (l:Zs) (i:Nat) (seen:List Nat):evS l (i::seen)=evS l seen++evH l (ZB l) ((X2 l).getD i 0):=by simp[evS]
theorem QdS {n:Nat} {seen:List Nat} (h1:seen.Nodup) (h2:∀ i∈seen,i<n) (h3:∀ i,i<n->i∈seen):seen.Perm (List.range n):=by
 rw[List.perm_iff_count];intro a;by_cases ha:a<n
 ·rw[h1.count,(List.nodup_range).count]
  simp[ha,h3 a ha]
 rw[List.count_eq_zero.2 fun h=>ha (h2 a h),List.count_eq_zero.2 fun h=>ha (QLa.1 h)]
theorem Qtz (l:Zs) {seen:List Nat} (h1:seen.Nodup) (h2:∀ i∈seen,i<(X2 l).length) (h3:∀ i,i<(X2 l).length->i∈seen):(evS l seen).Perm (Xi l):=by
 have h4:(X2 l)=(List.range (X2 l).length).map fun i=>(X2 l).getD i 0:=by
  refine List.ext_getElem (by simp) fun i h _=>?_;simp[h]
 have h5:Xi l=(List.range (X2 l).length).flatMap fun i=>evH l (ZB l) ((X2 l).getD i 0):=by
  unfold Xi
  conv=>lhs;rw[h4]
  rw[List.flatMap_map]
 rw[h5];unfold evS;exact ((List.reverse_perm seen).trans (QdS h1 h2 h3)).flatMap_right _
include hK
theorem Qyq (e:Evt):Gd K 236 [.agg (evC e)] (.bool (isE e)):=by
 refine Qb hK (fk func236 QH8 (by kernel_rfl)) (by simp) ?_;unfold isE;by_cases h1:e.zq.1<=e.zq.2<;>simp[h1]
theorem QpF (a f:Int) (ha:0<=a/\a<=100000) (hf:0<=f/\f<=100):Gd K 239 [.int .i64 a,.int .i64 f] (.int .i64 (JK a f)):=by
 refine Qb hK (fk func239 QH5 (by kernel_rfl)) (by simp) ?_;have h1:=QLC (a:=a) (b:=100-f) (by omega) (by omega);have h2:=QLz (a:=a) (b:=100-f) (c:=100000) (d:=100) (by omega) (by omega) (by omega) (by omega);have h3:(a*(100-f)).tdiv 100=a*(100-f) / 100:=QLe h1;simp[JK];omega
theorem Vq (a b:Int × Int):Gd K 240 [.agg (spC a),.agg (spC b)] (.agg (spC (ZL a b))):=by
 refine Qb hK (fk func240 QH4 (by kernel_rfl)) (by simp) ?_;simp only[ZL,Int.max_def,Int.min_def];simp;grind
theorem Qbh (es:List Evt) (e:Evt) (hl:es.length<=100000000):Gh K 235 [.iv (.agg (evC e)),.loc 0 0] (evO es) [0] (.iv (.xd [])) (evO (es++if isE e then [e] else [])):=by
 refine Zp [0,1] [0] [1] [(1,0,0)] Quv (by simp[QCI]) (by decide) (Qms _) (by simp[clA]) (fun i hi=>?_) ?_
 ·have:i=0:=by simpa using hi
  subst this;exact ⟨rfl,⟨_,rfl⟩,⟨_,rfl⟩,1,0,by simp,by simp,by simp⟩
 ·show WpF _ _ (FnF (QFS _)) _ _ _;generalize hG:QFS _=G;have hg:=Qyq hK e;simp[QCI];refine cK (by simpa using hg) ?_;cases hE:isE e
  ·rw[hE] at hG;simp;rw[<- hG];exact Qqp rfl (by simp[Qc]) (by simp[Qc])
  ·rw[hE] at hG;simp;rw[<- hG];exact ⟨by omega,Qqp rfl (by simp[Qc]) (by simp[Qc,emb])⟩
end Go.Pf
namespace Go.Ev
open Go Go.RowKit
variable {P:Program} {K:World->Prop}
def Qv8 (res:List Qdt) (sz:Nat) (es:List (List IV)) (e:Env) (o:Qm):Prop:=∃ es':List (List IV),es'.Perm es/\QnU res (.sl sz es') e o
theorem Qjl {f:FuncId} {A:AFn} {xs:List IV} {sz:Nat} {es:List (List IV)} (hK:∀ w w',K w->Below w.heap.size w w'->K w') (hok:Qr2 P f A) (hlen:xs.length<=A.nt)
  (h:WpF P K (FnF (Qv8 A.res sz es)) [.code A.code] (Jg 0 xs) []):Good P K f xs (.bag sz es):=by
 intro w ok vs hk hnew hvl hvs;refine calls_of_wp hK hok hlen h w ok vs (fun v w'=>QF ok w' (.bag sz es) v/\Below w.heap.size w w') hk hnew hvl hvs (fun fn w1 e o a w' L hres hv hle hr=>?_);obtain ⟨es',hp,hv⟩:=hv;obtain ⟨v,h1,h2⟩:=YZ hr (fun b hb=>hnew b (QLW.1 fun h=>hb (hle.fr b h))) hres hv;exact ⟨v,h1,.bag sz es es' v hp h2,(hle.keeps hr.below).below⟩
theorem Qtc {f:FuncId} {sz:Nat} {es:List (List IV)} {rest:List IV} {r:IV} (h:∀ es',es'.Perm es->Good P K f (.sl sz es'::rest) r):Good P K f (.bag sz es::rest) r:=by
 intro w ok vs hk hnew hl hx;cases vs with
 | nil=>simp at hl
 | cons v vs =>
   have h0:=hx 0 _ v rfl rfl;cases h0 with
   | bag _ _ es' _ hp h1 =>
     exact h es' hp w ok (v::vs) hk hnew (by simpa using hl) fun k x u a b=>by
      cases k with
      | zero =>
        simp at a b;subst a b;exact h1
      | succ k=>exact hx (k+1) x u (by simpa using a) b
end Go.Ev
namespace Go.Pf
open Go Go.Ev Go.Proofs Go.RowKit Go.Proofs.Tryz
variable {K:World->Prop} (hK:∀ w w',K w->Below w.heap.size w w'->K w')
set_option maxRecDepth 8000
theorem QBo {l:List Int} (hne:l≠[]) {m:Int} (h:∀ x∈l,0<=x/\x<=m):0<=loD l/\loD l<=m:=by
 have h1:=QeS hne;have h2:0<(ZE l).length:=QLo.2 h1;have h3:loD l=(ZE l)[0]:=by simp[loD,h2]
 rw[h3];exact h _ ((XL _ l).1 (QKL h2))
theorem QvD {c:Sea} (hc:Qx c) {n:Int} (h0:c.yh<=n) (h1:n<=c.yi):Qx (qy c n):=by
 have h2:=ZW hc.z7;refine ⟨hc.thick,hc.str,hc.zh,hc.nw,?_,hc.waters,hc.nv,hc.voys,hc.ng,hc.gauges⟩;simp at h2;show Zq (n,n)=false;simp[Zq,inR];omega
theorem Qph {c:Sea} (hc:Qx c) (ht:tW c true=0) (k:Nat):0<=loD ((wTr c).map fun w=>Y8 c (Xc c w k))/\loD ((wTr c).map fun w=>Y8 c (Xc c w k))<=24975:=by
 obtain ⟨_,_,hne⟩:=Qwp ht;refine QBo (by simpa using hne) fun x hx=>?_;obtain ⟨w,hw,rfl⟩:=QKT.1 hx;exact QcB hc (VL hc (Qgi hw) k)
theorem QmD (l:Zs):∀ (k:Nat) (c:Sea) (w:Nat),w+k=c.waters.length->Qx c->∀ x∈VF l k c w,0<=x/\x<=24975
 | 0,c,w,_,hc,x,hx=>by
   simp only[VF,QK6] at hx;obtain ⟨n,hn,hx⟩:=hx;have h1:=WL hn;unfold Qfh at hx;split at hx
   ·rename_i h2;have:=Qph (QvD hc h1.1 h1.2) h2.1 (qy c n).voys.length;simp at hx;subst hx;exact this
   simp at hx
 | k+1,c,w,hw,hc,x,hx=>by
   have hw':w<c.waters.length:=by omega
   have hge:c.waters.getD w (0,0)=c.waters[w]:=by simp[hw']
   simp only[VF,QK6] at hx;obtain ⟨n,hn,hx⟩:=hx;rw[hge] at hn;have h1:=WL hn;exact QmD l k _ _ (by simp[Qiw];omega) (QlO hc hw' h1.1 h1.2) x hx
theorem Qsb {l:Zs} (hc:Qx l.sea) {x:Int} (hx:x∈UN l):0<=x/\x<=24975:=QmD l _ _ _ (by omega) hc x hx
theorem QBk {c:Sea} (hc:Qx c):Qx (QlR c):=⟨hc.thick,hc.str,hc.zh,hc.nw,hc.z7,hc.waters,hc.nv,hc.voys,by simp[QlR],by simp[QlR]⟩
theorem QpY {l:Zs} (hc:Qx l.sea):0<=ZB l/\ZB l<=24975:=by
 unfold ZB;split
 ·exact Qph (QBk hc) (by assumption) 0
 omega
theorem Qlp {a f:Int} (ha:0<=a/\a<=100000) (hf:0<=f/\f<=100):0<=JK a f/\JK a f<=100000:=by
 have h1:=QLC (a:=a) (b:=100-f) (by omega) (by omega);have h2:=QLz (a:=a) (b:=100-f) (c:=100000) (d:=100) (by omega) (by omega) (by omega) (by omega);have h3:(a*(100-f)).tdiv 100=a*(100-f) / 100:=QLe h1;unfold JK;omega
theorem QtC (l:List (Int × Nat)) (i:Nat):(J6 l)[i]?=(l[i]?).map fun p=>(.int .i64 p.1,.int .i64 (p.2:Nat)):=by simp[J6]
theorem QwJ {n:Nat} {seen:List Nat} (h1:seen.Nodup) (h2:∀ i∈seen,i<n):seen.length<=n:=by
 have h:seen.Perm ((List.range n).filter fun i=>seen.contains i):=by
  rw[List.perm_iff_count];intro a;have hf:((List.range n).filter fun i=>seen.contains i).Nodup:=List.nodup_range.filter _;rw[h1.count,hf.count];simp;grind
 have h3:=QK5 (fun i=>seen.contains i) (List.range n);rw[h.length_eq];simpa using h3
theorem Qcd (e:Evt):(QiW e).length<=1:=by unfold QiW;split<;>simp
theorem Qv0 (l:Zs) (fr h f:Int):(evF l fr h f).length<=3:=by
 unfold evF;rw[QKP,QKP];exact Nat.add_le_add (Nat.add_le_add (Qcd _) (Qcd _)) (Qcd _)
theorem Qbl {f:Int->List Evt} {m:Nat}:∀ l:List Int,(∀ x∈l,(f x).length<=m)->(l.flatMap f).length<=l.length*m
 | [],_=>by simp
 | a::r,h=>by
   have h1:=Qbl r fun x hx=>h x (by simp[hx]);have h2:=h a (by simp);rw[QLx,QKP,QKV,QLl];omega
theorem QvZ {l:Zs} (hl:OkL l) (fr h:Int):(evH l fr h).length<=303:=by
 have h1:=Qbl (f:=evF l fr h) (m:=3) (UU l.flo l.fhi) fun x _=>Qv0 l fr h x;have h2:=hl.flaw;simp only[ZX,inR] at h2;rw[Uv] at h1;unfold evH;omega
theorem QvY {l:Zs} (hl:OkL l):∀ seen:List Nat,(evS l seen).length<=seen.length*303
 | []=>by simp[evS]
 | i::r=>by
   have h1:=QvY hl r;have h2:=QvZ hl (ZB l) ((X2 l).getD i 0);rw[Qmr,QKP,QKV,QLl];omega
theorem Qw5 {l:Zs} (hc:Qx l.sea) (i:Nat):0<=(X2 l).getD i 0/\(X2 l).getD i 0<=24975:=by
 by_cases h:i<(X2 l).length
 ·have h1:(X2 l).getD i 0∈X2 l:=by simp[h]
  exact Qsb hc ((QfH _ _).1 h1)
 simp[h]
theorem Qo0 {l:Zs} (hc:Qx l.sea):(X2 l).length<=100000:=by
 have h1:=qj (UN l);have h2:=Qly hc;simp[X2];omega
theorem QDF (es es2:List Evt) {args0:List AV} (o:Qm) (ha:args0.all (clA [0,1])=true) (h0:Qc o 3=some (.box [.yl 4000 es.length])) (h1:Qc o 4000=some (.arr 321 7 (emb (es.map evC)) 0)) :
  HOk [3,4000] args0 o (evO es) (evO es2):=by
 refine ⟨by decide,ha,fun q hq=>?_,fun i hi h=>?_,fun q hq=>⟨(Qms es2 q hq).1,(Qms es2 q hq).2.1⟩⟩
 ·have h3:=Qms es q hq;refine ⟨h3.1,?_,h3.2.2,h3.2.1⟩;simp only[evO,QKU,QK1,or_false] at hq;rcases hq with rfl | rfl
  ·exact h0
  rw[Ya];exact h1
 simp at hi;have:i=0\/i=1:=by omega
 rcases this with rfl | rfl<;>simp[Qc] at h
include hK
theorem Qtg (l:Zs):∃ fh ft:Int,Gd K 237 [Qix (QlR l.sea),.int .i64 0] (.xd [.agg [.int .i64 (ZB l),.int .i64 fh],.int .i64 ft]):=by
 have h:=QpG hK (QlR l.sea) 0 (by omega);unfold ZB;split at h
 ·rename_i h1;exact ⟨_,_,by simpa[h1] using h⟩
 rename_i h1;exact ⟨_,_,by simpa[h1] using h⟩
theorem Qy3 (l:Zs) (hl:OkL l):Gd K 144 [lsV l] (.bag 7 ((Xi l).map evC)):=by
 refine Qjl hK (fk func144 QD1 (by kernel_rfl)) (by simp) ?_;generalize hG:Qv8 QD1.res 7 ((Xi l).map evC)=G;obtain ⟨fh,ft,hg1⟩:=Qtg hK l;have hg2:=Qyp hK l hl.sea;have hfr:=QpY hl.sea;simp;refine cK (by simpa[QlR] using hg1) ?_;simp;refine cK (by simpa using hg2) ?_;simp;have hnk:(ZH (UN l)).length=(X2 l).length:=by simp[X2]
 have hkl:=Qo0 hl.sea
 have key:∀ seen:List Nat,(seen.Nodup/\∀ i∈seen,i<(X2 l).length)->Xa prog K (FnF G) Qk3 [1,3,4,6,26] [3,6,26,4000]
   [AI.inBlock 0,AI.code ((AC.ops [⟨some 123,none,.ldo 3 1 false (.t 3)⟩,⟨some 2,none,.xf (.t 123)⟩] false).seq AC.ret)]
   [(1,.iv (.ptr (lsC l))),(3,.loc 3 0),(4,.clo 235 [] [.loc 3 0]),(6,.loc 6 0),(26,.yk 26)]
   [(3,.box [.yl 4000 (evS l seen).length]),(6,.box [.iv (.int .i64 (ZB l)),.iv (.int .i64 fh)]),(26,.yq (J6 (ZH (UN l))) seen),(4000,.arr 321 7 (emb ((evS l seen).map evC)) 0)]:=by
  refine Qha (fun _=>[(1,.iv (.ptr (lsC l))),(3,.loc 3 0),(4,.clo 235 [] [.loc 3 0]),(6,.loc 6 0),(26,.yk 26)]) (fun seen=>[(3,.box [.yl 4000 (evS l seen).length]),(6,.box [.iv (.int .i64 (ZB l)),.iv (.int .i64 fh)]),(26,.yq (J6 (ZH (UN l))) seen),(4000,.arr 321 7 (emb ((evS l seen).map evC)) 0)]) (X2 l).length _ ?_;intro seen hI ih;rw[Qa Qk3.eq_1];have hsl:=QwJ hI.1 hI.2;have hel:=QvY hl seen;have hlen:(J6 (ZH (UN l))).length=(X2 l).length:=by simp[J6,X2]
  simp[hlen,QtC];refine ⟨fun xc=>?_,fun i a b n m hq ha hb hns=>?_⟩
  ·rw[<- hG]
   refine ⟨(evS l seen).map evC,(Qtz l hI.1 hI.2 xc).map evC,?_⟩;simp[QD1]
  subst ha hb;have hil:=(QKG.1 hq).1;have hk:n=(X2 l).getD i 0:=by simp[X2,hq]
  have hbd:=Qw5 hl.sea i;rw[<- hk] at hbd
  have hih:=ih i (by omega) hns ⟨QMb.2 ⟨hns,hI.1⟩,fun j hj=>by
   rcases QKU.1 hj with rfl | hj
   ·omega
   exact hI.2 j hj⟩
  rw[Qmr,<- hk] at hih;clear ih;have hfl:=hl.flaw;simp only[ZX,inR] at hfl;have hpl:=hl.zq;simp only[ZX,inR] at hpl;have hrl:=hl.rated;simp only[ZX,inR] at hrl;have hrlen:=Uv l.flo l.fhi;simp[hq]
  (repeat' first|omega|with_reducible apply And.intro|intro)
  refine XU (fun j=>[(1,.iv (.ptr (lsC l))),(3,.loc 3 0),(4,.clo 235 [] [.loc 3 0]),(6,.loc 6 0),(8,.iv (.int .i64 n)),(9,.iv (.int .i64 (l.flo+(j:Nat)))),(26,.yk 26)])
   (fun j=>[(3,.box [.yl 4000 (evS l seen++((UU l.flo l.fhi).take j).flatMap (evF l (ZB l) n)).length]),(6,.box [.iv (.int .i64 (ZB l)),.iv (.int .i64 fh)]),(26,.yq (J6 (ZH (UN l))) (i::seen)),(4000,.arr 321 7 (emb ((evS l seen++((UU l.flo l.fhi).take j).flatMap (evF l (ZB l) n)).map evC)) 0)])
   (UU l.flo l.fhi).length (fun _=>True) trivial ?_ ?_ (by simp) (by simp)
  ·intro _;rw[Qa Qk4.eq_1];have h1:¬ l.flo+((UU l.flo l.fhi).length:Int)<=l.fhi:=by omega
   simp[h1];simpa[evH] using hih
  intro j hj _ ih2;rw[Qa Qk4.eq_1];have h1:l.flo+(j:Int)<=l.fhi:=by omega
  have e3:l.flo+((j+1:Nat):Int)=l.flo+j+1:=by omega
  rw[QbJ _ _ _ hj,QeX,e3,<- QK8] at ih2;have hel2:(evS l seen++((UU l.flo l.fhi).take j).flatMap (evF l (ZB l) n)).length<=50000000:=by
   have:=Qbl (f:=evF l (ZB l) n) (m:=3) ((UU l.flo l.fhi).take j) fun x _=>Qv0 l (ZB l) n x;rw[QKP];rw[QMh] at this;omega
  generalize evS l seen++((UU l.flo l.fhi).take j).flatMap (evF l (ZB l) n)=E at *;have hf1:0<=l.flo+(j:Int)/\l.flo+(j:Int)<=100:=by omega
  generalize hf:l.flo+(j:Int)=f at *;have g1:=QpF hK n f (by omega) hf1;have g2:=QpF hK (ZB l) f (by omega) hf1;have b1:=Qlp (a:=n) (f:=f) (by omega) hf1;have b2:=Qlp (a:=ZB l) (f:=f) (by omega) hf1;clear hih hq;unfold evF at ih2;generalize JK n f=held at *;generalize JK (ZB l) f=was at *;simp[h1];refine cK (by simpa using g1) ?_;simp;refine cK (by simpa using g2) ?_;simp;refine ⟨by omega,cK (by simpa using Vq hK (l.plo,l.phi) (held+1,99999)) ?_⟩;have hp1 : -1<=(ZL (l.plo,l.phi) (held+1,99999)).2/\(ZL (l.plo,l.phi) (held+1,99999)).2<=99999:=by simp only[ZL];omega
  generalize ZL (l.plo,l.phi) (held+1,99999)=p1 at *;simp;refine ⟨by omega,cK (by simpa using Vq hK p1 (l.rlo+1,99999)) ?_⟩;simp;refine ⟨by omega,cK (by simpa using Vq hK (l.rlo,l.rhi) (0,p1.2-1)) ?_⟩;have gh1:Gh K 235 _ _ _ _ (evO (E++QiW ⟨1,f,held,ZL p1 (l.rlo+1,99999),ZL (l.rlo,l.rhi) (0,p1.2-1)⟩)):=Qbh hK E ⟨1,f,held,ZL p1 (l.rlo+1,99999),ZL (l.rlo,l.rhi) (0,p1.2-1)⟩ (by omega);have hE1:=Qcd ⟨1,f,held,ZL p1 (l.rlo+1,99999),ZL (l.rlo,l.rhi) (0,p1.2-1)⟩;rw[<- QK8,<- QK8] at ih2;have hE1:(E++QiW ⟨1,f,held,ZL p1 (l.rlo+1,99999),ZL (l.rlo,l.rhi) (0,p1.2-1)⟩).length<=50000001:=by
   rw[QKP];omega
  generalize E++QiW _=E1 at *;simp;refine ⟨by kernel_rfl,QH gh1 (by simp[nth,rn]) (QDF _ _ _ (by simp[clA]) (by simp[Qc]) (by simp[Qc])) ?_⟩;simp[nth,rn];refine cK (by simpa using Vq hK p1 (0,l.rhi)) ?_;generalize ZL p1 (0,l.rhi)=p2 at *;simp;refine cK (by simpa using Vq hK p2 (0,was)) ?_;simp;refine ⟨by omega,cK (by simpa using Vq hK p2 (was+1,99999)) ?_⟩;generalize ZL p2 (0,was)=q1 at *;generalize ZL p2 (was+1,99999)=q2 at *;simp;rw[Qa QcY.eq_1];simp;refine cK (by simpa using Vq hK (l.rlo,l.rhi) (q1.1,99999)) ?_;generalize ZL (l.rlo,l.rhi) (q1.1,99999)=r2 at *;have gh2:Gh K 235 _ _ _ _ (evO (E1++QiW ⟨2,f,held,q1,r2⟩)):=Qbh hK E1 ⟨2,f,held,q1,r2⟩ (by omega);have hE2:=Qcd ⟨2,f,held,q1,r2⟩;have hE2:(E1++QiW ⟨2,f,held,q1,r2⟩).length<=50000002:=by
   rw[QKP];omega
  generalize E1++QiW _=E2 at *;simp;refine ⟨by kernel_rfl,QH gh2 (by simp[nth,rn]) (QDF _ _ _ (by simp[clA]) (by simp[Qc]) (by simp[Qc])) ?_⟩;simp[nth,rn];rw[Qa QcY.eq_1];by_cases hpf:l.part<f
  ·rw[if_pos hpf] at ih2;simp[hpf];refine cK (by simpa using Vq hK (l.rlo,l.rhi) (q2.1,99999)) ?_;generalize ZL (l.rlo,l.rhi) (q2.1,99999)=r3 at *;have gh3:Gh K 235 _ _ _ _ (evO (E2++QiW ⟨3,f,held,q2,r3⟩)):=Qbh hK E2 ⟨3,f,held,q2,r3⟩ (by omega);generalize E2++QiW _=E3 at *;simp;refine ⟨by kernel_rfl,QH gh3 (by simp[nth,rn]) (QDF _ _ _ (by simp[clA]) (by simp[Qc]) (by simp[Qc])) ?_⟩;simp[nth,rn];rw[Qa QcY.eq_1];simp;exact ⟨by omega,ih2 trivial⟩
  rw[if_neg hpf] at ih2;simp[hpf];refine cK (by simpa using Vq hK (l.rlo,l.rhi) (q2.1,99999)) ?_;generalize ZL (l.rlo,l.rhi) (q2.1,99999)=r3 at *;have gh3:Gh K 235 _ _ _ _ (evO (E2++QiW ⟨4,f,held,q2,r3⟩)):=Qbh hK E2 ⟨4,f,held,q2,r3⟩ (by omega);generalize E2++QiW _=E3 at *;simp;refine ⟨by kernel_rfl,QH gh3 (by simp[nth,rn]) (QDF _ _ _ (by simp[clA]) (by simp[Qc]) (by simp[Qc])) ?_⟩;simp[nth,rn];rw[Qa QcY.eq_1];simp;exact ⟨by omega,ih2 trivial⟩
 simpa[evS,emb] using key [] (by simp)
end Go.Pf
namespace Go.Ev
open Go Go.RowKit Go.Sort
section
variable {P:Program} {K:World->Prop}
theorem Q8.grow {Fr:Nat->Prop} {w w1:World} {os:Array Obj} (h:Q8 Fr w w1) (xa:∀ b,Fr b->b<w.heap.size):Q8 Fr w (grow w1 os) :=
 ⟨h.os,h.tape,h.output,by rw[size_grow];exact QLv h.size (by omega),fun k hk=>by
  have h1:=xa k hk;have h2:=h.size;show (w1.heap++os)[k]?=_;rw[QLZ,if_pos (by omega)]
  exact h.block k hk⟩
theorem Qxi {w:World} {g:Nat} {o:Obj} (os:Array Obj) (h:w.heap[g]?=some o):(grow w os).heap[g]?=some o:=by
 have h1:=(QKQ.1 h).1;show (w.heap++os)[g]?=_;rw[QLZ,if_pos h1];exact h
theorem Qm4 {f:FuncId}
  (he:∀ (a:Option Addr) (cap:Nat) (w:World),Calls P f #[.slice a 0 cap] w fun e w'=>e=.returned (.tuple #[])/\w'=w)
  (zs zt:List Int) (hzt:zt.length=zs.length) (hzl:zs.length<=1000000000) (hr:∀ (blk off cap:Nat) (w:World),Holds (Value.int .i64) w blk off zs.toArray->blk<w.heap.size->zs.length<=1000000000 ->
    Calls P f #[.slice (some ⟨blk,off,none⟩) zs.length cap] w fun e w'=>e=.returned (.tuple #[])/\∃ n os,w'=grow (putRow (Value.int .i64) (Sort.ahead w n) blk off zt.toArray) os)
  (mv:Nat):YD P K f [.yl 0 zs.length] [(0,Zr zs mv)] [0] (.iv (.xd [])) [(0,Zr zt zs.length)]:=by
 intro w ok L vs hK hnew hown hlaid hvl hvs;obtain ⟨v0,rfl⟩:∃ v0,vs=[v0]:=by
  match vs,hvl with
  | [v],_=>exact ⟨v,rfl⟩
 have hob:=hlaid.y9 0 (Zr zs mv) rfl;obtain ⟨v,xs,hL,hrow⟩:=QdN hob;have hv:v0=v:=Qex (id:=0) (zs:=zs) (mv:=mv) rfl hL rfl (hvs 0 _ v0 rfl rfl);subst hv
 have fin:∀ (w':World) (xs':List Value),Q8 (FrO w (Qc [(0,Zr zs mv)]) L) w w'->YH (FrO w (Qc [(0,Zr zs mv)]) L) w' 3 1 v0 zs.length xs'->xs'=zt.map (.int .i64) ->
   ∃ v1 L',(Ending.returned (.tuple #[]):Ending)=.returned v1/\Qlk (FrO w (Qc [(0,Zr zs mv)]) L) ok w' (Qc [(0,Zr zt zs.length)]) L'/\QA (okL ok (Qc [(0,Zr zt zs.length)]) L') w' (Qc [(0,Zr zt zs.length)]) L' (.iv (.xd [])) v1/\Q8 (FrO w (Qc [(0,Zr zs mv)]) L) w w' /\
    ∀ i∈[0],∀ o,Qc [(0,Zr zs mv)] i=some o->∃ o',Qc [(0,Zr zt zs.length)] i=some o'/\Jj o o' (L i) (L' i):=by
  intro w' xs' hk ho hx;refine ⟨.tuple #[],fun _=>.arr v0 xs',rfl,⟨fun id o hid=>?_,fun i j oi oj b hij hi hj=>?_⟩,.iv _ _ (.xd [] [] rfl (by simp)),hk,fun i hi o h=>?_⟩
  ·simp only[Qc] at hid;split at hid
   ·injection hid with hid;subst hid;refine ⟨by simpa[hzt] using ho,by simp;omega,by simp,fun u hu=>?_,fun i j c x u hi hj hu=>?_⟩
    ·rw[hx] at hu;obtain ⟨z,_,rfl⟩:=QKT.1 hu;rfl
    rw[QKN,QKK] at hi;obtain ⟨z,hz,rfl⟩:=hi;cases j with
    | zero =>
      simp at hj;subst hj;rw[hx,QL4,QLX,QKN,hz] at hu;simp at hu;subst hu;exact .iv _ _ (.int _ _)
    | succ j=>simp at hj
   cases hid
  ·simp only[Qc] at hi hj;grind
  simp at hi;subst hi;simp only[Qc,if_true] at h;injection h with h;subst h;refine ⟨Zr zt zs.length,by simp[Qc],?_⟩;rw[hL];simp[Jj,hzt]
 rcases hrow with ⟨rfl,rfl⟩ | ⟨g,cap,cur,hr1,hfr⟩
 ·refine (he none 0 w).mono fun e w' ⟨h1,h2⟩=>?_;subst h1 h2;obtain rfl:zt=[]:=QKR (by simpa using hzt);exact fin w' [] (Q8.refl _ _) ⟨⟨by simp,.inl ⟨rfl,rfl⟩⟩,by simp[Value.ownBlock]⟩ (by simp)
 ·have hv:=hr1.v;subst hv;have hgs:g<w.heap.size:=(QKQ.1 hr1.at_).1;refine (hr g 0 cap w hr1.holds hgs hzl).mono fun e w' ⟨h1,n,os,h2⟩=>?_;subst h1;have hk:Q8 (FrO w (Qc [(0,Zr zs mv)]) L) w w':=by
   have h3:Q8 (FrO w (Qc [(0,Zr zs mv)]) L) (Sort.ahead w n) w':=by rw[h2];exact (XT (f:=putCells (Value.int .i64) 0 zt.toArray) hfr).grow fun b hb=>hb.1
   exact ⟨h3.os,h3.tape,h3.output,h3.size,h3.block⟩
  have hh:w'.heap[g]?=some (.cells (putCells (Value.int .i64) 0 zt.toArray cur) 3 (0,0)):=by
   rw[h2];exact Qxi os (Qck (w:=Sort.ahead w n) hr1.at_)
  refine fin w' _ hk ⟨⟨?_,.inr ⟨g,cap,_,rfl,QLV _,hh,hr1.le,hr1.max,?_,rfl⟩⟩,fun b hb=>?_⟩ ?_
  ·simp[putCells,hr1.size,hr1.le]
  ·simp[putCells,hr1.size]
  ·simp[Value.ownBlock] at hb;grind
  ·refine QMc fun i=>?_;rw[QLr];by_cases hi:i<zs.length
   ·have h1:=hr1.size;have h2:=hr1.le;have h3:i<cur.size:=by omega
    rw[QL4,if_pos hi];simp only[putCells,QMl,Array.getElem?_mapIdx,QK7 h3,QLO,QKN];grind
   grind
theorem QfF {f:FuncId} (zs:List Int)
  (hd:∀ (blk off cap:Nat) (w:World),Holds (Value.int .i64) w blk off zs.toArray->zs.length<=9223372036854775807->zs.length<=cap ->
    Calls P f #[.slice (some ⟨blk,off,none⟩) zs.length cap] w fun e w'=>e=.returned (.slice (some ⟨blk,off,none⟩) (Lib.compact zs).length cap)/\∃ q,w'=putRow (Value.int .i64) (Sort.ahead w q) blk off (Lib.compact zs++List.replicate (zs.length-(Lib.compact zs).length) 0).toArray)
  (mv:Nat) (hne:zs≠[]):YD P K f [.yl 0 zs.length] [(0,Zr zs mv)] [] (.iv (QnW (Lib.compact zs))) []:=by
 intro w ok L vs hK hnew hown hlaid hvl hvs;obtain ⟨v0,rfl⟩:∃ v0,vs=[v0]:=by
  match vs,hvl with
  | [v],_=>exact ⟨v,rfl⟩
 have hob:=hlaid.y9 0 (Zr zs mv) rfl;obtain ⟨v,xs,hL,hrow⟩:=QdN hob;have hv:v0=v:=Qex (id:=0) (zs:=zs) (mv:=mv) rfl hL rfl (hvs 0 _ v0 rfl rfl);subst hv;rcases hrow with ⟨rfl,rfl⟩ | ⟨g,cap,cur,hr1,hfr⟩
 ·simp at hne
 have hv:=hr1.v;subst hv;have hm:=hr1.max;have hle:=hr1.le;have hcl:(Lib.compact zs).length<=zs.length:=by
  unfold Lib.compact Lib.compactUpTo;rw[QKX];exact QLv (QK5 _ _) (by simp)
 refine (hd g 0 cap w hr1.holds (by unfold maxLen at *;omega) hle).mono fun e w' ⟨h1,q,h2⟩=>?_;have hgo:ok g:=hown g ⟨0,Zr zs mv,rfl,by rw[hL];simp[Lay.has,Value.ownBlock]⟩;have hk:Q8 (FrO w (Qc [(0,Zr zs mv)]) L) w w':=by
  have h3:Q8 (FrO w (Qc [(0,Zr zs mv)]) L) (Sort.ahead w q) w':=by rw[h2];exact XT hfr
  exact ⟨h3.os,h3.tape,h3.output,h3.size,h3.block⟩
 have hnew:Holds (Value.int .i64) w' g 0 (Lib.compact zs++List.replicate (zs.length-(Lib.compact zs).length) 0).toArray:=by
  have h3:=holds_putRow (Value.int .i64) (Sort.ahead w q) g 0 zs.toArray (Lib.compact zs++List.replicate (zs.length-(Lib.compact zs).length) 0).toArray (holds_ahead _ w q g 0 _ hr1.holds) (by simp;omega);grind
 subst h1;refine ⟨_,fun _=>.one 0,rfl,WX,.iv _ _ ?_,hk,by simp⟩;refine Ux _ _ _ (by omega) hm ⟨hgo,by simp[Qc]⟩ fun j z hj=>?_;have hjl:=(QKG.1 hj).1;have h3:=(hnew j (by grind)).1;grind
end
end Go.Ev
namespace Go.Proofs
open Go.Proofs.Tryz
open Go.Shelf Go.RowKit Go.Sort
def Tryz.comp123_ren:Go.Shelf.Ren:=⟨fun | 43=>146 | n=>n,fun | 22=>57 | 23=>3 | 3=>3 | 4=>4 | 0=>0 | n=>n,fun | n=>n⟩
theorem Tryz.comp123:Go.Proofs.SlLaysE.n43 prog Tryz.comp123_ren:={
 mixed:=by kernel_rfl
 f43:=⟨Tryz.f146.name,by decide,func146.trans (congrArg some (by kernel_rfl))⟩
 t0:=underlying0
 a0:=isAgg0
 z0:=sizeOf0
 v0:=zeroValue0
 t3:=underlying3
 a3:=isAgg3
 z3:=sizeOf3
 v3:=zeroValue3
 t4:=underlying4
 a4:=isAgg4
 z4:=sizeOf4
 v4:=zeroValue4
 t22:=underlying57
 a22:=isAgg57
 z22:=sizeOf57
 v22:=zeroValue57
 a23:=isAgg3
 z23:=sizeOf3 }
end Go.Proofs
namespace Go.Pf
open Go Go.Ev Go.Proofs Go.RowKit Go.Shelf Go.Proofs.Tryz
variable {K:World->Prop} (hK:∀ w w',K w->Below w.heap.size w w'->K w')
set_option maxRecDepth 8000
def Wb (l:List Int):List Int:=l.mergeSort fun x y=>decide (x<=y)
def QfG (l:List Int):List Int:=Lib.compact (Wb l)
theorem Qm5 {l r:List Int} (h:l.Perm r):Wb l=Wb r:=mergeSort_of_perm_i h
def Qpd (l:List Int):List (List IV):=l.map fun n=>[.int .i64 n]
theorem QsE (l:List Int) (x:Int):emb (Qpd (l++[x]))=emb (Qpd l)++[[AV.iv (.int .i64 x)]]:=by simp[Qpd,emb]
theorem QsD (l:List Int):(emb (Qpd l)).length=l.length:=by simp[Qpd,emb]
theorem Qpc (l:List Int):(Qpd l).length=l.length:=by simp[Qpd]
theorem QBy (l:List Int) (mv:Nat):AO.arr 3 1 (emb (Qpd l)) mv=Zr l mv:=by simp[Qpd,emb,Function.comp_def]
theorem QF8 {a n:Nat} {zs:List Int} {mv:Nat} {o o1:Qm} (ho:Qc o a=some (Zr zs mv)) (h1:o1.all (fun q=>decide (q.1<1)&&XR q.2)=true):HOk [a] [.yl 0 n] o [(0,Zr zs mv)] o1:=by
 refine ⟨by simp,by simp[clA],fun q hq=>?_,fun i hi h=>?_,fun q hq=>?_⟩
 ·simp only[QKU,QK1,or_false] at hq;subst hq;refine ⟨by simp,?_,by simp[clO,clAL,clA],rfl⟩;refine ho.trans ?_;simp[Zr,rnO,rnL,rn]
 ·simp at hi;subst hi;simp[Qc] at h
 have:=QLk.1 h1 q hq;simpa using this
section
theorem QsW (zs:List Int) (mv:Nat) (hl:zs.length<=1000000000):Gh K 145 [.yl 0 zs.length] [(0,Zr zs mv)] [0] (.iv (.xd [])) [(0,Zr (Wb zs) zs.length)] :=
 Qm4 (fun a cap w=>AnyM.slices_Sort_int_none Tryz.sort145 a cap w) zs (Wb zs) (by simp[Wb]) hl (fun blk off cap w hh hb hz=>AnyM.slices_Sort_int Tryz.sort145 blk off cap zs w hh hb (by omega)) mv
theorem QsV (zs:List Int) (mv:Nat) (hne:zs≠[]):Gh K 146 [.yl 0 zs.length] [(0,Zr zs mv)] [] (.iv (QnW (Lib.compact zs))) [] :=
 QfF zs (fun blk off cap w hh h1 h2=>by
  have h:=AnyE.slices_Compact Tryz.comp123 (Value.int .i64) (fun _=>rfl) (EqlAt.intD prog 3 .i64) (NeqAt.intD prog 3 .i64) 0 zeroValue3 blk off cap zs.toArray w hh (by simpa using h1) (by simpa using h2);have e:Tryz.comp123_ren.f 43=146:=rfl;rw[e] at h;simpa[Lib.compact] using h) mv hne
include hK
end
end Go.Pf
namespace Go.Pf
open Go Go.Ev Go.Proofs Go.RowKit Go.Proofs.Tryz
variable {K:World->Prop} (hK:∀ w w',K w->Below w.heap.size w w'->K w')
set_option maxRecDepth 8000
theorem Qsp {α β:Type} (f:α->β) {a b:List β} (h:a.Perm b):∀ l:List α,b=l.map f->∃ k:List α,a=k.map f/\k.Perm l:=by
 induction h with
 | nil=>exact fun l hl=>⟨[],rfl,by simp_all⟩
 | cons x h ih =>
   intro l hl;cases l with
   | nil=>simp at hl
   | cons y r =>
     simp at hl;obtain ⟨k,h1,h2⟩:=ih r hl.2;exact ⟨y::k,by simp[hl.1,h1],h2.cons y⟩
 | swap x y r =>
   intro l hl
   match l with
   | [] | [_]=>simp at hl
   | u::v::q =>
     simp at hl;exact ⟨v::u::q,by simp[hl],List.Perm.swap u v q⟩
 | trans h1 h2 ih1 ih2 =>
   intro l hl;obtain ⟨k,h3,h4⟩:=ih2 l hl;obtain ⟨m,h5,h6⟩:=ih1 k h3;exact ⟨m,h5,h6.trans h4⟩
noncomputable def spN (l:Zs):List (Yj × Nat):=Uj (Jk l (QL l.zc))
noncomputable def QqP (l:Zs):List Int:=QfG ((Xi l).map (·.cause))
noncomputable def Qsu (l:Zs):List IV:=lsC l++[.map (Jb spK (spN l)),.bag 7 ((Xi l).map evC)]
noncomputable def tLs (l:Zs) (is:Bool):Int:=if OkL l then (if is=true then (if spN l=[]\/Xi l=[] then 3 else 0) else 1) else 100
noncomputable def QJR (l:Zs) (cause:Int):Int:=if cause∈QqP l then (if (QqP l).length=1 then 1 else 3) else 2
theorem Qny {l:Zs} (hl:OkL l):(Xi l).length<=100000000:=by
 have h1:=Qbl (f:=evH l (ZB l)) (m:=303) (X2 l) fun x _=>QvZ hl (ZB l) x;have h2:=Qo0 hl.sea;unfold Xi;omega
theorem Qvm {l:Zs} {is:Bool} (h:tLs l is=0):OkL l/\is=true/\spN l≠[]/\Xi l≠[]:=by
 unfold tLs at h;grind
def QKg (x:Int):List Int->Nat->Int
 | [],_ => -1
 | a::r,i=>if a=x then (i:Nat) else QKg x r (i+1)
include hK
theorem QvO (l:Zs) (is:Bool) (hd:l.zc.za.length<=1000) (hs:l.zc.zg.length<=1000):Gd K 47 [lsV l,.bool is] (.xd [if tLs l is=0 then .ptr (Qsu l) else .nilp,.int .i64 (tLs l is)]):=by
 refine Qb hK (fk func47 c47 (by kernel_rfl)) (by simp) ?_;simp;refine cK (by simpa using Qy5 hK l hd hs) ?_;by_cases h1:OkL l;rotate_left
 ·simp[h1,tLs]
 cases is
 ·simp[h1,tLs]
 simp[h1];have g1:=Qy4 hK l h1;have g2:=Qy3 hK l h1;refine cK (by simpa using g1) ?_;simp;refine cK (by simpa using g2) ?_;have hle:=Qny h1;have e1:(Jb spK (Uj (Jk l (QL l.zc)))=[])=(spN l=[]):=by simp[Jb,spN]
 have e2:tLs l true=if spN l=[]\/Xi l=[] then 3 else 0:=by simp[tLs,h1]
 simp;rw[e1,e2];by_cases h2:spN l=[]
 ·simp[h2]
 by_cases h3:Xi l=[]
 ·simp[h2,h3]
 simp[h3,Qsu,spN];exact fun h _=>h
omit hK
def spR (s:Yj):List IV:=[.int .i64 s.link,.int .i64 s.pos,.int .i64 s.z1,.bool s.pv]
def itS (s:Yj):List IV:=[.agg (spR s)]
def QDu:List IV->List IV
 | [.agg c]=>c
 | _=>[]
theorem Qsj (l:List Yj):(l.map itS).map QDu=l.map spR:=by simp[itS,QDu,Function.comp_def]
def spD:Yj:=⟨0,0,0,false⟩
def QDk (l:List Yj) (L:List (List IV)):Prop:=∃ m:List Yj,m.Perm l/\L=m.map itS
def byI (l:List Yj) (s:List Nat):List Yj:=s.map fun i=>l.getD i spD
theorem QmK (l:List Yj) {s:List Nat} (h1:s.Nodup) (h2:∀ i∈s,i<l.length) (h3:∀ i,i<l.length->i∈s):(byI l s).Perm l:=by
 have h4:l=byI l (List.range l.length):=by
  refine List.ext_getElem (by simp[byI]) fun i h _=>?_;simp[byI,h]
 conv=>rhs;rw[h4]
 exact (QdS h1 h2 h3).map _
theorem QAd (l:List Yj) {s:List Nat} (h1:s.Nodup) (h2:∀ i∈s,i<l.length):Beg (QDk l) ((byI l s).map itS):=by
 refine ⟨(byI l ((List.range l.length).filter fun i=>!s.contains i)).map itS,byI l (s++(List.range l.length).filter fun i=>!s.contains i),QmK l ?_ ?_ ?_,by simp[byI]⟩
 ·refine List.nodup_append.2 ⟨h1,List.nodup_range.filter _,fun a ha b hb e=>?_⟩;subst e;simp at hb;exact hb.2 ha
 ·intro i hi;simp at hi;rcases hi with hi | hi
  ·exact h2 i hi
  exact hi.1
 intro i hi;simp;by_cases h:i∈s
 ·exact .inl h
 exact .inr ⟨hi,h⟩
section
variable {K:World->Prop}
theorem QsC (l:List (Yj × Nat)) (hl:l.length<=1000000):QrW prog K 244 [] [.ptr [.map (Jb spK l)]] (QDk (l.map (·.1))):=by
 refine Qjc (fk func244 QH3 (by kernel_rfl)) (by simp) fun st hst=>?_;have hlen:(Jb spK l).length=l.length:=by simp[Jb]
 simp;refine Qha (fun _=>[(0,.cb 0),(5,.yk 5)]) (fun seen=>[(0,.ext (st ((byI (l.map (·.1)) seen.reverse).map itS))),(5,.yq (Jb spK l) seen)]) l.length (fun seen=>seen.Nodup/\∀ i∈seen,i<l.length) ?_ [] (by simp);intro seen hI ih;rw[Qa Qrs.eq_1];simp[hlen];refine ⟨fun xc=>⟨_,⟨_,QmK _ ((List.reverse_perm _).nodup_iff.2 hI.1) (by simpa using hI.2) (by simpa using xc),rfl⟩,rfl⟩,fun i a b hq hns=>?_⟩;have hil:i<l.length:=by
  have:=(QKG.1 hq).1;simpa[Jb] using this
 obtain ⟨rfl,rfl⟩:spK l[i].1=a/\IV.int .i64 (l[i].2:Nat)=b:=by simpa[Jb,hil] using hq
 have hI':(i::seen).Nodup/\∀ j∈i::seen,j<l.length:=⟨QMb.2 ⟨hns,hI.1⟩,fun j hj=>by
  rcases QKU.1 hj with rfl | hj
  ·exact hil
  exact hI.2 j hj⟩
 have hih:=ih i hil hns hI';have e:byI (l.map (·.1)) (i::seen).reverse=byI (l.map (·.1)) seen.reverse++[l[i].1]:=by simp[byI,hil]
 have hg:=hst ((byI (l.map (·.1)) seen.reverse).map itS) (itS l[i].1) (by
  have h1:=QAd (l.map (·.1)) ((List.reverse_perm _).nodup_iff.2 hI'.1) (fun j hj=>by simpa using hI'.2 j (List.mem_reverse.1 hj));rw[e] at h1;simpa using h1)
 rw[e,QK3,QKZ,QL8] at hih;clear ih e;simp[hq,spK,KC.iv];refine QR (by simpa[itS,spR] using hg) rfl ?_;simp;exact hih
end
include hK
theorem QsU (l:List (Yj × Nat)) (hl:l.length<=1000000):Gh K 243 [.ym 4,.iv (.clo 244 [] [.ptr [.map (Jb spK l)]])] [] [] (.iv (.bag 4 ((l.map (·.1)).map spR))) []:=by
 refine Qhv [] [] [] [] (fk func243 QD0 (by kernel_rfl)).p (by simp[QD0]) (by simp) ?_ ?_ ?_
 ·simp
 ·simp
 have hit:=QsC (K:=K) l hl;have hlp:∀ m:List Yj,m.Perm (l.map (·.1))->m.length=l.length:=fun m h=>by simpa using h.length_eq
 generalize l.map (·.1)=B at *
 generalize hG:(fun e o2=>∃ y:AV,(∃ es':List (List IV),es'.Perm (B.map spR)/\y=.iv (.sl 4 es'))/\Qic QD0.res [] [] y [] e o2)=G;simp;refine QrS (fun p=>[(2,.box [.yl 3000 p.length]),(3000,.arr 121 4 (emb (p.map QDu)) 0)]) rfl (by kernel_rfl) hit (by simp[emb]) ?_ ?_
 ·rintro p x ⟨r,m,hm,hx⟩;have hml:=hlp m hm;have hpl:p.length<m.length:=by
   have:=congrArg List.length hx;simp at this;omega
  obtain ⟨s,rfl⟩:∃ s,x=itS s:=by
   have:x∈m.map itS:=by rw[<- hx];simp
   obtain ⟨s,_,h⟩:=QKT.1 this;exact ⟨s,h.symm⟩
  refine ⟨rfl,?_⟩;rw[QK3];simp[itS,spR,QDu,QmG,Qrt];omega
 rintro L ⟨m,hm,rfl⟩;rw[Qsj,QKX];simp;rw[<- hG];refine ⟨_,⟨m.map spR,hm.map _,rfl⟩,⟨_,rfl,?_⟩,by simp,by simp⟩;have h0:(fun i=>if ([]:List Nat).contains i then none else Qc [(2,AO.box [AV.yl 3000 m.length]),(3000,AO.arr 121 4 (emb (m.map spR)) 0)] i)=Qc [(2,AO.box [AV.yl 3000 m.length]),(3000,AO.arr 121 4 (emb (m.map spR)) 0)]:=rfl;rw[Qos,h0];simp[look,spR,QKM]
theorem Qy2 (l:List (Yj × Nat)) (hl:l.length<=1000000):Gd K 147 [.clo 244 [] [.ptr [.map (Jb spK l)]]] (.bag 4 ((l.map (·.1)).map spR)):=by
 refine Qb hK (fk func147 QJp (by kernel_rfl)) (by simp) ?_;simp only[List.map_map];simp;refine QH (by simpa using QsU hK l hl) rfl ?_ ?_
 ·refine ⟨by simp,by simp[clA],by simp,by simp,by simp⟩
 simp
theorem Qy1 (kvs:List (MK × IV)):Gd K 148 [.map kvs] (.clo 244 [] [.ptr [.map kvs]]):=by
 refine Qb hK (fk func148 QJo (by kernel_rfl)) (by simp) ?_;simp
theorem QBV (s:Yj):Gd K 50 [.agg (spR s)] (.int .i64 s.link):=by
 refine Qb hK (fk func50 c50 (by kernel_rfl)) (by simp) ?_;simp[spR]
theorem QBU (s:Yj):Gd K 51 [.agg (spR s)] (.int .i64 s.pos):=by
 refine Qb hK (fk func51 c51 (by kernel_rfl)) (by simp) ?_;simp[spR]
theorem Qxr (es:List Yj) (g:FuncId) (f:Yj->Int) (hg:∀ s,Gd K g [.agg (spR s)] (.int .i64 (f s))) (hc:callee prog g=true) (hne:es≠[]) (hl:es.length<=1000000):Gd K 48 [.sl 4 (es.map spR),.fn g] (QU (QfG (es.map f))):=by
 refine Qb hK (fk func48 c48 (by kernel_rfl)) (by simp) ?_;simp
 (repeat' first|omega|with_reducible apply And.intro|intro)
 refine XU (fun i=>[(1,.iv (.fn g)),(5,.yl 5 i),(8,.iv (.sl 4 (es.map spR))),(9,.iv (.int .i64 es.length)),(10,.iv (.int .i64 (i:Nat)))]) (fun i=>[(5,.arr 3 1 (emb (Qpd ((es.take i).map f))) 0)]) es.length (fun _=>True) trivial ?_ ?_ (by simp) (by simp[Qpd,emb])
 ·intro _;rw[Qa Qq6.eq_1];have h1:=QsW (K:=K) (es.map f) 0 (by simp;omega);have h2:=QsV (K:=K) (Wb (es.map f)) es.length (fun h=>hne (by simpa[Wb] using congrArg List.length h));have e1:(Wb (es.map f)).length=es.length:=by simp[Wb]
  rw[e1] at h2;simp only[QKX] at h1;simp[QKM,QBy];refine QH h1 (by simp[nth,rn]) (QF8 (by simp[Qc]) (by simp[XR])) ?_;simp[nth,rn];refine QH h2 (by simp[nth,rn]) (QF8 (by simp[Qc]) (by simp)) ?_;simp[nth,rn];rfl
 intro i hi _ ih;rw[Qa Qq6.eq_1];have hi':(i:Int)<(es.length:Int):=by omega
 have hg:=hg es[i];rw[QKH hi,QK3,QKZ,QL8,QsE] at ih;have hL:((es.take i).map f).length=i:=by simp;omega
 generalize (es.take i).map f=L at *;simp[hi,hi'] at ih |-;simp only[spR] at hg |-;simp;refine ⟨hc,cK (by simpa using hg) ?_⟩;simp[QsD,Qpc,hL];exact ⟨by omega,by omega,ih⟩
theorem QvN (es:List Yj) (g:FuncId) (f:Yj->Int) (hg:∀ s,Gd K g [.agg (spR s)] (.int .i64 (f s))) (hc:callee prog g=true) (hne:es≠[]) (hl:es.length<=1000000):Gd K 48 [.bag 4 (es.map spR),.fn g] (QU (QfG (es.map f))):=by
 refine Qtc fun es' hp=>?_;obtain ⟨k,rfl,h2⟩:=Qsp spR hp es rfl;have h:=Qxr hK k g f hg hc (fun e=>hne (by subst e;simpa using h2)) (by rw[h2.length_eq];exact hl);have e:QfG (k.map f)=QfG (es.map f):=congrArg Lib.compact (Qm5 (h2.map _));rw[e] at h;exact h
theorem QvM (l:Zs) (hl:(spN l).length<=1000000):Gd K 49 [.ptr (Qsu l)] (.bag 4 (((spN l).map (·.1)).map spR)):=by
 refine Qb hK (fk func49 c49 (by kernel_rfl)) (by simp) ?_;simp only[List.map_map];simp[Qsu];refine cK (by simpa using Qy1 hK _) ?_;simp;refine cK (by simpa using Qy2 hK (spN l) hl) ?_;simp
omit hK
noncomputable def spL (l:Zs) (f:Yj->Int):List Int:=if tLs l true=0 then QfG (((spN l).map (·.1)).map f) else []
theorem Ql6 {α:Type} [DecidableEq α] (x:α):∀ l,(qz l x).length<=l.length+1
 | []=>by simp[qz]
 | p::r=>by
   have:=Ql6 x r;unfold qz;split<;>simp;omega
theorem Qul {α:Type} [DecidableEq α]:∀ l:List α,(Uj l).length<=l.length:=by
 refine ZQ (by simp[Uj]) fun l x ih=>?_;rw[YB];have:=Ql6 x (Uj l);simp;omega
theorem Qvp {l:Zs} (hl:OkL l):(spN l).length<=1000000:=by
 have h1:=ZZ (fun c=>X0 l c (Ql c.za).toNat) 24 (QL l.zc) (fun c' hc'=>by
  have h2:=UE hc';have h3:=h2.ok.za.cnt c'.za.length (QKJ _) (QKJ _);have h4:=WE l c' (Ql c'.za).toNat;have h5:=h2.ok.len;unfold Ql at *;omega)
 have h2:=Qul (Jk l (QL l.zc));have h3:=Qd2 l.zc hl.zc.len;unfold spN;unfold Jk at h2 |-;omega
include hK
theorem QCa (l:Zs) (hd:l.zc.za.length<=1000) (hs:l.zc.zg.length<=1000):Gd K 16 [lsV l] (.xd [QU (spL l Yj.link),.int .i64 (tLs l true)]):=by
 refine Qb hK (fk func16 c16 (by kernel_rfl)) (by simp) ?_;simp;refine cK (by simpa using QvO hK l true hd hs) ?_;by_cases h:tLs l true=0
 ·obtain ⟨h1,_,h3,_⟩:=Qvm h;have hle:=Qvp h1;have g2:=QvN hK ((spN l).map (·.1)) 50 Yj.link (QBV hK) (by kernel_rfl) (by simpa using h3) (by simpa using hle);simp[h,spL];refine cK (by simpa using QvM hK l hle) ?_;simp;refine cK (by simpa using g2) ?_;simp
 simp[h,spL]
theorem QvS (l:Zs) (hd:l.zc.za.length<=1000) (hs:l.zc.zg.length<=1000):Gd K 17 [lsV l] (.xd [QU (spL l Yj.pos),.int .i64 (tLs l true)]):=by
 refine Qb hK (fk func17 c17 (by kernel_rfl)) (by simp) ?_;simp;refine cK (by simpa using QvO hK l true hd hs) ?_;by_cases h:tLs l true=0
 ·obtain ⟨h1,_,h3,_⟩:=Qvm h;have hle:=Qvp h1;have g2:=QvN hK ((spN l).map (·.1)) 51 Yj.pos (QBU hK) (by kernel_rfl) (by simpa using h3) (by simpa using hle);simp[h,spL];refine cK (by simpa using QvM hK l hle) ?_;simp;refine cK (by simpa using g2) ?_;simp
 simp[h,spL]
end Go.Pf
namespace Go.Proofs
open Go.Shelf Go.RowKit Go.Lib
variable {P:Program} {ρ:Ren}
set_option maxHeartbeats 2000000 in
set_option maxRecDepth 100000 in
theorem QnP (L:SlLaysE0.n41 P ρ) (i0:TypeInfo) (z:Value) (size bytes:Nat) (hi:P.info? (ρ.t 23)=some i0) (hz0:i0.zero=some z) (hz1:i0.size=size) (hz2:i0.bytes=bytes) (hzs:z.cells.size=size) (hsz:0<size)
  (z23:∀ w,(Go.sizeOf (ρ.t 23)).run P w=.ok size w) (a:Addr) (c:Nat) (w:World) :
  Calls P (ρ.f 41) #[.slice (some a) 0 c] w fun e w'=>∃ v',e=.returned v'/\w'.ownsRow w.heap.size (ρ.t 23) size v' 0 []/\Below w.heap.size w w':=by
 have mixed:=L.mixed;have t4:=L.t4;have a4:=L.a4;have z4:=L.z4;have v4:=L.v4;have t22:=L.t22;have a22:=L.a22;have z22:=L.z22;have v22:=L.v22;have q22:∀ (w:World) (a:Option Addr) (n c n' c':Nat),(binOp .eql (ρ.t 22) (.slice a n c) (.slice none n' c')).run P w=.ok (.bool a.isNone) w:=fun w a n c n' c'=>Lib.run_eql_slice_nil w _ _ a n c n' c' L.t22;have u22:∀ w,Sem.run P (underlying (ρ.t 22)) w=.ok (TypeDesc.slice (ρ.t 23)) w:=run_underlying t22;obtain ⟨_,_,FG⟩:=L.f41
 go_enter FG,SlBodyN.n41_ntmps ρ
 go_wp2_with (at_builtin;refine wpList_append_own _ rfl _ _ (ρ.t 22) rfl w.heap.size (ρ.t 23) i0 z size bytes t22 hi hz0 hz1 hz2 hzs hsz _ _ _ rfl (World.ownsRow_made w #[] 0 (QKJ _) (QLV _) (by simp)) a 0 c [] rfl ?qc1 ?qc2 ?qc3 ?qc4 ?qc5 ?qc6 ?_)
 case qc1=>simp
 case qc2=>grind
 case qc3=>grind
 case qc4=>simp
 case qc5=>simp
 case qc6=>simp
 intro v' w1 hown hgrow hnil
 go_wp2
 go_ret
 refine ⟨v',rfl,by simpa using hown,?_⟩;exact ((Below.refl _ w).alloc (QKJ _) _).grown hgrow (by simp) (by intro k hk;simp[Value.ownBlock] at hk;omega)
end Go.Proofs
namespace Go.Ev
open Go Go.RowKit
section
variable {P:Program} {K:World->Prop}
theorem QqK {f:FuncId} {e:TypeId} {sz bytes:Nat}
  (hcl:∀ (b off n c:Nat) (news:List Value) (w:World),news.length=n*sz->n<=maxLen->n*bytes<=140737488355328->(∀ (j:Nat) (u:Value),news[j]?=some u->w.cell? ⟨b,off+j,none⟩=some u)->(∀ u∈news,u.oneCell'=true) ->
    Calls P f #[.slice (some ⟨b,off,none⟩) n c] w fun x w'=>∃ v',x=.returned v'/\w'.ownsRow w.heap.size e sz v' n news/\v'≠.slice none 0 0/\Below w.heap.size w w')
  (hnil:∀ w:World,Calls P f #[.slice none 0 0] w fun x w'=>x=.returned (.slice none 0 0)/\w'=w)
  (hzero:∀ (a:Addr) (w:World),Calls P f #[.slice (some a) 0 0] w fun x w'=>∃ v',x=.returned v'/\w'.ownsRow w.heap.size e sz v' 0 []/\Below w.heap.size w w')
  (rows:List (List IV)) (hb:rows.length*bytes<=140737488355328) (hsz:∀ c∈rows,c.length=sz):Qh7 P K f [.sl sz rows] (.yl 0 rows.length) e sz rows 0:=by
 by_cases hne:rows=[]
 ·subst hne;intro w ok vs hk hnew hl hvs;obtain ⟨v0,rfl⟩:∃ v0,vs=[v0]:=by
   match vs,hl with
   | [v],_=>exact ⟨v,rfl⟩
  have hrep:=hvs 0 _ v0 rfl rfl
  have fin:∀ (v':Value) (w':World),w'.ownsRow w.heap.size e sz v' 0 []->Below w.heap.size w w' ->
    ∃ v l,Ending.returned v'=.returned v/\QG (fun b=>b<w.heap.size) (okL ok (one (XE e sz [] 0)) (fun _=>l)) w' (one (XE e sz [] 0)) (fun _=>l) (XE e sz [] 0) l /\
     QA (okL ok (one (XE e sz [] 0)) (fun _=>l)) w' (one (XE e sz [] 0)) (fun _=>l) (ren 0 (.yl 0 0)) v/\Below w.heap.size w w':=by
   intro v' w' hown hbel;have hsl:=Jm hown;have hge:∀ b,v'.ownBlock=some b->w.heap.size<=b:=fun b h=>(hown.lt b h).1;have hown0:w'.ownsRow 0 e sz v' 0 []:=by
    obtain ⟨h1,h2⟩:=hown;refine ⟨h1,?_⟩;grind
   refine ⟨v',.arr v' [],rfl,⟨⟨by simpa using hown0,fun b h1 h2=>by grind⟩,QLV _,by simp,by simp,by simp⟩,?_,hbel⟩;exact QA.yl (ok:=okL ok (one (XE e sz [] 0)) (fun _=>.arr v' [])) (w:=w') (lo:=one (XE e sz [] 0)) (L:=fun _=>.arr v' []) 0 e sz [] 0 v' [] (by simp[one,XE]) rfl hsl
  cases hrep with
  | nils _=>exact (hnil w).mono fun x w' ⟨h1,h2⟩=>by subst h1 h2;exact fin _ _ ⟨by simp,.inl ⟨rfl,rfl⟩⟩ (Below.refl _ _)
  | nilz _ a=>exact (hzero a w).mono fun x w' ⟨v',h1,h2,h3⟩=>by grind
  | sl _ _ b off cap u hlc hc hs hu hx=>exact (hcl b off 0 cap [] w (by simp) (by simp) (by simp) (by simp) (by simp)).mono fun x w' ⟨v',h1,h2,_,h3⟩=>by grind
 exact Vv hcl rows hb hsz hne
end
end Go.Ev
namespace Go.Pf
open Go Go.Ev Go.Proofs Go.RowKit Go.Shelf Go.Proofs.Tryz
set_option maxRecDepth 8000
noncomputable def Qjj (t:TypeId) (h:(prog.info? t).isSome=true):TypeInfo:=(prog.info? t).get h
noncomputable def Qwg (i:TypeInfo) (h:i.zero.isSome=true):Value:=i.zero.get h
section
variable {K:World->Prop}
theorem QaM {f:FuncId} {ρ:Ren} {e:TypeId} (sz bytes:Nat) (L:SlLaysE0.n41 prog ρ) (hf:ρ.f 41=f) (he:ρ.t 23=e) (h1:(prog.info? e).isSome=true) (h2:(Qjj e h1).zero.isSome=true) (h3:(Qjj e h1).size=sz) (h4:(Qjj e h1).bytes=bytes) (h5:(Qwg (Qjj e h1) h2).cells.size=sz) (h0:0<sz)
  (hz:∀ w,(Go.sizeOf e).run prog w=.ok sz w) (rows:List (List IV)) (hb:rows.length*bytes<=140737488355328) (hsz:∀ c∈rows,c.length=sz):Gp K f [.sl sz rows] (.yl 0 rows.length) e sz rows 0:=by
 subst hf he;have hi:prog.info? (ρ.t 23)=some (Qjj _ h1):=by simp[Qjj]
 have hz0:(Qjj _ h1).zero=some (Qwg _ h2):=by simp[Qwg]
 exact QqK (fun b off n c news w g1 g2 g3 g4 g5=>AnyE.slices_Clone L _ _ sz bytes hi hz0 h3 h4 h5 h0 hz b off n c news w g1 g2 g3 g4 g5) (fun w=>AnyE.slices_Clone_nil L 0 0 w)
  (fun a w=>QnP L _ _ sz bytes hi hz0 h3 h4 h5 h0 hz a 0 w) rows hb hsz
theorem QCA (l:List Qv) (hl:l.length<=1000):Gp K 84 [Qz l] (.yl 0 l.length) 91 5 (l.map dC) 0:=by
 have h:=QaM (K:=K) (f:=84) (e:=91) 5 40 Tryz.clone84 rfl rfl (by kernel_rfl) (by kernel_rfl) (by kernel_rfl) (by kernel_rfl) (by kernel_rfl) (by decide) sizeOf91 (l.map dC) (by simp;omega) (by simp);simpa using h
theorem QCz (l:List XB) (hl:l.length<=1000):Gp K 85 [Qu l] (.yl 0 l.length) 160 5 (l.map sC) 0:=by
 have h:=QaM (K:=K) (f:=85) (e:=160) 5 40 Tryz.clone85 rfl rfl (by kernel_rfl) (by kernel_rfl) (by kernel_rfl) (by kernel_rfl) (by kernel_rfl) (by decide) sizeOf160 (l.map sC) (by simp;omega) (by simp);simpa using h
theorem QCy (l:List ZC) (hl:l.length<=1000):Gp K 86 [Zt l] (.yl 0 l.length) 178 3 (l.map leC) 0:=by
 have h:=QaM (K:=K) (f:=86) (e:=178) 3 24 Tryz.clone86 rfl rfl (by kernel_rfl) (by kernel_rfl) (by kernel_rfl) (by kernel_rfl) (by kernel_rfl) (by decide) sizeOf178 (l.map leC) (by simp;omega) (by simp);simpa using h
theorem QCx (l:List ZD) (hl:l.length<=1000):Gp K 87 [J1 l] (.yl 0 l.length) 181 4 (l.map baC) 0:=by
 have h:=QaM (K:=K) (f:=87) (e:=181) 4 32 Tryz.clone87 rfl rfl (by kernel_rfl) (by kernel_rfl) (by kernel_rfl) (by kernel_rfl) (by kernel_rfl) (by decide) sizeOf181 (l.map baC) (by simp;omega) (by simp);simpa using h
theorem QCw (l:List Rod) (hl:l.length<=1000):Gp K 88 [QiG l] (.yl 0 l.length) 169 3 (l.map roC) 0:=by
 have h:=QaM (K:=K) (f:=88) (e:=169) 3 24 Tryz.clone88 rfl rfl (by kernel_rfl) (by kernel_rfl) (by kernel_rfl) (by kernel_rfl) (by kernel_rfl) (by decide) sizeOf169 (l.map roC) (by simp;omega) (by simp);simpa using h
theorem QCv (l:List Q2) (hl:l.length<=1000):Gp K 89 [Qay l] (.yl 0 l.length) 155 7 (l.map reC) 0:=by
 have h:=QaM (K:=K) (f:=89) (e:=155) 7 56 Tryz.clone89 rfl rfl (by kernel_rfl) (by kernel_rfl) (by kernel_rfl) (by kernel_rfl) (by kernel_rfl) (by decide) sizeOf155 (l.map reC) (by simp;omega) (by simp);simpa using h
theorem QCu (l:List Qah) (hl:l.length<=1000):Gp K 90 [YW l] (.yl 0 l.length) 60 3 (l.map trC) 0:=by
 have h:=QaM (K:=K) (f:=90) (e:=60) 3 24 Tryz.clone90 rfl rfl (by kernel_rfl) (by kernel_rfl) (by kernel_rfl) (by kernel_rfl) (by kernel_rfl) (by decide) sizeOf60 (l.map trC) (by simp;omega) (by simp);simpa using h
end
end Go.Pf
namespace Go.Pf
open Go Go.Ev Go.Proofs Go.RowKit Go.Proofs.Tryz
variable {K:World->Prop} (hK:∀ w w',K w->Below w.heap.size w w'->K w')
set_option maxRecDepth 8000
structure Ze (h:Qk):Prop where
 ze:Qva h.ze
 zi:h.zq.zi.length<=1000
 zj:h.zq.zj.length<=1000
@[simp] def Qr0 (k:Nat) (h:Qk):List AV:=[.yl k h.ze.zc.za.length,.yl (k+1) h.ze.zc.zg.length,.iv (.int .i64 h.ze.zc.zh),.yl (k+2) h.ze.zb.zd.length,.iv (.int .i64 h.ze.zb.zr),.iv (.int .i64 h.ze.zb.zu),.iv (.int .i64 h.ze.zb.zw),
 .yl (k+3) h.ze.zb.zk.length,.iv (.int .i64 h.ze.zb.zh),.yl (k+4) h.ze.zf.length,.iv (.int .i64 h.ze.zo),.iv (.int .i64 h.ze.z6),.iv (.int .i64 h.zq.yc),.iv (.int .i64 h.zq.z8),.iv (.int .i64 h.zq.z9),.yl (k+5) h.zq.zi.length,.yl (k+6) h.zq.zj.length,.iv (.int .i64 h.zq.zh)]
@[simp] def Xp (k:Nat) (h:Qk):Qm:=[(k,.arr 91 5 (emb (h.ze.zc.za.map dC)) 0),(k+1,.arr 160 5 (emb (h.ze.zc.zg.map sC)) 0),(k+2,.arr 178 3 (emb (h.ze.zb.zd.map leC)) 0),(k+3,.arr 181 4 (emb (h.ze.zb.zk.map baC)) 0),
 (k+4,.arr 60 3 (emb (h.ze.zf.map trC)) 0),(k+5,.arr 169 3 (emb (h.zq.zi.map roC)) 0),(k+6,.arr 155 7 (emb (h.zq.zj.map reC)) 0)]
include hK
theorem Qpp (h:Qk) (hs:Ze h):Gh K 43 [.iv (hoV h)] [] [] (.agg (Qr0 0 h)) (Xp 0 h):=by
 obtain ⟨⟨h1,h2,h3,h4,h5⟩,h6,h7⟩:=hs;refine Zp [17,22,33,38,62,49,54] [] [] [] (fk func43 c43 (by kernel_rfl)).p (by simp[c43]) (by simp) ?_ ?_ ?_ ?_
 ·intro q hq;simp only[Xp,QKU,QK1,or_false] at hq;rcases hq with rfl | rfl | rfl | rfl | rfl | rfl | rfl<;>exact ⟨by simp,rfl,Vw _ _ _ _ _⟩
 ·simp[clA,clAL]
 ·simp
 generalize hG:Qic c43.res [17,22,33,38,62,49,54] [] (.agg (Qr0 0 h)) (Xp 0 h)=G;simp[c43];refine Z9 (QCA h.ze.zc.za h1) (by simp[Qc]) ?_;simp;refine Z9 (QCz h.ze.zc.zg h2) (by simp[Qc]) ?_;simp;refine Z9 (QCy h.ze.zb.zd h3) (by simp[Qc]) ?_;simp;refine Z9 (QCx h.ze.zb.zk h4) (by simp[Qc]) ?_;simp;refine Z9 (QCw h.zq.zi h6) (by simp[Qc]) ?_;simp;refine Z9 (QCv h.zq.zj h7) (by simp[Qc]) ?_;simp;refine Z9 (QCu h.ze.zf h5) (by simp[Qc]) ?_;simp;rw[<- hG];refine ⟨⟨_,rfl,rfl⟩,fun q hq=>?_,by simp⟩;simp only[Xp,QKU,QK1,or_false] at hq;rcases hq with rfl | rfl | rfl | rfl | rfl | rfl | rfl<;>simp[rnO,nth,QBe,emb]
omit hK
@[reducible] def QE (h:Qk):Qm:=[(0,.box ((hoC h).map AV.iv))]
def U4 (r:Nat) (y:Txt) (h':Qk):Env->Qm->Prop:=Qic [Qdt.tmp r] [0] [(0,0,0)] (.iv (.str y)) (QE h')
theorem Jt (h:Qk):∀ q∈QE h,q.1<1/\XR q.2=true/\clO ((QE h).map (·.1)) q.2=true:=by
 intro q hq;simp only[QKU,QK1,or_false] at hq;subst hq;exact ⟨by omega,rfl,QjQ _ _⟩
theorem QQ {r:Nat} {y:Txt} {h':Qk} {e:Env} {o:Qm} (h1:Ev.look e r=.iv (.str y)) (h2:Ev.look e 0=.loc 0 0) (h3:Qc o 0=some (.box ((hoC h').map AV.iv))):U4 r y h' e o:=by
 refine ⟨⟨.iv (.str y),?_,rfl⟩,fun q hq=>?_,fun q hq=>?_⟩
 ·simp[Qvz,Qsl,h1]
 ·simp only[QKU,QK1,or_false] at hq;subst hq;refine h3.trans ?_;simp only[rnO,QgO]
 grind
section
theorem Qo {f:FuncId} {A:AFn} {r:Nat} {args:List IV} {h h':Qk} {y:Txt} (hok:Zv prog f A [0]) (hres:A.res=[.tmp r]) (hlen:args.length<A.nt)
  (hrun:WpF prog K (FnF (U4 r y h')) [.code A.code] (Yi 0 (.loc 0 0::args.map .iv)) (QE h)):Gh K f (.loc 0 0::args.map .iv) (QE h) [0] (.iv (.str y)) (QE h'):=by
 refine Zp [0] [0] [0] [(0,0,0)] hok (by simp;omega) (by simp) (Jt h') (by simp[clA]) ?_ (by rw[hres];exact hrun);simp[nth,Qc];grind
theorem Yo {args0:List IV} {o:Qm} {h h':Qk} {a:Nat} (ho:Qc o a=some (.box ((hoC h).map AV.iv))):HOk [a] (.loc 0 0::args0.map .iv) o (QE h) (QE h'):=by
 refine ⟨by simp,?_,fun q hq=>?_,fun i hi h1=>?_,fun q hq=>⟨(Jt h' q hq).1,(Jt h' q hq).2.1⟩⟩
 ·simp[clA]
 ·have h1:=Jt h q hq;refine ⟨h1.1,?_,h1.2.2,h1.2.1⟩;simp only[QKU,QK1,or_false] at hq;subst hq;refine ho.trans ?_;simp only[rnO,QgO]
 ·simp at hi;subst hi;simp[Qc] at h1
include hK
theorem QvP (h:Qk) (hs:Ze h):Gd K 42 [hoV h] (.int .i64 (QsF h)):=by
 refine Qb hK (fk func42 c42 (by kernel_rfl)) (by simp) ?_;have g1:=QvK hK h.ze hs.ze;have g2:=QvJ hK h.zq hs.zi hs.zj;simp;refine cK (by simpa using g1) ?_;unfold QsF okH;by_cases h1:OkP h.ze
 ·simp[h1];refine cK (by simpa using g2) ?_;by_cases h2:OkU h.zq<;>simp[h2]
 ·simp[h1]
end
theorem QKq (h:Qk):imms (fun i=>if i=0 then none else Qc ((0,.box (Qr0 1 h))::Xp 1 h) i) 40 (Qr0 1 h)=some (hoC h):=by
 simp[imms,imm,immss,Qc,QKM]
def CH (K:World->Prop) (g:FuncId) (cs:List IV) (h h':Qk):Prop:=Gh K g (.loc 0 0::cs.map .iv) ((0,.box (Qr0 1 h))::Xp 1 h) [0] (.iv (.xd [])) (QE h')
theorem Qv5 (h:Qk):∀ q∈((0,AO.box (Qr0 1 h))::Xp 1 h),q.1<8/\XR q.2=true/\clO (((0,AO.box (Qr0 1 h))::Xp 1 h).map (·.1)) q.2=true:=by
 intro q hq;simp only[Xp,QKU,QK1,or_false] at hq;rcases hq with rfl | rfl | rfl | rfl | rfl | rfl | rfl | rfl
 ·exact ⟨by omega,rfl,by simp[clO,clAL,clA]⟩
 all_goals exact ⟨by show (_:Nat)<8;omega,rfl,Vw _ _ _ _ _⟩
def QAp (h':Qk):Env->Qm->Prop:=Qic [] [0,1,2,3,4,5,6,7] [(0,0,0)] (.iv (.xd [])) ((0,.box (Qr0 1 h'))::Xp 1 h')
theorem QcM {h':Qk} {e:Env} {o:Qm} (h1:Ev.look e 0=.loc 0 0) (h2:∀ q∈((0,AO.box (Qr0 1 h'))::Xp 1 h'),Qc o q.1=some q.2):QAp h' e o:=by
 refine ⟨⟨.iv (.xd []),rfl,rfl⟩,fun q hq=>?_,fun q hq=>?_⟩
 ·have h3:=h2 q hq;simp only[Xp,QKU,QK1,or_false] at hq;rcases hq with rfl | rfl | rfl | rfl | rfl | rfl | rfl | rfl
  ·refine h3.trans ?_;simp[rnO,rnL,rn,nth]
  all_goals
   refine h3.trans ?_;rw[Ya]
 grind
section
variable {K:World->Prop}
theorem Uk {f:FuncId} {A:AFn} {cs:List IV} {h h':Qk} (hok:Zv prog f A [0]) (hres:A.res=[]) (hlen:cs.length<A.nt)
  (hrun:WpF prog K (FnF (QAp h')) [.code A.code] (Yi 0 (.loc 0 0::cs.map .iv)) ((0,.box (Qr0 1 h))::Xp 1 h)):CH K f cs h h':=by
 refine YD.give (Zp [0,1,2,3,4,5,6,7] [0] [0] [(0,0,0)] hok (by simp;omega) (by decide) (Qv5 h') (by simp[clA]) ?_ (by rw[hres];exact hrun)) (by simp) (QKq h');simp[nth,Qc];grind
theorem Qut:Zv prog 266 QCG [0]:=⟨_,func266,by kernel_rfl⟩
theorem QuA:Zv prog 179 QCR [0]:=⟨_,func179,by kernel_rfl⟩
theorem Quz:Zv prog 180 QAa [0]:=⟨_,func180,by kernel_rfl⟩
theorem Quy:Zv prog 181 QCQ [0]:=⟨_,func181,by kernel_rfl⟩
theorem Qux:Zv prog 182 QCP [0]:=⟨_,func182,by kernel_rfl⟩
theorem Quw:Zv prog 183 QCO [0]:=⟨_,func183,by kernel_rfl⟩
def Zh (h:Qk) (s:XB):Qk:={ h with ze:={ h.ze with zc:={ h.ze.zc with zg:=h.ze.zc.zg++[s] } } }
def YC (h:Qk) (b:ZD):Qk:={ h with ze:={ h.ze with zb:={ h.ze.zb with zk:=h.ze.zb.zk++[b] } } }
def Z1 (h:Qk) (x:Q2):Qk:={ h with zq:={ h.zq with zj:=h.zq.zj++[x] } }
def Zw (h:Qk) (t:Qah):Qk:={ h with ze:={ h.ze with zc:={ h.ze.zc with za:=h.ze.zc.za++[⟨4,0,0,0,0⟩] },zf:=h.ze.zf++[t] } }
def Xb (h:Qk):Qk:={ h with ze:={ h.ze with zc:={ h.ze.zc with za:=h.ze.zc.za.dropLast },zf:=if (h.ze.zc.za.getLast?.map (·.zp))=some 4 then h.ze.zf.dropLast else h.ze.zf } }
theorem QE3 (h:Qk) (d:Qv) (hs:Ze h):CH K 266 [.ptr (dC d)] h (Qp h d):=by
 obtain ⟨⟨h1,h2,h3,h4,h5⟩,h6,h7⟩:=hs;refine Uk Qut rfl (by simp[QCG]) ?_;generalize hG:QAp (Qp h d)=G;simp[QCG];rw[<- hG]
 repeat' first | omega | exact QcM rfl (by
  intro q hq;simp only[Xp,QKU,QK1,or_false] at hq;rcases hq with rfl | rfl | rfl | rfl | rfl | rfl | rfl | rfl<;>simp[Qc,Qp]) | intro _ | apply And.intro
theorem QE8 (h:Qk) (a b c:Int) (hs:Ze h):CH K 179 [.ptr [QU [a,b,c]]] h (Zw h ⟨a,b,c⟩):=by
 obtain ⟨⟨h1,h2,h3,h4,h5⟩,h6,h7⟩:=hs;refine Uk QuA rfl (by simp[QCR]) ?_;generalize hG:QAp (Zw h ⟨a,b,c⟩)=G;simp[QCR];rw[<- hG]
 repeat' first | omega | exact QcM rfl (by
  intro q hq;simp only[Xp,QKU,QK1,or_false] at hq;rcases hq with rfl | rfl | rfl | rfl | rfl | rfl | rfl | rfl<;>simp[Qc,Zw]) | intro _ | apply And.intro
theorem QE6 (h:Qk) (a b c d e:Int) (hs:Ze h):CH K 181 [.ptr [QU [a,b,c,d,e]]] h (Zh h ⟨a,b,c,d,e⟩):=by
 obtain ⟨⟨h1,h2,h3,h4,h5⟩,h6,h7⟩:=hs;refine Uk Quy rfl (by simp[QCQ]) ?_;generalize hG:QAp (Zh h ⟨a,b,c,d,e⟩)=G;simp[QCQ];rw[<- hG]
 repeat' first | omega | exact QcM rfl (by
  intro q hq;simp only[Xp,QKU,QK1,or_false] at hq;rcases hq with rfl | rfl | rfl | rfl | rfl | rfl | rfl | rfl<;>simp[Qc,Zh]) | intro _ | apply And.intro
theorem QE5 (h:Qk) (a b c d:Int) (hs:Ze h):CH K 182 [.ptr [QU [a,b,c,d]]] h (YC h ⟨a,b,c,d⟩):=by
 obtain ⟨⟨h1,h2,h3,h4,h5⟩,h6,h7⟩:=hs;refine Uk Qux rfl (by simp[QCP]) ?_;generalize hG:QAp (YC h ⟨a,b,c,d⟩)=G;simp[QCP];rw[<- hG]
 repeat' first | omega | exact QcM rfl (by
  intro q hq;simp only[Xp,QKU,QK1,or_false] at hq;rcases hq with rfl | rfl | rfl | rfl | rfl | rfl | rfl | rfl<;>simp[Qc,YC]) | intro _ | apply And.intro
theorem QE4 (h:Qk) (a b c d e f g:Int) (hs:Ze h):CH K 183 [.ptr [QU [a,b,c,d,e,f,g]]] h (Z1 h ⟨a,b,c,d,e,f,g⟩):=by
 obtain ⟨⟨h1,h2,h3,h4,h5⟩,h6,h7⟩:=hs;refine Uk Quw rfl (by simp[QCO]) ?_;generalize hG:QAp (Z1 h ⟨a,b,c,d,e,f,g⟩)=G;simp[QCO];rw[<- hG]
 repeat' first | omega | exact QcM rfl (by
  intro q hq;simp only[Xp,QKU,QK1,or_false] at hq;rcases hq with rfl | rfl | rfl | rfl | rfl | rfl | rfl | rfl<;>simp[Qc,Z1,emb]) | intro _ | apply And.intro
theorem QE7 (h:Qk) (hne:h.ze.zc.za≠[]) (ht:(h.ze.zc.za.getLast?.map (·.zp))=some 4->h.ze.zf≠[]) (hs:Ze h):CH K 180 [.ptr [.int .i64 ((h.ze.zc.za.length:Int)-1)]] h (Xb h):=by
 obtain ⟨⟨h1,h2,h3,h4,h5⟩,h6,h7⟩:=hs;obtain ⟨D,d,hD⟩:∃ D d,h.ze.zc.za=D++[d]:=⟨_,_,(QLM hne).symm⟩;have hr:QAa.res=[]:=rfl;obtain ⟨⟨⟨za,zg,cw⟩,m,zf,zo,z6⟩,u⟩:=h;simp only at *;subst hD;refine Zp [0] [0] [0] [(0,0,0)] Quz (by simp[QAa]) (by simp) (Jt _) (by simp[clA]) ?_ ?_
 ·simp[nth,Qc];grind
 rw[hr]
 have fin:∀ (e:Env) (o:Qm) (h':Qk),Ev.look e 0=.loc 0 0->Qc o 0=some (.box ((hoC h').map AV.iv))->Qic [] [0] [(0,0,0)] (.iv (.xd [])) (QE h') e o:=fun e o h' q1 q2=>by
  refine ⟨⟨.iv (.xd []),rfl,rfl⟩,fun q hq=>?_,fun q hq=>?_⟩
  ·simp only[QKU,QK1,or_false] at hq;subst hq;refine q2.trans ?_;simp only[rnO,QgO]
  grind
 generalize hG:Qic [] [0] [(0,0,0)] (.iv (.xd [])) (QE (Xb ⟨⟨⟨D++[d],zg,cw⟩,m,zf,zo,z6⟩,u⟩))=G;simp at ht h1;have tk:∀ x:List IV,List.take D.length (List.take (D.length+1) (D.map dC++[x]))=D.map dC:=fun x=>by
  grind
 by_cases h4:d.zp=4
 ·have htl:1<=zf.length:=QLo.2 (ht h4);have htn:((zf.length:Int)-1).toNat=zf.length-1:=by omega
  simp[QAa,h4,htn];rw[<- hG]
  repeat' first | omega | exact fin _ _ _ rfl (by simp[Qc,Xb,h4,List.dropLast_eq_take,tk]) | intro _ | apply And.intro
 simp[QAa,h4];rw[<- hG]
 repeat' first | omega | exact fin _ _ _ rfl (by simp[Qc,Xb,h4,tk]) | intro _ | apply And.intro
end
theorem QuB:Zv prog 178 QCS [0]:=⟨_,func178,by kernel_rfl⟩
theorem QuC:Zv prog 177 QCT [0]:=⟨_,func177,by kernel_rfl⟩
theorem QzZ:Zv prog 91 c91 [0]:=⟨_,func91,by kernel_rfl⟩
theorem QzY:Zv prog 92 c92 [0]:=⟨_,func92,by kernel_rfl⟩
theorem QzX:Zv prog 93 c93 [0]:=⟨_,func93,by kernel_rfl⟩
theorem QzW:Zv prog 94 c94 [0]:=⟨_,func94,by kernel_rfl⟩
theorem QzV:Zv prog 95 c95 [0]:=⟨_,func95,by kernel_rfl⟩
theorem QzU:Zv prog 96 c96 [0]:=⟨_,func96,by kernel_rfl⟩
theorem QzT:Zv prog 97 c97 [0]:=⟨_,func97,by kernel_rfl⟩
theorem QzS:Zv prog 98 c98 [0]:=⟨_,func98,by kernel_rfl⟩
noncomputable def chT (h':Qk):Txt:=if okH h' then Qvj else tNo
noncomputable def chH (h h':Qk):Qk:=if okH h' then h' else h
include hK
theorem UG (h h':Qk) (g:FuncId) (cs:List IV) (hs:Ze h) (hs':Ze h') (hc:callee prog g=true) (hg:CH K g cs h h') :
  Gh K 178 (.loc 0 0::[IV.clo g [] cs].map .iv) (QE h) [0] (.iv (.str (chT h'))) (QE (chH h h')):=by
 refine Qo QuB rfl (by simp[QCS]) ?_;generalize hG:U4 4 (chT h') (chH h h')=G;have g28:=Qpp hK h hs;have g9:=QvP hK h' hs';simp[QCS];refine QH (ids:=[11000,11001,11003,11007,11009,11015,11016]) g28 rfl ?_ ?_
 ·refine ⟨by decide,by simp[clA],by simp,?_,?_⟩
  ·simp[Qc];intro i hi;have:i=0\/i=1\/i=2\/i=3\/i=4\/i=5\/i=6:=by omega
   rcases this with rfl | rfl | rfl | rfl | rfl | rfl | rfl<;>simp[nth]
  intro q hq;simp only[Xp,QKU,QK1,or_false] at hq;rcases hq with rfl | rfl | rfl | rfl | rfl | rfl | rfl<;>exact ⟨by show (_:Nat)<7;omega,rfl⟩
 ·simp[rn,rnL,nth,Ya];refine ⟨hc,?_⟩;refine QH (ids:=[5,11000,11001,11003,11007,11009,11015,11016]) hg (by simp[nth,rn]) ?_ ?_
  ·refine ⟨by decide,by simp[clA],fun q hq=>?_,fun i hi h1=>?_,fun q hq=>?_⟩
   ·have h1:=Qv5 h q hq;refine ⟨h1.1,?_,h1.2.2,h1.2.1⟩;simp only[Xp,QKU,QK1,or_false] at hq;rcases hq with rfl | rfl | rfl | rfl | rfl | rfl | rfl | rfl
    ·simp[Qc,nth,rnO,rnL,rn]
    all_goals
     rw[Ya];simp[Qc,nth]
   ·simp at hi;have:i=0\/i=1\/i=2\/i=3\/i=4\/i=5\/i=6\/i=7:=by omega
    rcases this with rfl | rfl | rfl | rfl | rfl | rfl | rfl | rfl<;>simp[Qc] at h1
   have h1:=Jt h' q hq;grind
  ·simp[rn,nth];refine cK (by simpa using g9) ?_;rw[<- hG];unfold QsF chT chH;by_cases ho:okH h'
   ·simp[ho];exact QQ rfl rfl (by simp[Qc])
   ·simp[ho];exact QQ rfl rfl (by simp[Qc])
theorem Qfm (h:Qk) (d:Qv) (hs:Ze h) (hs':Ze (Qp h d)):Gh K 177 (.loc 0 0::[IV.agg (dC d)].map .iv) (QE h) [0] (.iv (.str (chT (Qp h d)))) (QE (chH h (Qp h d))):=by
 refine Qo QuC rfl (by simp[QCT]) ?_;generalize hG:U4 4 (chT (Qp h d)) (chH h (Qp h d))=G;have hg:=UG hK h (Qp h d) 266 [.ptr (dC d)] hs hs' (by kernel_rfl) (QE3 h d hs);simp[QCT];refine QH hg (by simp[nth,rn]) (Yo (by simp[Qc])) ?_;simp[nth,rn];rw[<- hG];exact QQ rfl rfl (by simp[Qc])
theorem Qxp (h:Qk) (a b c d:Int) (hs:Ze h) (hs':Ze (Qp h ⟨1,a,b,c,d⟩)):Gh K 91 (.loc 0 0::[QU [a,b,c,d]].map .iv) (QE h) [0] (.iv (.str (chT (Qp h ⟨1,a,b,c,d⟩)))) (QE (chH h (Qp h ⟨1,a,b,c,d⟩))):=by
 refine Qo QzZ rfl (by simp[c91]) ?_;generalize hG:U4 4 (chT (Qp h ⟨1,a,b,c,d⟩)) (chH h (Qp h ⟨1,a,b,c,d⟩))=G;have hg:=Qfm hK h ⟨1,a,b,c,d⟩ hs hs';simp[c91];refine QH hg (by simp[nth,rn]) (Yo (by simp[Qc])) ?_;simp[nth,rn];rw[<- hG];exact QQ rfl rfl (by simp[Qc])
theorem Qxo (h:Qk) (a b:Int) (hs:Ze h) (hs':Ze (Qp h ⟨2,a,b,0,0⟩)):Gh K 92 (.loc 0 0::[QU [a,b]].map .iv) (QE h) [0] (.iv (.str (chT (Qp h ⟨2,a,b,0,0⟩)))) (QE (chH h (Qp h ⟨2,a,b,0,0⟩))):=by
 refine Qo QzY rfl (by simp[c92]) ?_;generalize hG:U4 4 (chT (Qp h ⟨2,a,b,0,0⟩)) (chH h (Qp h ⟨2,a,b,0,0⟩))=G;have hg:=Qfm hK h ⟨2,a,b,0,0⟩ hs hs';simp[c92];refine QH hg (by simp[nth,rn]) (Yo (by simp[Qc])) ?_;simp[nth,rn];rw[<- hG];exact QQ rfl rfl (by simp[Qc])
theorem Qxn (h:Qk) (hs:Ze h) (hs':Ze (Qp h ⟨3,0,0,0,0⟩)):Gh K 93 (.loc 0 0::[QU []].map .iv) (QE h) [0] (.iv (.str (chT (Qp h ⟨3,0,0,0,0⟩)))) (QE (chH h (Qp h ⟨3,0,0,0,0⟩))):=by
 refine Qo QzX rfl (by simp[c93]) ?_;generalize hG:U4 4 (chT (Qp h ⟨3,0,0,0,0⟩)) (chH h (Qp h ⟨3,0,0,0,0⟩))=G;have hg:=Qfm hK h ⟨3,0,0,0,0⟩ hs hs';simp[c93];refine QH hg (by simp[nth,rn]) (Yo (by simp[Qc])) ?_;simp[nth,rn];rw[<- hG];exact QQ rfl rfl (by simp[Qc])
theorem Qxm (h:Qk) (a b c:Int) (hs:Ze h) (hs':Ze (Zw h ⟨a,b,c⟩)):Gh K 94 (.loc 0 0::[QU [a,b,c]].map .iv) (QE h) [0] (.iv (.str (chT (Zw h ⟨a,b,c⟩)))) (QE (chH h (Zw h ⟨a,b,c⟩))):=by
 refine Qo QzW rfl (by simp[c94]) ?_;generalize hG:U4 4 (chT (Zw h ⟨a,b,c⟩)) (chH h (Zw h ⟨a,b,c⟩))=G;have hg:=UG hK h (Zw h ⟨a,b,c⟩) 179 [.ptr [QU [a,b,c]]] hs hs' (by kernel_rfl) (QE8 h a b c hs);simp[c94];refine QH hg (by simp[nth,rn]) (Yo (by simp[Qc])) ?_;simp[nth,rn];rw[<- hG];exact QQ rfl rfl (by simp[Qc])
theorem Qpn (h:Qk) (a b c d e:Int) (hs:Ze h) (hs':Ze (Zh h ⟨a,b,c,d,e⟩)):Gh K 96 (.loc 0 0::[QU [a,b,c,d,e]].map .iv) (QE h) [0] (.iv (.str (chT (Zh h ⟨a,b,c,d,e⟩)))) (QE (chH h (Zh h ⟨a,b,c,d,e⟩))):=by
 refine Qo QzU rfl (by simp[c96]) ?_;generalize hG:U4 4 (chT (Zh h ⟨a,b,c,d,e⟩)) (chH h (Zh h ⟨a,b,c,d,e⟩))=G;have hg:=UG hK h (Zh h ⟨a,b,c,d,e⟩) 181 [.ptr [QU [a,b,c,d,e]]] hs hs' (by kernel_rfl) (QE6 h a b c d e hs);simp[c96];refine QH hg (by simp[nth,rn]) (Yo (by simp[Qc])) ?_;simp[nth,rn];rw[<- hG];exact QQ rfl rfl (by simp[Qc])
theorem Qxk (h:Qk) (a b c d:Int) (hs:Ze h) (hs':Ze (YC h ⟨a,b,c,d⟩)):Gh K 97 (.loc 0 0::[QU [a,b,c,d]].map .iv) (QE h) [0] (.iv (.str (chT (YC h ⟨a,b,c,d⟩)))) (QE (chH h (YC h ⟨a,b,c,d⟩))):=by
 refine Qo QzT rfl (by simp[c97]) ?_;generalize hG:U4 4 (chT (YC h ⟨a,b,c,d⟩)) (chH h (YC h ⟨a,b,c,d⟩))=G;have hg:=UG hK h (YC h ⟨a,b,c,d⟩) 182 [.ptr [QU [a,b,c,d]]] hs hs' (by kernel_rfl) (QE5 h a b c d hs);simp[c97];refine QH hg (by simp[nth,rn]) (Yo (by simp[Qc])) ?_;simp[nth,rn];rw[<- hG];exact QQ rfl rfl (by simp[Qc])
theorem Qxj (h:Qk) (a b c d e f g:Int) (hs:Ze h) (hs':Ze (Z1 h ⟨a,b,c,d,e,f,g⟩)):Gh K 98 (.loc 0 0::[QU [a,b,c,d,e,f,g]].map .iv) (QE h) [0] (.iv (.str (chT (Z1 h ⟨a,b,c,d,e,f,g⟩)))) (QE (chH h (Z1 h ⟨a,b,c,d,e,f,g⟩))):=by
 refine Qo QzS rfl (by simp[c98]) ?_;generalize hG:U4 4 (chT (Z1 h ⟨a,b,c,d,e,f,g⟩)) (chH h (Z1 h ⟨a,b,c,d,e,f,g⟩))=G;have hg:=UG hK h (Z1 h ⟨a,b,c,d,e,f,g⟩) 183 [.ptr [QU [a,b,c,d,e,f,g]]] hs hs' (by kernel_rfl) (QE4 h a b c d e f g hs);simp[c98];refine QH hg (by simp[nth,rn]) (Yo (by simp[Qc])) ?_;simp[nth,rn];rw[<- hG];exact QQ rfl rfl (by simp[Qc])
theorem Qxl (h:Qk) (ht:(h.ze.zc.za.getLast?.map (·.zp))=some 4->h.ze.zf≠[]) (hs:Ze h) (hs':Ze (Xb h)):Gh K 95 (.loc 0 0::[QU []].map .iv) (QE h) [0] (.iv (.str (if h.ze.zc.za=[] then tNo else chT (Xb h)))) (QE (if h.ze.zc.za=[] then h else chH h (Xb h))):=by
 have hl:=hs.ze.za;refine Qo QzV rfl (by simp[c95]) ?_;by_cases hne:h.ze.zc.za=[]
 ·simp only[hne,if_true];generalize hG:U4 4 tNo h=G;simp[c95,hne];refine Qh4 _ _ _ _ _ _ _ _ ?_;simp;rw[<- hG];exact QQ rfl rfl (by simp[Qc,hne])
 simp only[hne,if_false];generalize hG:U4 4 (chT (Xb h)) (chH h (Xb h))=G;have hlen:=QLo.2 hne;have hg:=UG hK h (Xb h) 180 [.ptr [.int .i64 ((h.ze.zc.za.length:Int)-1)]] hs hs' (by kernel_rfl) (QE7 h hne ht hs);have xa:¬ (h.ze.zc.za.length:Int)-1<0:=by omega
 simp[c95];intro _;refine ⟨by omega,?_⟩;refine Qh4 _ _ _ _ _ _ _ _ ?_;simp[xa];refine QH (ids:=[0,5]) hg (by simp[nth,rn]) ?_ ?_
 ·refine ⟨by decide,by simp[clA],fun q hq=>?_,fun i hi h1=>?_,fun q hq=>?_⟩
  ·have h1:=Jt h q hq;refine ⟨by grind,?_,h1.2.2,h1.2.1⟩;simp only[QKU,QK1,or_false] at hq;subst hq;simp[Qc,nth,rnO,rnL,rn]
  ·simp at hi;have:i=0\/i=1:=by omega
   rcases this with rfl | rfl
   ·simp[Qc] at h1
   simp[Qc,nth]
  have h1:=Jt (chH h (Xb h)) q hq;grind
 simp[nth,rn];rw[<- hG];exact QQ rfl rfl (by simp[Qc])
omit hK
theorem Qfj:∀ l:List Txt,Lib.join l [32]=YO l
 | []=>rfl
 | [x]=>by simp[Lib.join,YO]
 | x::y::r=>by
   have:=Qfj (y::r);simp only[YO];rw[<- this];simp[Lib.join]
theorem Qy9 (w:Txt) (hw:w.length<=1000):∃ n,((QdU w).isSome=true->n=(QdU w).getD 0)/\Gd KW 138 [.str w] (.xd [.int .i64 n,.bool (QdU w).isSome]):=by
 have g1:=Qyy w hw;have g3:=Qyx w [45];cases hv:QdU w with
 | some v =>
   obtain ⟨h1,h2,h3⟩:=QoG hv;have hb:=Lib.atoiAll_bounds h3;have g2:=Qjt v hb;rw[h3] at g1;rw[h1] at g2;refine ⟨v,fun _=>rfl,Qb hKW QfZ (by simp) ?_⟩;have h2':((Lib.trimPrefix w [45]).length:Int)<=9:=by omega
   simp;refine cK (by simpa using g1) ?_;simp;refine cK (by simpa using g2) ?_;simp;refine cK (by simpa using g3) ?_;simp[h2']
 | none =>
   cases ha:Lib.atoiAll w with
   | ok v =>
     have hb:=Lib.atoiAll_bounds ha;have g2:=Qjt v hb;rw[ha] at g1;refine ⟨v,fun h=>by simp at h,Qb hKW QfZ (by simp) ?_⟩;simp;refine cK (by simpa using g1) ?_;simp;refine cK (by simpa using g2) ?_;by_cases hi:Lib.itoa v=w
     ·have hl:¬ (Lib.trimPrefix w [45]).length<=9:=fun h=>by
       have:=Qo4 hi h;grind
      have hl':¬ ((Lib.trimPrefix w [45]).length:Int)<=9:=by omega
      simp[hi];refine cK (by simpa using g3) ?_;simp;omega
     simp[hi]
   | range =>
     rw[ha] at g1;refine ⟨Lib.atoiSat w,fun h=>by simp at h,Qb hKW QfZ (by simp) ?_⟩;simp;refine cK (by simpa using g1) ?_;simp
   | _ =>
     rw[ha] at g1;refine ⟨0,fun h=>by simp at h,Qb hKW QfZ (by simp) ?_⟩;simp;refine cK (by simpa using g1) ?_;simp
theorem Qfq (e:Int) (l:List Int) (h:e=0->Qbx l):Gd KW 184 [.int .i64 e,QU l] (.str (X7 l e)):=by
 refine Qb hKW (fk func184 QIV (by kernel_rfl)) (by simp) ?_;unfold X7 YN;by_cases h0:e=0;rotate_left
 ·by_cases h3:e=3
  ·simp[h3,Qgl]
  simp[h0,h3,tNo]
 ·subst h0;have hl:=h rfl;have h1:=hl.1;by_cases hne:l=[]
  ·subst hne;simp[Qgl]
  ·have hpos:=QLo.2 hne;have hne':¬ (l.length:Int)=0:=by omega
   simp[hne,hne'];intro _;refine Qi (fun i=>[(5,AV.yl 5 i),(16,AV.iv (QU l)),(17,AV.iv (.int .i64 l.length)),(18,AV.iv (.int .i64 (i:Nat)))]) (fun i=>[(5,.arr 9 1 (emb (((l.take i).map Lib.itoa).map fun s=>[.str s])) 0)]) l.length (fun _=>True) trivial ?_ ?_
   ·intro _;have hj:=Qd3 hl l.length;rw[QK0] at hj;have hg:=Qyc (l.map Lib.itoa) (by simpa using h1) (by rw[Qfj];omega);rw[Qfj] at hg;rw[Qa QkY.eq_1];simp[-List.map_map,Qca];rw[QKM (by simp)];refine YQ (by simpa using hg) (.inr rfl) ?_;simp
   ·intro i hi _ ih;have hg:=Qjt l[i] (by have:=hl.2 l[i] (QKL hi);omega);have e3:List.take (i+1) (List.map ((fun s=>[IV.str s])∘Lib.itoa) l)=List.take i (List.map ((fun s=>[IV.str s])∘Lib.itoa) l)++[[.str (Lib.itoa l[i])]]:=by
     rw[QKH (by simpa using hi)]
     simp
    rw[Qa QkY.eq_1];simp[hi] at ih |-;rw[e3] at ih;refine cK (by simpa using hg) ?_;simp;grind
theorem qW (l:List Int) (e:Int) (h:e=0->Qbx l):Gd KW 100 [QU l,.int .i64 e] (.str (X7 l e)):=by
 refine Qb hKW (fk func100 QJQ (by kernel_rfl)) (by simp) ?_;have hg:=Qfq e l h;simp;refine cK (by simpa using hg) ?_;simp
theorem Qfu (n e:Int) (h:e=0->Qbx [n]):Gd KW 105 [.int .i64 n,.int .i64 e] (.str (X7 [n] e)):=by
 refine Qb hKW (fk func105 QJN (by kernel_rfl)) (by simp) ?_;have hg:=Qfq e [n] h;simp;refine cK (by simpa using hg) ?_;simp
theorem Qft (a b e:Int) (h:e=0->Qbx [a,b]):Gd KW 108 [.agg [.int .i64 a,.int .i64 b],.int .i64 e] (.str (X7 [a,b] e)):=by
 refine Qb hKW (fk func108 QJL (by kernel_rfl)) (by simp) ?_;have hg:=Qfq e [a,b] h;simp;refine cK (by simpa using hg) ?_;simp
theorem Qfs (n e:Int) (h:e=0->n=1\/n=2\/n=3):Gd KW 117 [.int .i64 n,.int .i64 e] (.str (Qd1 n e)):=by
 refine Qb hKW (fk func117 QJG (by kernel_rfl)) (by simp) ?_;unfold Qd1;by_cases h0:e=0
 ·rcases h h0 with rfl | rfl | rfl<;>simp[h0,Qn9,Qvl,Qlr]
 have hg:=Qfq e [] (fun h=>absurd h h0);simp[h0];refine cK (by simpa using hg) ?_;simp
abbrev Sml (n:Int):Prop := -1000000000000000<=n/\n<=1000000000000000
theorem Ur {l:List Int} (h:∀ x∈l,Sml x):Sml (span l).1/\Sml (span l).2:=by
 by_cases hne:l=[]
 ·subst hne;simp[Sml]
 obtain ⟨h1,h2⟩:=QeQ l hne;grind
theorem Qgo (l:List Int) (lo hi:Int) (h1 : -1000000<=lo) (h3:hi<=1000000) (h4:hi-lo<=999999):Qbx (Jw l lo hi):=by
 refine ⟨?_,fun n hn=>?_⟩
 ·have:=Qis l lo (hi+1-lo).toNat;unfold Jw;omega
 have:=(Wa l lo hi n).1 hn;omega
theorem Qm6 (l:List Int):(ZE l).length<=l.length:=by
 unfold ZE;rw[List.length_mergeSort,QKX];exact qj l
theorem Qnc (c:Qf):(Qn c).length<=2 ^ Z2 c.za:=by
 unfold Qn;grind
theorem QiK {c:Qf} (hc:OkC c):(Qn c).length<=4096:=by
 have h1:=Qnc c;have h2:=U6 c.za;have h3:=hc.len;have h4:2 ^ Z2 c.za<=2 ^ 12:=QLS (by omega) (by omega);omega
theorem Qlv {c:Qf} (hc:OkC c) (f:Nat->Int) (h:∀ n,-1000<=f n/\f n<=1000):Qbx (ZE ((Qn c).map f)):=by
 refine ⟨?_,fun n hn=>?_⟩
 ·have h1:=Qm6 ((Qn c).map f);have h2:=QiK hc;grind
 rw[XL] at hn;grind
theorem QjT {c:Qf} (hc:OkC c) (e:Nat->Int):∀ x∈cab c.za e c.za.length,x<12:=fun x hx=>by
 have h1:=ql c.za e c.za.length x hx;have h2:=Qih c.za c.za.length;have h3:=hc.len;omega
theorem QqU {c:Qf} (hc:OkC c) (e:Nat->Int):(cab c.za e c.za.length).length<=12:=by
 have h1:=ZI e hc.za c.za.length (QKJ _) (QKJ _);have h2:=OkD.cnt hc.za c.za.length (QKJ _) (QKJ _);have h3:=hc.len;omega
theorem Qve {c:Qf} (hc:OkC c) (n:Int):Qbx (Qn2 c n):=by
 unfold Qn2;split
 ·refine Qlv hc _ fun k=>?_;unfold UT;have:=QjT hc (Q1 c.za k);rw[List.getD_eq_getElem?_getD];cases h:(cab c.za (Q1 c.za k) c.za.length)[n.toNat]? with
  | none=>simp
  | some x =>
    have:=this x (QKW h);simp;omega
 exact Qfa
theorem Qwj {c:Qf} (hc:OkC c) (n:Int):Qbx (Qn3 c n):=by
 unfold Qn3;split
 ·refine Qlv hc _ fun k=>?_;unfold Qdy UV fi;have h1:=QqU hc (Q1 c.za k);grind
 exact Qfa
theorem Qtn {c:Qf} (hc:OkC c):Qbx [(WO c).1]:=by
 have h1:=hc.slen;unfold WO;rw[if_pos hc];split
 ·rename_i n hn;unfold Qej at hn;have:=List.mem_of_find?_eq_some hn;rw[QLa] at this;exact YI (by simp only;omega)
 exact YI (by simp)
theorem QoU {m:Machine} (w mn:Int):Qbx [(JR m w mn).1,(JR m w mn).2]:=by
 have key:∀ s∈tL m (qr w mn 0),Sml (Qcl m w mn s)/\Sml (upS m w mn s):=fun s hs=>by
  obtain ⟨hm,ha,ho⟩:=QD8 hs;have ha:=of_decide_eq_true ha;obtain ⟨n1,n2⟩:=hm.numB ho ha.1 ha.2.1;obtain ⟨d1,d2⟩:=hm.denB ho;unfold Qcl upS Sml;have q1:=QLe n1 (b:=den s);have q2:=QLe (show 0<=num m s w mn+den s-1 by omega) (b:=den s);rw[q1,q2];have a1:=Int.ediv_nonneg n1 (show 0<=den s by omega);have a2:=Int.ediv_le_self (den s) n1;have a3:=Int.ediv_nonneg (show 0<=num m s w mn+den s-1 by omega) (show 0<=den s by omega);have a4:=Int.ediv_le_self (den s) (show 0<=num m s w mn+den s-1 by omega);omega
 unfold JR;refine Qe9 (Ur fun x hx=>?_).1 (Ur fun x hx=>?_).2
 all_goals grind
theorem QuT (p:Qe) (n:Int):Qbx (QaB p n):=Qgo _ 0 12 (by omega) (by omega) (by omega)
theorem Qsx (p:Qe) (n:Int):Qbx [(VY p n).1,(VY p n).2]:=by
 unfold VY;split
 ·exact QoU _ _
 exact Qe9 (by simp) (by simp)
theorem Qzt {p:Qe} (hp:OkP p):Qbx [(rFail p).1,(rFail p).2]:=by
 have h1:p.zf.length<=12:=by
  rw[hp.many];exact QLv (Qb4 _) hp.zc.len
 have key:∀ x∈(kL p true).map (fun t=>(Xt p t:Int)),Sml x:=fun x hx=>by
  obtain ⟨t,_,rfl⟩:=QKT.1 hx;have:=Qml p t;omega
 exact Qe9 (Ur key).1 (Ur key).2
theorem QAj {α:Type} {pc:Nat->List α} {n:Nat} {x:α} (h:x∈acc pc n):∃ i<n,x∈pc i:=by
 unfold acc at h;grind
theorem QwU {p:Qe} (hp:OkP p):Qbx (Qe3 p):=by
 have h2:=OkD.cnt hp.zc.za p.zc.za.length (QKJ _) (QKJ _);have h3:=hp.zc.len;have h4:(Ql p.zc.za).toNat<=12:=by unfold Ql;omega
 unfold Qe3;split
 ·refine ⟨?_,fun n hn=>?_⟩
  ·refine QLv (Qf4 _ 1 (fun i=>?_) _) (by omega);split<;>simp
  obtain ⟨i,hi,hx⟩:=QAj hn;grind
 exact Qfa
theorem Qr4 (p:Qe):Qbx [(VB p).1]:=by
 have h:=Qow p;unfold VB;split
 ·split
  ·exact YI (by simp)
  exact YI (by simp only;omega)
 exact YI (by simp)
theorem Qr6 (p:Qe):Qbx [(Jl p).1]:=by
 unfold Jl;split
 ·unfold JA;split
  ·split
   ·exact YI (by simp)
   have:=(Qnq p.zb (tL p.zb (qr 0 0 p.zo)) 0 p.zo).1;exact YI (by simp only;omega)
  exact YI (by simp)
 exact YI (by simp)
theorem QmZ (u:Zm):Qbx [(span ((uL u true).map QaU)).1,(span ((uL u true).map QaU)).2]:=by
 have key:∀ x∈(uL u true).map QaU,Sml x:=fun x hx=>by
  obtain ⟨t,ht,rfl⟩:=QKT.1 hx;have:=QAK ht;unfold QaU Sml;omega
 exact Qe9 (Ur key).1 (Ur key).2
theorem QAg (u:Zm):Qbx [(Qe4 u).1]:=by
 unfold Qe4;split
 ·split
  ·rename_i n hn;unfold QnO at hn;have:=List.mem_of_find?_eq_some hn;rw[QLa] at this;exact YI (by simp only;omega)
  exact YI (by simp)
 exact YI (by simp)
theorem QwM (u:Zm) (n:Int):Qbx (Qnf u n):=by
 unfold Qnf;split
 ·rename_i h;obtain ⟨hp,hb,_⟩:=QeH h;have hb:=of_decide_eq_true hb;simp only[inR] at hb;have xa:n.toNat<u.zi.length:=by omega
  have hr:=hp.zi _ (QKL xa);rw[List.getD_eq_getElem?_getD,QKF xa,QLB];simp only[V0,inR] at hr;exact Qgo _ _ _ (by omega) (by omega) (by omega)
 exact Qfa
theorem QbH (a b:Int):X5 a b=1\/X5 a b=2\/X5 a b=3:=by
 unfold X5;omega
theorem Quk {p:Qe} (h:kE p true=0):rCond p=1\/rCond p=2\/rCond p=3:=by
 unfold rCond;rw[if_pos h];exact QbH _ _
theorem Qtd {p:Qe} (h:kE p true=0):rGood p=1\/rGood p=2\/rGood p=3:=by
 unfold rGood;rw[if_pos h];exact QbH _ _
theorem Qnh {p:Qe} {n:Int} (h:kE p (qN p n)=0):rProved p n=1\/rProved p n=2\/rProved p n=3:=by
 unfold rProved;rw[if_pos h];exact QbH _ _
theorem Qpf {u:Zm} {n:Int} (h:uE u (Qe7 n)=0):QaA u n=1\/QaA u n=2\/QaA u n=3:=by
 unfold QaA Qd9;omega
theorem Qr {h:Qk} (ho:okH h):Ze h:=by
 have h1:=ho.1.zc.len;have h2:=ho.1.zc.slen;have h3:=ho.1.zb.len;have h4:=ho.1.zb.blen;have h5:=ho.1.many;have h6:=Qb4 h.ze.zc.za;have h7:=ho.2.rlen;have h8:=ho.2.xlen;exact ⟨⟨by omega,by omega,by omega,by omega,by omega⟩,by omega,by omega⟩
theorem QqW:Zv prog 99 c99 [0]:=⟨_,func99,by kernel_rfl⟩
theorem QuS:Zv prog 102 QC9 [0]:=⟨_,func102,by kernel_rfl⟩
theorem QuR:Zv prog 104 QC8 [0]:=⟨_,func104,by kernel_rfl⟩
theorem QuQ:Zv prog 107 QC7 [0]:=⟨_,func107,by kernel_rfl⟩
theorem QuP:Zv prog 110 QC6 [0]:=⟨_,func110,by kernel_rfl⟩
theorem QuO:Zv prog 112 QC5 [0]:=⟨_,func112,by kernel_rfl⟩
theorem QuN:Zv prog 114 QC4 [0]:=⟨_,func114,by kernel_rfl⟩
theorem QuM:Zv prog 116 QC3 [0]:=⟨_,func116,by kernel_rfl⟩
theorem QuL:Zv prog 119 QC2 [0]:=⟨_,func119,by kernel_rfl⟩
theorem QuK:Zv prog 121 QC1 [0]:=⟨_,func121,by kernel_rfl⟩
theorem QuJ:Zv prog 123 QC0 [0]:=⟨_,func123,by kernel_rfl⟩
theorem QuI:Zv prog 125 QCZ [0]:=⟨_,func125,by kernel_rfl⟩
theorem QuH:Zv prog 127 QCY [0]:=⟨_,func127,by kernel_rfl⟩
theorem QuG:Zv prog 129 QCX [0]:=⟨_,func129,by kernel_rfl⟩
theorem QuF:Zv prog 131 QCW [0]:=⟨_,func131,by kernel_rfl⟩
theorem QuE:Zv prog 133 QCV [0]:=⟨_,func133,by kernel_rfl⟩
theorem QuD:Zv prog 135 QCU [0]:=⟨_,func135,by kernel_rfl⟩
theorem Qpm (h:Qk) (a:Int) (ho:okH h) (hf:Qds h):Gh KW 99 (.loc 0 0::[QU [a]].map .iv) (QE h) [0] (.iv (.str (J3 h .who [a]))) (QE h):=by
 have hc:=ho.1.zc;obtain ⟨⟨h1,h2,h3,h4,h5⟩,h6,h7⟩:=Qr ho;refine Qo QqW rfl (by simp[c99]) ?_;generalize hG:U4 4 (J3 h .who [a]) h=G;have g1:=Qfv hKW h.ze.zc a h1 h2;have g2:=qW (Qn2 h.ze.zc a) (Xu h.ze.zc (plB h.ze.zc a)) (fun _=>Qve hc a);have e1:(if Xu h.ze.zc (decide (inR a 0 (Ql h.ze.zc.za-1)))=0 then ZE ((Qn h.ze.zc).map (UT h.ze.zc a)) else [])=Qn2 h.ze.zc a:=rfl;have e2:Xu h.ze.zc (decide (inR a 0 (Ql h.ze.zc.za-1)))=Xu h.ze.zc (plB h.ze.zc a):=rfl;rw[e1,e2] at g1;simp[c99];refine cK (by simpa using g1) ?_;simp;refine cK (by simpa using g2) ?_;simp;rw[<- hG];exact QQ rfl rfl (by simp[Qc])
theorem Qtb (h:Qk) (a:Int) (ho:okH h) (hf:Qds h):Gh KW 102 (.loc 0 0::[QU [a]].map .iv) (QE h) [0] (.iv (.str (J3 h .wher [a]))) (QE h):=by
 have hc:=ho.1.zc;obtain ⟨⟨h1,h2,h3,h4,h5⟩,h6,h7⟩:=Qr ho;refine Qo QuS rfl (by simp[QC9]) ?_;generalize hG:U4 4 (J3 h .wher [a]) h=G;have g1:=Qzp hKW h.ze.zc a h1 h2;have g2:=qW (Qn3 h.ze.zc a) (Xu h.ze.zc (Wl h.ze.zc a)) (fun _=>Qwj hc a);have e1:(if Xu h.ze.zc (Wl h.ze.zc a)=0 then ZE ((Qn h.ze.zc).map (Qdy h.ze.zc a)) else [])=Qn3 h.ze.zc a:=rfl;rw[e1] at g1;simp[QC9];refine cK (by simpa using g1) ?_;simp;refine cK (by simpa using g2) ?_;simp;rw[<- hG];exact QQ rfl rfl (by simp[Qc])
theorem Qta (h:Qk) (ho:okH h) (hf:Qds h):Gh KW 104 (.loc 0 0::[QU []].map .iv) (QE h) [0] (.iv (.str (J3 h .first []))) (QE h):=by
 have hc:=ho.1.zc;obtain ⟨⟨h1,h2,h3,h4,h5⟩,h6,h7⟩:=Qr ho;refine Qo QuR rfl (by simp[QC8]) ?_;generalize hG:U4 4 (J3 h .first []) h=G;have g1:=Qzo hKW h.ze.zc h1 h2;have g2:=Qfu (WO h.ze.zc).1 (WO h.ze.zc).2 (fun _=>Qtn hc);simp[QC8];refine cK (by simpa using g1) ?_;simp;refine cK (by simpa using g2) ?_;simp;rw[<- hG];exact QQ rfl rfl (by simp[Qc])
theorem Qs9 (h:Qk) (a b:Int) (ho:okH h) (hf:Qds h):Gh KW 107 (.loc 0 0::[QU [a,b]].map .iv) (QE h) [0] (.iv (.str (J3 h .pulls [a,b]))) (QE h):=by
 have hc:=ho.1.zc;obtain ⟨⟨h1,h2,h3,h4,h5⟩,h6,h7⟩:=Qr ho;refine Qo QuQ rfl (by simp[QC7]) ?_;generalize hG:U4 4 (J3 h .pulls [a,b]) h=G;have g1:=QpV hKW h.ze.zb a b h3 h4;have g2:=Qft (JR h.ze.zb a b).1 (JR h.ze.zb a b).2 (tE h.ze.zb (qr a b 0)) (fun _=>QoU a b);simp[QC7];refine cK (by simpa using g1) ?_;simp;refine cK (by simpa using g2) ?_;simp;rw[<- hG];exact QQ rfl rfl (by simp[Qc])
theorem Qs8 (h:Qk) (a:Int) (ho:okH h) (hf:Qds h):Gh KW 110 (.loc 0 0::[QU [a]].map .iv) (QE h) [0] (.iv (.str (J3 h .z5 [a]))) (QE h):=by
 have hc:=ho.1.zc;obtain ⟨⟨h1,h2,h3,h4,h5⟩,h6,h7⟩:=Qr ho;refine Qo QuP rfl (by simp[QC6]) ?_;generalize hG:U4 4 (J3 h .z5 [a]) h=G;have g1:=Qzn hKW h.ze a hf.ze;have g2:=qW (QaB h.ze a) (kE h.ze (Xn h.ze a)) (fun _=>QuT h.ze a);simp[QC6];refine cK (by simpa using g1) ?_;simp;refine cK (by simpa using g2) ?_;simp;rw[<- hG];exact QQ rfl rfl (by simp[Qc])
theorem Qs7 (h:Qk) (a:Int) (ho:okH h) (hf:Qds h):Gh KW 112 (.loc 0 0::[QU [a]].map .iv) (QE h) [0] (.iv (.str (J3 h .loads [a]))) (QE h):=by
 have hc:=ho.1.zc;obtain ⟨⟨h1,h2,h3,h4,h5⟩,h6,h7⟩:=Qr ho;refine Qo QuO rfl (by simp[QC5]) ?_;generalize hG:U4 4 (J3 h .loads [a]) h=G;have g1:=Qzm hKW h.ze a hf.ze;have g2:=Qft (VY h.ze a).1 (VY h.ze a).2 (QiS h.ze a) (fun _=>Qsx h.ze a);have e1:(if kE h.ze (Xn h.ze a)=0 then (JR h.ze.zb (tr h.ze a.toNat).zm (tr h.ze a.toNat).zn).1 else 0)=(VY h.ze a).1:=by unfold VY;split<;>rfl
 have e2:(if kE h.ze (Xn h.ze a)=0 then (JR h.ze.zb (tr h.ze a.toNat).zm (tr h.ze a.toNat).zn).2 else 0)=(VY h.ze a).2:=by unfold VY;split<;>rfl
 have e3:(if kE h.ze (Xn h.ze a)=0 then tE h.ze.zb (qr (tr h.ze a.toNat).zm (tr h.ze a.toNat).zn 0) else kE h.ze (Xn h.ze a))=QiS h.ze a:=rfl;rw[e1,e2,e3] at g1;simp[QC5];refine cK (by simpa using g1) ?_;simp;refine cK (by simpa using g2) ?_;simp;rw[<- hG];exact QQ rfl rfl (by simp[Qc])
theorem Qs6 (h:Qk) (ho:okH h) (hf:Qds h):Gh KW 114 (.loc 0 0::[QU []].map .iv) (QE h) [0] (.iv (.str (J3 h .y7 []))) (QE h):=by
 have hc:=ho.1.zc;obtain ⟨⟨h1,h2,h3,h4,h5⟩,h6,h7⟩:=Qr ho;refine Qo QuN rfl (by simp[QC4]) ?_;generalize hG:U4 4 (J3 h .y7 []) h=G;have g1:=Qzl hKW h.ze hf.ze;have g2:=Qft (rFail h.ze).1 (rFail h.ze).2 (kE h.ze true) (fun _=>Qzt ho.1);simp[QC4];refine cK (by simpa using g1) ?_;simp;refine cK (by simpa using g2) ?_;simp;rw[<- hG];exact QQ rfl rfl (by simp[Qc])
theorem Qs5 (h:Qk) (ho:okH h) (hf:Qds h):Gh KW 116 (.loc 0 0::[QU []].map .iv) (QE h) [0] (.iv (.str (J3 h .y6 []))) (QE h):=by
 have hc:=ho.1.zc;obtain ⟨⟨h1,h2,h3,h4,h5⟩,h6,h7⟩:=Qr ho;refine Qo QuM rfl (by simp[QC3]) ?_;generalize hG:U4 4 (J3 h .y6 []) h=G;have g1:=Qzk hKW h.ze hf.ze;have g2:=Qfs (rCond h.ze) (kE h.ze true) Quk;simp[QC3];refine cK (by simpa using g1) ?_;simp;refine cK (by simpa using g2) ?_;simp;rw[<- hG];exact QQ rfl rfl (by simp[Qc])
theorem Qs4 (h:Qk) (a:Int) (ho:okH h) (hf:Qds h):Gh KW 119 (.loc 0 0::[QU [a]].map .iv) (QE h) [0] (.iv (.str (J3 h .y8 [a]))) (QE h):=by
 have hc:=ho.1.zc;obtain ⟨⟨h1,h2,h3,h4,h5⟩,h6,h7⟩:=Qr ho;refine Qo QuL rfl (by simp[QC2]) ?_;generalize hG:U4 4 (J3 h .y8 [a]) h=G;have g1:=Qzj hKW h.ze a hf.ze;have g2:=Qfs (rProved h.ze a) (kE h.ze (qN h.ze a)) Qnh;simp[QC2];refine cK (by simpa using g1) ?_;simp;refine cK (by simpa using g2) ?_;simp;rw[<- hG];exact QQ rfl rfl (by simp[Qc])
theorem Qs3 (h:Qk) (ho:okH h) (hf:Qds h):Gh KW 121 (.loc 0 0::[QU []].map .iv) (QE h) [0] (.iv (.str (J3 h .opn []))) (QE h):=by
 have hc:=ho.1.zc;obtain ⟨⟨h1,h2,h3,h4,h5⟩,h6,h7⟩:=Qr ho;refine Qo QuK rfl (by simp[QC1]) ?_;generalize hG:U4 4 (J3 h .opn []) h=G;have g1:=Qzi hKW h.ze hf.ze;have g2:=qW (Qe3 h.ze) (kE h.ze true) (fun _=>QwU ho.1);simp[QC1];refine cK (by simpa using g1) ?_;simp;refine cK (by simpa using g2) ?_;simp;rw[<- hG];exact QQ rfl rfl (by simp[Qc])
theorem Qs2 (h:Qk) (ho:okH h) (hf:Qds h):Gh KW 123 (.loc 0 0::[QU []].map .iv) (QE h) [0] (.iv (.str (J3 h .good []))) (QE h):=by
 have hc:=ho.1.zc;obtain ⟨⟨h1,h2,h3,h4,h5⟩,h6,h7⟩:=Qr ho;refine Qo QuJ rfl (by simp[QC0]) ?_;generalize hG:U4 4 (J3 h .good []) h=G;have g1:=Qzh hKW h.ze hf.ze;have g2:=Qfs (rGood h.ze) (kE h.ze true) Qtd;simp[QC0];refine cK (by simpa using g1) ?_;simp;refine cK (by simpa using g2) ?_;simp;rw[<- hG];exact QQ rfl rfl (by simp[Qc])
theorem Qs1 (h:Qk) (ho:okH h) (hf:Qds h):Gh KW 125 (.loc 0 0::[QU []].map .iv) (QE h) [0] (.iv (.str (J3 h .worth []))) (QE h):=by
 have hc:=ho.1.zc;obtain ⟨⟨h1,h2,h3,h4,h5⟩,h6,h7⟩:=Qr ho;refine Qo QuI rfl (by simp[QCZ]) ?_;generalize hG:U4 4 (J3 h .worth []) h=G;have g1:=Qzg hKW h.ze hf.ze;have g2:=Qfu (VB h.ze).1 (VB h.ze).2 (fun _=>Qr4 h.ze);simp[QCZ];refine cK (by simpa using g1) ?_;simp;refine cK (by simpa using g2) ?_;simp;rw[<- hG];exact QQ rfl rfl (by simp[Qc])
theorem Ql9 (h:Qk) (ho:okH h) (hf:Qds h):Gh KW 127 (.loc 0 0::[QU []].map .iv) (QE h) [0] (.iv (.str (J3 h .zm []))) (QE h):=by
 have hc:=ho.1.zc;obtain ⟨⟨h1,h2,h3,h4,h5⟩,h6,h7⟩:=Qr ho;refine Qo QuH rfl (by simp[QCY]) ?_;generalize hG:U4 4 (J3 h .zm []) h=G;have g1:=Qzf hKW h.ze hf.ze;have g2:=Qfu (Jl h.ze).1 (Jl h.ze).2 (fun _=>Qr6 h.ze);have e1:(if kE h.ze true=0 then (JA h.ze.zb 0 h.ze.zo).1 else 0)=(Jl h.ze).1:=by unfold Jl;split<;>rfl
 have e2:(if kE h.ze true=0 then (JA h.ze.zb 0 h.ze.zo).2 else kE h.ze true)=(Jl h.ze).2:=by unfold Jl;split<;>rfl
 rw[e1,e2] at g1;simp[QCY];refine cK (by simpa using g1) ?_;simp;refine cK (by simpa using g2) ?_;simp;rw[<- hG];exact QQ rfl rfl (by simp[Qc])
theorem Qs0 (h:Qk) (ho:okH h) (hf:Qds h):Gh KW 129 (.loc 0 0::[QU []].map .iv) (QE h) [0] (.iv (.str (J3 h .stretch []))) (QE h):=by
 have hc:=ho.1.zc;obtain ⟨⟨h1,h2,h3,h4,h5⟩,h6,h7⟩:=Qr ho;refine Qo QuG rfl (by simp[QCX]) ?_;generalize hG:U4 4 (J3 h .stretch []) h=G;have g1:=Qze hKW h.zq h6 h7;have g2:=Qft (span ((uL h.zq true).map QaU)).1 (span ((uL h.zq true).map QaU)).2 (uE h.zq true) (fun _=>QmZ h.zq);simp[QCX];refine cK (by simpa using g1) ?_;simp;refine cK (by simpa using g2) ?_;simp;rw[<- hG];exact QQ rfl rfl (by simp[Qc])
theorem QsZ (h:Qk) (ho:okH h) (hf:Qds h):Gh KW 131 (.loc 0 0::[QU []].map .iv) (QE h) [0] (.iv (.str (J3 h .best []))) (QE h):=by
 have hc:=ho.1.zc;obtain ⟨⟨h1,h2,h3,h4,h5⟩,h6,h7⟩:=Qr ho;refine Qo QuF rfl (by simp[QCW]) ?_;generalize hG:U4 4 (J3 h .best []) h=G;have g1:=Qzd hKW h.zq h6 h7;have g2:=Qfu (Qe4 h.zq).1 (Qe4 h.zq).2 (fun _=>QAg h.zq);simp[QCW];refine cK (by simpa using g1) ?_;simp;refine cK (by simpa using g2) ?_;simp;rw[<- hG];exact QQ rfl rfl (by simp[Qc])
theorem QsY (h:Qk) (a:Int) (ho:okH h) (hf:Qds h):Gh KW 133 (.loc 0 0::[QU [a]].map .iv) (QE h) [0] (.iv (.str (J3 h .holds [a]))) (QE h):=by
 have hc:=ho.1.zc;obtain ⟨⟨h1,h2,h3,h4,h5⟩,h6,h7⟩:=Qr ho;refine Qo QuE rfl (by simp[QCV]) ?_;generalize hG:U4 4 (J3 h .holds [a]) h=G;have g1:=Qzc hKW h.zq a h6 h7;have g2:=Qfs (QaA h.zq a) (uE h.zq (Qe7 a)) Qpf;simp[QCV];refine cK (by simpa using g1) ?_;simp;refine cK (by simpa using g2) ?_;simp;rw[<- hG];exact QQ rfl rfl (by simp[Qc])
theorem QsX (h:Qk) (a:Int) (ho:okH h) (hf:Qds h):Gh KW 135 (.loc 0 0::[QU [a]].map .iv) (QE h) [0] (.iv (.str (J3 h .zi [a]))) (QE h):=by
 have hc:=ho.1.zc;obtain ⟨⟨h1,h2,h3,h4,h5⟩,h6,h7⟩:=Qr ho;refine Qo QuD rfl (by simp[QCU]) ?_;generalize hG:U4 4 (J3 h .zi [a]) h=G;have g1:=Qzb hKW h.zq a h6 h7;have g2:=qW (Qnf h.zq a) (uE h.zq (Qvv h.zq a)) (fun _=>QwM h.zq a);simp[QCU];refine cK (by simpa using g1) ?_;simp;refine cK (by simpa using g2) ?_;simp;rw[<- hG];exact QQ rfl rfl (by simp[Qc])
def QCg:Qf5->FuncId
 | .weld=>91 | .cut=>92 | .turn=>93 | .prove=>94 | .undo=>95 | .see=>96 | .balance=>97 | .read=>98
 | .who=>99 | .wher=>102 | .first=>104 | .pulls=>107 | .z5=>110 | .loads=>112 | .y7=>114 | .y6=>116 | .y8=>119 | .opn=>121 | .good=>123 | .worth=>125 | .zm=>127 | .stretch=>129 | .best=>131 | .holds=>133 | .zi=>135
def QmX (p:Nat × Qf5):IV:=.agg [.int .i64 (p.1:Nat),.fn (QCg p.2)]
def QbD:List (MK × IV):=Xm.map fun p=>(.str p.1,QmX p.2)
theorem Qcu {k:MK} {y:IV} (h:k.kind=.str):∀ {l:List (MK × IV)},QP .str l->QP .str (zn k y l)
 | [],_=>⟨h,trivial⟩
 | p::r,hl=>by
   unfold zn;split
   ·exact ⟨h,hl.2⟩
   exact ⟨hl.1,Qcu h hl.2⟩
include hK
theorem QBX:Gd K 44 [] (.map QbD):=by
 refine Qb hK (fk func44 c44 (by kernel_rfl)) (by simp) ?_;simp
 repeat' first | exact trivial | apply And.intro | apply Qcu rfl | kernel_rfl
omit hK
def arV:Qf5->Nat
 | .weld=>4 | .cut=>2 | .turn=>0 | .prove=>3 | .undo=>0 | .see=>5 | .balance=>4 | .read=>7
 | .who=>1 | .wher=>1 | .first=>0 | .pulls=>2 | .z5=>1 | .loads=>1 | .y7=>0 | .y6=>0 | .y8=>1 | .opn=>0 | .good=>0 | .worth=>0 | .zm=>0 | .stretch=>0 | .best=>0 | .holds=>1 | .zi=>1
theorem QrF:∀ p∈Xm,p.2.1=arV p.2.2:=by decide
theorem Qn6 {w:Txt} {n:Nat} {v:Qf5} (h:Vz w=some (n,v)):n=arV v:=by
 rcases QmU w with ⟨p,hp,rfl⟩ | hn
 ·rw[Up p hp] at h;injection h with h;have:=QrF p hp;grind
 rw[QbE hn] at h;cases h
theorem QmW (w:Txt):Qh (.str w) QbD=(Vz w).map QmX:=by
 have key:∀ l:List (Txt × Nat × Qf5),Qh (.str w) (l.map fun p=>(MK.str p.1,QmX p.2))=((l.find? fun p=>p.1==w).map (·.2)).map QmX:=by
  intro l;induction l with
  | nil=>rfl
  | cons p r ih =>
    simp only[QKZ,Qh,List.find?_cons];grind
 exact key Xm
theorem ZN {h h':Qk} {v:Qf5} {l:List Int} (hv:UF v=true) (hc:QfK h v l=some h'):doV h v l=(chT h',chH h h'):=by
 unfold doV chT chH;grind
theorem Zk {h:Qk} {v:Qf5} {l:List Int} (hv:UF v=false):doV h v l=(J3 h v l,h):=by
 unfold doV;rw[hv];rfl
theorem XD {h h':Qk} (ho:okH h) (h1:h'.ze.zc.za.length<=h.ze.zc.za.length+1) (h2:h'.ze.zc.zg.length<=h.ze.zc.zg.length+1) (h3:h'.ze.zb.zd.length<=h.ze.zb.zd.length)
  (h4:h'.ze.zb.zk.length<=h.ze.zb.zk.length+1) (h5:h'.ze.zf.length<=h.ze.zf.length+1) (h6:h'.zq.zi.length<=h.zq.zi.length) (h7:h'.zq.zj.length<=h.zq.zj.length+1):Ze h':=by
 have q1:=ho.1.zc.len;have q2:=ho.1.zc.slen;have q3:=ho.1.zb.len;have q4:=ho.1.zb.blen;have q5:=ho.1.many;have q6:=Qb4 h.ze.zc.za;have q7:=ho.2.rlen;have q8:=ho.2.xlen;exact ⟨⟨by omega,by omega,by omega,by omega,by omega⟩,by omega,by omega⟩
theorem Qik {h:Qk} (ho:okH h) (hl:(h.ze.zc.za.getLast?.map (·.zp))=some 4):h.ze.zf≠[]:=by
 rw[QKK] at hl;obtain ⟨d,hd,h4⟩:=hl;obtain ⟨D,hD⟩:∃ D,h.ze.zc.za=D++[d]:=by
  have hne:h.ze.zc.za≠[]:=fun e=>by grind
  refine ⟨h.ze.zc.za.dropLast,?_⟩;have:=List.getLast?_eq_some_getLast hne;rw[hd] at this;injection this with this;rw[this];exact (QLM hne).symm
 have hm:=ho.1.many;intro e;rw[e,hD] at hm;unfold pv at hm;rw[Vm] at hm;simp[Yn,XX,h4] at hm
theorem Qil (h:Qk):QfK h .undo []=if h.ze.zc.za=[] then none else some (Xb h):=by
 unfold QfK Xb;cases hd:h.ze.zc.za.getLast? with
 | none =>
   have:h.ze.zc.za=[]:=by simpa using hd
   simp[this]
 | _=>grind
theorem QsH (h:Qk) (ho:okH h) (v:Qf5) (l:List Int) (hf:UF v=false->Qds h) (hl:l.length=arV v) :
  Gh KW (QCg v) (.loc 0 0::[QU l].map .iv) (QE h) [0] (.iv (.str (doV h v l).1)) (QE (doV h v l).2):=by
 have hs:=Qr ho;have l0:∀ l:List Int,l.length=0->l=[]:=fun l h=>QKR h;have l1:∀ l:List Int,l.length=1->∃ a,l=[a]:=fun l h=>by
  match l,h with
  | [a],_=>exact ⟨a,rfl⟩
 have l2:∀ l:List Int,l.length=2->∃ a b,l=[a,b]:=fun l h=>by
  match l,h with
  | [a,b],_=>grind
 cases v with
 | weld =>
   match l,hl with
   | [a,b,c,d],_ =>
     rw[ZN (h':=Qp h ⟨1,a,b,c,d⟩) rfl rfl];exact Qxp hKW h a b c d hs (XD ho (by simp[Qp]) (by simp[Qp]) (by simp[Qp]) (by simp[Qp]) (by simp[Qp]) (by simp[Qp]) (by simp[Qp]))
 | cut =>
   match l,hl with
   | [a,b],_ =>
     rw[ZN (h':=Qp h ⟨2,a,b,0,0⟩) rfl rfl];exact Qxo hKW h a b hs (XD ho (by simp[Qp]) (by simp[Qp]) (by simp[Qp]) (by simp[Qp]) (by simp[Qp]) (by simp[Qp]) (by simp[Qp]))
 | turn =>
   rw[l0 l hl,ZN (h':=Qp h ⟨3,0,0,0,0⟩) rfl rfl];exact Qxn hKW h hs (XD ho (by simp[Qp]) (by simp[Qp]) (by simp[Qp]) (by simp[Qp]) (by simp[Qp]) (by simp[Qp]) (by simp[Qp]))
 | prove =>
   match l,hl with
   | [a,b,c],_ =>
     rw[ZN (h':=Zw h ⟨a,b,c⟩) rfl rfl];exact Qxm hKW h a b c hs (XD ho (by simp[Zw]) (by simp[Zw]) (by simp[Zw]) (by simp[Zw]) (by simp[Zw]) (by simp[Zw]) (by simp[Zw]))
 | undo =>
   rw[l0 l hl];have hu:=Qil h;have hs':Ze (Xb h):=XD ho (by simp[Xb];omega) (by simp[Xb]) (by simp[Xb]) (by simp[Xb]) (by simp only[Xb];grind) (by simp[Xb]) (by simp[Xb]);have hg:=Qxl hKW h (Qik ho) hs hs';by_cases hne:h.ze.zc.za=[]
   ·rw[if_pos hne] at hu;rw[if_pos hne,if_pos hne] at hg;have e:doV h .undo []=(tNo,h):=by
     unfold doV;rw[hu];rfl
    rw[e];exact hg
   rw[if_neg hne] at hu;rw[if_neg hne,if_neg hne] at hg;rw[ZN (h':=Xb h) rfl hu];exact hg
 | see =>
   match l,hl with
   | [a,b,c,d,e],_ =>
     rw[ZN (h':=Zh h ⟨a,b,c,d,e⟩) rfl rfl];exact Qpn hKW h a b c d e hs (XD ho (by simp[Zh]) (by simp[Zh]) (by simp[Zh]) (by simp[Zh]) (by simp[Zh]) (by simp[Zh]) (by simp[Zh]))
 | balance =>
   match l,hl with
   | [a,b,c,d],_ =>
     rw[ZN (h':=YC h ⟨a,b,c,d⟩) rfl rfl];exact Qxk hKW h a b c d hs (XD ho (by simp[YC]) (by simp[YC]) (by simp[YC]) (by simp[YC]) (by simp[YC]) (by simp[YC]) (by simp[YC]))
 | read =>
   match l,hl with
   | [a,b,c,d,e,f,g],_ =>
     rw[ZN (h':=Z1 h ⟨a,b,c,d,e,f,g⟩) rfl rfl];exact Qxj hKW h a b c d e f g hs (XD ho (by simp[Z1]) (by simp[Z1]) (by simp[Z1]) (by simp[Z1]) (by simp[Z1]) (by simp[Z1]) (by simp[Z1]))
 | who=>obtain ⟨a,rfl⟩:=l1 l hl;rw[Zk rfl];exact Qpm h a ho (hf rfl)
 | wher=>obtain ⟨a,rfl⟩:=l1 l hl;rw[Zk rfl];exact Qtb h a ho (hf rfl)
 | first=>rw[l0 l hl,Zk rfl];exact Qta h ho (hf rfl)
 | pulls=>obtain ⟨a,b,rfl⟩:=l2 l hl;rw[Zk rfl];exact Qs9 h a b ho (hf rfl)
 | z5=>obtain ⟨a,rfl⟩:=l1 l hl;rw[Zk rfl];exact Qs8 h a ho (hf rfl)
 | loads=>obtain ⟨a,rfl⟩:=l1 l hl;rw[Zk rfl];exact Qs7 h a ho (hf rfl)
 | y7=>rw[l0 l hl,Zk rfl];exact Qs6 h ho (hf rfl)
 | y6=>rw[l0 l hl,Zk rfl];exact Qs5 h ho (hf rfl)
 | y8=>obtain ⟨a,rfl⟩:=l1 l hl;rw[Zk rfl];exact Qs4 h a ho (hf rfl)
 | opn=>rw[l0 l hl,Zk rfl];exact Qs3 h ho (hf rfl)
 | good=>rw[l0 l hl,Zk rfl];exact Qs2 h ho (hf rfl)
 | worth=>rw[l0 l hl,Zk rfl];exact Qs1 h ho (hf rfl)
 | zm=>rw[l0 l hl,Zk rfl];exact Ql9 h ho (hf rfl)
 | stretch=>rw[l0 l hl,Zk rfl];exact Qs0 h ho (hf rfl)
 | best=>rw[l0 l hl,Zk rfl];exact QsZ h ho (hf rfl)
 | holds=>obtain ⟨a,rfl⟩:=l1 l hl;rw[Zk rfl];exact QsY h a ho (hf rfl)
 | zi=>obtain ⟨a,rfl⟩:=l1 l hl;rw[Zk rfl];exact QsX h a ho (hf rfl)
theorem Qz2:Zv prog 45 c45 [0]:=⟨_,func45,by kernel_rfl⟩
theorem QqQ:∀ v:Qf5,callee prog (QCg v)=true:=by
 intro v;cases v<;>kernel_rfl
theorem Qja:QP .str QbD:=by
 have key:∀ l:List (Txt × Nat × Qf5),QP .str (l.map fun p=>(MK.str p.1,QmX p.2)):=by
  intro l;induction l with
  | nil=>trivial
  | cons p r ih=>exact ⟨rfl,ih⟩
 exact key Xm
theorem qb (h:Qk) (t:Txt) (hdo:∀ v l,XO t=some (v,l)->l.length=arV v->Gh KW (QCg v) (.loc 0 0::[QU l].map .iv) (QE h) [0] (.iv (.str (doV h v l).1)) (QE (doV h v l).2)) (ht:t.length<=1000) :
  Gh KW 45 (.loc 0 0::[.map QbD,.str t].map .iv) (QE h) [0] (.iv (.str (XA h t).1)) (QE (XA h t).2):=by
 refine Qo Qz2 rfl (by simp[c45]) ?_;generalize hG:U4 6 (XA h t).1 (XA h t).2=G;have g1:=Qza t ht;have hsl:=QeO t;have hwl:=Qan t;cases hs:spl t with
 | nil=>exact absurd hs (Qoc t [])
 | cons w ws =>
   rw[hs] at g1 hsl hwl;simp at hsl;have hfd:=QmW w;simp[c45];refine cK (by simpa using g1) ?_;simp;refine ⟨Qja,?_⟩;cases hv:Vz w with
   | none =>
     have hL:XA h t=(Qin,h):=by
      simp[XA,XO,hs,hv]
     rw[hv] at hfd;simp only[Option.map_none] at hfd;rw[hL] at hG;simp[hfd];rw[<- hG];exact QQ (by simp[Ev.look,Qin]) (by simp[Ev.look]) (by simp[Qc])
   | some p =>
     obtain ⟨n,v⟩:=p;rw[hv] at hfd;simp only[QLO] at hfd;have har:=Qn6 hv;simp[hfd,QmX];have h7:n<=7:=by rw[har];cases v<;>decide
     intro _;refine ⟨by omega,fun hq=>?_,fun hq=>?_⟩
     ·have hn:¬ ws.length=n:=fun e=>hq (by omega);have hL:XA h t=(Qin,h):=by
       simp[XA,XO,hs,hv,hn]
      rw[hL] at hG;rw[<- hG];exact QQ (by simp[Ev.look,Qin]) (by simp[Ev.look]) (by simp[Qc])
     have hn:ws.length=n:=by omega
     refine ⟨by omega,fun _ _=>?_⟩
     refine Qi (fun i=>[(0,AV.loc 0 0),(8,AV.loc 8 0),(10,AV.yl 10 ((XQ (ws.take i)).getD []).length),(36,AV.iv (.sl 1 (ws.map fun s=>[IV.str s]))),(37,AV.iv (.int .i64 ws.length)),(38,AV.iv (.int .i64 (i:Nat)))])
      (fun i=>[(0,AO.box ((hoC h).map AV.iv)),(8,AO.box [AV.iv (.int .i64 n),AV.iv (.fn (QCg v))]),(10,AO.arr 3 1 (emb (((XQ (ws.take i)).getD []).map fun n=>[.int .i64 n])) 0)]) ws.length (fun i=>(XQ (ws.take i)).isSome=true) (by simp[XQ]) ?_ ?_
     ·intro xc;rw[QK0] at xc;obtain ⟨l,hl⟩:=QLf.1 xc;have hll:=V1 hl;have hL:XA h t=doV h v l:=by
       simp[XA,XO,hs,hv,hn,hl]
      rw[hL] at hG;have hd:=hdo v l (by simp[XO,hs,hv,hn,hl]) (by omega);rw[Qa Qq8.eq_1];simp[hl,Qca];refine ⟨QqQ v,QH hd (by simp[nth,rn]) (Yo (by simp[Qc])) ?_⟩;simp[nth,rn];rw[<- hG];exact QQ rfl rfl (by simp[Qc])
     intro i hi hQ ih;obtain ⟨l,hl⟩:=QLf.1 hQ;have hll:=V1 hl;rw[QMh] at hll;have hwi:=hwl ws[i] (by simp);obtain ⟨m,hm,hg⟩:=Qy9 ws[i] (by omega);have hst:=QaE (ws.take i) ws[i];rw[<- QKH hi,hl] at hst;rw[Qa Qq8.eq_1];cases hx:QdU ws[i] with
     | none =>
       have hno:XQ ws=none:=by
        cases hq:XQ ws with
        | none=>rfl
        | some l' =>
          have:=Qcf hq ws[i] (by simp);grind
       have hL:XA h t=(Qin,h):=by
        simp[XA,XO,hs,hv,hn,hno]
       rw[hL] at hG;rw[hx] at hg;simp[hi,hl];refine cK (by simpa using hg) ?_;simp;rw[<- hG];exact QQ (by simp[Ev.look,Qin]) (by simp[Ev.look]) (by simp[Qc])
     | some x =>
       rw[hx] at hg hst hm;have hmx:m=x:=by simpa using hm rfl
       subst hmx;simp only at hst;have ih:=ih (by rw[hst];rfl);rw[hst] at ih;simp[hi,hl] at ih |-;refine cK (by simpa using hg) ?_;simp;grind
theorem Qxq (h:Qk) (ho:okH h) (t:Txt) (hf:∀ v l,XO t=some (v,l)->UF v=false->Qds h) (ht:t.length<=1000) :
  Gh KW 45 (.loc 0 0::[.map QbD,.str t].map .iv) (QE h) [0] (.iv (.str (XA h t).1)) (QE (XA h t).2) :=
 qb h t (fun v l hp hl=>QsH h ho v l (hf v l hp) hl) ht
def h0:Qk:=⟨⟨⟨[],[],0⟩,⟨[],0,0,0,[],0⟩,[],0,0⟩,⟨0,0,0,[],[],0⟩⟩
noncomputable def Qsf (h:Qk) (s:List Txt):List Txt:=if okH h then (if 40<s.length then [] else Qc5 h s s.length) else []
noncomputable def QiD (h:Qk) (s:List Txt):Qk:=if okH h then (if 40<s.length then h0 else XK h s s.length) else h0
theorem QjF (h:Qk) (s:List Txt) (hs:Ze h) (hl:s.length<=100) (hq:okH h->s.length<=40->∀ i (hi:i<s.length),Gh KW 45 (.loc 0 0::[.map QbD,.str s[i]].map .iv) (QE (XK h s i)) [0] (.iv (.str (XA (XK h s i) s[i]).1)) (QE (XA (XK h s i) s[i]).2)) :
  Gd KW 14 [hoV h,strs s] (.xd [strs (Qsf h s),hoV (QiD h s),.int .i64 (Qse h s)]):=by
 refine Qb hKW (fk func14 c14 (by kernel_rfl)) (by simp) ?_;have g9:=QvP hKW h hs;unfold QsF at g9;generalize hG:QnU c14.res (.xd [strs (Qsf h s),hoV (QiD h s),.int .i64 (Qse h s)])=G;unfold Qsf QiD Qse at hG;by_cases ho:okH h;rotate_left
 ·rw[if_neg ho] at g9 hG hG hG;simp[c14];refine cK (by simpa using g9) ?_;simp;rw[<- hG];simp[c14,h0]
 rw[if_pos ho] at g9 hG hG hG;simp[c14];refine cK (by simpa using g9) ?_;by_cases h40:40<s.length
 ·have h40':(40:Int)<s.length:=by omega
  rw[if_pos h40] at hG hG hG;simp[h40'];rw[<- hG];intro _;simp[c14,h0]
 have h40':¬ (40:Int)<s.length:=by omega
 rw[if_neg h40] at hG hG hG;have g28:Gd KW 43 [hoV h] (.agg (hoC h)):=Vo (xs:=[hoV h]) hKW (Qpp hKW h hs) (by simp[Qc]);have g29:=QBX hKW;simp[h40'];intro _;refine cK (by simpa using g28) ?_;simp;refine cK (by simpa using g29) ?_;simp;intro _;have hq:=hq ho (by omega)
 refine Qw1 (fun i=>[(4,AV.yl 4 (Qc5 h s i).length),(5,AV.loc 5 0),(8,AV.loc 25 0),(9,AV.iv (IV.map QbD)),(27,AV.iv (strs s)),(28,AV.iv (.int .i64 s.length)),(29,AV.iv (.int .i64 (i:Nat)))])
  (fun i=>[(4,AO.arr 9 1 (emb ((Qc5 h s i).map fun t=>[.str t])) 0),(5,AO.box ((hoC h0).map AV.iv)),(25,AO.box ((hoC (XK h s i)).map AV.iv))]) s.length ?_ ?_
 ·rw[Qa Qrx.eq_1]
  simp;rw[<- hG];simp[c14]
 intro i hi ih;have hd:=hq i hi;rw[<- YX h s i hi] at hd;have hst:=J4 h s i hi;rw[hst] at ih;rw[Qa Qrx.eq_1];simp[hi] at ih |-;refine QH hd (by simp[nth,rn]) (Yo (by simp[Qc])) ?_;simp[nth,rn];have hal:(Qc5 h s i).length=i:=by simp[Qc5]
 grind
theorem good14 (h:Qk) (s:List Txt) (hs:Ze h) (hl:s.length<=100) (hw:okH h->s.length<=40->∀ t∈s,t.length<=1000) (hf:okH h->s.length<=40->∀ i (hi:i<s.length) v l,XO s[i]=some (v,l)->UF v=false->Qds (XK h s i)) :
  Gd KW 14 [hoV h,strs s] (.xd [strs (Qsf h s),hoV (QiD h s),.int .i64 (Qse h s)]) :=
 QjF h s hs hl fun ho h4 i hi=>Qxq _ (QbL ho i) _ (hf ho h4 i hi) (hw ho h4 _ (QKL hi))
theorem QsI (h:Qk) (a:Int) (ho:okH h):Gh KW 99 (.loc 0 0::[QU [a]].map .iv) (QE h) [0] (.iv (.str (J3 h .who [a]))) (QE h):=by
 have hc:=ho.1.zc;obtain ⟨⟨h1,h2,h3,h4,h5⟩,h6,h7⟩:=Qr ho;refine Qo QqW rfl (by simp[c99]) ?_;generalize hG:U4 4 (J3 h .who [a]) h=G;have g1:=Qfv hKW h.ze.zc a h1 h2;have g2:=qW (Qn2 h.ze.zc a) (Xu h.ze.zc (plB h.ze.zc a)) (fun _=>Qve hc a);have e1:(if Xu h.ze.zc (decide (inR a 0 (Ql h.ze.zc.za-1)))=0 then ZE ((Qn h.ze.zc).map (UT h.ze.zc a)) else [])=Qn2 h.ze.zc a:=rfl;have e2:Xu h.ze.zc (decide (inR a 0 (Ql h.ze.zc.za-1)))=Xu h.ze.zc (plB h.ze.zc a):=rfl;rw[e1,e2] at g1;simp[c99];refine cK (by simpa using g1) ?_;simp;refine cK (by simpa using g2) ?_;simp;rw[<- hG];exact QQ rfl rfl (by simp[Qc])
def sgM (l:Zs) (at_:Int) (k:Nat):XB:=⟨(l.zc.za.length:Nat),at_+(k:Nat),0,(l.marks.getD k (0,0)).1,(l.marks.getD k (0,0)).2⟩
def sgL (l:Zs) (at_:Int) (i:Nat):List XB:=(List.range i).map (sgM l at_)
def V8 (l:Zs) (at_:Int) (i:Nat):Qk:=⟨⟨⟨l.zc.za,l.zc.zg++sgL l at_ i,l.zc.zh⟩,⟨[],0,0,0,[],0⟩,List.replicate (pv l.zc.za).length ⟨0,0,-1⟩,0,1⟩,⟨0,1,1,[],[],0⟩⟩
theorem Qhr (l:Zs) (at_:Int) (i:Nat):Zh (V8 l at_ i) (sgM l at_ i)=V8 l at_ (i+1):=by simp[Zh,V8,sgL,QLs]
def QdK (l:Zs) (at_:Int) (k:Nat):List Int:=[((l.zc.za.length:Nat):Int),at_+(k:Nat),0,(l.marks.getD k (0,0)).1,(l.marks.getD k (0,0)).2]
def Qh9 (l:Zs) (at_:Int) (i:Nat):List Txt:=(List.range i).map fun k=>[115,101,101,32]++YN (QdK l at_ k)
def QAJ (l:Zs) (at_:Int):Txt:=[119,104,111,32]++Lib.itoa (at_+l.z5)
def Qda (l:Zs) (at_:Int):List Txt:=Qh9 l at_ l.marks.length++[QAJ l at_]
structure J5 (l:Zs) (at_:Int):Prop where
 ok:OkL l
 first:inR at_ 0 (Ql l.zc.za-1)
 last:inR (at_+l.marks.length-1) 0 (Ql l.zc.za-1)
 many:l.zc.zg.length+l.marks.length<=8
 house:okH (V8 l at_ 0)
theorem Qi7 {l:Zs} (hl:OkL l):Ql l.zc.za<=12:=by
 have h1:=hl.zc.za.cnt l.zc.za.length (QKJ _) (QKJ _);have h2:=hl.zc.len;unfold Ql;omega
theorem QwH (l:Zs) (at_:Int) (i:Nat):(sgL l at_ i).length=i:=by simp[sgL]
theorem QoP {l:Zs} (hl:OkL l) (k:Nat):inR (l.marks.getD k (0,0)).1 (-1) 99/\inR (l.marks.getD k (0,0)).2 (-1) 99:=by
 by_cases hk:k<l.marks.length
 ·have h1:=hl.marks _ (QKL hk);have e:l.marks.getD k (0,0)=l.marks[k]:=by simp[hk]
  rw[e];simpa[Qag] using h1
 have e:l.marks.getD k (0,0)=(0,0):=by
  rw[List.getD_eq_getElem?_getD,QLL (by omega)]
  rfl
 rw[e];decide
variable {l:Zs} {at_:Int}
theorem J5.sight (h:J5 l at_) {k:Nat} (hk:k<l.marks.length):ZG (sgM l at_ k) l.zc.za:=by
 have h1:=h.first;have h2:=h.last;have h3:=QoP h.ok k;simp only[inR] at h1 h2;refine ⟨?_,by simp[sgM,inR],?_,h3.1,h3.2⟩
 ·simp[sgM,inR]
 simp only[sgM,inR,QMn];unfold Ql at h1 h2;omega
theorem J5.okC (h:J5 l at_) {i:Nat} (hi:i<=l.marks.length):OkC (V8 l at_ i).ze.zc:=by
 have hc:=h.ok.zc;have hm:=h.many;refine ⟨hc.len,?_,hc.zh,hc.za,fun s hs=>?_⟩
 ·simp[V8,QwH];omega
 rcases QK2.1 hs with hs | hs
 ·exact hc.zg s hs
 obtain ⟨k,hk,rfl⟩:=QKT.1 hs;exact h.sight (by have:=QLa.1 hk;omega)
theorem J5.okH (h:J5 l at_) {i:Nat} (hi:i<=l.marks.length):Go.Pf.okH (V8 l at_ i) :=
 ⟨⟨h.okC hi,h.house.1.zb,h.house.1.zo,h.house.1.z6,h.house.1.many,h.house.1.zf⟩,h.house.2⟩
theorem J5.small (h:J5 l at_) {k:Nat} (hk:k<l.marks.length):∀ n∈QdK l at_ k,X3 n:=fun n hn=>by
 have h1:=h.first;have h2:=h.last;have h3:=QoP h.ok k;have h4:=Qi7 h.ok;have h5:=h.ok.zc.len;simp only[inR] at h1 h2 h3;unfold X3;simp only[QdK,QKU,QK1,or_false] at hn;rcases hn with rfl | rfl | rfl | rfl | rfl<;>omega
theorem J5.see (h:J5 l at_) {k:Nat} (hk:k<l.marks.length):XO ([115,101,101,32]++YN (QdK l at_ k))=some (.see,QdK l at_ k):=QoB _ rfl (h.small hk)
theorem J5.smallW (h:J5 l at_):X3 (at_+l.z5):=by
 have h1:=h.first;have h2:=h.last;have h3:=h.ok.z5;have h4:=Qi7 h.ok;simp only[inR] at h1 h2 h3;unfold X3;omega
theorem J5.who (h:J5 l at_):XO (QAJ l at_)=some (.who,[at_+l.z5]):=QoA h.smallW
theorem J5.line (h:J5 l at_) {k:Nat} (hk:k<l.marks.length):XA (V8 l at_ k) ([115,101,101,32]++YN (QdK l at_ k))=(Qvj,V8 l at_ (k+1)):=by
 have ho:=h.okH (i:=k+1) hk;unfold XA;rw[h.see hk];simp only;rw[ZN (h':=V8 l at_ (k+1)) rfl (by rw[<- Qhr];rfl)];unfold chT chH;rw[if_pos ho,if_pos ho]
theorem Qiy {k:Nat} (hk:k<l.marks.length) (h:k<(Qda l at_).length):(Qda l at_)[k]=[115,101,101,32]++YN (QdK l at_ k):=by
 simp[Qda,Qh9,List.getElem_append,hk]
theorem Jy:(Qda l at_).length=l.marks.length+1:=by simp[Qda,Qh9]
theorem QlA (h:l.marks.length<(Qda l at_).length):(Qda l at_)[l.marks.length]=QAJ l at_:=by
 simp[Qda,Qh9,List.getElem_append]
theorem J5.state (h:J5 l at_):∀ i,i<=l.marks.length->XK (V8 l at_ 0) (Qda l at_) i=V8 l at_ i
 | 0,_=>rfl
 | i+1,hi=>by
   have xa:i<(Qda l at_).length:=by rw[Jy];omega
   rw[YX _ _ i xa,h.state i (by omega),Qiy hi xa,h.line hi]
theorem J5.answ (h:J5 l at_):∀ i,i<=l.marks.length->Qc5 (V8 l at_ 0) (Qda l at_) i=List.replicate i Qvj
 | 0,_=>rfl
 | i+1,hi=>by
   have xa:i<(Qda l at_).length:=by rw[Jy];omega
   rw[J4 _ _ i xa,h.answ i (by omega),h.state i (by omega),Qiy hi xa,h.line hi,List.replicate_succ']
noncomputable def Qgy (l:Zs) (at_:Int):Txt:=J3 (V8 l at_ l.marks.length) .who [at_+l.z5]
theorem J5.run (h:J5 l at_):Qsf (V8 l at_ 0) (Qda l at_)=List.replicate l.marks.length Qvj++[Qgy l at_]/\Qse (V8 l at_ 0) (Qda l at_)=0:=by
 have h8:=h.many;have xa:l.marks.length<(Qda l at_).length:=by rw[Jy];omega
 refine ⟨?_,?_⟩
 ·unfold Qsf;rw[if_pos h.house,if_neg (by rw[Jy];omega),Jy,J4 _ _ _ xa,h.answ _ (QKJ _),h.state _ (QKJ _),QlA xa]
  congr 2;unfold XA;rw[h.who];simp only;rw[Zk rfl];rfl
 unfold Qse;rw[if_pos h.house,if_neg (by rw[Jy];omega)]
theorem J5.good14 (h:J5 l at_):Gd KW 14 [hoV (V8 l at_ 0),strs (Qda l at_)] (.xd [strs (List.replicate l.marks.length Qvj++[Qgy l at_]),hoV (QiD (V8 l at_ 0) (Qda l at_)),.int .i64 0]):=by
 have h8:=h.many;have hg:=QjF (V8 l at_ 0) (Qda l at_) (Qr h.house) (by rw[Jy];omega) fun _ _ i hi=>by
  rw[Jy] at hi;rw[h.state i (by omega)];by_cases hk:i<l.marks.length
  ·have ho:=h.okH (i:=i+1) hk;have hlen:(YN (QdK l at_ i)).length<=20:=by
    have:=W0 (QdK l at_ i) (h.small hk);rw[Vh (by simp[QdK])];simpa[QdK] using this
   rw[Qiy hk (by rw[Jy];omega)]
   refine qb _ _ (fun v q hp _=>?_) (by simp;omega);rw[h.see hk] at hp;injection hp with hp;injection hp with h1 h2;subst h1 h2;rw[ZN (h':=Zh (V8 l at_ i) (sgM l at_ i)) rfl rfl]
   exact Qpn hKW (V8 l at_ i) _ _ _ _ _ (Qr (h.okH (by omega))) (by
    have:=Qr ho;rw[<- Qhr] at this;exact this)
  have e:i=l.marks.length:=by omega
  subst e;rw[QlA (by rw[Jy];omega)]
  refine qb _ _ (fun v q hp _=>?_) (by
   have:=(WS h.smallW).2.2;simp[QAJ];omega)
  rw[h.who] at hp;injection hp with hp;injection hp with h1 h2;subst h1 h2;rw[Zk rfl];exact QsI _ _ (h.okH (QKJ _))
 rw[h.run.1,h.run.2] at hg;exact hg
structure Ord where
 rates:List (Int × Int × Int)
 ships:List (Int × Int)
 stocks:List (Int × Int × Int)
 shk:Int
 deriving DecidableEq
@[simp] def orC (o:Ord):List IV:=[ZP o.rates,ZV o.ships,ZP o.stocks,.int .i64 o.shk]
@[simp] def orV (o:Ord):IV:=.agg (orC o)
def VN (a b lo hi:Int):Prop:=inR a lo b/\b<=hi
instance (a b lo hi:Int):Decidable (VN a b lo hi):=by unfold VN;infer_instance
def Qf2 (s:Int × Int):Bool:=!decide (VN s.1 s.2 0 9999)
def Qdo (s:Int × Int × Int):Bool:=!decide (inR s.1 1 99)||!decide (VN s.2.1 s.2.2 1 999)
def Qlg (o:Ord) (i:Nat) (r:Int × Int × Int):Bool :=
 !decide (inR r.1 0 9999)||!decide (inR r.2.1 1 99)||!decide (inR r.2.2 0 999)||(decide (0<i)&&decide (r.1<=(o.rates.getD (i-1) (0,0,0)).1))
structure OkO (o:Ord):Prop where
 rates:∀ i (h:i<o.rates.length),Qlg o i o.rates[i]=false
 nr:o.rates.length<=6
 ns:o.ships.length<=3
 nk:o.stocks.length<=7
 shk:inR o.shk 0 9
 ships:∀ s∈o.ships,Qf2 s=false
 stocks:∀ s∈o.stocks,Qdo s=false
noncomputable instance (o:Ord):Decidable (OkO o):=Classical.propDecidable _
theorem Qog {s:Int × Int} (h:Qf2 s=false):0<=s.1/\s.1<=s.2/\s.2<=9999:=by
 have h1:VN s.1 s.2 0 9999:=by simpa[Qf2] using h
 obtain ⟨⟨h1,h2⟩,h3⟩:=h1;exact ⟨h1,h2,h3⟩
theorem Qls {s:Int × Int × Int} (h:Qdo s=false):1<=s.1/\s.1<=99/\1<=s.2.1/\s.2.1<=s.2.2/\s.2.2<=999:=by
 have h1:inR s.1 1 99/\VN s.2.1 s.2.2 1 999:=by simpa[Qdo] using h
 obtain ⟨⟨h1,h2⟩,⟨h3,h4⟩,h5⟩:=h1;exact ⟨h1,h2,h3,h4,h5⟩
include hK
theorem Qef (x a b:Int):Gd K 57 [.int .i64 x,.int .i64 a,.int .i64 b] (.bool (decide (inR x a b))):=by
 refine Qb hK (fk func57 c57 (by kernel_rfl)) (by simp) ?_;by_cases h1:a<=x
 ·simp[h1,inR]
 simp[h1,inR]
theorem QpS (a b lo hi:Int):Gd K 151 [.agg [.int .i64 a,.int .i64 b],.int .i64 lo,.int .i64 hi] (.bool (decide (VN a b lo hi))):=by
 refine Qb hK (fk func151 QJl (by kernel_rfl)) (by simp) ?_;simp;refine cK (Qef hK _ _ _) ?_;by_cases h1:inR a lo b
 ·simp[h1,VN]
 simp[h1,VN]
theorem QyY (s:Int × Int):Gd K 150 [.agg (spC s)] (.bool (Qf2 s)):=by
 refine Qb hK (fk func150 QJm (by kernel_rfl)) (by simp) ?_;simp;refine cK (QpS hK _ _ _ _) ?_;by_cases h1:VN s.1 s.2 0 9999
 ·simp[h1,Qf2]
 simp[h1,Qf2]
theorem QyX (s:Int × Int × Int):Gd K 152 [.agg (gaC s)] (.bool (Qdo s)):=by
 refine Qb hK (fk func152 QJk (by kernel_rfl)) (by simp) ?_;simp;refine cK (Qef hK _ _ _) ?_;by_cases h1:inR s.1 1 99
 ·simp[h1];refine cK (QpS hK _ _ _ _) ?_;by_cases h2:VN s.2.1 s.2.2 1 999
  ·simp[h1,h2,Qdo]
  simp[h1,h2,Qdo]
 simp[h1,Qdo]
theorem Qyl (l:List (Int × Int × Int)) (g:FuncId) (p:Int × Int × Int->Bool) (hg:∀ x,Gd K g [.agg (gaC x)] (.bool (p x))) (hc:callee prog g=true) (hl:l.length<=1000):Gd K 250 [ZP l,.fn g] (.int .i64 (fi p l)):=by
 refine Qb hK (fk func250 QHY (by kernel_rfl)) (by simp) ?_;simp;intro _;refine Qi (fun i=>[(0,AV.iv (ZP l)),(1,AV.iv (.fn g)),(7,AV.iv (.int .i64 l.length)),(8,AV.iv (IV.int IntKind.i64 (i:Nat)))]) (fun _=>[]) l.length (fun i=>∀ x∈l.take i,p x=false) (by simp) ?_ ?_
 ·intro h;rw[Qa QkF.eq_1];rw[QK0] at h;simp[YK p l h]
 intro i hi h ih;rw[Qa QkF.eq_1];have hgi:=hg l[i];simp[hi] at ih |-;refine ⟨hc,cK (by simpa using hgi) ?_⟩;by_cases hp:p l[i]=true
 ·simp[hp,QaX p l i hi hp h]
 have hp':p l[i]=false:=by simpa using hp
 simp[hp'];refine ⟨by omega,ih ?_⟩;rw[QKH hi]
 grind
theorem QyW (l:List (Int × Int × Int)) (g:FuncId) (p:Int × Int × Int->Bool) (hg:∀ x,Gd K g [.agg (gaC x)] (.bool (p x))) (hc:callee prog g=true) (hl:l.length<=1000):Gd K 154 [ZP l,.fn g] (.bool (l.any p)):=by
 refine Qb hK (fk func154 QJi (by kernel_rfl)) (by simp) ?_;simp;refine cK (by simpa using Qyl hK l g p hg hc hl) ?_;simp[Xs]
theorem QBS (o:Ord) (hl:o.rates.length<=1000):Gd K 56 [orV o] (.int .i64 (if OkO o then 0 else 80)):=by
 refine Qb hK (fk func56 c56 (by kernel_rfl)) (by simp) ?_;have no:∀ q:Prop,(OkO o->q)->¬ q->¬ OkO o:=fun q h1 h2 h=>h2 (h1 h);simp
 (repeat' first|omega|with_reducible apply And.intro|intro)
 refine Qi (fun i=>[(1,.iv (.ptr (orC o))),(8,.iv (ZP o.rates)),(9,.iv (.int .i64 o.rates.length)),(10,.iv (.int .i64 (i:Nat)))]) (fun _=>[]) o.rates.length (fun i=>∀ k (h:k<o.rates.length),k<i->Qlg o k o.rates[k]=false) (fun k h hk=>by omega) ?_ ?_
 ·intro hr;have hr:∀ i (h:i<o.rates.length),Qlg o i o.rates[i]=false:=fun i h=>hr i h h;rw[Qa Qq5.eq_1];by_cases h1:o.rates.length<=6
  case neg =>
   have h1':(6:Int)<o.rates.length:=by omega
   have:=no _ OkO.nr h1;simp[h1',this]
   try (intros;omega)
  have h1':¬ (6:Int)<o.rates.length:=by omega
  by_cases h2:o.ships.length<=3
  case neg =>
   have h2':(3:Int)<o.ships.length:=by omega
   have:=no _ OkO.ns h2;simp[h1',h2',this]
   try (intros;omega)
  have h2':¬ (3:Int)<o.ships.length:=by omega
  by_cases h3:o.stocks.length<=7
  case neg =>
   have h3':(7:Int)<o.stocks.length:=by omega
   have:=no _ OkO.nk h3;simp[h1',h2',h3',this]
   try (intros;omega)
  have h3':¬ (7:Int)<o.stocks.length:=by omega
  simp[h1',h2',h3']
  (repeat' first|omega|with_reducible apply And.intro|intro)
  refine cK (Qef hK _ _ _) ?_;by_cases h4:inR o.shk 0 9
  case neg =>
   have:=no _ OkO.shk h4;simp[h4,this]
  simp[h4];refine cK (by simpa using QpR hK o.ships 150 Qf2 (QyY hK) (by kernel_rfl) (by omega)) ?_;by_cases h5:o.ships.any Qf2=false
  case neg =>
   have:=no _ OkO.ships (by simpa using h5);have h5':o.ships.any Qf2=true:=by simpa using h5
   simp only[h5',this];simp
  simp only[h5];simp;refine cK (by simpa using QyW hK o.stocks 152 Qdo (QyX hK) (by kernel_rfl) (by omega)) ?_;by_cases h6:o.stocks.any Qdo=false
  case neg =>
   have:=no _ OkO.stocks (by simpa using h6);have h6':o.stocks.any Qdo=true:=by simpa using h6
   simp only[h6',this];simp
  have:OkO o:=⟨hr,h1,h2,h3,h4,by simpa using h5,by simpa using h6⟩;simp only[h6,this];simp
 intro i hi h ih;have hn:Qlg o i o.rates[i]=true->¬ OkO o:=fun h1=>no _ (fun h2=>h2.rates i hi) (by simp[h1]);have hy:Qlg o i o.rates[i]=false->∀ k (h:k<o.rates.length),k<i+1->Qlg o k o.rates[k]=false:=fun h1 k hk hki=>by
  rcases QMt.1 hki with h2 | h2
  ·exact h k hk h2
  subst h2;exact h1
 have hii:(i:Int)<o.rates.length:=by omega
 rw[Qa Qq5.eq_1];unfold Qlg at hn hy;generalize hr:o.rates[i]=r at *;simp[hi,hii,hr] at ih |-;refine cK (Qef hK _ _ _) ?_;by_cases h1:inR r.1 0 9999
 case neg =>
  have:=hn (by simp[h1]);simp[h1,this]
 simp[h1];refine cK (Qef hK _ _ _) ?_;by_cases h2:inR r.2.1 1 99
 case neg =>
  have:=hn (by simp[h2]);simp[h2,this]
 simp[h2];refine cK (Qef hK _ _ _) ?_;by_cases h3:inR r.2.2 0 999
 case neg =>
  have:=hn (by simp[h3]);simp[h3,this]
 simp[h3];by_cases h4:0<i
 case neg =>
  have h0:i=0:=by omega
  have hb:=hy (by simp[h1,h2,h3,h4]);have h4':¬ (0:Int)<i:=by omega
  try simp[h4']
  (repeat' first|omega|with_reducible apply And.intro|intro)
  exact ih hb
 have xa:i-1<o.rates.length:=by omega
 have e1:(i:Int)-1=((i-1:Nat):Int):=by omega
 have e2:o.rates.getD (i-1) (0,0,0)=o.rates[i-1]:=by simp[xa]
 have h4':(0:Int)<i:=by omega
 rw[e2] at hn hy;by_cases h5:r.1<=o.rates[i-1].1
 ·have:=hn (by simp[h4,h5]);simp[h4,h4',e1,xa,h5,this]
  (repeat' first|omega|with_reducible apply And.intro|intro)
 have hb:=hy (by simp[h1,h2,h3,h5]);simp[h4,h4',e1,xa,h5]
 (repeat' first|omega|with_reducible apply And.intro|intro)
 exact ih hb
omit hK
def We (rs:List (Int × Int × Int)) (n:Int):Int × Int:=rs.foldl (fun x r=>if r.1<=n then (r.2.1,r.2.2) else x) (0,0)
def Qlx (o:Ord) (lo:Int) (i:Nat):List (Int × Int):=(List.range i).map fun k:Nat=>We o.rates (lo+k)
def Jo (o:Ord) (lo:Int):Nat->List (Int × Int)
 | 0=>[]
 | i+1=>if We o.rates (lo+i)∈Qlx o lo i then Jo o lo i else Jo o lo i++[We o.rates (lo+i)]
def Qg5 (o:Ord) (s:Int × Int):List (Int × Int):=Jo o s.1 (s.2+1-s.1).toNat
def ndK (x:Int × Int):MK:=.agg [.int .i64 x.1,.int .i64 x.2]
theorem QiZ (x y:Int × Int) (h:ndK x=ndK y):x=y:=by
 cases x;cases y;simpa[ndK] using h
theorem QlS (x:Int × Int):(ndK x).kind=.agg [some .i64,some .i64]:=rfl
theorem Qoh (o:Ord) (lo:Int) (i:Nat):Qlx o lo (i+1)=Qlx o lo i++[We o.rates (lo+i)]:=by simp[Qlx,QLs]
theorem Qsa (o:Ord) (lo:Int) (i:Nat):(Qlx o lo i).length=i:=by simp[Qlx]
theorem qI (o:Ord) (lo:Int):∀ i,(Jo o lo i).length<=i
 | 0=>by simp[Jo]
 | i+1=>by
   have ih:=qI o lo i;rw[Jo];split
   ·omega
   simp;omega
theorem QcF {α:Type} [DecidableEq α] (x y:α):∀ l,Wp (qz l x) y=Wp l y+if x=y then 1 else 0
 | []=>by simp[qz,Wp]
 | p::r=>by
   have ih:=QcF x y r;unfold qz;split
   ·simp only[Wp];grind
   simp only[Wp];grind
theorem Qtk {α:Type} [DecidableEq α] (y:α):∀ l:List α,Wp (Uj l) y=l.count y:=by
 refine ZQ rfl fun l x ih=>?_;rw[YB,QcF,ih,List.count_append,List.count_singleton]
 grind
theorem Qtj {α:Type} [DecidableEq α] (y:α) (l:List α):y∈l↔0<Wp (Uj l) y:=by rw[Qtk,List.count_pos_iff]
theorem Qnk (rs:List (Int × Int × Int)) (n:Int) (i:Nat) (h:i<rs.length):We (rs.take (i+1)) n=if rs[i].1<=n then (rs[i].2.1,rs[i].2.2) else We (rs.take i) n:=by
 unfold We;rw[QKH h,QL3];rfl
include hK
theorem QyV (o:Ord) (s:Int × Int) (hl:o.rates.length<=6) (hs:0<=s.1/\s.1<=s.2/\s.2<=9999):Gd K 155 [orV o,.agg (spC s)] (.sl 2 ((Qg5 o s).map spC)):=by
 refine Qb hK (fk func155 QJh (by kernel_rfl)) (by simp) ?_;obtain ⟨lo,hi⟩:=s;simp only at hs;have hnn:(((hi+1-lo).toNat:Nat):Int)=hi+1-lo:=by omega
 simp only[Qg5];generalize hN:(hi+1-lo).toNat=N at *;simp
 refine XU (fun i=>[(2,.iv (.ptr (orC o))),(3,.iv (.ptr [.int .i64 lo,.int .i64 hi])),(5,.yk 11),(6,.yl 6 (Jo o lo i).length),(7,.iv (.int .i64 (lo+(i:Nat))))])
  (fun i=>[(6,.arr 144 2 (emb ((Jo o lo i).map spC)) 0),(11,.xg (Jb ndK (Uj (Qlx o lo i))))]) N (fun _=>True) trivial ?_ ?_ (by simp[Jo]) (by simp[Jo,Qlx,Uj,Jb,emb])
 ·intro _;rw[Qa Qk1.eq_1];have h1:¬ lo+(N:Int)<=hi:=by omega
  generalize Jo o lo N=L at *;simp[h1,QKM]
 intro i hi' _ ih;have h1:lo+(i:Int)<=hi:=by omega
 have e3:lo+((i+1:Nat):Int)=lo+i+1:=by omega
 have hsl:=Qsa o lo i;have hnl:=qI o lo i;rw[Qoh,YB,e3,Jo] at ih;have hcl:=QjI (We o.rates (lo+i)) (Qlx o lo i);have hmem:=Qtj (We o.rates (lo+i)) (Qlx o lo i);have hg1:=QcF (We o.rates (lo+i)) (We o.rates (lo+i)) (Uj (Qlx o lo i));simp only[if_true] at hg1;rw[Qa Qk1.eq_1];simp[h1]
 (repeat' first|omega|with_reducible apply And.intro|intro)
 refine XU (fun j=>[(2,.iv (.ptr (orC o))),(3,.iv (.ptr [.int .i64 lo,.int .i64 hi])),(5,.yk 11),(6,.yl 6 (Jo o lo i).length),(7,.iv (.int .i64 (lo+(i:Nat)))),(8,.loc 8 0),(22,.iv (ZP o.rates)),(23,.iv (.int .i64 o.rates.length)),(24,.iv (.int .i64 (j:Nat)))])
  (fun j=>[(6,.arr 144 2 (emb ((Jo o lo i).map spC)) 0),(8,.box [.iv (.int .i64 (We (o.rates.take j) (lo+i)).1),.iv (.int .i64 (We (o.rates.take j) (lo+i)).2)]),(11,.xg (Jb ndK (Uj (Qlx o lo i))))]) o.rates.length (fun _=>True) trivial ?_ ?_ (by simp) (by simp[We])
 ·intro _;rw[Qa Qk2.eq_1];rw[QK0];generalize hx:We o.rates (lo+i)=x at *;generalize Uj (Qlx o lo i)=kv at *;have q1:(Qh (MK.agg [.int .i64 x.1,.int .i64 x.2]) (Jb ndK kv)).getD (.int .i64 0)=.int .i64 (Wp kv x:Nat):=Uh QiZ x kv;have q2:zn (MK.agg [.int .i64 x.1,.int .i64 x.2]) (.int .i64 ((Wp kv x:Nat)+1)) (Jb ndK kv)=Jb ndK (qz kv x):=Qbm QiZ x kv;have q3:QP (.agg [some .i64,some .i64]) (Jb ndK kv):=JZ QlS kv;have q4:(Qh (MK.agg [.int .i64 x.1,.int .i64 x.2]) (Jb ndK (qz kv x))).getD (.int .i64 0)=.int .i64 (Wp (qz kv x) x:Nat):=Uh QiZ x _;have q5:QP (.agg [some .i64,some .i64]) (Jb ndK (qz kv x)):=JZ QlS _;simp[Qhj,QBs,KC.kind,q1,q3,WT,Qfb,q2,q4,q5,hg1];by_cases hm:x∈Qlx o lo i
  ·have h0:=hmem.1 hm;have h0':¬ (Wp kv x:Int)+1=1:=by omega
   rw[if_pos hm] at ih;simp[h0'] at ih |-;exact ⟨by omega,by omega,ih⟩
  have h0:Wp kv x=0:=by
   have:=mt hmem.2 hm;omega
  rw[if_neg hm] at ih;simp[h0] at ih |-;exact ⟨by omega,by omega,ih⟩
 intro j hj _ ih2;have hjj:(j:Int)<o.rates.length:=by omega
 rw[Qnk _ _ _ hj] at ih2;rw[Qa Qk2.eq_1];by_cases hq:o.rates[j].1<=lo+i
 ·simp[hj,hjj,hq] at ih2 |-
  exact ⟨by omega,ih2⟩
 simp[hj,hjj,hq] at ih2 |-;exact ⟨by omega,ih2⟩
omit hK
def YM (o:Ord):List (List (Int × Int)):=o.ships.map (Qg5 o)
@[simp] def QBz (o:Ord):IV:=.sl 1 ((YM o).map fun l=>[.sl 2 (l.map spC)])
@[simp] def yaC (o:Ord):List IV:=[ZP o.rates,ZV o.ships,ZP o.stocks,.int .i64 o.shk,QBz o]
@[simp] def yaV (o:Ord):IV:=.ptr (yaC o)
def Jv (p:List Int):Nat:=p.countP fun x=>decide (0<=x)
structure Cab where
 size:Int
 lo:Int
 hi:Int
 many:Nat
def QnM (o:Ord) (p:List Int) (ship:Int):Nat->Option Cab
 | 0=>some ⟨99,0,0,0⟩
 | i+1=>match QnM o p ship i with
   | none=>none
   | some c=>if p.getD i 0=ship then
     (if 0<c.many/\(o.stocks.getD i (0,0,0)).1≠c.size then none
     else some ⟨(o.stocks.getD i (0,0,0)).1,c.lo+(if 0<c.many then o.shk else 0)+(o.stocks.getD i (0,0,0)).2.1,c.hi+(if 0<c.many then o.shk else 0)+(o.stocks.getD i (0,0,0)).2.2,c.many+1⟩)
     else some c
def Qup (o:Ord) (p:List Int) (ship:Int):Int × Int × Int:=match QnM o p ship o.stocks.length with
 | none=>(-1,0,0)
 | some c=>(c.size,c.lo,c.hi)
def Qgm (c:Int × Int × Int) (l:List (Int × Int)):Bool:=l.all fun n=>decide (n.1<=c.1)&&decide (n.2<=c.2.1)
def QvE (c:Int × Int × Int) (l:List (Int × Int)):Bool:=l.all fun n=>decide (c.1<n.1)||decide (c.2.2<n.2)
def V4 (o:Ord) (p:List Int) (i:Nat):Int :=
 if Qgm (Qup o p i) ((YM o).getD i []) then 1 else if QvE (Qup o p i) ((YM o).getD i []) then 2 else 3
def WZ (o:Ord) (p:List Int):Nat->Option Int
 | 0=>some 1
 | i+1=>match WZ o p i with
   | none=>none
   | some k=>if V4 o p i=2 then none else if V4 o p i=3 then some 3 else some k
def WY (o:Ord) (p:List Int):Int:=(WZ o p o.ships.length).getD 2
theorem QqV {o:Ord} (h:OkO o) (p:List Int) (ship:Int):∀ i,i<=o.stocks.length->∀ c,QnM o p ship i=some c->0<=c.size/\c.size<=99/\0<=c.lo/\c.lo<=2000*i/\0<=c.hi/\c.hi<=2000*i/\c.many<=i
 | 0,_,c,hc=>by
   simp only[QnM,Option.some.injEq] at hc;subst hc;simp
 | i+1,hi,c,hc=>by
   have xa:i<o.stocks.length:=by omega
   have hs:=Qls (h.stocks _ (QKL xa));have hk:=h.shk;simp only[inR] at hk;have hg:o.stocks.getD i (0,0,0)=o.stocks[i]:=by simp[xa]
   simp only[QnM] at hc;cases hci:QnM o p ship i with
   | none=>rw[hci] at hc;cases hc
   | some d =>
     have ih:=QqV h p ship i (by omega) d hci;rw[hci,hg] at hc;simp only at hc;split at hc
     ·split at hc
      ·cases hc
      simp only[Option.some.injEq] at hc;subst hc;simp only;split<;>omega
     simp only[Option.some.injEq] at hc;subst hc;omega
include hK
theorem Qmb (p:List Int) (hl:p.length<=1000):Gd K 73 [QU p] (.int .i64 (Jv p:Nat)):=by
 refine Qb hK (fk func73 c73 (by kernel_rfl)) (by simp) ?_;simp
 (repeat' first|omega|with_reducible apply And.intro|intro)
 refine XU (fun i=>[(3,.iv (.int .i64 (Jv (p.take i):Nat))),(6,.iv (QU p)),(7,.iv (.int .i64 p.length)),(8,.iv (.int .i64 (i:Nat)))]) (fun _=>[]) p.length (fun _=>True) trivial ?_ ?_ (by simp[Jv]) rfl
 ·intro _;rw[Qa Qq2.eq_1];simp
 intro i hi _ ih;have hii:(i:Int)<p.length:=by omega
 have hc:Jv (p.take i)<=i:=by
  have:=QLq (p:=fun x=>decide ((0:Int)<=x)) (l:=p.take i);rw[QMh] at this;unfold Jv;omega
 have hs:Jv (p.take (i+1))=Jv (p.take i)+if 0<=p[i] then 1 else 0:=by
  unfold Jv;rw[QKH hi,QLD,List.countP_singleton];simp
 rw[hs] at ih;rw[Qa Qq2.eq_1];by_cases h0:0<=p[i]
 ·simp[hi,hii,h0] at ih |-
  exact ⟨by omega,by omega,ih⟩
 simp[hi,hii,h0] at ih |-;exact ⟨by omega,ih⟩
theorem Qxz (o:Ord) (p:List Int) (ship:Int) (ho:OkO o) (hp:p.length=o.stocks.length):Gd K 376 [yaV o,QU p,.int .i64 ship] (.xd [.int .i64 (Qup o p ship).1,.agg [.int .i64 (Qup o p ship).2.1,.int .i64 (Qup o p ship).2.2]]):=by
 refine Qb hK (fk func376 QGG (by kernel_rfl)) (by simp) ?_;have hn:=ho.nk;have hk:=ho.shk;simp only[inR] at hk;generalize hV:Qup o p ship=V;simp
 (repeat' first|omega|with_reducible apply And.intro|intro)
 refine Xd o.stocks.length (fun i e ob=>∃ c,QnM o p ship i=some c/\e=[(0,.iv (yaV o)),(1,.iv (QU p)),(2,.iv (.int .i64 ship)),(6,.iv (.int .i64 c.size)),(7,.loc 7 0),(8,.iv (.int .i64 (c.many:Nat))),(15,.iv (ZP o.stocks)),(16,.iv (.int .i64 o.stocks.length)),(17,.iv (.int .i64 (i:Nat)))] /\
  ob=[(7,.box [.iv (.int .i64 c.lo),.iv (.int .i64 c.hi)])]) ?_ ?_ _ _ ⟨⟨99,0,0,0⟩,rfl,by simp,by simp⟩
 ·rintro e ob ⟨c,hc,rfl,rfl⟩;rw[Qa Qj2.eq_1];have hv:V=(c.size,c.lo,c.hi):=by rw[<- hV];simp[Qup,hc]
  simp[hv]
 rintro i e ob hi ⟨c,hc,rfl,rfl⟩ ih;have hb:=QqV ho p ship i (by omega) c hc;have hs:=Qls (ho.stocks _ (QKL hi));have hpi:i<p.length:=by omega
 have hii:(i:Int)<o.stocks.length:=by omega
 have hg:o.stocks.getD i (0,0,0)=o.stocks[i]:=by simp[hi]
 have hgp:p.getD i 0=p[i]:=by simp[hpi]
 have hsc:QnM o p ship (i+1)=if p[i]=ship then (if 0<c.many/\o.stocks[i].1≠c.size then none
   else some ⟨o.stocks[i].1,c.lo+(if 0<c.many then o.shk else 0)+o.stocks[i].2.1,c.hi+(if 0<c.many then o.shk else 0)+o.stocks[i].2.2,c.many+1⟩) else some c:=by simp only[QnM,hc,hg,hgp]
 have hnone:∀ n,i+1+n<=o.stocks.length->QnM o p ship (i+1)=none->QnM o p ship (i+1+n)=none:=fun n=>by
  induction n with
  | zero=>exact fun _ h=>h
  | succ n ih2 =>
    intro h1 h2;show QnM o p ship (i+1+n+1)=none;simp only[QnM,ih2 (by omega) h2]
 rw[Qa Qj2.eq_1];generalize hst:o.stocks[i]=st at *;generalize hpp:p[i]=pi at *;by_cases h1:pi=ship
 case neg =>
  rw[if_neg h1] at hsc;simp[hi,hii,hst,hpi,hpp,h1]
  (repeat' first|omega|with_reducible apply And.intro|intro)
  exact ih _ _ ⟨c,hsc,by simp,by simp⟩
 by_cases h2:0<c.many
 case neg =>
  have h0:c.many=0:=by omega
  rw[if_pos h1,if_neg (by omega)] at hsc;simp only[h0,Nat.lt_irrefl,if_false] at hsc;simp[hi,hii,hst,hpi,hpp,h1,h0]
  (repeat' first|omega|with_reducible apply And.intro|intro)
  exact ih _ _ ⟨_,hsc,by simp,by simp⟩
 have h2':(0:Int)<(c.many:Nat):=by omega
 by_cases h3:st.1=c.size
 ·rw[if_pos h1,if_neg (by omega)] at hsc;simp only[h2,if_true] at hsc;simp[hi,hii,hst,hpi,hpp,h1,h2,h2',h3]
  (repeat' first|omega|with_reducible apply And.intro|intro)
  exact ih _ _ ⟨_,hsc,by simp[h3],by simp⟩
 rw[if_pos h1,if_pos ⟨h2,h3⟩] at hsc;have hfin:=hnone (o.stocks.length-(i+1)) (by omega) hsc;have e1:i+1+(o.stocks.length-(i+1))=o.stocks.length:=by omega
 rw[e1] at hfin;have hv:V=(-1,0,0):=by rw[<- hV];simp[Qup,hfin]
 simp[hi,hii,hst,hpi,hpp,h1,h2,h2',h3,hv]
theorem QxQ (o:Ord) (p:List Int) (i:Nat) (ho:OkO o) (hp:p.length=o.stocks.length) (hi:i<o.ships.length):Gd K 331 [yaV o,QU p,.int .i64 (i:Nat)] (.int .i64 (V4 o p i)):=by
 refine Qb hK (fk func331 QG3 (by kernel_rfl)) (by simp) ?_;have g:=Qxz hK o p i ho hp;have hil:i<(YM o).length:=by simpa[YM] using hi
 have hge:(YM o).getD i []=(YM o)[i]:=by simp[hil]
 have hlen:(YM o)[i].length<=10000:=by
  have h1:=Qog (ho.ships _ (QKL hi));have h2:=qI o o.ships[i].1 (o.ships[i].2+1-o.ships[i].1).toNat;simp only[YM,List.getElem_map,Qg5];omega
 unfold V4;rw[hge];simp;refine cK (by simpa using g) ?_;generalize Qup o p i=c at *;simp[hil]
 (repeat' first|omega|with_reducible apply And.intro|intro)
 generalize hl:(YM o)[i]=l at *
 refine XU (fun k=>[(7,.iv (.int .i64 c.1)),(8,.loc 8 0),(9,.iv (.bool (Qgm c (l.take k)))),(10,.iv (.bool (QvE c (l.take k)))),(27,.iv (.sl 2 (l.map spC))),(28,.iv (.int .i64 l.length)),(29,.iv (.int .i64 (k:Nat)))])
  (fun _=>[(8,.box [.iv (.int .i64 c.2.1),.iv (.int .i64 c.2.2)])]) l.length (fun _=>True) trivial ?_ ?_ (by simp[Qgm,QvE]) (by simp)
 ·intro _;rw[Qa Qkn.eq_1];rw[QK0];cases h1:Qgm c l
  ·cases h2:QvE c l
   ·simp
   simp
  simp
 intro k hk _ ih;have hkk:(k:Int)<l.length:=by omega
 have e1:Qgm c (l.take (k+1))=(Qgm c (l.take k)&&(decide (l[k].1<=c.1)&&decide (l[k].2<=c.2.1))):=by
  unfold Qgm;rw[QKH hk,List.all_append];simp
 have e2:QvE c (l.take (k+1))=(QvE c (l.take k)&&(decide (c.1<l[k].1)||decide (c.2.2<l[k].2))):=by
  unfold QvE;rw[QKH hk,List.all_append];simp
 rw[e1,e2] at ih;rw[Qa Qkn.eq_1];generalize hn:l[k]=n at *;cases h1:Qgm c (l.take k)<;>cases h2:QvE c (l.take k)<;>by_cases h3:n.1<=c.1<;>by_cases h4:n.2<=c.2.1<;>by_cases h5:c.2.2<n.2
 all_goals
  have h3':(c.1<n.1)↔¬ n.1<=c.1:=by omega
  simp[h1,h2,h3,h3',h4,h5] at ih;simp[hk,hkk,hn,h1,h2,h3,h3',h4,h5] at ih |-
  first | exact ⟨by omega,ih⟩ | ((repeat' first|omega|with_reducible apply And.intro|intro);exact ih)
theorem Qyo (o:Ord) (p:List Int) (ho:OkO o) (hp:p.length=o.stocks.length):Gd K 247 [yaV o,QU p] (.int .i64 (WY o p)):=by
 refine Qb hK (fk func247 QH1 (by kernel_rfl)) (by simp) ?_;have hn:=ho.ns;generalize hV:WY o p=V;simp
 (repeat' first|omega|with_reducible apply And.intro|intro)
 refine Xd o.ships.length (fun i e ob=>∃ k,WZ o p i=some k/\e=[(0,.iv (yaV o)),(1,.iv (QU p)),(5,.iv (.int .i64 k)),(12,.iv (.int .i64 o.ships.length)),(13,.iv (.int .i64 (i:Nat)))]/\ob=[]) ?_ ?_ _ _ ⟨1,rfl,by simp,by simp⟩
 ·rintro e ob ⟨k,hk,rfl,rfl⟩;rw[Qa QkH.eq_1];have hv:V=k:=by rw[<- hV];simp[WY,hk]
  simp[hv]
 rintro i e ob hi ⟨k,hk,rfl,rfl⟩ ih;have hii:(i:Int)<o.ships.length:=by omega
 have g:=QxQ hK o p i ho hp hi;have hsc:WZ o p (i+1)=if V4 o p i=2 then none else if V4 o p i=3 then some 3 else some k:=by simp only[WZ,hk]
 have hnone:∀ n,WZ o p (i+1)=none->WZ o p (i+1+n)=none:=fun n=>by
  induction n with
  | zero=>exact fun h=>h
  | succ n ih2 =>
    intro h2;show WZ o p (i+1+n+1)=none;simp only[WZ,ih2 h2]
 have hm:V4 o p i=1\/V4 o p i=2\/V4 o p i=3:=by
  unfold V4;split
  ·simp
  split<;>simp
 rw[Qa QkH.eq_1];generalize V4 o p i=m at *;simp[hii];refine cK (by simpa using g) ?_;rcases hm with rfl | rfl | rfl
 ·rw[if_neg (by omega),if_neg (by omega)] at hsc;simp
  (repeat' first|omega|with_reducible apply And.intro|intro)
  exact ih _ _ ⟨k,hsc,by simp,by simp⟩
 ·rw[if_pos rfl] at hsc;have hfin:=hnone (o.ships.length-(i+1)) hsc;have e1:i+1+(o.ships.length-(i+1))=o.ships.length:=by omega
  rw[e1] at hfin;have hv:V=2:=by rw[<- hV];simp[WY,hfin]
  simp[hv]
 rw[if_neg (by omega),if_pos rfl] at hsc;simp
 (repeat' first|omega|with_reducible apply And.intro|intro)
 exact ih _ _ ⟨3,hsc,by simp,by simp⟩
omit hK
def VC (m:Nat):Nat->List Int->List (List Int)
 | 0,first=>[first]
 | n+1,first=>acc (fun j:Nat=>VC m n (first++[(j:Int)-1])) (m+1)
def Qde (p:List Int):List IV:=[QU p]
theorem Wd (m:Nat):∀ (n:Nat) (first p:List Int),p∈VC m n first->p.length=first.length+n/\((∀ x∈first,-1<=x/\x<m)->∀ x∈p,-1<=x/\x<(m:Int))
 | 0,first,p,h=>by
   simp only[VC,QLd] at h;subst h;exact ⟨by omega,fun h=>h⟩
 | n+1,first,p,h=>by
   simp only[VC,acc,QK6,QLa] at h;obtain ⟨j,hj,h⟩:=h;obtain ⟨h1,h2⟩:=Wd m n _ p h;refine ⟨by simp at h1;omega,fun h3=>h2 fun x hx=>?_⟩;rcases QK2.1 hx with h4 | h4
   ·exact h3 x h4
   simp only[QLd] at h4;omega
include hK
theorem QFU (o:Ord) (hs:o.ships.length<=3) (hk:o.stocks.length<=7):∀ (n:Nat) (first:List Int),first.length+n=o.stocks.length->∀ (s s':Ext) (b:Bool),Q9 prog K ((VC o.ships.length n first).map Qde) s b s' ->
  qw prog K 245 [yaV o,.lit s.v,QU first] s (.bool b) s'
 | 0,first,hn=>by
   intro s s' b hf;refine Ye Qrr (by simp) hf.v rfl ?_;have hlen:first.length=o.stocks.length:=by omega
   simp only[VC,QKZ,QL8] at hf;simp[hlen]
   (repeat' first|omega|with_reducible apply And.intro|intro)
   cases hf with
   | stop _ _ _ _ hg =>
     refine QcQ (by simpa[Qde] using hg) rfl ?_;simp
   | next _ _ _ s1 _ _ hg hr =>
     cases hr;refine QcQ (by simpa[Qde] using hg) rfl ?_;simp
 | n+1,first,hn=>by
   intro s s' b hf;have hne:¬ first.length=o.stocks.length:=by omega
   have hne':¬ (first.length:Int)=o.stocks.length:=by omega
   have ih2:∀ i:Nat,∀ (s s':Ext) (b:Bool),Q9 prog K (((fun j:Nat=>VC o.ships.length n (first++[(j:Int)-1])) i).map Qde) s b s'->qw prog K 245 [yaV o,.lit s.v,QU (first++[(i:Int)-1])] s (.bool b) s':=fun i s s' b hf =>
    QFU o hs hk n (first++[(i:Int)-1]) (by simp;omega) s s' b hf
   rw[VC] at hf;generalize (fun j:Nat=>VC o.ships.length n (first++[(j:Int)-1]))=pc at *
   refine Ye Qrr (by simp) hf.v rfl ?_;rw[Vy] at hf;simp[hne,hne']
   (repeat' first|omega|with_reducible apply And.intro|intro)
   refine Xd (o.ships.length+1) (fun i e ob=>∃ si,si.v=s.v/\e=[(0,.iv (yaV o)),(1,.iv (.lit s.v)),(2,.iv (QU first)),(7,.iv (.int .i64 first.length)),(8,.iv (.int .i64 ((i:Nat)-1)))]/\ob=[(0,.ext si)] /\
    Q9 prog K ((Zu pc i (o.ships.length+1-i)).map Qde) si b s') ?_ ?_ _ _ ⟨s,rfl,by simp,by simp,by simpa using hf⟩
   ·rintro e ob ⟨si,hv,rfl,rfl,hfd⟩;rw[QL7] at hfd;cases hfd;have q2:¬ ((o.ships.length+1:Nat):Int)-1<o.ships.length:=by omega
    rw[Qa QkI.eq_1];simp[q2]
   rintro i e ob hi ⟨si,hv,rfl,rfl,hfd⟩ ih;have q1:(i:Int)-1<o.ships.length:=by omega
   have q3:(i:Int)-1+1=((i+1:Nat):Int)-1:=by omega
   have e1:o.ships.length+1-i=(o.ships.length+1-(i+1))+1:=by omega
   rw[e1] at hfd;simp only[Zu,QK3] at hfd;have hcase:(∃ s1 b1,Q9 prog K ((pc i).map Qde) si b1 s1/\(b1=true->Q9 prog K ((Zu pc (i+1) (o.ships.length+1-(i+1))).map Qde) s1 b s')/\(b1=false->b=false/\s1=s')):=by
    rcases Q9.append hfd with ⟨s1,h1,h2⟩ | ⟨h1,h2⟩
    all_goals grind
   obtain ⟨s1,b1,f1,f2,f3⟩:=hcase;have hgz:=ih2 i _ _ _ f1;have hv1:=f1.v.trans hv;rw[hv] at hgz;rw[Qa QkI.eq_1];simp[q1]
   (repeat' first|omega|with_reducible apply And.intro|intro)
   refine QjR (by simpa using hgz) rfl ?_;cases b1
   ·obtain ⟨rfl,rfl⟩:=f3 rfl;simp
   simp
   (repeat' first|omega|with_reducible apply And.intro|intro)
   exact ih _ _ ⟨s1,hv1,by simp[q3],by simp,f2 rfl⟩
theorem Qxc (o:Ord) (hs:o.ships.length<=3) (hk:o.stocks.length<=7):qu prog K 245 [yaV o] [.sl 1 []] ((VC o.ships.length o.stocks.length []).map Qde) (fun b=>.bool b):=by
 intro s b s' hf;refine Qec ?_;have h:=QFU hK o hs hk o.stocks.length [] (by simp) s s' b hf;simpa using h
end Go.Pf
namespace Go.Proofs
open Go.Proofs.Tryz
open Go.Shelf
def Tryz.clone248_ren:Go.Shelf.Ren:=⟨fun | 41=>248 | n=>n,fun | 22=>57 | 23=>3 | 4=>4 | n=>n,fun | n=>n⟩
theorem Tryz.clone248:Go.Proofs.SlLaysE0.n41 prog Tryz.clone248_ren:={
 mixed:=by kernel_rfl
 f41:=⟨Tryz.f248.name,by decide,func248.trans (congrArg some (by kernel_rfl))⟩
 t4:=underlying4
 a4:=isAgg4
 z4:=sizeOf4
 v4:=zeroValue4
 t22:=underlying57
 a22:=isAgg57
 z22:=sizeOf57
 v22:=zeroValue57 }
end Go.Proofs
namespace Go.Pf
open Go Go.Ev Go.Proofs Go.RowKit Go.Proofs.Tryz
variable {K:World->Prop} (hK:∀ w w',K w->Below w.heap.size w w'->K w')
set_option maxRecDepth 8000
def YF (o:Ord) (en:Int->Bool) (st:Option (List Int)) (p:List Int):Option (List Int):=match st with
 | none=>if en (WY o p) then some p else none
 | some q=>if Jv q<Jv p\/en (WY o p)=false then some q else if Jv p<Jv q then some p else some q
def stO (st:Option (List Int)):Qm:=match st with
 | none=>[(0,.box [.iv (.bool false)]),(1,.box [.iv (.sl 1 []),.iv (.map [])])]
 | some q=>[(0,.box [.iv (.bool true)]),(1,.box [.iv (QU q),.yk 2]),(2,.mapz (.int .i64))]
theorem QdA (st:Option (List Int)):∀ q∈stO st,q.1<3/\XR q.2=true/\clO ((stO st).map (·.1)) q.2=true:=by
 intro q hq;cases st with
 | none =>
   simp only[stO,QKU,QK1,or_false] at hq;rcases hq with rfl | rfl<;>exact ⟨by simp,rfl,by simp[stO,clO,clAL,clA]⟩
 | some p =>
   simp only[stO,QKU,QK1,or_false] at hq;rcases hq with rfl | rfl | rfl<;>exact ⟨by simp,rfl,by simp[stO,clO,clAL,clA]⟩
def QFR (st:Option (List Int)):Env->Qm->Prop:=Qic [.tmp 6] [0,1,2] [(1,0,0),(2,1,0)] (.iv (.bool true)) (stO st)
theorem QzD {st:Option (List Int)} {e:Env} {ob:Qm} (h0:Ev.look e 6=.iv (.bool true)) (h1:Ev.look e 1=.loc 0 0) (h2:Ev.look e 2=.loc 1 0) (h3:∀ q∈stO st,Qc ob q.1=some q.2):QFR st e ob:=by
 refine ⟨⟨.iv (.bool true),by simp[Qvz,h0],rfl⟩,fun q hq=>?_,fun q hq=>?_⟩
 ·have h4:=h3 q hq;cases st with
  | none =>
    simp only[stO,QKU,QK1,or_false] at hq;rcases hq with rfl | rfl<;>simpa[nth,rnO,rnL,rn] using h4
  | some p =>
    simp only[stO,QKU,QK1,or_false] at hq;rcases hq with rfl | rfl | rfl<;>simpa[nth,rnO,rnL,rn] using h4
 simp only[QKU,QK1,or_false] at hq;rcases hq with rfl | rfl
 ·exact h1
 exact h2
theorem Quu:Zv prog 246 QAF [1,2]:=⟨_,func246,by kernel_rfl⟩
include hK
theorem Qyn (p:List Int) (hl:p.length<=1000):Gd K 248 [QU p] (QU p):=by
 have h:=QaM (K:=K) (f:=248) (e:=3) 1 8 Tryz.clone248 rfl rfl (by kernel_rfl) (by kernel_rfl) (by kernel_rfl) (by kernel_rfl) (by kernel_rfl) (by decide) sizeOf3 (p.map fun x=>[.int .i64 x]) (by simp;omega) (by simp);refine Vo (xs:=[QU p]) hK (Qdh (args:=[QU p].map .iv) (o:=[]) 0 h (by simp[imms,imm])) ?_;simp[rn,XE,Qc,imm,QKM]
theorem QsS (o:Ord) (ho:OkO o) (p:List Int) (hp:p.length=o.stocks.length) (g:FuncId) (en:Int->Bool) (hg:∀ k,Gd K g [.int .i64 k] (.bool (en k))) (hc:callee prog g=true) (st:Option (List Int)) (hst:∀ q,st=some q->q.length<=7) :
  Gh K 246 [.iv (QU p),.loc 0 0,.loc 1 0,.iv (.ptr [.fn g]),.iv (.ptr [yaV o])] (stO st) [0,1] (.iv (.bool true)) (stO (YF o en st p)):=by
 have hl:p.length<=7:=hp▸ho.nk;have hu:∀ q:List Int,Jv q<=q.length:=fun q=>QLq;have hup:=hu p;have g1:=Qmb hK p (by omega);have g2:=Qyo hK o p ho hp;have g3:=hg (WY o p);have g4:=Qyn hK p (by omega);refine Zp [0,1,2] [0,1] [1,2] [(1,0,0),(2,1,0)] Quu (by simp[QAF]) (by decide) (fun q hq=>by simpa using QdA _ q hq) (by simp[clA]) (fun i hi=>?_) ?_
 ·have:i=0\/i=1:=by simpa using hi
  have hb:∀ s:Option (List Int),(∃ cs,Qc (stO s) 0=some (.box cs))/\∃ cs,Qc (stO s) 1=some (.box cs):=fun s=>by
   cases s<;>exact ⟨⟨_,rfl⟩,_,rfl⟩
  rcases this with rfl | rfl
  ·exact ⟨rfl,(hb _).1,(hb _).1,1,0,by simp,by simp,by simp⟩
  exact ⟨rfl,(hb _).2,(hb _).2,2,0,by simp,by simp,by simp⟩
 change WpF prog K (FnF (QFR (YF o en st p))) _ _ _;generalize hG:QFR (YF o en st p)=G;have fin:∀ (q:Option (List Int)) (e:Env),YF o en st p=q->Ev.look e 6=.iv (.bool true)->Ev.look e 1=.loc 0 0->Ev.look e 2=.loc 1 0->∀ ob,(∀ q'∈stO q,Qc ob q'.1=some q'.2)->G e ob:=fun q e h1 h2 h3 h4 ob h5=>by
  rw[<- hG,h1];exact QzD h2 h3 h4 h5
 have tail:∀ q',YF o en st p=some q'->Xa prog K (FnF G) QcW [1,2,54,55,56] [0,1,2] [AI.inBlock 2,AI.code ((AC.ops [{ d:=some 6,g:=none,op:=AOp.xf (Opd.bool true) }] false).seq AC.ret)]
   [(1,.loc 0 0),(2,.loc 1 0),(54,.iv (QU p)),(55,.iv (.int .i64 p.length)),(56,.iv (.int .i64 0))] (stO (some q')):=fun q' hq=>by
  refine XU (fun i=>[(1,.loc 0 0),(2,.loc 1 0),(54,.iv (QU p)),(55,.iv (.int .i64 p.length)),(56,.iv (.int .i64 (i:Nat)))]) (fun _=>stO (some q')) p.length (fun _=>True) trivial ?_ ?_ (by simp) rfl
  ·intro _;rw[Qa QcW.eq_1];simp[stO];exact fin _ _ hq rfl rfl rfl _ (by simp[stO,Qc])
  intro i hi _ ih;have hii:(i:Int)<p.length:=by omega
  simp only[stO] at ih |-;rw[Qa QcW.eq_1];by_cases h0:p[i]<0
  ·simp[hi,hii,h0,MK.kind] at ih |-
   exact ⟨by omega,ih⟩
  simp[hi,hii,h0] at ih |-;exact ⟨by omega,ih⟩
 have mid:YF o en st p=some p->Xa prog K (FnF G) QfT [0,1,2,42,43,44] [0,1,2] [AI.inBlock 0,AI.code (((AC.ops [{ d:=some 54,g:=none,op:=AOp.xf (Opd.t 0) },{ d:=some 55,g:=none,op:=AOp.len (Opd.t 54) },{ d:=some 56,g:=none,op:=AOp.xf (Opd.int IntKind.i64 0) }] false).seq
   (AC.block 2 (QcW.loop [1,2,54,55,56] [0,1,2]))).seq ((AC.ops [{ d:=some 6,g:=none,op:=AOp.xf (Opd.bool true) }] false).seq AC.ret))]
   [(0,.iv (QU p)),(1,.loc 0 0),(2,.loc 1 0),(42,.iv (QU p)),(43,.iv (.int .i64 p.length)),(44,.iv (.int .i64 0))] (stO (some p)):=fun hq=>by
  refine XU (fun i=>[(0,.iv (QU p)),(1,.loc 0 0),(2,.loc 1 0),(42,.iv (QU p)),(43,.iv (.int .i64 p.length)),(44,.iv (.int .i64 (i:Nat)))]) (fun _=>stO (some p)) p.length (fun _=>True) trivial ?_ ?_ (by simp) rfl
  ·intro _;rw[Qa QfT.eq_1];simp[stO]
   (repeat' first|omega|with_reducible apply And.intro|intro)
   exact tail p hq
  intro i hi _ ih;have hii:(i:Int)<p.length:=by omega
  simp only[stO] at ih |-;rw[Qa QfT.eq_1];simp[hi,hii,MK.kind] at ih |-;exact ⟨by omega,ih⟩
 cases st with
 | none =>
   simp[QAF,stO];refine cK (by simpa using g2) ?_;simp;refine ⟨hc,cK (by simpa using g3) ?_⟩;cases he:en (WY o p)
   ·have hs:YF o en none p=none:=by simp[YF,he]
    simp;exact fin _ _ hs rfl rfl rfl _ (by simp[stO,Qc])
   have hs:YF o en none p=some p:=by simp[YF,he]
   simp;refine cK (by simpa using g4) ?_;simp
   (repeat' first|omega|with_reducible apply And.intro|intro)
   exact mid hs
 | some q =>
   have hql:=hst q rfl;have g5:=Qmb hK q (by omega);have huq:=hu q;simp[QAF,stO];refine cK (by simpa using g1) ?_;simp;refine cK (by simpa using g5) ?_;by_cases h1:Jv q<Jv p
   ·have hs:YF o en (some q) p=some q:=by simp[YF,h1]
    simp[h1];exact fin _ _ hs rfl rfl rfl _ (by simp[stO,Qc])
   simp[h1];refine cK (by simpa using g2) ?_;simp;refine ⟨hc,cK (by simpa using g3) ?_⟩;cases he:en (WY o p)
   ·have hs:YF o en (some q) p=some q:=by simp[YF,he]
    simp;exact fin _ _ hs rfl rfl rfl _ (by simp[stO,Qc])
   simp;refine cK (by simpa using g1) ?_;simp;refine cK (by simpa using g5) ?_;by_cases h2:Jv p<Jv q
   ·have hs:YF o en (some q) p=some p:=by simp[YF,he,h1,h2]
    simp[h2];refine cK (by simpa using g4) ?_;simp
    (repeat' first|omega|with_reducible apply And.intro|intro)
    exact mid hs
   have hs:YF o en (some q) p=some q:=by simp[YF,he,h1,h2]
   simp[h2]
   (repeat' first|omega|with_reducible apply And.intro|intro)
   exact tail q hs
omit hK
def Qc1 (o:Ord) (en:Int->Bool):Option (List Int):=(VC o.ships.length o.stocks.length []).foldl (YF o en) none
theorem Qgn (o:Ord) (en:Int->Bool) (st:Option (List Int)) (p:List Int) (hst:∀ q,st=some q->q.length<=7) (hp:p.length<=7):∀ q,YF o en st p=some q->q.length<=7:=by
 intro q hq;cases st with
 | none =>
   simp only[YF] at hq;split at hq<;>cases hq;exact hp
 | some r =>
   have:=hst r rfl;simp only[YF] at hq;split at hq
   ·cases hq;exact this
   split at hq<;>cases hq<;>assumption
def QCi (st:Option (List Int)):IV:=match st with
 | none=>.xd [.agg [.sl 1 [],.map []],.bool false]
 | some q=>.xd [.agg [QU q,.any],.bool true]
include hK
theorem QgN (o:Ord) (ho:OkO o) (g:FuncId) (en:Int->Bool) (hg:∀ k,Gd K g [.int .i64 k] (.bool (en k))) (hc:callee prog g=true):∀ (L:List (List Int)) (st:Option (List Int)),(∀ p∈L,p.length=o.stocks.length)->(∀ q,st=some q->q.length<=7) ->
  XZ prog K 246 [] [.loc 0 0,.loc 1 0,.iv (.ptr [.fn g]),.iv (.ptr [yaV o])] [0,1] (L.map Qde) (stO st) true (stO (L.foldl (YF o en) st))
 | [],st,_,_=>by simpa using XZ.nil _
 | p::L,st,hl,hst=>by
   have h1:=QsS hK o ho p (hl p (by simp)) g en hg hc st hst;have hpl:p.length<=7:=hl p (by simp)▸ho.nk;refine XZ.next _ _ _ (stO (YF o en st p)) _ _ (by simpa[Qde] using h1) (fun q hq=>(QdA _ q hq).2.1) ?_;exact QgN o ho g en hg hc L _ (fun p hp=>hl p (by simp[hp])) (Qgn o en st p hst hpl)
theorem QsT (o:Ord) (ho:OkO o) (g:FuncId) (en:Int->Bool) (hg:∀ k,Gd K g [.int .i64 k] (.bool (en k))) (hc:callee prog g=true) :
  Gh K 245 [.iv (yaV o),.clo 246 [] [.loc 0 0,.loc 1 0,.iv (.ptr [.fn g]),.iv (.ptr [yaV o])],.iv (.sl 1 [])] (stO none) [0,1] (.iv (.bool true)) (stO (Qc1 o en)):=by
 have hit:=Qxc hK o ho.ns ho.nk;have hr:=QgN hK o ho g en hg hc (VC o.ships.length o.stocks.length []) none (fun p hp=>by simpa using (Wd _ _ _ p hp).1) (by simp)
 have:=Vn hit (by kernel_rfl) (by simp[clAL,clA]) (by simp[clAL,clA]) (fun i hi=>by
  have:i=0\/i=1:=by simpa using hi
  rcases this with rfl | rfl<;>exact ⟨_,rfl⟩) (fun q hq=>(QdA _ q hq).2.1) hr
 simpa[Qc1] using this
theorem Qy0 (o:Ord) (ho:OkO o) (g:FuncId) (en:Int->Bool) (hg:∀ k,Gd K g [.int .i64 k] (.bool (en k))) (hc:callee prog g=true):Gd K 149 [yaV o,.fn g] (QCi (Qc1 o en)):=by
 refine Qb hK (fk func149 QJn (by kernel_rfl)) (by simp) ?_;have g1:=QsT hK o ho g en hg hc;generalize Qc1 o en=B at *;simp;refine QH g1 ?_ ?_ ?_
 ·simp[rn,rnL,nth]
 ·refine ⟨by decide,by simp[clA,clAL,stO],fun q hq=>?_,fun i hi h=>?_,fun q hq=>⟨by simpa using (QdA _ q hq).1,(QdA _ q hq).2.1⟩⟩
  ·have h1:=QdA none q hq;refine ⟨by simpa using h1.1,?_,h1.2.2,h1.2.1⟩;simp only[stO,QKU,QK1,or_false] at hq;rcases hq with rfl | rfl<;>simp[Qc,nth,rnO,rnL,rn]
  simp at hi;have:i=0\/i=1\/i=2:=by omega
  rcases this with rfl | rfl | rfl<;>simp[Qc,stO,nth] at h |-
 cases B with
 | none =>
   simp[stO,QCi]
 | some q =>
   simp[stO,QCi]
omit hK
noncomputable def QDc (o:Ord) (en:Int->Bool):IV:=if OkO o then (match Qc1 o en with
 | none=>.xd [.agg [.sl 1 [],.map []],.int .i64 3]
 | some q=>.xd [.agg [QU q,.any],.int .i64 0]) else .xd [.agg [.sl 1 [],.map []],.int .i64 80]
theorem Qhz (o:Ord) (en:Int->Bool):∀ (L:List (List Int)) (st:Option (List Int)),(∀ p∈L,p.length<=7)->(∀ q,st=some q->q.length<=7)->∀ q,L.foldl (YF o en) st=some q->q.length<=7
 | [],_,_,h=>h
 | p::L,st,h1,h2=>Qhz o en L _ (fun p hp=>h1 p (by simp[hp])) (Qgn o en st p h2 (h1 p (by simp)))
theorem QrC {o:Ord} (ho:OkO o) {en:Int->Bool} {q:List Int} (h:Qc1 o en=some q):q.length<=7 :=
 Qhz o en _ none (fun p hp=>by
  have:=(Wd _ _ _ p hp).1;have:=ho.nk;simp at *;omega) (by simp) q h
include hK
theorem QBI (k:Int):Gd K 72 [.int .i64 k] (.bool (!decide (k=2))):=by
 refine Qb hK (fk func72 c72 (by kernel_rfl)) (by simp) ?_;simp
theorem QBR (o:Ord) (ho:OkO o):Gd K 58 [orV o] (yaV o):=by
 refine Qb hK (fk func58 c58 (by kernel_rfl)) (by simp) ?_;have hn:=ho.ns;have hnr:=ho.nr;have hL:(YM o).length=o.ships.length:=by simp[YM]
 simp
 (repeat' first|omega|with_reducible apply And.intro|intro)
 refine XU (fun i=>[(1,.iv (.ptr (orC o))),(3,.loc 8 0),(10,.iv (ZV o.ships)),(11,.iv (.int .i64 o.ships.length)),(12,.iv (.int .i64 (i:Nat)))])
  (fun i=>[(8,.box [.iv (ZP o.rates),.iv (ZV o.ships),.iv (ZP o.stocks),.iv (.int .i64 o.shk),.yl 9004 i]),(9004,.arr 136 1 (emb (((YM o).take i).map fun l=>[.sl 2 (l.map spC)])) 0)]) o.ships.length (fun _=>True) trivial ?_ ?_ (by simp) (by simp[emb])
 ·intro _;rw[Qa Qq4.eq_1];rw[<- hL,QK0];simp[QKM]
 intro i hi _ ih;have hii:(i:Int)<o.ships.length:=by omega
 have hs:=Qog (ho.ships _ (QKL hi));have g:=QyV hK o o.ships[i] hnr hs;have hiL:i<(YM o).length:=by omega
 have hg:(YM o)[i]=Qg5 o o.ships[i]:=by simp[YM]
 rw[QKH hiL,hg] at ih;rw[Qa Qq4.eq_1];simp[hi,hii] at ih |-;refine cK (by simpa using g) ?_;simp;exact ⟨⟨by omega,by omega,by omega⟩,by omega,ih⟩
theorem QBT (o:Ord) (hl:o.rates.length<=1000) (g:FuncId) (en:Int->Bool) (hg:∀ k,Gd K g [.int .i64 k] (.bool (en k))) (hc:callee prog g=true):Gd K 54 [orV o,.fn g] (QDc o en):=by
 refine Qb hK (fk func54 c54 (by kernel_rfl)) (by simp) ?_;simp;refine cK (by simpa using QBS hK o hl) ?_;by_cases ho:OkO o
 ·have g2:=Qy0 hK o ho g en hg hc;simp[ho];refine cK (by simpa using QBR hK o ho) ?_;simp;refine cK (by simpa using g2) ?_;cases hB:Qc1 o en with
  | none=>simp[QCi,QDc,hB,ho]
  | some q=>simp[QCi,QDc,hB,ho]
 simp[ho,QDc]
theorem QB1 (o:Ord) (hl:o.rates.length<=1000):Gd K 38 [orV o] (if OkO o then (match Qc1 o (fun k=>!decide (k=2)) with
 | none=>.xd [.int .i64 0,.int .i64 3]
 | some q=>.xd [.int .i64 (Jv q:Nat),.int .i64 0]) else .xd [.int .i64 0,.int .i64 80]):=by
 refine Qb hK (fk func38 c38 (by kernel_rfl)) (by simp) ?_;simp;refine cK (by simpa using QBT hK o hl 72 _ (QBI hK) (by kernel_rfl)) ?_;have g0:=Qmb hK [] (by simp);unfold QDc;by_cases ho:OkO o
 ·cases hB:Qc1 o (fun k=>!decide (k=2)) with
  | none =>
    simp[ho];refine cK (by simpa using g0) ?_;simp[Jv]
  | some q =>
    have g1:=Qmb hK q (by have:=QrC ho hB;omega);simp[ho];refine cK (by simpa using g1) ?_;simp
 simp[ho];refine cK (by simpa using g0) ?_;simp[Jv]
omit hK
def exO:Ord:=⟨[(0,10,30),(200,12,50),(500,14,70)],[(150,210),(600,600)],[(12,30,31),(12,25,25),(14,40,42),(14,29,30),(14,10,10)],1⟩
theorem QCp:OkO exO:=by
 refine ⟨?_,by decide,by decide,by decide,by decide,by decide,by decide⟩;intro i hi;have:i=0\/i=1\/i=2:=by simp[exO] at hi;omega
 rcases this with rfl | rfl | rfl<;>rfl
theorem Qtw:(Qc1 exO fun k=>!decide (k=2)).map Jv=some 3:=by decide +kernel
include hK
theorem QB0:Gd K 39 [] (orV exO):=by
 refine Qb hK (fk func39 c39 (by kernel_rfl)) (by simp) ?_;simp[exO]
theorem Qxw:Gd K 38 [orV exO] (.xd [.int .i64 3,.int .i64 0]):=by
 have h:=QB1 hK exO (by decide);have hb:=Qtw;cases hB:Qc1 exO (fun k=>!decide (k=2)) with
 | none=>simp[hB] at hb
 | some q =>
   simp[hB] at hb;simpa[hB,QCp,hb] using h
omit hK
def QhE:Qf:=⟨exD,[],0⟩
def Qtv:Sea:=⟨100,40,[(1,2),(0,1)],1,1,[(0,6),(1,10)],[(1,91,2)],0⟩
def exL:Zs:=⟨QhE,Qtv,30,34,0,10,32,32,5,[(5,2),(-1,-1)],1,-1⟩
def QBr (l:Zs) (c:Sea) (n:Int):List Int:=if wTr (qy c n)≠[]/\¬ (0<=l.pth/\QAL (qy c n)≠l.pth) then [QBA (qy c n)] else []
def QCB (l:Zs):Nat->Sea->Nat->List Int
 | 0,c,_=>(UU c.yh c.yi).flatMap (QBr l c)
 | k+1,c,w=>(UU (c.waters.getD w (0,0)).1 (c.waters.getD w (0,0)).2).flatMap fun n=>QCB l k (Qiw c w n) (w+1)
theorem Qvk {c:Sea} (hc:Qx c):tW c true=0↔wTr c≠[]:=by
 unfold tW;grind
theorem qZ {f g:Int->List Int}:∀ l:List Int,(∀ x∈l,f x=g x)->l.flatMap f=l.flatMap g
 | [],_=>rfl
 | a::r,h=>by
   rw[QLx,QLx,h a (by simp),qZ r fun x hx=>h x (by simp[hx])]
theorem QmC (l:Zs):∀ (k:Nat) (c:Sea) (w:Nat),w+k=c.waters.length->Qx c->VF l k c w=QCB l k c w
 | 0,c,w,_,hc=>qZ _ fun n hn=>by
   have h1:=WL hn;have h2:=Qvk (QvD hc h1.1 h1.2);unfold Qfh QBr;simp only[h2]
 | k+1,c,w,hw,hc=>qZ _ fun n hn=>by
   have hw':w<c.waters.length:=by omega
   have hge:c.waters.getD w (0,0)=c.waters[w]:=by simp[hw']
   rw[hge] at hn;have h1:=WL hn;exact QmC l k _ _ (by simp[Qiw];omega) (QlO hc hw' h1.1 h1.2)
theorem QpX (l:Zs) (hc:Qx l.sea):ZB l=if wTr (QlR l.sea)≠[] then loD ((wTr (QlR l.sea)).map fun w=>Y8 (QlR l.sea) (Xc (QlR l.sea) w 0)) else 0:=by
 unfold ZB;simp only[Qvk (QBk hc)]
theorem QfA:Qx Qtv:=by
 refine ⟨by decide,by decide,by decide,by decide,by decide,by decide,by decide,by decide,by decide,by decide⟩
theorem QzB:OkC QhE:=by
 refine ⟨by decide,by decide,by decide,fun i h _=>?_,fun s hs=>by simp[QhE] at hs⟩;have all:∀ i<6,Zc (QhE.za.getD i d0) (cnt QhE.za i):=by decide
 have:=all i h;grind
theorem QCq:OkL exL:=⟨QzB,QfA,by decide,by decide,by decide,by decide,by decide,by decide,by decide,by decide,by decide⟩
theorem Qzx:UN exL=[33,26]:=by
 unfold UN;rw[QmC exL exL.sea.waters.length exL.sea 0 (by decide) QfA];decide +kernel
theorem Qtt:ZB exL=40:=by
 rw[QpX exL QfA];decide +kernel
theorem Qp9:(Xi exL).map (·.cause)=[1,1,1,1]++(List.replicate 18 [1,2]).flatten:=by
 unfold Xi X2;rw[Qzx,Qtt];decide +kernel
def Wr:Qf:={ QhE with za:=QhE.za.set 4 ⟨2,0,0,0,0⟩ }
theorem Qmq:OkC Wr:=by
 refine ⟨by decide,by decide,by decide,fun i h _=>?_,fun s hs=>by simp[Wr,QhE] at hs⟩;have all:∀ i<6,Zc (Wr.za.getD i d0) (cnt Wr.za i):=by decide
 have:=all i h;grind
theorem Qqa:Wr∈QL QhE:=by
 unfold QL;refine QK9.2 ⟨QKT.2 ⟨Wr.za,by decide +kernel,rfl⟩,decide_eq_true ?_⟩;unfold Xu;have h:=qE Wr Qmq (by decide) rfl;simp[Qmq,h]
theorem Qxf {α:Type} [DecidableEq α] (l:List (α × Nat)) (x:α):qz l x≠[]:=by
 cases l with
 | nil=>simp[qz]
 | cons p r=>unfold qz;split<;>simp
theorem QzL {α:Type} [DecidableEq α] {l:List α} (h:l≠[]):Uj l≠[]:=by
 obtain ⟨L,b,rfl⟩:∃ L b,l=L++[b]:=⟨_,_,(QLM h).symm⟩;rw[YB];exact Qxf _ _
theorem Qzz:Ud Wr exL.marks ((0:Nat):Int) 1:=fun i h=>by
 have all:∀ i:Nat,(h:i<exL.marks.length)->Qnj Wr (((0:Nat):Int)+1*(i:Nat)) exL.marks[i]=true:=by decide +kernel
 exact all i h
theorem Qts:spN exL≠[]:=by
 refine QzL (QMu (a:=Jh Wr (((0:Nat):Int)+1*exL.z5)) ?_);refine QK6.2 ⟨Wr,Qqa,QK6.2 ⟨0,by decide +kernel,?_⟩⟩;simp[QaO,U9,show Ud Wr exL.marks 0 1 from Qzz]
theorem QjO:tLs exL true=0:=by
 have h:Xi exL≠[]:=fun e=>by
  have:=Qp9;rw[e] at this;exact absurd this (by decide +kernel)
 simp[tLs,QCq,Qts,h]
include hK
theorem QBK:Gd K 70 [] (.xd [chV QhE,.agg [.int .i64 6,.int .i64 1,.int .i64 0,.int .i64 6,.int .i64 (-1)],.agg [.int .i64 6,.int .i64 0,.int .i64 0,.int .i64 (-1),.int .i64 1]]) :=
 Vo (xs:=[]) hK (Qpo hK) (by simp[Qqb,Qc,QhE,QKM,imm,imms,exD,emb])
theorem QBJ:Gd K 71 [] (Qix Qtv):=by
 refine Qb hK (fk func71 c71 (by kernel_rfl)) (by simp) ?_;simp[Qtv]
theorem QB2:Gd K 37 [] (lsV exL):=by
 refine Qb hK (fk func37 c37 (by kernel_rfl)) (by simp) ?_;simp;refine cK (by simpa using QBK hK) ?_;simp;refine cK (by simpa using QBJ hK) ?_;simp[exL]
omit hK
theorem Jd (d:Array Int) (x:Int):∀ m,x∈Lib.compactUpTo d m↔∃ j,j<m/\(d[j]!)=x
 | 0=>by simp[Lib.compactUpTo]
 | m+1=>by
   rw[Lib.compactUpTo_succ,QK2,Jd d x m];constructor
   ·rintro (⟨j,h1,h2⟩ | h)
    ·exact ⟨j,by omega,h2⟩
    split at h
    ·simp only[QLd] at h;exact ⟨m,by omega,h.symm⟩
    simp at h
   rintro ⟨j,h1,h2⟩;by_cases hj:j<m
   ·exact .inl ⟨j,hj,h2⟩
   have hjm:j=m:=by omega
   subst hjm;by_cases hk:Lib.keeps d j=true
   ·simp[hk,h2]
   refine .inl ?_;unfold Lib.keeps at hk;simp at hk;exact ⟨j-1,by omega,by rw[<- h2];exact hk.2.symm⟩
theorem QqJ (x:Int) (l:List Int):x∈QfG l↔x∈l:=by
 unfold QfG Lib.compact;rw[Jd];have hp:x∈Wb l↔x∈l:=(List.mergeSort_perm l _).mem_iff;rw[<- hp];constructor
 ·rintro ⟨j,h1,h2⟩;have:(Wb l)[j]=x:=by simpa[h1] using h2
  rw[<- this];exact QKL h1
 intro h;obtain ⟨j,h1,h2⟩:=QLh h;exact ⟨j,h1,by simpa[h1] using h2⟩
theorem U1 (d:Array Int) (hs:∀ i j,i<=j->j<d.size->(d[i]!)<=(d[j]!)):∀ m,m<=d.size->(Lib.compactUpTo d m).Pairwise (·<·)
 | 0,_=>by simp[Lib.compactUpTo]
 | m+1,hm=>by
   rw[Lib.compactUpTo_succ];refine List.pairwise_append.2 ⟨U1 d hs m (by omega),by split<;>simp,fun a ha b hb=>?_⟩;obtain ⟨j,hj,rfl⟩:=(Jd d a m).1 ha;split at hb
   ·rename_i hk;simp only[QLd] at hb;subst hb;unfold Lib.keeps at hk;simp at hk;have h1:=hs j (m-1) (by omega) (by omega);have h2:=hs (m-1) m (by omega) (by omega);have h3:(d[m]!)≠(d[m-1]!):=by
     rcases hk with h | h
     ·omega
     exact h
    omega
   simp at hb
theorem Qmw (l:List Int):(QfG l).Pairwise (·<·):=by
 have h1:(Wb l).Pairwise (·<=·):=by
  have:=List.pairwise_mergeSort (le:=fun x y:Int=>decide (x<=y)) (fun a b c h1 h2=>by simp at *;omega) (fun a b=>by simp;omega) l;exact this.imp (by simp)
 refine U1 _ (fun i j hij hj=>?_) _ (by simp);have hj':j<(Wb l).length:=by simpa using hj
 have hi':i<(Wb l).length:=by omega
 simp only[List.getElem!_toArray,getElem!_pos,hi',hj'];rcases Nat.lt_or_eq_of_le hij with h | h
 ·exact QLG.1 h1 i j hi' hj' h
 subst h;omega
def Qnv (c:Qf) (ms:List (Int × Int)) (a w:Int):Bool:=(List.range ms.length).all fun i:Nat=>Qnj c (a+w*i) (ms.getD i (0,0))
theorem Qmh (c:Qf) (ms:List (Int × Int)) (a w:Int):Qnv c ms a w=true↔Ud c ms a w:=by
 unfold Qnv Ud;rw[QLk];constructor
 ·intro h i hi;have:=h i (QLa.2 hi);simpa[hi] using this
 intro h i hi;have hi':=QLa.1 hi;have:=h i hi';simpa[hi'] using this
def Qb9 (l:Zs) (c:Qf):List Int:=(List.range (Ql c.za).toNat).flatMap fun a:Nat=>(if Qnv c l.marks (a:Nat) 1 then [(a:Int)+1*l.z5] else [])++(if Qnv c l.marks (a:Nat) (-1) then [(a:Int)+(-1)*l.z5] else [])
theorem Qb8 (l:Zs) (c:Qf):(X0 l c (Ql c.za).toNat).map (·.pos)=Qb9 l c:=by
 unfold X0 Qb9;rw[QMg];congr 1;funext a;have key:∀ w:Int,(U9 l c (a:Nat) w).map (·.pos)=if Qnv c l.marks (a:Nat) w then [(a:Int)+w*l.z5] else []:=fun w=>by
  unfold U9;by_cases h:Ud c l.marks (a:Nat) w
  ·simp[h,(Qmh c l.marks (a:Nat) w).2 h,Jh]
  have h2:Qnv c l.marks (a:Nat) w=false:=by
   rw[<- Bool.not_eq_true,Qmh];exact h
  simp[h,h2]
 unfold QaO;rw[QK3,key,key]
theorem Qfd (l:Zs) (f:Yj->Int) (x:Int) (h:tLs l true=0):x∈spL l f↔∃ c∈QL l.zc,x∈(X0 l c (Ql c.za).toNat).map f:=by
 unfold spL spN;rw[if_pos h,QqJ];constructor
 ·intro h1;obtain ⟨s,h2,rfl⟩:=QKT.1 h1;rw[Qmz] at h2;obtain ⟨c,h3,h4⟩:=QK6.1 h2;exact ⟨c,h3,QMd h4⟩
 rintro ⟨c,h3,h4⟩;obtain ⟨s,h5,rfl⟩:=QKT.1 h4;exact QMd ((Qmz _ _).2 (QK6.2 ⟨c,h3,h5⟩))
def Qdk:Qf:={ QhE with za:=QhE.za.set 4 ⟨2,0,1,0,0⟩ }
theorem Qmp:OkC Qdk:=by
 refine ⟨by decide,by decide,by decide,fun i h _=>?_,fun s hs=>by simp[Qdk,QhE] at hs⟩;have all:∀ i<6,Zc (Qdk.za.getD i d0) (cnt Qdk.za i):=by decide
 have:=all i h;grind
theorem Qtu:Qdk∈QL QhE:=by
 unfold QL;refine QK9.2 ⟨QKT.2 ⟨Qdk.za,by decide +kernel,rfl⟩,decide_eq_true ?_⟩;unfold Xu;have h:=qE Qdk Qmp (by decide) rfl;simp[Qmp,h]
theorem Qp6:(spL exL Yj.pos).length=3:=by
 have hm:∀ x,x∈spL exL Yj.pos↔x∈([0,1,2]:List Int):=fun x=>by
  rw[Qfd _ _ _ QjO];constructor
  ·rintro ⟨c,hc,hx⟩;rw[Qb8] at hx;obtain ⟨ds,hds,rfl⟩:=QKT.1 (QK9.1 hc).1;have all:∀ ds∈Ji QhE.za,∀ x∈Qb9 exL { QhE with za:=ds },x∈([0,1,2]:List Int):=by decide +kernel
   exact all ds hds x hx
  intro hx;have h2:Qb9 exL Wr=[1]:=by decide +kernel
  have h3:Qb9 exL Qdk=[2,0]:=by decide +kernel
  have h:x∈Qb9 exL Wr\/x∈Qb9 exL Qdk:=by
   rw[h2,h3];simp at hx |-;omega
  rcases h with h | h
  ·exact ⟨Wr,Qqa,by rw[Qb8];exact h⟩
  exact ⟨Qdk,Qtu,by rw[Qb8];exact h⟩
 have hl:(spL exL Yj.pos).Pairwise (·<·):=by
  unfold spL;rw[if_pos QjO];exact Qmw _
 have hp:(spL exL Yj.pos).Perm [0,1,2]:=by
  rw[List.perm_iff_count];intro a;have hn:(spL exL Yj.pos).Nodup:=hl.imp fun h=>by omega
  rw[hn.count,(show ([0,1,2]:List Int).Nodup by decide).count]
  simp only[hm]
 simpa using hp.length_eq
include hK
theorem QyN:∃ L:List Int,L.length=3/\Gd K 17 [lsV exL] (.xd [QU L,.int .i64 0]) :=
 ⟨_,Qp6,by simpa[QjO] using QvS hK exL (by decide) (by decide)⟩
omit hK
def chB (first:List Int) (rest:List Qv):List (List Int):=(Q6 rest).map (first++·)
include hK
omit hK
def teT (c:Qf) (i:Nat):List (List Int):=((Q6 c.za).take i).filter fun e=>decide ((QN c.za c.zg (QI e):Int)<=c.zh)
def teL (c:Qf):List (List Int):=(Q6 c.za).filter fun e=>decide ((QN c.za c.zg (QI e):Int)<=c.zh)
theorem Qv6:∀ {a b:List Int},a.Pairwise (·<·)->b.Pairwise (·<·)->(∀ x,x∈a↔x∈b)->a=b
 | [],[],_,_,_=>rfl
 | [],y::b,_,_,h=>absurd ((h y).2 (by simp)) (by simp)
 | x::a,[],_,_,h=>absurd ((h x).1 (by simp)) (by simp)
 | x::a,y::b,ha,hb,h=>by
   have h1:=List.pairwise_cons.1 ha;have h2:=List.pairwise_cons.1 hb;have hxy:x=y:=by
    have e1:=(h x).1 (by simp);have e2:=(h y).2 (by simp);rcases QKU.1 e1 with e1 | e1
    ·exact e1
    rcases QKU.1 e2 with e2 | e2
    ·exact e2.symm
    have:=h1.1 y e2;have:=h2.1 x e1;omega
   subst hxy;rw[Qv6 h1.2 h2.2 fun z=>?_];have hz:=h z;constructor
   ·intro hm;rcases QKU.1 (hz.1 (QMp _ hm)) with e | e
    ·subst e;have:=h1.1 z hm;omega
    exact e
   intro hm;rcases QKU.1 (hz.2 (QMp _ hm)) with e | e
   ·subst e;have:=h2.1 z hm;omega
   exact e
def QKw (c:Qf) (n:Int) (e:List Int):Int:=((cab c.za (QI e) c.za.length).getD n.toNat 0:Nat)
def QJV (c:Qf) (n:Int) (e:List Int):Int:=UV (cab c.za (QI e) c.za.length) n
include hK
omit hK
set_option maxHeartbeats 1000000
def exU:Zm:=⟨12,9900,10200,[⟨1000,1,12⟩,⟨500,0,20⟩],[⟨1,0,10,0,2,0,0⟩,⟨2,0,10,30,2,0,0⟩],0⟩
def exH:Qk:=⟨exP,exU⟩
include hK
theorem QBM:Gd K 68 [] (.xd [puV exU,.agg (reC ⟨1,1,20,0,1,20,20⟩)]):=by
 refine Qb hK (fk func68 c68 (by kernel_rfl)) (by simp) ?_;simp[exU]
theorem QB3:Gd K 36 [] (hoV exH):=by
 refine Qb hK (fk func36 c36 (by kernel_rfl)) (by simp) ?_;have g38:=QBM hK;have g39:=QBL hK;simp;refine cK (by simpa using g38) ?_;simp;refine cK (by simpa using g39) ?_;simp[exH]
omit hK
theorem QCn:OkU exU:=by decide
theorem QhD:okH exH:=⟨Qem,QCn⟩
theorem p1:XO [119,104,111,32,48]=some (.who,[0]):=by decide +kernel
theorem QvX:Qn2 exC 0=[0,1]/\Xu exC (plB exC 0)=0:=by
 have e:(Qn exC).map (UT exC 0)=[1,0]:=by decide
 have hb:plB exC 0=true:=by decide
 have ha:Xu exC (plB exC 0)=0:=by
  unfold Xu;rw[if_pos Qmn,if_pos hb];decide
 refine ⟨?_,ha⟩;unfold Qn2;rw[if_pos ha,e];exact Qv6 (Ut _) (by decide) fun x=>by
  rw[XL]
  grind
theorem QzA:QJU exU:=by
 refine ⟨by decide,by decide,fun _=>?_⟩;have h1:(X1 exU).length=301:=by decide +kernel
 have h2:(Xl exU.zi).length=2:=by decide
 have key:∀ l l':List Int,(l.flatMap fun b=>l'.flatMap fun a=>(Xl exU.zi).map fun w=>(⟨b,a,w⟩:TrU)).length<=l.length*(l'.length*2):=fun l l'=>by
  refine ZZ _ _ l fun b _=>ZZ _ _ l' fun a _=>?_;grind
 have:=key (X1 exU) (X1 exU);rw[h1] at this;unfold QAG;omega
theorem Qp8:Qds exH:=⟨QCo 1 (by decide),QzA⟩
def exQ:List Txt:=[[119,104,111,32,48],[119,101,105,103,104,116]]
theorem pQ:XO [119,101,105,103,104,116]=some (.zm,[]):=by decide +kernel
def QDI:List Qd:=[⟨[10,5],1⟩,⟨[11,5],1⟩]
theorem Qmm:Q3 exM [] exM.zd=QDI:=by
 rw[Qiv];decide
theorem Qp5:∀ w∈List.range 32,(w=31↔∀ s∈QDI,4600*den s<=num exM s ((w:Nat):Int) 0):=by decide +kernel
theorem Qtr:Jl exP=(31,0):=by
 have hk:kE exP true=0:=(QEY 1 (by decide)).2;have hs:tL exM (qr 0 0 4600)=QDI:=by
  unfold tL;rw[if_pos ⟨Qp7,by decide⟩,Qmm]
 have ht:tE exM (qr 0 0 4600)=0:=by
  unfold tE;rw[if_pos Qp7,if_pos (by decide),Qmm];decide
 have hl:VD exM QDI 0 4600=31:=by
  refine Qhg (by omega) (fun _=>?_) fun w h0 h1 h2=>?_
  ·exact (Qp5 31 (by decide)).1 rfl
  have:=(Qp5 w.toNat (QLa.2 (by omega))).2 (by
   have e:((w.toNat:Nat):Int)=w:=by omega
   rw[e];exact h2)
  omega
 unfold Jl;rw[if_pos hk];unfold JA;show (if tE exM (qr 0 0 4600)=0 then _ else _)=_;rw[if_pos ht];show (if 9999<VD exM (tL exM (qr 0 0 4600)) 0 4600 then _ else _)=_;rw[hs,hl,if_neg (by decide)]
 show (VD exM (tL exM (qr 0 0 4600)) 0 4600,0)=_;rw[hs,hl]
theorem QyZ:Gd KW 14 [hoV exH,strs exQ] (.xd [strs (Qsf exH exQ),hoV (QiD exH exQ),.int .i64 (Qse exH exQ)]) :=
 QjF exH exQ (Qr QhD) (by decide) fun _ _ i hi=>by
  match i,hi with
  | 0,_ =>
    refine qb _ _ (fun v l hp _=>?_) (by simp[exQ]);have hp:XO [119,104,111,32,48]=some (v,l):=hp;rw[p1] at hp;injection hp with hp;injection hp with h1 h2;subst h1 h2;rw[Zk rfl];exact Qpm exH 0 QhD Qp8
  | 1,_ =>
    refine qb _ _ (fun v l hp _=>?_) (by simp[exQ]);have hp:XO [119,101,105,103,104,116]=some (v,l):=hp;rw[pQ] at hp;injection hp with hp;injection hp with h1 h2;subst h1 h2;have e:XK exH exQ 1=exH:=by
     rw[YX exH exQ 0 (by decide)]
     show (XA exH [119,104,111,32,48]).2=_;unfold XA;rw[p1];simp only;rw[Zk rfl]
    rw[e,Zk rfl];exact Ql9 exH QhD Qp8
theorem lvQ:XA exH [119,104,111,32,48]=([48,32,49],exH):=by
 unfold XA;rw[p1];simp only;rw[Zk rfl];unfold J3;rw[show exH.ze.zc=exC from rfl,show nI [0] 0=0 from rfl,QvX.1,QvX.2];show (X7 [0,1] 0,exH)=_;rw[show X7 [0,1] 0=[48,32,49] by decide +kernel]
theorem lvW:XA exH [119,101,105,103,104,116]=([51,49],exH):=by
 unfold XA;rw[pQ];simp only;rw[Zk rfl];unfold J3;show (X7 [(Jl exP).1] (Jl exP).2,exH)=_;rw[Qtr];show (X7 [31] 0,exH)=_;rw[show X7 [31] 0=[51,49] by decide +kernel]
theorem QBc:Qsf exH exQ=[[48,32,49],[51,49]]/\Qse exH exQ=0:=by
 have e:XK exH exQ 1=exH:=by rw[YX exH exQ 0 (by decide)];exact congrArg Prod.snd lvQ
 refine ⟨?_,?_⟩
 ·unfold Qsf;rw[if_pos QhD,if_neg (by decide)]
  show Qc5 exH exQ 2=_;rw[J4 exH exQ 1 (by decide),J4 exH exQ 0 (by decide),e]
  simp only[Qc5,List.range_zero,QL8,QLm,exQ,QLF,List.getElem_cons_succ];rw[show XK exH _ 0=exH from rfl,lvQ,lvW];rfl
 unfold Qse;rw[if_pos QhD,if_neg (by decide)]
noncomputable instance:DecidableEq Qk:=fun _ _=>Classical.propDecidable _
include hK
theorem QB8 (a b:List Txt) (ha:a.length<=1000000) (hb:b.length<=1000000):Gd K 26 [strs a,strs b] (.bool (decide (a=b))):=by
 refine Qb hK (fk func26 c26 (by kernel_rfl)) (by simp) ?_;by_cases h4:a.length=b.length;rotate_left
 ·have h':¬ (a.length:Int)=b.length:=by omega
  have:a≠b:=fun e=>h4 (by rw[e]);simp[h',this]
 simp[h4];intros;refine Qi (fun i=>[(0,AV.iv (strs a)),(1,AV.iv (strs b)),(5,AV.iv (IV.int IntKind.i64 (i:Nat)))]) (fun _=>[]) a.length (fun i=>a.take i=b.take i) (by simp) ?_ ?_
 ·intro h;rw[h4,QK0,<- h4,QK0] at h;subst h;rw[Qa Qrp.eq_1];simp
 intro i hi h ih;have hi':i<b.length:=by omega
 rw[Qa Qrp.eq_1];by_cases e:a[i]=b[i]
 ·simp[hi,hi',e] at ih |-
  intros;refine ⟨by omega,ih ?_⟩;rw[QKH hi,QKH hi',h,e]
 have hne:a≠b:=fun c=>by grind
 simp[hi,hi',hne,e]
theorem qc (x a b:Int):Gd K 63 [.int .i64 x,.int .i64 a,.int .i64 b] (.bool (decide (inR x a b))):=by
 refine Qb hK (fk func63 c63 (by kernel_rfl)) (by simp) ?_;simp;exact cK (QpQ hK x a b) (by simp)
theorem QvL (s:Int × Int):Gd K 64 [.agg (spC s)] (.bool (!Zq s)):=by
 refine Qb hK (fk func64 c64 (by kernel_rfl)) (by simp) ?_;simp;refine cK (by simpa using qc hK s.1 0 s.2) ?_;by_cases h1:inR s.1 0 s.2
 ·simp[h1,Zq]
  try grind
 simp[h1,Zq]
theorem QBP (c:Sea) (n:Int) (hl:c.waters.length<=1000):Gd K 65 [Qix c,.int .i64 n] (.bool (decide (inR n 0 ((c.waters.length:Int)-1)))):=by
 refine Qb hK (fk func65 c65 (by kernel_rfl)) (by simp) ?_;simp
 (repeat' first|omega|with_reducible apply And.intro|intro)
 exact cK (by simpa using qc hK n 0 _) (by simp)
theorem QBO (c:Sea) (n:Int) (hl:c.voys.length<=1000):Gd K 66 [Qix c,.int .i64 n] (.bool (decide (inR n 0 c.voys.length))):=by
 refine Qb hK (fk func66 c66 (by kernel_rfl)) (by simp) ?_;simp
 (repeat' first|omega|with_reducible apply And.intro|intro)
 exact cK (by simpa using qc hK n 0 _) (by simp)
theorem QvQ (c:Sea) (h1000:c.waters.length<=1000) (hv1:c.voys.length<=1000) (hg1:c.gauges.length<=1000):Gd K 31 [Qix c] (.int .i64 (if Qx c then 0 else 90)):=by
 refine Qb hK (fk func31 c31 (by kernel_rfl)) (by simp) ?_;have no:∀ q:Prop,(Qx c->q)->¬ q->¬ Qx c:=fun q h1 h2 h=>h2 (h1 h);simp;refine cK (by simpa using qc hK c.thick 1 500) ?_;by_cases h1:inR c.thick 1 500
 case neg=>simp[h1,no _ Qx.thick h1]
 simp[h1];refine cK (by simpa using qc hK c.str 1 999) ?_;by_cases h2:inR c.str 1 999
 case neg=>simp[h2,no _ Qx.str h2]
 simp[h2]
 (repeat' first|omega|with_reducible apply And.intro|intro)
 by_cases h3:c.waters.length<=4
 case neg =>
  have h3':(4:Int)<c.waters.length:=by omega
  simp[h3',no _ Qx.nw h3]
  try (intros;omega)
 have h3':¬ (4:Int)<c.waters.length:=by omega
 simp[h3'];refine cK (by simpa using QvL hK (c.yh,c.yi)) ?_;by_cases h4:Zq (c.yh,c.yi)=false
 case neg =>
  have h4':Zq (c.yh,c.yi)=true:=by simpa using h4
  simp[h4',no _ Qx.z7 h4]
 simp[h4]
 (repeat' first|omega|with_reducible apply And.intro|intro)
 by_cases h5:c.voys.length<=8
 case neg =>
  have h5':(8:Int)<c.voys.length:=by omega
  simp[h5',no _ Qx.nv h5]
  try (intros;omega)
 have h5':¬ (8:Int)<c.voys.length:=by omega
 simp[h5']
 (repeat' first|omega|with_reducible apply And.intro|intro)
 by_cases h6:c.gauges.length<=6
 case neg =>
  have h6':(6:Int)<c.gauges.length:=by omega
  simp[h6',no _ Qx.ng h6]
  try (intros;omega)
 have h6':¬ (6:Int)<c.gauges.length:=by omega
 simp[h6'];refine cK (by simpa using qc hK c.zh 0 6) ?_;by_cases h7:inR c.zh 0 6
 case neg=>simp[h7,no _ Qx.zh h7]
 simp[h7];refine Qi (fun i=>[(1,.iv (.ptr (VH c))),(3,.iv (.int .i64 (i:Nat)))]) (fun _=>[]) c.waters.length (fun i=>∀ x∈c.waters.take i,Zq x=false) (by simp) ?_ ?_
 case refine_2 =>
  intro i hi hq ih;rw[Qa Qri.eq_1];have hi':(i:Int)<(c.waters.length:Int):=by omega
  simp[hi,hi']
  (repeat' first|omega|with_reducible apply And.intro|intro)
  refine cK (by simpa using QvL hK c.waters[i]) ?_;cases hb:Zq c.waters[i]
  ·simp at ih |-
   refine ⟨by omega,ih ?_⟩;intro a b hx;rw[QKH hi] at hx;rcases QK2.1 hx with h | h
   ·exact hq _ h
   rw[QLd] at h;rw[h];exact hb
  have:=no _ Qx.waters (fun h=>by rw[h _ (QKL hi)] at hb;cases hb);simp[this]
 intro hqw;rw[Qa Qri.eq_1];simp
 (repeat' first|omega|with_reducible apply And.intro|intro)
 refine Qi (fun i=>[(1,.iv (.ptr (VH c))),(4,.iv (.int .i64 (i:Nat)))]) (fun _=>[]) c.voys.length (fun i=>∀ x∈c.voys.take i,J2 c.waters.length x=false) (by simp) ?_ ?_
 case refine_2 =>
  intro i hi hq ih;rw[Qa Qrh.eq_1];have hi':(i:Int)<(c.voys.length:Int):=by omega
  simp[hi,hi']
  (repeat' first|omega|with_reducible apply And.intro|intro)
  refine cK (by simpa using QBP hK c c.voys[i].1 h1000) ?_;have bad:J2 c.waters.length c.voys[i]=true->¬ Qx c:=fun hb=>no _ Qx.voys (fun h=>by rw[h _ (QKL hi)] at hb;cases hb);by_cases ha:inR c.voys[i].1 0 ((c.waters.length:Int)-1)
  case neg =>
   have:=bad (by simp[J2,ha]);simp[ha,this]
  simp[ha,hi];refine cK (by simpa using qc hK c.voys[i].2 0 36) ?_;by_cases hb:inR c.voys[i].2 0 36
  case neg =>
   have:=bad (by simp[J2,hb]);simp[hb,this]
  simp[hb] at ih |-;refine ⟨by omega,ih ?_⟩;intro a b hx;rw[QKH hi] at hx;rcases QK2.1 hx with h | h
  ·exact hq _ h
  rw[QLd] at h;rw[h];simp[J2,ha,hb]
 intro hqv;rw[Qa Qrh.eq_1];simp
 (repeat' first|omega|with_reducible apply And.intro|intro)
 refine Qi (fun i=>[(1,.iv (.ptr (VH c))),(5,.iv (.int .i64 (i:Nat)))]) (fun _=>[]) c.gauges.length (fun i=>∀ x∈c.gauges.take i,Je c.voys.length x=false) (by simp) ?_ ?_
 case refine_2 =>
  intro i hi hq ih;rw[Qa Qrg.eq_1];have hi':(i:Int)<(c.gauges.length:Int):=by omega
  simp[hi,hi']
  (repeat' first|omega|with_reducible apply And.intro|intro)
  refine cK (by simpa using QBO hK c c.gauges[i].1 hv1) ?_;have bad:Je c.voys.length c.gauges[i]=true->¬ Qx c:=fun hb=>no _ Qx.gauges (fun h=>by rw[h _ (QKL hi)] at hb;cases hb);by_cases ha:inR c.gauges[i].1 0 c.voys.length
  case neg =>
   have:=bad (by simp[Je,ha]);simp[ha,this]
  simp[ha];refine cK (by simpa using qc hK c.gauges[i].2.1 0 500) ?_;by_cases hb:inR c.gauges[i].2.1 0 500
  case neg =>
   have:=bad (by simp[Je,hb]);simp[hb,this]
  simp[hb];refine cK (by simpa using qc hK c.gauges[i].2.2 0 500) ?_;by_cases hc:inR c.gauges[i].2.2 0 500
  case neg =>
   have:=bad (by simp[Je,hc]);simp[hc,this]
  simp[hc] at ih |-;refine ⟨by omega,ih ?_⟩;intro a b d hx;rw[QKH hi] at hx;rcases QK2.1 hx with h | h
  ·exact hq _ h
  rw[QLd] at h;rw[h];simp[Je,ha,hb,hc]
 ·intro hqg;rw[Qa Qrg.eq_1];rw[QK0] at hqw hqv hqg;have hok:Qx c:=⟨h1,h2,h7,h3,h4,hqw,h5,hqv,h6,hqg⟩;simp[hok]
 all_goals
  have q1:=Qx.nw ‹Qx c›;have q2:=Qx.nv ‹Qx c›;have q3:=Qx.ng ‹Qx c›;omega
theorem Qeg (x a b:Int):Gd K 33 [.int .i64 x,.int .i64 a,.int .i64 b] (.bool (decide (inR x a b))):=by
 refine Qb hK (fk func33 c33 (by kernel_rfl)) (by simp) ?_;simp;exact cK (Yz hK x a b) (by simp)
theorem Qpx (a b m:Int):Gd K 32 [.agg [.int .i64 a,.int .i64 b],.int .i64 m] (.bool (decide (ZX a b m))):=by
 refine Qb hK (fk func32 c32 (by kernel_rfl)) (by simp) ?_;by_cases h1:0<=a
 ·by_cases h2:a<=b
  ·simp[h1,h2,ZX,inR]
  simp[h1,h2,ZX,inR]
 simp[h1,ZX,inR]
theorem QB5 (a b:Int) (h:0<=a/\a<=b/\b<=1000000):Gd K 29 [.agg [.int .i64 a,.int .i64 b]] (.int .i64 (b-a+1)):=by
 refine Qb hK (fk func29 c29 (by kernel_rfl)) (by simp) ?_;simp;omega
theorem QB4 (c:Qf) (hd:c.za.length<=1000) (hs:c.zg.length<=1000):Gd K 30 [chV c] (.xd [.int .i64 (if OkC c then Ql c.za else 0),.int .i64 (if OkC c then 0 else 20)]):=by
 refine Qb hK (fk func30 c30 (by kernel_rfl)) (by simp) ?_;simp;refine cK (by simpa using Qpr hK c hd hs) ?_;by_cases h:OkC c
 case neg=>simp[h]
 simp[h];refine cK (by simpa using Qpw hK c.za hd) ?_;have hg:=Y5 c.za c.za.length c.za.length (by omega);simp[h.za]
 (repeat' first|omega|with_reducible apply And.intro|intro)
 simp[hg,Ql]
theorem QBQ (l:Zs) (hd:l.zc.za.length<=1000) (hs:l.zc.zg.length<=1000) (hw:l.sea.waters.length<=1000) (hv:l.sea.voys.length<=1000) (hg:l.sea.gauges.length<=1000) (hm:l.marks.length<=1000):Gd K 6 [lsV l] (.int .i64 (if OkL l then 0 else 100)):=by
 refine Qb hK (fk func6 c6 (by kernel_rfl)) (by simp) ?_;have no:∀ q:Prop,(OkL l->q)->¬ q->¬ OkL l:=fun q h1 h2 h=>h2 (h1 h);simp;refine cK (by simpa using QB4 hK l.zc hd hs) ?_;by_cases h1:OkC l.zc
 case neg=>simp[h1,no _ OkL.zc h1]
 simp[h1];refine cK (by simpa using QvQ hK l.sea hw hv hg) ?_;by_cases h2:Qx l.sea
 case neg=>simp[h2,no _ OkL.sea h2]
 simp[h2];refine cK (by simpa using Qpx hK l.plo l.phi 99999) ?_;by_cases h3:ZX l.plo l.phi 99999
 case neg=>simp[h3,no _ OkL.zq h3]
 simp[h3];refine cK (by simpa using Qpx hK l.flo l.fhi 100) ?_;by_cases h4:ZX l.flo l.fhi 100
 case neg=>simp[h4,no _ OkL.flaw h4]
 simp[h4];refine cK (by simpa using Qpx hK l.rlo l.rhi 99999) ?_;by_cases h5:ZX l.rlo l.rhi 99999
 case neg=>simp[h5,no _ OkL.rated h5]
 simp[h5];refine cK (by simpa using Qeg hK l.part 1 100) ?_;by_cases h6:inR l.part 1 100
 case neg=>simp[h6,no _ OkL.part h6]
 simp[h6]
 (repeat' first|omega|with_reducible apply And.intro|intro)
 generalize hM:(if Ql l.zc.za<8 then Ql l.zc.za else 8)=M;have hMi:inR (l.marks.length:Int) 1 M↔inR (l.marks.length:Int) 1 8/\(l.marks.length:Int)<=Ql l.zc.za:=by
  rw[<- hM];simp only[inR];split<;>omega
 refine cK (by simpa using Qeg hK l.marks.length 1 M) ?_;by_cases h7:inR (l.marks.length:Int) 1 M
 case neg =>
  have:=no _ (fun h=>hMi.2 ⟨OkL.mlen h,OkL.long h⟩) h7;simp[h7,this]
 have h8:=hMi.1 h7;have h9:=h8.1;simp only[inR] at h9;simp[h7]
 (repeat' first|omega|with_reducible apply And.intro|intro)
 refine cK (by simpa using Qeg hK l.z5 0 ((l.marks.length:Int)-1)) ?_;by_cases ha:inR l.z5 0 ((l.marks.length:Int)-1)
 case neg=>simp[ha,no _ OkL.z5 ha]
 simp[ha];refine cK (by simpa using Qeg hK l.pth (-1) 500) ?_;by_cases hb:inR l.pth (-1) 500
 case neg=>simp[hb,no _ OkL.pth hb]
 simp[hb];refine Qi (fun i=>[(5,.loc 5 0),(6,.iv (.int .i64 (i:Nat)))]) (fun _=>[(5,.box [.iv (ZV l.marks),.iv (.int .i64 l.z5),.iv (.int .i64 l.pth)])]) l.marks.length (fun i=>∀ x∈l.marks.take i,Qag x=false) (by simp) ?_ ?_
 case refine_2 =>
  intro i hi hq ih;rw[Qa Qz0.eq_1];have hi':(i:Int)<(l.marks.length:Int):=by omega
  have bad:Qag l.marks[i]=true->¬ OkL l:=fun hb=>no _ OkL.marks (fun h=>by rw[h _ (QKL hi)] at hb;cases hb);simp[hi,hi']
  (repeat' first|omega|with_reducible apply And.intro|intro)
  refine cK (by simpa using Qeg hK l.marks[i].1 (-1) 99) ?_;by_cases hc:inR l.marks[i].1 (-1) 99
  case neg =>
   have:=bad (by simp[Qag,hc]);simp[hc,this]
  simp[hc,hi];refine cK (by simpa using Qeg hK l.marks[i].2 (-1) 99) ?_;by_cases he:inR l.marks[i].2 (-1) 99
  case neg =>
   have:=bad (by simp[Qag,he]);simp[he,this]
  simp[he] at ih |-;refine ⟨by omega,ih ?_⟩;intro a b hx;rw[QKH hi] at hx;rcases QK2.1 hx with h | h
  ·exact hq _ h
  rw[QLd] at h;rw[h];simp[Qag,hc,he]
 intro hqm;rw[Qa Qz0.eq_1];rw[QK0] at hqm;have hok:OkL l:=⟨h1,h2,h3,h4,h5,h6,h8.1,hqm,ha,hb,h8.2⟩;simp[hok]
omit hK
def wid (s:Int × Int):Int:=s.2-s.1+1
def Qgh (c:Sea) (i:Nat):Int:=wid (c.yh,c.yi)*Q4 wid (c.waters.take i)
def Qp2 (c:Sea):Prop:=40<c.waters.length\/40<c.voys.length\/40<c.gauges.length\/(Qx c/\100<Qgh c c.waters.length)
noncomputable instance (c:Sea):Decidable (Qp2 c):=Classical.propDecidable _
theorem QbC (c:Sea) (i:Nat) (h:i<c.waters.length):Qgh c (i+1)=Qgh c i*wid c.waters[i]:=by
 unfold Qgh;rw[QdQ _ _ _ h,Int.mul_assoc]
theorem Qvd {s:Int × Int} (h:Zq s=false):1<=wid s/\wid s<=10:=by
 have:=ZW h;unfold wid;omega
theorem Qii {c:Sea} (hc:Qx c):∀ i:Nat,i<=c.waters.length->1<=Qgh c i/\Qgh c i<=10*10 ^ i
 | 0,_=>by
   have:=Qvd hc.z7;simpa[Qgh,Q4] using this
 | i+1,h=>by
   have ih:=Qii hc i (by omega);have h2:=Qvd (hc.waters _ (QKL (show i<c.waters.length from h)));rw[QbC c i h];have h3:=QLz ih.2 h2.2 (by omega) (by omega);have h4:=QLz ih.1 h2.1 (by omega) (by omega);rw[Int.pow_succ];omega
def Qto (l:Zs):Prop:=Qtp l.zc\/Qp2 l.sea\/40<l.marks.length\/(OkL l/\(40<Qgh l.sea l.sea.waters.length\/160<wid (l.plo,l.phi)\/160<wid (l.rlo,l.rhi)\/160<wid (l.plo,l.phi)*wid (l.flo,l.fhi)*wid (l.rlo,l.rhi)))
noncomputable instance (l:Zs):Decidable (Qto l):=Classical.propDecidable _
include hK
theorem QB6 (c:Sea):Gd K 28 [Qix c] (.bool (decide (Qp2 c))):=by
 refine Qb hK (fk func28 c28 (by kernel_rfl)) (by simp) ?_;by_cases h1:c.waters.length<=40
 case neg =>
  have h1':(40:Int)<c.waters.length:=by omega
  have:Qp2 c:=.inl (by omega);simp[h1',this]
 have h1':¬ (40:Int)<c.waters.length:=by omega
 by_cases h2:c.voys.length<=40
 case neg =>
  have h2':(40:Int)<c.voys.length:=by omega
  have:Qp2 c:=.inr (.inl (by omega));simp[h1',h2',this]
 have h2':¬ (40:Int)<c.voys.length:=by omega
 by_cases h3:c.gauges.length<=40
 case neg =>
  have h3':(40:Int)<c.gauges.length:=by omega
  have:Qp2 c:=.inr (.inr (.inl (by omega)));simp[h1',h2',h3',this]
 have h3':¬ (40:Int)<c.gauges.length:=by omega
 simp[h1',h2',h3'];intros;refine cK (by simpa using QvQ hK c (by omega) (by omega) (by omega)) ?_;by_cases h4:Qx c
 case neg =>
  have:¬ Qp2 c:=by
   rintro (h | h | h | h)
   ·omega
   ·omega
   ·omega
   exact h4 h.1
  simp[h4,this]
 have hwr:=ZW h4.z7;simp[h4]
 (repeat' first|omega|with_reducible apply And.intro|intro)
 have e0:c.yi-c.yh+1=Qgh c 0:=by simp[Qgh,wid,Q4]
 rw[e0];refine Qi (fun i=>[(1,.iv (.ptr (VH c))),(3,.iv (.int .i64 (Qgh c i))),(4,.iv (.int .i64 (i:Nat)))]) (fun _=>[]) c.waters.length (fun _=>True) trivial ?_ ?_
 case refine_2 =>
  intro i hi _ ih;have hb:=Qii h4 (i+1) hi;have hp:(10:Int) ^ (i+1)<=10000:=by
   have:i=0\/i=1\/i=2\/i=3:=by have:=h4.nw;omega
   rcases this with rfl | rfl | rfl | rfl<;>decide
  have hsp:=ZW (h4.waters _ (QKL hi));have hws:=QbC c i hi;rw[hws] at ih hb;have ew:wid c.waters[i]=c.waters[i].2-c.waters[i].1+1:=rfl;rw[ew] at ih hb;rw[Qa Qrl.eq_1];have hi':(i:Int)<(c.waters.length:Int):=by omega
  simp[hi,hi'] at ih |-;exact fun _=>⟨by omega,by omega,by omega,by omega,ih⟩
 intro _;rw[Qa Qrl.eq_1];have e:decide (Qp2 c)=decide (100<Qgh c c.waters.length):=by
  refine decide_eq_decide.2 ⟨fun h=>?_,fun h=>.inr (.inr (.inr ⟨h4,h⟩))⟩;rcases h with h | h | h | h
  ·omega
  ·omega
  ·omega
  exact h.2
 rw[e];simp
theorem QcD (s:Int × Int) (h:0<=s.1/\s.1<=s.2/\s.2<=1000000):Gd K 29 [.agg (spC s)] (.int .i64 (wid s)):=by
 simpa[wid] using QB5 hK s.1 s.2 h
theorem QEv (l:Zs):Gd K 5 [lsV l] (.bool (decide (Qto l))):=by
 refine Qb hK (fk func5 c5 (by kernel_rfl)) (by simp) ?_;simp;refine cK (by simpa using QB7 hK l.zc) ?_;by_cases h1:Qtp l.zc
 case pos =>
  have:Qto l:=.inl h1;simp[h1,this]
 simp[h1];refine cK (by simpa using QB6 hK l.sea) ?_;by_cases h2:Qp2 l.sea
 case pos =>
  have:Qto l:=.inr (.inl h2);simp[h2,this]
 simp[h2];by_cases h3:l.marks.length<=40
 case neg =>
  have h3':(40:Int)<l.marks.length:=by omega
  have:Qto l:=.inr (.inr (.inl (by omega)));simp[h3',this]
  try (intros;omega)
 have h3':¬ (40:Int)<l.marks.length:=by omega
 have hc40:l.zc.za.length<=40/\l.zc.zg.length<=40:=by
  unfold Qtp at h1;omega
 have hs40:l.sea.waters.length<=40/\l.sea.voys.length<=40/\l.sea.gauges.length<=40:=by
  unfold Qp2 at h2;omega
 simp[h3'];intros;refine cK (by simpa using QBQ hK l (by omega) (by omega) (by omega) (by omega) (by omega) (by omega)) ?_;by_cases h4:OkL l
 case neg =>
  have:¬ Qto l:=by
   rintro (h | h | h | h)
   ·exact h1 h
   ·exact h2 h
   ·omega
   exact h4 h.1
  simp[h4,this]
 have hwr:=ZW h4.sea.z7;simp[h4];refine cK (by simpa using QcD hK (l.sea.yh,l.sea.yi) (by omega)) ?_;have e0:wid (l.sea.yh,l.sea.yi)=Qgh l.sea 0:=by simp[Qgh,Q4]
 rw[e0];simp;refine Qi (fun i=>[(1,.iv (.ptr (lsC l))),(3,.iv (.int .i64 (Qgh l.sea i))),(4,.iv (.int .i64 (i:Nat)))]) (fun _=>[]) l.sea.waters.length (fun _=>True) trivial ?_ ?_
 case refine_2 =>
  intro i hi _ ih;have hb:=Qii h4.sea (i+1) hi;have hp:(10:Int) ^ (i+1)<=10000:=by
   have:i=0\/i=1\/i=2\/i=3:=by have:=h4.sea.nw;omega
   rcases this with rfl | rfl | rfl | rfl<;>decide
  have hsp:=ZW (h4.sea.waters _ (QKL hi));have hws:=QbC l.sea i hi;rw[hws] at ih hb;rw[Qa Qz1.eq_1];have hi':(i:Int)<(l.sea.waters.length:Int):=by omega
  simp[hi,hi'] at ih |-
  (repeat' first|omega|with_reducible apply And.intro|intro)
  refine cK (by simpa using QcD hK l.sea.waters[i] (by omega)) ?_;simp;exact ⟨by omega,by omega,ih⟩
 intro _;rw[Qa Qz1.eq_1];have e:decide (Qto l)=decide (40<Qgh l.sea l.sea.waters.length\/160<wid (l.plo,l.phi)\/160<wid (l.rlo,l.rhi)\/160<wid (l.plo,l.phi)*wid (l.flo,l.fhi)*wid (l.rlo,l.rhi)):=by
  refine decide_eq_decide.2 ⟨fun h=>?_,fun h=>.inr (.inr (.inr ⟨h4,h⟩))⟩;rcases h with h | h | h | h
  ·exact absurd h h1
  ·exact absurd h h2
  ·omega
  exact h.2
 rw[e];have q1:=h4.zq;have q2:=h4.flaw;have q3:=h4.rated;simp only[ZX,inR] at q1 q2 q3;have g1:=QcD hK (l.plo,l.phi) (by simp only;omega);have g2:=QcD hK (l.flo,l.fhi) (by simp only;omega);have g3:=QcD hK (l.rlo,l.rhi) (by simp only;omega);have w1:1<=wid (l.plo,l.phi)/\wid (l.plo,l.phi)<=100000:=by simp only[wid];omega
 have w2:1<=wid (l.flo,l.fhi)/\wid (l.flo,l.fhi)<=101:=by simp only[wid];omega
 have w3:1<=wid (l.rlo,l.rhi)/\wid (l.rlo,l.rhi)<=100000:=by simp only[wid];omega
 generalize wid (l.plo,l.phi)=p at *;generalize wid (l.flo,l.fhi)=f at *;generalize wid (l.rlo,l.rhi)=r at *;generalize Qgh l.sea l.sea.waters.length=W at *;have m1:=QLz w1.2 w2.2 (by omega) (by omega);have m2:=QLz w1.1 w2.1 (by omega) (by omega);have m3:=QLz (a:=p*f) (b:=r) (c:=10100000) (d:=100000) (by omega) w3.2 (by omega) (by omega);have m4:=QLC (a:=p*f) (b:=r) (by omega) (by omega);simp
 (repeat' first|omega|with_reducible apply And.intro|intro)
 by_cases c1:40<W
 case pos=>omega
 try simp[c1]
 refine cK (by simpa using g1) ?_;by_cases c2:160<p
 case pos=>simp[c2]
 simp[c2];refine cK (by simpa using g3) ?_;by_cases c3:160<r
 case pos=>simp[c3]
 simp[c3];refine cK (by simpa using g1) ?_;simp;refine cK (by simpa using g2) ?_;simp;refine ⟨by omega,cK (by simpa using g3) ?_⟩;simp;omega
omit hK
def QbB (a b:List Int):Bool:=decide (a.length<=40)&&decide (b.length<=40)&&a.all fun x=>decide (x∈b)
include hK
theorem QB9 (a b:List Int) (ha:a.length<=1000000) (hb:b.length<=1000000):Gd K 18 [QU a,QU b] (.bool (QbB a b)):=by
 refine Qb hK (fk func18 c18 (by kernel_rfl)) (by simp) ?_;generalize hV:QbB a b=V;unfold QbB at hV;by_cases h1:a.length<=40;rotate_left
 ·have h1':(40:Int)<a.length:=by omega
  simp[h1] at hV;simp[h1',hV]
  (repeat' first|omega|with_reducible apply And.intro|intro)
 by_cases h2:b.length<=40
 ·have h1':¬ (40:Int)<a.length:=by omega
  have h2':¬ (40:Int)<b.length:=by omega
  simp[h1,h2] at hV;simp[h1',h2']
  (repeat' first|omega|with_reducible apply And.intro|intro)
  refine Qi (fun i=>[(0,.iv (QU a)),(1,.iv (QU b)),(5,.iv (.int .i64 (i:Nat)))]) (fun _=>[]) a.length (fun i=>∀ x∈a.take i,x∈b) (by simp) ?_ ?_
  ·intro h;rw[Qa Qrw.eq_1];rw[QK0] at h;have:V=true:=by rw[<- hV];simpa using h
   simp[this]
  intro i hi h ih;have hii:(i:Int)<a.length:=by omega
  rw[Qa Qrw.eq_1];simp[hi,hii] at ih |-;intro _;refine cK (by simpa using QvR hK b a[i]) ?_;by_cases hm:a[i]∈b
  ·simp[hm];refine ⟨by omega,ih ?_⟩;rw[QKH hi];intro x hx;rcases QK2.1 hx with hx | hx
   ·exact h x hx
   rw[QLd.1 hx];exact hm
  have:V=false:=by
   rw[<- hV];simp;exact ⟨a[i],QKL hi,hm⟩
  simp[hm,this]
 have h1':¬ (40:Int)<a.length:=by omega
 have h2':(40:Int)<b.length:=by omega
 simp[h1,h2] at hV;simp[h1',h2',hV]
 (repeat' first|omega|with_reducible apply And.intro|intro)
omit hK
theorem QEt:Gd KW 8 [] (.bool true):=by
 refine Qb hKW (fk func8 c8 (by kernel_rfl)) (by simp) ?_;have g36:=QB3 hKW;have g14:=QyZ;obtain ⟨L,hL,g17⟩:=QyN hKW;have g26:=QB8 hKW [[48,32,49],[51,49]] [[48,32,49],[51,49]] (by decide) (by decide);rw[QBc.1,QBc.2] at g14;simp;refine cK (by simpa using g36) ?_;simp;refine cK (by simpa[exQ] using g14) ?_;simp;refine cK (by simpa using QB2 hKW) ?_;simp;refine cK (by simpa using g17) ?_;simp;refine cK (by simpa using QB0 hKW) ?_;simp;refine cK (by simpa using Qxw hKW) ?_;simp[hL];refine cK (by simpa using g26) ?_;simp
noncomputable def Qg4 (t:Txt):List Int × Bool :=
 if 200<t.length then ([],false) else if t=[110,111,110,101] then ([],true) else ((WR ([119,104,111,32]++t)).2.1,decide (0<(WR ([119,104,111,32]++t)).2.1.length))
include hK
theorem QCb (t:Txt) (hl:t.length<=100000):Gd K 15 [.str t] (.xd [QU (Qg4 t).1,.bool (Qg4 t).2]):=by
 refine Qb hK (fk func15 c15 (by kernel_rfl)) (by simp) ?_;unfold Qg4;by_cases h1:200<t.length
 ·have h1':(200:Int)<t.length:=by omega
  simp[h1,h1']
  (repeat' first|omega|with_reducible apply And.intro|intro)
 have h1':¬ (200:Int)<t.length:=by omega
 by_cases h2:t=[110,111,110,101]
 ·simp[h1,h2]
 have g:=QBW hK ([119,104,111,32]++t) (by simp;omega);generalize WR ([119,104,111,32]++t)=R at *;simp[h1,h1',h2]
 (repeat' first|omega|with_reducible apply And.intro|intro)
 refine cK (by simpa using g) ?_;simp
omit hK
variable {l:Zs} {at_:Int}
@[reducible] def chQ (l:Zs) (at_:Int):Qf:=⟨l.zc.za,l.zc.zg++sgL l at_ l.marks.length,l.zc.zh⟩
theorem J5.fits (h:J5 l at_) (hw:l.zc.zh=0) {n:Nat} (hn:n∈Qn (chQ l at_)) :
  ∃ c1∈QL l.zc,Ud c1 l.marks at_ 1/\Ql c1.za=Ql l.zc.za/\UT c1 (at_+l.z5) 0=UT (chQ l at_) (at_+l.z5) n:=by
 have hc:=h.ok.zc;have ho:OkC (chQ l at_):=h.okC (QKJ _);have he:=QiL ho hn;have hbit:∀ i,i<l.zc.za.length->QI (QfD l.zc.za n) i=Q1 l.zc.za n i:=fun i hi=>Qep _ n i hi;generalize QfD l.zc.za n=e at *;obtain ⟨hch,hwr⟩:=QcL he;change QDE l.zc.za e at hch;change ((QN l.zc.za (l.zc.zg++sgL l at_ l.marks.length) (QI e):Nat):Int)<=l.zc.zh at hwr;rw[hw] at hwr;unfold QN at hwr;rw[QLD] at hwr;have hw1:QN l.zc.za l.zc.zg (QI e)=0:=by
  unfold QN;omega
 have hw2:(sgL l at_ l.marks.length).countP (fun s=>!WM l.zc.za (QI e) s)=0:=by omega
 rw[QMf] at hw2;have hmem:e∈ZS l.zc [] l.zc.za:=QhL hc ⟨hch,by rw[hw1,hw];simp⟩;have he':e∈Q6 l.zc.za:=by
  simp only[ZS,QK9] at hmem;simpa using hmem.1
 have hk:({ l.zc with za:=Qaj l.zc.za e }:Qf)∈QL l.zc:=by
  rw[UD _ hc];exact QKT.2 ⟨e,hmem,rfl⟩
 have hcore:=Ys (Zd he').1;have hlen:=Qby hc he';have heb:=Wz hc he';have hcab:∀ k,cab (Qaj l.zc.za e) (Q1 (Qaj l.zc.za e) 0) k=cab l.zc.za (QI e) k:=fun k=>by rw[heb,QeV hcore]
 have hmk:∀ k,(JU (Qaj l.zc.za e) k).bar=(JU l.zc.za k).bar/\(JU (Qaj l.zc.za e) k).z1=(JU l.zc.za k).z1:=fun k=>by
  have h1:=qL (Qaj l.zc.za e) k;rw[hcore,qL] at h1;exact ⟨(congrArg Qv.bar h1).symm,(congrArg Qv.z1 h1).symm⟩
 have hleft:Ql (Qaj l.zc.za e)=Ql l.zc.za:=by
  unfold Ql;rw[hlen,Qbc hcore]
 have hcl:((cab l.zc.za (QI e) l.zc.za.length).length:Int)=Ql l.zc.za:=ZI (QI e) hc.za _ (QKJ _) (QKJ _);have hf:=h.first;have hl:=h.last;simp only[inR] at hf hl;refine ⟨_,hk,fun i hi=>?_,hleft,?_⟩
 ·have hr:=hw2 (sgM l at_ i) (QKT.2 ⟨i,QLa.2 hi,rfl⟩);have hg:l.marks.getD i (0,0)=l.marks[i]:=by simp[hi]
  simp only[QLb,Bool.not_eq_false] at hr;unfold WM QgQ at hr;simp only[sgM,hg,QMn] at hr;have hp:plc (at_+(i:Int)) 0 (cab l.zc.za (QI e) l.zc.za.length).length=(at_+1*(i:Int)).toNat:=by
   unfold plc;simp
  rw[hp] at hr;unfold Qnj QrE XC;simp only;rw[hcab,hlen,hleft,(hmk _).1,(hmk _).2];have hin:inR (at_+1*(i:Int)) 0 (Ql l.zc.za-1):=by
   unfold inR;omega
  simp only[hin,decide_true,Bool.true_and];exact hr
 unfold UT;simp only;rw[hcab,hlen,UM l.zc.za (Q1 l.zc.za n) (QI e) hbit]
theorem J5.place (h:J5 l at_):inR (at_+l.z5) 0 (Ql l.zc.za-1):=by
 have h1:=h.first;have h2:=h.last;have h3:=h.ok.z5;simp only[inR] at *;omega
noncomputable def Xf (l:Zs) (at_:Int):List Int:=ZE ((Qn (chQ l at_)).map (UT (chQ l at_) (at_+l.z5)))
theorem J5.said (h:J5 l at_):Qgy l at_=if Qn (chQ l at_)=[] then Qgl else YN (Xf l at_):=by
 have ho:OkC (chQ l at_):=h.okC (QKJ _);have hp:plB (chQ l at_) (at_+l.z5)=true:=decide_eq_true h.place;have e:Qgy l at_=X7 (Qn2 (chQ l at_) (at_+l.z5)) (Xu (chQ l at_) (plB (chQ l at_) (at_+l.z5))):=rfl;rw[e,hp];unfold Qn2;rw[hp];unfold Xu;rw[if_pos ho,if_pos rfl];by_cases hr:Qn (chQ l at_)=[]
 ·simp[hr,X7]
 simp[hr,X7,Xf]
theorem Qfx (h:J5 l at_):∀ x∈Xf l at_,0<=x/\x<12:=fun x hx=>by
 unfold Xf at hx;rw[XL] at hx;obtain ⟨n,_,rfl⟩:=QKT.1 hx;have hc:=h.ok.zc;unfold UT;have:=QjT (c:=l.zc) hc (Q1 l.zc.za n);by_cases hk:(at_+l.z5).toNat<(cab l.zc.za (Q1 l.zc.za n) l.zc.za.length).length
 ·have:=this _ (QKL hk);simp[hk];omega
 simp[List.getD_eq_getElem?_getD,QLL (Nat.le_of_not_lt hk)]
theorem Qlh:∀ (L:List Int) (a b:Int),L.Pairwise (·<·)->(∀ x∈L,a<=x/\x<b)->(L.length:Int)<=max 0 (b-a)
 | [],a,b,_,_=>by
   simp only[QK4];omega
 | x::r,a,b,hp,h=>by
   have h1:=List.pairwise_cons.1 hp;have hx:=h x (by simp);have ih:=Qlh r (x+1) b h1.2 fun y hy=>⟨by have:=h1.1 y hy;omega,(h y (by simp[hy])).2⟩;simp only[QKV];omega
theorem J5.found_len (h:J5 l at_):(Xf l at_).length<=12:=by
 have:=Qlh (Xf l at_) 0 12 (Ut _) (Qfx h);omega
theorem J5.found_ne (h:Qn (chQ l at_)≠[]):Xf l at_≠[]:=by
 obtain ⟨n,r,e⟩:=List.exists_cons_of_ne_nil h;refine QMu (a:=UT (chQ l at_) (at_+l.z5) n) ?_;unfold Xf;rw[XL,e];simp
theorem J5.nums (h:J5 l at_):Qg4 (Qgy l at_)=(if Qn (chQ l at_)=[] then [] else Xf l at_,true):=by
 rw[h.said];by_cases hr:Qn (chQ l at_)=[]
 ·simp only[hr,if_true];decide +kernel
 have hne:=J5.found_ne hr;have hs:∀ x∈Xf l at_,X3 x:=fun x hx=>by
  have:=Qfx h x hx;unfold X3;omega
 have hl:=h.found_len;have hj:=W0 (Xf l at_) hs;rw[if_neg hr,if_neg hr];unfold Qg4;have h1:=Qni _ hne hs;have h2:=Qnp hne hs;have h3:¬ 200<(YN (Xf l at_)).length:=by
  rw[Vh hne];omega
 rw[if_neg h3,if_neg (show YN (Xf l at_)≠[110,111,110,101] from h2),h1]
 have:0<(Xf l at_).length:=QLo.2 hne;simp[this]
theorem J5.links (h:J5 l at_) (hw:l.zc.zh=0) (ht:tLs l true=0) {x:Int} (hx:x∈Xf l at_):x∈spL l Yj.link/\at_+l.z5∈spL l Yj.pos:=by
 unfold Xf at hx;rw[XL] at hx;obtain ⟨n,hn,rfl⟩:=QKT.1 hx;obtain ⟨c1,h1,h2,h3,h4⟩:=h.fits hw hn;have hf:=h.first;simp only[inR] at hf;have ha:(((at_.toNat:Nat)):Int)=at_:=by omega
 have hsp:Jh c1 (at_+l.z5)∈X0 l c1 (Ql c1.za).toNat:=by
  refine QK6.2 ⟨at_.toNat,QLa.2 (by rw[h3];omega),?_⟩;unfold QaO U9;rw[ha,if_pos h2];simp
 rw[Qfd _ _ _ ht,Qfd _ _ _ ht];exact ⟨⟨c1,h1,by rw[<- h4];exact QMd (f:=Yj.link) hsp⟩,⟨c1,h1,QMd (f:=Yj.pos) hsp⟩⟩
theorem Qwz (hl:OkL l) {c:Qf} (hc:c∈QL l.zc) {s:Yj} (hs:s∈X0 l c (Ql c.za).toNat):(0<=s.link/\s.link<12)/\0<=s.pos/\s.pos<12:=by
 have hok:=(UE hc).ok;have hb:=hl.z5;simp only[inR] at hb;have key:∀ (a w:Int),s∈U9 l c a w->(0<=s.link/\s.link<12)/\0<=s.pos/\s.pos<12:=fun a w h=>by
  unfold U9 at h;split at h
  ·rename_i hf;simp only[QLd] at h;subst h;have h1:=hf l.z5.toNat (by omega);have e:((l.z5.toNat:Nat):Int)=l.z5:=by omega
   rw[e] at h1;unfold Qnj at h1;simp only[QKI,decide_eq_true_eq] at h1;have h2:=h1.1.1;simp only[inR] at h2;have h3:=hok.za.cnt c.za.length (QKJ _) (QKJ _);have h4:=hok.len;unfold Ql at h2;refine ⟨?_,h2.1,by simp only[Jh];omega⟩;simp only[Jh,UT];have h5:=QjT hok (Q1 c.za 0);by_cases hk:(a+w*l.z5).toNat<(cab c.za (Q1 c.za 0) c.za.length).length
   ·have:=h5 _ (QKL hk);simp[hk];omega
   simp[List.getD_eq_getElem?_getD,QLL (Nat.le_of_not_lt hk)]
  simp at h
 obtain ⟨a,_,ha⟩:=QK6.1 hs;unfold QaO at ha;rcases QK2.1 ha with h | h
 ·exact key _ _ h
 exact key _ _ h
theorem Qod (hl:OkL l) (ht:tLs l true=0) (f:Yj->Int) (hf:f=Yj.link\/f=Yj.pos):(spL l f).length<=12:=by
 have h1:(spL l f).Pairwise (·<·):=by
  unfold spL;rw[if_pos ht];exact Qmw _
 have:=Qlh (spL l f) 0 12 h1 fun x hx=>by
  rw[Qfd _ _ _ ht] at hx;obtain ⟨c,hc,hx⟩:=hx;obtain ⟨s,hs,rfl⟩:=QKT.1 hx;have:=Qwz hl hc hs;rcases hf with rfl | rfl<;>omega
 omega
theorem QCd (h:Qk) (hs:Ze h):Gd KW 11 [hoV h] (.int .i64 (QsF h)):=by
 refine Qb hKW (fk func11 c11 (by kernel_rfl)) (by simp) ?_;have g26:=QBZ hKW h.ze hs.ze;have g27:=QBY hKW h.zq hs.zi hs.zj;unfold QsF okH;by_cases h1:OkP h.ze
 ·rw[if_pos h1] at g26;simp[h1];refine cK (by simpa using g26) ?_;simp;refine cK (by simpa using g27) ?_;by_cases h2:OkU h.zq<;>simp[h2]
 ·rw[if_neg h1] at g26;simp[h1];refine cK (by simpa using g26) ?_;simp
theorem cKs {P:Program} {K:World->Prop} {C d g l e o ys r} (hg:Ev.Good P K g ys r) (hs:Q0 r=true)
  (h:Qq P K C l (bnd d (.iv r) e) o):Qdm P K C d g true l e o (some ys):=⟨ys,r,rfl,hg,.inr hs,h⟩
def QuU (l:Zs) (i:Nat):List AV:=[.iv (Qz l.zc.za),.iv (Qu l.zc.zg),.iv (.int .i64 0),.iv (.sl 3 []),.iv (.int .i64 0),.iv (.int .i64 0),.iv (.int .i64 0),.iv (.sl 4 []),.iv (.int .i64 0),.yl 6009 i,
 .iv (.int .i64 0),.iv (.int .i64 1),.iv (.int .i64 0),.iv (.int .i64 1),.iv (.int .i64 1),.iv (.sl 3 []),.iv (.sl 7 []),.iv (.int .i64 0)]
theorem QEw (l:Zs) (at_:Int):Gd KW 3 [lsV l,.int .i64 at_] (.bool true):=by
 refine Qb hKW (fk func3 c3 (by kernel_rfl)) (by simp) ?_;have g8:=QEt;simp;refine cK (by simpa using QEv hKW l) ?_;by_cases hfar:Qto l
 ·simp[hfar];exact cK (by simpa using g8) (by simp)
 have hb:l.zc.za.length<=40/\l.zc.zg.length<=40/\l.sea.waters.length<=40/\l.sea.voys.length<=40/\l.sea.gauges.length<=40/\l.marks.length<=40:=by
  simp only[Qto,Qtp,Qp2,not_or] at hfar;omega
 obtain ⟨b1,b2,b3,b4,b5,b6⟩:=hb;simp[hfar];refine cK (by simpa using QBQ hKW l (by omega) (by omega) (by omega) (by omega) (by omega) (by omega)) ?_;by_cases hok:OkL l
 case neg =>
  simp[hok];exact cK (by simpa using g8) (by simp)
 by_cases hw:l.zc.zh=0
 case neg =>
  simp[hok,hw];exact cK (by simpa using g8) (by simp)
 by_cases hat:at_<0
 ·simp[hok,hw,hat];exact cK (by simpa using g8) (by simp)
 have g7:=fun n=>QEu hKW l.zc n hok.zc.za (by omega);simp[hok,hw,hat];refine cK (by simpa[hw] using g7 at_) ?_;by_cases h1:inR at_ 0 (Ql l.zc.za-1)
 case neg =>
  simp[h1];exact cK (by simpa using g8) (by simp)
 have h1':=h1;have hlb:=Qi7 hok;simp only[inR] at h1';simp[h1]
 (repeat' first|omega|with_reducible apply And.intro|intro)
 refine cK (by simpa[hw] using g7 (at_+l.marks.length-1)) ?_;by_cases h2:inR (at_+l.marks.length-1) 0 (Ql l.zc.za-1)
 case neg =>
  simp[h2];exact cK (by simpa using g8) (by simp)
 simp[h2];refine cK (by simpa[hw] using QEs hKW l.zc (by omega) (by omega)) ?_;simp;have hpl:=Qb4 l.zc.za;have g10:Gd KW 10 [chV l.zc] (Xh (pv l.zc.za)):=QvT hKW l.zc (by omega);refine XU (fun i=>[(1,.iv (.int .i64 at_)),(2,.iv (.ptr (lsC l))),(5,.loc 5 0),(6,.iv (.int .i64 (i:Nat)))]) (fun i=>[(5,.box (QuU l i)),(6009,.arr 60 3 (emb ((List.replicate i (⟨0,0,-1⟩:Qah)).map trC)) 0)]) (pv l.zc.za).length (fun _=>True) trivial ?_ ?_ (by simp[hw]) (by simp[QuU,emb])
 case refine_2 =>
  intro i hi _ ih;have hii:(i:Int)<(pv l.zc.za).length:=by omega
  rw[List.replicate_succ'] at ih;rw[Qa Qz6.eq_1];simp[hw];refine cK (by simpa[hw] using g10) ?_;simp[QuU,hii,hw,hi] at ih |-;intro _;exact ⟨by omega,by omega,ih⟩
 intro _;rw[Qa Qz6.eq_1];simp[hw];refine cK (by simpa[hw] using g10) ?_;by_cases h8:l.zc.zg.length+l.marks.length<=8
 case neg =>
  have h8':(8:Int)<(l.zc.zg.length:Int)+l.marks.length:=by omega
  simp[QuU,h8']
  (repeat' first|omega|with_reducible apply And.intro|intro)
  exact cK (by simpa using g8) (by simp)
 have h8':¬ (8:Int)<(l.zc.zg.length:Int)+l.marks.length:=by omega
 have hsm:Ze (V8 l at_ 0):=⟨⟨by simp[V8];omega,by simp[V8,sgL];omega,by simp[V8],by simp[V8],by simp[V8];omega⟩,by simp[V8],by simp[V8]⟩;have g11:=QCd (V8 l at_ 0) hsm;generalize hE:QsF (V8 l at_ 0)=E at g11;simp[QuU,h8']
 (repeat' first|omega|with_reducible apply And.intro|intro)
 refine cKs (by simpa[V8,sgL,hw] using g11) rfl ?_;by_cases hho:okH (V8 l at_ 0)
 case neg =>
  have hE:E=120:=by rw[<- hE];simp[QsF,hho]
  simp[hE];exact cK (by simpa using g8) (by simp)
 have hE:E=0:=by rw[<- hE];simp[QsF,hho]
 have H:J5 l at_:=⟨hok,h1,h2,h8,hho⟩;simp[hE];have hbr:=hok.z5;simp only[inR] at hbr;have hlen5:∀ k,k<l.marks.length->(YN (QdK l at_ k)).length<=20:=fun k hk=>by
  have:=W0 (QdK l at_ k) (H.small hk);rw[Vh (by simp[QdK])];simpa[QdK] using this
 refine XU (fun i=>[(1,.iv (.int .i64 at_)),(2,.iv (.ptr (lsC l))),(5,.loc 5 0),(7,.yl 7 i),(8,.iv (.int .i64 (i:Nat)))])
  (fun i=>[(5,.box (QuU l (pv l.zc.za).length)),(7,.arr 9 1 (emb ((Qh9 l at_ i).map fun t=>[.str t])) 0),(6009,.arr 60 3 (emb ((List.replicate (pv l.zc.za).length (⟨0,0,-1⟩:Qah)).map trC)) 0)]) l.marks.length (fun _=>True) trivial ?_ ?_ (by simp[hw]) (by simp[QuU,Qh9,emb])
 case refine_2 =>
  intro i hi _ ih;have hii:(i:Int)<l.marks.length:=by omega
  have hsm:=H.small hi
  have g12:=QCc hKW (QdK l at_ i) ⟨by simp[QdK],fun n hn=>by
   have:=hsm n hn;unfold X3 at this;omega⟩
  have hl5:=hlen5 i hi;have hs:Qh9 l at_ (i+1)=Qh9 l at_ i++[[115,101,101,32]++YN (QdK l at_ i)]:=by simp[Qh9,QLs]
  have hg:l.marks.getD i (0,0)=l.marks[i]:=by simp[hi]
  have hsl:(Qh9 l at_ i).length=i:=by simp[Qh9]
  rw[hs] at ih;generalize Qh9 l at_ i=ST at *;generalize hT:YN (QdK l at_ i)=T at *;rw[Qa Qz5.eq_1];simp only[QdK,hg] at g12;simp[QuU,hi,hii,hw] at ih |-
  (repeat' first|omega|with_reducible apply And.intro|intro)
  refine cK (by simpa using g12) ?_;simp[hsl];exact ⟨by omega,by omega,by omega,ih⟩
 intro _;rw[Qa Qz5.eq_1];have g13:=QpU hKW (at_+l.z5) (by omega);have hi3:=(WS H.smallW).2.2;have hsl:(Qh9 l at_ l.marks.length).length=l.marks.length:=by simp[Qh9]
 have g14:=H.good14;have hscr:strs (Qda l at_)=.sl 1 ((Qh9 l at_ l.marks.length).map (fun t=>[.str t])++[[.str ([119,104,111,32]++Lib.itoa (at_+l.z5))]]):=by simp[Qda,QAJ]
 rw[hscr] at g14;have hsaid:(Qgy l at_).length<=100:=by
  rw[H.said];split
  ·decide
  rename_i hr;have hs:∀ x∈Xf l at_,X3 x:=fun x hx=>by
   have:=Qfx H x hx;unfold X3;omega
  have:=W0 (Xf l at_) hs;have:=H.found_len;rw[Vh (J5.found_ne hr)];omega
 have g15:=QCb hKW (Qgy l at_) (by omega);have hn:=H.nums;generalize Qgy l at_=S at *;generalize QiD (V8 l at_ 0) (Qda l at_)=RH at *;generalize Qh9 l at_ l.marks.length=ST at *;simp[QuU,hw,hsl]
 (repeat' first|omega|with_reducible apply And.intro|intro)
 refine cK (by simpa using g13) ?_;simp[hsl,QKM];refine ⟨by omega,by omega,cK (by simpa[V8,sgL,hw] using g14) ?_⟩;have ht:tLs l true=0\/tLs l true=3:=by
  unfold tLs;rw[if_pos hok,if_pos rfl];split
  ·exact .inr rfl
  exact .inl rfl
 clear g14 g13 g11 g10 hscr;simp[hsl]
 (repeat' first|omega|with_reducible apply And.intro|intro)
 refine XU (fun i=>[(1,.iv (.int .i64 at_)),(2,.iv (.ptr (lsC l))),(10,.iv (.sl 1 (List.replicate l.marks.length [.str Qvj]++[[.str S]]))),(13,.iv (.int .i64 (i:Nat)))]) (fun _=>[]) l.marks.length (fun _=>True) trivial ?_ ?_ (by simp[hw]) (by simp)
 case refine_2 =>
  intro i hi _ ih;have hii:(i:Int)<l.marks.length:=by omega
  rw[Qa Qz4.eq_1];have hget:(List.replicate l.marks.length [IV.str [121,101,115]]++[[IV.str S]])[i]?.getD []=[IV.str [121,101,115]]:=by simp[List.getElem?_append,hi]
  simp[hi,hii,hw,Qvj] at ih |-;rw[hget];refine ⟨by omega,fun _=>⟨by omega,?_⟩⟩;simp;exact ⟨by omega,ih⟩
 intro _;rw[Qa Qz4.eq_1];have hFx:∀ x∈(if Qn (chQ l at_)=[] then [] else Xf l at_),x∈Xf l at_:=fun x hx=>by
  split at hx
  ·simp at hx
  exact hx
 have hFl:(if Qn (chQ l at_)=[] then [] else Xf l at_).length<=12:=by
  split
  ·simp
  exact H.found_len
 rw[hn] at g15;generalize (if Qn (chQ l at_)=[] then [] else Xf l at_)=F at *
 simp[hw];refine ⟨by omega,fun _=>⟨by omega,cK (by simpa using g15) ?_⟩⟩;simp;refine cK (by simpa[hw] using QCa hKW l (by omega) (by omega)) ?_;simp;refine cK (by simpa[hw] using QvS hKW l (by omega) (by omega)) ?_;rcases ht with ht | ht
 case inr =>
  simp[ht];exact cK (by simpa using g8) (by simp)
 by_cases hFe:F=[]
 ·simp[ht,hFe];exact cK (by simpa using g8) (by simp)
 have hp:=Qod hok ht Yj.pos (.inr rfl);have hk:=Qod hok ht Yj.link (.inl rfl);have hwi:QbB F (spL l Yj.link)=true:=by
  unfold QbB;simp only[QKI,decide_eq_true_eq,QLk];exact ⟨⟨by omega,by omega⟩,fun x hx=>(H.links hw ht (hFx x hx)).1⟩
 obtain ⟨x,r,hxr⟩:=List.exists_cons_of_ne_nil hFe;have hpl:=(H.links hw ht (hFx x (by rw[hxr];simp))).2;have g18:=QB9 hKW F (spL l Yj.link) (by omega) (by omega);have g19:=QvR hKW (spL l Yj.pos) (at_+l.z5);rw[hwi] at g18;have hp':((spL l Yj.pos).length:Int)<=40:=by omega
 simp[ht,hFe];intro _;refine cK (by simpa using g18) ?_;simp[hp']
 (repeat' first|omega|with_reducible apply And.intro|intro)
 refine cK (by simpa using g19) ?_;simp[hpl];exact cK (by simpa using g8) (by simp)
end Go.Pf
namespace Go.Pf
open Go Go.Ev Go.Proofs Go.RowKit Go.ChangeShapes Go.WideShapes Go.Proofs.YtenlhiebmnojhaaGreatDoor Go.Proofs.Tryz
set_option maxRecDepth 100000
theorem Qhw {P:Program} (h:P.funcs.any Func.goes=false) (f:FuncId):P.goes f=false:=by
 unfold Program.goes;rw[h,Bool.and_false,Bool.or_false,List.any_eq_false];intro g _;cases hg:P.funcs[g]? with
 | none=>simp
 | some fn =>
   have:=Array.any_eq_false'.1 h fn (Array.mem_of_getElem? hg);simpa using this
theorem QjG {P:Program} (h:P.funcs.any Func.goes=false) (c:OpenClaim):false=c.goesBy P:=by
 have h1:∀ o:Option FuncId,o.any P.goes=false:=fun o=>by cases o<;>simp[Qhw h]
 have h2:P.inits.toList.any P.goes=false:=by
  rw[List.any_eq_false];intro f _;simp[Qhw h]
 unfold OpenClaim.goesBy Program.goesAt Program.goesFrom;rw[h1,h2];cases c.start<;>rfl
theorem QEE:prog.funcs.any Func.goes=false:=by kernel_rfl
end Go.Pf
