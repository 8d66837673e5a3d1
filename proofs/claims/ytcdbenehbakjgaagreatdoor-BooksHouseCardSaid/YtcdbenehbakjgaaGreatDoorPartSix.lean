/- The reference's change of a house. -/
import Derived.Test.YtcdbenehbakjgaaGreatDoorPartFive
import Derived.Test.YtcdbenehbakjgaaGreatDoorPartThree
import Derived.KernelRfl
import Derived.Test.YtcdbenehbakjgaaGreatDoorPartFour
import Derived.Lib.SplitLaws
set_option linter.all false
namespace Go.Pf
open Go Go.Ev Go.Proofs Go.RowKit Go.Proofs.Tryz
variable {K:World->Prop} (hK:∀ w w',K w->Below w.heap.size w w'->K w')
set_option maxRecDepth 8000
set_option maxHeartbeats 1000000
theorem Wx (L:List (List IV)) (a b c d e f g:IV):emb L++[[.iv a,.iv b,.iv c,.iv d,.iv e,.iv f,.iv g]]=emb (L++[[a,b,c,d,e,f,g]]):=by simp[emb]
theorem QvK (h:Qd):imm (Qc (WP 0 h)) 40 (.agg (qR 0 h))=some (.agg (hoC h)):=by
 cases ht:h.ze.zf<;>simp[qR,Ul,trA,WP,Vi,trO,ht,imm,imms,immss,Qc,QJZ]
include hK
theorem Quc (h:Qd) (hs:QM h):Gd K 32 [hoV h] (hoV h) :=
 Wt (xs:=[hoV h]) hK (JW hK h hs) (QvK h)
theorem Qh5 (h:Qd) (a b c d:Int) (hs:QM h):Gd K 78 [hoV h,.str [119,101,108,100],QW [a,b,c,d]] (.xh [hoV (Qh h ⟨1,a,b,c,d⟩),.bool true]):=by
 refine Qb hK qT (by simp) ?_
 have g10:=JW hK h hs;obtain ⟨⟨b1,b2,b3,b4,b5⟩,b6,b7⟩:=hs;cases ht:h.ze.zf with
 | nil =>
   simp only[qR,WP,Ul,Vi,trA,trO,ht,if_true,if_false,reduceCtorEq,QKj,QJ8,QKe] at g10;simp;refine Qj g10 (by simp[nth,rn]) (Zb (by decide) rfl (by simp[Zn]) (by simp[Qc])) ?_
   simp[nth,rn,rnL];simp[Qh,ht,QJZ];omega
 | cons t r =>
   simp only[qR,WP,Ul,Vi,trA,trO,ht,if_true,if_false,reduceCtorEq,QKj,QJ8,QKe] at g10;rw[ht] at b5;simp at b5;simp;refine Qj g10 (by simp[nth,rn]) (Zb (by decide) rfl (by simp[Zn]) (by simp[Qc])) ?_
   simp[nth,rn,rnL];simp[Qh,ht,QJZ];omega
theorem QlM (h:Qd) (a b:Int) (hs:QM h):Gd K 78 [hoV h,.str [99,117,116],QW [a,b]] (.xh [hoV (Qh h ⟨2,a,b,0,0⟩),.bool true]):=by
 refine Qb hK qT (by simp) ?_
 have g10:=JW hK h hs;obtain ⟨⟨b1,b2,b3,b4,b5⟩,b6,b7⟩:=hs;cases ht:h.ze.zf with
 | nil =>
   simp only[qR,WP,Ul,Vi,trA,trO,ht,if_true,if_false,reduceCtorEq,QKj,QJ8,QKe] at g10;simp;refine Qj g10 (by simp[nth,rn]) (Zb (by decide) rfl (by simp[Zn]) (by simp[Qc])) ?_
   simp[nth,rn,rnL];simp[Qh,ht,QJZ];omega
 | cons t r =>
   simp only[qR,WP,Ul,Vi,trA,trO,ht,if_true,if_false,reduceCtorEq,QKj,QJ8,QKe] at g10;rw[ht] at b5;simp at b5;simp;refine Qj g10 (by simp[nth,rn]) (Zb (by decide) rfl (by simp[Zn]) (by simp[Qc])) ?_
   simp[nth,rn,rnL];simp[Qh,ht,QJZ];omega
theorem Qh7 (h:Qd) (hs:QM h):Gd K 78 [hoV h,.str [116,117,114,110],QW []] (.xh [hoV (Qh h ⟨3,0,0,0,0⟩),.bool true]):=by
 refine Qb hK qT (by simp) ?_
 have g10:=JW hK h hs;obtain ⟨⟨b1,b2,b3,b4,b5⟩,b6,b7⟩:=hs;cases ht:h.ze.zf with
 | nil =>
   simp only[qR,WP,Ul,Vi,trA,trO,ht,if_true,if_false,reduceCtorEq,QKj,QJ8,QKe] at g10;simp;refine Qj g10 (by simp[nth,rn]) (Zb (by decide) rfl (by simp[Zn]) (by simp[Qc])) ?_
   simp[nth,rn,rnL];simp[Qh,ht,QJZ];omega
 | cons t r =>
   simp only[qR,WP,Ul,Vi,trA,trO,ht,if_true,if_false,reduceCtorEq,QKj,QJ8,QKe] at g10;rw[ht] at b5;simp at b5;simp;refine Qj g10 (by simp[nth,rn]) (Zb (by decide) rfl (by simp[Zn]) (by simp[Qc])) ?_
   simp[nth,rn,rnL];simp[Qh,ht,QJZ];omega
theorem Qgm (h:Qd) (a b c:Int) (hs:QM h):Gd K 78 [hoV h,.str [112,114,111,118,101],QW [a,b,c]] (.xh [hoV (Q5 h ⟨a,b,c⟩),.bool true]):=by
 refine Qb hK qT (by simp) ?_
 have g10:=JW hK h hs;obtain ⟨⟨b1,b2,b3,b4,b5⟩,b6,b7⟩:=hs;cases ht:h.ze.zf with
 | nil =>
   simp only[qR,WP,Ul,Vi,trA,trO,ht,if_true,if_false,reduceCtorEq,QKj,QJ8,QKe] at g10;simp;refine Qj g10 (by simp[nth,rn]) (Zb (by decide) rfl (by simp[Zn]) (by simp[Qc])) ?_
   simp[nth,rn,rnL];simp[Q5,ht,QJZ];omega
 | cons t r =>
   simp only[qR,WP,Ul,Vi,trA,trO,ht,if_true,if_false,reduceCtorEq,QKj,QJ8,QKe] at g10;rw[ht] at b5;simp at b5;simp;refine Qj g10 (by simp[nth,rn]) (Zb (by decide) rfl (by simp[Zn]) (by simp[Qc])) ?_
   simp[nth,rn,rnL];simp[Q5,ht,QJZ];omega
theorem QlL (h:Qd) (a b c d e:Int) (hs:QM h):Gd K 78 [hoV h,.str [115,101,101],QW [a,b,c,d,e]] (.xh [hoV (Zj h ⟨a,b,c,d,e⟩),.bool true]):=by
 refine Qb hK qT (by simp) ?_
 have g10:=JW hK h hs;obtain ⟨⟨b1,b2,b3,b4,b5⟩,b6,b7⟩:=hs;cases ht:h.ze.zf with
 | nil =>
   simp only[qR,WP,Ul,Vi,trA,trO,ht,if_true,if_false,reduceCtorEq,QKj,QJ8,QKe] at g10;simp;refine Qj g10 (by simp[nth,rn]) (Zb (by decide) rfl (by simp[Zn]) (by simp[Qc])) ?_
   simp[nth,rn,rnL];simp[Zj,ht,QJZ];omega
 | cons t r =>
   simp only[qR,WP,Ul,Vi,trA,trO,ht,if_true,if_false,reduceCtorEq,QKj,QJ8,QKe] at g10;rw[ht] at b5;simp at b5;simp;refine Qj g10 (by simp[nth,rn]) (Zb (by decide) rfl (by simp[Zn]) (by simp[Qc])) ?_
   simp[nth,rn,rnL];simp[Zj,ht,QJZ];omega
theorem Qcx (h:Qd) (a b c d:Int) (hs:QM h):Gd K 78 [hoV h,.str [98,97,108,97,110,99,101],QW [a,b,c,d]] (.xh [hoV (Xw h ⟨a,b,c,d⟩),.bool true]):=by
 refine Qb hK qT (by simp) ?_
 have g10:=JW hK h hs;obtain ⟨⟨b1,b2,b3,b4,b5⟩,b6,b7⟩:=hs;cases ht:h.ze.zf with
 | nil =>
   simp only[qR,WP,Ul,Vi,trA,trO,ht,if_true,if_false,reduceCtorEq,QKj,QJ8,QKe] at g10;simp;refine Qj g10 (by simp[nth,rn]) (Zb (by decide) rfl (by simp[Zn]) (by simp[Qc])) ?_
   simp[nth,rn,rnL];simp[Xw,ht,QJZ];omega
 | cons t r =>
   simp only[qR,WP,Ul,Vi,trA,trO,ht,if_true,if_false,reduceCtorEq,QKj,QJ8,QKe] at g10;rw[ht] at b5;simp at b5;simp;refine Qj g10 (by simp[nth,rn]) (Zb (by decide) rfl (by simp[Zn]) (by simp[Qc])) ?_
   simp[nth,rn,rnL];simp[Xw,ht,QJZ];omega
theorem Qh8 (h:Qd) (a b c d e f g:Int) (hs:QM h):Gd K 78 [hoV h,.str [114,101,97,100],QW [a,b,c,d,e,f,g]] (.xh [hoV (ZK h ⟨a,b,c,d,e,f,g⟩),.bool true]):=by
 refine Qb hK qT (by simp) ?_
 have g10:=JW hK h hs;obtain ⟨⟨b1,b2,b3,b4,b5⟩,b6,b7⟩:=hs;cases ht:h.ze.zf with
 | nil =>
   simp only[qR,WP,Ul,Vi,trA,trO,ht,if_true,if_false,reduceCtorEq,QKj,QJ8,QKe] at g10;simp;refine Qj g10 (by simp[nth,rn]) (Zb (by decide) rfl (by simp[Zn]) (by simp[Qc])) ?_
   simp[nth,rn,rnL,Wx];simp[ZK,ht,Wx,QJZ];omega
 | cons t r =>
   simp only[qR,WP,Ul,Vi,trA,trO,ht,if_true,if_false,reduceCtorEq,QKj,QJ8,QKe] at g10;rw[ht] at b5;simp at b5;simp;refine Qj g10 (by simp[nth,rn]) (Zb (by decide) rfl (by simp[Zn]) (by simp[Qc])) ?_
   simp[nth,rn,rnL,Wx];simp[ZK,ht,Wx,QJZ];omega
theorem Qh6 (h:Qd) (hs:QM h) (hu:(h.ze.zc.za.getLast?.map (·.zp))=some 4->h.ze.zf≠[]):Gd K 78 [hoV h,.str [117,110,100,111],QW []] (.xh [hoV (if h.ze.zc.za=[] then h else ZM h),.bool (decide (¬ h.ze.zc.za=[]))]):=by
 refine Qb hK qT (by simp) ?_
 have g10:=JW hK h hs;obtain ⟨⟨b1,b2,b3,b4,b5⟩,b6,b7⟩:=hs;by_cases hd:h.ze.zc.za=[]
 ·cases ht:h.ze.zf with
  | nil =>
    simp only[qR,WP,Ul,Vi,trA,trO,ht,hd,if_true,if_false,reduceCtorEq,QKj,QJ8,QKe] at g10;simp;refine Qj g10 (by simp[nth,rn,hd]) (Zb (by decide) rfl (by simp[Zn]) (by simp[Qc])) ?_
    simp[nth,rn,rnL]
    grind
  | cons t r =>
    simp only[qR,WP,Ul,Vi,trA,trO,ht,hd,if_true,if_false,reduceCtorEq,QKj,QJ8,QKe] at g10;simp;refine Qj g10 (by simp[nth,rn,hd]) (Zb (by decide) rfl (by simp[Zn]) (by simp[Qc])) ?_
    simp[nth,rn,rnL]
    grind
 obtain ⟨D,d,hD⟩:∃ D d,h.ze.zc.za=D++[d]:=⟨_,_,(QK5 hd).symm⟩
 rw[hD] at b1;simp at b1;cases ht:h.ze.zf with
 | nil =>
   have h4:¬ d.zp=4:=fun e=>hu (by rw[hD];simp[e]) ht
   simp only[qR,WP,Ul,Vi,trA,trO,ht,if_true,if_false,reduceCtorEq,QKj,QJ8,QKe] at g10;simp;refine Qj g10 (by simp[nth,rn]) (Zb (by decide) rfl (by simp[Zn]) (by simp[Qc])) ?_
   simp[nth,rn,rnL];simp[hd,hD,ht,h4,ZM,QJZ];omega
 | cons t r =>
   rw[ht] at b5;simp at b5
   have tk:∀ x:List IV,List.take D.length (List.take (D.length+1) (D.map dC++[x]))=D.map dC:=fun x=>by
    grind
   have htn:((r.length:Int)+1-1).toNat=r.length:=by omega
   by_cases h4:d.zp=4
   ·simp only[qR,WP,Ul,Vi,trA,trO,ht,if_true,if_false,reduceCtorEq,QKj,QJ8,QKe] at g10
    simp;refine Qj g10 (by simp[nth,rn]) (Zb (by decide) rfl (by simp[Zn]) (by simp[Qc])) ?_
    simp[nth,rn,rnL];simp[hd,hD,ht,h4,ZM,QJZ,List.dropLast_eq_take,tk];omega
   simp only[qR,WP,Ul,Vi,trA,trO,ht,if_true,if_false,reduceCtorEq,QKj,QJ8,QKe] at g10;simp;refine Qj g10 (by simp[nth,rn]) (Zb (by decide) rfl (by simp[Zn]) (by simp[Qc])) ?_
   simp[nth,rn,rnL];simp[hd,hD,ht,h4,ZM,QJZ];omega
omit hK
def QBr:WL->FuncId
 | .weld=>92 | .cut=>93 | .turn=>94 | .prove=>95 | .undo=>96 | .see=>97 | .balance=>98 | .read=>99
 | .who=>100 | .wher=>103 | .first=>105 | .pulls=>108 | .z8=>111 | .loads=>113 | .xa=>115 | .y9=>117 | .xb=>120 | .opn=>122 | .good=>124 | .worth=>126 | .zm=>128 | .stretch=>130 | .best=>132 | .holds=>134 | .zi=>136
def Qk6 (p:Nat × WL):IV:=.agg [.int .i64 (p.1:Nat),.fn (QBr p.2)]
def QaT:List (MK × IV):=ZI.map fun p=>(.str p.1,Qk6 p.2)
theorem QbK {k:MK} {y:IV} (h:k.kind=none):∀ {l:List (MK × IV)},Zx none l->Zx none (zn k y l)
 | [],_=>⟨h,trivial⟩
 | p::r,hl=>by
   unfold zn;split
   ·exact ⟨h,hl.2⟩
   exact ⟨hl.1,QbK h hl.2⟩
include hK
theorem QAX:Gd K 61 [] (.map QaT):=by
 refine Qb hK (fk func61 c61 (by kernel_rfl)) (by simp) ?_
 simp
 repeat' first | exact trivial | apply And.intro | apply QbK rfl | kernel_rfl
omit hK
def arV:WL->Nat
 | .weld=>4 | .cut=>2 | .turn=>0 | .prove=>3 | .undo=>0 | .see=>5 | .balance=>4 | .read=>7
 | .who=>1 | .wher=>1 | .first=>0 | .pulls=>2 | .z8=>1 | .loads=>1 | .xa=>0 | .y9=>0 | .xb=>1 | .opn=>0 | .good=>0 | .worth=>0 | .zm=>0 | .stretch=>0 | .best=>0 | .holds=>1 | .zi=>1
theorem Qp2:∀ p∈ZI,p.2.1=arV p.2.2:=by decide
theorem Qmt {w:Txt} {n:Nat} {v:WL} (h:Xq w=some (n,v)):n=arV v:=by
 rcases WS w with ⟨p,hp,rfl⟩ | hn
 ·rw[Xp p hp] at h
  injection h with h
  have:=Qp2 p hp
  grind
 rw[JI hn] at h;cases h
theorem Qk5 (w:Txt):Qn (.str w) QaT=(Xq w).map Qk6:=by
 have key:∀ l:List (Txt × Nat × WL),Qn (.str w) (l.map fun p=>(MK.str p.1,Qk6 p.2))=((l.find? fun p=>p.1==w).map (·.2)).map Qk6:=by
  intro l
  induction l with
  | nil=>rfl
  | cons p r ih =>
    simp only[QKg,Qn,List.find?_cons]
    grind
 exact key ZI
theorem ZQ {h h':Qd} {v:WL} {l:List Int} (hv:Zi v=true) (hc:Zy h v l=some h'):doV h v l=(chT h',chH h h'):=by
 unfold doV chT chH
 grind
theorem Zt {h:Qd} {v:WL} {l:List Int} (hv:Zi v=false):doV h v l=(JD h v l,h):=by
 unfold doV;rw[hv];rfl
theorem ZP {h h':Qd} (ho:okH h) (h1:h'.ze.zc.za.length<=h.ze.zc.za.length+1) (h2:h'.ze.zc.zg.length<=h.ze.zc.zg.length+1) (h3:h'.ze.zb.zd.length<=h.ze.zb.zd.length)
  (h4:h'.ze.zb.zk.length<=h.ze.zb.zk.length+1) (h5:h'.ze.zf.length<=h.ze.zf.length+1) (h6:h'.zq.zi.length<=h.zq.zi.length) (h7:h'.zq.zj.length<=h.zq.zj.length+1):QM h':=by
 have q1:=ho.1.zc.len;have q2:=ho.1.zc.slen;have q3:=ho.1.zb.len;have q4:=ho.1.zb.blen;have q5:=ho.1.many;have q6:=U5 h.ze.zc.za;have q7:=ho.2.rlen;have q8:=ho.2.xlen;exact ⟨⟨by omega,by omega,by omega,by omega,by omega⟩,by omega,by omega⟩
theorem QaU {h:Qd} (ho:okH h) (hl:(h.ze.zc.za.getLast?.map (·.zp))=some 4):h.ze.zf≠[]:=by
 rw[QJ0] at hl;obtain ⟨d,hd,h4⟩:=hl
 obtain ⟨D,hD⟩:∃ D,h.ze.zc.za=D++[d]:=by
  have hne:h.ze.zc.za≠[]:=fun e=>by grind
  refine ⟨h.ze.zc.za.dropLast,?_⟩;have:=List.getLast?_eq_some_getLast hne;rw[hd] at this;injection this with this
  rw[this];exact (QK5 hne).symm
 have hm:=ho.1.many;intro e;rw[e,hD] at hm;unfold pv at hm;rw[X2] at hm;simp[XQ,QX,h4] at hm
theorem QaV (h:Qd):Zy h .undo []=if h.ze.zc.za=[] then none else some (ZM h):=by
 unfold Zy ZM;cases hd:h.ze.zc.za.getLast? with
 | none =>
   simp_all
 | _=>grind
theorem Qrc (h:Qd) (ho:okH h) (v:WL) (l:List Int) (hf:Zi v=false->QcF h) (hl:l.length=arV v) :
  Gh KW (QBr v) (.loc 0 0::[QW l].map .iv) (QF h) [0] (.iv (.str (doV h v l).1)) (QF (doV h v l).2):=by
 have hs:=Qv ho;have l0:∀ l:List Int,l.length=0->l=[]:=fun l h=>QJ3 h
 have l1:∀ l:List Int,l.length=1->∃ a,l=[a]:=fun l h=>by
  match l,h with
  | [a],_=>grind
 have l2:∀ l:List Int,l.length=2->∃ a b,l=[a,b]:=fun l h=>by
  match l,h with
  | [a,b],_=>grind
 cases v with
 | weld =>
   match l,hl with
   | [a,b,c,d],_ =>
     rw[ZQ (h':=Qh h ⟨1,a,b,c,d⟩) rfl rfl];exact QvW hKW h a b c d hs (ZP ho (by simp[Qh]) (by simp[Qh]) (by simp[Qh]) (by simp[Qh]) (by simp[Qh]) (by simp[Qh]) (by simp[Qh]))
 | cut =>
   match l,hl with
   | [a,b],_ =>
     rw[ZQ (h':=Qh h ⟨2,a,b,0,0⟩) rfl rfl];exact QvV hKW h a b hs (ZP ho (by simp[Qh]) (by simp[Qh]) (by simp[Qh]) (by simp[Qh]) (by simp[Qh]) (by simp[Qh]) (by simp[Qh]))
 | turn =>
   rw[l0 l hl,ZQ (h':=Qh h ⟨3,0,0,0,0⟩) rfl rfl];exact QvU hKW h hs (ZP ho (by simp[Qh]) (by simp[Qh]) (by simp[Qh]) (by simp[Qh]) (by simp[Qh]) (by simp[Qh]) (by simp[Qh]))
 | prove =>
   match l,hl with
   | [a,b,c],_ =>
     rw[ZQ (h':=Q5 h ⟨a,b,c⟩) rfl rfl];exact QvT hKW h a b c hs (ZP ho (by simp[Q5]) (by simp[Q5]) (by simp[Q5]) (by simp[Q5]) (by simp[Q5]) (by simp[Q5]) (by simp[Q5]))
 | undo =>
   rw[l0 l hl];have hu:=QaV h;have hs':QM (ZM h):=ZP ho (by simp[ZM];omega) (by simp[ZM]) (by simp[ZM]) (by simp[ZM]) (by simp only[ZM];grind) (by simp[ZM]) (by simp[ZM])
   have hg:=QvS hKW h (QaU ho) hs hs';by_cases hne:h.ze.zc.za=[]
   ·rw[if_pos hne] at hu
    rw[if_pos hne,if_pos hne] at hg
    have e:doV h .undo []=(tNo,h):=by
     unfold doV;rw[hu];rfl
    rw[e];exact hg
   rw[if_neg hne] at hu;rw[if_neg hne,if_neg hne] at hg;rw[ZQ (h':=ZM h) rfl hu];exact hg
 | see =>
   match l,hl with
   | [a,b,c,d,e],_ =>
     rw[ZQ (h':=Zj h ⟨a,b,c,d,e⟩) rfl rfl];exact QvR hKW h a b c d e hs (ZP ho (by simp[Zj]) (by simp[Zj]) (by simp[Zj]) (by simp[Zj]) (by simp[Zj]) (by simp[Zj]) (by simp[Zj]))
 | balance =>
   match l,hl with
   | [a,b,c,d],_ =>
     rw[ZQ (h':=Xw h ⟨a,b,c,d⟩) rfl rfl];exact QvQ hKW h a b c d hs (ZP ho (by simp[Xw]) (by simp[Xw]) (by simp[Xw]) (by simp[Xw]) (by simp[Xw]) (by simp[Xw]) (by simp[Xw]))
 | read =>
   match l,hl with
   | [a,b,c,d,e,f,g],_ =>
     rw[ZQ (h':=ZK h ⟨a,b,c,d,e,f,g⟩) rfl rfl];exact QvP hKW h a b c d e f g hs (ZP ho (by simp[ZK]) (by simp[ZK]) (by simp[ZK]) (by simp[ZK]) (by simp[ZK]) (by simp[ZK]) (by simp[ZK]))
 | who=>obtain ⟨a,rfl⟩:=l1 l hl;rw[Zt rfl];exact QrE h a ho (hf rfl)
 | wher=>obtain ⟨a,rfl⟩:=l1 l hl;rw[Zt rfl];exact QrD h a ho (hf rfl)
 | first=>rw[l0 l hl,Zt rfl];exact QrC h ho (hf rfl)
 | pulls=>obtain ⟨a,b,rfl⟩:=l2 l hl;rw[Zt rfl];exact QrB h a b ho (hf rfl)
 | z8=>obtain ⟨a,rfl⟩:=l1 l hl;rw[Zt rfl];exact QrA h a ho (hf rfl)
 | loads=>obtain ⟨a,rfl⟩:=l1 l hl;rw[Zt rfl];exact Qrz h a ho (hf rfl)
 | xa=>rw[l0 l hl,Zt rfl];exact Qry h ho (hf rfl)
 | y9=>rw[l0 l hl,Zt rfl];exact Qrx h ho (hf rfl)
 | xb=>obtain ⟨a,rfl⟩:=l1 l hl;rw[Zt rfl];exact Qrw h a ho (hf rfl)
 | opn=>rw[l0 l hl,Zt rfl];exact Qrv h ho (hf rfl)
 | good=>rw[l0 l hl,Zt rfl];exact Qru h ho (hf rfl)
 | worth=>rw[l0 l hl,Zt rfl];exact Qrt h ho (hf rfl)
 | zm=>rw[l0 l hl,Zt rfl];exact Qrs h ho (hf rfl)
 | stretch=>rw[l0 l hl,Zt rfl];exact Qrr h ho (hf rfl)
 | best=>rw[l0 l hl,Zt rfl];exact Qrq h ho (hf rfl)
 | holds=>obtain ⟨a,rfl⟩:=l1 l hl;rw[Zt rfl];exact Qrp h a ho (hf rfl)
 | zi=>obtain ⟨a,rfl⟩:=l1 l hl;rw[Zt rfl];exact Qro h a ho (hf rfl)
theorem Qx4:ZL prog 62 c62 [0]:=⟨_,func62,by kernel_rfl⟩
theorem Qo9:∀ v:WL,callee prog (QBr v)=true:=by
 intro v;cases v<;>kernel_rfl
theorem QhV:Zx none QaT:=by
 have key:∀ l:List (Txt × Nat × WL),Zx none (l.map fun p=>(MK.str p.1,Qk6 p.2)):=by
  intro l
  induction l with
  | nil=>trivial
  | cons p r ih=>exact ⟨rfl,ih⟩
 exact key ZI
theorem Qrd (h:Qd) (t:Txt) (hdo:∀ v l,Zw t=some (v,l)->l.length=arV v->Gh KW (QBr v) (.loc 0 0::[QW l].map .iv) (QF h) [0] (.iv (.str (doV h v l).1)) (QF (doV h v l).2)) (ht:t.length<=1000) :
  Gh KW 62 (.loc 0 0::[.map QaT,.str t].map .iv) (QF h) [0] (.iv (.str (Q3 h t).1)) (QF (Q3 h t).2):=by
 refine Qp Qx4 rfl (by simp[c62]) ?_
 generalize hG:UM 6 (Q3 h t).1 (Q3 h t).2=G;have g1:=Qxa t ht;have hsl:=spl_len t;have hwl:=qw t;cases hs:spl t with
 | nil=>exact absurd hs (QcN t [])
 | cons w ws =>
   rw[hs] at g1 hsl hwl;simp at hsl;have hfd:=Qk5 w;simp[c62];refine cK (by simpa using g1) ?_
   simp;refine ⟨QhV,?_⟩;cases hv:Xq w with
   | none =>
     have hL:Q3 h t=(Qff,h):=by
      simp[Q3,Zw,hs,hv]
     rw[hv] at hfd;simp only[Option.map_none] at hfd;rw[hL] at hG;simp[hfd];rw[<- hG];exact QP (by simp[Ev.look,Qff]) (by simp[Ev.look]) (by simp[Qc])
   | some p =>
     obtain ⟨n,v⟩:=p;rw[hv] at hfd;simp only[QLo] at hfd;have har:=Qmt hv;simp[hfd,Qk6];have h7:n<=7:=by rw[har];cases v<;>decide
     intro _;refine ⟨by omega,fun hq=>?_,fun hq=>?_⟩
     ·have hn:¬ ws.length=n:=fun e=>hq (by omega)
      have hL:Q3 h t=(Qff,h):=by
       simp[Q3,Zw,hs,hv,hn]
      rw[hL] at hG;rw[<- hG];exact QP (by simp[Ev.look,Qff]) (by simp[Ev.look]) (by simp[Qc])
     have hn:ws.length=n:=by omega
     refine ⟨by omega,fun _ _=>?_⟩
     refine Qi (fun i=>[(0,AV.loc 0 0),(8,AV.loc 8 0),(10,AV.yq 10 ((XH (ws.take i)).getD []).length),(36,AV.iv (.sl 1 (ws.map fun s=>[IV.str s]))),(37,AV.iv (.int .i64 ws.length)),(38,AV.iv (.int .i64 (i:Nat)))])
      (fun i=>[(0,AO.box ((hoC h).map AV.iv)),(8,AO.box [AV.iv (.int .i64 n),AV.iv (.fn (QBr v))]),(10,AO.arr 3 1 (emb (((XH (ws.take i)).getD []).map fun n=>[.int .i64 n])) 0)]) ws.length (fun i=>(XH (ws.take i)).isSome=true) (by simp[XH]) ?_ ?_
     ·intro xg
      rw[QJ5] at xg;obtain ⟨l,hl⟩:=QKt.1 xg;have hll:=YJ hl
      have hL:Q3 h t=doV h v l:=by
       simp[Q3,Zw,hs,hv,hn,hl]
      rw[hL] at hG;have hd:=hdo v l (by simp[Zw,hs,hv,hn,hl]) (by omega)
      rw[Qa Qpq.eq_1];simp[hl,Qbn];refine ⟨Qo9 v,Qj hd (by simp[nth,rn]) (X9 (by simp[Qc])) ?_⟩
      simp[nth,rn];rw[<- hG];exact QP rfl rfl (by simp[Qc])
     intro i hi hQ ih;obtain ⟨l,hl⟩:=QKt.1 hQ;have hll:=YJ hl;rw[QKV] at hll;have hwi:=hwl ws[i] (by simp)
     obtain ⟨m,hm,hg⟩:=Qw9 ws[i] (by omega)
     have hst:=qN (ws.take i) ws[i];rw[<- QJV hi,hl] at hst;rw[Qa Qpq.eq_1];cases hx:Qd9 ws[i] with
     | none =>
       have hno:XH ws=none:=by
        cases hq:XH ws with
        | none=>rfl
        | some l' =>
          have:=Qbr hq ws[i] (by simp)
          grind
       have hL:Q3 h t=(Qff,h):=by
        simp[Q3,Zw,hs,hv,hn,hno]
       rw[hL] at hG;rw[hx] at hg;simp[hi,hl];refine cK (by simpa using hg) ?_
       simp;rw[<- hG];exact QP (by simp[Ev.look,Qff]) (by simp[Ev.look]) (by simp[Qc])
     | some x =>
       rw[hx] at hg hst hm;have hmx:m=x:=by simpa using hm rfl
       subst hmx;simp only at hst;have ih:=ih (by rw[hst];rfl)
       rw[hst] at ih;simp[hi,hl] at ih |-;refine cK (by simpa using hg) ?_
       simp
       grind
theorem QvZ (h:Qd) (ho:okH h) (t:Txt) (hf:∀ v l,Zw t=some (v,l)->Zi v=false->QcF h) (ht:t.length<=1000) :
  Gh KW 62 (.loc 0 0::[.map QaT,.str t].map .iv) (QF h) [0] (.iv (.str (Q3 h t).1)) (QF (Q3 h t).2) :=
 Qrd h t (fun v l hp hl=>Qrc h ho v l (hf v l hp) hl) ht
theorem QAN (h:Qd) (ho:okH h) (p:Txt × Nat × WL) (hp:p∈ZI) (hv:Zi p.2.2=true) (l:List Int) (hl:l.length=p.2.1) :
  Gd KW 78 [hoV h,.str p.1,QW l] (.xh [hoV ((Zy h p.2.2 l).getD h),.bool (Zy h p.2.2 l).isSome]):=by
 have hs:=Qv ho;simp only[ZI,QJ7,QKc,or_false] at hp;rcases hp with rfl | rfl | rfl | rfl | rfl | rfl | rfl | rfl | rfl | rfl | rfl | rfl | rfl | rfl | rfl | rfl | rfl | rfl | rfl | rfl | rfl | rfl | rfl | rfl | rfl
 ·match l,hl with
  | [a,b,c,d],_=>exact Qh5 hKW h a b c d hs
 ·match l,hl with
  | [a,b],_=>exact QlM hKW h a b hs
 ·match l,hl with
  | [],_=>exact Qh7 hKW h hs
 ·match l,hl with
  | [a,b,c],_=>exact Qgm hKW h a b c hs
 ·match l,hl with
  | [],_ =>
    have hg:=Qh6 hKW h hs (QaU ho);have hc:=QaV h
    grind
 ·match l,hl with
  | [a,b,c,d,e],_=>exact QlL hKW h a b c d e hs
 ·match l,hl with
  | [a,b,c,d],_=>exact Qcx hKW h a b c d hs
 ·match l,hl with
  | [a,b,c,d,e,f,g],_=>exact Qh8 hKW h a b c d e f g hs
 all_goals cases hv
theorem QBb (h:Qd) (hs:QM h):Gd KW 4 [hoV h] (.int .i64 (QnL h)):=by
 refine Qb hKW QBM (by simp) ?_
 have g26:=Qoh hKW h.ze hs.ze;have g27:=Qod hKW h.zq hs.zi hs.zj;unfold QnL okH;by_cases h1:OkP h.ze
 ·rw[if_pos h1] at g26
  simp[h1];refine cK (by simpa using g26) ?_
  simp;refine cK (by simpa using g27) ?_
  by_cases h2:OkU h.zq<;>simp[h2]
 ·rw[if_neg h1] at g26
  simp[h1];refine cK (by simpa using g26) ?_
  simp
theorem Qc3 {t:Txt} (h:(XF t).2.2=false):Zw t=none:=by
 unfold XF at h;unfold Zw;cases hs:spl t with
 | nil=>rfl
 | cons w ws =>
   rw[hs] at h;simp only at h |-;cases hn:XH ws with
   | some l =>
     rw[hn] at h;have hll:=YJ hn
     grind
   | _=>grind
theorem Qc2 {t:Txt} (h:(XF t).2.2=true):∃ p∈ZI,p.1=(XF t).1/\(XF t).2.1.length=p.2.1/\Zw t=some (p.2.2,(XF t).2.1):=by
 unfold XF at h |-;unfold Zw;cases hs:spl t with
 | cons w ws =>
   rw[hs] at h;simp only at h |-;cases hn:XH ws with
   | some l =>
     rw[hn] at h;have hll:=YJ hn;simp only[decide_eq_true_eq] at h;rcases WS w with ⟨p,hp,rfl⟩ | hno
     ·rw[Xp p hp] at h |-
      grind
     rw[JI hno] at h
     grind
   | _=>grind
 | _=>grind
theorem Qfk {h h':Qd} (ho:okH h) {v:WL} {l:List Int} (hc:Zy h v l=some h'):QM h':=by
 unfold Zy at hc;cases v<;>simp only at hc<;>try cases hc
 case undo =>
  split at hc
  ·cases hc
  injection hc with hc
  subst hc;exact ZP ho (by simp;omega) (by simp) (by simp) (by simp) (by grind) (by simp) (by simp)
 all_goals exact ZP ho (by simp[Qh]) (by simp[Qh]) (by simp[Qh]) (by simp[Qh]) (by simp[Qh]) (by simp[Qh]) (by simp[Qh])
theorem QA5 (h:Qd) (ho:okH h) (t:Txt) (ht:t.length<=1000) (hq:∀ p,p∈ZI->Zi p.2.2=false->∀ l,Zw t=some (p.2.2,l)->l.length=p.2.1->Gd KW 77 [hoV h,.str p.1,QW l] (.str (JD h p.2.2 l))):Gd KW 49 [hoV h,.str t] (.xh [.str (Q3 h t).1,hoV (Q3 h t).2]):=by
 refine Qb hKW (fk func49 c49 (by kernel_rfl)) (by simp) ?_
 have g36:=Qua hKW t ht;unfold Q3;cases hp:(XF t).2.2 with
 | false =>
   rw[Qc3 hp];rw[hp] at g36;simp;refine cK (by omega) ?_
   simp[Qff]
 | true =>
   obtain ⟨p,hpm,hw,hl,hv⟩:=Qc2 hp;have hq:=fun hc=>hq p hpm hc _ hv hl
   rw[hv];rw[hp,<- hw] at g36;have g37:=Qt9 hKW p.1;rw[Xp p hpm] at g37;simp only at g37;cases hc:Zi p.2.2 with
   | false =>
     have g119:=hq hc;rw[hc] at g37;simp only;rw[Zt hc];generalize (XF t).2.1=l at *;generalize p.1=w at *;simp;refine cK (by omega) ?_
     simp;refine cK (by omega) ?_
     simp;refine cK (by simpa using g119) ?_
     simp
   | true =>
     have g120:=QAN h ho p hpm hc _ hl;rw[hc] at g37;simp only;unfold doV;rw[hc,if_pos rfl];cases hcv:Zy h p.2.2 (XF t).2.1 with
     | none =>
       rw[hcv] at g120;generalize (XF t).2.1=l at *;generalize p.1=w at *;simp;refine cK (by omega) ?_
       simp;refine cK (by omega) ?_
       simp;refine cK (by simpa using g120) ?_
       simp[tNo]
     | some h' =>
       have g11:=QBb h' (Qfk ho hcv);rw[hcv] at g120;unfold QnL at g11;generalize (XF t).2.1=l at *;generalize p.1=w at *;simp;refine cK (by omega) ?_
       simp;refine cK (by omega) ?_
       simp;refine cK (by simpa using g120) ?_
       simp;refine cK (by simpa using g11) ?_
       by_cases hk:okH h'<;>simp[hk,tNo,QeZ]
def h0:Qd:=⟨⟨⟨[],[],0⟩,⟨[],0,0,0,[],0⟩,[],0,0⟩,⟨0,0,0,[],[],0⟩⟩
noncomputable def QAk (h:Qd) (s:List Txt):List Txt:=if okH h then (if 40<s.length then [] else Vf h s s.length) else []
noncomputable def Qlk (h:Qd) (s:List Txt):Qd:=if okH h then (if 40<s.length then h0 else Qq h s s.length) else h0
theorem Qwk (h:Qd) (s:List Txt) (hs:QM h) (hl:s.length<=100) (hq:okH h->s.length<=40->∀ i (hi:i<s.length),Gh KW 62 (.loc 0 0::[.map QaT,.str s[i]].map .iv) (QF (Qq h s i)) [0] (.iv (.str (Q3 (Qq h s i) s[i]).1)) (QF (Q3 (Qq h s i) s[i]).2)) :
  Gd KW 31 [hoV h,strs s] (.xh [strs (QAk h s),hoV (Qlk h s),.int .i64 (QAj h s)]):=by
 refine Qb hKW (fk func31 c31 (by kernel_rfl)) (by simp) ?_
 have g9:=Qt6 hKW h hs;unfold QnL at g9;generalize hG:QgU c31.res (.xh [strs (QAk h s),hoV (Qlk h s),.int .i64 (QAj h s)])=G;unfold QAk Qlk QAj at hG;by_cases ho:okH h;rotate_left
 ·rw[if_neg ho] at g9 hG hG hG
  simp[c31];refine cK (by simpa using g9) ?_
  simp;rw[<- hG];simp[c31,h0]
 rw[if_pos ho] at g9 hG hG hG;simp[c31];refine cK (by simpa using g9) ?_
 by_cases h40:40<s.length
 ·have h40':(40:Int)<s.length:=by omega
  rw[if_pos h40] at hG hG hG;simp[h40'];rw[<- hG];intro _;simp[c31,h0]
 have h40':¬ (40:Int)<s.length:=by omega
 rw[if_neg h40] at hG hG hG;have g28:Gd KW 60 [hoV h] (.agg (hoC h)):=Wt (xs:=[hoV h]) hKW (QnS hKW h hs) (by simp[Qc])
 have g29:=QAX hKW;simp[h40'];intro _;refine cK (by simpa using g28) ?_
 simp;refine cK (by omega) ?_
 simp;intro _;have hq:=hq ho (by omega)
 refine XZ (fun i=>[(4,AV.yq 4 (Vf h s i).length),(5,AV.loc 5 0),(8,AV.loc 25 0),(9,AV.iv (IV.map QaT)),(27,AV.iv (strs s)),(28,AV.iv (.int .i64 s.length)),(29,AV.iv (.int .i64 (i:Nat)))])
  (fun i=>[(4,AO.arr 9 1 (emb ((Vf h s i).map fun t=>[.str t])) 0),(5,AO.box ((hoC h0).map AV.iv)),(25,AO.box ((hoC (Qq h s i)).map AV.iv))]) s.length ?_ ?_
 ·rw[Qa QpK.eq_1]
  simp;rw[<- hG];simp[c31]
 intro i hi ih;have hd:=hq i hi;rw[<- Zr h s i hi] at hd;have hst:=Qme h s i hi;rw[hst] at ih;rw[Qa QpK.eq_1];simp[hi] at ih |-;refine Qj hd (by simp[nth,rn]) (X9 (by simp[Qc])) ?_
 simp[nth,rn];have hal:(Vf h s i).length=i:=by simp[Vf]
 grind
theorem QBf (h:Qd) (s:List Txt) (hs:QM h) (hl:s.length<=100) (hw:okH h->s.length<=40->∀ t∈s,t.length<=1000) (hf:okH h->s.length<=40->∀ i (hi:i<s.length) v l,Zw s[i]=some (v,l)->Zi v=false->QcF (Qq h s i)) :
  Gd KW 31 [hoV h,strs s] (.xh [strs (QAk h s),hoV (Qlk h s),.int .i64 (QAj h s)]) :=
 Qwk h s hs hl fun ho h4 i hi=>QvZ _ (UV ho i) _ (hf ho h4 i hi) (hw ho h4 _ (QJ1 hi))
theorem Qr0 (L:List (List IV)) (x:List IV):emb (L++[x])=emb L++[x.map AV.iv]:=by simp[emb]
theorem QBl (h:Qd) (ho:okH h) (s:List Txt) (hl:s.length<=100) (hw:∀ t∈s,t.length<=1000) :
  Gd KW 19 [hoV h,strs s] (.sl 18 ((List.range (s.length+1)).map fun i=>hoC (Qq h s i))):=by
 refine Qb hKW (fk func19 c19 (by kernel_rfl)) (by simp) ?_
 have g10:=Quc hKW h (Qv ho);simp;refine cK (by simpa using g10) ?_
 simp
 refine XZ (fun i=>[(1,AV.iv (strs s)),(5,AV.yq 13 (i+1)),(6,AV.iv (.int .i64 (i:Nat)))])
  (fun i=>[(13,AO.arr 40 18 (emb ((List.range (i+1)).map fun j=>hoC (Qq h s j))) 0)]) s.length ?_ ?_
 ·rw[Qa QpP.eq_1]
  simp;intro _;exact QJZ (by simp)
 intro i hi ih;have hst:=Zr h s i hi
 have e1:(List.range (i+1+1)).map (fun j=>hoC (Qq h s j))=(List.range (i+1)).map (fun j=>hoC (Qq h s j))++[hoC (Qq h s (i+1))]:=by
  rw[QKn,QKf];rfl
 have hlen:((List.range (i+1)).map fun j=>hoC (Qq h s j)).length=i+1:=by simp
 have hget:((List.range (i+1)).map fun j=>hoC (Qq h s j))[i]?=some (hoC (Qq h s i)):=by simp
 have g36:=Qua hKW s[i] (hw _ (QJ1 hi));rw[e1,Qr0] at ih;generalize (List.range (i+1)).map (fun j=>hoC (Qq h s j))=T at *
 have hgi:∀ hq:i<T.length,T[i]'hq=hoC (Qq h s i):=fun hq=>by
  grind
 rw[Qa QpP.eq_1];cases hp:(XF s[i]).2.2 with
 | false =>
   have hsame:Qq h s (i+1)=Qq h s i:=by
    rw[hst];unfold Q3;rw[Qc3 hp]
   rw[hsame] at ih;rw[hp] at g36;simp[hi,hlen,hgi] at ih |-;intros;refine ⟨by omega,cK (by omega) ?_⟩
   simp[hlen]
   grind
 | true =>
   obtain ⟨p,hpm,hw',hl',hv⟩:=Qc2 hp;rw[hp,<- hw'] at g36;have g37:=Qt9 hKW p.1;rw[Xp p hpm] at g37;simp only at g37;cases hc:Zi p.2.2 with
   | false =>
     have hsame:Qq h s (i+1)=Qq h s i:=by
      rw[hst];unfold Q3;rw[hv];simp only;rw[Zt hc]
     rw[hsame] at ih;rw[hc] at g37;generalize (XF s[i]).2.1=l at *;generalize p.1=w at *;simp[hi,hlen,hgi] at ih |-;intros;refine ⟨by omega,cK (by omega) ?_⟩
     simp;refine cK (by omega) ?_
     simp[hlen]
     grind
   | true =>
     have g31:=QA5 (Qq h s i) (UV ho i) s[i] (hw _ (QJ1 hi)) (fun q _ h2 l h1 _=>by
      rw[hv] at h1;injection h1 with h1
      injection h1 with h1
      rw[<- h1,hc] at h2;cases h2)
     rw[<- hst] at g31;rw[hc] at g37;generalize (XF s[i]).2.1=l at *;generalize p.1=w at *;simp[hi,hlen,hgi] at ih |-;intros;refine ⟨by omega,cK (by omega) ?_⟩
     simp;refine cK (by omega) ?_
     simp[hi];refine cK (by simpa using g31) ?_
     simp[hlen]
     grind
theorem Qvd {a b:Rod} (h1:a.long=b.long) (h2:a.yb=b.yb) (h3:a.grow=b.grow):a=b:=by cases a;cases b;simp_all
theorem QqQ {a b:Qy} (h1:a.yk=b.yk) (h2:a.rod=b.rod) (h3:a.count=b.count) (h4:a.rest=b.rest) (h5:a.off=b.off) (h6:a.yl=b.yl) (h7:a.ym=b.ym):a=b:=by cases a;cases b;simp_all
noncomputable instance:DecidableEq Qd:=fun _ _=>Classical.propDecidable _
include hK
theorem QBd (a b:Zh):Gd K 34 [puV a,puV b] (.bool (decide (a=b))):=by
 refine Qb hK (fk func34 c34 (by kernel_rfl)) (by simp) ?_
 by_cases h1:a.yj=b.yj;rotate_left
 ·have:a≠b:=fun e=>h1 (by rw[e])
  simp[h1,this]
 ·by_cases h2:a.yc=b.yc/\a.yg=b.yg
  ·by_cases h3:a.zh=b.zh
   ·by_cases h4:a.zi.length=b.zi.length
    ·by_cases h5:a.zj.length=b.zj.length
     ·simp[h1,h2.1,h2.2,h3,h4,h5]
      intros;refine Qi (fun i=>[(2,AV.iv (.ptr [.int .i64 b.yj,.int .i64 b.yc,.int .i64 b.yg,W0 a.zi,Y1 a.zj,.int .i64 b.zh])),(3,AV.iv (.ptr [.int .i64 b.yj,.int .i64 b.yc,.int .i64 b.yg,W0 b.zi,Y1 b.zj,.int .i64 b.zh])),(5,AV.iv (IV.int IntKind.i64 (i:Nat)))]) (fun _=>[]) a.zi.length (fun i=>a.zi.take i=b.zi.take i) (by simp) ?_ ?_
      ·intro h
       rw[h4,QJ5,<- h4,QJ5] at h;rw[Qa QpG.eq_1];simp;intros;refine Qi (fun i=>[(2,AV.iv (.ptr [.int .i64 b.yj,.int .i64 b.yc,.int .i64 b.yg,W0 a.zi,Y1 a.zj,.int .i64 b.zh])),(3,AV.iv (.ptr [.int .i64 b.yj,.int .i64 b.yc,.int .i64 b.yg,W0 b.zi,Y1 b.zj,.int .i64 b.zh])),(6,AV.iv (IV.int IntKind.i64 (i:Nat)))]) (fun _=>[]) a.zj.length (fun i=>a.zj.take i=b.zj.take i) (by simp) ?_ ?_
       ·intro h'
        rw[h5,QJ5,<- h5,QJ5] at h';rw[Qa QpF.eq_1];have:a=b:=by cases a;cases b;simp_all
        subst this;simp
       intro i hi h ih;have hi':i<b.zj.length:=by omega
       rw[Qa QpF.eq_1];by_cases e:a.zj[i]=b.zj[i]
       ·simp[hi,hi',e] at ih |-
        intros;refine ⟨by omega,ih ?_⟩
        rw[QJV hi,QJV hi',h,e]
       have hne:a≠b:=fun c=>by grind
       have e':=fun k1 k2 k3 k4 k5 k6 k7=>e (QqQ k1 k2 k3 k4 k5 k6 k7)
       simp[hi,hi',hne]
       grind
      intro i hi h ih;have hi':i<b.zi.length:=by omega
      rw[Qa QpG.eq_1];by_cases e:a.zi[i]=b.zi[i]
      ·simp[hi,hi',e] at ih |-
       intros;refine ⟨by omega,ih ?_⟩
       rw[QJV hi,QJV hi',h,e]
      have hne:a≠b:=fun c=>by grind
      have e':=fun k1 k2 k3=>e (Qvd k1 k2 k3)
      simp[hi,hi',hne]
      grind
     have h':¬ (a.zj.length:Int)=b.zj.length:=by omega
     have:a≠b:=fun e=>h5 (by rw[e])
     simp[h1,h2.1,h2.2,h3,h4,h',this]
    have h':¬ (a.zi.length:Int)=b.zi.length:=by omega
    have:a≠b:=fun e=>h4 (by rw[e])
    simp[h1,h2.1,h2.2,h3,h',this]
   have:a≠b:=fun e=>h3 (by rw[e])
   simp[h1,h2.1,h2.2,h3,this]
  ·have:a≠b:=fun e=>h2 (by grind)
   by_cases k1:a.yc=b.yc
   ·have k2:¬ a.yg=b.yg:=fun c=>h2 ⟨k1,c⟩
    simp[h1,k1,k2,this]
   ·simp[h1,k1,this]
theorem QBm (a b:Qd):Gd K 15 [hoV a,hoV b] (.bool (decide (a=b))):=by
 refine Qb hK (fk func15 c15 (by kernel_rfl)) (by simp) ?_
 have g32:=QBe hK a.ze b.ze;have g33:=QBd hK a.zq b.zq;have he:a=b↔a.ze=b.ze/\a.zq=b.zq:=by cases a;cases b;simp
 simp;refine cK (by simpa using g32) ?_
 by_cases h1:a.ze=b.ze
 ·simp[h1]
  refine cK (by simpa using g33) ?_
  simp[he,h1]
 ·simp[he,h1]
theorem Quf (a b:List Txt) (ha:a.length<=1000000) (hb:b.length<=1000000):Gd K 22 [strs a,strs b] (.bool (decide (a=b))):=by
 refine Qb hK c22_ok (by simp) ?_
 by_cases h4:a.length=b.length;rotate_left
 ·have h':¬ (a.length:Int)=b.length:=by omega
  have:a≠b:=fun e=>h4 (by rw[e])
  simp[h',this]
 simp[h4];intros;refine Qi (fun i=>[(0,AV.iv (strs a)),(1,AV.iv (strs b)),(5,AV.iv (IV.int IntKind.i64 (i:Nat)))]) (fun _=>[]) a.length (fun i=>a.take i=b.take i) (by simp) ?_ ?_
 ·intro h
  rw[h4,QJ5,<- h4,QJ5] at h;subst h;rw[Qa c22_b0.eq_1];simp
 intro i hi h ih;have hi':i<b.length:=by omega
 rw[Qa c22_b0.eq_1];by_cases e:a[i]=b[i]
 ·simp[hi,hi',e] at ih |-
  intros;refine ⟨by omega,ih ?_⟩
  rw[QJV hi,QJV hi',h,e]
 have hne:a≠b:=fun c=>by grind
 simp[hi,hi',hne,e]
omit hK
def Jb:List Rod->Int
 | []=>1
 | r::l=>(r.yb+1)*Jb l
theorem QcL:∀ (l:List Rod) (r:Rod),Jb (l++[r])=Jb l*(r.yb+1)
 | [],r=>by simp[Jb]
 | a::l,r=>by
   simp only[QJ8,Jb,QcL l r]
   grind
def QrP (p:Zh):Prop:=40<p.zi.length\/40<p.zj.length\/(OkU p/\((∃ x∈p.zj,3<x.ym-x.yl)\/12<Jb p.zi\/8<p.yg-p.yc\/4<p.zj.length))
noncomputable instance (p:Zh):Decidable (QrP p):=Classical.propDecidable _
theorem QqA (l:List Rod) (h:∀ r∈l,Ve r) (i:Nat):1<=Jb (l.take i)/\Jb (l.take i)<=10 ^ (min i l.length):=by
 induction l generalizing i with
 | nil=>simp[Jb]
 | cons r l ih =>
   cases i with
   | zero=>simp[Jb]
   | succ i =>
     obtain ⟨h1,h2⟩:=ih (fun x hx=>h x (by simp[hx])) i
     have hr:=(h r (by simp)).2.1
     simp only[inR] at hr;simp only[List.take_succ_cons,Jb,QKk,Nat.succ_min_succ];rw[Nat.succ_eq_add_one,Int.pow_succ];have h3:(r.yb+1)*Jb (l.take i)<=10*Jb (l.take i):=QKo (by omega) (by omega)
     have h4:1*Jb (l.take i)<=(r.yb+1)*Jb (l.take i):=QKo (by omega) (by omega)
     omega
theorem QA6 (p:Zh):Gd KW 46 [puV p] (.bool (decide (QrP p))):=by
 refine Qb hKW (fk func46 c46 (by kernel_rfl)) (by simp) ?_
 by_cases h1:p.zi.length<=40;rotate_left
 ·have h1':(40:Int)<p.zi.length:=by omega
  have hf:QrP p:=.inl (by omega)
  simp[h1',hf]
  try omega
 ·by_cases h2:p.zj.length<=40
  ·have h1':¬ (40:Int)<p.zi.length:=by omega
   have h2':¬ (40:Int)<p.zj.length:=by omega
   have g27:=Qod hKW p (by omega) (by omega)
   simp[h1',h2'];intros;refine cK (by simpa using g27) ?_
   by_cases h3:OkU p;rotate_left
   ·have h3':¬ QrP p:=by
     rintro (h | h | ⟨h,_⟩)
     all_goals grind
    simp[h3,h3']
   simp[h3];have hr4:=h3.rlen;have hgu:=h3.guess;have hmo:=h3.most;simp only[inR] at hgu;refine XZ (fun i=>[(1,AV.iv (.ptr [.int .i64 p.yj,.int .i64 p.yc,.int .i64 p.yg,W0 p.zi,Y1 p.zj,.int .i64 p.zh])),(3,AV.iv (.int .i64 (Jb (p.zi.take i)))),(4,AV.iv (.int .i64 (i:Nat)))]) (fun _=>[]) p.zi.length ?_ ?_
   ·rw[QJ5]
    rw[Qa Qpt.eq_1];simp;intros;refine Qi (fun i=>[(1,AV.iv (.ptr [.int .i64 p.yj,.int .i64 p.yc,.int .i64 p.yg,W0 p.zi,Y1 p.zj,.int .i64 p.zh])),(3,AV.iv (.int .i64 (Jb p.zi))),(5,AV.iv (.int .i64 (i:Nat)))]) (fun _=>[]) p.zj.length (fun i=>∀ x∈p.zj.take i,¬ 3<x.ym-x.yl) (by simp) ?_ ?_
    ·intro hQ
     rw[QJ5] at hQ
     have he:QrP p↔12<Jb p.zi\/8<p.yg-p.yc\/4<p.zj.length:=by
      constructor
      ·rintro (h | h | ⟨_,⟨x,hx,h⟩ | h⟩)
       all_goals grind
      exact fun h=>.inr (.inr ⟨h3,.inr h⟩)
     rw[Qa Qps.eq_1];by_cases w1:12<Jb p.zi
     ·simp[he,w1]
      try omega
     by_cases w2:8<p.yg-p.yc
     ·simp[he,w1,w2]
      try omega
     simp[he,w1,w2]
     try omega
    intro i hi hQ ih;have hrd:=h3.zj _ (QJ1 hi);obtain ⟨_,_,_,_,_,hw1,hw2⟩:=hrd;simp only[inR] at hw1;rw[Qa Qps.eq_1];by_cases e:3<p.zj[i].ym-p.zj[i].yl
    ·have hf:QrP p:=.inr (.inr ⟨h3,.inl ⟨_,QJ1 hi,e⟩⟩)
     simp[hi,e,hf]
     try omega
    have ih:=ih fun x hx=>by
     rw[QJV hi] at hx
     grind
    simp[hi,e] at ih |-
    grind
   intro i hi ih;have hrd:=h3.zi _ (QJ1 hi);have hw:=hrd.2.1;simp only[inR] at hw;have hq:=QqA p.zi h3.zi i;have hq2:(10:Int) ^ (min i p.zi.length)<=10 ^ 4:=by exact_mod_cast QLi (n:=10) (by omega) (by omega:min i p.zi.length<=4)
   have hb:Jb (p.zi.take i)*(p.zi[i].yb+1)<=10000*10:=QK7 (by omega) (by omega) (by omega) (by omega)
   have hb':0<=Jb (p.zi.take i)*(p.zi[i].yb+1):=QKY (by omega) (by omega)
   rw[QJV hi,QcL] at ih;rw[Qa Qpt.eq_1];simp[hi] at ih |-
   grind
  ·have h2':(40:Int)<p.zj.length:=by omega
   have hf:QrP p:=.inr (.inl (by omega))
   simp[h2',hf]
   try omega
def Qqm (h:Qd):Prop:=Qop h.ze\/QrP h.zq
noncomputable instance (h:Qd):Decidable (Qqm h):=Classical.propDecidable _
theorem Qug (h:Qd):Gd KW 18 [hoV h] (.bool (decide (Qqm h))):=by
 refine Qb hKW (fk func18 c18 (by kernel_rfl)) (by simp) ?_
 have g34:=QA7 hKW h.ze;have g35:=QA6 h.zq;unfold Qqm;simp;refine cK (by simpa using g34) ?_
 by_cases h1:Qop h.ze
 ·simp[h1]
 simp[h1];refine cK (by simpa using g35) ?_
 simp
def Qqr (h:Qd) (s:List Txt):Prop:=Qqm h\/45<s.length\/(∃ t∈s,90<t.length)\/(okH h/\∃ i,i<=s.length/\Qqm (Qq h s i))
noncomputable instance (h:Qd) (s:List Txt):Decidable (Qqr h s):=Classical.propDecidable _
theorem Qfj {h:Qd} (hf:¬ Qqm h):QM h:=by
 simp only[Qqm,Qop,Qxv,Qql,QrP,not_or] at hf;obtain ⟨⟨⟨h1,h2,_⟩,⟨h3,h4,_⟩,h5,_⟩,h6,h7,_⟩:=hf;exact ⟨⟨by omega,by omega,by omega,by omega,by omega⟩,by omega,by omega⟩
theorem QDE (h:Qd) (s:List Txt):Gd KW 5 [hoV h,strs s] (.bool (decide (Qqr h s))):=by
 refine Qb hKW (fk func5 c5 (by kernel_rfl)) (by simp) ?_
 have g19:=Qug h;simp;refine cK (by simpa using g19) ?_
 by_cases h1:Qqm h
 ·have hf:Qqr h s:=.inl h1
  simp[h1,hf]
 by_cases h2:45<s.length
 ·have hf:Qqr h s:=.inr (.inl h2)
  have h2':(45:Int)<s.length:=by omega
  simp[h1,hf,h2']
  try omega
 have h2':¬ (45:Int)<s.length:=by omega
 have g11:=QBb h (Qfj h1);unfold QnL at g11;simp[h1,h2'];intros;refine Qi (fun i=>[(1,AV.iv (strs s)),(2,AV.iv (.ptr (hoC h))),(5,AV.iv (.int .i64 (i:Nat)))]) (fun _=>[]) s.length (fun i=>∀ t∈s.take i,¬ 90<t.length) (by simp) ?_ ?_
 ·intro hQ
  rw[QJ5] at hQ;rw[Qa Qx6.eq_1];simp;intros;refine cK (by simpa using g11) ?_
  by_cases ho:okH h;rotate_left
  ·have hf:¬ Qqr h s:=by
    rintro (h | h | ⟨t,ht,h⟩ | ⟨h,_⟩)
    all_goals grind
   simp[ho,hf]
  have g20:=QBl h ho s (by omega) (fun t ht=>by grind)
  have hT1:((List.range (s.length+1)).map fun i=>hoC (Qq h s i)).length=s.length+1:=by simp
  have hT2:∀ i (hi:i<((List.range (s.length+1)).map fun i=>hoC (Qq h s i)).length),((List.range (s.length+1)).map fun i=>hoC (Qq h s i))[i]=hoC (Qq h s i):=fun i hi=>by simp
  generalize ((List.range (s.length+1)).map fun i=>hoC (Qq h s i))=T at *
  simp[ho];refine cK (by simpa using g20) ?_
  simp;refine Qi (fun i=>[(6,AV.iv (.sl 18 T)),(7,AV.iv (.int .i64 (i:Nat)))]) (fun _=>[]) T.length (fun i=>∀ j,j<i->¬ Qqm (Qq h s j)) (by omega) ?_ ?_
  ·intro hN
   have hf:¬ Qqr h s:=by
    rintro (h | h | ⟨t,ht,h⟩ | ⟨_,j,hj,h⟩)
    all_goals grind
   rw[Qa Qx5.eq_1];simp[hf]
  intro i hi hN ih;have hTi:=hT2 i hi;have g19:=Qug (Qq h s i);rw[Qa Qx5.eq_1];by_cases e:Qqm (Qq h s i)
  ·have hf:Qqr h s:=.inr (.inr (.inr ⟨ho,i,by omega,e⟩))
   simp[hi,hTi,hf];intros;refine cK (by simpa using g19) ?_
   simp[e]
  have ih:=ih fun j hj=>by
   grind
  simp[hi,hTi] at ih |-;intros;refine cK (by simpa using g19) ?_
  simp[e]
  grind
 intro i hi hQ ih;rw[Qa Qx6.eq_1];by_cases e:90<s[i].length
 ·have hf:Qqr h s:=.inr (.inr (.inl ⟨_,QJ1 hi,e⟩))
  have e':(90:Int)<s[i].length:=by omega
  simp[hi,e',hf]
  try omega
 have e':¬ (90:Int)<s[i].length:=by omega
 have ih:=ih fun x hx=>by
  rw[QJV hi] at hx
  grind
 simp[hi,e'] at ih |-
 grind
def exU:Zh:=⟨12,9900,10200,[⟨1000,1,12⟩,⟨500,0,20⟩],[⟨1,0,10,0,2,0,0⟩,⟨2,0,10,30,2,0,0⟩],0⟩
def exH:Qd:=⟨exP,exU⟩
def QlT:Qr:=⟨exC.za,[⟨7,0,0,5,1⟩],0⟩
def Qqn:Qf:={ exP with zc:=QlT }
def qn:Qd:=⟨Qqn,exU⟩
def exS:List Txt:=[[119,104,111,32,48],[115,101,101,32,55,32,48,32,48,32,53,32,49],[119,104,111,32,48],[119,101,108,100,32,48,32,48,32,53],[112,114,111,118,101,32,52,48,32,48,32,51],[115,116,114,101,116,99,104],[99,111,110,100,101,109,110,101,100]]
def exA:List Txt:=[[48,32,49],[121,101,115],[48],[119,104,97,116],[110,111],[50,54,32,51,52],[112,101,114,104,97,112,115]]
include hK
omit hK
theorem Qot:OkU exU:=by decide
theorem Qiv:OkC QlT:=by
 refine ⟨by decide,by decide,by decide,Qov.za,fun s hs=>?_⟩
 simp[QlT] at hs;subst hs;decide
theorem Qiu:OkP Qqn:=⟨Qiv,Quk,QkG.zo,QkG.ya,QkG.many,QkG.zf⟩
theorem Qou:okH qn:=⟨Qiu,Qot⟩
theorem Qdq:span ((UN exU).map qi)=(26,34):=by
 rw[<- Qa2];decide +kernel
theorem QD8:uE exU true=0:=by
 unfold uE;rw[if_pos Qot,if_pos rfl,if_neg];intro h;have:=Qdq;simp_all
theorem p1:Zw [119,104,111,32,48]=some (.who,[0]):=by decide +kernel
theorem p2:Zw [115,101,101,32,55,32,48,32,48,32,53,32,49]=some (.see,[7,0,0,5,1]):=by decide +kernel
theorem p4:Zw [119,101,108,100,32,48,32,48,32,53]=none:=by decide +kernel
theorem p5:Zw [112,114,111,118,101,32,52,48,32,48,32,51]=some (.prove,[40,0,3]):=by decide +kernel
theorem p6:Zw [115,116,114,101,116,99,104]=some (.stretch,[]):=by decide +kernel
theorem p7:Zw [99,111,110,100,101,109,110,101,100]=some (.y9,[]):=by decide +kernel
theorem Quj:Qqx exC 0=[0,1]/\YW exC (plB exC 0)=0:=by
 have e:(QS exC).map (Qqj exC 0)=[1,0]:=by decide
 have hb:plB exC 0=true:=by decide
 have ha:YW exC (plB exC 0)=0:=by
  unfold YW;rw[if_pos Qov,if_pos hb];decide
 refine ⟨?_,ha⟩;unfold Qqx;rw[if_pos ha,e]
 exact QpZ (VS _) (by decide) fun x=>by
  rw[Vl]
  grind
theorem Qos:Qqx QlT 0=[0]/\YW QlT (plB QlT 0)=0:=by
 have e:(QS QlT).map (Qqj QlT 0)=[0]:=by decide
 have hb:plB QlT 0=true:=by decide
 have ha:YW QlT (plB QlT 0)=0:=by
  unfold YW;rw[if_pos Qiv,if_pos hb];decide
 refine ⟨?_,ha⟩;unfold Qqx;rw[if_pos ha,e];exact QpZ (VS _) (by decide) fun x=>by rw[Vl]
def QFb:List Q1:=[⟨[0,0,0,0,1,1,0],⟨[10,5],1⟩⟩,⟨[0,0,0,0,1,1,0],⟨[11,5],1⟩⟩]
theorem Qow:QK Qqn=QFb:=by
 unfold QK;rw[show Qqn.zc=QlT from rfl,show Qqn.zb=exM from rfl,QzI Qiv,Qu8]
 decide
theorem Qul:kL Qqn true=QFb/\kE Qqn true=0:=by
 unfold kL kE;rw[if_pos ⟨Qiu,rfl⟩,if_pos Qiu,if_pos rfl,Qow];exact ⟨rfl,by decide⟩
theorem QrU:QbJ (rCond Qqn) (kE Qqn true)=[112,101,114,104,97,112,115]:=by
 unfold rCond;rw[Qul.1,Qul.2];decide
theorem Qum (h:okH (Q5 qn ⟨40,0,3⟩)):False:=by
 have h1:=h.1.zf 2 (by decide) (by decide)
 revert h1
 decide
theorem s0:Qq exH exS 0=exH:=rfl
theorem lv1:Q3 exH [119,104,111,32,48]=([48,32,49],exH):=by
 unfold Q3;rw[p1];simp only;rw[Zt rfl];unfold JD;rw[show exH.ze.zc=exC from rfl,show nI [0] 0=0 from rfl,Quj.1,Quj.2]
 show (Yn [0,1] 0,exH)=_
 rw[show Yn [0,1] 0=[48,32,49] by decide +kernel]
theorem lv2:Q3 exH [115,101,101,32,55,32,48,32,48,32,53,32,49]=([121,101,115],qn):=by
 unfold Q3;rw[p2];simp only;rw[ZQ (h':=qn) rfl rfl];unfold chT chH;rw[if_pos Qou,if_pos Qou];rfl
theorem lv3:Q3 qn [119,104,111,32,48]=([48],qn):=by
 unfold Q3;rw[p1];simp only;rw[Zt rfl];unfold JD;rw[show qn.ze.zc=QlT from rfl,show nI [0] 0=0 from rfl,Qos.1,Qos.2]
 show (Yn [0] 0,qn)=_
 rw[show Yn [0] 0=[48] by decide +kernel]
theorem lv4:Q3 qn [119,101,108,100,32,48,32,48,32,53]=([119,104,97,116],qn):=by
 unfold Q3;rw[p4];rfl
theorem lv5:Q3 qn [112,114,111,118,101,32,52,48,32,48,32,51]=([110,111],qn):=by
 unfold Q3;rw[p5];simp only;rw[ZQ (h':=Q5 qn ⟨40,0,3⟩) rfl rfl];unfold chT chH;rw[if_neg Qum,if_neg Qum];rfl
theorem lv6:Q3 qn [115,116,114,101,116,99,104]=([50,54,32,51,52],qn):=by
 unfold Q3;rw[p6];simp only;rw[Zt rfl];unfold JD;have hu:uL exU true=UN exU:=by simp[uL,Qot]
 rw[show qn.zq=exU from rfl,QD8,hu,Qdq]
 show (Yn [26,34] 0,qn)=_
 rw[show Yn [26,34] 0=[50,54,32,51,52] by decide +kernel]
theorem lv7:Q3 qn [99,111,110,100,101,109,110,101,100]=([112,101,114,104,97,112,115],qn):=by
 unfold Q3;rw[p7];simp only;rw[Zt rfl];unfold JD;rw[show qn.ze=Qqn from rfl,QrU]
theorem st (i:Nat) (h:i<=7):Qq exH exS i=if i<=1 then exH else qn:=by
 have e1:Qq exH exS 1=exH:=by rw[Zr exH exS 0 (by decide)];exact congrArg Prod.snd lv1
 have e2:Qq exH exS 2=qn:=by rw[Zr exH exS 1 (by decide),e1];exact congrArg Prod.snd lv2
 have e3:Qq exH exS 3=qn:=by rw[Zr exH exS 2 (by decide),e2];exact congrArg Prod.snd lv3
 have e4:Qq exH exS 4=qn:=by rw[Zr exH exS 3 (by decide),e3];exact congrArg Prod.snd lv4
 have e5:Qq exH exS 5=qn:=by rw[Zr exH exS 4 (by decide),e4];exact congrArg Prod.snd lv5
 have e6:Qq exH exS 6=qn:=by rw[Zr exH exS 5 (by decide),e5];exact congrArg Prod.snd lv6
 have e7:Qq exH exS 7=qn:=by rw[Zr exH exS 6 (by decide),e6];exact congrArg Prod.snd lv7
 have:i=0\/i=1\/i=2\/i=3\/i=4\/i=5\/i=6\/i=7:=by omega
 rcases this with rfl | rfl | rfl | rfl | rfl | rfl | rfl | rfl
 ·rfl
 all_goals grind
end Go.Pf
namespace Go.Ev
open Go Go.RowKit
section
variable {P:Program} {K:World->Prop}
end
end Go.Ev
namespace Go.Pf
open Go Go.Ev Go.Proofs Go.RowKit Go.Proofs.Tryz
variable {K:World->Prop} (hK:∀ w w',K w->Below w.heap.size w w'->K w')
set_option maxRecDepth 8000
set_option maxHeartbeats 1000000
def QAp (h:Qd) (s:List Txt):Prop:=¬ Qqr h s/\okH h/\s.length<=40
noncomputable instance (h:Qd) (s:List Txt):Decidable (QAp h s):=Classical.propDecidable _
def Qh1:WL->Bool
 | .weld | .cut | .turn | .prove=>true
 | _=>false
theorem Qfb {h h1:Qd} {v:WL} {l m:List Int} (hv:Qh1 v=true) (hc:Zy h v l=some h1):Zy h1 .undo m=some h:=by
 cases v<;>simp only[Qh1,QKq] at hv<;>simp only[Zy,Option.some.injEq] at hc<;>subst hc<;>simp[Zy,Qh]
def QzM:Txt:=[117,110,100,111]
theorem Qlx:Zw QzM=some (.undo,[]):=by decide +kernel
theorem QtB:¬ tNo=QeZ:=by decide
theorem QC9 {h:Qd} {t:Txt} {v:WL} {l:List Int} (ho:okH h) (hp:Zw t=some (v,l)) (hv:Qh1 v=true) (hy:(Q3 h t).1=QeZ):Q3 (Q3 h t).2 QzM=(QeZ,h):=by
 have hc:Zi v=true:=by cases v<;>first | rfl | cases hv
 simp only[Q3,hp,doV,hc,if_true,Qlx] at hy |-;split at hy
 ·rename_i h1 h2
  split at hy
  ·rename_i h3
   simp[h2,h3,Qfb hv h2,ho,Zi]
  exact absurd hy QtB
 exact absurd hy QtB
noncomputable def Qzq (h:Qd) (t:Txt):Bool:=match Zw t with
 | none=>false
 | some (v,_)=>Zi v&&decide ((Q3 h t).1=QeZ)
theorem QxJ {h:Qd} {t:Txt} (hd:Qzq h t=false):(Q3 h t).2=h:=by
 unfold Qzq at hd;unfold Q3 at *;cases hp:Zw t with
 | none=>rfl
 | some p =>
   obtain ⟨v,l⟩:=p;rw[hp] at hd;simp only[doV] at *
   grind
theorem QxI {h:Qd} {t:Txt} (hd:Qzq h t=true):(Q3 h t).1=QeZ:=by
 unfold Qzq at hd
 grind
noncomputable def Qab (h:Qd) (s:List Txt):Nat->List Txt
 | 0=>[]
 | i+1=>if Qzq (Qq h s i) (s.getD i []) then Qab h s i++[s.getD i []] else Qab h s i
theorem Qfg (h:Qd) (s:List Txt) (t:Txt):Qq h (s++[t]) (s.length+1)=(Q3 (Qq h s s.length) t).2:=by
 simp[Qq,QJZ]
theorem Qk1 (h:Qd) (s:List Txt) (t:Txt):Vf h (s++[t]) (s.length+1)=Vf h s s.length++[(Q3 (Qq h s s.length) t).1]:=by
 unfold Vf;rw[QKn,QKf,QLz]
 congr 1
 ·refine QLp fun j hj=>?_
  have hj:=QKr.1 hj
  have:Qq h (s++[t]) j=Qq h s j:=by
   unfold Qq
   grind
  grind
 have:Qq h (s++[t]) s.length=Qq h s s.length:=by simp[Qq]
 simp_all
theorem Wh (h:Qd) (s:List Txt):∀ i,(Qab h s i).length<=i
 | 0=>QJ2 _
 | i+1=>by
   have:=Wh h s i;unfold Qab
   grind
theorem Qvp (h:Qd) (s:List Txt):∀ i,i<=s.length->Qq h (Qab h s i) (Qab h s i).length=Qq h s i/\∀ a∈Vf h (Qab h s i) (Qab h s i).length,a=QeZ
 | 0,_=>⟨rfl,by simp[Vf,Qab]⟩
 | i+1,hi=>by
   obtain ⟨h1,h2⟩:=Qvp h s i (by omega)
   have hg:s.getD i []=s[i]:=by grind
   unfold Qab;rw[hg,Zr h s i (by omega)]
   cases hd:Qzq (Qq h s i) s[i]
   ·exact ⟨by rw[QxJ hd];exact h1,h2⟩
   have:=QxI hd;simp only[if_true,QKb,QK3];rw[Qfg,Qk1,h1];refine ⟨rfl,fun a ha=>?_⟩
   rcases QKa.1 ha with ha | ha
   ·exact h2 a ha
   simp at ha;rw[ha,this]
theorem qp (u:Nat):∀ c∈Lib.decDigits u,48<=c.toNat/\c.toNat<=57:=by
 induction u using Nat.strongRecOn with
 | ind u ih =>
   intro c hc;rw[Lib.decDigits] at hc;split at hc
   ·simp at hc
    subst hc;simp;omega
   rcases QKa.1 hc with hc | hc
   ·exact ih (u / 10) (by omega) c hc
   simp at hc;subst hc;simp;omega
theorem QvC (n:Int):(32:UInt8) ∉ Lib.itoa n:=by
 have h1:=qp n.natAbs 32;have h2:=qp n.toNat 32;have h3:(32:UInt8).toNat=32:=rfl;rw[h3] at h1 h2;unfold Lib.itoa
 grind
theorem Qiy (u:Nat) (x:UInt8) (r:Txt) (h:Lib.decDigits u=x::r):x≠45:=fun e=>by
 have:=qp u x (by rw[h];simp)
 simp_all
theorem Qlz {n:Int} (h : -999999999<=n/\n<=999999999):Qd9 (Lib.itoa n)=some n:=by
 refine Qf8 rfl ?_;have h1:=WA n.natAbs 9 (by omega) (by omega)
 have h2:=WA n.toNat 9 (by omega) (by omega)
 unfold Lib.itoa;split
 ·simpa[Lib.trimPrefix,Lib.hasPrefix] using h1
 cases hd:Lib.decDigits n.toNat with
 | nil=>simp[Lib.trimPrefix,Lib.hasPrefix]
 | cons x r =>
   have hx:=Qiy _ x r hd;rw[hd] at h2;have:Lib.hasPrefix (x::r) [45]=false:=by simp[Lib.hasPrefix,List.isPrefixOf,Ne.symm hx]
   simpa[Lib.trimPrefix,this] using h2
def XJ (w:Txt) (l:List Int):Txt:=w++l.flatMap fun n=>32::Lib.itoa n
theorem QjR:∀ (l:List Int) (w:Txt),32 ∉ w->spl (XJ w l)=w::l.map Lib.itoa
 | [],w,h=>by simp[XJ,QjQ w h]
 | n::r,w,h=>by
   have e:XJ w (n::r)=w++32::XJ (Lib.itoa n) r:=by simp[XJ]
   rw[e,Qfh,QjQ w h,QjR r _ (QvC n)];rfl
theorem Qbq:∀ (l:List Int),(∀ n∈l,-999999999<=n/\n<=999999999)->XH (l.map Lib.itoa)=some l
 | [],_=>rfl
 | n::r,h=>by
   simp only[QKg,XH,Qlz (h n (by simp)),Qbq r fun m hm=>h m (by simp[hm])]
theorem Qly {w:Txt} {v:WL} {l:List Int} (hw:Xq w=some (l.length,v)) (hb:32 ∉ w) (h:∀ n∈l,-999999999<=n/\n<=999999999):Zw (XJ w l)=some (v,l):=by
 simp[Zw,QjR l w hb,hw,Qbq l h]
theorem QbD:∀ (l:List Int) (w:Txt),(∀ n∈l,-999999999<=n/\n<=999999999)->(XJ w l).length<=w.length+21*l.length
 | [],w,_=>by simp[XJ]
 | n::l,w,h=>by
   have h1:=QbD l (w++32::Lib.itoa n) fun m hm=>h m (by simp[hm])
   have h2:=h n (by simp)
   have h3:=Qei (n:=n) (by omega)
   have e:XJ w (n::l)=XJ (w++32::Lib.itoa n) l:=by simp[XJ]
   rw[e];simp at h1 |-;omega
def QBG (t:Txt):Prop:=(∃ v l,Zw t=some (v,l)/\Zi v=true)/\t.length<=200
def Qai (h:Qd) (s:List Txt) (h':Qd):Prop:=(Qq h s s.length=h'/\∀ a∈Vf h s s.length,a=QeZ)/\∀ t∈s,QBG t
theorem Qai.nil (h:Qd):Qai h [] h:=⟨⟨rfl,by simp[Vf]⟩,by simp⟩
theorem Qai.snoc {h h1 h2:Qd} {s:List Txt} {t:Txt} (w:Qai h s h1) (e:Q3 h1 t=(QeZ,h2)/\QBG t):Qai h (s++[t]) h2:=by
 obtain ⟨⟨a,b⟩,c⟩:=w;obtain ⟨e,ec⟩:=e;unfold Qai;rw[QKb,QK3,Qfg,Qk1,a,e];refine ⟨⟨rfl,fun x hx=>?_⟩,fun x hx=>?_⟩
 ·grind
 grind
theorem Qq3 {h h':Qd} {t:Txt} {v:WL} {l:List Int} (hp:Zw t=some (v,l)) (hc:Zi v=true) (he:Zy h v l=some h') (ho:okH h'):Q3 h t=(QeZ,h'):=by
 simp[Q3,hp,doV,hc,he,ho]
theorem YE {h h':Qd} {w:Txt} {v:WL} {l:List Int} (hw:Xq w=some (l.length,v)) (hb:32 ∉ w/\w.length<=20) (hn:l.length<=7/\∀ n∈l,-999999999<=n/\n<=999999999) (hc:Zi v=true) (he:Zy h v l=some h') (ho:okH h'):Q3 h (XJ w l)=(QeZ,h')/\QBG (XJ w l):=by
 have hp:=Qly hw hb.1 hn.2;have:=QbD l w hn.2;exact ⟨Qq3 hp hc he ho,⟨v,l,hp,hc⟩,by omega⟩
def hw (h:Qd) (ds:List Qx) (ts:List VM) (ss:List Xh) (bs:List QR) (rs:List Qy):Qd :=
 ⟨{ h.ze with zc:=⟨ds,ss,h.ze.zc.zh⟩,zb:={ h.ze.zb with zk:=bs },zf:=ts },{ h.zq with zj:=rs }⟩
theorem QhA (ds:List Qx) (i:Nat):∃ r,pv ds=pv (ds.take i)++r:=by
 refine ⟨XQ QX (ds.drop i) (0+(ds.take i).length),?_⟩;unfold pv;rw[<- X2,QKU]
theorem Qm8 {h:Qd} (ho:okH h) (i:Nat) (ss:List Xh) (bs:List QR) (rs:List Qy) (hs:ss=[]\/h.ze.zc.za.length<=i/\ss <+: h.ze.zc.zg) (hb:bs <+: h.ze.zb.zk) (hr:rs <+: h.zq.zj) :
  okH (hw h (h.ze.zc.za.take i) (h.ze.zf.take (pv (h.ze.zc.za.take i)).length) ss bs rs):=by
 obtain ⟨⟨⟨c1,c2,c3,c4,c5⟩,⟨m1,m2,m3,m4,m5,m6,m7,m8⟩,h1,h2,h3,h4⟩,⟨u1,u2,u3,u4,u5,u6,u7,u8⟩⟩:=ho;obtain ⟨r,hpv⟩:=QhA h.ze.zc.za i
 have hsub:∀ s∈ss,s∈h.ze.zc.zg/\h.ze.zc.za.length<=i:=fun s hs'=>by
  rcases hs with rfl | ⟨h5,h6⟩
  ·cases hs'
  exact ⟨h6.subset hs',h5⟩
 have hlen:ss.length<=h.ze.zc.zg.length:=by
  rcases hs with rfl | ⟨_,h6⟩
  ·simp
  exact h6.length_le
 have hle:(pv (h.ze.zc.za.take i)).length<=(pv h.ze.zc.za).length:=by rw[hpv,QKb];omega
 refine ⟨⟨⟨by simp[hw];omega,by simp[hw];omega,c3,fun j hj _=>?_,fun s hs'=>?_⟩,⟨m1,m2,m3,m4,m5,QKG hb.length_le m6,fun b hb'=>m7 b (hb.subset hb'),m8⟩,h1,h2,?_,fun j hj hj'=>?_⟩,⟨u1,u2,u3,u4,u5,QKG hr.length_le u6,u7,fun x hx=>u8 x (hr.subset hx)⟩⟩
 ·simp only[hw,QKV] at hj
  have:=c4 j (by omega) (by omega)
  simp only[hw,List.getElem_take]
  rwa [QaE _ _ _ (by omega)]
 ·obtain ⟨h5,h6⟩:=hsub s hs'
  simp only[hw];rw[QJZ h6];exact c5 s h5
 ·simp only[hw,QKV]
  omega
 simp only[hw,QKV] at hj hj';have hj2:j<(pv h.ze.zc.za).length:=by omega
 have:=h4 j hj2 (by omega)
 have he:(pv h.ze.zc.za)[j]=(pv (h.ze.zc.za.take i))[j]:=by simp[hpv,List.getElem_append_left hj]
 have xd:(pv (h.ze.zc.za.take i))[j]<i:=by
  have:=(JV QX _ 0 _ (QJ1 hj)).2;simp only[QKV] at this;omega
 simp only[hw,List.getElem_take];rw[QaE _ _ _ (by omega),<- he]
 exact this
def QuK:Txt:=[119,101,108,100]
def QC4:Txt:=[99,117,116]
def QuL:Txt:=[116,117,114,110]
def Qmr:Txt:=[112,114,111,118,101]
def QC3:Txt:=[115,101,101]
def QC5:Txt:=[98,97,108,97,110,99,101]
def QuM:Txt:=[114,101,97,100]
theorem QC6:Xq QuK=some (4,.weld):=by decide +kernel
theorem QHK:Xq QC4=some (2,.cut):=by decide +kernel
theorem QC7:Xq QuL=some (0,.turn):=by decide +kernel
theorem QzB:Xq Qmr=some (3,.prove):=by decide +kernel
theorem QHJ:Xq QC3=some (5,.see):=by decide +kernel
theorem QHL:Xq QC5=some (4,.balance):=by decide +kernel
theorem QC8:Xq QuM=some (7,.read):=by decide +kernel
def trN (ds:List Qx) (i:Nat):Nat:=(pv (ds.take i)).length
theorem QdM (ds:List Qx) (i:Nat) (hi:i<ds.length):trN ds (i+1)=trN ds i+if QX ds[i] then 1 else 0:=by
 unfold trN pv;rw[QJV hi,X2,QKb];simp only[XQ];split<;>simp
def dL (ds:List Qx) (ts:List VM) (i:Nat):Txt :=
 let d:=ds.getD i ⟨0,0,0,0,0⟩
 if d.zp=1 then XJ QuK [d.pos,d.z7,d.bar,d.z6] else if d.zp=2 then XJ QC4 [d.pos,d.z7] else if d.zp=3 then XJ QuL []
 else let t:=ts.getD (trN ds i) ⟨0,0,0⟩;XJ Qmr [t.zm,t.zn,t.z8]
def sL (s:Xh):Txt:=XJ QC3 [s.after,s.pos,s.z7,s.bar,s.z6]
def bL (b:QR):Txt:=XJ QC5 [b.zm,b.zn,b.load,b.off]
def rL (x:Qy):Txt:=XJ QuM [x.yk,x.rod,x.count,x.rest,x.off,x.yl,x.ym]
def Va (h:Qd) (i:Nat):List Txt:=(List.range i).map (dL h.ze.zc.za h.ze.zf)
def J9 (h:Qd):List Txt:=Va h h.ze.zc.za.length++h.ze.zc.zg.map sL++h.ze.zb.zk.map bL++h.zq.zj.map rL
def QeS (h:Qd):Qd:=hw h [] [] [] [] []
theorem UT {α:Type} {l:List α} {i:Nat} (hi:i<l.length):l.take i++[l[i]]=l.take (i+1):=(QJV hi).symm
theorem Qo4 {h:Qd} (ho:okH h) (i:Nat) (hi:i<h.ze.zc.za.length) :
  Q3 (hw h (h.ze.zc.za.take i) (h.ze.zf.take (trN h.ze.zc.za i)) [] [] []) (dL h.ze.zc.za h.ze.zf i) =
   (QeZ,hw h (h.ze.zc.za.take (i+1)) (h.ze.zf.take (trN h.ze.zc.za (i+1))) [] [] [])/\QBG (dL h.ze.zc.za h.ze.zf i):=by
 have hn:=Qm8 ho (i+1) [] [] [] (.inl rfl) QLC QLC;have hd:=ho.1.zc.za i hi hi;have hc:=ho.1.zc.za.cnt i (by omega) (by omega)
 have hlen:=ho.1.zc.len;have hg:h.ze.zc.za.getD i ⟨0,0,0,0,0⟩=h.ze.zc.za[i]:=by simp[hi]
 have ht:=QdM h.ze.zc.za i hi;unfold dL;rw[hg];change okH (hw h (h.ze.zc.za.take (i+1)) (h.ze.zf.take (trN h.ze.zc.za (i+1))) [] [] []) at hn;rw[<- UT hi] at hn |-
 have hpr:¬ h.ze.zc.za[i].zp=1->¬ h.ze.zc.za[i].zp=2->¬ h.ze.zc.za[i].zp=3->h.ze.zc.za[i].zp=4:=by
  rcases hd with ⟨h1,_⟩ | ⟨h1,_⟩ | ⟨h1 | h1,_⟩<;>omega
 have hmany:trN h.ze.zc.za i<trN h.ze.zc.za (i+1)->trN h.ze.zc.za i<h.ze.zf.length:=fun h1=>by
  obtain ⟨r,hr⟩:=QhA h.ze.zc.za (i+1);have h2:=congrArg List.length hr;rw[QKb] at h2;rw[ho.1.many];unfold trN at *;omega
 have htr:∀ j (hj:j<h.ze.zf.length),XW h.ze.zf[j] (cnt h.ze.zc.za ((pv h.ze.zc.za)[j]'(by rw[<- ho.1.many];exact hj))):=fun j hj=>ho.1.zf j (by rw[<- ho.1.many];exact hj) hj
 generalize hD:h.ze.zc.za[i]=d at *;obtain ⟨zp,pos,z7,bar,z6⟩:=d;simp only[Zo,inR] at hd hpr |-;by_cases h1:zp=1
 ·subst h1
  simp only[QX,reduceIte] at ht |-;have ht':trN h.ze.zc.za (i+1)=trN h.ze.zc.za i:=by simpa using ht
  rw[ht'] at hn |-;exact YE (v:=.weld) QC6 (by decide) (by simp;omega) rfl (by simp[Zy,Qh,hw,nI]) hn
 by_cases h2:zp=2
 ·subst h2
  simp only[QX,h1,reduceIte] at ht |-;have ht':trN h.ze.zc.za (i+1)=trN h.ze.zc.za i:=by simpa using ht
  rw[ht'] at hn |-;obtain ⟨rfl,rfl⟩:bar=0/\z6=0:=by omega
  exact YE (v:=.cut) QHK (by decide) (by simp;omega) rfl (by simp[Zy,Qh,hw,nI]) hn
 by_cases h3:zp=3
 ·subst h3
  simp only[QX,h1,h2,reduceIte] at ht |-;have ht':trN h.ze.zc.za (i+1)=trN h.ze.zc.za i:=by simpa using ht
  rw[ht'] at hn |-;obtain ⟨rfl,rfl,rfl,rfl⟩:pos=0/\z7=0/\bar=0/\z6=0:=by omega
  exact YE (v:=.turn) (l:=[]) QC7 (by decide) (by simp) rfl (by simp[Zy,Qh,hw]) hn
 have h4:=hpr h1 h2 h3;subst h4;simp only[QX,h1,h2,h3,reduceIte] at ht |-;have ht':trN h.ze.zc.za (i+1)=trN h.ze.zc.za i+1:=by simpa using ht
 have hk:=hmany (by omega)
 obtain ⟨rfl,rfl,rfl,rfl⟩:pos=0/\z7=0/\bar=0/\z6=0:=by omega
 have hok:=htr _ hk;rw[ht',<- UT hk] at hn |-;have hgt:h.ze.zf.getD (trN h.ze.zc.za i) ⟨0,0,0⟩=h.ze.zf[trN h.ze.zc.za i]:=by simp[hk]
 rw[hgt];generalize h.ze.zf[trN h.ze.zc.za i]=t at *
 have hcl:cnt h.ze.zc.za ((pv h.ze.zc.za)[trN h.ze.zc.za i]'(by rw[<- ho.1.many];exact hk))<=12:=by
  have h5:=(JV QX _ 0 _ (QJ1 (by rw[<- ho.1.many];exact hk:trN h.ze.zc.za i<(pv h.ze.zc.za).length))).2
  have:=ho.1.zc.za.cnt _ (by omega) (by omega:(pv h.ze.zc.za)[trN h.ze.zc.za i]'(by rw[<- ho.1.many];exact hk)<=h.ze.zc.za.length)
  omega
 simp only[XW,inR] at hok;exact YE (v:=.prove) QzB (by decide) (by simp;omega) rfl (by simp[Zy,hw,nI]) hn
theorem QaP {h:Qd} (ho:okH h):∀ i,i<=h.ze.zc.za.length->Qai (QeS h) (Va h i) (hw h (h.ze.zc.za.take i) (h.ze.zf.take (trN h.ze.zc.za i)) [] [] [])
 | 0,_=>Qai.nil _
 | i+1,hi=>by
   have h1:=(QaP ho i (by omega)).snoc (Qo4 ho i (by omega))
   unfold Va at *;rw[QKn,QKf];exact h1
theorem Qmz {h:Qd} (ho:okH h):h.ze.zf.take (trN h.ze.zc.za h.ze.zc.za.length)=h.ze.zf:=by
 rw[QJZ];unfold trN;rw[QJ5];exact Nat.le_of_eq ho.1.many
theorem WR {α:Type} {h0:Qd} {s:List Txt} (l:List α) (f:α->Txt) (H:List α->Qd) (w:Qai h0 s (H [])) (st:∀ i (hi:i<l.length),Q3 (H (l.take i)) (f l[i])=(QeZ,H (l.take (i+1)))/\QBG (f l[i])):Qai h0 (s++l.map f) (H l):=by
 have:∀ i,i<=l.length->Qai h0 (s++(l.take i).map f) (H (l.take i)):=fun i=>by
  induction i with
  | succ i ih =>
    intro hi;have h1:=(ih (by omega)).snoc (st i (by omega))
    rw[QJV (by omega),QKf,<- QKW,<- QJV (by omega)]
    exact h1
  | _=>simp_all
 have h1:=this l.length (QJ2 _);simp_all
theorem written {h:Qd} (ho:okH h):Qai (QeS h) (J9 h) h:=by
 have hlen:=ho.1.zc.len;have w0:=QaP ho _ (QJ2 _);rw[QJ5,Qmz ho] at w0
 have pre:∀ ss bs rs,ss <+: h.ze.zc.zg->bs <+: h.ze.zb.zk->rs <+: h.zq.zj->okH (hw h h.ze.zc.za h.ze.zf ss bs rs):=fun ss bs rs h1 h2 h3=>by
  have:=Qm8 ho h.ze.zc.za.length ss bs rs (.inr ⟨QJ2 _,h1⟩) h2 h3;rw[show (h.ze.zf.take (pv (h.ze.zc.za.take h.ze.zc.za.length)).length)=h.ze.zf from Qmz ho,QJ5] at this
  exact this
 have w1:=WR h.ze.zc.zg sL (fun ss=>hw h h.ze.zc.za h.ze.zf ss [] []) w0 fun i hi=>by
  have hs:=ho.1.zc.zg _ (QJ1 hi);have hn:=pre (h.ze.zc.zg.take (i+1)) [] [] (List.take_prefix _ _) QLC QLC;rw[<- UT hi] at hn |-;generalize h.ze.zc.zg[i]=s at *;obtain ⟨a,b,c,d,e⟩:=s;simp only[ZG,inR] at hs;have hc:=ho.1.zc.za.cnt a.toNat (by omega) (by omega)
  exact YE (v:=.see) QHJ (by decide) (by simp;omega) rfl (by simp[Zy,hw,nI]) hn
 have w2:=WR h.ze.zb.zk bL (fun bs=>hw h h.ze.zc.za h.ze.zf h.ze.zc.zg bs []) w1 fun i hi=>by
  have hs:=ho.1.zb.zk _ (QJ1 hi);have hn:=pre h.ze.zc.zg (h.ze.zb.zk.take (i+1)) [] (List.prefix_refl _) (List.take_prefix _ _) QLC;rw[<- UT hi] at hn |-;generalize h.ze.zb.zk[i]=s at *;obtain ⟨a,b,c,d⟩:=s;have hs:((inR a 0 9999/\inR b 0 99)/\inR c 0 999999999)/\inR d 0 999999999:=by simpa[XU] using hs
  simp only[inR] at hs;exact YE (v:=.balance) QHL (by decide) (by simp;omega) rfl (by simp[Zy,hw,nI]) hn
 have w3:=WR h.zq.zj rL (fun rs=>hw h h.ze.zc.za h.ze.zf h.ze.zc.zg h.ze.zb.zk rs) w2 fun i hi=>by
  have hs:=ho.2.zj _ (QJ1 hi);have hrl:=ho.2.rlen;have hn:=pre h.ze.zc.zg h.ze.zb.zk (h.zq.zj.take (i+1)) (List.prefix_refl _) (List.prefix_refl _) (List.take_prefix _ _);rw[<- UT hi] at hn |-;generalize h.zq.zj[i]=s at *;obtain ⟨a,b,c,d,e,f,g⟩:=s;simp only[Xs,inR] at hs;exact YE (v:=.read) QC8 (by decide) (by simp;omega) rfl (by simp[Zy,hw,nI]) hn
 exact w3
def QH0 (h:Qd) (w:Int):Qd:=⟨QJE h.ze w,h.zq⟩
section
variable {m:Machine} {b:List QR} (hb:b.Perm m.zk)
include hb
end
section
variable {p:Zh} {r:List Qy} (hr:r.Perm p.zj)
include hr
end
def QIh:WL->Bool
 | .pulls | .stretch | .best | .zm=>true
 | _=>false
def QE8:QR ⊕ Qy->Txt
 | .inl b=>bL b
 | .inr x=>rL x
def QIj:QR ⊕ Qy->Option QR
 | .inl b=>some b
 | _=>none
def QIi:QR ⊕ Qy->Option Qy
 | .inr x=>some x
 | _=>none
def QJN:QR ⊕ Qy->Prop
 | .inl b=>XU b=false
 | .inr x=>Xs 4 x
def QJz (t:Txt):Prop:=∃ v l,Zw t=some (v,l)/\Zi v=false
theorem Qav (h:Qd) (s:List Txt):∀ n,n<=s.length->∀ t∈Qab h s n,t∈s
 | 0,_,t,ht=>by cases ht
 | n+1,hn,t,ht=>by
   have ih:=Qav h s n (by omega)
   unfold Qab at ht;split at ht
   ·rcases QKa.1 ht with ht | ht
    ·exact ih t ht
    simp only[QKs] at ht;rw[ht,List.getD_eq_getElem?_getD,QJW (by omega)]
    simp_all
   grind
theorem QAi {h:Qd} {s:List Txt} (ho:okH h) (h4:s.length<=40) (hw:∀ t∈s,t.length<=1000) (hf:∀ i (hi:i<s.length) v l,Zw s[i]=some (v,l)->Zi v=false->QcF (Qq h s i)) :
  Gd KW 31 [hoV h,strs s] (.xh [strs (Vf h s s.length),hoV (Qq h s s.length),.int .i64 0]):=by
 have g:=QBf h s (Qv ho) (by omega) (fun _ _=>hw) (fun _ _=>hf)
 unfold QAk Qlk QAj at g;have h4':¬ 40<s.length:=by omega
 simpa only[if_pos ho,if_neg h4'] using g
theorem Qhi {h:Qd} (ho:okH h) (h4:(J9 h).length<=40) :
  Gd KW 31 [hoV (QeS h),strs (J9 h)] (.xh [strs ((J9 h).map fun _=>QeZ),hoV h,.int .i64 0]):=by
 obtain ⟨⟨w1,w2⟩,w3⟩:=written ho;have hb:okH (QeS h):=by simpa[QeS,pv,XQ] using Qm8 ho 0 [] [] [] (.inl rfl) QLC QLC
 have g:=QAi hb h4 (fun t ht=>QKG (w3 t ht).2 (by omega)) fun i hi v l hp hq=>by
  obtain ⟨⟨v',l',h1,h2⟩,_⟩:=w3 _ (QJ1 hi)
  grind
 have e:Vf (QeS h) (J9 h) (J9 h).length=(J9 h).map fun _=>QeZ:=by
  refine List.ext_getElem (by simp[Vf]) fun i h1 h2=>?_
  rw[w2 _ (QJ1 h1)];simp
 grind
def QDc:Txt:=[119,101,105,103,104,116]
def QHP:Txt:=[111,112,101,110]
def QHQ:Txt:=[103,111,111,100]
def QHS:Txt:=[99,111,110,100,101,109,110,101,100]
def QJy (h:Qd):Qd:=hw h h.ze.zc.za h.ze.zf h.ze.zc.zg [] []
def QJM (h:Qd) (L:List (QR ⊕ Qy)):Qd:=hw h h.ze.zc.za h.ze.zf h.ze.zc.zg (L.filterMap QIj) (L.filterMap QIi)
def QJD (h:Qd):List (QR ⊕ Qy):=h.ze.zb.zk.map .inl++h.zq.zj.map .inr
def QHN:Txt:=[119,104,111]
def QzK:Txt:=[119,104,101,114,101]
def QzR:Txt:=[102,105,114,115,116]
def QzN:Txt:=[112,117,108,108,115]
def QzS:Txt:=[98,114,111,107,101]
def QzO:Txt:=[108,111,97,100,115]
def QmD:Txt:=[102,97,105,108,117,114,101,115]
def Qk8:Txt:=[99,111,110,100,101,109,110,101,100]
def QuQ:Txt:=[112,114,111,118,101,100]
def QHO:Txt:=[111,112,101,110]
def QHR:Txt:=[103,111,111,100]
def QzJ:Txt:=[119,111,114,116,104]
def QzL:Txt:=[119,101,105,103,104,116]
def QqD:Txt:=[115,116,114,101,116,99,104]
def QDf:Txt:=[98,101,115,116]
def QzQ:Txt:=[104,111,108,100,115]
def QDd:Txt:=[114,111,100,115]
def QJA (a k t w m p r:Int):List (Txt × WL × List Int):=[(QHN,.who,[a]),(QzK,.wher,[k]),(QzR,.first,[]),(QzN,.pulls,[w,m]),(QzS,.z8,[t]),(QzO,.loads,[t]),(QmD,.xa,[]),(Qk8,.y9,[]),
 (QuQ,.xb,[k]),(QHO,.opn,[]),(QHR,.good,[]),(QzJ,.worth,[]),(QzL,.zm,[]),(QqD,.stretch,[]),(QDf,.best,[]),(QzQ,.holds,[p]),(QDd,.zi,[r])]
def QE0 (l:List Int):Prop:=∀ n∈l,0<=n/\n<=999999999
theorem QlF (w:Txt) (l:List Int) (x:Int):XJ w (l++[x])=XJ w l++32::Lib.itoa x:=by simp[XJ]
theorem QmH {p:Qf} (h:OkP p):QjC p:=by
 have h1:=h.zc.len;have h2:=h.zc.slen;have h3:=h.zb.len;have h4:=h.zb.blen;have h5:=h.many;have h6:=U5 p.zc.za;exact ⟨by omega,by omega,by omega,by omega,by omega⟩
include hK
theorem Qdl (w:Txt) (l:List Int) (hw:w.length<=100) (hl:l.length<=20) (h:∀ n∈l,-999999999<=n/\n<=999999999):Gd K 24 [.str w,QW l] (.str (XJ w l)):=by
 refine Qb hK (fk func24 c24 (by kernel_rfl)) (by simp) ?_
 have h0:AV.iv (.str w)=AV.iv (.str (XJ w (l.take 0))):=by simp[XJ]
 simp;rw[h0];refine Qi (fun i=>[(0,AV.iv (.str (XJ w (l.take i)))),(1,AV.iv (QW l)),(5,AV.iv (.int .i64 (i:Nat)))]) (fun _=>[]) l.length (fun _=>True) trivial ?_ ?_
 ·intro _
  rw[QJ5,Qa Go.Pf.c24_b0.eq_1];simp
 intro i hi _ ih;have h2:=h _ (QJ1 hi);have hg:=QA1 hK l[i] (by omega)
 have h3:=Qei (n:=l[i]) (by omega)
 have h1:=QbD (l.take i) w (fun n hn=>h n (QKF hn))
 have h4:(l.take i).length<=20:=by simp;omega
 rw[QJV hi,QlF] at ih;rw[Qa Go.Pf.c24_b0.eq_1];generalize XJ w (l.take i)=X at *;simp[hi]
 try intro _
 refine cK (by simpa using hg) ?_
 simp at ih |-
 repeat' first | exact ih | omega | intro _ | apply And.intro
theorem QBn (h:Qd) (hs:QM h):Gd K 13 [hoV h] (hoV (QeS h)):=by
 refine Qb hK (fk func13 c13 (by kernel_rfl)) (by simp) ?_
 have hg:=Quc hK h hs;simp
 try intro _
 refine cK (by simpa using hg) ?_
 simp[QeS,hw]
omit hK
theorem QhQ (h:Qd) (i:Nat):Va h (i+1)=Va h i++[dL h.ze.zc.za h.ze.zf i]:=by
 simp[Va,QKn]
theorem Qda (h:Qd) (i:Nat):(Va h i).length=i:=by simp[Va]
def apL {α:Type} (f:α->Txt) (D:List Txt) (l:List α):List Txt:=l.foldl (fun a x=>a++[f x]) D
theorem Qk0 {α:Type} (f:α->Txt) (D:List Txt) (l:List α):apL f D l=D++l.map f:=by
 unfold apL
 induction l generalizing D with
 | _=>grind
theorem QeV {α:Type} (f:α->Txt) (D:List Txt) (l:List α) (x:α):apL f D (l++[x])=apL f D l++[f x]:=by simp[apL]
theorem Qjz {α:Type} (f:α->Txt) (D:List Txt) (l:List α) (i:Nat) (h:i<=l.length):(apL f D (l.take i)).length=D.length+i:=by
 rw[Qk0];simp[h]
abbrev smN (n:Int):Prop := -999999999<=n/\n<=999999999
theorem Ql3 {h:Qd} (ho:okH h) (i:Nat) (hi:i<h.ze.zc.za.length) :
  (h.ze.zc.za[i].zp=1\/h.ze.zc.za[i].zp=2\/h.ze.zc.za[i].zp=3\/h.ze.zc.za[i].zp=4) /\
  (smN h.ze.zc.za[i].pos/\smN h.ze.zc.za[i].z7/\smN h.ze.zc.za[i].bar/\smN h.ze.zc.za[i].z6) /\
  (h.ze.zc.za[i].zp=4->∃ hk:trN h.ze.zc.za i<h.ze.zf.length,smN h.ze.zf[trN h.ze.zc.za i].zm/\smN h.ze.zf[trN h.ze.zc.za i].zn/\smN h.ze.zf[trN h.ze.zc.za i].z8):=by
 have hd:=ho.1.zc.za i hi hi;have hc:=ho.1.zc.za.cnt i (by omega) (by omega)
 have hlen:=ho.1.zc.len;have ht:=QdM h.ze.zc.za i hi
 have hmany:trN h.ze.zc.za i<trN h.ze.zc.za (i+1)->trN h.ze.zc.za i<h.ze.zf.length:=fun h1=>by
  obtain ⟨r,hr⟩:=QhA h.ze.zc.za (i+1);have h2:=congrArg List.length hr;rw[QKb] at h2;rw[ho.1.many];unfold trN at *;omega
 have htr:∀ j (hj:j<h.ze.zf.length),XW h.ze.zf[j] (cnt h.ze.zc.za ((pv h.ze.zc.za)[j]'(by rw[<- ho.1.many];exact hj))):=fun j hj=>ho.1.zf j (by rw[<- ho.1.many];exact hj) hj
 simp only[Zo,inR] at hd;refine ⟨by omega,by omega,fun h4=>?_⟩
 have hk:=hmany (by rw[ht,if_pos (by simp[QX,h4])];omega)
 refine ⟨hk,?_⟩;have hok:=htr _ hk
 have hcl:cnt h.ze.zc.za ((pv h.ze.zc.za)[trN h.ze.zc.za i]'(by rw[<- ho.1.many];exact hk))<=12:=by
  have h5:=(JV QX _ 0 _ (QJ1 (by rw[<- ho.1.many];exact hk:trN h.ze.zc.za i<(pv h.ze.zc.za).length))).2
  have:=ho.1.zc.za.cnt _ (by omega) (by omega:(pv h.ze.zc.za)[trN h.ze.zc.za i]'(by rw[<- ho.1.many];exact hk)<=h.ze.zc.za.length)
  omega
 simp only[XW,inR] at hok;omega
include hK
theorem QDD (h:Qd) (ho:okH h):Gd K 7 [hoV h] (strs (J9 h)):=by
 refine Qb hK (fk func7 c7 (by kernel_rfl)) (by simp) ?_
 have l1:=ho.1.zc.len;have l2:=ho.1.zc.slen;have l3:=ho.1.zb.blen;have l4:=ho.2.xlen
 have l5:h.ze.zf.length<=12:=by
  rw[ho.1.many];exact QKG (U5 _) l1
 generalize hLV:J9 h=LV;simp
 refine Qi (fun i=>[(1,AV.iv (.ptr (hoC h))),(3,AV.yq 3 (Va h i).length),(4,AV.iv (.int .i64 (trN h.ze.zc.za i:Nat))),(5,AV.iv (.int .i64 (i:Nat)))])
  (fun i=>[(3,.arr 9 1 (emb ((Va h i).map fun t=>[.str t])) 0)]) h.ze.zc.za.length (fun _=>True) trivial ?_ ?_
 ·intro _
  rw[Qa Go.Pf.c7_b0.eq_1];have hDl:(Va h h.ze.zc.za.length).length=h.ze.zc.za.length:=Qda h _;generalize hD:Va h h.ze.zc.za.length=D at *;simp;intro _
  refine Qi (fun i=>[(1,AV.iv (.ptr (hoC h))),(3,AV.yq 3 (apL sL D (h.ze.zc.zg.take i)).length),(8,AV.iv (.int .i64 (i:Nat)))])
   (fun i=>[(3,.arr 9 1 (emb ((apL sL D (h.ze.zc.zg.take i)).map fun t=>[.str t])) 0)]) h.ze.zc.zg.length (fun _=>True) trivial ?_ ?_
  ·intro _
   rw[Qa Go.Pf.c7_b1.eq_1,QJ5,Qk0];have hSl:(D++h.ze.zc.zg.map sL).length=D.length+h.ze.zc.zg.length:=by simp
   generalize hS:D++h.ze.zc.zg.map sL=S at *;simp;intro _
   refine Qi (fun i=>[(1,AV.iv (.ptr (hoC h))),(3,AV.yq 3 (apL bL S (h.ze.zb.zk.take i)).length),(10,AV.iv (.int .i64 (i:Nat)))])
    (fun i=>[(3,.arr 9 1 (emb ((apL bL S (h.ze.zb.zk.take i)).map fun t=>[.str t])) 0)]) h.ze.zb.zk.length (fun _=>True) trivial ?_ ?_
   ·intro _
    rw[Qa Go.Pf.c7_b2.eq_1,QJ5,Qk0];have hBl:(S++h.ze.zb.zk.map bL).length=S.length+h.ze.zb.zk.length:=by simp
    generalize hB:S++h.ze.zb.zk.map bL=B at *;simp;intro _
    refine Qi (fun i=>[(1,AV.iv (.ptr (hoC h))),(3,AV.yq 3 (apL rL B (h.zq.zj.take i)).length),(12,AV.iv (.int .i64 (i:Nat)))])
     (fun i=>[(3,.arr 9 1 (emb ((apL rL B (h.zq.zj.take i)).map fun t=>[.str t])) 0)]) h.zq.zj.length (fun _=>True) trivial ?_ ?_
    ·intro _
     rw[Qa Go.Pf.c7_b3.eq_1,QJ5,Qk0];have hR:B++h.zq.zj.map rL=LV:=by rw[<- hLV,<- hB,<- hS,<- hD];rfl
     rw[hR];simp
    intro i hi _ ih;have hx:=ho.2.zj _ (QJ1 hi);have hrl:=ho.2.rlen;simp only[Xs,inR] at hx;have hal:=Qjz rL B h.zq.zj i (by omega)
    rw[QJV hi,QeV,rL] at ih;generalize apL rL B (h.zq.zj.take i)=Z at *;have hg:=Qdl hK QuM [h.zq.zj[i].yk,h.zq.zj[i].rod,h.zq.zj[i].count,h.zq.zj[i].rest,h.zq.zj[i].off,h.zq.zj[i].yl,h.zq.zj[i].ym] (by decide) (by simp) (by simp;omega)
    rw[Qa Go.Pf.c7_b3.eq_1];simp[hi]
    try intro _
    refine cK hg ?_;simp at ih |-
    repeat' first | exact ih | omega | intro _ | apply And.intro
   intro i hi _ ih;have hx:=ho.1.zb.zk _ (QJ1 hi);have hx:((inR h.ze.zb.zk[i].zm 0 9999/\inR h.ze.zb.zk[i].zn 0 99)/\inR h.ze.zb.zk[i].load 0 999999999)/\inR h.ze.zb.zk[i].off 0 999999999:=by simpa[XU] using hx
   simp only[inR] at hx;have hal:=Qjz bL S h.ze.zb.zk i (by omega)
   rw[QJV hi,QeV,bL] at ih;generalize apL bL S (h.ze.zb.zk.take i)=Z at *;have hg:=Qdl hK QC5 [h.ze.zb.zk[i].zm,h.ze.zb.zk[i].zn,h.ze.zb.zk[i].load,h.ze.zb.zk[i].off] (by decide) (by simp) (by simp;omega)
   rw[Qa Go.Pf.c7_b2.eq_1];simp[hi]
   try intro _
   refine cK hg ?_;simp at ih |-
   repeat' first | exact ih | omega | intro _ | apply And.intro
  intro i hi _ ih;have hx:=ho.1.zc.zg _ (QJ1 hi);have hc:=ho.1.zc.za.cnt h.ze.zc.zg[i].after.toNat;simp only[ZG,inR] at hx;have hc:=hc (by omega) (by omega)
  have hal:=Qjz sL D h.ze.zc.zg i (by omega)
  rw[QJV hi,QeV,sL] at ih;generalize apL sL D (h.ze.zc.zg.take i)=Z at *;have hg:=Qdl hK QC3 [h.ze.zc.zg[i].after,h.ze.zc.zg[i].pos,h.ze.zc.zg[i].z7,h.ze.zc.zg[i].bar,h.ze.zc.zg[i].z6] (by decide) (by simp) (by simp;omega)
  rw[Qa Go.Pf.c7_b1.eq_1];simp[hi]
  try intro _
  refine cK hg ?_;simp at ih |-
  repeat' first | exact ih | omega | intro _ | apply And.intro
 ·intro i hi _ ih
  obtain ⟨hw,hn,ht⟩:=Ql3 ho i hi;have hll:=Qda h i;have hs:=QdM h.ze.zc.za i hi;have hgd:h.ze.zc.za.getD i ⟨0,0,0,0,0⟩=h.ze.zc.za[i]:=by simp[hi]
  have hdl:dL h.ze.zc.za h.ze.zf i=dL h.ze.zc.za h.ze.zf i:=rfl
  conv at hdl=>rhs;unfold dL;rw[hgd]
  rw[QhQ,hdl] at ih;rw[Qa Go.Pf.c7_b0.eq_1];have hpv:∀ b,QX h.ze.zc.za[i]=b↔decide (h.ze.zc.za[i].zp=4)=b:=fun _=>Iff.rfl
  rcases hw with h1 | h1 | h1 | h1
  ·have hg:=Qdl hK QuK [h.ze.zc.za[i].pos,h.ze.zc.za[i].z7,h.ze.zc.za[i].bar,h.ze.zc.za[i].z6] (by decide) (by simp) (by simpa using hn)
   have hs:trN h.ze.zc.za (i+1)=trN h.ze.zc.za i:=by rw[hs];simp[QX,h1]
   rw[hs] at ih;simp[hi,h1] at ih |-
   try intro _
   refine cK hg ?_;simp
   repeat' first | exact ih | omega | intro _ | apply And.intro
  ·have hg:=Qdl hK QC4 [h.ze.zc.za[i].pos,h.ze.zc.za[i].z7] (by decide) (by simp) (by simp;omega)
   have hs:trN h.ze.zc.za (i+1)=trN h.ze.zc.za i:=by rw[hs];simp[QX,h1]
   rw[hs] at ih;simp[hi,h1] at ih |-
   try intro _
   refine cK hg ?_;simp
   repeat' first | exact ih | omega | intro _ | apply And.intro
  ·have hs:trN h.ze.zc.za (i+1)=trN h.ze.zc.za i:=by rw[hs];simp[QX,h1]
   rw[hs] at ih;simp[hi,h1] at ih |-;simp[XJ,QuL] at ih
   repeat' first | exact ih | omega | intro _ | apply And.intro
  ·obtain ⟨hk,h2⟩:=ht h1
   have hgt:h.ze.zf.getD (trN h.ze.zc.za i) ⟨0,0,0⟩=h.ze.zf[trN h.ze.zc.za i]:=by simp[hk]
   have hg:=Qdl hK Qmr [h.ze.zf[trN h.ze.zc.za i].zm,h.ze.zf[trN h.ze.zc.za i].zn,h.ze.zf[trN h.ze.zc.za i].z8] (by decide) (by simp) (by simpa using h2)
   have hs:trN h.ze.zc.za (i+1)=trN h.ze.zc.za i+1:=by rw[hs];simp[QX,h1]
   rw[hs,hgt] at ih;generalize trN h.ze.zc.za i=T at *;simp[hi,h1,hk] at ih |-
   try intro _
   refine cK hg ?_;simp
   repeat' first | exact ih | omega | intro _ | apply And.intro
theorem Qv6 (c:Qr):Gd K 35 [chV c] (.int .i64 (if OkC c then 0 else 20)):=by
 by_cases h1:c.za.length<=12
 ·by_cases h2:c.zg.length<=8
  ·exact QnX hK c (by omega) (by omega)
  have hn:¬ OkC c:=fun h=>h2 h.slen
  have h1':¬ (12:Int)<c.za.length:=by omega
  have h2':(8:Int)<c.zg.length:=by omega
  refine Qb hK QpD (by simp) ?_
  simp[hn,h1',h2']
  repeat' first | omega | intro _ | apply And.intro
 have hn:¬ OkC c:=fun h=>h1 h.len
 have h1':(12:Int)<c.za.length:=by omega
 refine Qb hK QpD (by simp) ?_
 simp[hn,h1']
 repeat' first | omega | intro _ | apply And.intro
theorem Qv5 (m:Machine):Gd K 36 [maV m] (.int .i64 (if OkM m then 0 else 30)):=by
 by_cases h1:m.zd.length<=3/\m.zk.length<=6
 ·exact QnW hK m (by omega) (by omega)
 have hn:¬ OkM m:=fun h=>h1 ⟨h.len,h.blen⟩
 refine Qb hK Quu (by simp) ?_
 by_cases h2:m.zd.length<=3;rotate_left
 ·have h2':(3:Int)<m.zd.length:=by omega
  simp[h2',hn]
  repeat' first | omega | intro _ | apply And.intro
 have h2':¬ (3:Int)<m.zd.length:=by omega
 have h3':(6:Int)<m.zk.length:=by omega
 simp[h2',hn]
 repeat first | intro _ | refine ⟨by omega,?_⟩
 refine cK (VE hK _ _ _) ?_;by_cases h3:inR m.zr 0 9999
 ·simp[h3]
  refine cK (VE hK _ _ _) ?_;by_cases h4:inR m.zu 0 m.zw
  ·by_cases h5:m.zw<=20
   ·have h5':¬ 20<m.zw:=by omega
    simp[h4,h5',h3']
    repeat' first | omega | intro _ | apply And.intro
   have h5':20<m.zw:=by omega
   simp[h4,h5']
  simp[h4]
 simp[h3]
theorem Qw2 (p:Zh):Gd K 17 [puV p] (.int .i64 (if OkU p then 0 else 40)):=by
 by_cases h1:p.zi.length<=4/\p.zj.length<=8
 ·exact Qod hK p (by omega) (by omega)
 have hn:¬ OkU p:=fun h=>h1 ⟨h.rlen,h.xlen⟩
 refine Qb hK Quw (by simp) ?_
 simp[hn];refine cK (Y6 hK _ _ _) ?_;by_cases h1:inR p.yj 0 50;rotate_left
 ·simp[h1]
 simp[h1];refine cK (Y6 hK _ _ _) ?_;by_cases h2:inR p.yc 1 p.yg
 ·simp[h2]
  by_cases h3:p.yg<=99999
  ·have h3':¬ 99999<p.yg:=by omega
   simp[h3'];intro _;refine cK (Y6 hK _ _ _) ?_;by_cases h4:inR p.zh 0 8
   ·simp[h4]
    grind
   simp[h4]
  grind
 simp[h2]
theorem Qw5 (p:Qf):Gd K 16 [prV p] (.int .i64 (if OkP p then 0 else 60)):=by
 by_cases hs:QjC p
 ·exact Qoh hK p hs
 have hn:¬ OkP p:=fun h=>hs (QmH h)
 refine Qb hK Qux (by simp) ?_
 simp[hn];refine cK (Qv6 hK p.zc) ?_;by_cases h1:OkC p.zc;rotate_left
 ·simp[h1]
 simp[h1];refine cK (Qv5 hK p.zb) ?_;by_cases h2:OkM p.zb;rotate_left
 ·simp[h2]
 simp[h2];refine cK (Qdk hK _ _ _) ?_;by_cases h3:inR p.zo 0 999999999
 ·simp[h3]
  refine cK (Qdk hK _ _ _) ?_;by_cases h4:inR p.ya 1 12
  ·have hl:=h1.len
   simp[h4];refine cK (Qub hK p.zc (by omega)) ?_
   have hpl:=U5 p.zc.za;have hpv:XQ QX p.zc.za 0=pv p.zc.za:=rfl;rw[hpv];have h5:p.zf.length≠(pv p.zc.za).length:=fun h5=>hs ⟨by grind,by have:=h1.slen;omega,by have:=h2.len;omega,by have:=h2.blen;omega,by omega⟩
   have h5':(pv p.zc.za).length≠p.zf.length:=Ne.symm h5;simp[h5,h5'];omega
  simp[h4]
 simp[h3]
omit hK
theorem QA4 (h:Qd):Gd KW 4 [hoV h] (.int .i64 (QnL h)):=by
 refine Qb hKW QBM (by simp) ?_
 have g26:=Qw5 hKW h.ze;have g27:=Qw2 hKW h.zq;unfold QnL okH;by_cases h1:OkP h.ze
 ·rw[if_pos h1] at g26
  simp[h1];refine cK (by simpa using g26) ?_
  simp;refine cK (by simpa using g27) ?_
  by_cases h2:OkU h.zq<;>simp[h2]
 rw[if_neg h1] at g26;simp[h1];refine cK (by simpa using g26) ?_
 simp
end Go.Pf
namespace Go.Bk
open Go Go.Ev Go.RowKit
set_option maxRecDepth 8000
attribute [simp] Qc8
abbrev W:=List UInt8
@[simp] def QW (l:List Int):IV:=.sl 1 (l.map fun n=>[.int .i64 n])
@[simp] def strs (l:List W):IV:=.sl 1 (l.map fun s=>[.str s])
def tx (s:W):Bool:=s.all (fun c=>decide (32<=c.toNat)&&decide (c.toNat<=126))&&decide (s.length<=60)
def two (n:Nat):W:=[UInt8.ofNat (48+n / 10),UInt8.ofNat (48+n % 10)]
def v1 (c:UInt8):Int:=(c.toNat:Int)-32
def S1:W->Int
 | []=>0
 | c::s=>v1 c+S1 s
def S2:Nat->W->Int
 | _,[]=>0
 | k,c::s=>v1 c*(k:Int)+S2 (k+1) s
def QO (s:W):W:=s++two (S1 s % 97).toNat++two (S2 1 s % 97).toNat
def QvH (c:UInt8):Bool:=decide (48<=c.toNat)&&decide (c.toNat<=57)
def dg:W->Int
 | [a,b]=>if QvH a&&QvH b then 10*((a.toNat:Int)-48)+((b.toNat:Int)-48) else -1
 | _ => -1
def numOf (r:W):Int × W × Bool :=
 if decide (r.length<2)||!tx (r.drop 2) then (0,[],false) else (dg (r.take 2),r.drop 2,decide (0<=dg (r.take 2))&&decide (dg (r.take 2)<40))
def J8 (r:W):Int × Bool :=
 if decide (r.length≠4)||decide (r.take 2≠[46,46]) then (0,false) else (dg (r.drop 2),decide (0<=dg (r.drop 2))&&decide (dg (r.drop 2)<=40))
def YP (r:W):Bool:=(numOf r).2.2||(J8 r).2
def Z6:W->W->Nat
 | a::r,b::s=>(if a=b then 0 else 1)+Z6 r s
 | _,_=>0
def fits (l r:W):Bool:=YP r&&decide (l.length=r.length+4)&&decide (Z6 l (QO r)<=1)
def Qmk (want:Int) (r:W) (i:Nat):Int:=((want-(S1 (r.take i++[32]++r.drop (i+1))).tmod 97).tmod 97+97).tmod 97
def fix (want:Int) (r:W) (i:Nat):W:=r.take i++[UInt8.ofNat (32+Qmk want r i).toNat]++r.drop (i+1)
def YY (l:W):Option W :=
 if l.length<6 then none else
 let r:=l.take (l.length-4)
 if fits l r then some r else
 let want:=dg ((l.drop (l.length-4)).take 2)
 if want<0 then none else
 ((List.range r.length).find? fun i=>fits l (fix want r i)).map fun i=>fix want r i
theorem Qfc (c:UInt8):c.toNat<256:=c.toNat_lt
theorem QdJ (c:UInt8) : -32<=v1 c/\v1 c<=223:=by have:=Qfc c;unfold v1;omega
theorem Qty (s:W) : -32*(s.length:Int)<=S1 s/\S1 s<=223*(s.length:Int):=by
 induction s with
 | nil=>simp[S1]
 | cons c s ih=>have:=QdJ c;simp only[S1,QKk];omega
theorem Qcm (s t:W):S1 (s++t)=S1 s+S1 t:=by
 induction s with
 | nil=>simp[S1]
 | cons c s ih=>simp only[QJ8,S1,ih];omega
theorem QgT (s t:W) (k:Nat):S2 k (s++t)=S2 k s+S2 (k+s.length) t:=by
 induction s generalizing k with
 | nil=>simp[S2]
 | cons c s ih=>simp only[QJ8,S2,ih,QKk];grind
theorem Qtx (s:W) (k:Nat) (hk:k+s.length<=200001) : -7000000*(s.length:Int)<=S2 k s/\S2 k s<=50000000*(s.length:Int):=by
 induction s generalizing k with
 | nil=>simp[S2]
 | cons c s ih =>
   simp only[QKk] at hk;have h1:=ih (k+1) (by omega)
   obtain ⟨h2,h3⟩:=QdJ c;simp only[S2,QKk];have e1:v1 c*(k:Int)<=223*(k:Int):=QKo h3 (by omega)
   have e2 : -32*(k:Int)<=v1 c*(k:Int):=QKo h2 (by omega)
   omega
theorem QjH {n:Int} (h : -2147483648<=n) (h':n<=2147483647):IntKind.wrap .i32 n=n:=by
 unfold IntKind.wrap;simp[IntKind.bits,IntKind.signed];omega
theorem QjL (a b:UInt8):((a.toNat:Int)=b.toNat)=(a=b):=by
 apply propext;constructor
 ·intro h
  exact UInt8.toNat_inj.1 (by omega)
 grind
theorem QxK (s:W) (i:Nat) (h:i<s.length) (hc:s[i].toNat<128):Qqo s i=(s[i].toNat,1):=by
 unfold Qqo Utf8.decode;have e:(ByteArray.get! ⟨s.toArray⟩ (i+0)).toNat=s[i].toNat:=by simp[ByteArray.get!,h]
 simp_all
theorem QxL (s:W) (i:Nat) (h:i<s.length) (hc:128<=s[i].toNat):128<=(Qqo s i).1:=by
 unfold Qqo Utf8.decode;have e:(ByteArray.get! ⟨s.toArray⟩ (i+0)).toNat=s[i].toNat:=by simp[ByteArray.get!,h]
 simp only[e];rw[if_neg (by omega)]
 repeat' split
 all_goals first
  | (simp only[Utf8.runeError];omega)
  | (simp at *;omega)
@[simp] theorem QHG (c:UInt8):IntKind.i64.wrap (c.toNat:Int)=c.toNat:=by have:=Qfc c;exact wrap_i64 (by omega) (by omega)
@[simp] theorem QC2 (c:UInt8):IntKind.i64.wrap ((c.toNat:Int)-48)=c.toNat-48:=by have:=Qfc c;exact wrap_i64 (by omega) (by omega)
theorem QeX {α:Type} {p:α->Bool} {l:List α} {i:Nat} (hi:i<l.length) (h:(l.take i).all p=true) (h':p l[i]=true):(l.take (i+1)).all p=true:=by
 rw[QJV hi,List.all_append,h];simp[h']
theorem W5 {α:Type} {p:α->Bool} {l:List α} {i:Nat} (hi:i<l.length) (h':p l[i]=false):l.all p=false:=by
 grind
theorem QCl (s:W) (i:Nat) (hi:i<s.length):S1 (s.take (i+1))=S1 (s.take i)+v1 s[i]/\S2 1 (s.take (i+1))=S2 1 (s.take i)+v1 s[i]*((i:Int)+1):=by
 rw[QJV hi,Qcm,QgT];have:(s.take i).length=i:=by simp;omega
 simp only[S1,S2,this]
 grind
theorem QgA:∀ (a b:W) (i:Nat) (h:i<a.length) (h':i<b.length),Z6 (a.take (i+1)) b=Z6 (a.take i) b+if a[i]=b[i] then 0 else 1
 | [],_,i,h,_=>by simp at h
 | x::a,[],i,_,h'=>by simp at h'
 | x::a,y::b,0,_,_=>by simp[Z6]
 | x::a,y::b,i+1,h,h'=>by
   have:=QgA a b i (by simpa using h) (by simpa using h')
   simp only[List.take_succ_cons,Z6,this,List.getElem_cons_succ];omega
theorem QxH (a b:W):Z6 a b<=a.length:=by
 induction a generalizing b with
 | nil=>simp[Z6]
 | cons x a ih =>
   cases b with
   | nil=>simp[Z6]
   | cons y b=>have:=ih b;simp only[Z6,QKk];grind
theorem QzE {s:W} (h:tx s=true):∀ c∈s,32<=c.toNat/\c.toNat<=126:=by
 intro c hc;simp only[tx,QJY,QKw,decide_eq_true_eq] at h;exact h.1 c hc
def plain (s:W):Prop:=∀ c∈s,32<=c.toNat/\c.toNat<=126
theorem Qqe {s:W} (h:plain s):0<=S1 s:=by
 induction s with
 | nil=>simp[S1]
 | cons c s ih =>
   have:=ih (fun c hc=>h c (QLj _ hc))
   have:=h c (by simp)
   simp only[S1,v1];omega
theorem QCm {s:W} (h:plain s) (k:Nat):0<=S2 k s:=by
 induction s generalizing k with
 | nil=>simp[S2]
 | cons c s ih =>
   have:=ih (fun c hc=>h c (QLj _ hc)) (k+1)
   have:=h c (by simp)
   have hv:0<=v1 c:=by simp only[v1];omega
   have:=QKY hv (show (0:Int)<=k by omega)
   simp only[S2];omega
theorem QkJ {s:W} (h:0<=dg s):plain s:=by
 match s with
 | []=>simp[dg] at h
 | [a]=>simp[dg] at h
 | [a,b] =>
   simp only[dg] at h;split at h
   ·rename_i hd
    simp only[QvH,QJY,decide_eq_true_eq] at hd;intro c hc
    grind
   omega
 | a::b::c::s=>simp[dg] at h
theorem Vq {r:W} (h:YP r=true):plain r/\r.length<=62/\2<=r.length:=by
 simp only[YP,QLe] at h;rcases h with h | h
 ·unfold numOf at h
  split at h
  ·simp at h
  rename_i hc;simp only[QLe,decide_eq_true_eq,QKu,not_or,Bool.not_eq_false] at hc;simp only[QJY,decide_eq_true_eq] at h;have h1:=QkJ h.1;have h2:=QzE hc.2
  have h3:(r.drop 2).length<=60:=by
   have:=hc.2;simp only[tx,QJY,decide_eq_true_eq] at this;exact this.2
  simp at h3;refine ⟨fun c hc=>?_,by omega,by omega⟩
  rw[<- QKU 2 r] at hc;rcases QKa.1 hc with hc | hc
  ·exact h1 c hc
  exact h2 c hc
 ·unfold J8 at h
  split at h
  ·simp at h
  ·rename_i hc
   simp only[QLe,decide_eq_true_eq,not_or,ne_eq,Decidable.not_not] at hc;simp only[QJY,decide_eq_true_eq] at h;have h1:=QkJ h.1;refine ⟨fun c hc'=>?_,by omega,by omega⟩
   rw[<- QKU 2 r,hc.2] at hc';rcases QKa.1 hc' with hc' | hc'
   ·simp_all
   ·exact h1 c hc'
theorem Xu (r:W):(QO r).length=r.length+4:=by simp[QO,two]
end Go.Bk
namespace Go.Bk
open Go Go.Ev Go.Proofs Go.RowKit Go.Proofs.Tryz
variable {K:World->Prop} (hK:∀ w w',K w->Below w.heap.size w w'->K w')
open Go.Pf (Gd c167_ok c168_ok c28_ok c54_ok c57_ok c58_ok)
set_option maxRecDepth 8000
include hK
theorem qk (s:W) (h:s.length=2):Gd K 168 [.str s] (.int .i64 (dg s)):=by
 refine Qb hK c168_ok (by simp) ?_
 match s,h with
 | [a,b],_ =>
   have ha:=Qfc a;have hb:=Qfc b;simp[dg,QvH];omega
theorem QA0 (s:W) (hs:s.length<=1000000):Gd K 54 [.str s] (.bool (tx s)):=by
 refine Qb hK c54_ok (by simp) ?_
 simp;refine Qi (fun i=>[(0,AV.iv (IV.str s)),(3,AV.iv (IV.int IntKind.i64 (i:Nat)))]) (fun _=>[]) s.length (fun i=>(s.take i).all (fun c=>decide (32<=c.toNat)&&decide (c.toNat<=126))=true) (by simp) ?_ ?_
 ·intro h
  rw[Qa Go.Pf.c54_b0.eq_1];rw[QJ5] at h;simp[tx,h];omega
 ·intro i hi h ih
  have hc:=Qfc s[i];rw[Qa Go.Pf.c54_b0.eq_1];by_cases h1:32<=s[i].toNat
  ·by_cases h2:s[i].toNat<=126
   ·have:=ih (QeX hi h (by simp[h1,h2]))
    simp[hi] at this |-
    repeat' (first | omega | assumption | intro _ | apply And.intro)
   have e:=W5 (p:=fun c:UInt8=>decide (32<=c.toNat)&&decide (c.toNat<=126)) hi (by simp[h2])
   simp[hi,tx,e];omega
  ·have e:=W5 (p:=fun c:UInt8=>decide (32<=c.toNat)&&decide (c.toNat<=126)) hi (by simp[h1])
   simp[hi,tx,e];omega
theorem Qud (s:W) (hs:s.length<=1000000):Gd K 28 [.str s] (.bool (tx s)):=by
 refine Qb hK c28_ok (by simp) ?_
 simp;refine Qi (fun i=>[(0,AV.iv (IV.str s)),(6,AV.yo 6)]) (fun i=>[(6,AO.siter s i)]) s.length (fun i=>(s.take i).all (fun c=>decide (32<=c.toNat)&&decide (c.toNat<=126))=true) (by simp) ?_ ?_
 ·intro h
  rw[Qa Go.Pf.c28_b0.eq_1];rw[QJ5] at h;simp[tx,h];omega
 ·intro i hi h ih
  have hc:=Qfc s[i];rw[Qa Go.Pf.c28_b0.eq_1];by_cases h0:s[i].toNat<128
  ·have hd:=QxK s i hi h0
   by_cases h1:32<=s[i].toNat
   ·by_cases h2:s[i].toNat<=126
    ·have:=ih (QeX hi h (by simp[h1,h2]))
     simp[hi,hd] at this |-
     repeat' (first | omega | assumption | intro _ | apply And.intro)
    have e:=W5 (p:=fun c:UInt8=>decide (32<=c.toNat)&&decide (c.toNat<=126)) hi (by simp[h2])
    simp[hi,hd,tx,e];omega
   have e:=W5 (p:=fun c:UInt8=>decide (32<=c.toNat)&&decide (c.toNat<=126)) hi (by simp[h1])
   simp[hi,hd,tx,e];omega
  ·have hd:=QxL s i hi (by omega)
   have e:=W5 (p:=fun c:UInt8=>decide (32<=c.toNat)&&decide (c.toNat<=126)) hi (by simp;omega)
   simp[hi,tx,e];omega
theorem Qt7 (s:W) (hs:s.length<=100000):Gd K 57 [.str s] (.xh [.int .i64 ((S1 s).tmod 97),.int .i64 ((S2 1 s).tmod 97)]):=by
 refine Qb hK c57_ok (by simp) ?_
 simp;refine XZ (fun i=>[(0,AV.iv (IV.str s)),(2,AV.iv (IV.int IntKind.i64 (S1 (s.take i)))),(3,AV.iv (IV.int IntKind.i64 (S2 1 (s.take i)))),(7,AV.iv (IV.int IntKind.i64 (s.length:Nat))),(8,AV.iv (IV.int IntKind.i64 (i:Nat)))]) (fun _=>[]) s.length ?_ ?_
 ·rw[Qa Go.Pf.c57_b0.eq_1]
  simp
 ·intro i hi ih
  obtain ⟨e1,e2⟩:=QCl s i hi;have r1:=Qty (s.take (i+1));have r2:=Qtx (s.take (i+1)) 1 (by simp;omega)
  have q1:((s.take (i+1)).length:Int)<=100000:=by simp;omega
  obtain ⟨r3,r4⟩:=QdJ s[i];have q2:v1 s[i]*((i:Int)+1)<=223*((i:Int)+1):=QKo r4 (by omega)
  have q3 : -32*((i:Int)+1)<=v1 s[i]*((i:Int)+1):=QKo r3 (by omega)
  rw[Qa Go.Pf.c57_b0.eq_1];rw[e1,e2] at ih;rw[e1] at r1;rw[e2] at r2;have ev:((s[i].toNat:Int)-32)=v1 s[i]:=rfl;simp[hi,ev] at ih |-
  repeat' (first | omega | assumption | intro _ | apply And.intro)
theorem Qkw (n:Nat) (hn:n<100):Gd K 58 [.int .i64 (n:Nat)] (.str (two n)):=by
 refine Qb hK c58_ok (by simp) ?_
 have h1:((n:Int)).tdiv 10=(n:Int) / 10:=QKD (by omega)
 have h2:((n:Int)).tmod 10=(n:Int) % 10:=QKM (by omega)
 have w1:IntKind.i32.wrap (48+(n:Int) / 10)=48+(n:Int) / 10:=QjH (by omega) (by omega)
 have w2:IntKind.i32.wrap (48+(n:Int) % 10)=48+(n:Int) % 10:=QjH (by omega) (by omega)
 have t1:(48+(n:Int) / 10).toNat=48+n / 10:=by omega
 have t2:(48+(n:Int) % 10).toNat=48+n % 10:=by omega
 simp[h1,h2,two,Yt,WX,w1,w2,t1,t2];omega
theorem Qof (a b:W) (h:a.length<=b.length) (hb:b.length<=1000000):Gd K 167 [.str a,.str b] (.int .i64 (Z6 a b:Nat)):=by
 refine Qb hK c167_ok (by simp) ?_
 simp;refine XZ (fun i=>[(0,AV.iv (IV.str a)),(1,AV.iv (IV.str b)),(5,AV.iv (IV.int IntKind.i64 (Z6 (a.take i) b:Nat))),(8,AV.iv (IV.int IntKind.i64 (a.length:Nat))),(9,AV.iv (IV.int IntKind.i64 (i:Nat)))]) (fun _=>[]) a.length ?_ ?_
 ·rw[Qa Go.Pf.c167_b0.eq_1]
  simp
 ·intro i hi ih
  have hi':i<b.length:=by omega
  have e:=QgA a b i hi hi';have l:=QxH (a.take i) b;rw[QKV] at l;rw[Qa Go.Pf.c167_b0.eq_1];have hne:=QjL a[i] b[i];by_cases hc:a[i]=b[i]
  ·rw[if_pos hc] at e
   rw[e] at ih;simp[hi,hi',hne,hc] at ih |-
   repeat' (first | omega | assumption | intro _ | apply And.intro)
  ·rw[if_neg hc] at e
   rw[e] at ih;simp[hi,hi',hne,hc] at ih |-
   repeat' (first | omega | assumption | intro _ | apply And.intro)
end Go.Bk
namespace Go.Bk
open Go Go.Ev Go.Proofs Go.RowKit Go.Proofs.Tryz
variable {K:World->Prop} (hK:∀ w w',K w->Below w.heap.size w w'->K w')
open Go.Pf (Gd c166_ok c29_ok c56_ok)
set_option maxRecDepth 8000
theorem Wl {a:UInt8} (h:QvH a=true):48<=a.toNat/\a.toNat<=57:=by simpa[QvH] using h
theorem QtF {s:W} (h:0<=dg s):two (dg s).toNat=s:=by
 match s with
 | []=>simp[dg] at h
 | [a]=>simp[dg] at h
 | [a,b] =>
   simp only[dg] at h |-;split at h
   ·rename_i hd
    simp only[QJY] at hd;obtain ⟨h1,h2⟩:=Wl hd.1;obtain ⟨h3,h4⟩:=Wl hd.2;rw[if_pos (by simp[hd])]
    have e:(10*((a.toNat:Int)-48)+((b.toNat:Int)-48)).toNat=10*(a.toNat-48)+(b.toNat-48):=by omega
    rw[e];have e1:48+(10*(a.toNat-48)+(b.toNat-48)) / 10=a.toNat:=by omega
    have e2:48+(10*(a.toNat-48)+(b.toNat-48)) % 10=b.toNat:=by omega
    simp only[two,e1,e2,UInt8.ofNat_toNat]
   omega
 | a::b::c::s=>simp[dg] at h
theorem QEc (s:W):dg s<100 /\ -1<=dg s:=by
 match s with
 | []=>simp[dg]
 | [a]=>simp[dg]
 | [a,b] =>
   simp only[dg];split
   ·rename_i hd
    simp only[QJY] at hd;obtain ⟨h1,h2⟩:=Wl hd.1;obtain ⟨h3,h4⟩:=Wl hd.2;omega
   omega
 | a::b::c::s=>simp[dg]
theorem Qb8 {n:Nat} (h:n<100):dg (two n)=n:=by
 have e1:(UInt8.ofNat (48+n / 10)).toNat=48+n / 10:=by simp only[UInt8.toNat_ofNat'];omega
 have e2:(UInt8.ofNat (48+n % 10)).toNat=48+n % 10:=by simp only[UInt8.toNat_ofNat'];omega
 simp only[two,dg,QvH,e1,e2];rw[if_pos (by simp;omega)]
 omega
def Qm (s:W):(Int × W × Bool) × Bool :=
 if s.length<2 then ((0,[],false),false)
 else if s.take 2=[46,46] then
  (if s.length=4 then ((dg (s.drop 2),[],true),decide (0<=dg (s.drop 2))&&decide (dg (s.drop 2)<=40)) else ((0,[],false),false))
 else ((dg (s.take 2),s.drop 2,false),decide (0<=dg (s.take 2))&&decide (dg (s.take 2)<40)&&tx (s.drop 2))
def J6 (n:Nat) (t:W) (c:Bool):W:=if c then [46,46]++two n else two n++t
@[simp] def QAl (p:Int × W × Bool):IV:=.agg [.int .i64 p.1,.str p.2.1,.bool p.2.2]
theorem JO {s:W} (hp:s.take 2=[46,46]) (h4:s.length=4):Qm s=((dg (s.drop 2),[],true),decide (0<=dg (s.drop 2))&&decide (dg (s.drop 2)<=40)):=by
 unfold Qm;simp_all
theorem Vv {s:W} (h2:¬ s.length<2) (hp:s.take 2=[46,46]) (h4:s.length≠4):Qm s=((0,[],false),false):=by
 unfold Qm;simp_all
theorem VY {s:W} (h2:¬ s.length<2) (hp:s.take 2≠[46,46]):Qm s=((dg (s.take 2),s.drop 2,false),decide (0<=dg (s.take 2))&&decide (dg (s.take 2)<40)&&tx (s.drop 2)):=by
 unfold Qm;rw[if_neg h2,if_neg hp]
theorem Uw {s:W} (h2:s.length<2):Qm s=((0,[],false),false):=by
 unfold Qm;rw[if_pos h2]
theorem Vu (s:W):(Qm s).2=YP s:=by
 unfold YP;by_cases h2:s.length<2
 ·have h4:s.length≠4:=by omega
  rw[Uw h2];simp[numOf,J8,h2,h4]
 by_cases hp:s.take 2=[46,46]
 ·have hd:dg (s.take 2) = -1:=by rw[hp];decide
  have hn:(numOf s).2.2=false:=by
   unfold numOf;split
   all_goals simp_all
  by_cases h4:s.length=4
  ·rw[JO hp h4,hn]
   simp[J8,h4,hp]
  rw[Vv h2 hp h4,hn];simp[J8,h4]
 rw[VY h2 hp];have hm:(J8 s).2=false:=by simp[J8,hp]
 rw[hm];by_cases hx:tx (s.drop 2)=true
 ·simp[numOf,hx,h2]
 simp[numOf,hx]
theorem QfQ {s:W} (h:YP s=true):0<=(Qm s).1.1/\(Qm s).1.1<=40/\J6 (Qm s).1.1.toNat (Qm s).1.2.1 (Qm s).1.2.2=s:=by
 rw[<- Vu] at h;by_cases h2:s.length<2
 ·rw[Uw h2] at h;cases h
 ·by_cases hp:s.take 2=[46,46]
  ·by_cases h4:s.length=4
   ·rw[JO hp h4] at h |-
    simp only[QJY,decide_eq_true_eq] at h;refine ⟨h.1,h.2,?_⟩;simp only[J6,if_true,QtF h.1];rw[<- hp,QKU]
   rw[Vv h2 hp h4] at h;cases h
  ·rw[VY h2 hp] at h |-
   simp only[QJY,decide_eq_true_eq] at h;refine ⟨h.1.1,by grind,?_⟩
   simp only[J6,QKq,if_false,QtF h.1.1,QKU]
theorem Qhp {l:W} (h:l.length<6):YY l=none:=by unfold YY;rw[if_pos h]
theorem WZ {l r:W} (h:¬ l.length<6) (hr:l.take (l.length-4)=r) (hf:fits l r=true):YY l=some r:=by
 subst hr;unfold YY;grind
theorem QcX {l r:W} (h:¬ l.length<6) (hr:l.take (l.length-4)=r) (hf:fits l r=false) (hd:dg ((l.drop (l.length-4)).take 2)<0):YY l=none:=by
 subst hr;unfold YY;grind
theorem Ju {l r:W} {want:Int} (h:¬ l.length<6) (hr:l.take (l.length-4)=r) (hf:fits l r=false) (hw:dg ((l.drop (l.length-4)).take 2)=want) (hd:¬ want<0) :
  YY l=((List.range r.length).find? fun i=>fits l (fix want r i)).map fun i=>fix want r i:=by
 subst hr hw;unfold YY;grind
theorem Qxu {p:Nat->Bool} {n i:Nat} (hi:i<n) (h:∀ j,j<i->p j=false) (hp:p i=true):(List.range n).find? p=some i:=by
 simp_all
theorem Qew {p:Nat->Bool} {n:Nat} (h:∀ j,j<n->p j=false):(List.range n).find? p=none:=by
 grind
theorem QlQ (want:Int) (r:W) (i:Nat):0<=Qmk want r i/\Qmk want r i<97:=by
 unfold Qmk;generalize want-_=x;have h1:=QLP x (show (0:Int)<97 by omega)
 have h2 : -97<x.tmod 97:=by
  grind
 rw[QKM (by omega)]
 omega
theorem Qon (want:Int) (r:W) (i:Nat) (h:i<r.length):(fix want r i).length=r.length:=by
 simp[fix];omega
include hK
theorem QAY (n:Nat) (t:W) (c:Bool) (hn:n<100) (ht:t.length<=1000000):Gd K 56 [QAl ((n:Nat),t,c)] (.str (J6 n t c)):=by
 refine Qb hK c56_ok (by simp) ?_
 have la:(two n).length=2:=rfl;cases c with
 | true =>
   simp;refine Qe (Qkw hK n hn) (by simp) ?_
   simp[la,J6]
 | false =>
   simp;refine Qe (Qkw hK n hn) (by simp) ?_
   simp[la,J6];omega
theorem Qn1 (n:Nat) (t:W) (c:Bool) (hn:n<100) (h:plain (J6 n t c)) (hl:(J6 n t c).length<=1000) (ht:t.length<=1000):Gd K 29 [QAl ((n:Nat),t,c)] (.str (QO (J6 n t c))):=by
 refine Qb hK c29_ok (by simp) ?_
 have g58:=QAY hK n t c hn (by omega)
 simp at g58 |-;refine Qe g58 (by simp) ?_
 generalize J6 n t c=r at *;simp;refine Qe (Qt7 hK r (by omega)) (by simp) ?_
 simp;have e1:(S1 r).tmod 97=((S1 r % 97).toNat:Nat):=by rw[QKM (Qqe h)];omega
 have e2:(S2 1 r).tmod 97=((S2 1 r % 97).toNat:Nat):=by rw[QKM (QCm h 1)];omega
 rw[e1,e2];have el:QO r=r++two (S1 r % 97).toNat++two (S2 1 r % 97).toNat:=rfl;rw[el];have h1:(S1 r % 97).toNat<100:=by omega
 have h2:(S2 1 r % 97).toNat<100:=by omega
 generalize (S1 r % 97).toNat=a at *;generalize (S2 1 r % 97).toNat=b at *;refine Qe (Qkw hK a h1) (by simp) ?_
 have la:(two a).length=2:=rfl;have lb:(two b).length=2:=rfl;simp[la];refine ⟨by omega,Qe (Qkw hK b h2) (by simp) ?_⟩
 simp[la,lb];omega
theorem Qog (s:W) (h:s.length<=1000000):Gd K 166 [.str s] (.xh [QAl (Qm s).1,.bool (Qm s).2]):=by
 refine Qb hK c166_ok (by simp) ?_
 by_cases h2:s.length<2
 ·have hi:((s.length:Int)<2):=by omega
  rw[Uw h2];simp[hi]
 ·have hi:¬ ((s.length:Int)<2):=by omega
  have hi':(2:Int)<=(s.length:Int):=by omega
  by_cases hp:s.take 2=[46,46]
  ·by_cases h4:s.length=4
   ·have hi4:((s.length-2:Nat):Int)=2:=by omega
    rw[JO hp h4];simp[hi,hi',hp,hi4];refine Qe (qk hK (s.drop 2) (by simp;omega)) (by simp) ?_
    by_cases hd:0<=dg (s.drop 2)<;>simp[hd]
   have hi4:¬ ((s.length-2:Nat):Int)=2:=by omega
   rw[Vv h2 hp h4];simp[hi,hi',hp,hi4]
  ·rw[VY h2 hp]
   simp[hi,hi',hp];refine Qe (qk hK (s.take 2) (by simp;omega)) (by simp) ?_
   by_cases hd:0<=dg (s.take 2)
   ·by_cases hd4:dg (s.take 2)<40
    ·simp[hd,hd4]
     refine Qe (Qud hK (s.drop 2) (by simp;omega)) (by simp) ?_
     simp
    simp[hd,hd4]
   ·simp[hd]
end Go.Bk
namespace Go.Bk
open Go Go.Ev Go.Proofs Go.RowKit Go.Proofs.Tryz
variable {K:World->Prop} (hK:∀ w w',K w->Below w.heap.size w w'->K w')
open Go.Pf (Gd c80_b0 c80_ok)
set_option maxRecDepth 8000
theorem WB:∀ (a b:W),Z6 a b=Z6 b a
 | [],b=>by cases b<;>rfl
 | x::a,[]=>rfl
 | x::a,y::b=>by
   simp only[Z6,WB a b]
   grind
theorem Yk (a:W):Z6 a a=0:=by
 induction a with
 | nil=>rfl
 | cons x a ih=>simp[Z6,ih]
theorem Yv:∀ (a b c d:W),a.length=b.length->Z6 (a++c) (b++d)=Z6 a b+Z6 c d
 | [],[],c,d,_=>by simp[Z6]
 | x::a,y::b,c,d,h=>by
   simp only[QJ8,Z6,Yv a b c d (by simpa using h)]
   omega
 | [],y::b,c,d,h=>by simp at h
 | x::a,[],c,d,h=>by simp at h
theorem Xg:∀ (a b:W),a.length=b.length->Z6 a b=0->a=b
 | [],[],_,_=>rfl
 | x::a,y::b,h,hd=>by
   simp only[Z6] at hd
   have h1:x=y:=by
    grind
   have h2:=Xg a b (by simpa using h) (by omega)
   rw[h1,h2]
 | [],y::b,h,_=>by simp at h
 | x::a,[],h,_=>by simp at h
theorem QsJ (want:Int) (r:W) (i:Nat) (h:i<r.length):Z6 r (fix want r i)<=1:=by
 have e:r=r.take i++([r[i]]++r.drop (i+1)):=by simp
 have e2:fix want r i=r.take i++([UInt8.ofNat (32+Qmk want r i).toNat]++r.drop (i+1)):=by simp[fix]
 rw[e2]
 conv=>lhs;arg 1;rw[e]
 rw[Yv _ _ _ _ rfl,Yk,Yv [r[i]] [UInt8.ofNat (32+Qmk want r i).toNat] _ _ rfl,Yk];simp only[Z6];split<;>omega
theorem QkC {l r:W} {want:Int} {i:Nat} (h4:4<=l.length) (hr:l.take (l.length-4)=r) (hf:fits l r=false) (hi:i<r.length) :
  fits l (fix want r i)=(YP (fix want r i)&&decide (QO (fix want r i)=fix want r i++l.drop (l.length-4))):=by
 have hrl:r.length=l.length-4:=by grind
 have hfl:=Qon want r i hi;have hl:l=r++l.drop (l.length-4):=by rw[<- hr];simp
 have hdl:(l.drop (l.length-4)).length=4:=by simp;omega
 generalize hq:fix want r i=q at *;have xf:QO q=q++(two (S1 q % 97).toNat++two (S2 1 q % 97).toNat):=by simp[QO]
 generalize hdd:two (S1 q % 97).toNat++two (S2 1 q % 97).toNat=dd at xf;have hddl:dd.length=4:=by rw[<- hdd];rfl
 have hdf:=QsJ want r i hi;rw[hq] at hdf;by_cases hrow:YP q=true;rotate_left
 ·have:YP q=false:=by simpa using hrow
  simp[fits,this]
 ·have hlen:l.length=q.length+4:=by omega
  unfold fits;simp only[hrow,hlen,decide_true,Bool.true_and];rw[xf]
  have hd:Z6 l (q++dd)=Z6 r q+Z6 (l.drop (l.length-4)) dd:=by
   conv=>lhs;rw[hl]
   exact Yv _ _ _ _ (by omega)
  rw[<- hlen,hd];by_cases heq:dd=l.drop (l.length-4)
  ·rw[<- heq,Yk]
   simp;exact hdf
  ·have hne:¬ (q++dd=q++l.drop (l.length-4)):=fun e=>heq (List.append_cancel_left e)
   have h1:Z6 (l.drop (l.length-4)) dd≠0:=fun e=>heq (Xg _ _ (by omega) e).symm
   by_cases h2:Z6 r q=0
   ·have hrq:=Xg _ _ hfl.symm h2
    rw[hrq] at hf;have:fits l q=decide (Z6 l (QO q)<=1):=by unfold fits;simp only[hrow,hlen,decide_true,Bool.true_and]
    rw[this,xf,hd,h2,decide_eq_false_iff_not] at hf;simp[hne];omega
   ·simp[hne]
    omega
theorem Qa9 {l r:W} (h6:¬ l.length<6) (hr:l.take (l.length-4)=r) (hf:fits l r=false) (hw:¬ dg ((l.drop (l.length-4)).take 2)<0) (hz:dg ((l.drop (l.length-4)).drop 2)<0):YY l=none:=by
 rw[Ju h6 hr hf rfl hw,Qew]
 ·rfl
 ·intro j hj
  rw[QkC (by omega) hr hf hj]
  generalize fix _ r j=q;by_cases hrow:YP q=true
  ·rw[hrow,Bool.true_and,decide_eq_false_iff_not]
   intro he;have xf:QO q=q++(two (S1 q % 97).toNat++two (S2 1 q % 97).toNat):=by simp[QO]
   rw[xf] at he;have he2:=List.append_cancel_left he;rw[<- he2] at hz;have e1:(two (S1 q % 97).toNat++two (S2 1 q % 97).toNat).drop 2=two (S2 1 q % 97).toNat:=rfl;rw[e1,Qb8 (by omega)] at hz
   omega
  grind
def Xr (l:W):Int × W × Bool:=match YY l with
 | some r=>(Qm r).1
 | none=>(0,[],false)
include hK
theorem Qem (r:W) (hrow:YP r=true):Gd K 29 [QAl (Qm r).1] (.str (QO r)):=by
 obtain ⟨q1,q2,q3⟩:=QfQ hrow;obtain ⟨h1,h2,h3⟩:=Vq hrow;generalize hP:(Qm r).1=P at *;obtain ⟨pn,pt,pc⟩:=P;simp only at q1 q2 q3;obtain ⟨m,rfl⟩:∃ m:Nat,pn=m:=⟨pn.toNat,by omega⟩
 rw[QKB] at q3
 have htl:pt.length<=1000:=by
  have:=congrArg List.length q3;unfold J6 at this;split at this
  ·rename_i hc
   have:pt=[]:=by
    have hP':=hP;unfold Qm at hP'
    repeat' (split at hP')
    all_goals (injection hP' with x1 x2;injection x2 with x2 x3)
    ·exact x2.symm
    ·exact x2.symm
    ·exact x2.symm
    grind
   rw[this];simp
  grind
 have g41:=Qn1 hK m pt pc (by omega) (by grind) (by rw[q3];omega) htl
 grind
def k62:List AI:=[.inBlock 0,.code (.seq (.ops [⟨some 109,none,.bld [.int .i64 0,.str [],.bool false] []⟩,⟨none,none,.sto 2 3 (.t 2) (.t 109)⟩,⟨some 3,none,.xi (.bool false)⟩] false) .ret)]
theorem QtZ (l r:W) (R:Option W) (S:Int × W × Bool) (want:Int) (hl:l.length<=10000) (h6:¬ l.length<6) (hrl:r.length=l.length-4) (hr:l.take (l.length-4)=r) (hf':fits l r=false)
  (hw:dg ((l.drop (l.length-4)).take 2)=want) (hd:¬ want<0) (hR:YY l=R) (hS:Xr l=S) :
  XB prog K (FnF (QgU [Qcp.cell 2 3 true,Qcp.tmp 3] (.xh [.agg [.int .i64 S.1,.str S.2.1,.bool S.2.2],.bool R.isSome]))) c80_b0 [0,2,4,7,60,61] [2] k62
   [(0,.iv (.str l)),(2,.loc 2 0),(4,.iv (.str r)),(7,.iv (.int .i64 want)),(60,.iv (.int .i64 (r.length:Nat))),(61,.iv (.int .i64 0))]
   [(2,.box [.iv (.int .i64 0),.iv (.str []),.iv (.bool false)])]:=by
 rw[Ju h6 hr hf' hw hd] at hR;have hwr:=QEc ((l.drop (l.length-4)).take 2);rw[hw] at hwr;refine Qi (fun i=>[(0,AV.iv (.str l)),(2,.loc 2 0),(4,.iv (.str r)),(7,.iv (.int .i64 want)),(60,.iv (.int .i64 (r.length:Nat))),(61,.iv (.int .i64 (i:Nat)))]) (fun _=>[(2,AO.box [.iv (.int .i64 0),.iv (.str []),.iv (.bool false)])]) r.length (fun i=>∀ j,j<i->fits l (fix want r j)=false) (by simp) ?_ ?_
 ·intro hq
  rw[Qa Go.Pf.c80_b0.eq_1];rw[Qew hq] at hR
  have hS':Xr l=(0,[],false):=by
   unfold Xr;rw[Ju h6 hr hf' hw hd,Qew hq];rfl
  rw[hS'] at hS;subst hR hS;simp[k62]
 ·intro i hi hq ih
  have hir:(i:Int)<(r.length:Int):=by omega
  rw[Qa Go.Pf.c80_b0.eq_1];have hfl:=Qon want r i hi;have hfr:=QlQ want r i;have hset:r.set i 32=r.take i++[32]++r.drop (i+1):=by rw[List.set_eq_take_append_cons_drop,if_pos hi];simp
  have hfixv:Qmk want r i=((want-(S1 (r.set i 32)).tmod 97).tmod 97+97).tmod 97:=by rw[hset];rfl
  have hfix:r.set i (UInt8.ofNat (32+Qmk want r i).toNat)=fix want r i:=by rw[List.set_eq_take_append_cons_drop,if_pos hi];simp[fix]
  have g59:=Qt7 hK (r.set i 32) (by simp;omega)
  generalize hs2:(S2 1 (r.set i 32)).tmod 97=s2 at *;generalize hs1:(S1 (r.set i 32)).tmod 97=s1 at *
  have hs1a : -97<s1/\s1<97:=by
   rw[<- hs1]
   exact ⟨by
    have:=QLP (-(S1 (r.set i 32))) (show (0:Int)<97 by omega)
    rw[Int.neg_tmod] at this;omega,QLP _ (by omega)⟩
  have hm : -97<(want-s1).tmod 97/\(want-s1).tmod 97<97:=⟨by
    have:=QLP (-(want-s1)) (show (0:Int)<97 by omega)
    rw[Int.neg_tmod] at this;omega,QLP _ (by omega)⟩
  have hw8:IntKind.u8.wrap (Qmk want r i)=Qmk want r i:=QuG (by omega) (by omega)
  simp[hi,hir];refine ⟨by omega,Qe g59 (by simp) ?_⟩
  simp[hi,<- hfixv,hw8,hfix]
  repeat' (first | omega | apply And.intro)
  have g72:=Qog hK (fix want r i) (by omega)
  simp at g72;refine Qe g72 (by simp) ?_
  rw[Vu];have hfx:=QkC (want:=want) (by omega) hr hf' hi
  have hdl:((r.length:Int)).toNat=l.length-4:=by omega
  have hfd:(l.drop (l.length-4)).length=4:=by simp;omega
  by_cases hrow:YP (fix want r i)=true;rotate_left
  ·have hrow':YP (fix want r i)=false:=by simpa using hrow
   rw[hrow'] at hfx;simp only[Bool.false_and] at hfx
   have:=ih (fun j hj=>by
    rcases QLu.1 hj with h | h
    ·exact hq j h
    subst h;exact hfx)
   simp[hrow'] at this |-;exact ⟨by omega,this⟩
  ·have g41:=Qem hK (fix want r i) hrow
   simp at g41;simp[hrow];refine Qe g41 (by simp) ?_
   simp[hrl];rw[hrow,Bool.true_and] at hfx;refine ⟨by omega,fun hE=>?_,fun hE=>⟨by omega,?_⟩⟩
   ·have hfi:fits l (fix want r i)=true:=by rw[hfx];simp[hE]
    have hfd':=Ju h6 hr hf' hw hd;rw[Qxu hi hq hfi] at hR hfd'
    have hS':Xr l=(Qm (fix want r i)).1:=by
     unfold Xr;rw[hfd'];rfl
    rw[hS'] at hS;subst hR hS;simp
   ·have:=ih (fun j hj=>by
     rcases QLu.1 hj with h | h
     ·exact hq j h
     subst h;rw[hfx];simp[hE])
    simp[hrl] at this;exact this
theorem QAL (l:W) (hl:l.length<=10000):Gd K 80 [.str l] (.xh [QAl (Xr l),.bool (YY l).isSome]):=by
 refine Qb hK c80_ok (by simp) ?_
 by_cases h6:l.length<6
 ·have hi:((l.length:Int)<6):=by omega
  have e:=Qhp h6;simp[hi,Xr,e]
 have hi:¬ ((l.length:Int)<6):=by omega
 have hn:((l.length:Int)-4).toNat=l.length-4:=by omega
 generalize hR:YY l=R;generalize hS:Xr l=S;simp[hi,hn];refine ⟨by omega,by omega,?_⟩
 have hrl:(l.take (l.length-4)).length=l.length-4:=by simp
 generalize hr:l.take (l.length-4)=r at hrl;have g72:=Qog hK r (by omega)
 simp at g72;refine Qe g72 (by simp) ?_
 rw[Vu]
 have e2:List.drop r.length (List.take ((r.length:Int)+2).toNat l)=(l.drop (l.length-4)).take 2:=by
  rw[show ((r.length:Int)+2).toNat=(l.length-4)+2 by omega,hrl,List.drop_take]
  simp_all
 have e3:List.drop ((r.length:Int)+2).toNat l=(l.drop (l.length-4)).drop 2:=by
  rw[show ((r.length:Int)+2).toNat=(l.length-4)+2 by omega,List.drop_drop]
 have xf:=Xu r;by_cases hf:fits l r=true
 ·have hrow:YP r=true:=by
   simp only[fits,QJY] at hf;exact hf.1.1
  have hdf:Z6 (QO r) l<=1:=by
   simp only[fits,QJY,decide_eq_true_eq] at hf;rw[WB];exact hf.2
  rw[WZ h6 hr hf] at hR;have hS':Xr l=(Qm r).1:=by unfold Xr;rw[WZ h6 hr hf]
  rw[hS'] at hS;subst hR hS;have g41:=Qem hK r hrow;simp at g41;simp[hrow];refine Qe g41 (by simp) ?_
  simp;refine Qe (Qof hK (QO r) l (by omega) (by omega)) (by simp) ?_
  have hdi:((Z6 (QO r) l:Nat):Int)<=1:=by omega
  simp[hdi]
 have hf':fits l r=false:=by simpa using hf
 have hwl:((l.drop (l.length-4)).take 2).length=2:=by simp;omega
 have hzl:((l.drop (l.length-4)).drop 2).length=2:=by simp;omega
 generalize hwt:(l.drop (l.length-4)).take 2=wt at *;generalize hzt:(l.drop (l.length-4)).drop 2=zt at *;by_cases hrow:YP r=true
 ·have hdi:¬ ((Z6 (QO r) l:Nat):Int)<=1:=by
   have hlen:l.length=r.length+4:=by omega
   have:fits l r=decide (Z6 l (QO r)<=1):=by unfold fits;simp only[hrow,hlen,decide_true,Bool.true_and]
   rw[this,decide_eq_false_iff_not,WB] at hf';omega
  have g41:=Qem hK r hrow;simp at g41;simp[hrow];refine Qe g41 (by simp) ?_
  simp;refine Qe (Qof hK (QO r) l (by omega) (by omega)) (by simp) ?_
  simp[hdi,e2,e3];refine ⟨by omega,by omega,Qe (qk hK wt hwl) (by simp) ?_⟩
  simp[e3];refine ⟨by omega,by omega,Qe (qk hK zt hzl) (by simp) ?_⟩
  simp;refine ⟨fun h0=>⟨fun hz=>?_,fun _=>QtZ hK l r R S (dg wt) hl h6 hrl hr hf' (by rw[hwt]) (by omega) hR hS⟩,fun hneg=>?_⟩
  ·have e:=Qa9 h6 hr hf' (by rw[hwt];omega) (by rw[hzt];exact hz)
   have hS':Xr l=(0,[],false):=by unfold Xr;rw[e]
   rw[e] at hR;rw[hS'] at hS;subst hR hS;simp
  have e:=QcX h6 hr hf' (by rw[hwt];exact hneg)
  have hS':Xr l=(0,[],false):=by unfold Xr;rw[e]
  rw[e] at hR;rw[hS'] at hS;subst hR hS;simp
 simp[hrow,e2];refine ⟨by omega,by omega,Qe (qk hK wt hwl) (by simp) ?_⟩
 simp[e3];refine ⟨by omega,by omega,Qe (qk hK zt hzl) (by simp) ?_⟩
 simp;refine ⟨fun h0=>⟨fun hz=>?_,fun _=>QtZ hK l r R S (dg wt) hl h6 hrl hr hf' (by rw[hwt]) (by omega) hR hS⟩,fun hneg=>?_⟩
 ·have e:=Qa9 h6 hr hf' (by rw[hwt];omega) (by rw[hzt];exact hz)
  have hS':Xr l=(0,[],false):=by unfold Xr;rw[e]
  rw[e] at hR;rw[hS'] at hS;subst hR hS;simp
 have e:=QcX h6 hr hf' (by rw[hwt];exact hneg)
 have hS':Xr l=(0,[],false):=by unfold Xr;rw[e]
 rw[e] at hR;rw[hS'] at hS;subst hR hS;simp
end Go.Bk
namespace Go.Bk
open Go Go.Ev Go.Proofs Go.RowKit Go.Proofs.Tryz
variable {K:World->Prop} (hK:∀ w w',K w->Below w.heap.size w w'->K w')
open Go.Pf (Gd c10_ok c165_ok c169_ok c170_ok c22_ok c23_ok c256_ok c257_ok c258_ok c25_ok c26_ok c27_ok c308_ok c30_ok c322_ok c55_ok)
set_option maxRecDepth 8000
def total (l:List W):Nat:=(l.map fun s=>s.length+1).sum
def large (l:List W):Bool:=decide (5000<total l)
def QEe (s:W):Bool:=decide (90<s.count 10)
theorem WV (l:List W) (i:Nat) (h:i<l.length):total (l.take (i+1))=total (l.take i)+(l[i].length+1):=by
 rw[QJV h];simp only[total,QKf,List.sum_append,QKg,List.map_nil,List.sum_cons,List.sum_nil,QKT]
theorem QjM (l:List W) (i:Nat):total (l.take i)<=total l:=by
 conv=>rhs;rw[<- QKU i l]
 simp only[total,QKf,List.sum_append];omega
def ZZ (a:List W × W) (c:UInt8):List W × W:=if c=10 then (a.1++[a.2],[]) else (a.1,a.2++[c])
def lns (s:W):List W × W:=s.foldl ZZ ([],[])
theorem Wf (s:W) (c:UInt8):lns (s++[c])=ZZ (lns s) c:=by simp[lns]
theorem Qq0 (s:W) (i:Nat) (h:i<s.length):lns (s.take (i+1))=ZZ (lns (s.take i)) s[i]:=by
 rw[QJV h,Wf]
theorem Qq1 (s:W):(lns s).2.length<=s.length/\s.drop (s.length-(lns s).2.length)=(lns s).2:=by
 have:∀ (n:Nat) (s:W),s.length=n->(lns s).2.length<=s.length/\s.drop (s.length-(lns s).2.length)=(lns s).2:=by
  intro n
  induction n with
  | zero =>
    intro s h;have:s=[]:=QJ3 h;subst this;simp[lns]
  | succ n ih =>
    intro s h
    have hs:s=s.take n++[s[n]]:=by
     have:=QJV (l:=s) (i:=n) (by omega)
     rw[<- this,QJZ (by omega)]
    obtain ⟨h1,h2⟩:=ih (s.take n) (by simp;omega)
    have hl:(s.take n).length=n:=by simp;omega
    rw[hl] at h1 h2;generalize s[n]=c at hs;generalize s.take n=t at *;subst hs;rw[Wf];unfold ZZ;split
    ·simp
    simp only[QKb,QK3];refine ⟨by omega,?_⟩
    rw[hl,List.drop_append_of_le_length (by omega)]
    have:n+1-((lns t).2.length+1)=n-(lns t).2.length:=by omega
    rw[this,h2]
 exact this _ s rfl
theorem Qnr (s:W):(lns s).1.length=s.count 10/\(lns s).1.length<=s.length:=by
 have:∀ (n:Nat) (s:W),s.length=n->(lns s).1.length=s.count 10:=by
  intro n
  induction n with
  | zero =>
    intro s h;have:s=[]:=QJ3 h;subst this;simp[lns]
  | succ n ih =>
    intro s h
    have hs:s=s.take n++[s[n]]:=by
     have:=QJV (l:=s) (i:=n) (by omega)
     grind
    have h1:=ih (s.take n) (by simp;omega)
    generalize s[n]=c at hs;generalize s.take n=t at *;subst hs;rw[Wf,List.count_append];unfold ZZ;split
    ·rename_i hc;subst hc;simp[h1]
    simp_all
 grind
def cutL (b:W):Option (List W):=if b.getLast?=some 10 then some (lns b).1 else none
def Qac {α:Type} (p:α->Bool):List α->Nat->Int
 | [],_ => -1
 | a::r,k=>if p a then k else Qac p r (k+1)
theorem Qaw {α:Type} (p:α->Bool):∀ (l:List α) (k:Nat),decide (0<=Qac p l k)=l.any p
 | [],k=>by simp[Qac]
 | a::r,k=>by
   simp only[Qac,List.any_cons];by_cases h:p a=true
   ·simp[h]
   have h':p a=false:=by simpa using h
   simp[h',<- Qaw p r (k+1)]
theorem QsO:callee prog 27=true:=by
 unfold callee;rw[func27];rfl
include hK
theorem good10 (l:List W) (h:∀ s∈l,s.length<=1000000000000000):Gd K 10 [strs l] (.bool (large l)):=by
 refine Qb hK c10_ok (by simp) ?_
 simp;refine XZ (fun i=>[(0,AV.iv (strs l)),(3,AV.iv (IV.int IntKind.i64 (total (l.take i):Nat))),(4,AV.iv (IV.int IntKind.i64 (i:Nat)))]) (fun _=>[]) l.length ?_ ?_
 ·rw[Qa Go.Pf.c10_b0.eq_1]
  simp[large];omega
 ·intro i hi ih
  rw[Qa Go.Pf.c10_b0.eq_1];have e:=WV l i hi;have hb:=h l[i] (QJ1 hi);have ht:=QjM l i;rw[e] at ih;by_cases hc:total (l.take i)<=5000
  ·have hci:((total (l.take i):Nat):Int)<=5000:=by omega
   simp[hi,hci] at ih |-;intro _;have e3:((total (l.take i):Nat):Int)+((l[i].length:Int)+1)=(total (l.take i):Int)+(l[i].length:Int)+1:=by omega
   repeat' (first | omega | assumption | apply And.intro)
  ·have hci:¬ ((total (l.take i):Nat):Int)<=5000:=by omega
   simp[hi,hci,large];omega
theorem Quf (l m:List W):Gd K 22 [strs l,strs m] (.bool (decide (l=m))):=by
 refine Qb hK c22_ok (by simp) ?_
 simp;intro hl hm;refine ⟨fun e c=>e (by rw[c]),fun e=>?_⟩
 have e:l.length=m.length:=by omega
 refine Qi (fun i=>[(0,AV.iv (strs l)),(1,AV.iv (strs m)),(5,AV.iv (IV.int IntKind.i64 (i:Nat)))]) (fun _=>[]) l.length (fun i=>l.take i=m.take i) (by simp) ?_ ?_
 ·intro h
  rw[Qa Go.Pf.c22_b0.eq_1];simp at h |-
  grind
 ·intro i hi h ih
  have hi':i<m.length:=by omega
  rw[Qa Go.Pf.c22_b0.eq_1];simp[hi,hi'] at h ih |-;intro _;refine ⟨fun e c=>e (by subst c;rfl),fun e=>⟨by omega,ih ?_⟩⟩
  rw[QJV hi,QJV hi',h,e]
theorem Que (l m:List Int):Gd K 23 [QW l,QW m] (.bool (decide (l=m))):=by
 refine Qb hK c23_ok (by simp) ?_
 simp;intro hl hm;refine ⟨fun e c=>e (by rw[c]),fun e=>?_⟩
 have e:l.length=m.length:=by omega
 refine Qi (fun i=>[(0,AV.iv (QW l)),(1,AV.iv (QW m)),(5,AV.iv (IV.int IntKind.i64 (i:Nat)))]) (fun _=>[]) l.length (fun i=>l.take i=m.take i) (by simp) ?_ ?_
 ·intro h
  rw[Qa Go.Pf.c23_b0.eq_1];simp at h |-
  grind
 ·intro i hi h ih
  have hi':i<m.length:=by omega
  rw[Qa Go.Pf.c23_b0.eq_1];simp[hi,hi'] at h ih |-;intro _;refine ⟨fun e c=>e (by subst c;rfl),fun e=>⟨by omega,ih ?_⟩⟩
  rw[QJV hi,QJV hi',h,e]
def errT (l:List W):Int:=if 40<l.length then 2 else if l.all tx then 0 else 1
theorem QBj (l:List W) (h:∀ s∈l,s.length<=1000000):Gd K 25 [strs l] (.int .i64 (errT l)):=by
 refine Qb hK c25_ok (by simp) ?_
 simp;refine fun _=>⟨fun h40=>?_,fun h40=>?_⟩
 ·have:40<l.length:=by omega
  simp[errT,this]
 ·have hn:¬ 40<l.length:=by omega
  refine Qi (fun i=>[(0,AV.iv (strs l)),(3,AV.iv (IV.int IntKind.i64 (i:Nat)))]) (fun _=>[]) l.length (fun i=>(l.take i).all tx=true) (by simp) ?_ ?_
  ·intro hq
   rw[Qa Go.Pf.c25_b0.eq_1];rw[QJ5] at hq;simp[errT,hn,hq]
  ·intro i hi hq ih
   rw[Qa Go.Pf.c25_b0.eq_1];simp[hi];intro _;refine Qe (QA0 hK l[i] (h _ (QJ1 hi))) (by simp) ?_
   by_cases hx:tx l[i]=true
   ·have:=ih (QeX hi hq hx)
    simp[hx] at this |-;exact ⟨by omega,this⟩
   ·have hx':tx l[i]=false:=by simpa using hx
    have xg:=W5 (p:=tx) hi hx';simp[hx',errT,hn,xg]
theorem QBg (b:W) (hb:b.length<=1000000):Gd K 30 [.str b] (.xh [strs ((cutL b).getD []),.bool (cutL b).isSome]):=by
 refine Qb hK c30_ok (by simp) ?_
 by_cases h0:b.length=0
 ·have:b=[]:=QJ3 h0
  subst this;simp[cutL]
 ·have hi0:¬ ((b.length:Int)=0):=by omega
  have xd:b.length-1<b.length:=by omega
  have hne:b≠[]:=fun e=>h0 (by rw[e];rfl)
  have hn:((b.length:Int)-1).toNat=b.length-1:=by omega
  have hlast:b.getLast?=some b[b.length-1]:=by rw[List.getLast?_eq_getElem?,QJW xd]
  by_cases hc:b[b.length-1]=10;rotate_left
  ·have hci:¬ ((b[b.length-1].toNat:Int)=10):=fun e=>hc (UInt8.toNat_inj.1 (by have:(10:UInt8).toNat=10:=rfl;omega))
   have hcut:cutL b=none:=by
    unfold cutL;rw[hlast,if_neg];intro e;injection e with e
    exact hc e
   rw[hcut];simp[hne,hn,xd,hci];omega
  ·have hci:((b[b.length-1].toNat:Int)=10):=by rw[hc];rfl
   have hcut:cutL b=some (lns b).1:=by unfold cutL;simp_all
   rw[hcut];simp[hne,hn,xd,hci];refine ⟨by omega,by omega,?_⟩
   refine XZ (fun i=>[(0,AV.iv (.str b)),(4,AV.yq 4 (lns (b.take i)).1.length),(5,AV.iv (.int .i64 ((i-(lns (b.take i)).2.length:Nat):Int))),(6,AV.iv (.int .i64 (i:Nat)))]) (fun i=>[(4,AO.arr 9 1 (emb ((lns (b.take i)).1.map fun s=>[.str s])) 0)]) b.length ?_ ?_
   ·rw[Qa Go.Pf.c30_b0.eq_1]
    simp
   ·intro i hi ih
    rw[Qa Go.Pf.c30_b0.eq_1];have hst:=Qq0 b i hi;obtain ⟨r1,r2⟩:=Qq1 (b.take i);obtain ⟨_,r3⟩:=Qnr (b.take i);have htl:(b.take i).length=i:=by simp;omega
    rw[htl] at r1 r2 r3;generalize lns (b.take i)=P at *;obtain ⟨A,r⟩:=P;simp only at r1 r2 r3;rw[hst] at ih;by_cases hbi:b[i]=10
    ·have hbii:((b[i].toNat:Int)=10):=by rw[hbi];rfl
     have e:ZZ (A,r) b[i]=(A++[r],[]):=by simp[ZZ,hbi]
     rw[e] at ih;simp[hi,hbii,r2] at ih |-
     repeat' (first | omega | assumption | apply And.intro)
    ·have hbii:¬ ((b[i].toNat:Int)=10):=fun e=>hbi (UInt8.toNat_inj.1 (by have:(10:UInt8).toNat=10:=rfl;omega))
     have e:ZZ (A,r) b[i]=(A,r++[b[i]]):=by simp[ZZ,hbi]
     rw[e] at ih;have e5:i+1-(r.length+1)=i-r.length:=by omega
     simp[hi,hbii,e5] at ih |-
     repeat' (first | omega | assumption | apply And.intro)
theorem Qwj (s t:W) (hs:s.length<=1000000) (ht:t.length<=1000000):Gd K 322 [.str s,.str t] (.bool (decide (t.length<=s.length)&&decide (s.drop (s.length-t.length)=t))):=by
 refine Qb hK c322_ok (by simp) ?_
 by_cases h:t.length<=s.length
 ·have hi:(t.length:Int)<=s.length:=by omega
  have hn:((s.length:Int)-(t.length:Int)).toNat=s.length-t.length:=by omega
  have hx:s.take s.length=s:=QJ5;simp[hi,h,hn];omega
 ·have hi:¬ (t.length:Int)<=s.length:=by omega
  simp[hi,h]
theorem QwG (s:W) (hs:s.length<=1000000):Gd K 256 [.str s,.str [10]] (.xh [.str (if s.getLast?=some 10 then s.dropLast else s),.bool (decide (s.getLast?=some 10))]):=by
 refine Qb hK c256_ok (by simp) ?_
 simp;refine Qe (Qwj hK s [10] hs (by simp)) (by simp) ?_
 rcases List.eq_nil_or_concat s with rfl | ⟨t,c,rfl⟩
 ·simp
 ·have hn:(((t.length:Int)+1-1)).toNat=t.length:=by omega
  by_cases hc:c=10
  ·simp[hc]
   grind
  ·simp[hc]
theorem Qw6 (s:W) (hs:s.length<=1000000):Gd K 165 [.str s,.str [10]] (.xh [.str (if s.getLast?=some 10 then s.dropLast else s),.bool (decide (s.getLast?=some 10))]):=by
 refine Qb hK c165_ok (by simp) ?_
 simp;refine Qe (QwG hK s hs) (by simp) ?_
 simp
theorem QwF (l:List Int) (n:Int):Gd K 257 [QW l,.int .i64 n] (.int .i64 (Qac (·==n) l 0)):=by
 refine Qb hK c257_ok (by simp) ?_
 generalize hR:Qac (·==n) l 0=R
 simp;intro hl;refine Qi (fun i=>[(0,AV.iv (QW l)),(1,AV.iv (.int .i64 n)),(7,AV.iv (.int .i64 (l.length:Nat))),(8,AV.iv (.int .i64 (i:Nat)))]) (fun _=>[]) l.length (fun i=>Qac (·==n) (l.drop i) i=R) (by simpa using hR) ?_ ?_
 ·intro hq
  rw[Qa Go.Pf.c257_b0.eq_1];rw[List.drop_length] at hq;simp[<- hq,Qac]
 ·intro i hi hq ih
  rw[Qa Go.Pf.c257_b0.eq_1];rw[QKp hi] at hq;by_cases hc:n=l[i]
  ·have:R=i:=by rw[<- hq];simp[Qac,hc]
   subst this;simp[hi,hc]
  ·have hc':¬ l[i]=n:=fun e=>hc e.symm
   have:=ih (by rw[<- hq];simp[Qac,hc'])
   simp[hi,hc] at this |-;exact ⟨by omega,this⟩
theorem QwE (l:List W) (n:W):Gd K 258 [strs l,.str n] (.int .i64 (Qac (·==n) l 0)):=by
 refine Qb hK c258_ok (by simp) ?_
 generalize hR:Qac (·==n) l 0=R
 simp;intro hl;refine Qi (fun i=>[(0,AV.iv (strs l)),(1,AV.iv (.str n)),(7,AV.iv (.int .i64 (l.length:Nat))),(8,AV.iv (.int .i64 (i:Nat)))]) (fun _=>[]) l.length (fun i=>Qac (·==n) (l.drop i) i=R) (by simpa using hR) ?_ ?_
 ·intro hq
  rw[Qa Go.Pf.c258_b0.eq_1];rw[List.drop_length] at hq;simp[<- hq,Qac]
 ·intro i hi hq ih
  rw[Qa Go.Pf.c258_b0.eq_1];rw[QKp hi] at hq;by_cases hc:n=l[i]
  ·have:R=i:=by rw[<- hq];simp[Qac,hc]
   subst this;simp[hi,hc]
  ·have hc':¬ l[i]=n:=fun e=>hc e.symm
   have:=ih (by rw[<- hq];simp[Qac,hc'])
   simp[hi,hc] at this |-;exact ⟨by omega,this⟩
theorem Qoe (l:List Int) (n:Int):Gd K 169 [QW l,.int .i64 n] (.bool (l.any (·==n))):=by
 refine Qb hK c169_ok (by simp) ?_
 have g:=QwF hK l n;rw[<- Qaw _ l 0];generalize Qac (·==n) l 0=R at *
 simp at g |-;refine Qe g (by simp) ?_
 simp
theorem Qoc (l:List W) (n:W):Gd K 170 [strs l,.str n] (.bool (l.any (·==n))):=by
 refine Qb hK c170_ok (by simp) ?_
 have g:=QwE hK l n;rw[<- Qaw _ l 0];generalize Qac (·==n) l 0=R at *
 simp at g |-;refine Qe g (by simp) ?_
 simp
theorem QBh (s:W) (hs:s.length<=1000000):Gd K 27 [.str s] (.bool (!tx s)):=by
 refine Qb hK c27_ok (by simp) ?_
 simp;refine Qe (Qud hK s hs) (by simp) ?_
 simp
theorem QAZ (l:List W) (h:∀ s∈l,s.length<=1000000):Gd K 55 [strs l,.fn 27] (.int .i64 (Qac (fun s=>!tx s) l 0)):=by
 refine Qb hK c55_ok (by simp) ?_
 generalize hR:Qac (fun s=>!tx s) l 0=R
 simp;intro hl;refine Qi (fun i=>[(0,AV.iv (strs l)),(1,AV.iv (.fn 27)),(7,AV.iv (.int .i64 (l.length:Nat))),(8,AV.iv (.int .i64 (i:Nat)))]) (fun _=>[]) l.length (fun i=>Qac (fun s=>!tx s) (l.drop i) i=R) (by simpa using hR) ?_ ?_
 ·intro hq
  rw[Qa Go.Pf.c55_b0.eq_1];rw[List.drop_length] at hq;simp[<- hq,Qac]
 ·intro i hi hq ih
  rw[Qa Go.Pf.c55_b0.eq_1];rw[QKp hi] at hq;simp[hi];refine ⟨QsO,Qe (QBh hK l[i] (h _ (QJ1 hi))) (by simp) ?_⟩
  by_cases hx:tx l[i]=true
  ·have:=ih (by rw[<- hq];simp[Qac,hx])
   simp[hx] at this |-;exact ⟨by omega,this⟩
  ·have hx':tx l[i]=false:=by simpa using hx
   have:R=i:=by rw[<- hq];simp[Qac,hx']
   subst this;simp[hx']
theorem QBi (l:List W) (h:∀ s∈l,s.length<=1000000):Gd K 26 [strs l,.fn 27] (.bool (!l.all tx)):=by
 refine Qb hK c26_ok (by simp) ?_
 have g:=QAZ hK l h;have e2:(!l.all tx)=l.any fun s=>!tx s:=List.not_all_eq_any_not
 rw[e2,<- Qaw _ l 0];generalize Qac (fun s=>!tx s) l 0=R at *
 simp at g |-;refine Qe g (by simp) ?_
 simp
end Go.Bk
namespace Go.Bk
open Go Go.Ev Go.Proofs Go.RowKit Go.Proofs.Tryz
variable {K:World->Prop} (hK:∀ w w',K w->Below w.heap.size w w'->K w')
open Go.Pf (Gd c79_ok c81_ok c82_ok)
set_option maxRecDepth 8000
def spl:W->List W
 | []=>[[]]
 | c::s=>if c=10 then []::spl s else (c::(spl s).headD [])::(spl s).tail
theorem QcN (s:W):spl s≠[]:=by
 cases s with
 | nil=>simp[spl]
 | cons c s=>unfold spl;split<;>simp
theorem Qq2 (s:W):∀ (A:List W) (r:W),(s.foldl ZZ (A,r)).1++[(s.foldl ZZ (A,r)).2]=A++(r++(spl s).headD [])::(spl s).tail:=by
 induction s with
 | nil=>intro A r;simp[spl]
 | cons c s ih =>
   intro A r;rw[QKL];by_cases hc:c=10
   ·have e:ZZ (A,r) c=(A++[r],[]):=by simp[ZZ,hc]
    have e2:spl (c::s)=[]::spl s:=by simp[spl,hc]
    rw[e,e2,ih];have:=QcN s;cases h:spl s with
    | cons a l=>simp
    | _=>grind
   have e:ZZ (A,r) c=(A,r++[c]):=by simp[ZZ,hc]
   have e2:spl (c::s)=(c::(spl s).headD [])::(spl s).tail:=by simp[spl,hc]
   rw[e,e2,ih];simp
theorem Qvv (s:W):(lns s).1++[(lns s).2]=spl s:=by
 unfold lns;rw[Qq2];have:=QcN s;cases h:spl s with
 | _=>grind
theorem QxM (t:W):(lns (t++[10])).1=spl t:=by
 rw[Wf,<- Qvv];simp[ZZ]
include hK
theorem QAM (hS:∀ s:W,s.length<=1000000->Gd K 138 [.str s,.str [10]] (strs (spl s))) (b:W) (hb:b.length<=1000000):Gd K 79 [.str b] (.xh [strs ((cutL b).getD []),.bool (cutL b).isSome]):=by
 refine Qb hK c79_ok (by simp) ?_
 simp;refine Qe (Qw6 hK b hb) (by simp) ?_
 rcases List.eq_nil_or_concat b with rfl | ⟨t,c,rfl⟩
 ·simp[cutL]
 ·by_cases hc:c=10
  ·have e:cutL (t++[c])=some (spl t):=by unfold cutL;rw[hc,QxM];simp
   simp at hb;have hS':=hS t (by omega)
   simp[hc] at hS' e |-;refine Qe hS' (by simp) ?_
   simp[e]
  ·have e:cutL (t++[c])=none:=by unfold cutL;simp[hc]
   simp[hc] at e |-;simp[e]
def Yl {α:Type} [BEq α] (l:List α) (x:α):List α:=if l.any (·==x) then l else l++[x]
theorem QvO (l:List Int) (x:Int) (hl:l.length<=1000000):qt prog K 81 3 1 (l.map fun n=>[.int .i64 n]) [.int .i64 x] ((Yl l x).map fun n=>[.int .i64 n]):=by
 unfold Yl;cases h:l.any (·==x) with
 | true =>
   refine Qdi fun v0=>?_
   have hK':=Qzb.stay (sz:=1) (rows:=l.map fun n=>[.int .i64 n]) (v0:=v0) hK
   refine Qb hK' c81_ok (by simp) ?_
   have g:=Ev.good_row (v0:=v0) (Qoe hK l x) rfl;rw[h] at g;simp;refine Qe g (by simp[Q8]) ?_
   simp
 | false =>
   refine QbU 4 c81_ok (by simp) rfl (by simp) ?_
   have g:=Qoe hK l x;rw[h] at g;rw[Qj0];simp;refine Qe g (by simp[Q8]) ?_
   simp;refine ⟨⟨by omega,by omega⟩,by simp,rfl,rfl,rfl⟩
theorem QvN (l:List W) (x:W) (hl:l.length<=1000000):qt prog K 82 9 1 (l.map fun n=>[.str n]) [.str x] ((Yl l x).map fun n=>[.str n]):=by
 unfold Yl;cases h:l.any (·==x) with
 | true =>
   refine Qdi fun v0=>?_
   have hK':=Qzb.stay (sz:=1) (rows:=l.map fun n=>[.str n]) (v0:=v0) hK
   refine Qb hK' c82_ok (by simp) ?_
   have g:=Ev.good_row (v0:=v0) (Qoc hK l x) rfl;rw[h] at g;simp;refine Qe g (by simp[Q8]) ?_
   simp
 | false =>
   refine QbU 4 c82_ok (by simp) rfl (by simp) ?_
   have g:=Qoc hK l x;rw[h] at g;rw[Qj0];simp;refine Qe g (by simp[Q8]) ?_
   simp;refine ⟨⟨by omega,by omega⟩,by simp,rfl,rfl,rfl⟩
end Go.Bk
namespace Go.Bk
open Go Go.Ev Go.Proofs Go.RowKit Go.Proofs.Tryz
theorem QtK (s:W):spl (10::s)=[]::spl s:=by simp[spl]
theorem VP (c:UInt8) (s:W) (h:c≠10):spl (c::s)=(c::(spl s).headD [])::(spl s).tail:=by simp[spl,h]
theorem splitK_spl:∀ s:W,Lib.splitK [10] 0 (Lib.count s [10]) s=spl s
 | []=>by
   rw[Lib.count_miss (by simp[Lib.index])]
   rfl
 | c::s=>by
   have ih:=splitK_spl s;by_cases h:c=10
   ·subst h
    have hix:Lib.index ((10:UInt8)::s) [10]=0:=by rw[Lib.index];simp_all
    rw[Lib.count_cons_eq,Nat.add_comm,Lib.splitK,hix,QtK,<- ih];simp
   ·rw[Lib.count_cons_ne c 10 s h,VP c s h,<- ih]
    have hp:([10]:List UInt8).isPrefixOf (c::s)=false:=by simp[List.isPrefixOf,Ne.symm h]
    have hix:Lib.index (c::s) [10]=if Lib.index s [10] == -1 then -1 else Lib.index s [10]+1:=by rw[Lib.index,hp];simp
    cases hk:Lib.count s [10] with
    | zero=>simp[Lib.splitK]
    | succ k =>
      have hm:¬ Lib.index s [10] = -1:=fun e=>by rw[Lib.count_miss e] at hk;cases hk
      have hge:=Lib.index_ge s [10];obtain ⟨j,hj⟩:∃ j:Nat,Lib.index s [10]=j:=⟨(Lib.index s [10]).toNat,by omega⟩
      have h1:¬ ((j:Int) == -1)=true:=by simp
      have h2:¬ ((j:Int)+1 == -1)=true:=by simp;omega
      have h3:((j:Int)+1).toNat=j+1:=by omega
      simp only[Lib.splitK,hix,hj,if_neg h1,if_neg h2,h3,QKB];simp
theorem spl_len:∀ s:W,(spl s).length<=s.length+1
 | []=>by simp[spl]
 | c::s=>by
   have ih:=spl_len s;by_cases h:c=10
   ·subst h;rw[QtK];simp;exact ih
   ·rw[VP c s h];simp;omega
end Go.Bk
namespace Go.Pf
open Go Go.Ev Go.Proofs Go.RowKit Go.Proofs.Tryz
theorem hSB (s:Txt) (hs:s.length<=1000000):Gd KW 138 [.str s,.str [10]] (Bk.strs (Bk.spl s)):=by
 intro w ok vs hk hok hl hx
 obtain ⟨v0,v1,rfl⟩:∃ v0 v1,vs=[v0,v1]:=by
  match vs,hl with
  | [a,b],_=>grind
 have r0:=hx 0 _ v0 rfl rfl;have r1:=hx 1 _ v1 rfl rfl;cases r0;cases r1;have:=Any.strings_Split_shaped Tryz.laysM146 ⟨s.toArray⟩ ⟨[10].toArray⟩ w hk.shaped (by simp[ByteArray.size];omega) (by simp[ByteArray.size])
 refine this.mono fun e w' ⟨he,hw⟩=>?_
 subst he hw;have hb:=Qz w (.cells ((Lib.splitB ⟨[10].toArray⟩ 0 (Lib.countB ⟨s.toArray⟩ ⟨[10].toArray⟩) ⟨s.toArray⟩).map Value.string).toArray (Tryz.laysM146_ren.t 9))
 have hd:(Lib.splitB ⟨[10].toArray⟩ 0 (Lib.countB ⟨s.toArray⟩ ⟨[10].toArray⟩) ⟨s.toArray⟩).map (·.data.toList)=Bk.spl s:=by
  rw[Lib.splitB_data];exact Bk.splitK_spl s
 have hlen:=Lib.splitB_all ⟨[10].toArray⟩ (by simp[ByteArray.size]) 0 _ ⟨s.toArray⟩ rfl
 generalize Lib.countB ⟨s.toArray⟩ ⟨[10].toArray⟩=n at *;generalize Lib.splitB ⟨[10].toArray⟩ 0 n ⟨s.toArray⟩=L at *;refine ⟨_,rfl,?_,hb⟩;have hl2:(Bk.spl s).length=n+1:=by grind
 have hnl:n+1<=maxLen:=by
  have:=Bk.spl_len s;simp only[maxLen];omega
 have rep:=QQ.sl (ok:=ok) (w:=w.alloc (.cells (L.map Value.string).toArray (Tryz.laysM146_ren.t 9))) 1 ((Bk.spl s).map fun s=>[IV.str s]) w.heap.size 0 (n+1) (fun k=>.string (L.getD k default)) (by simp[hl2]) hnl (by simp) (fun k hk=>?_) (fun i j c x hi hj=>?_)
 ·simpa[hl2] using rep
 ·simp[hl2] at hk
  have hkl:k<L.length:=by omega
  refine ⟨hok _ (QJ2 _),?_,rfl⟩;rw[QKl];exact Yb w _ _ k _ (by simp[hkl])
 ·simp only[QJ4,QJ0] at hi
  obtain ⟨t,ht,rfl⟩:=hi
  have hj0:j=0:=by
   grind
  subst hj0;simp at hj;subst hj;rw[<- hd,QJ4,QJ0] at ht;obtain ⟨z,hz,rfl⟩:=ht;have e:L.getD (i*1+0) default=z:=by simp[hz]
  rw[e];have:=QQ.str (ok:=ok) (w:=w.alloc (.cells (L.map Value.string).toArray (Tryz.laysM146_ren.t 9))) z.data.toList;omega
end Go.Pf
namespace Go.Bk
open Go Go.Ev Go.Proofs Go.RowKit Go.Proofs.Tryz
variable {K:World->Prop} (hK:∀ w w',K w->Below w.heap.size w w'->K w')
open Go.Pf (Gd c50_ok)
set_option maxRecDepth 8000
section
variable {P:Program} {K:World->Prop}
theorem Qpd {C:Env->Qs->Prop} {d:Option Nat} {g:FuncId} {id mv n:Nat} {t:TypeId} {sz:Nat} {l:List Za} {e:Env} {o:Qs} {ys:List IV} {rows rows':List (List IV)} (hn:n=rows.length) (hg:qt P K g t sz rows ys rows')
  (h:Qo P K C l (bnd d (.yq id rows'.length) e) (Yd id (.arr t sz (emb rows') rows'.length) o)):QgE P K C d g id l e o (some ys) (.yq id n) (some (.arr t sz (emb rows) mv)):=by
 subst hn;exact Qpe hg h
theorem Ql7 {C:Env->Qs->Prop} {d:Option Nat} {g:FuncId} {id:Nat} {t:TypeId} {sz:Nat} {l:List Za} {e:Env} {o:Qs} {ys:List IV} {kvs:List (MK × List (List IV))} {k:MK} {n:Nat} {rows rows':List (List IV)} (hr:(Qn k kvs).getD []=rows) (hn:rows.length=n) (hg:qt P K g t sz rows ys rows')
  (h:Qo P K C l (bnd d (.yu id k rows'.length) e) (Yd id (.yw t sz (zn k rows' kvs) (some k)) o)):QgE P K C d g id l e o (some ys) (.yu id k n) (some (.yw t sz kvs none)):=by
 subst hr;exact Qpc hn hg h
end
theorem QkB {l r:W} (h:fits l r=true):YP r=true/\l.length=r.length+4:=by
 simp only[fits,QJY,decide_eq_true_eq] at h
 grind
theorem QcW {l r:W} (h:YY l=some r):fits l r=true:=by
 unfold YY at h;split at h
 ·cases h
 ·simp only at h
  split at h
  ·grind
  ·split at h
   ·cases h
   ·rw[QJ0] at h
    obtain ⟨i,h1,h2⟩:=h;rw[<- h2];have h3:=List.find?_some h1;exact h3
def QeY {β:Type} (k:Int) (v:β):List (Int × β)->List (Int × β)
 | []=>[(k,v)]
 | p::r=>if p.1=k then (k,v)::r else p::QeY k v r
def Zv {β:Type} (k:Int):List (Int × β)->Option β
 | []=>none
 | p::r=>if p.1=k then some p.2 else Zv k r
def V5 {β α:Type} (f:β->α) (l:List (Int × β)):List (MK × α):=l.map fun p=>(.int .i64 p.1,f p.2)
theorem QeA {β α:Type} (f:β->α) (k:Int) (v:β):∀ l:List (Int × β),zn (.int .i64 k) (f v) (V5 f l)=V5 f (QeY k v l)
 | []=>rfl
 | p::r=>by
   have ih:=QeA f k v r;simp only[V5,QKg,zn,QeY] at ih |-
   grind
theorem YU {β α:Type} (f:β->α) (k:Int):∀ l:List (Int × β),Qn (.int .i64 k) (V5 f l)=(Zv k l).map f
 | []=>rfl
 | p::r=>by
   have ih:=YU f k r;simp only[V5,QKg,Qn,Zv] at ih |-
   grind
theorem X5 {β α:Type} (f:β->α):∀ l:List (Int × β),Zx (some .i64) (V5 f l)
 | []=>trivial
 | p::r=>⟨rfl,X5 f r⟩
theorem Xv {β:Type} (k j:Int) (v:β):∀ l:List (Int × β),Zv j (QeY k v l)=if j=k then some v else Zv j l
 | []=>by
   simp only[QeY,Zv]
   grind
 | p::r=>by
   have ih:=Xv k j v r;simp only[QeY];by_cases h:p.1=k
   ·simp only[h,if_true,Zv]
    grind
   ·simp only[h,if_false,Zv,ih]
    grind
def txE (l:List W):List (List IV):=l.map fun s=>[.str s]
def inE (l:List Int):List (List IV):=l.map fun n=>[.int .i64 n]
structure Pg where
 rows:List (Int × List W)
 ends:List Int
 exact:List (Int × Int)
 bad:List Int
def UU (p:Pg) (i:Nat) (l:W):Pg :=
 match YY l with
 | none=>{ p with bad:=p.bad++[(i:Int)] }
 | some r =>
   if (Qm r).1.2.2 then { p with ends:=Yl p.ends (Qm r).1.1 }
   else { p with rows:=QeY (Qm r).1.1 (Yl ((Zv (Qm r).1.1 p.rows).getD []) (Qm r).1.2.1) p.rows,exact:=if QO r=l then QeY (Qm r).1.1 ((Zv (Qm r).1.1 p.exact).getD 0+1) p.exact else p.exact }
def Vh (ls:List W):Nat->Pg
 | 0=>⟨[],[],[],[]⟩
 | i+1=>UU (Vh ls i) i (ls.getD i [])
theorem Qfa {α:Type} [BEq α] (l:List α) (x:α):(Yl l x).length<=l.length+1:=by
 unfold Yl;split<;>simp
theorem QfP (ls:List W):∀ i,(Vh ls i).ends.length<=i/\(Vh ls i).bad.length<=i/\(∀ k,((Zv k (Vh ls i).rows).getD []).length<=i)/\(∀ k,0<=(Zv k (Vh ls i).exact).getD 0/\(Zv k (Vh ls i).exact).getD 0<=i)
 | 0=>by simp[Vh,Zv]
 | i+1=>by
   obtain ⟨h1,h2,h3,h4⟩:=QfP ls i;simp only[Vh,UU];split
   ·refine ⟨by simp only;omega,by simp;omega,fun k=>?_,fun k=>?_⟩
    ·have:=h3 k;simp only;omega
    have:=h4 k;simp only;omega
   ·split
    ·refine ⟨?_,by simp only;omega,fun k=>?_,fun k=>?_⟩
     ·have:=Qfa (Vh ls i).ends (Qm ‹W›).1.1
      simp only;omega
     ·have:=h3 k;simp only;omega
     have:=h4 k;simp only;omega
    ·refine ⟨by simp only;omega,by simp only;omega,fun k=>?_,fun k=>?_⟩
     ·simp only[Xv]
      split
      ·have:=Qfa ((Zv (Qm ‹W›).1.1 (Vh ls i).rows).getD []) (Qm ‹W›).1.2.1
       have:=h3 (Qm ‹W›).1.1;simp only[QKO];omega
      have:=h3 k;omega
     ·simp only
      split
      ·rw[Xv]
       split
       ·have:=h4 (Qm ‹W›).1.1
        simp only[QKO];omega
       have:=h4 k;omega
      ·have:=h4 k;omega
def pgV (p:Pg):IV:=.agg [.map (V5 (fun t=>.sl 1 (txE t)) p.rows),QW p.ends,.map (V5 (fun n=>.int .i64 n) p.exact),QW p.bad]
def QCD:IV:=.agg [.map [],.sl 1 [],.map [],.sl 1 []]
include hK
theorem Qt8 (hS:∀ s:W,s.length<=1000000->Gd K 138 [.str s,.str [10]] (strs (spl s))) (b:W) (hb:b.length<=100000) (hl:∀ ls,cutL b=some ls->ls.length<=100000/\∀ l∈ls,l.length<=10000) :
  Gd K 50 [.str b] (match cutL b with | some ls=>.xh [pgV (Vh ls ls.length),.int .i64 0] | none=>.xh [QCD,.int .i64 140]):=by
 refine Qb hK c50_ok (by simp) ?_
 have g50:=QAM hK hS b (by omega)
 generalize cutL b=R at *;cases R with
 | none =>
   simp at g50 |-;refine Qe g50 (by simp) ?_
   simp[QCD]
 | some ls =>
   obtain ⟨hl1,hl2⟩:=hl ls rfl;simp at g50 |-;refine Qe g50 (by simp) ?_
   simp;intro hln;have e0:V5 txE ([]:List (Int × List W))=[]:=rfl
   refine XZ (fun i=>[(2,AV.loc 2 0),(6,.loc 6 0),(22,.iv (strs ls)),(23,.iv (.int .i64 (ls.length:Nat))),(24,.iv (.int .i64 (i:Nat)))])
    (fun i=>[(2,AO.box [.iv (.map []),.iv (.sl 1 []),.iv (.map []),.iv (.sl 1 [])]),(6,.box [.yo 19,.yq 7001 (Vh ls i).ends.length,.yo 20,.yq 7003 (Vh ls i).bad.length]),(19,.yw 9 1 (V5 txE (Vh ls i).rows) none),
      (20,.xj (V5 (fun n=>.int .i64 n) (Vh ls i).exact)),(7001,.arr 3 1 (emb (inE (Vh ls i).ends)) (Vh ls i).ends.length),(7003,.arr 3 1 (emb (inE (Vh ls i).bad)) 0)]) ls.length ?_ ?_
   ·rw[Qa Go.Pf.c50_b0.eq_1]
    generalize Vh ls ls.length=p;have l1:(inE p.ends).length=p.ends.length:=by simp[inE]
    have l2:(inE p.bad).length=p.bad.length:=by simp[inE]
    simp[l1,l2];simp[pgV,V5,txE,inE]
   intro i hi ih;rw[Qa Go.Pf.c50_b0.eq_1];obtain ⟨b1,b2,b3,b4⟩:=QfP ls i;have hli:=hl2 ls[i] (QJ1 hi);have hg:ls.getD i []=ls[i]:=by simp[hi]
   simp only[Vh,hg] at ih;generalize Vh ls i=p at *;simp[hi];refine Qe (QAL hK ls[i] hli) (by simp) ?_
   cases hR:YY ls[i] with
   | none =>
     have e:UU p i ls[i]={ p with bad:=p.bad++[(i:Int)] }:=by simp[UU,hR]
     rw[e] at ih;have l2:(inE p.bad).length=p.bad.length:=by simp[inE]
     have l3:inE (p.bad++[(i:Int)])=inE p.bad++[[.int .i64 (i:Nat)]]:=by simp[inE]
     rw[l3] at ih;simp[l2] at ih |-;exact ⟨by omega,by omega,ih⟩
   | some r =>
     have hst:Xr ls[i]=(Qm r).1:=by unfold Xr;rw[hR]
     have hrow:YP r=true:=(QkB (QcW hR)).1;cases hc:(Qm r).1.2.2 with
     | true =>
       have e:UU p i ls[i]={ p with ends:=Yl p.ends (Qm r).1.1 }:=by simp[UU,hR,hc]
       rw[e] at ih;simp[hst,hc] at ih |-;refine Qpd (rows:=inE p.ends) (rows':=inE (Yl p.ends (Qm r).1.1)) (by simp[inE]) (QvO hK p.ends (Qm r).1.1 (by omega)) ?_
       have l1:(inE (Yl p.ends (Qm r).1.1)).length=(Yl p.ends (Qm r).1.1).length:=by simp[inE]
       simp[l1];exact ⟨by omega,ih⟩
     | false =>
       have g41:=Qem hK r hrow;simp[hc] at g41;have hfk:=YU txE (Qm r).1.1 p.rows;have hle:=b3 (Qm r).1.1;have hks:=X5 txE p.rows;generalize hold:(Zv (Qm r).1.1 p.rows).getD []=old at *
       have hfo:(Qn (.int .i64 (Qm r).1.1) (V5 txE p.rows)).getD []=txE old:=by
        rw[hfk,<- hold];cases Zv (Qm r).1.1 p.rows<;>rfl
       simp[hst,hc,hks,hfo];refine Ql7 hfo rfl (QvN hK old (Qm r).1.2.1 (by omega)) ?_
       have hl2':(List.map (fun n=>[IV.str n]) (Yl old (Qm r).1.2.1))=txE (Yl old (Qm r).1.2.1):=rfl
       rw[hl2',QeA];have hks2:=X5 txE (QeY (Qm r).1.1 (Yl old (Qm r).1.2.1) p.rows);have hf2:=YU txE (Qm r).1.1 (QeY (Qm r).1.1 (Yl old (Qm r).1.2.1) p.rows);rw[Xv,if_pos rfl] at hf2;simp[hks2,hf2];refine Qe g41 (by simp) ?_
       have hks3:=X5 (fun n=>IV.int .i64 n) p.exact
       have hf3:=YU (fun n=>IV.int .i64 n) (Qm r).1.1 p.exact
       obtain ⟨b5,b6⟩:=b4 (Qm r).1.1;generalize hcnt:(Zv (Qm r).1.1 p.exact).getD 0=cnt at *
       have hf3':(Qn (.int .i64 (Qm r).1.1) (V5 (fun n=>IV.int .i64 n) p.exact)).getD (.int .i64 0)=.int .i64 cnt:=by
        rw[hf3,<- hcnt];cases Zv (Qm r).1.1 p.exact<;>rfl
       have hins:=QeA (fun n=>IV.int .i64 n) (Qm r).1.1 (cnt+1) p.exact
       by_cases he:QO r=ls[i]
       ·have e:UU p i ls[i]={ p with rows:=QeY (Qm r).1.1 (Yl old (Qm r).1.2.1) p.rows,exact:=QeY (Qm r).1.1 (cnt+1) p.exact }:=by simp[UU,hR,hc,he,hold,hcnt]
        rw[e] at ih;simp[he,hks3,hf3',hins] at ih |-;exact ⟨by omega,by omega,ih⟩
       have e:UU p i ls[i]={ p with rows:=QeY (Qm r).1.1 (Yl old (Qm r).1.2.1) p.rows }:=by simp[UU,hR,hc,he,hold]
       rw[e] at ih;simp[he] at ih |-;exact ⟨by omega,ih⟩
end Go.Bk
namespace Go.Bk
open Go Go.Ev Go.Proofs Go.RowKit Go.Proofs.Tryz
variable {K:World->Prop} (hK:∀ w w',K w->Below w.heap.size w w'->K w')
open Go.Pf (Gd c51_b0 c51_ok c52_ok)
set_option maxRecDepth 8000
def Vd (ends:List Int) (q:Int × List W):Bool:=decide (1<q.2.length)||(match ends with | []=>false | e::_=>decide (e<=q.1))
def Vc (p:Pg):Bool:=decide (1<p.ends.length)||p.rows.any (Vd p.ends)
def YZ (p:Pg) (n:Int):List Int:=((List.range n.toNat).filter fun k:Nat=>((Zv (k:Int) p.rows).getD []).length==0).map fun k:Nat=>(k:Int)
theorem QrZ {β α:Type} (f:β->α) (l:List (Int × β)) (i:Nat):(V5 f l)[i]?=(l[i]?).map fun p=>(.int .i64 p.1,f p.2):=by simp[V5]
theorem QlD (p:Pg) (i:Nat):YZ p ((i+1:Nat):Int)=YZ p (i:Nat)++if ((Zv (i:Int) p.rows).getD []).length=0 then [(i:Int)] else []:=by
 simp only[YZ,QKB,QKn,QKX,QKf]
 congr 1
 grind
theorem QfY (p:Pg) (n:Nat):(YZ p (n:Nat)).length<=n:=by
 simp only[YZ,QJ9,QKB]
 grind
include hK
theorem QA3 (p:Pg):Gd K 51 [pgV p] (.bool (Vc p)):=by
 refine Qb hK c51_ok (by simp) ?_
 by_cases h1:1<p.ends.length
 ·have hi:(1:Int)<(p.ends.length:Int):=by omega
  simp[pgV,hi,Vc,h1]
 ·have hi:¬ (1:Int)<(p.ends.length:Int):=by omega
  generalize hC:Vc p=C;simp[pgV,hi];intro hl
  have key:∀ seen:List Nat,(∀ i∈seen,∀ q,p.rows[i]?=some q->Vd p.ends q=false) ->
    XB prog K (FnF (QgU [Qcp.tmp 2] (.bool C))) c51_b0 [1,11] [11] [AI.inBlock 0,AI.code (.seq (.ops [⟨some 2,none,.xi (.bool false)⟩] false) .ret)]
     [(1,.iv (.ptr [.map (V5 (fun t=>.sl 1 (txE t)) p.rows),QW p.ends,.map (V5 (fun n=>.int .i64 n) p.exact),QW p.bad])),(11,.yo 11)] [(11,.yx (V5 (fun t=>.sl 1 (txE t)) p.rows) seen)]:=by
   refine Qnm (fun _=>[(1,AV.iv (.ptr [.map (V5 (fun t=>.sl 1 (txE t)) p.rows),QW p.ends,.map (V5 (fun n=>.int .i64 n) p.exact),QW p.bad])),(11,.yo 11)]) (fun seen=>[(11,AO.yx (V5 (fun t=>.sl 1 (txE t)) p.rows) seen)]) p.rows.length (fun seen=>∀ i∈seen,∀ q,p.rows[i]?=some q->Vd p.ends q=false) ?_
   intro seen hI ih;rw[Qa Go.Pf.c51_b0.eq_1];have hlen:(V5 (fun t=>IV.sl 1 (txE t)) p.rows).length=p.rows.length:=by simp[V5]
   simp[hlen,QrZ];refine ⟨fun xg=>?_,fun i a b n ts hq ha hb hns=>?_⟩
   ·have:p.rows.any (Vd p.ends)=false:=by
     rw[QLv];intro q hq;obtain ⟨i,hi⟩:=QKv hq;rw[hI i (xg i (QJX.1 hi).1) q hi];simp
    rw[<- hC];simp[Vc,h1,this]
   subst ha hb;have hil:=(QJX.1 hq).1;have htl:(txE ts).length=ts.length:=by simp[txE]
   have hmem:(n,ts)∈p.rows:=QKd hq
   have hbad:Vd p.ends (n,ts)=true->C=true:=by
    intro hb;rw[<- hC];simp only[Vc,QLe,QLg];exact .inr ⟨_,hmem,hb⟩
   have hgood:Vd p.ends (n,ts)=false->XB prog K (FnF (QgU [Qcp.tmp 2] (.bool C))) c51_b0 [1,11] [11] [AI.inBlock 0,AI.code (.seq (.ops [⟨some 2,none,.xi (.bool false)⟩] false) .ret)]
    [(1,.iv (.ptr [.map (V5 (fun t=>.sl 1 (txE t)) p.rows),QW p.ends,.map (V5 (fun n=>.int .i64 n) p.exact),QW p.bad])),(11,.yo 11)] [(11,.yx (V5 (fun t=>.sl 1 (txE t)) p.rows) (i::seen))]:=by
    intro hg;refine ih i hil hns fun j hj q hjq=>?_
    rcases QJ7.1 hj with rfl | hj
    ·rw[hq] at hjq
     injection hjq with hjq
     rw[<- hjq];exact hg
    exact hI j hj q hjq
   generalize hends:p.ends=ends at *;simp[hq,htl];intro _
   match ends,h1 with
   | [],_ =>
     by_cases ht:1<ts.length
     ·have hti:(1:Int)<(ts.length:Int):=by omega
      have:=hbad (by simp[Vd,ht])
      simp[hti,this];omega
     have hti:¬ (1:Int)<(ts.length:Int):=by omega
     have:=hgood (by simp[Vd,ht])
     simp[hti] at this |-
     repeat' (first | omega | assumption | intro _ | apply And.intro)
   | [e],_ =>
     by_cases ht:1<ts.length
     ·have hti:(1:Int)<(ts.length:Int):=by omega
      have:=hbad (by simp[Vd,ht])
      simp[hti,this];omega
     have hti:¬ (1:Int)<(ts.length:Int):=by omega
     by_cases hen:e<=n
     ·have:=hbad (by simp[Vd,hen])
      simp[hti,hen,this]
      try (repeat' (first | omega | assumption | intro _ | apply And.intro))
     have:=hgood (by simp[Vd,ht,hen])
     simp[hti,hen] at this |-
     repeat' (first | omega | assumption | intro _ | apply And.intro)
   | _::_::_,h=>simp at h
  have:=key [] (by simp)
  simp at this |-;exact this
theorem QA2 (p:Pg) (n:Nat) (hn:n<=100000):Gd K 52 [pgV p,.int .i64 (n:Nat)] (QW (YZ p (n:Nat))):=by
 refine Qb hK c52_ok (by simp) ?_
 simp[pgV]
 refine XZ (fun i=>[(2,AV.iv (.ptr [.map (V5 (fun t=>.sl 1 (txE t)) p.rows),QW p.ends,.map (V5 (fun n=>.int .i64 n) p.exact),QW p.bad])),(5,.yq 5 (YZ p (i:Nat)).length),(7,.iv (.int .i64 (n:Nat))),(8,.iv (.int .i64 (i:Nat)))])
  (fun i=>[(5,AO.arr 3 1 (emb (inE (YZ p (i:Nat)))) 0)]) n ?_ ?_
 ·rw[Qa Go.Pf.c52_b0.eq_1]
  have l:(inE (YZ p (n:Nat))).length=(YZ p (n:Nat)).length:=by simp[inE]
  simp[l];simp[inE]
 intro i hi ih;rw[Qa Go.Pf.c52_b0.eq_1];have hs:=QlD p i;have hl:=QfY p i;have l:(inE (YZ p (i:Nat))).length=(YZ p (i:Nat)).length:=by simp[inE]
 rw[hs] at ih;have hks:=X5 (fun t=>IV.sl 1 (txE t)) p.rows
 have hf:=YU (fun t=>IV.sl 1 (txE t)) (i:Int) p.rows
 generalize hold:(Zv (i:Int) p.rows).getD []=old at *
 have hf':(Qn (.int .i64 (i:Int)) (V5 (fun t=>IV.sl 1 (txE t)) p.rows)).getD (.sl 1 [])=.sl 1 (txE old):=by
  rw[hf,<- hold];cases Zv (i:Int) p.rows<;>rfl
 generalize YZ p (i:Nat)=L at *;have htl:(txE old).length=old.length:=by simp[txE]
 have hin:(i:Int)<(n:Int):=by omega
 by_cases h0:old.length=0
 ·have l3:inE (L++[(i:Int)])=inE L++[[.int .i64 (i:Nat)]]:=by simp[inE]
  rw[if_pos h0,l3] at ih;have he:=QJ3 h0;have ht0:txE old=[]:=by rw[he];rfl
  simp[hin,hks,hf',ht0,l] at ih |-
  repeat' (first | omega | assumption | intro _ | apply And.intro)
 have hne:old≠[]:=fun e=>h0 (by rw[e];rfl)
 rw[if_neg h0] at ih;simp[hin,hks,hf',htl,hne] at ih |-
 repeat' (first | omega | assumption | intro _ | apply And.intro)
end Go.Bk
namespace Go.Bk
open Go Go.Ev Go.Proofs Go.RowKit Go.Proofs.Tryz
variable {K:World->Prop} (hK:∀ w w',K w->Below w.heap.size w w'->K w')
open Go.Pf (Gd c20_ok c21_ok)
set_option maxRecDepth 8000
def Jo (p:Pg) (i:Nat):List W:=(List.range i).map fun n:Nat=>((Zv (n:Int) p.rows).getD []).headD []
def W8 (p:Pg) (i:Nat):List Int:=((List.range i).filter fun n:Nat=>(Zv (n:Int) p.exact).getD 0==0).map fun n:Nat=>(n:Int)
def QqR (p:Pg):List W × List Int × Int :=
 if Vc p then ([],[],141) else
 match p.ends with
 | []=>([],[],142)
 | e::_=>if 0<(YZ p e).length then ([],[],142) else (Jo p e.toNat,W8 p e.toNat,0)
def readB (b:W):List W × List Int × Int:=match cutL b with
 | none=>([],[],140)
 | some ls=>QqR (Vh ls ls.length)
@[simp] def QDl (r:List W × List Int × Int):IV:=.xh [strs r.1,QW r.2.1,.int .i64 r.2.2]
theorem QlB (p:Pg) (i:Nat):W8 p (i+1)=W8 p i++if (Zv (i:Int) p.exact).getD 0=0 then [(i:Int)] else []:=by
 simp only[W8,QKn,QKX,QKf]
 congr 1
 grind
theorem Qg9 (p:Pg) (i:Nat):Jo p (i+1)=Jo p i++[((Zv (i:Int) p.rows).getD []).headD []]:=by
 simp only[Jo,QKn,QKf,QKg,List.map_nil]
theorem Qk7 (p:Pg) (i:Nat):(Jo p i).length=i:=by simp[Jo]
theorem Qni (p:Pg) (i:Nat):(W8 p i).length<=i:=by
 simp only[W8,QJ9]
 grind
theorem Qnl {p:Pg} {n:Nat} (h:(YZ p (n:Nat)).length=0):∀ i,i<n->(Zv (i:Int) p.rows).getD []≠[]:=by
 intro i hi he;have h0:=QJ3 h;simp only[YZ,QKB,List.map_eq_nil_iff,List.filter_eq_nil_iff] at h0;simp_all
theorem Qm7 (ls:List W):∀ i,∀ e∈(Vh ls i).ends,0<=e/\e<=40
 | 0=>by simp[Vh]
 | i+1=>by
   have ih:=Qm7 ls i;simp only[Vh,UU];split
   ·exact ih
   ·rename_i r hr
    split
    ·intro e he
     simp only[Yl] at he;split at he
     ·exact ih e he
     rcases QKa.1 he with he | he
     ·exact ih e he
     simp at he;subst he;have:=QfQ (QkB (QcW hr)).1;omega
    ·exact ih
include hK
def QHX (a:Int) (l:List Int):Int:=l.foldl (fun m x=>if m<x then x else m) a
theorem good20 (hS:∀ s:W,s.length<=1000000->Gd K 138 [.str s,.str [10]] (strs (spl s))) (b:W) (hb:b.length<=100000) (hl:∀ ls,cutL b=some ls->ls.length<=100000/\∀ l∈ls,l.length<=10000) :
  Gd K 20 [.str b] (QDl (readB b)):=by
 refine Qb hK c20_ok (by simp) ?_
 have g44:=Qt8 hK hS b hb hl;unfold readB;cases hcut:cutL b with
 | none =>
   rw[hcut] at g44;simp[QCD] at g44 |-;refine Qe g44 (by simp) ?_
   simp
 | some ls =>
   rw[hcut] at g44;simp only at g44 |-;have hends:=Qm7 ls ls.length;generalize Vh ls ls.length=p at *;have g45:=QA3 hK p;have g46:∀ (n:Nat),n<=100000->_:=fun n hn=>QA2 hK p n hn
   unfold QqR;have hdef:Pg.ends p=p.ends:=rfl;cases he:p.ends with
   | nil =>
     simp[pgV,he] at g44 g45 |-;refine Qe g44 (by simp) ?_
     simp;refine Qe g45 (by simp) ?_
     by_cases hc:Vc p=true
     ·simp[hc]
     have hc':Vc p=false:=by simpa using hc
     simp[hc']
   | cons e es =>
     obtain ⟨e0,e1⟩:=hends e (by rw[he];exact List.mem_cons_self)
     obtain ⟨n,rfl⟩:∃ n:Nat,e=n:=⟨e.toNat,by omega⟩
     have g46:=g46 n (by omega)
     simp[pgV,he] at g44 g45 g46 |-;refine Qe g44 (by simp) ?_
     simp;refine Qe g45 (by simp) ?_
     by_cases hc:Vc p=true
     ·simp[hc]
     ·have hc':Vc p=false:=by simpa using hc
      have hze:¬ ((es.length:Int)+1=0):=by omega
      simp[hc',hze];intro hel;refine Qe g46 (.inl rfl) ?_;have hll:=QfY p n;by_cases h0:(YZ p (n:Nat)).length=0
      ·have hll0:=Qnl h0
       have h0':=QJ3 h0;simp[h0']
       refine XZ (fun i=>[(2,AV.yq 2 (Jo p i).length),(3,.yq 3 (W8 p i).length),(5,.loc 5 0),(37,.iv (.int .i64 (n:Nat))),(38,.iv (.int .i64 (i:Nat)))])
        (fun i=>[(2,AO.arr 9 1 (emb (txE (Jo p i))) 0),(3,.arr 3 1 (emb (inE (W8 p i))) 0),(5,.box [.iv (.map (V5 (fun t=>.sl 1 (txE t)) p.rows)),.iv (QW ((n:Int)::es)),.iv (.map (V5 (fun n=>.int .i64 n) p.exact)),.iv (QW p.bad)])]) n ?_ ?_
       ·rw[Qa Go.Pf.c20_b0.eq_1]
        have l1:(txE (Jo p n)).length=(Jo p n).length:=by simp[txE]
        have l2:(inE (W8 p n)).length=(W8 p n).length:=by simp[inE]
        simp[l1,l2];simp[txE,inE]
       intro i hi ih;rw[Qa Go.Pf.c20_b0.eq_1];have hni:=hll0 i hi;have hin:(i:Int)<(n:Int):=by omega
       have hks:=X5 (fun t=>IV.sl 1 (txE t)) p.rows
       have hf:=YU (fun t=>IV.sl 1 (txE t)) (i:Int) p.rows
       have hks2:=X5 (fun n=>IV.int .i64 n) p.exact
       have hf2:=YU (fun n=>IV.int .i64 n) (i:Int) p.exact
       rw[Qg9,QlB] at ih;have hml:=Qni p i;have htl:=Qk7 p i;generalize hold:(Zv (i:Int) p.rows).getD []=old at *
       have hf':(Qn (.int .i64 (i:Int)) (V5 (fun t=>IV.sl 1 (txE t)) p.rows)).getD (.sl 1 [])=.sl 1 (txE old):=by
        rw[hf,<- hold];cases Zv (i:Int) p.rows<;>rfl
       generalize hcnt:(Zv (i:Int) p.exact).getD 0=cnt at *
       have hf2':(Qn (.int .i64 (i:Int)) (V5 (fun n=>IV.int .i64 n) p.exact)).getD (.int .i64 0)=.int .i64 cnt:=by
        rw[hf2,<- hcnt];cases Zv (i:Int) p.exact<;>rfl
       generalize Jo p i=T at *;generalize W8 p i=M at *;have l1:(txE T).length=T.length:=by simp[txE]
       have l2:(inE M).length=M.length:=by simp[inE]
       obtain ⟨o,os,rfl⟩:∃ o os,old=o::os:=by
        cases old with
        | nil=>exact absurd rfl hni
        | cons o os=>exact ⟨o,os,rfl⟩
       have l3:txE (T++[o])=txE T++[[.str o]]:=by simp[txE]
       have hto:txE (o::os)=[.str o]::txE os:=rfl;by_cases hz:cnt=0
       ·have l4:inE (M++[(i:Int)])=inE M++[[.int .i64 (i:Nat)]]:=by simp[inE]
        rw[if_pos hz] at ih;simp[l3,l4] at ih;simp[hin,hks,hks2,hf',hf2',hto,hz,l1,l2] at ih |-
        repeat' (first | omega | assumption | intro _ | apply And.intro)
       rw[if_neg hz] at ih;simp[l3] at ih;simp[hin,hks,hks2,hf',hf2',hto,hz,l1,l2] at ih |-
       repeat' (first | omega | assumption | intro _ | apply And.intro)
      ·have h0':¬ YZ p (n:Nat)=[]:=fun e=>h0 (by rw[e];rfl)
       have h0p:0<(YZ p (n:Nat)).length:=by omega
       simp[h0',h0p]
theorem QBk (hS:∀ s:W,s.length<=1000000->Gd K 138 [.str s,.str [10]] (strs (spl s))) (b:W) (hb:b.length<=100000) (hl:∀ ls,cutL b=some ls->ls.length<=100000/\∀ l∈ls,l.length<=10000) :
  Gd K 21 [.str b] (match cutL b with | none=>.xh [QW [],.int .i64 140] | some ls=>.xh [QW (Vh ls ls.length).bad,.int .i64 0]):=by
 refine Qb hK c21_ok (by simp) ?_
 have g44:=Qt8 hK hS b hb hl;cases hcut:cutL b with
 | none =>
   rw[hcut] at g44;simp[QCD] at g44 |-;refine Qe g44 (by simp) ?_
   simp
 | some ls =>
   rw[hcut] at g44;simp only at g44 |-;generalize Vh ls ls.length=p at *;simp[pgV] at g44 |-;refine Qe g44 (by simp) ?_
   simp
def QDv (p:Pg):List Int × Int:=match p.ends with
 | []=>([],142)
 | e::es=>(YZ p (QHX e es),0)
def QHZ (b:W):List Int × Int:=match cutL b with
 | none=>([],140)
 | some ls=>QDv (Vh ls ls.length)
def QH1 (a b:W):List W × Int:=if (cutL a).isSome&&(cutL b).isSome then ((readB (a++b)).1,(readB (a++b)).2.2) else ([],140)
end Go.Bk
namespace Go.Pf
open Go Go.Ev Go.Proofs Go.RowKit Go.Proofs.Tryz
set_option maxRecDepth 8000
set_option maxHeartbeats 1000000
theorem QBo (h:Qd) (b:Txt) (T A:List Txt) (X:Qd) (mm:List Int) (hb:b.length<=100000) (hl:∀ ls,Bk.cutL b=some ls->ls.length<=100000/\∀ l∈ls,l.length<=10000)
  (hr:Bk.readB b=(T,mm,0)) (g14:Gd KW 31 [hoV h,strs T] (.xh [strs A,hoV X,.int .i64 0])) :
  Gd KW 12 [hoV h,.str b] (.xh [strs A,hoV X,.int .i64 0]):=by
 refine Qb hKW (fk func12 c12 (by kernel_rfl)) (by simp) ?_
 have g27:=Bk.good20 hKW hSB b hb hl;rw[hr] at g27;simp
 repeat first | intro _ | refine ⟨by omega,?_⟩
 refine cK (by omega) ?_
 simp
 repeat first | intro _ | refine ⟨by omega,?_⟩
 refine cK (by simpa using g14) ?_
 simp
end Go.Pf
namespace Go.Bk
open Go Go.Ev Go.Proofs Go.RowKit Go.Proofs.Tryz
variable {K:World->Prop} (hK:∀ w w',K w->Below w.heap.size w w'->K w')
set_option maxRecDepth 8000
theorem QeB:∀ (a b c:W),a.length=b.length->b.length=c.length->Z6 a c<=Z6 a b+Z6 b c
 | [],[],[],_,_=>by simp[Z6]
 | x::a,y::b,z::c,h,h'=>by
   have:=QeB a b c (by simpa using h) (by simpa using h')
   simp only[Z6]
   grind
 | [],y::b,_,h,_=>by simp at h
 | x::a,[],_,h,_=>by simp at h
 | x::a,y::b,[],_,h=>by simp at h
 | [],[],z::c,_,h=>by simp at h
theorem V6:∀ (r q:W) (k:Nat),r.length=q.length->Z6 r q=k+1->∃ a x y b b',r=a++x::b/\q=a++y::b'/\x≠y/\b.length=b'.length/\Z6 b b'=k
 | [],[],k,_,h=>by simp[Z6] at h
 | x::r,y::q,k,h,hd=>by
   by_cases hxy:x=y
   ·subst hxy
    simp only[Z6,if_true,QKl] at hd;obtain ⟨a,u,v,b,b',h1,h2,h3,h4,h5⟩:=V6 r q k (by simpa using h) hd
    exact ⟨x::a,u,v,b,b',by rw[h1];rfl,by rw[h2];rfl,h3,h4,h5⟩
   simp only[Z6,if_neg hxy] at hd;exact ⟨[],x,y,r,q,rfl,rfl,hxy,by simpa using h,by omega⟩
 | [],y::q,k,h,_=>by simp at h
 | x::r,[],k,h,_=>by simp at h
theorem p97:∀ a,a<97->∀ m,m<97->a*m % 97=0->a=0\/m=0:=by decide +kernel
theorem QE5 (d m:Int) (hd:d.natAbs<97) (hm:m.natAbs<97) (h:(d*m) % 97=0):d=0\/m=0:=by
 have h1:(d*m).natAbs % 97=0:=by omega
 rw[Int.natAbs_mul] at h1;rcases p97 _ hd _ hm h1 with h | h
 all_goals simp_all
theorem QAs (d d' m1 m2:Int) (h1:(d+d') % 97=0) (h2:(d*m1+d'*(m1+m2)) % 97=0):(d*m2) % 97=0:=by
 obtain ⟨u,hu⟩:∃ u,d'=97*u-d:=⟨(d+d') / 97,by omega⟩
 have e:d*m1+d'*(m1+m2)=97*(u*(m1+m2))-d*m2:=by
  grind
 omega
theorem UR {c:UInt8} (h:32<=c.toNat/\c.toNat<=126):0<=v1 c/\v1 c<=94:=by simp only[v1];omega
theorem QzC {x y:UInt8} (h:x≠y):v1 x-v1 y≠0:=by
 intro e;apply h;rw[<- QjL];simp only[v1] at e;omega
theorem QuO {m n:Nat} (hm:m<100) (hn:n<100) (h:two m=two n):m=n:=by
 have:=congrArg dg h;rw[Qb8 hm,Qb8 hn] at this;omega
theorem Qaq {m n:Nat} (hm:m<100) (hn:n<100) (h:m≠n):1<=Z6 (two m) (two n):=by
 rcases QLs (Z6 (two m) (two n)) with h0 | h0
 ·exact absurd (QuO hm hn (Xg _ _ rfl h0)) h
 ·exact h0
theorem Qo3 (r q:W) (h:r.length=q.length):Z6 (QO r) (QO q)=Z6 r q+Z6 (two (S1 r % 97).toNat) (two (S1 q % 97).toNat)+Z6 (two (S2 1 r % 97).toNat) (two (S2 1 q % 97).toNat):=by
 simp only[QO,QKW];rw[Yv r q _ _ h,Yv (two (S1 r % 97).toNat) (two (S1 q % 97).toNat) _ _ rfl];omega
theorem QrO {r q:W} (hr:plain r) (hq:plain q) (hl:r.length=q.length) (hn:r.length<=62) (hne:r≠q):3<=Z6 (QO r) (QO q):=by
 rw[Qo3 r q hl];rcases QLa (Z6 r q) 3 with h3 | h3;rotate_left
 ·omega
 ·rcases QLs (Z6 r q) with h0 | h0
  ·exact absurd (Xg _ _ hl h0) hne
  ·obtain ⟨k,hk⟩:∃ k,Z6 r q=k+1:=⟨Z6 r q-1,by omega⟩
   obtain ⟨a,x,y,b,b',e1,e2,hxy,hbl,hd⟩:=V6 r q k hl hk;have px:=UR (hr x (by rw[e1];simp))
   have py:=UR (hq y (by rw[e2];simp))
   have hd0:=QzC hxy;have hal:a.length+1+b.length<=62:=by rw[e1] at hn;simp at hn;omega
   have s1:S1 r-S1 q=v1 x-v1 y+(S1 b-S1 b'):=by
    rw[e1,e2,Qcm,Qcm];simp only[S1];omega
   have s2:S2 1 r-S2 1 q=(v1 x-v1 y)*((1+a.length:Nat):Int)+(S2 (1+a.length+1) b-S2 (1+a.length+1) b'):=by
    rw[e1,e2,QgT,QgT];simp only[S2,Int.sub_mul];omega
   rcases QLs k with hk0 | hk0
   ·subst hk0
    have hb:=Xg _ _ hbl hd;subst hb;have n1:(S1 r % 97).toNat≠(S1 q % 97).toNat:=by omega
    have n2:(S2 1 r % 97).toNat≠(S2 1 q % 97).toNat:=by
     intro e;have:((v1 x-v1 y)*((1+a.length:Nat):Int)) % 97=0:=by omega
     rcases QE5 _ _ (by omega) (by omega) this with h | h<;>omega
    have:=Qaq (by omega) (by omega) n1
    have:=Qaq (by omega) (by omega) n2
    omega
   ·have hk1:k=1:=by omega
    subst hk1;obtain ⟨a',x',y',c,c',f1,f2,hxy',hcl,hd'⟩:=V6 b b' 0 hbl hd;have hc:=Xg _ _ hcl hd';subst hc;have px':=UR (hr x' (by rw[e1,f1];simp))
    have py':=UR (hq y' (by rw[e2,f2];simp))
    have hd0':=QzC hxy';have hal':a.length+1+a'.length+1<=62:=by rw[f1] at hal;simp at hal;omega
    have s1':S1 b-S1 b'=v1 x'-v1 y':=by
     rw[f1,f2,Qcm,Qcm];simp only[S1];omega
    have s2':S2 (1+a.length+1) b-S2 (1+a.length+1) b'=(v1 x'-v1 y')*((1+a.length+1+a'.length:Nat):Int):=by
     rw[f1,f2,QgT,QgT];simp only[S2,Int.sub_mul];omega
    rw[s1'] at s1;rw[s2'] at s2;by_cases m1:(S1 r % 97).toNat=(S1 q % 97).toNat
    ·have n2:(S2 1 r % 97).toNat≠(S2 1 q % 97).toNat:=by
      intro e
      have hz:((v1 x-v1 y)*((1+a'.length:Nat):Int)) % 97=0:=by
       refine QAs _ (v1 x'-v1 y') ((1+a.length:Nat):Int) _ (by omega) ?_
       have e6:((1+a.length+1+a'.length:Nat):Int)=((1+a.length:Nat):Int)+((1+a'.length:Nat):Int):=by omega
       rw[e6] at s2;omega
      rcases QE5 _ _ (by omega) (by omega) hz with h | h<;>omega
     have:=Qaq (by omega) (by omega) n2
     omega
    ·have:=Qaq (by omega) (by omega) m1
     omega
theorem Qb0 {l r:W} (h:fits l r=true):YP r=true/\l.length=r.length+4/\Z6 l (QO r)<=1:=by
 simp only[fits,QJY,decide_eq_true_eq] at h
 grind
theorem Qxs {l r:W} (h1:YP r=true) (h2:l.length=r.length+4) (h3:Z6 l (QO r)<=1):fits l r=true:=by
 simp[fits,h1,h2,h3]
theorem QbZ {l r q:W} (h:fits l r=true) (h':fits l q=true):r=q:=by
 obtain ⟨a1,a2,a3⟩:=Qb0 h;obtain ⟨b1,b2,b3⟩:=Qb0 h';obtain ⟨p1,p2,_⟩:=Vq a1;obtain ⟨p3,_,_⟩:=Vq b1;by_cases hne:r=q
 ·exact hne
 ·have:=QrO p1 p3 (by omega) p2 hne
  have:=QeB (QO r) l (QO q) (by rw[Xu];omega) (by rw[Xu];omega)
  rw[WB (QO r) l] at this;omega
theorem QqB {x:Int} (h1 : -97<x) (h2:x<97):x.tmod 97=x:=by
 grind
theorem QrL {a b:W} {x y:UInt8} (hp:plain (a++x::b)):fix (S1 (a++x::b) % 97) (a++y::b) a.length=a++x::b:=by
 have pa:plain a:=fun c hc=>hp c (by simp[hc])
 have pb:plain b:=fun c hc=>hp c (by simp[hc])
 have px:=UR (hp x (by simp))
 have na:=Qqe pa;have nb:=Qqe pb
 have e:Qmk (S1 (a++x::b) % 97) (a++y::b) a.length=v1 x:=by
  unfold Qmk;have e1:(a++y::b).take a.length++[32]++(a++y::b).drop (a.length+1)=a++([32]++b):=by simp
  have e3:S1 ((32:UInt8)::b)=S1 b:=by simp[S1,v1]
  rw[e1,Qcm,Qcm,show ([32]:W)++b=32::b from rfl,e3]
  have e2:S1 (x::b)=v1 x+S1 b:=rfl;have t1:(S1 a+S1 b).tmod 97=(S1 a+S1 b) % 97:=QKM (by omega)
  rw[e2,t1];generalize hX:(S1 a+(v1 x+S1 b)) % 97-(S1 a+S1 b) % 97=X;rw[QqB (x:=X) (by omega) (by omega),QKM (show 0<=X+97 by omega)]
  omega
 unfold fix;rw[e]
 have:UInt8.ofNat (32+v1 x).toNat=x:=by
  have e3:(32+v1 x).toNat=x.toNat:=by simp only[v1] at *;omega
  simp_all
 rw[this];simp
theorem QdY {l r:W} (h:fits l r=true):YY l=some r:=by
 obtain ⟨a1,a2,a3⟩:=Qb0 h;obtain ⟨p1,p2,p3⟩:=Vq a1;have h6:¬ l.length<6:=by omega
 cases hf:fits l (l.take (l.length-4)) with
 | true=>rw[WZ h6 rfl hf,QbZ hf h]
 | false =>
   generalize ht:l.take (l.length-4)=t at *;have htl:t.length=r.length:=by grind
   have hl:l=t++l.drop (l.length-4):=by rw[<- ht];simp
   have hdl:(l.drop (l.length-4)).length=4:=by simp;omega
   have hd:Z6 l (QO r)=Z6 t r+Z6 (l.drop (l.length-4)) (two (S1 r % 97).toNat++two (S2 1 r % 97).toNat):=by
    conv=>lhs;arg 1;rw[hl]
    simp only[QO,QKW];exact Yv _ _ _ _ htl
   have htr:Z6 t r≠0:=fun e=>by
    have:=Xg _ _ htl e;subst this
    grind
   have hz:Z6 (l.drop (l.length-4)) (two (S1 r % 97).toNat++two (S2 1 r % 97).toNat)=0:=by omega
   have hz':=Xg _ _ hdl hz
   have hw:dg ((l.drop (l.length-4)).take 2)=S1 r % 97:=by
    rw[hz'];have:(two (S1 r % 97).toNat++two (S2 1 r % 97).toNat).take 2=two (S1 r % 97).toNat:=rfl;rw[this,Qb8 (by omega)]
    omega
   rw[Ju h6 ht hf hw (by omega)]
   obtain ⟨a,y,x,b,b',e1,e2,hxy,hbl,hd0⟩:=V6 t r 0 htl (by omega)
   have hb:=Xg _ _ hbl hd0;subst hb;have hfix:fix (S1 r % 97) t a.length=r:=by rw[e1,e2];exact QrL (by rw[<- e2];exact p1)
   have hal:a.length<t.length:=by rw[e1];simp
   cases hs:(List.range t.length).find? fun i=>fits l (fix (S1 r % 97) t i) with
   | none =>
     rw[List.find?_eq_none] at hs;have:=hs a.length (QKr.2 hal);simp[hfix,h] at this
   | some j =>
     have:=List.find?_some hs;simp only[QLo,QbZ this h]
def rd (l:W):Option (Int × W × Bool):=(YY l).map fun r=>(Qm r).1
def ex (l:W):Bool:=match YY l with
 | some r=>decide (QO r=l)
 | none=>false
theorem Qbx {α:Type} [BEq α] [LawfulBEq α] {l:List α} {x y:α}:y∈Yl l x↔y∈l\/y=x:=by
 unfold Yl
 grind
theorem QaS {α:Type} [BEq α] [LawfulBEq α] {l:List α} {x:α} (h:l.Nodup):(Yl l x).Nodup:=by
 unfold Yl;split
 ·exact h
 rename_i hx;rw[List.nodup_append];refine ⟨h,by simp,?_⟩
 grind
theorem Qqw {α:Type} [BEq α] [LawfulBEq α] (l:List α) (x:α):Yl l x≠[]:=fun e=>by
 have:x∈Yl l x:=Qbx.2 (.inr rfl)
 grind
theorem QgN {β:Type} (k:Int) (v:β):∀ l:List (Int × β),(QeY k v l).map (·.1)=if k∈l.map (·.1) then l.map (·.1) else l.map (·.1)++[k]
 | []=>by simp[QeY]
 | p::r=>by
   have ih:=QgN k v r;simp only[QeY];by_cases h:p.1=k
   ·simp[h]
   rw[if_neg h];simp only[QKg,ih,QJ7,Ne.symm h,false_or];split<;>simp
theorem Qkk {β:Type} {k:Int} {v:β}:∀ {l:List (Int × β)} {q:Int × β},q∈QeY k v l->q=(k,v)\/q∈l
 | [],q,h=>by simpa[QeY] using h
 | p::r,q,h=>by
   simp only[QeY] at h;split at h
   ·grind
   rcases QJ7.1 h with h | h
   ·grind
   rcases Qkk h with h | h
   all_goals grind
theorem QgO {β:Type}:∀ {l:List (Int × β)} {q:Int × β},(l.map (·.1)).Nodup->q∈l->Zv q.1 l=some q.2
 | p::r,q,hn,h=>by
   simp only[QKg,QLB] at hn;simp only[Zv];rcases QJ7.1 h with h | h
   ·grind
   rw[if_neg,QgO hn.2 h];intro e;simp_all
structure Qcn (p:Pg) (L:List W):Prop where
 ends:∀ e,e∈p.ends↔∃ l∈L,∃ t,rd l=some (e,t,true)
 endsN:p.ends.Nodup
 rows:∀ k t,t∈(Zv k p.rows).getD []↔∃ l∈L,rd l=some (k,t,false)
 rowsN:∀ k,((Zv k p.rows).getD []).Nodup
 keysN:(p.rows.map (·.1)).Nodup
 full:∀ q∈p.rows,q.2≠[]
 pos:∀ k,0<=(Zv k p.exact).getD 0
 exact:∀ k,(Zv k p.exact).getD 0=0↔∀ l∈L,∀ t,rd l=some (k,t,false)->ex l=false
 bad:p.bad=((List.range L.length).filter fun j:Nat=>(rd (L.getD j [])).isNone).map fun j:Nat=>(j:Int)
theorem QvJ:Qcn ⟨[],[],[],[]⟩ []:=⟨by simp,by simp,by simp[Zv],by simp[Zv],by simp,by simp,by simp[Zv],by simp[Zv],by simp⟩
theorem Qtk (L:List W) (l:W):(((List.range (L++[l]).length).filter fun j:Nat=>(rd ((L++[l]).getD j [])).isNone).map fun j:Nat=>(j:Int)) =
  (((List.range L.length).filter fun j:Nat=>(rd (L.getD j [])).isNone).map fun j:Nat=>(j:Int))++if (rd l).isNone then [(L.length:Int)] else []:=by
 rw[QKb,QK3,QKn,QKX,QKf]
 congr 1
 ·congr 1
  apply QLn
  grind
 ·cases h:(rd l).isNone<;>simp[h]
theorem Qq9 {p:Pg} {L:List W} (l:W) (h:Qcn p L):Qcn (UU p L.length l) (L++[l]):=by
 have hb:=Qtk L l;unfold UU;cases hR:YY l with
 | none =>
   have hr:rd l=none:=by simp[rd,hR]
   refine ⟨fun e=>?_,h.endsN,fun k t=>?_,h.rowsN,h.keysN,h.full,h.pos,fun k=>?_,?_⟩
   ·simp only[h.ends,QKa,QKs]
    constructor
    ·rintro ⟨l',hl,t,ht⟩;exact ⟨l',.inl hl,t,ht⟩
    rintro ⟨l',hl | rfl,t,ht⟩
    ·exact ⟨l',hl,t,ht⟩
    grind
   ·simp only[h.rows,QKa,QKs]
    constructor
    ·rintro ⟨l',hl,ht⟩;exact ⟨l',.inl hl,ht⟩
    rintro ⟨l',hl | rfl,ht⟩
    ·exact ⟨l',hl,ht⟩
    grind
   ·simp only[h.exact,QKa,QKs]
    constructor
    ·rintro hq l' (hl | rfl) t ht
     ·exact hq l' hl t ht
     grind
    intro hq l' hl;exact hq l' (.inl hl)
   rw[hb,h.bad,hr];simp
 | some r =>
   have hr:rd l=some (Qm r).1:=by simp[rd,hR]
   have he:ex l=decide (QO r=l):=by simp[ex,hR]
   have hbb:p.bad=((List.range (L++[l]).length).filter fun j:Nat=>(rd ((L++[l]).getD j [])).isNone).map fun j:Nat=>(j:Int):=by rw[hb,h.bad,hr];simp
   dsimp only
   generalize (Qm r).1=x at *;obtain ⟨k0,t0,c⟩:=x;cases c with
   | true =>
     simp only[if_true];refine ⟨fun e=>?_,QaS h.endsN,fun k t=>?_,h.rowsN,h.keysN,h.full,h.pos,fun k=>?_,hbb⟩
     ·simp only[Qbx,h.ends,QKa,QKs]
      constructor
      ·rintro (⟨l',hl,t,ht⟩ | rfl)
       ·exact ⟨l',.inl hl,t,ht⟩
       exact ⟨l,.inr rfl,t0,hr⟩
      rintro ⟨l',hl | rfl,t,ht⟩
      ·exact .inl ⟨l',hl,t,ht⟩
      rw[hr] at ht;injection ht with ht
      injection ht with ht
      omega
     ·simp only[h.rows,QKa,QKs]
      constructor
      ·rintro ⟨l',hl,ht⟩;exact ⟨l',.inl hl,ht⟩
      rintro ⟨l',hl | rfl,ht⟩
      ·exact ⟨l',hl,ht⟩
      grind
     simp only[h.exact,QKa,QKs];constructor
     ·rintro hq l' (hl | rfl) t ht
      ·exact hq l' hl t ht
      rw[hr] at ht;simp at ht
     intro hq l' hl;exact hq l' (.inl hl)
   | false =>
     simp only[QKq,if_false];refine ⟨fun e=>?_,h.endsN,fun k t=>?_,fun k=>?_,?_,?_,fun k=>?_,fun k=>?_,hbb⟩
     ·simp only[h.ends,QKa,QKs]
      constructor
      ·rintro ⟨l',hl,t,ht⟩;exact ⟨l',.inl hl,t,ht⟩
      rintro ⟨l',hl | rfl,t,ht⟩
      ·exact ⟨l',hl,t,ht⟩
      grind
     ·simp only[Xv]
      by_cases hk:k=k0
      ·subst hk
       simp only[if_true,QKO,Qbx,h.rows,QKa,QKs];constructor
       ·rintro (⟨l',hl,ht⟩ | rfl)
        ·exact ⟨l',.inl hl,ht⟩
        exact ⟨l,.inr rfl,hr⟩
       rintro ⟨l',hl | rfl,ht⟩
       ·exact .inl ⟨l',hl,ht⟩
       grind
      simp only[if_neg hk,h.rows,QKa,QKs];constructor
      ·rintro ⟨l',hl,ht⟩;exact ⟨l',.inl hl,ht⟩
      rintro ⟨l',hl | rfl,ht⟩
      ·exact ⟨l',hl,ht⟩
      grind
     ·simp only[Xv]
      split
      ·simp only[QKO];exact QaS (h.rowsN _)
      exact h.rowsN _
     ·rw[QgN]
      split
      ·exact h.keysN
      rename_i hx;rw[List.nodup_append];refine ⟨h.keysN,by simp,?_⟩
      intro a ha b hb e;simp at hb
      grind
     ·intro q hq
      rcases Qkk hq with rfl | hq
      ·exact Qqw _ _
      exact h.full q hq
     ·have:=h.pos k
      have:=h.pos k0;split
      ·rw[Xv]
       split
       ·simp only[QKO];omega
       omega
      omega
     ·by_cases hx:QO r=l
      ·rw[if_pos hx,Xv]
       have hel:ex l=true:=by grind
       by_cases hk:k=k0
       ·subst hk
        have:=h.pos k;simp only[if_true,QKO];constructor
        ·grind
        intro hq;have:=hq l (by simp) t0 hr
        rw[hel] at this;cases this
       simp only[if_neg hk,h.exact,QKa,QKs];constructor
       ·rintro hq l' (hl | rfl) t ht
        ·exact hq l' hl t ht
        rw[hr] at ht;injection ht with ht
        injection ht with ht _
        omega
       intro hq l' hl;exact hq l' (.inl hl)
      ·rw[if_neg hx]
       have hel:ex l=false:=by grind
       simp only[h.exact,QKa,QKs];constructor
       ·rintro hq l' (hl | rfl) t ht
        ·exact hq l' hl t ht
        exact hel
       ·intro hq l' hl;exact hq l' (.inl hl)
theorem QtW (ls:List W):∀ i,i<=ls.length->Qcn (Vh ls i) (ls.take i)
 | 0,_=>QvJ
 | i+1,h=>by
   have hi:i<ls.length:=h;have:=Qq9 ls[i] (QtW ls i (by omega))
   rw[QKV,QLO (by omega)] at this
   rw[QJV hi];have e:Vh ls (i+1)=UU (Vh ls i) i ls[i]:=by simp[Vh,hi]
   grind
theorem QAr (ls:List W):Qcn (Vh ls ls.length) ls:=by
 have:=QtW ls ls.length (QJ2 _)
 grind
theorem QtX {α:Type} {l:List α} {a:α} (hn:l.Nodup) (h:∀ x,x∈l↔x=a):l=[a]:=by
 match l,hn with
 | [],_=>simp_all
 | [x],_=>rw[(h x).1 (by simp)]
 | x::y::r,hn =>
   have h1:=(h x).1 (by simp)
   simp_all
def Y7 (ls:List W) (T:List W) (i:Nat):Bool:=ls.any fun l=>decide (rd l=some ((i:Int),T.getD i [],false))
def qH (ls:List W) (T:List W) (i:Nat):Bool:=ls.any fun l=>decide (rd l=some ((i:Int),T.getD i [],false))&&ex l
structure WN (ls:List W) (T:List W):Prop where
 each:∀ l∈ls,∀ x,rd l=some x->x=((T.length:Int),[],true)\/∃ (i:Nat) (t:W),T[i]?=some t/\x=((i:Int),t,false)
 close:∃ l∈ls,rd l=some ((T.length:Int),[],true)
theorem QgJ {p:Pg} {ls T:List W} (h:Qcn p ls) (hb:WN ls T):p.ends=[(T.length:Int)]:=by
 refine QtX h.endsN fun e=>?_
 rw[h.ends];constructor
 ·rintro ⟨l,hl,t,ht⟩
  rcases hb.each l hl _ ht with h | ⟨i,t,_,h⟩
  all_goals grind
 rintro rfl
 obtain ⟨l,hl,ht⟩:=hb.close
 grind
theorem QeR {p:Pg} {ls T:List W} (h:Qcn p ls) (hb:WN ls T) (i:Nat) (hi:i<T.length):(Zv (i:Int) p.rows).getD []=if Y7 ls T i then [T[i]] else []:=by
 have hg:T.getD i []=T[i]:=by simp[hi]
 have hm:∀ t,t∈(Zv (i:Int) p.rows).getD []->t=T[i]/\Y7 ls T i=true:=by
  intro t ht;rw[h.rows] at ht;obtain ⟨l,hl,ht⟩:=ht;rcases hb.each l hl _ ht with h | ⟨j,u,hj,h⟩
  ·grind
  injection h with h1 h
  injection h with h2 _
  have:i=j:=by omega
  subst this;rw[QJW hi] at hj;injection hj with hj
  refine ⟨by rw[h2,hj],?_⟩
  simp only[Y7,QLg,decide_eq_true_eq]
  grind
 split
 ·rename_i hf
  refine QtX (h.rowsN _) fun t=>⟨fun ht=>(hm t ht).1,?_⟩
  rintro rfl
  rw[h.rows];simp only[Y7,QLg,decide_eq_true_eq] at hf;obtain ⟨l,hl,ht⟩:=hf;exact ⟨l,hl,by rw[ht,hg]⟩
 rename_i hf;cases hl:(Zv (i:Int) p.rows).getD [] with
 | nil=>rfl
 | cons a r=>exact absurd (hm a (by rw[hl];simp)).2 hf
theorem Qmb {p:Pg} {ls T:List W} (h:Qcn p ls) (hb:WN ls T):Vc p=false:=by
 have he:=QgJ h hb;unfold Vc;rw[he];simp only[QK3,Nat.lt_irrefl,decide_false,Bool.false_or];rw[QLv];intro q hq;have hf:=QgO h.keysN hq;have hne:=h.full q hq
 obtain ⟨t,ht⟩:∃ t,t∈q.2:=by
  cases hq2:q.2 with
  | _=>simp_all
 have ht':t∈(Zv q.1 p.rows).getD []:=by grind
 obtain ⟨l,hl,hx⟩:=(h.rows _ _).1 ht';rcases hb.each l hl _ hx with h' | ⟨j,u,hj,h'⟩
 ·grind
 injection h' with h1 _
 have hjl:=(QJX.1 hj).1;have hr:=QeR h hb j hjl;rw[<- h1,hf] at hr;simp only[QKO] at hr;simp only[Vd,hr];split
 ·simp;omega
 simp;omega
theorem QpW {p:Pg} {ls T:List W} (h:Qcn p ls) (hb:WN ls T):YZ p (T.length:Nat)=((List.range T.length).filter fun i=>!Y7 ls T i).map fun i:Nat=>(i:Int):=by
 unfold YZ;rw[QKB]
 congr 1
 apply QLn;intro i hi;rw[QKr] at hi;rw[QeR h hb i hi]
 grind
theorem Qma {p:Pg} {ls T:List W} (h:Qcn p ls) (hb:WN ls T) (hf:∀ i,i<T.length->Y7 ls T i=true):Jo p T.length=T:=by
 unfold Jo;apply QLI;intro i;by_cases hi:i<T.length
 ·rw[QJ4,List.getElem?_range hi,QJW hi]
  simp only[QLo];rw[QeR h hb i hi,hf i hi];simp
 simp_all
theorem QpV {p:Pg} {ls T:List W} (h:Qcn p ls) (hb:WN ls T):W8 p T.length=((List.range T.length).filter fun i=>!qH ls T i).map fun i:Nat=>(i:Int):=by
 unfold W8
 congr 1
 apply QLn;intro i hi;rw[QKr] at hi;have hx:=h.exact (i:Int)
 have e:qH ls T i=false↔(Zv (i:Int) p.exact).getD 0=0:=by
  rw[hx];simp only[qH,QLv,QJY,decide_eq_true_eq,not_and,Bool.not_eq_true];constructor
  ·intro hq l hl t ht
   rcases hb.each l hl _ ht with h' | ⟨j,u,hj,h'⟩
   ·grind
   injection h' with h1 h'
   injection h' with h2 _
   have:i=j:=by omega
   subst this;rw[QJW hi] at hj;injection hj with hj
   exact hq l hl (by rw[ht,h2,<- hj];simp[hi])
  grind
 grind
theorem QmZ {ls T:List W} (hb:WN ls T):QqR (Vh ls ls.length)=if (List.range T.length).all (Y7 ls T) then (T,((List.range T.length).filter fun i=>!qH ls T i).map fun i:Nat=>(i:Int),0) else ([],[],142):=by
 have h:=QAr ls;unfold QqR;rw[Qmb h hb];have he:=QgJ h hb;have hl:=QpW h hb;have hm:=QpV h hb;simp only[QKq,if_false,he,hl,QKB,hm];by_cases ha:(List.range T.length).all (Y7 ls T)=true
 ·rw[if_pos ha]
  have hf:∀ i,i<T.length->Y7 ls T i=true:=by
   grind
  rw[Qma h hb hf,if_neg];rw[QJ9]
  have:(List.range T.length).filter (fun i=>!Y7 ls T i)=[]:=by
   simp_all
  grind
 rw[if_neg ha,if_pos];rw[QJ9];rcases QLs ((List.range T.length).filter fun i=>!Y7 ls T i).length with h0 | h0
 ·exfalso
  apply ha;rw[QKw];intro i hi;have:=QJ3 h0;rw[List.filter_eq_nil_iff] at this
  grind
 exact h0
open Go.Pf (Gd c9_ok)
set_option maxRecDepth 8000
def lnT (T:List W) (i:Nat):W:=QO (J6 i (T.getD i []) false)++[10]
def wrT (T:List W):Nat->W
 | 0=>[]
 | i+1=>wrT T i++lnT T i
def wrB (T:List W):W:=wrT T T.length++(QO (J6 T.length [] true)++[10])
def wrA (T:List W) (i:Nat):W:=if i<=T.length then wrT T i else wrB T
theorem QjI (T:List W):wrA T (T.length+1)=wrB T:=by unfold wrA;grind
def writeB (T:List W):W × Int:=if errT T=0 then (wrB T,0) else ([],errT T)
def QqN (T:List W) (i:Nat):List IV:=[.int .i64 (i:Nat),.str (T.getD i []),.bool false]
def Vp (T:List W):Nat->List (List IV)
 | 0=>[]
 | i+1=>Vp T i++[QqN T i]
theorem VU (T:List W):∀ i,(Vp T i).length=i
 | 0=>rfl
 | i+1=>by simp[Vp,VU T i]
theorem QcV (T:List W):∀ n i,i<n->(Vp T n)[i]?=some (QqN T i)
 | 0,i,h=>by omega
 | n+1,i,h=>by
   have hl:=VU T n;simp only[Vp];by_cases hi:i<n
   ·rw[QKm (by omega),QcV T n i hi]
   ·have:i=n:=by omega
    simp_all
theorem Qiw {T:List W} (h:errT T=0):T.length<=40/\∀ s∈T,tx s=true:=by
 unfold errT at h
 grind
theorem Qmv {s:W} (h:tx s=true):s.length<=60:=by
 simp only[tx,QJY,decide_eq_true_eq] at h;exact h.2
theorem QaW (n:Nat) (h:n<100):plain (two n):=by
 intro c hc;simp only[two,QJ7,QKc,or_false] at hc;rcases hc with rfl | rfl<;>simp only[UInt8.toNat_ofNat']<;>omega
theorem WY {n:Nat} {t:W} {c:Bool} (hn:n<100) (ht:tx t=true):plain (J6 n t c)/\(J6 n t c).length<=62:=by
 have h1:=QaW n hn;have h2:=QzE ht;have h3:=Qmv ht;unfold J6;split
 ·refine ⟨fun c hc=>?_,by simp[two]⟩
  rcases QKa.1 hc with hc | hc
  ·simp_all
  exact h1 c hc
 refine ⟨fun c hc=>?_,by simp[two];omega⟩
 rcases QKa.1 hc with hc | hc
 ·exact h1 c hc
 grind
theorem Quh {T:List W} (h:∀ s∈T,tx s=true) (i:Nat):tx (T.getD i [])=true:=by
 by_cases hi:i<T.length
 ·grind
 simp only[List.getD_eq_getElem?_getD,QLD (show T.length<=i by omega),Option.getD_none]
 decide
theorem Qvx {T:List W} (h:∀ s∈T,tx s=true) (i:Nat) (hi:i<100):(lnT T i).length<=67:=by
 have:=(WY (c:=false) hi (Quh h i)).2;simp only[lnT,QKb,Xu,QK3];omega
theorem Qg4 {T:List W} (h:∀ s∈T,tx s=true):∀ i,i<=100->(wrT T i).length<=67*i
 | 0,_=>by simp[wrT]
 | i+1,hi=>by
   have:=Qg4 h i (by omega)
   have:=Qvx h i (by omega)
   simp only[wrT,QKb];omega
theorem wrB_len {T:List W} (h:∀ s∈T,tx s=true) (hl:T.length<=40):(wrB T).length<=2700+9:=by
 have:=Qg4 h T.length (by omega)
 simp only[wrB,QKb,Xu,J6,if_true,two,QKk,QKy];omega
include hK
theorem good9 (T:List W) (h:∀ s∈T,s.length<=1000000):Gd K 9 [strs T] (.xh [.str (writeB T).1,.int .i64 (writeB T).2]):=by
 refine Qb hK c9_ok (by simp) ?_
 have g38:=QBi hK T h;unfold writeB;by_cases h40:40<T.length
 ·have he:errT T=2:=by simp[errT,h40]
  have hi:(40:Int)<(T.length:Int):=by omega
  simp[he,hi]
 ·have hi:¬ (40:Int)<(T.length:Int):=by omega
  by_cases xg:T.all tx=true;rotate_left
  ·have hall':T.all tx=false:=by grind
   have he:errT T=1:=by simp[errT,h40,hall']
   rw[hall'] at g38;simp[he,hi];intro _;refine Qe g38 (by simp) ?_
   simp
  ·have he:errT T=0:=by simp[errT,h40,xg]
   obtain ⟨_,htx⟩:=Qiw he;rw[xg] at g38;simp[he,hi];intro _;refine Qe g38 (by simp) ?_
   simp;intro _
   refine XZ (fun i=>[(0,AV.iv (strs T)),(4,.yq 15 (Vp T i).length),(16,.iv (strs T)),(17,.iv (.int .i64 (T.length:Nat))),(18,.iv (.int .i64 (i:Nat)))])
    (fun i=>[(15,AO.arr 88 3 (emb (Vp T i)) 0)]) T.length ?_ ?_
   ·rw[Qa Go.Pf.c9_b0.eq_1]
    have l1:=VU T T.length;simp[l1];refine fun _=>⟨⟨by omega,by omega⟩,fun _=>?_⟩
    refine XZ (fun i=>[(7,AV.iv (.str (wrA T i))),(35,.yq 15 (T.length+1)),(36,.iv (.int .i64 ((T.length:Int)+1))),(37,.iv (.int .i64 (i:Nat)))])
     (fun _=>[(15,AO.arr 88 3 (emb (Vp T T.length++[[IV.int IntKind.i64 (T.length:Nat),IV.str [],IV.bool true]])) 0)]) (T.length+1) ?_ ?_
    ·rw[Qa Go.Pf.c9_b1.eq_1]
     have e:wrA T (T.length+1)=wrB T:=QjI T;rw[e];simp
    intro i hi ih;rw[Qa Go.Pf.c9_b1.eq_1];have hw:=Qg4 htx i (by omega)
    have e:wrA T i=wrT T i:=by simp[wrA];omega
    have hin:(i:Int)<(T.length:Int)+1:=by omega
    by_cases xd:i<T.length
    ·have hp:=WY (c:=false) (n:=i) (t:=T[i]) (by omega) (htx _ (QJ1 xd))
     have hti:=Qmv (htx _ (QJ1 xd));have g41:=Qn1 hK i T[i] false (by omega) hp.1 (by omega) (by omega)
     have hl:=Xu (J6 i T[i] false)
     have e1:wrA T (i+1)=wrT T i++(QO (J6 i T[i] false)++[10]):=by
      have:i+1<=T.length:=xd;simp[wrA,this,wrT,lnT,xd]
     have hget:(Vp T T.length++[[IV.int IntKind.i64 (T.length:Nat),IV.str [],IV.bool true]])[i]?=some [.int .i64 (i:Nat),.str T[i],.bool false]:=by
      rw[QKm (by omega),QcV T _ i xd]
      simp[QqN,xd]
     rw[e1] at ih;simp at g41;simp[hin,e,hget] at ih |-;refine ⟨by omega,Qe g41 (by simp) ?_⟩
     simp[hl]
     repeat' (first | omega | assumption | apply And.intro)
    have hin':i=T.length:=by omega
    subst hin';have hp:=WY (c:=true) (n:=T.length) (t:=[]) (by omega) (by decide)
    have g41:=Qn1 hK T.length [] true (by omega) hp.1 (by omega) (by simp)
    have hl:=Xu (J6 T.length [] true);have e1:wrA T (T.length+1)=wrT T T.length++(QO (J6 T.length [] true)++[10]):=QjI T;have e:wrA T T.length=wrT T T.length:=e
    have hget:(Vp T T.length++[[IV.int IntKind.i64 (T.length:Nat),IV.str [],IV.bool true]])[T.length]?=some [.int .i64 (T.length:Nat),.str [],.bool true]:=by
     rw[QKi (by omega),l1]
     simp
    rw[e1] at ih;simp at g41;simp[hin,e,hget] at ih |-;refine ⟨by omega,Qe g41 (by simp) ?_⟩
    simp[hl]
    repeat' (first | omega | assumption | apply And.intro)
   ·intro i hi ih
    rw[Qa Go.Pf.c9_b0.eq_1];have l1:=VU T i;simp[Vp,QqN,hi,l1] at ih;simp[hi,l1]
    repeat' (first | omega | assumption | apply And.intro)
end Go.Bk
namespace Go.Bk
open Go Go.Ev Go.Proofs Go.RowKit Go.Proofs.Tryz
variable {K:World->Prop} (hK:∀ w w',K w->Below w.heap.size w w'->K w')
set_option maxRecDepth 8000
abbrev Fd:=List (W × Int)
def fnd (ls:List W):Fd:=ls.filterMap fun l=>(YY l).map fun r=>(r,if QO r=l then 1 else 0)
@[simp] def rwV (F:Fd):IV:=.sl 1 (F.map fun x=>[.str x.1])
@[simp] def rtV (F:Fd):IV:=.sl 1 (F.map fun x=>[.int .i64 x.2])
@[simp] def fdV (F:Fd):IV:=.agg [rwV F,rtV F]
def rwE (F:Fd):List (List IV):=F.map fun x=>[.str x.1]
def rtE (F:Fd):List (List IV):=F.map fun x=>[.int .i64 x.2]
def cl (a b:W):Bool :=
 if (numOf a).2.2&&(numOf b).2.2 then decide ((numOf a).1=(numOf b).1)&&decide ((numOf a).2.1≠(numOf b).2.1)
 else if (numOf a).2.2 then decide ((J8 b).1<=(numOf a).1)
 else if (numOf b).2.2 then decide ((J8 a).1<=(numOf b).1)
 else decide (a≠b)
def gF (F:Fd) (i:Nat):W:=(F.getD i ([],0)).1
def QBF (F:Fd):Bool:=(List.range F.length).any fun i=>(List.range i).any fun k=>cl (gF F i) (gF F k)
def QDu (m:Int) (x:W × Int):Int:=if (J8 x.1).2 then (if m<(J8 x.1).1 then (J8 x.1).1 else m) else m
def QqX (F:Fd):Int:=F.foldl QDu (-1)
def QzG (n:Int) (a:W × Bool × Bool) (x:W × Int):W × Bool × Bool :=
 if (numOf x.1).2.2&&decide ((numOf x.1).1=n) then ((numOf x.1).2.1,a.2.1||decide (x.2=1),true) else a
def QqC (F:Fd) (n:Int):W × Bool × Bool:=F.foldl (QzG n) ([],false,false)
@[simp] def QHM (a:W × Bool × Bool):IV:=.xh [.str a.1,.bool a.2.1,.bool a.2.2]
def QzH (F:Fd) (i:Nat):List W:=(List.range i).map fun n:Nat=>(QqC F (n:Int)).1
def QDt (F:Fd) (i:Nat):List Int:=((List.range i).filter fun n:Nat=>!(QqC F (n:Int)).2.1).map fun n:Nat=>(n:Int)
def QJC (F:Fd) (i:Nat):Bool:=(List.range i).all fun n:Nat=>(QqC F (n:Int)).2.2
def QHY (F:Fd) (i:Nat):List Int:=((List.range i).filter fun n:Nat=>!(QqC F (n:Int)).2.2).map fun n:Nat=>(n:Int)
def QDm (F:Fd):List W × List Int × Int :=
 if QBF F then ([],[],141) else
 if QqX F<0 then ([],[],142) else
 if QJC F (QqX F).toNat then (QzH F (QqX F).toNat,QDt F (QqX F).toNat,0) else ([],[],142)
def QJT (ls:List W) (i:Nat):List Int:=((List.range i).filter fun j:Nat=>(rd (ls.getD j [])).isNone).map fun j:Nat=>(j:Int)
def rrB (b:W):List W × List Int × Int:=match cutL b with
 | none=>([],[],140)
 | some ls=>QDm (fnd ls)
include hK
omit hK
def jn:List W->W
 | []=>[]
 | l::r=>l++(10::jn r)
theorem Qkq (a b:List W):jn (a++b)=jn a++jn b:=by
 induction a with
 | nil=>rfl
 | cons x a ih=>simp[jn,ih]
theorem Qkp (a:List W):(jn a).length=total a:=by
 induction a with
 | nil=>rfl
 | cons x a ih =>
   simp only[jn,QKb,QKk,ih,total,QKg,List.sum_cons];omega
theorem QnB (a:List W) (h:a≠[]):(jn a).getLast?=some 10:=by
 match a,h with
 | [x],_=>simp[jn]
 | x::y::r,_ =>
   have:=QnB (y::r) (by simp)
   have hn:jn (y::r)≠[]:=by simp[jn]
   simp only[jn] at this |-;rw[List.getLast?_append,List.getLast?_cons,this];rfl
theorem Qvw (l:W) (h:(10:UInt8) ∉ l):∀ (A:List W) (r:W),l.foldl ZZ (A,r)=(A,r++l):=by
 induction l with
 | cons c l ih =>
   intro A r;have h1:c≠10:=fun e=>h (by simp[e])
   have h2:(10:UInt8) ∉ l:=fun e=>h (by simp[e])
   rw[QKL];have e:ZZ (A,r) c=(A,r++[c]):=by simp[ZZ,h1]
   simp_all
 | _=>grind
theorem QvB (ls:List W) (h:∀ l∈ls,(10:UInt8) ∉ l):∀ A:List W,(jn ls).foldl ZZ (A,[])=(A++ls,[]):=by
 induction ls with
 | nil=>intro A;simp[jn]
 | cons l ls ih =>
   intro A;have h1:=h l (by simp)
   simp only[jn,QLc,Qvw l h1,QKL];have e:ZZ (A,[]++l) 10=(A++[l],[]):=by simp[ZZ]
   simp_all
theorem Qup (ls:List W) (hne:ls≠[]) (h:∀ l∈ls,(10:UInt8) ∉ l):cutL (jn ls)=some ls:=by
 unfold cutL;rw[if_pos (QnB ls hne)];have:=QvB ls h [];unfold lns
 grind
theorem QAx (s:W):jn (lns s).1++(lns s).2=s/\(10:UInt8) ∉ (lns s).2/\∀ l∈(lns s).1,(10:UInt8) ∉ l:=by
 have:∀ (n:Nat) (s:W),s.length=n->jn (lns s).1++(lns s).2=s/\(10:UInt8) ∉ (lns s).2/\∀ l∈(lns s).1,(10:UInt8) ∉ l:=by
  intro n
  induction n with
  | zero =>
    intro s h;have:s=[]:=QJ3 h;subst this;simp[lns,jn]
  | succ n ih =>
    intro s h
    have hs:s=s.take n++[s[n]]:=by
     have:=QJV (l:=s) (i:=n) (by omega)
     rw[<- this,QJZ (by omega)]
    obtain ⟨h1,h2,h3⟩:=ih (s.take n) (by simp;omega)
    generalize s[n]=c at hs;generalize s.take n=t at *;subst hs;rw[Wf];unfold ZZ;split
    ·rename_i hc
     subst hc;refine ⟨?_,by simp,fun l hl=>?_⟩
     ·simp only
      rw[Qkq]
      conv=>rhs;rw[<- h1]
      simp[jn]
     rcases QKa.1 hl with hl | hl
     ·exact h3 l hl
     simp at hl;subst hl;exact h2
    rename_i hc;refine ⟨?_,?_,h3⟩
    ·simp only
     conv=>rhs;rw[<- h1]
     simp
    simp only[QKa,QKs,not_or];exact ⟨h2,Ne.symm hc⟩
 exact this _ s rfl
theorem QsL {b:W} {ls:List W} (h:cutL b=some ls):b=jn ls/\ls≠[]/\∀ l∈ls,(10:UInt8) ∉ l:=by
 obtain ⟨h1,h2,h3⟩:=QAx b;unfold cutL at h;split at h
 ·rename_i hl
  injection h with h
  subst h
  have hnil:(lns b).2=[]:=by
   cases hx:(lns b).2 with
   | nil=>rfl
   | cons a r =>
     rw[hx] at h1 h2;rw[<- h1,List.getLast?_append] at hl
     have:(a::r).getLast?=some 10:=by
      simp_all
     exact absurd (List.mem_of_getLast? this) h2
  rw[hnil,QKj] at h1;refine ⟨h1.symm,?_,h3⟩;intro e;rw[e] at h1;rw[<- h1] at hl;simp[jn] at hl
 cases h
theorem Qfd {ls:List W} {l:W} (h:l∈ls):l.length+1<=total ls:=by
 induction ls with
 | nil=>cases h
 | cons x ls ih =>
   simp only[total,QKg,List.sum_cons] at *
   grind
theorem QmA (ls:List W):ls.length<=total ls:=by
 induction ls with
 | nil=>simp[total]
 | cons x ls ih =>
   simp only[total,QKg,List.sum_cons,QKk] at *;omega
theorem cut_bound (b:W) (hb:b.length<=9000):∀ ls,cutL b=some ls->ls.length<=100000/\∀ l∈ls,l.length<=10000:=by
 intro ls h;obtain ⟨h1,_,_⟩:=QsL h;have h2:=Qkp ls;rw[<- h1] at h2;have h3:=QmA ls;refine ⟨by omega,fun l hl=>?_⟩
 have:=Qfd hl;omega
def bkR (T:List W) (i:Nat):W:=if i<T.length then J6 i (T.getD i []) false else J6 T.length [] true
def bkN (T:List W) (i:Nat):W:=QO (bkR T i)
def bkL (T:List W):List W:=(List.range (T.length+1)).map (bkN T)
theorem QtC (T:List W):∀ i,i<=T.length->wrT T i=jn ((List.range i).map (bkN T))
 | 0,_=>rfl
 | i+1,h=>by
   have hi:i<T.length:=h;rw[QKn,QKf,Qkq,<- QtC T i (by omega)]
   simp[wrT,lnT,jn,bkN,bkR,hi]
theorem QtD (T:List W):wrB T=jn (bkL T):=by
 unfold wrB bkL;rw[QKn,QKf,Qkq,<- QtC T T.length (QJ2 _)];simp[jn,bkN,bkR]
theorem bkL_len (T:List W):(bkL T).length=T.length+1:=by simp[bkL]
theorem Qy2 (T:List W) (i:Nat) (h:i<T.length+1):(bkL T)[i]?=some (bkN T i):=by simp[bkL,h]
structure Texts (T:List W):Prop where
 len:T.length<=40
 tx:∀ s∈T,tx s=true
theorem texts_err {T:List W}:errT T=0↔Texts T:=by
 constructor
 ·intro h
  exact ⟨(Qiw h).1,(Qiw h).2⟩
 ·intro h
  have h1:¬ 40<T.length:=by have:=h.len;omega
  have h2:T.all tx=true:=QKw.2 h.tx;simp[errT,h1,h2]
theorem Qr1 {n:Nat} (h:n<100):two n≠[46,46]:=fun e=>by
 have:=Qb8 h;rw[e] at this;have h2:dg [46,46] = -1:=by decide
 grind
theorem QqK {n:Nat} {t:W} (hn:n<40) (ht:tx t=true):YP (J6 n t false)=true/\(Qm (J6 n t false)).1=((n:Int),t,false):=by
 have h2:(two n).length=2:=rfl;have e1:(J6 n t false).take 2=two n:=by simp[J6,two]
 have e2:(J6 n t false).drop 2=t:=by simp[J6,two]
 have hl:¬ (J6 n t false).length<2:=by grind
 have hp:=VY hl (by rw[e1];exact Qr1 (by omega))
 rw[e1,e2,Qb8 (by omega)] at hp
 constructor
 ·rw[<- Vu,hp]
  grind
 rw[hp]
theorem QmR {n:Nat} (hn:n<=40):YP (J6 n [] true)=true/\(Qm (J6 n [] true)).1=((n:Int),[],true):=by
 have e1:(J6 n [] true).take 2=[46,46]:=by simp[J6]
 have e2:(J6 n [] true).drop 2=two n:=by simp[J6]
 have hl:(J6 n [] true).length=4:=by simp[J6,two]
 have hp:=JO e1 hl;rw[e2,Qb8 (by omega)] at hp
 constructor
 ·rw[<- Vu,hp]
  grind
 rw[hp]
def bkP (T:List W) (i:Nat):Int × W × Bool:=if i<T.length then ((i:Int),T.getD i [],false) else ((T.length:Int),[],true)
theorem QpX {T:List W} (h:Texts T) (i:Nat):YP (bkR T i)=true/\(Qm (bkR T i)).1=bkP T i:=by
 have:=h.len;unfold bkR bkP;split
 ·exact QqK (by omega) (Quh h.tx i)
 ·exact QmR h.len
theorem Qvh {l r:W} (hr:YP r=true) (hl:l.length=r.length+4) (hd:Z6 l (QO r)<=1):rd l=some (Qm r).1/\ex l=decide (l=QO r):=by
 have h:=QdY (Qxs hr hl hd);refine ⟨by simp[rd,h],?_⟩
 simp only[ex,h]
 grind
def QgZ (T:List W) (i:Nat) (l:W):Prop:=l.length=(bkN T i).length/\Z6 l (bkN T i)<=1
theorem Qbt (T:List W) (i:Nat):QgZ T i (bkN T i):=⟨rfl,by rw[Yk];omega⟩
theorem Jg {T:List W} (h:Texts T) {i:Nat} {l:W} (hn:QgZ T i l):rd l=some (bkP T i)/\ex l=decide (l=bkN T i):=by
 obtain ⟨h1,h2⟩:=QpX h i;obtain ⟨h3,h4⟩:=hn;have:=Qvh h1 (by rw[h3,bkN,Xu]) h4
 rw[h2] at this;exact this
theorem Qjy {T:List W} {i j:Nat} (hi:i<=T.length) (hj:j<=T.length) (h:bkP T i=bkP T j):i=j:=by
 unfold bkP at h;split at h<;>split at h
 ·grind
 ·grind
 all_goals grind
theorem Qvo {T:List W} (h:Texts T) {ls:List W} (h1:∀ l∈ls,rd l=none\/∃ i,i<=T.length/\QgZ T i l) (h2:∃ l∈ls,QgZ T T.length l):WN ls T:=by
 constructor
 ·intro l hl x hx
  rcases h1 l hl with h1 | ⟨i,hi,hn⟩
  ·grind
  rw[(Jg h hn).1] at hx;injection hx with hx
  subst hx;unfold bkP;split
  ·rename_i xd
   exact .inr ⟨i,T[i],by simp[xd],by simp[xd]⟩
  grind
 obtain ⟨l,hl,hn⟩:=h2;refine ⟨l,hl,?_⟩;rw[(Jg h hn).1];simp[bkP]
theorem QlP {T:List W} (h:Texts T) {ls:List W} (h1:∀ l∈ls,rd l=none\/∃ i,i<=T.length/\QgZ T i l) {i:Nat} (hi:i<T.length):Y7 ls T i=true↔∃ l∈ls,QgZ T i l:=by
 have e:((i:Int),T.getD i [],false)=bkP T i:=by simp[bkP,hi]
 simp only[Y7,QLg,decide_eq_true_eq,e];constructor
 ·rintro ⟨l,hl,hx⟩
  rcases h1 l hl with h1 | ⟨j,hj,hn⟩
  ·grind
  rw[(Jg h hn).1] at hx;injection hx with hx
  have:=Qjy hj (by omega) hx
  subst this
  grind
 rintro ⟨l,hl,hn⟩
 exact ⟨l,hl,(Jg h hn).1⟩
theorem Qlo {T:List W} (h:Texts T) {ls:List W} (h1:∀ l∈ls,rd l=none\/∃ i,i<=T.length/\QgZ T i l) {i:Nat} (hi:i<T.length):qH ls T i=true↔bkN T i∈ls:=by
 have e:((i:Int),T.getD i [],false)=bkP T i:=by simp[bkP,hi]
 simp only[qH,QLg,decide_eq_true_eq,e,QJY];constructor
 ·rintro ⟨l,hl,hx,hex⟩
  rcases h1 l hl with h1 | ⟨j,hj,hn⟩
  ·grind
  rw[(Jg h hn).1] at hx;injection hx with hx
  have:=Qjy hj (by omega) hx
  subst this;rw[(Jg h hn).2,decide_eq_true_eq] at hex
  grind
 ·intro hl
  refine ⟨_,hl,(Jg h (Qbt T i)).1,?_⟩;rw[(Jg h (Qbt T i)).2];simp
theorem Qka {s:W} (h:plain s):(10:UInt8) ∉ s:=fun e=>by
 have:=h _ e;simp at this
theorem Qf3 {r:W} (h:plain r):plain (QO r):=by
 intro c hc;simp only[QO,QKa] at hc;rcases hc with (hc | hc) | hc
 ·exact h c hc
 ·exact QaW _ (by omega) c hc
 exact QaW _ (by omega) c hc
theorem QgK {T:List W} (h:Texts T) (i:Nat):plain (bkN T i):=Qf3 (Vq (QpX h i).1).1
theorem bk_cut {T:List W} (h:Texts T):cutL (wrB T)=some (bkL T):=by
 rw[QtD];refine Qup _ ?_ ?_
 ·intro e;have:=bkL_len T;grind
 intro l hl;simp only[bkL,QKh,QKr] at hl;obtain ⟨i,_,rfl⟩:=hl;exact Qka (QgK h i)
def exA:W:=[48,48,97,98,54,54,50,50,10,48,49,99,48,51,53,55,10,46,46,48,50,54,50,54,53,10]
def exB:W:=[48,48,97,66,54,54,50,50,10,48,49,99,48,51,53,54,10,46,46,48,50,54,50,54,53,10]
def exC:W:=[48,48,65,66,54,54,50,50,10,48,49,99,48,51,53,55,10,46,46,48,50,54,50,54,53,10]
def exD:W:=exA++[48,49,100,48,52,54,48,10]
theorem QrR:writeB [[97,98],[99]]=(exA,0):=by decide +kernel
theorem QrT:readB exB=([[97,98],[99]],[0,1],0):=by decide +kernel
theorem QrS:readB exD=([],[],141):=by decide +kernel
theorem QxB:∃ ls,cutL exC=some ls/\(Vh ls ls.length).bad=[0]:=by
 refine ⟨(lns exC).1,by decide +kernel,by decide +kernel⟩
open Go.Pf (Gd c14_ok c6_ok c8_ok)
set_option maxRecDepth 8000
def jnL (lines:List W) (lost:List Int) (i:Nat):List W:=((List.range i).filter fun k=>decide (lost.getD k 0=0)).map fun k=>lines.getD k []
theorem Qkr (lines:List W) (lost:List Int) (i:Nat):jnL lines lost (i+1)=jnL lines lost i++if lost.getD i 0=0 then [lines.getD i []] else []:=by
 simp only[jnL,QKn,QKX,QKf]
 congr 1
 grind
theorem QmB (a b:List W):total (a++b)=total a+total b:=by simp[total]
theorem QbM (lines:List W) (lost:List Int):∀ i,i<=lines.length->total (jnL lines lost i)<=total (lines.take i)
 | 0,_=>by simp[jnL,total]
 | i+1,h=>by
   have hi:i<lines.length:=h;have ih:=QbM lines lost i (by omega)
   have:=WV lines i hi;have e2:lines.getD i []=lines[i]:=by simp[hi]
   rw[Qkr,QmB,e2];split
   ·have:total [lines[i]]=lines[i].length+1:=by simp[total]
    omega
   have:total ([]:List W)=0:=rfl;omega
theorem QhR {T:List W} (h:large T=false):∀ s∈T,s.length<=1000000:=by
 intro s hs;have:=Qfd hs;simp[large] at h;omega
theorem texts_len {T:List W} (h:Texts T):∀ s∈T,s.length<=1000000:=fun s hs=>by have:=Qmv (h.tx s hs);omega
section
include hK
theorem good8 (T:List W) (h:∀ s∈T,s.length<=1000000000000000):Gd K 8 [strs T] (.bool (!large T&&decide (errT T=0))):=by
 refine Qb hK c8_ok (by simp) ?_
 have g12:=good10 hK T h;simp at g12 |-;refine Qe g12 (by simp) ?_
 cases hL:large T with
 | true=>simp
 | false =>
   have g42:=QBj hK T (QhR hL);simp at g42 |-;refine Qe g42 (by simp) ?_
   simp
theorem good14 (lines:List W) (lost:List Int) (hl:lines.length=lost.length) (hb:total lines<=100000):Gd K 14 [strs lines,QW lost] (.str (jn (jnL lines lost lines.length))):=by
 refine Qb hK c14_ok (by simp) ?_
 simp;refine XZ (fun i=>[(0,AV.iv (strs lines)),(1,.iv (QW lost)),(5,.iv (.str (jn (jnL lines lost i)))),(6,.iv (.int .i64 (i:Nat)))]) (fun _=>[]) lines.length ?_ ?_
 ·rw[Qa Go.Pf.c14_b0.eq_1]
  simp
 ·intro i hi ih
  rw[Qa Go.Pf.c14_b0.eq_1];have hi2:i<lost.length:=by omega
  have e1:lost.getD i 0=lost[i]:=by simp[hi2]
  have e2:lines.getD i []=lines[i]:=by simp[hi]
  rw[Qkr,e1,e2] at ih
  have hlen:(jn (jnL lines lost i)).length<=total (lines.take i):=by
   rw[Qkp];exact QbM lines lost i (by omega)
  have ht:=WV lines i hi;have ht2:=QjM lines (i+1);generalize jnL lines lost i=J at *;by_cases h0:lost[i]=0
  ·simp[h0,Qkq,jn] at ih
   simp[hi,hi2,h0]
   repeat' (first | omega | assumption | intro _ | apply And.intro)
  ·simp[h0] at ih
   simp[hi,hi2,h0]
   repeat' (first | omega | assumption | intro _ | apply And.intro)
variable (hS:∀ s:W,s.length<=1000000->Gd K 138 [.str s,.str [10]] (strs (spl s)))
include hS
theorem good6:Gd K 6 [] (.bool true):=by
 have g14:=good9 hK [[97,98],[99]] (by simp)
 have gB:=good20 hK hS exB (by decide) (cut_bound _ (by decide))
 have gC:=QBk hK hS exC (by decide) (cut_bound _ (by decide))
 have gD:=good20 hK hS exD (by decide) (cut_bound _ (by decide))
 have g16:=Quf hK [[97,98],[99]] [[97,98],[99]];have g22a:=Que hK [0,1] [0,1];have g22b:=Que hK [0] [0];obtain ⟨ls,hc,hb⟩:=QxB;rw[hc] at gC;simp only[hb,QrR,QrT,QrS] at g14 gB gC gD;refine Qb hK c6_ok (by simp) ?_
 simp at g14 gB gC gD g16 g22a g22b |-;simp only[exA,exB,exC,exD,QJ8,QKe] at g14 gB gC gD;refine Qe g14 (by simp) ?_
 simp;refine Qe gB (by simp) ?_
 simp;refine Qe gC (by simp) ?_
 simp;refine Qe gD (by simp) ?_
 simp;refine Qe g16 (by simp) ?_
 simp;refine Qe g22a (by simp) ?_
 simp;refine Qe g22b (by simp) ?_
 simp
end
end Go.Bk
namespace Go.Bk
open Go Go.Ev Go.RowKit
@[simp] def harmV (x:Int × Int × UInt8):List IV:=[.int .i64 x.1,.int .i64 x.2.1,.int .u8 (x.2.2.toNat:Nat)]
@[simp] def harms (l:List (Int × Int × UInt8)):IV:=.sl 3 (l.map harmV)
end Go.Bk
namespace Go.Bk
open Go Go.Ev Go.Proofs Go.RowKit Go.Proofs.Tryz
variable {K:World->Prop} (hK:∀ w w',K w->Below w.heap.size w w'->K w')
set_option maxRecDepth 8000
abbrev Hm:=Int × Int × UInt8
abbrev Hs:=List W × List Int × List Int
def hCh (l:W) (x:Hm):W:=l.take x.2.1.toNat++[x.2.2]++l.drop (x.2.1.toNat+1)
def Qgl (s:Hs) (x:Hm):Bool:=decide (x.1<0)||decide ((s.1.length:Int)<=x.1)||decide (0<s.2.2.getD x.1.toNat 0)
def Qzj (s:Hs) (x:Hm):Bool:=decide (x.2.1<((s.1.getD x.1.toNat []).length:Int))&&decide (x.2.2≠10)&&decide (x.2.2≠(s.1.getD x.1.toNat []).getD x.2.1.toNat 0)
def V9 (s:Hs) (x:Hm):Hs :=
 if Qgl s x then s
 else if x.2.1<0 then (s.1.set x.1.toNat [],s.2.1.set x.1.toNat (s.2.1.getD x.1.toNat 0+1),s.2.2.set x.1.toNat (s.2.2.getD x.1.toNat 0+1))
 else if Qzj s x then (s.1.set x.1.toNat (hCh (s.1.getD x.1.toNat []) x),s.2.1.set x.1.toNat (s.2.1.getD x.1.toNat 0+1),s.2.2)
 else s
def hTo (all:List W) (hs:List Hm) (i:Nat):Hs:=(hs.take i).foldl V9 (all,List.replicate all.length 0,List.replicate all.length 0)
theorem Qku (all:List W) (hs:List Hm) (i:Nat) (h:i<hs.length):hTo all hs (i+1)=V9 (hTo all hs i) hs[i]:=by
 unfold hTo;rw[QJV h];simp only[QLc,QKL,List.foldl_nil]
theorem ZU {α:Type} {l:List α} {i:Nat} (j:Nat) (a d:α) (h:i<l.length):(l.set i a).getD j d=if i=j then a else l.getD j d:=by
 simp only[List.getD_eq_getElem?_getD,QLH]
 grind
structure Qzc (all:List W) (s:Hs) (n:Nat):Prop where
 l1:s.1.length=all.length
 l2:s.2.1.length=all.length
 l3:s.2.2.length=all.length
 b:∀ i:Nat,0<=s.2.2.getD i 0/\s.2.2.getD i 0<=s.2.1.getD i 0/\s.2.1.getD i 0<=n
 z:∀ i:Nat,s.2.1.getD i 0=0->s.1.getD i []=all.getD i []
 le:∀ i:Nat,(s.1.getD i []).length<=(all.getD i []).length
 o:∀ i:Nat,s.2.2.getD i 0=0->(s.1.getD i []).length=(all.getD i []).length/\(Z6 (s.1.getD i []) (all.getD i []):Int)<=s.2.1.getD i 0/\((10:UInt8) ∉ all.getD i []->(10:UInt8) ∉ s.1.getD i [])/\(s.2.1.getD i 0=1->s.1.getD i []≠all.getD i [])
theorem QvM {l:W} {x:Hm} (h0:0<=x.2.1) (h:x.2.1<(l.length:Int)):(hCh l x).length=l.length:=by
 simp only[hCh,QKb,QKV,List.length_drop,QK3];omega
theorem Qrb {l:W} {x:Hm} (h0:0<=x.2.1) (h:x.2.1<(l.length:Int)) (hne:x.2.2≠l.getD x.2.1.toNat 0):Z6 (hCh l x) l=1:=by
 have xd:x.2.1.toNat<l.length:=by omega
 have e:l=l.take x.2.1.toNat++([l[x.2.1.toNat]]++l.drop (x.2.1.toNat+1)):=by simp
 have hg:l.getD x.2.1.toNat 0=l[x.2.1.toNat]:=by simp[xd]
 rw[hg] at hne;have e2:hCh l x=l.take x.2.1.toNat++([x.2.2]++l.drop (x.2.1.toNat+1)):=by simp[hCh]
 rw[e2]
 conv=>lhs;arg 2;rw[e]
 rw[Yv _ _ _ _ rfl,Yk,Yv [x.2.2] [l[x.2.1.toNat]] _ _ rfl,Yk];simp[Z6,hne]
theorem QAJ {l:W} {x:Hm} (h:x.2.2≠10) (hl:(10:UInt8) ∉ l):(10:UInt8) ∉ hCh l x:=by
 intro hc;simp only[hCh,QKa,QKs] at hc
 grind
theorem QAG (all:List W):Qzc all (all,List.replicate all.length 0,List.replicate all.length 0) 0:=by
 have e:∀ i:Nat,(List.replicate all.length (0:Int)).getD i 0=0:=by
  grind
 refine ⟨rfl,by simp,by simp,fun i=>by grind,fun i _=>rfl,fun i=>QJ2 _,fun i _=>⟨rfl,by simp only[e,Yk];omega,id,?_⟩⟩
 grind
theorem QAF {all:List W} {s:Hs} {n:Nat} (h:Qzc all s n) (x:Hm):Qzc all (V9 s x) (n+1):=by
 have hsame:Qzc all s (n+1):=⟨h.l1,h.l2,h.l3,fun i=>by have:=h.b i;omega,h.z,h.le,h.o⟩
 unfold V9;split
 ·exact hsame
 rename_i hsk;have hsk':Qgl s x=false:=by grind
 simp only[Qgl,Bool.or_eq_false_iff,decide_eq_false_iff_not] at hsk';obtain ⟨⟨k1,k2⟩,k3⟩:=hsk';generalize hi:x.1.toNat=i at *;have hil:i<s.1.length:=by omega
 have hil2:i<s.2.1.length:=by rw[h.l2,<- h.l1];exact hil
 have hil3:i<s.2.2.length:=by rw[h.l3,<- h.l1];exact hil
 have hb:=h.b i;split
 ·refine ⟨by simp[h.l1],by simp[h.l2],by simp[h.l3],fun j=>?_,fun j=>?_,fun j=>?_,fun j=>?_⟩
  ·have:=h.b j
   simp only[ZU j _ _ hil2,ZU j _ _ hil3];split<;>omega
  ·simp only[ZU j _ _ hil2,ZU j _ _ hil]
   split
   ·intro;omega
   exact h.z j
  ·simp only[ZU j _ _ hil]
   split
   ·simp
   exact h.le j
  simp only[ZU j _ _ hil2,ZU j _ _ hil,ZU j _ _ hil3];split
  ·intro;omega
  exact h.o j
 split
 ·rename_i hneg hh
  simp only[Qzj,QJY,decide_eq_true_eq] at hh;rw[hi] at hh;obtain ⟨⟨q1,q2⟩,q3⟩:=hh;have hl:=QvM (l:=s.1.getD i []) (x:=x) (by omega) q1
  have hd:=Qrb (l:=s.1.getD i []) (x:=x) (by omega) q1 q3
  have hlost:s.2.2.getD i 0=0:=by omega
  obtain ⟨o1,o2,o3,o4⟩:=h.o i hlost;refine ⟨by simp[h.l1],by simp[h.l2],h.l3,fun j=>?_,fun j=>?_,fun j=>?_,fun j=>?_⟩
  ·have:=h.b j
   simp only[ZU j _ _ hil2];split
   ·rename_i e;subst e;omega
   omega
  ·simp only[ZU j _ _ hil2,ZU j _ _ hil]
   split
   ·intro;omega
   exact h.z j
  ·simp only[ZU j _ _ hil]
   split
   ·rename_i e;subst e;omega
   exact h.le j
  simp only[ZU j _ _ hil2,ZU j _ _ hil];split
  ·rename_i e
   subst e;intro _;have ht:=QeB (hCh (s.1.getD i []) x) (s.1.getD i []) (all.getD i []) hl o1;refine ⟨by omega,by omega,fun hn=>QAJ q2 (o3 hn),fun h1 e=>?_⟩
   have hz:=h.z i (by omega)
   rw[hz] at hd;rw[hz] at e;rw[e,Yk] at hd;omega
  exact h.o j
 exact hsame
theorem inv_hTo (all:List W) (hs:List Hm):∀ i,i<=hs.length->Qzc all (hTo all hs i) i
 | 0,_=>QAG all
 | i+1,h=>by
   rw[Qku all hs i h];exact QAF (inv_hTo all hs i (by omega)) _
theorem QaY:∀ (a b:List W),a.length=b.length->(∀ i:Nat,(a.getD i []).length<=(b.getD i []).length)->total a<=total b
 | [],[],_,_=>QJ2 _
 | x::a,y::b,hl,h=>by
   have h0:=h 0;have:=QaY a b (by simpa using hl) (fun i=>by have:=h (i+1);simpa using this)
   simp only[total,QKg,List.sum_cons] at *;simp at h0;omega
 | [],y::b,hl,_=>by simp at hl
 | x::a,[],hl,_=>by simp at hl
theorem QaL (T:List W) (i:Nat) (h:i<=T.length):(bkL T).getD i []=bkN T i:=by
 rw[List.getD_eq_getElem?_getD,Qy2 T i (by omega)]
 rfl
theorem Qgk {T:List W} {s:Hs} {n:Nat} (h:Qzc (bkL T) s n) {i:Nat} (hi:i<=T.length) (hl:s.2.2.getD i 0=0) (hm:s.2.1.getD i 0<=1):QgZ T i (s.1.getD i []):=by
 obtain ⟨o1,o2,_,_⟩:=h.o i hl;rw[QaL T i hi] at o1 o2;exact ⟨o1,by omega⟩
theorem QhI {lines:List W} {lost:List Int} {n:Nat} {l:W}:l∈jnL lines lost n↔∃ k,k<n/\lost.getD k 0=0/\lines.getD k []=l:=by
 simp only[jnL,QKh,QKx,QKr,decide_eq_true_eq]
 grind
structure Left (T:List W) (s:Hs) (n:Nat):Prop where
 inv:Qzc (bkL T) s n
 once:∀ i,i<=T.length->s.2.1.getD i 0<=1
def leftL (s:Hs):List W:=jnL s.1 s.2.2 s.1.length
theorem Wh {T:List W} {s:Hs} {n:Nat} (h:Left T s n):s.1.length=T.length+1:=by rw[h.inv.l1,bkL_len]
theorem Wg {T:List W} {s:Hs} {n:Nat} (h:Left T s n):∀ l∈leftL s,∃ i,i<=T.length/\QgZ T i l/\s.2.2.getD i 0=0/\s.1.getD i []=l:=by
 intro l hl;obtain ⟨k,h1,h2,h3⟩:=QhI.1 hl;rw[Wh h] at h1;refine ⟨k,by omega,?_,h2,h3⟩
 rw[<- h3];exact Qgk h.inv (by omega) h2 (h.once k (by omega))
theorem Qav {T:List W} {s:Hs} {n:Nat} (h:Left T s n) {i:Nat} (hi:i<=T.length):s.1.getD i []∈leftL s/\QgZ T i (s.1.getD i [])↔s.2.2.getD i 0=0\/(s.1.getD i []∈leftL s/\QgZ T i (s.1.getD i [])):=by
 constructor
 ·exact .inr
 rintro (h0 | h0)
 ·exact ⟨QhI.2 ⟨i,by rw[Wh h];omega,h0,rfl⟩,Qgk h.inv hi h0 (h.once i hi)⟩
 exact h0
theorem Qnf {T:List W} (hT:Texts T) {i j:Nat} {l:W} (hi:i<=T.length) (hj:j<=T.length) (h:QgZ T i l) (h':QgZ T j l):i=j:=by
 have e1:=(Jg hT h).1;have e2:=(Jg hT h').1;rw[e1] at e2;injection e2 with e2
 exact Qjy hi hj e2
theorem QbE {T:List W} {s:Hs} {n:Nat} (h:Left T s n):∀ l∈leftL s,rd l=none\/∃ i,i<=T.length/\QgZ T i l:=by
 intro l hl;obtain ⟨i,h1,h2,_⟩:=Wg h l hl
 grind
theorem QlH {T:List W} (hT:Texts T) {s:Hs} {n:Nat} (h:Left T s n) {i:Nat} (hi:i<T.length):Y7 (leftL s) T i=decide (s.2.2.getD i 0=0):=by
 rw[QLE,QlP hT (QbE h) hi,decide_eq_true_eq];constructor
 ·rintro ⟨l,hl,hn⟩
  obtain ⟨k,h1,h2,h3,_⟩:=Wg h l hl;have:=Qnf hT (by omega) h1 hn h2
  grind
 intro h0;have:=(Qav h (show i<=T.length by omega)).2 (.inl h0)
 grind
theorem QlG {T:List W} (hT:Texts T) {s:Hs} {n:Nat} (h:Left T s n) {i:Nat} (hi:i<T.length):qH (leftL s) T i=(decide (s.2.2.getD i 0=0)&&decide (s.2.1.getD i 0=0)):=by
 rw[QLE,Qlo hT (QbE h) hi,QJY,decide_eq_true_eq,decide_eq_true_eq];constructor
 ·intro hl
  obtain ⟨k,h1,h2,h3,h4⟩:=Wg h _ hl;have:=Qnf hT (by omega) h1 (Qbt T i) h2
  subst this;refine ⟨h3,?_⟩;have h5:=h.once i h1;have h6:=h.inv.b i;obtain ⟨_,_,_,o4⟩:=h.inv.o i h3;rw[QaL T i h1] at o4;rcases (show s.2.1.getD i 0=0\/s.2.1.getD i 0=1 by omega) with h7 | h7
  ·exact h7
  grind
 rintro ⟨h0,h1⟩
 have hz:=h.inv.z i h1;rw[QaL T i (by omega)] at hz
 exact QhI.2 ⟨i,by rw[Wh h];omega,h0,hz⟩
theorem QvA {T:List W} (hT:Texts T) {s:Hs} {n:Nat} (h:Left T s n):∀ l∈leftL s,(10:UInt8) ∉ l:=by
 intro l hl;obtain ⟨i,h1,_,h3,h4⟩:=Wg h l hl;obtain ⟨_,_,o3,_⟩:=h.inv.o i h3;rw[<- h4];apply o3;rw[QaL T i h1];exact Qka (QgK hT i)
theorem left_total {T:List W} {s:Hs} {n:Nat} (h:Left T s n):total s.1<=(wrB T).length:=by
 rw[QtD,Qkp];exact QaY _ _ h.inv.l1 h.inv.le
theorem left_jn {T:List W} {s:Hs} {n:Nat} (h:Left T s n):(jn (leftL s)).length<=(wrB T).length:=by
 rw[Qkp];have:=QbM s.1 s.2.2 s.1.length (QJ2 _);rw[QJ5] at this;have:=left_total h;unfold leftL;omega
theorem Qq6 {T:List W} (hT:Texts T) {s:Hs} {n:Nat} (h:Left T s n) (hne:leftL s≠[]):cutL (jn (leftL s))=some (leftL s):=Qup _ hne (QvA hT h)
theorem QzF (L:List W) (i:Nat) (x:W):txE (L.set i x)=(txE L).set i [.str x]:=by simp[txE,List.map_set]
theorem QAH (L:List Int) (i:Nat) (x:Int):inE (L.set i x)=(inE L).set i [.int .i64 x]:=by simp[inE,List.map_set]
open Go.Pf (Gd c11_ok)
set_option maxRecDepth 8000
include hK
def hmR (b:W) (hs:List Hm):IV:=match cutL b with
 | none=>.xh [strs [],QW [],QW [],.bool false]
 | some ls=>if 200<hs.length then .xh [strs [],QW [],QW [],.bool false] else .xh [strs (hTo ls hs hs.length).1,QW (hTo ls hs hs.length).2.1,QW (hTo ls hs hs.length).2.2,.bool true]
theorem good11 (b:W) (hs:List Hm) (hb:b.length<=9000):Gd K 11 [.str b,harms hs] (hmR b hs):=by
 refine Qb hK c11_ok (by simp) ?_
 have g24:=QBg hK b (by omega)
 unfold hmR;cases hc:cutL b with
 | none =>
   rw[hc] at g24;simp at g24 |-;refine Qe g24 (by simp) ?_
   simp
 | some ls =>
   rw[hc] at g24;obtain ⟨hl1,hl2⟩:=cut_bound b hb ls hc;by_cases h200:200<hs.length
   ·have hi:(200:Int)<(hs.length:Int):=by omega
    simp[h200] at g24 |-;refine Qe g24 (by simp) ?_
    simp[hi]
   have hi:¬ (200:Int)<(hs.length:Int):=by omega
   simp[h200] at g24 |-;refine Qe g24 (by simp) ?_
   simp[hi]
   have e0:List.map (scrL [24,29,32]∘List.map AV.iv∘fun s=>[IV.str s]) ls=emb (txE ls):=by
    simp only[emb,txE,List.map_map];simp_all
   have e1:List.replicate ls.length [AV.iv (IV.int IntKind.i64 0)]=emb (inE (List.replicate ls.length 0)):=by simp[emb,inE]
   rw[e0,e1];refine fun _=>⟨⟨by omega,by omega⟩,fun _=>⟨⟨by omega,by omega⟩,fun _=>⟨⟨by omega,by omega⟩,?_⟩⟩⟩
   refine Yi hs.length (fun i e o=>e=[(1,AV.iv (harms hs)),(4,.yq 24 ls.length),(5,.yq 29 ls.length),(6,.yq 32 ls.length),(9,.iv (.int .i64 (i:Nat)))] /\
    ∃ m1 m2 m3,m1<=ls.length/\m2<=ls.length/\m3<=ls.length/\o=[(24,AO.arr 9 1 (emb (txE (hTo ls hs i).1)) m1),(29,.arr 3 1 (emb (inE (hTo ls hs i).2.1)) m2),(32,.arr 3 1 (emb (inE (hTo ls hs i).2.2)) m3)]) ?_ ?_ _ _ ⟨rfl,0,0,0,by omega,by omega,by omega,rfl⟩
   ·rintro e o ⟨rfl,m1,m2,m3,hm1,hm2,hm3,rfl⟩
    rw[Qa Go.Pf.c11_b0.eq_1];have inv:=inv_hTo ls hs hs.length (QJ2 _);generalize hTo ls hs hs.length=s at *;have l1:(txE s.1).length=ls.length:=by simp[txE,inv.l1]
    have l2:(inE s.2.1).length=ls.length:=by simp[inE,inv.l2]
    have l3:(inE s.2.2).length=ls.length:=by simp[inE,inv.l3]
    have t1:(txE s.1).take ls.length=txE s.1:=QJZ (by omega)
    have t2:(inE s.2.1).take ls.length=inE s.2.1:=QJZ (by omega)
    have t3:(inE s.2.2).take ls.length=inE s.2.2:=QJZ (by omega)
    simp[l1,l2,l3,t1,t2,t3,hm1,hm2,hm3];simp[txE,inE]
   rintro i e o hil ⟨rfl,m1,m2,m3,hm1,hm2,hm3,rfl⟩ ih'
   have ih:∀ n1 n2 n3,n1<=ls.length->n2<=ls.length->n3<=ls.length->_:=fun n1 n2 n3 q1 q2 q3=>ih' _ _ ⟨rfl,n1,n2,n3,q1,q2,q3,rfl⟩
   clear ih';rw[Qa Go.Pf.c11_b0.eq_1];have inv:=inv_hTo ls hs i (by omega)
   rw[Qku ls hs i hil] at ih;generalize hTo ls hs i=s at *
   have hle:∀ k:Nat,(s.1.getD k []).length<=10000:=by
    intro k;have h1:=inv.le k
    have h2:(ls.getD k []).length<=10000:=by
     rw[List.getD_eq_getElem?_getD];by_cases hk:k<ls.length
     ·rw[QJW hk]
      exact hl2 ls[k] (QJ1 hk)
     rw[QLD (by omega)]
     simp
    omega
   have l1:(txE s.1).length=ls.length:=by simp[txE,inv.l1]
   have l2:(inE s.2.1).length=ls.length:=by simp[inE,inv.l2]
   have l3:(inE s.2.2).length=ls.length:=by simp[inE,inv.l3]
   obtain ⟨S1,S2,S3⟩:=s;generalize hx:hs[i]=x at *;obtain ⟨a,at',c⟩:=x;have hii:(i:Int)<(hs.length:Int):=by omega
   simp only at l1 l2 l3 hle;by_cases ha:a<0
   ·have e:V9 (S1,S2,S3) (a,at',c)=(S1,S2,S3):=by simp[V9,Qgl,ha]
    rw[e] at ih;simp[hil,hx,ha] at ih |-
    repeat' (first | omega | apply ih | intro _ | apply And.intro)
   obtain ⟨k,rfl⟩:∃ k:Nat,a=k:=⟨a.toNat,by omega⟩
   by_cases hk:ls.length<=k
   ·have hki:(ls.length:Int)<=(k:Int):=by omega
    have e:V9 (S1,S2,S3) ((k:Int),at',c)=(S1,S2,S3):=by have:=inv.l1;simp only at this;simp[V9,Qgl,this,hk]
    rw[e] at ih;simp[hil,hx,hki] at ih |-
    repeat' (first | omega | apply ih | intro _ | apply And.intro)
   have hki:¬ (ls.length:Int)<=(k:Int):=by omega
   have hb:=inv.b k;have hgL:∀ h,(txE S1)[k]'h=[.str (S1.getD k [])]:=by have:=inv.l1;simp only at this;intro h;simp[txE,show k<S1.length by omega]
   have hgM:∀ h,(inE S2)[k]'h=[.int .i64 (S2.getD k 0)]:=by have:=inv.l2;simp only at this;intro h;simp[inE,show k<S2.length by omega]
   have hgO:∀ h,(inE S3)[k]'h=[.int .i64 (S3.getD k 0)]:=by have:=inv.l3;simp only at this;intro h;simp[inE,show k<S3.length by omega]
   have hli:=hle k;have h1:=inv.l1;simp only at h1 hb;generalize hO:S3.getD k 0=lo at *;generalize hM:S2.getD k 0=mo at *;generalize hL:S1.getD k []=li at *;by_cases xf:0<lo
   ·have e:V9 (S1,S2,S3) ((k:Int),at',c)=(S1,S2,S3):=by simp only[V9,Qgl,QKB,hO];simp[xf]
    rw[e] at ih;simp[hil,hx,hki,hgO,xf,l3,show k<ls.length by omega] at ih |-
    repeat' (first | omega | apply ih | intro _ | apply And.intro)
   have hsk:Qgl (S1,S2,S3) ((k:Int),at',c)=false:=by simp only[Qgl,QKB,hO,h1];simp[xf];omega
   by_cases hat:at'<0
   ·have e:V9 (S1,S2,S3) ((k:Int),at',c)=(S1.set k [],S2.set k (mo+1),S3.set k (lo+1)):=by simp only[V9,hsk,QKB,hO,hM];simp[hat]
    rw[e] at ih;simp only[QzF,QAH] at ih;simp[hil,hx,hki,hgO,hgM,hgL,xf,hat,l1,l2,l3,show k<ls.length by omega] at ih |-
    repeat' (first | omega | apply ih | intro _ | apply And.intro)
   obtain ⟨q,rfl⟩:∃ q:Nat,at'=q:=⟨at'.toNat,by omega⟩
   by_cases hh:Qzj (S1,S2,S3) ((k:Int),(q:Int),c)=true
   ·have e:V9 (S1,S2,S3) ((k:Int),(q:Int),c)=(S1.set k (li.take q++[c]++li.drop (q+1)),S2.set k (mo+1),S3):=by simp only[V9,hsk,hh,QKB,hM,hL,hCh];simp[hat]
    rw[e] at ih;simp only[Qzj,QJY,decide_eq_true_eq,QKB,hL] at hh;obtain ⟨⟨z1,z2⟩,z3⟩:=hh;have z1':q<li.length:=by omega
    have z2':¬ (c.toNat:Int)=10:=fun e=>z2 (UInt8.toNat_inj.1 (by simp;omega))
    have z3':¬ c=li[q]:=by intro e;apply z3;simp[z1',e]
    have hc8:=Qfc c;simp only[QzF,QAH] at ih;simp[hil,hx,hki,hgO,hgM,hgL,xf,hat,l1,l2,l3,show k<ls.length by omega,z1',z2',z3',QjL,Yt] at ih |-
    repeat' (first | omega | apply ih | intro _ | apply And.intro)
   have hh':Qzj (S1,S2,S3) ((k:Int),(q:Int),c)=false:=by simpa using hh
   have e:V9 (S1,S2,S3) ((k:Int),(q:Int),c)=(S1,S2,S3):=by simp only[V9,hsk,hh'];simp[hat]
   rw[e] at ih;simp only[Qzj,QKB,hL] at hh';by_cases z1:q<li.length
   ·by_cases z2:c=10
    ·subst z2
     simp[hil,hx,hki,hgO,hgM,hgL,xf,hat,l1,l2,l3,show k<ls.length by omega,z1] at ih |-
     repeat' (first | omega | apply ih | intro _ | apply And.intro)
    have z2':¬ (c.toNat:Int)=10:=fun e=>z2 (UInt8.toNat_inj.1 (by simp;omega))
    have z3:c=li[q]:=by
     simp[z1,z2] at hh';exact hh'
    simp[hil,hx,hki,hgO,hgM,hgL,xf,hat,l1,l2,l3,show k<ls.length by omega,z1,z2',QjL,<- z3] at ih |-
    repeat' (first | omega | apply ih | intro _ | apply And.intro)
   have z1':¬ (q:Int)<(li.length:Int):=by omega
   simp[hil,hx,hki,hgO,hgM,hgL,xf,hat,l1,l2,l3,show k<ls.length by omega,z1] at ih |-
   repeat' (first | omega | apply ih | intro _ | apply And.intro)
end Go.Bk
namespace Go.Bk
open Go Go.Ev Go.Proofs Go.RowKit Go.Proofs.Tryz
open Go.Pf (Gd)
set_option maxRecDepth 8000
def QzA (T:List W) (s:Hs) (i:Nat):List Int:=((List.range i).filter fun k=>decide (s.2.1.getD k 0=1)&&decide (k<T.length)).map fun k:Nat=>(k:Int)
def QHI (s:Hs) (i:Nat):List Int:=((List.range i).filter fun k=>decide (0<s.2.2.getD k 0)).map fun k:Nat=>(k:Int)
theorem Qnu {T:List W} (hT:Texts T) {s:Hs} {n:Nat} (h:Left T s n) (hc:s.2.2.getD T.length 0=0):leftL s≠[]/\WN (leftL s) T/\(∃ l∈leftL s,QgZ T T.length l):=by
 have:=(Qav h (QJ2 T.length)).2 (.inl hc);have hm:∃ l∈leftL s,QgZ T T.length l:=⟨_,this.1,this.2⟩
 refine ⟨fun e=>?_,Qvo hT (QbE h) hm,hm⟩
 grind
theorem read_byte {T:List W} (hT:Texts T) {s:Hs} {n:Nat} (h:Left T s n) (h0:∀ i,i<=T.length->s.2.2.getD i 0=0):readB (jn (leftL s))=(T,QzA T s (T.length+1),0):=by
 obtain ⟨h1,h2,_⟩:=Qnu hT h (h0 _ (QJ2 _));unfold readB;rw[Qq6 hT h h1];simp only;rw[QmZ h2,if_pos]
 ·have e:(List.range T.length).filter (fun i=>!qH (leftL s) T i)=(List.range T.length).filter fun k=>decide (s.2.1.getD k 0=1)&&decide (k<T.length):=by
   apply QLn;intro i hi;rw[QKr] at hi;rw[QlG hT h hi,h0 i (by omega)]
   have h5:=h.once i (by omega)
   have h6:=h.inv.b i;rcases (show s.2.1.getD i 0=0\/s.2.1.getD i 0=1 by omega) with h7 | h7
   ·rw[h7];simp
   rw[h7];simp[hi]
  rw[e];refine Prod.ext rfl (Prod.ext ?_ rfl);simp only[QzA];rw[QKn,QKX];simp
 rw[QKw];intro i hi;rw[QKr] at hi;rw[QlH hT h hi,h0 i (by omega)]
 rfl
section
variable {K:World->Prop} (hK:∀ w w',K w->Below w.heap.size w w'->K w')
include hK
variable (hS:∀ s:W,s.length<=1000000->Gd K 138 [.str s,.str [10]] (strs (spl s)))
include hS
end
end Go.Bk
namespace Go.Pf
open Go Go.Ev Go.Proofs Go.RowKit Go.Proofs.Tryz
set_option maxRecDepth 8000
set_option maxHeartbeats 1000000
theorem QDF (h:Qd) (hs:List Bk.Hm):Gd KW 3 [hoV h,Bk.harms hs] (.bool true):=by
 refine Qb hKW (fk func3 c3 (by kernel_rfl)) (by simp) ?_
 have g17:=Bk.good6 hKW hSB;have g7:=QA4 h;unfold QnL at g7;simp
 repeat first | intro _ | refine ⟨by omega,?_⟩
 by_cases ho:okH h;rotate_left
 ·rw[if_neg ho] at g7
  refine cK (by simpa using g7) ?_
  simp
  repeat first | intro _ | refine ⟨by omega,?_⟩
  refine cK (by omega) ?_
  simp
 rw[if_pos ho] at g7;have g6:=QDE h [];refine cK (by simpa using g7) ?_
 simp
 repeat first | intro _ | refine ⟨by omega,?_⟩
 refine cK (by simpa using g6) ?_
 by_cases hf:Qqr h []
 ·simp[hf]
  refine cK (by omega) ?_
  simp
 have g18:=QDD hKW h ho;obtain ⟨_,w3⟩:=written ho;have g19:=Bk.good8 hKW (J9 h) (fun t ht=>QKG (w3 t ht).2 (by omega))
 have hrw:(J9 h).length<=40->_:=fun h4=>Qhi ho h4
 have hsb:=Qv ho;have g22:=QBn hKW h hsb;have g16:=QBm hKW h h;generalize hT:J9 h=T at *;simp[hf];refine cK (by simpa using g18) ?_
 simp
 repeat first | intro _ | refine ⟨by omega,?_⟩
 refine cK (by simpa using g19) ?_
 by_cases hcan:(!Bk.large T&&decide (Bk.errT T=0))=true;rotate_left
 ·have hcan':(!Bk.large T&&decide (Bk.errT T=0))=false:=by grind
  rw[hcan'];simp
  repeat first | intro _ | refine ⟨by omega,?_⟩
  refine cK (by omega) ?_
  simp
 have hTx:Bk.Texts T:=by
  simp only[QJY,decide_eq_true_eq] at hcan;exact Bk.texts_err.1 hcan.2
 have hwl:=Bk.wrB_len hTx.tx hTx.len;have hlen:=hTx.len;have g10:=Bk.good9 hKW T (Bk.texts_len hTx);have e10:Bk.writeB T=(Bk.wrB T,0):=by simp[Bk.writeB,Bk.texts_err.2 hTx]
 rw[e10] at g10;have g20:=Bk.good10 hKW [Bk.wrB T] (by simp;omega)
 have e20:Bk.large [Bk.wrB T]=false:=by simp[Bk.large,Bk.total];omega
 rw[e20] at g20;have g21:=Bk.good11 hKW (Bk.wrB T) hs (by omega)
 unfold Bk.hmR at g21;rw[Bk.bk_cut hTx] at g21;simp only at g21;have hrw:=hrw hlen;generalize hX:QeS h=X at *;rw[hcan];simp at g10 g20 |-
 repeat first | intro _ | refine ⟨by omega,?_⟩
 refine cK (by omega) ?_
 simp
 repeat first | intro _ | refine ⟨by omega,?_⟩
 refine cK (by omega) ?_
 simp
 repeat first | intro _ | refine ⟨by omega,?_⟩
 by_cases h200:200<hs.length
 ·rw[if_pos h200] at g21
  have hi:(200:Int)<(hs.length:Int):=by omega
  simp at g21;refine cK (by omega) ?_
  simp[hi]
  repeat first | intro _ | refine ⟨by omega,?_⟩
  refine cK (by omega) ?_
  simp
 rw[if_neg h200] at g21;have inv:=Bk.inv_hTo (Bk.bkL T) hs hs.length (QJ2 _);generalize Bk.hTo (Bk.bkL T) hs hs.length=s at *;generalize hs.length=n at *;have l1:=inv.l1;have l2:=inv.l2;have l3:=inv.l3;rw[Bk.bkL_len] at l1 l2 l3;simp at g21;refine cK (by omega) ?_
 simp[l1]
 repeat first | intro _ | refine ⟨by omega,?_⟩
 refine Qi (fun i=>[(2,AV.iv (.ptr (hoC h))),(5,AV.iv (Bk.strs T)),(8,.iv (Bk.strs s.1)),(9,.iv (QW s.2.1)),(10,.iv (QW s.2.2)),(12,.iv (.int .i64 (i:Nat)))])
  (fun _=>[]) (T.length+1) (fun i=>∀ k,k<i->s.2.1.getD k 0<=1/\s.2.2.getD k 0=0) (by simp) ?_ ?_
 ·intro hq
  rw[Qa Go.Pf.c3_b0.eq_1];have hL:Bk.Left T s n:=⟨inv,fun i hi=>(hq i (by omega)).1⟩
  have h0:∀ i,i<=T.length->s.2.2.getD i 0=0:=fun i hi=>(hq i (by omega)).2
  have hrb:=Bk.read_byte hTx hL h0;have hjl:=Bk.left_jn hL;have g23:=Bk.good14 hKW s.1 s.2.2 (by omega) (by have:=Bk.left_total hL;omega)
  have e23:Bk.jnL s.1 s.2.2 s.1.length=Bk.leftL s:=rfl;rw[e23] at g23;have g12:=QBo X (Bk.jn (Bk.leftL s)) T (T.map fun _=>QeZ) h _ (by omega) (Bk.cut_bound _ (by omega)) hrb hrw
  generalize Bk.jn (Bk.leftL s)=J at *;simp[l1]
  repeat first | intro _ | refine ⟨by omega,?_⟩
  refine cK (by simpa using g22) ?_
  simp
  repeat first | intro _ | refine ⟨by omega,?_⟩
  refine cK (by simpa using g23) ?_
  simp
  repeat first | intro _ | refine ⟨by omega,?_⟩
  refine cK (by simpa using g12) ?_
  simp
  repeat first | intro _ | refine ⟨by omega,?_⟩
  refine cK (by simpa using g16) ?_
  simp
  repeat first | intro _ | refine ⟨by omega,?_⟩
  refine cK (by omega) ?_
  simp
 intro i hi hq ih;rw[Qa Go.Pf.c3_b0.eq_1];have hi1:i<s.1.length:=by omega
 have hi2:i<s.2.1.length:=by omega
 have hi3:i<s.2.2.length:=by omega
 have hii:(i:Int)<(T.length:Int)+1:=by omega
 have hb:=inv.b i;have e1:s.2.1.getD i 0=s.2.1[i]:=by simp[hi2]
 have e2:s.2.2.getD i 0=s.2.2[i]:=by simp[hi3]
 rw[e1,e2] at hb;generalize hmo:s.2.1[i]=mo at *;generalize xf:s.2.2[i]=lo at *;by_cases c1:1<mo
 ·simp[l1,hii,hi2,hi3,hmo,xf,c1]
  repeat first | intro _ | refine ⟨by omega,?_⟩
  refine cK (by omega) ?_
  simp
 by_cases c2:0<lo
 ·simp[l1,hii,hi2,hi3,hmo,xf,c1,c2]
  repeat first | intro _ | refine ⟨by omega,?_⟩
  refine cK (by omega) ?_
  simp
 have ih:=ih (fun k hk=>by
  rcases QLu.1 hk with h | h
  ·exact hq k h
  subst h;omega)
 simp at ih;simp[l1,hii,hi2,hi3,hmo,xf,c1,c2]
 repeat' (first | omega | assumption | intro _ | apply And.intro)
end Go.Pf
namespace Go.Pf
open Go Go.Ev Go.Proofs Go.RowKit Go.ChangeShapes Go.WideShapes Go.Proofs.YtcdbenehbakjgaaGreatDoor Go.Proofs.Tryz
theorem QDi:shp prog 7 41=some [.sl 24 [shI,shI,.int .u8]]:=by kernel_rfl
theorem QcU:∀ rows:List (List IV),(∀ row∈rows,row.length=3)->(∀ row∈rows,Up [shI,shI,.int .u8] row)->∃ fs:List (Int × Int × UInt8),rows=fs.map Bk.harmV
 | [],_,_=>⟨[],rfl⟩
 | row::rows,hrl,hr=>by
   obtain ⟨fs,hfs⟩:=QcU rows (fun r hr'=>hrl r (by simp[hr'])) (fun r hr'=>hr r (by simp[hr']))
   have h1:=hrl row (by simp)
   match row,h1 with
   | [a,b,c],_ =>
     have ha:=hr [a,b,c] (by simp) 0 _ a rfl rfl
     have hb:=hr [a,b,c] (by simp) 1 _ b rfl rfl
     have hc:=hr [a,b,c] (by simp) 2 _ c rfl rfl
     cases ha with
     | int _ n _ _ =>
       cases hb with
       | int _ m _ _ =>
         cases hc with
         | int _ k k1 k2 =>
           have e1:(0:Int)<=k:=k1;have e2:k<=255:=k2;refine ⟨(n,m,UInt8.ofNat k.toNat)::fs,?_⟩;simp[hfs];omega
set_option maxRecDepth 100000 in
theorem Qp1 {x:IV} (h:QjE prog 41 x):∃ v,x=Bk.harms v:=by
 obtain ⟨ss,h1,h2⟩:=h;rw[QDi] at h1;injection h1 with h1
 subst h1;rw[underlying41] at h2;obtain ⟨s,hs,hf⟩:=h2;injection hs with hs _
 subst hs;cases hf with
 | sl _ _ rows hw hm hrl hr =>
   obtain ⟨fs,rfl⟩:=QcU rows hrl hr;exact ⟨fs,rfl⟩
set_option maxRecDepth 100000
theorem Qgn {P:Program} (h:P.funcs.any Func.goes=false) (f:FuncId):P.goes f=false:=by
 unfold Program.goes;rw[h,Bool.and_false,Bool.or_false,QLv];intro g _;cases hg:P.funcs[g]? with
 | none=>simp
 | some fn =>
   have:=Array.any_eq_false'.1 h fn (Array.mem_of_getElem? hg);simpa using this
theorem Qio {P:Program} (h:P.funcs.any Func.goes=false) (c:OpenClaim):false=c.goesBy P:=by
 have h1:∀ o:Option FuncId,o.any P.goes=false:=fun o=>by cases o<;>simp[Qgn h]
 have h2:P.inits.toList.any P.goes=false:=by
  rw[QLv];intro f _;simp[Qgn h]
 unfold OpenClaim.goesBy Program.goesAt Program.goesFrom;rw[h1,h2];cases c.start<;>rfl
theorem QDN:prog.funcs.any Func.goes=false:=by kernel_rfl
end Go.Pf
