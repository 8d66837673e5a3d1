/- The reference's change of a house. -/
import Derived.Test.YteihocdmbflkiaaGreatDoorPartFive
import Derived.Test.YteihocdmbflkiaaGreatDoorPartThree
import Derived.KernelRfl
import Derived.Test.YteihocdmbflkiaaGreatDoorPartFour
import Derived.Lib.SplitLaws
set_option linter.all false
namespace Go.Pf
open Go Go.Ev Go.Proofs Go.RowKit Go.Proofs.Tryz
variable {K:World->Prop} (hK:∀ w w',K w->Below w.heap.size w w'->K w')
set_option maxRecDepth 8000
set_option maxHeartbeats 1000000
theorem WG (L:List (List IV)) (a b c d e f g:IV):emb L++[[.iv a,.iv b,.iv c,.iv d,.iv e,.iv f,.iv g]]=emb (L++[[a,b,c,d,e,f,g]]):=by simp[emb]
theorem QvP (h:Qd):imm (Qc (WV 0 h)) 40 (.agg (Qac 0 h))=some (.agg (hoC h)):=by
 cases ht:h.ze.zf<;>simp[Qac,Uw,trA,WV,Vm,trO,ht,imm,imms,immss,Qc,QKP]
include hK
theorem Qut (h:Qd) (hs:QK h):Gd K 11 [hoV h] (hoV h) :=
 WC (xs:=[hoV h]) hK (J2 hK h hs) (QvP h)
theorem Qgv (h:Qd) (a b c d:Int) (hs:QK h):Gd K 129 [hoV h,.str [119,101,108,100],Q0 [a,b,c,d]] (.xg [hoV (Qg h ⟨1,a,b,c,d⟩),.bool true]):=by
 refine Qb hK VS (by simp) ?_
 have g10:=J2 hK h hs;obtain ⟨⟨b1,b2,b3,b4,b5⟩,b6,b7⟩:=hs;cases ht:h.ze.zf with
 | nil =>
   simp only[Qac,WV,Uw,Vm,trA,trO,ht,if_true,if_false,reduceCtorEq,QK9,QK1,QK5] at g10;simp;refine Qj g10 (by simp[nth,rn]) (Zd (by decide) rfl (by simp[Zp]) (by simp[Qc])) ?_
   simp[nth,rn,rnL];simp[Qg,ht,QKP];omega
 | cons t r =>
   simp only[Qac,WV,Uw,Vm,trA,trO,ht,if_true,if_false,reduceCtorEq,QK9,QK1,QK5] at g10;rw[ht] at b5;simp at b5;simp;refine Qj g10 (by simp[nth,rn]) (Zd (by decide) rfl (by simp[Zp]) (by simp[Qc])) ?_
   simp[nth,rn,rnL];simp[Qg,ht,QKP];omega
theorem QiB (h:Qd) (a b:Int) (hs:QK h):Gd K 129 [hoV h,.str [99,117,116],Q0 [a,b]] (.xg [hoV (Qg h ⟨2,a,b,0,0⟩),.bool true]):=by
 refine Qb hK VS (by simp) ?_
 have g10:=J2 hK h hs;obtain ⟨⟨b1,b2,b3,b4,b5⟩,b6,b7⟩:=hs;cases ht:h.ze.zf with
 | nil =>
   simp only[Qac,WV,Uw,Vm,trA,trO,ht,if_true,if_false,reduceCtorEq,QK9,QK1,QK5] at g10;simp;refine Qj g10 (by simp[nth,rn]) (Zd (by decide) rfl (by simp[Zp]) (by simp[Qc])) ?_
   simp[nth,rn,rnL];simp[Qg,ht,QKP];omega
 | cons t r =>
   simp only[Qac,WV,Uw,Vm,trA,trO,ht,if_true,if_false,reduceCtorEq,QK9,QK1,QK5] at g10;rw[ht] at b5;simp at b5;simp;refine Qj g10 (by simp[nth,rn]) (Zd (by decide) rfl (by simp[Zp]) (by simp[Qc])) ?_
   simp[nth,rn,rnL];simp[Qg,ht,QKP];omega
theorem Qgx (h:Qd) (hs:QK h):Gd K 129 [hoV h,.str [116,117,114,110],Q0 []] (.xg [hoV (Qg h ⟨3,0,0,0,0⟩),.bool true]):=by
 refine Qb hK VS (by simp) ?_
 have g10:=J2 hK h hs;obtain ⟨⟨b1,b2,b3,b4,b5⟩,b6,b7⟩:=hs;cases ht:h.ze.zf with
 | nil =>
   simp only[Qac,WV,Uw,Vm,trA,trO,ht,if_true,if_false,reduceCtorEq,QK9,QK1,QK5] at g10;simp;refine Qj g10 (by simp[nth,rn]) (Zd (by decide) rfl (by simp[Zp]) (by simp[Qc])) ?_
   simp[nth,rn,rnL];simp[Qg,ht,QKP];omega
 | cons t r =>
   simp only[Qac,WV,Uw,Vm,trA,trO,ht,if_true,if_false,reduceCtorEq,QK9,QK1,QK5] at g10;rw[ht] at b5;simp at b5;simp;refine Qj g10 (by simp[nth,rn]) (Zd (by decide) rfl (by simp[Zp]) (by simp[Qc])) ?_
   simp[nth,rn,rnL];simp[Qg,ht,QKP];omega
theorem QeC (h:Qd) (a b c:Int) (hs:QK h):Gd K 129 [hoV h,.str [112,114,111,118,101],Q0 [a,b,c]] (.xg [hoV (Q8 h ⟨a,b,c⟩),.bool true]):=by
 refine Qb hK VS (by simp) ?_
 have g10:=J2 hK h hs;obtain ⟨⟨b1,b2,b3,b4,b5⟩,b6,b7⟩:=hs;cases ht:h.ze.zf with
 | nil =>
   simp only[Qac,WV,Uw,Vm,trA,trO,ht,if_true,if_false,reduceCtorEq,QK9,QK1,QK5] at g10;simp;refine Qj g10 (by simp[nth,rn]) (Zd (by decide) rfl (by simp[Zp]) (by simp[Qc])) ?_
   simp[nth,rn,rnL];simp[Q8,ht,QKP];omega
 | cons t r =>
   simp only[Qac,WV,Uw,Vm,trA,trO,ht,if_true,if_false,reduceCtorEq,QK9,QK1,QK5] at g10;rw[ht] at b5;simp at b5;simp;refine Qj g10 (by simp[nth,rn]) (Zd (by decide) rfl (by simp[Zp]) (by simp[Qc])) ?_
   simp[nth,rn,rnL];simp[Q8,ht,QKP];omega
theorem QiA (h:Qd) (a b c d e:Int) (hs:QK h):Gd K 129 [hoV h,.str [115,101,101],Q0 [a,b,c,d,e]] (.xg [hoV (Zl h ⟨a,b,c,d,e⟩),.bool true]):=by
 refine Qb hK VS (by simp) ?_
 have g10:=J2 hK h hs;obtain ⟨⟨b1,b2,b3,b4,b5⟩,b6,b7⟩:=hs;cases ht:h.ze.zf with
 | nil =>
   simp only[Qac,WV,Uw,Vm,trA,trO,ht,if_true,if_false,reduceCtorEq,QK9,QK1,QK5] at g10;simp;refine Qj g10 (by simp[nth,rn]) (Zd (by decide) rfl (by simp[Zp]) (by simp[Qc])) ?_
   simp[nth,rn,rnL];simp[Zl,ht,QKP];omega
 | cons t r =>
   simp only[Qac,WV,Uw,Vm,trA,trO,ht,if_true,if_false,reduceCtorEq,QK9,QK1,QK5] at g10;rw[ht] at b5;simp at b5;simp;refine Qj g10 (by simp[nth,rn]) (Zd (by decide) rfl (by simp[Zp]) (by simp[Qc])) ?_
   simp[nth,rn,rnL];simp[Zl,ht,QKP];omega
theorem Qb1 (h:Qd) (a b c d:Int) (hs:QK h):Gd K 129 [hoV h,.str [98,97,108,97,110,99,101],Q0 [a,b,c,d]] (.xg [hoV (XD h ⟨a,b,c,d⟩),.bool true]):=by
 refine Qb hK VS (by simp) ?_
 have g10:=J2 hK h hs;obtain ⟨⟨b1,b2,b3,b4,b5⟩,b6,b7⟩:=hs;cases ht:h.ze.zf with
 | nil =>
   simp only[Qac,WV,Uw,Vm,trA,trO,ht,if_true,if_false,reduceCtorEq,QK9,QK1,QK5] at g10;simp;refine Qj g10 (by simp[nth,rn]) (Zd (by decide) rfl (by simp[Zp]) (by simp[Qc])) ?_
   simp[nth,rn,rnL];simp[XD,ht,QKP];omega
 | cons t r =>
   simp only[Qac,WV,Uw,Vm,trA,trO,ht,if_true,if_false,reduceCtorEq,QK9,QK1,QK5] at g10;rw[ht] at b5;simp at b5;simp;refine Qj g10 (by simp[nth,rn]) (Zd (by decide) rfl (by simp[Zp]) (by simp[Qc])) ?_
   simp[nth,rn,rnL];simp[XD,ht,QKP];omega
theorem Qgy (h:Qd) (a b c d e f g:Int) (hs:QK h):Gd K 129 [hoV h,.str [114,101,97,100],Q0 [a,b,c,d,e,f,g]] (.xg [hoV (ZO h ⟨a,b,c,d,e,f,g⟩),.bool true]):=by
 refine Qb hK VS (by simp) ?_
 have g10:=J2 hK h hs;obtain ⟨⟨b1,b2,b3,b4,b5⟩,b6,b7⟩:=hs;cases ht:h.ze.zf with
 | nil =>
   simp only[Qac,WV,Uw,Vm,trA,trO,ht,if_true,if_false,reduceCtorEq,QK9,QK1,QK5] at g10;simp;refine Qj g10 (by simp[nth,rn]) (Zd (by decide) rfl (by simp[Zp]) (by simp[Qc])) ?_
   simp[nth,rn,rnL,WG];simp[ZO,ht,WG,QKP];omega
 | cons t r =>
   simp only[Qac,WV,Uw,Vm,trA,trO,ht,if_true,if_false,reduceCtorEq,QK9,QK1,QK5] at g10;rw[ht] at b5;simp at b5;simp;refine Qj g10 (by simp[nth,rn]) (Zd (by decide) rfl (by simp[Zp]) (by simp[Qc])) ?_
   simp[nth,rn,rnL,WG];simp[ZO,ht,WG,QKP];omega
theorem Qgw (h:Qd) (hs:QK h) (hu:(h.ze.zc.za.getLast?.map (·.zp))=some 4->h.ze.zf≠[]):Gd K 129 [hoV h,.str [117,110,100,111],Q0 []] (.xg [hoV (if h.ze.zc.za=[] then h else ZQ h),.bool (decide (¬ h.ze.zc.za=[]))]):=by
 refine Qb hK VS (by simp) ?_
 have g10:=J2 hK h hs;obtain ⟨⟨b1,b2,b3,b4,b5⟩,b6,b7⟩:=hs;by_cases hd:h.ze.zc.za=[]
 ·cases ht:h.ze.zf with
  | nil =>
    simp only[Qac,WV,Uw,Vm,trA,trO,ht,hd,if_true,if_false,reduceCtorEq,QK9,QK1,QK5] at g10;simp;refine Qj g10 (by simp[nth,rn,hd]) (Zd (by decide) rfl (by simp[Zp]) (by simp[Qc])) ?_
    simp[nth,rn,rnL]
    grind
  | cons t r =>
    simp only[Qac,WV,Uw,Vm,trA,trO,ht,hd,if_true,if_false,reduceCtorEq,QK9,QK1,QK5] at g10;simp;refine Qj g10 (by simp[nth,rn,hd]) (Zd (by decide) rfl (by simp[Zp]) (by simp[Qc])) ?_
    simp[nth,rn,rnL]
    grind
 obtain ⟨D,d,hD⟩:∃ D d,h.ze.zc.za=D++[d]:=⟨_,_,(QLN hd).symm⟩
 rw[hD] at b1;simp at b1;cases ht:h.ze.zf with
 | nil =>
   have h4:¬ d.zp=4:=fun e=>hu (by rw[hD];simp[e]) ht
   simp only[Qac,WV,Uw,Vm,trA,trO,ht,if_true,if_false,reduceCtorEq,QK9,QK1,QK5] at g10;simp;refine Qj g10 (by simp[nth,rn]) (Zd (by decide) rfl (by simp[Zp]) (by simp[Qc])) ?_
   simp[nth,rn,rnL];simp[hd,hD,ht,h4,ZQ,QKP];omega
 | cons t r =>
   rw[ht] at b5;simp at b5
   have tk:∀ x:List IV,List.take D.length (List.take (D.length+1) (D.map dC++[x]))=D.map dC:=fun x=>by
    grind
   have htn:((r.length:Int)+1-1).toNat=r.length:=by omega
   by_cases h4:d.zp=4
   ·simp only[Qac,WV,Uw,Vm,trA,trO,ht,if_true,if_false,reduceCtorEq,QK9,QK1,QK5] at g10
    simp;refine Qj g10 (by simp[nth,rn]) (Zd (by decide) rfl (by simp[Zp]) (by simp[Qc])) ?_
    simp[nth,rn,rnL];simp[hd,hD,ht,h4,ZQ,QKP,List.dropLast_eq_take,tk];omega
   simp only[Qac,WV,Uw,Vm,trA,trO,ht,if_true,if_false,reduceCtorEq,QK9,QK1,QK5] at g10;simp;refine Qj g10 (by simp[nth,rn]) (Zd (by decide) rfl (by simp[Zp]) (by simp[Qc])) ?_
   simp[nth,rn,rnL];simp[hd,hD,ht,h4,ZQ,QKP];omega
omit hK
def QBJ:WS->FuncId
 | .weld=>73 | .cut=>74 | .turn=>75 | .prove=>76 | .undo=>77 | .see=>78 | .balance=>79 | .read=>80
 | .who=>81 | .wher=>84 | .first=>86 | .pulls=>89 | .z7=>92 | .loads=>94 | .y9=>96 | .y8=>98 | .xa=>101 | .opn=>103 | .good=>105 | .worth=>107 | .zm=>109 | .stretch=>111 | .best=>113 | .holds=>115 | .zi=>117
def Qlo (p:Nat × WS):IV:=.agg [.int .i64 (p.1:Nat),.fn (QBJ p.2)]
def Qa2:List (MK × IV):=ZL.map fun p=>(.str p.1,Qlo p.2)
theorem QbQ {k:MK} {y:IV} (h:k.kind=none):∀ {l:List (MK × IV)},Zw none l->Zw none (zn k y l)
 | [],_=>⟨h,trivial⟩
 | p::r,hl=>by
   unfold zn;split
   ·exact ⟨h,hl.2⟩
   exact ⟨hl.1,QbQ h hl.2⟩
include hK
theorem QBx:Gd K 33 [] (.map Qa2):=by
 refine Qb hK (fk func33 c33 (by kernel_rfl)) (by simp) ?_
 simp
 repeat' first | exact trivial | apply And.intro | apply QbQ rfl | kernel_rfl
omit hK
def arV:WS->Nat
 | .weld=>4 | .cut=>2 | .turn=>0 | .prove=>3 | .undo=>0 | .see=>5 | .balance=>4 | .read=>7
 | .who=>1 | .wher=>1 | .first=>0 | .pulls=>2 | .z7=>1 | .loads=>1 | .y9=>0 | .y8=>0 | .xa=>1 | .opn=>0 | .good=>0 | .worth=>0 | .zm=>0 | .stretch=>0 | .best=>0 | .holds=>1 | .zi=>1
theorem Qqh:∀ p∈ZL,p.2.1=arV p.2.2:=by decide
theorem QmH {w:Txt} {n:Nat} {v:WS} (h:Xz w=some (n,v)):n=arV v:=by
 rcases WZ w with ⟨p,hp,rfl⟩ | hn
 ·rw[Xy p hp] at h
  injection h with h
  have:=Qqh p hp
  grind
 rw[JP hn] at h;cases h
theorem Qln (w:Txt):Qo (.str w) Qa2=(Xz w).map Qlo:=by
 have key:∀ l:List (Txt × Nat × WS),Qo (.str w) (l.map fun p=>(MK.str p.1,Qlo p.2))=((l.find? fun p=>p.1==w).map (·.2)).map Qlo:=by
  intro l
  induction l with
  | nil=>rfl
  | cons p r ih =>
    simp only[QLa,Qo,List.find?_cons]
    grind
 exact key ZL
theorem Zz {h h':Qd} {v:WS} {l:List Int} (hv:Zf v=true) (hc:Zy h v l=some h'):doV h v l=(chT h',chH h h'):=by
 unfold doV chT chH
 grind
theorem Zo {h:Qd} {v:WS} {l:List Int} (hv:Zf v=false):doV h v l=(Jo h v l,h):=by
 unfold doV;rw[hv];rfl
theorem ZN {h h':Qd} (ho:okH h) (h1:h'.ze.zc.za.length<=h.ze.zc.za.length+1) (h2:h'.ze.zc.zg.length<=h.ze.zc.zg.length+1) (h3:h'.ze.zb.zd.length<=h.ze.zb.zd.length)
  (h4:h'.ze.zb.zk.length<=h.ze.zb.zk.length+1) (h5:h'.ze.zf.length<=h.ze.zf.length+1) (h6:h'.zq.zi.length<=h.zq.zi.length) (h7:h'.zq.zj.length<=h.zq.zj.length+1):QK h':=by
 have q1:=ho.1.zc.len;have q2:=ho.1.zc.slen;have q3:=ho.1.zb.len;have q4:=ho.1.zb.blen;have q5:=ho.1.many;have q6:=Qc8 h.ze.zc.za;have q7:=ho.2.rlen;have q8:=ho.2.xlen;exact ⟨⟨by omega,by omega,by omega,by omega,by omega⟩,by omega,by omega⟩
theorem Qa3 {h:Qd} (ho:okH h) (hl:(h.ze.zc.za.getLast?.map (·.zp))=some 4):h.ze.zf≠[]:=by
 rw[QKQ] at hl;obtain ⟨d,hd,h4⟩:=hl
 obtain ⟨D,hD⟩:∃ D,h.ze.zc.za=D++[d]:=by
  have hne:h.ze.zc.za≠[]:=fun e=>by grind
  refine ⟨h.ze.zc.za.dropLast,?_⟩;have:=List.getLast?_eq_some_getLast hne;rw[hd] at this;injection this with this
  rw[this];exact (QLN hne).symm
 have hm:=ho.1.many;intro e;rw[e,hD] at hm;unfold pv at hm;rw[X6] at hm;simp[XX,Zx,h4] at hm
theorem Qa4 (h:Qd):Zy h .undo []=if h.ze.zc.za=[] then none else some (ZQ h):=by
 unfold Zy ZQ;cases hd:h.ze.zc.za.getLast? with
 | none =>
   simp_all
 | _=>grind
theorem Qrw (h:Qd) (ho:okH h) (v:WS) (l:List Int) (hf:Zf v=false->Qay h) (hl:l.length=arV v) :
  Gh KW (QBJ v) (.loc 0 0::[Q0 l].map .iv) (QH h) [0] (.iv (.str (doV h v l).1)) (QH (doV h v l).2):=by
 have hs:=Qt ho;have l0:∀ l:List Int,l.length=0->l=[]:=fun l h=>QKT h
 have l1:∀ l:List Int,l.length=1->∃ a,l=[a]:=fun l h=>by
  match l,h with
  | [a],_=>grind
 have l2:∀ l:List Int,l.length=2->∃ a b,l=[a,b]:=fun l h=>by
  match l,h with
  | [a,b],_=>grind
 cases v with
 | weld =>
   match l,hl with
   | [a,b,c,d],_ =>
     rw[Zz (h':=Qg h ⟨1,a,b,c,d⟩) rfl rfl];exact Qv6 hKW h a b c d hs (ZN ho (by simp[Qg]) (by simp[Qg]) (by simp[Qg]) (by simp[Qg]) (by simp[Qg]) (by simp[Qg]) (by simp[Qg]))
 | cut =>
   match l,hl with
   | [a,b],_ =>
     rw[Zz (h':=Qg h ⟨2,a,b,0,0⟩) rfl rfl];exact Qv5 hKW h a b hs (ZN ho (by simp[Qg]) (by simp[Qg]) (by simp[Qg]) (by simp[Qg]) (by simp[Qg]) (by simp[Qg]) (by simp[Qg]))
 | turn =>
   rw[l0 l hl,Zz (h':=Qg h ⟨3,0,0,0,0⟩) rfl rfl];exact Qn6 hKW h hs (ZN ho (by simp[Qg]) (by simp[Qg]) (by simp[Qg]) (by simp[Qg]) (by simp[Qg]) (by simp[Qg]) (by simp[Qg]))
 | prove =>
   match l,hl with
   | [a,b,c],_ =>
     rw[Zz (h':=Q8 h ⟨a,b,c⟩) rfl rfl];exact Qv4 hKW h a b c hs (ZN ho (by simp[Q8]) (by simp[Q8]) (by simp[Q8]) (by simp[Q8]) (by simp[Q8]) (by simp[Q8]) (by simp[Q8]))
 | undo =>
   rw[l0 l hl];have hu:=Qa4 h;have hs':QK (ZQ h):=ZN ho (by simp[ZQ];omega) (by simp[ZQ]) (by simp[ZQ]) (by simp[ZQ]) (by simp only[ZQ];grind) (by simp[ZQ]) (by simp[ZQ])
   have hg:=Qv3 hKW h (Qa3 ho) hs hs';by_cases hne:h.ze.zc.za=[]
   ·rw[if_pos hne] at hu
    rw[if_pos hne,if_pos hne] at hg
    have e:doV h .undo []=(tNo,h):=by
     unfold doV;rw[hu];rfl
    rw[e];exact hg
   rw[if_neg hne] at hu;rw[if_neg hne,if_neg hne] at hg;rw[Zz (h':=ZQ h) rfl hu];exact hg
 | see =>
   match l,hl with
   | [a,b,c,d,e],_ =>
     rw[Zz (h':=Zl h ⟨a,b,c,d,e⟩) rfl rfl];exact Qv2 hKW h a b c d e hs (ZN ho (by simp[Zl]) (by simp[Zl]) (by simp[Zl]) (by simp[Zl]) (by simp[Zl]) (by simp[Zl]) (by simp[Zl]))
 | balance =>
   match l,hl with
   | [a,b,c,d],_ =>
     rw[Zz (h':=XD h ⟨a,b,c,d⟩) rfl rfl];exact Qv1 hKW h a b c d hs (ZN ho (by simp[XD]) (by simp[XD]) (by simp[XD]) (by simp[XD]) (by simp[XD]) (by simp[XD]) (by simp[XD]))
 | read =>
   match l,hl with
   | [a,b,c,d,e,f,g],_ =>
     rw[Zz (h':=ZO h ⟨a,b,c,d,e,f,g⟩) rfl rfl];exact Qv0 hKW h a b c d e f g hs (ZN ho (by simp[ZO]) (by simp[ZO]) (by simp[ZO]) (by simp[ZO]) (by simp[ZO]) (by simp[ZO]) (by simp[ZO]))
 | who=>obtain ⟨a,rfl⟩:=l1 l hl;rw[Zo rfl];exact Qn5 h a ho (hf rfl)
 | wher=>obtain ⟨a,rfl⟩:=l1 l hl;rw[Zo rfl];exact QvZ h a ho (hf rfl)
 | first=>rw[l0 l hl,Zo rfl];exact QvY h ho (hf rfl)
 | pulls=>obtain ⟨a,b,rfl⟩:=l2 l hl;rw[Zo rfl];exact QvX h a b ho (hf rfl)
 | z7=>obtain ⟨a,rfl⟩:=l1 l hl;rw[Zo rfl];exact QvW h a ho (hf rfl)
 | loads=>obtain ⟨a,rfl⟩:=l1 l hl;rw[Zo rfl];exact QvV h a ho (hf rfl)
 | y9=>rw[l0 l hl,Zo rfl];exact QvU h ho (hf rfl)
 | y8=>rw[l0 l hl,Zo rfl];exact QvT h ho (hf rfl)
 | xa=>obtain ⟨a,rfl⟩:=l1 l hl;rw[Zo rfl];exact QrO h a ho (hf rfl)
 | opn=>rw[l0 l hl,Zo rfl];exact QrN h ho (hf rfl)
 | good=>rw[l0 l hl,Zo rfl];exact QrM h ho (hf rfl)
 | worth=>rw[l0 l hl,Zo rfl];exact QrL h ho (hf rfl)
 | zm=>rw[l0 l hl,Zo rfl];exact QrK h ho (hf rfl)
 | stretch=>rw[l0 l hl,Zo rfl];exact QrJ h ho (hf rfl)
 | best=>rw[l0 l hl,Zo rfl];exact QrI h ho (hf rfl)
 | holds=>obtain ⟨a,rfl⟩:=l1 l hl;rw[Zo rfl];exact QrH h a ho (hf rfl)
 | zi=>obtain ⟨a,rfl⟩:=l1 l hl;rw[Zo rfl];exact QrG h a ho (hf rfl)
theorem QyI:ZP prog 34 c34 [0]:=⟨_,func34,by kernel_rfl⟩
theorem Qps:∀ v:WS,callee prog (QBJ v)=true:=by
 intro v;cases v<;>kernel_rfl
theorem Qib:Zw none Qa2:=by
 have key:∀ l:List (Txt × Nat × WS),Zw none (l.map fun p=>(MK.str p.1,Qlo p.2)):=by
  intro l
  induction l with
  | nil=>trivial
  | cons p r ih=>exact ⟨rfl,ih⟩
 exact key ZL
theorem Qew (h:Qd) (t:Txt) (hdo:∀ v l,Zk t=some (v,l)->l.length=arV v->Gh KW (QBJ v) (.loc 0 0::[Q0 l].map .iv) (QH h) [0] (.iv (.str (doV h v l).1)) (QH (doV h v l).2)) (ht:t.length<=1000) :
  Gh KW 34 (.loc 0 0::[.map Qa2,.str t].map .iv) (QH h) [0] (.iv (.str (QP h t).1)) (QH (QP h t).2):=by
 refine Qq QyI rfl (by simp[c34]) ?_
 generalize hG:UX 6 (QP h t).1 (QP h t).2=G;have g1:=Qox t ht;have hsl:=spl_len t;have hwl:=qG t;cases hs:spl t with
 | nil=>exact absurd hs (QcU t [])
 | cons w ws =>
   rw[hs] at g1 hsl hwl;simp at hsl;have hfd:=Qln w;simp[c34];refine cK (by simpa using g1) ?_
   simp;refine ⟨Qib,?_⟩;cases hv:Xz w with
   | none =>
     have hL:QP h t=(Qfk,h):=by
      simp[QP,Zk,hs,hv]
     rw[hv] at hfd;simp only[Option.map_none] at hfd;rw[hL] at hG;simp[hfd];rw[<- hG];exact QR (by simp[Ev.look,Qfk]) (by simp[Ev.look]) (by simp[Qc])
   | some p =>
     obtain ⟨n,v⟩:=p;rw[hv] at hfd;simp only[QMe] at hfd;have har:=QmH hv;simp[hfd,Qlo];have h7:n<=7:=by rw[har];cases v<;>decide
     intro _;refine ⟨by omega,fun hq=>?_,fun hq=>?_⟩
     ·have hn:¬ ws.length=n:=fun e=>hq (by omega)
      have hL:QP h t=(Qfk,h):=by
       simp[QP,Zk,hs,hv,hn]
      rw[hL] at hG;rw[<- hG];exact QR (by simp[Ev.look,Qfk]) (by simp[Ev.look]) (by simp[Qc])
     have hn:ws.length=n:=by omega
     refine ⟨by omega,fun _ _=>?_⟩
     refine Ql (fun i=>[(0,AV.loc 0 0),(8,AV.loc 8 0),(10,AV.yo 10 ((XN (ws.take i)).getD []).length),(36,AV.iv (.sl 1 (ws.map fun s=>[IV.str s]))),(37,AV.iv (.int .i64 ws.length)),(38,AV.iv (.int .i64 (i:Nat)))])
      (fun i=>[(0,AO.box ((hoC h).map AV.iv)),(8,AO.box [AV.iv (.int .i64 n),AV.iv (.fn (QBJ v))]),(10,AO.arr 3 1 (emb (((XN (ws.take i)).getD []).map fun n=>[.int .i64 n])) 0)]) ws.length (fun i=>(XN (ws.take i)).isSome=true) (by simp[XN]) ?_ ?_
     ·intro xf
      rw[QKX] at xf;obtain ⟨l,hl⟩:=QLk.1 xf;have hll:=YP hl
      have hL:QP h t=doV h v l:=by
       simp[QP,Zk,hs,hv,hn,hl]
      rw[hL] at hG;have hd:=hdo v l (by simp[Zk,hs,hv,hn,hl]) (by omega)
      rw[Qa QpU.eq_1];simp[hl,Qbx];refine ⟨Qps v,Qj hd (by simp[nth,rn]) (Ye (by simp[Qc])) ?_⟩
      simp[nth,rn];rw[<- hG];exact QR rfl rfl (by simp[Qc])
     intro i hi hQ ih;obtain ⟨l,hl⟩:=QLk.1 hQ;have hll:=YP hl;rw[QLF] at hll;have hwi:=hwl ws[i] (by simp)
     obtain ⟨m,hm,hg⟩:=Qxu ws[i] (by omega)
     have hst:=qX (ws.take i) ws[i];rw[<- QKL hi,hl] at hst;rw[Qa QpU.eq_1];cases hx:Qdd ws[i] with
     | none =>
       have hno:XN ws=none:=by
        cases hq:XN ws with
        | none=>rfl
        | some l' =>
          have:=QbC hq ws[i] (by simp)
          grind
       have hL:QP h t=(Qfk,h):=by
        simp[QP,Zk,hs,hv,hn,hno]
       rw[hL] at hG;rw[hx] at hg;simp[hi,hl];refine cK (by simpa using hg) ?_
       simp;rw[<- hG];exact QR (by simp[Ev.look,Qfk]) (by simp[Ev.look]) (by simp[Qc])
     | some x =>
       rw[hx] at hg hst hm;have hmx:m=x:=by simpa using hm rfl
       subst hmx;simp only at hst;have ih:=ih (by rw[hst];rfl)
       rw[hst] at ih;simp[hi,hl] at ih |-;refine cK (by simpa using hg) ?_
       simp
       grind
theorem Qv9 (h:Qd) (ho:okH h) (t:Txt) (hf:∀ v l,Zk t=some (v,l)->Zf v=false->Qay h) (ht:t.length<=1000) :
  Gh KW 34 (.loc 0 0::[.map Qa2,.str t].map .iv) (QH h) [0] (.iv (.str (QP h t).1)) (QH (QP h t).2) :=
 Qew h t (fun v l hp hl=>Qrw h ho v l (hf v l hp) hl) ht
theorem Qxm (h:Qd) (ho:okH h) (p:Txt × Nat × WS) (hp:p∈ZL) (hv:Zf p.2.2=true) (l:List Int) (hl:l.length=p.2.1) :
  Gd KW 129 [hoV h,.str p.1,Q0 l] (.xg [hoV ((Zy h p.2.2 l).getD h),.bool (Zy h p.2.2 l).isSome]):=by
 have hs:=Qt ho;simp only[ZL,QKV,QK2,or_false] at hp;rcases hp with rfl | rfl | rfl | rfl | rfl | rfl | rfl | rfl | rfl | rfl | rfl | rfl | rfl | rfl | rfl | rfl | rfl | rfl | rfl | rfl | rfl | rfl | rfl | rfl | rfl
 ·match l,hl with
  | [a,b,c,d],_=>exact Qgv hKW h a b c d hs
 ·match l,hl with
  | [a,b],_=>exact QiB hKW h a b hs
 ·match l,hl with
  | [],_=>exact Qgx hKW h hs
 ·match l,hl with
  | [a,b,c],_=>exact QeC hKW h a b c hs
 ·match l,hl with
  | [],_ =>
    have hg:=Qgw hKW h hs (Qa3 ho);have hc:=Qa4 h
    grind
 ·match l,hl with
  | [a,b,c,d,e],_=>exact QiA hKW h a b c d e hs
 ·match l,hl with
  | [a,b,c,d],_=>exact Qb1 hKW h a b c d hs
 ·match l,hl with
  | [a,b,c,d,e,f,g],_=>exact Qgy hKW h a b c d e f g hs
 all_goals cases hv
theorem Qwc (h:Qd) (hs:QK h):Gd KW 5 [hoV h] (.int .i64 (Qru h)):=by
 refine Qb hKW (fk func5 c5 (by kernel_rfl)) (by simp) ?_
 have g26:=Qur hKW h.ze hs.ze;have g27:=Quq hKW h.zq hs.zi hs.zj;unfold Qru okH;by_cases h1:OkP h.ze
 ·rw[if_pos h1] at g26
  simp[h1];refine cK (by simpa using g26) ?_
  simp;refine cK (by simpa using g27) ?_
  by_cases h2:OkU h.zq<;>simp[h2]
 ·rw[if_neg h1] at g26
  simp[h1];refine cK (by simpa using g26) ?_
  simp
theorem Qda {t:Txt} (h:(XK t).2.2=false):Zk t=none:=by
 unfold XK at h;unfold Zk;cases hs:spl t with
 | nil=>rfl
 | cons w ws =>
   rw[hs] at h;simp only at h |-;cases hn:XN ws with
   | some l =>
     rw[hn] at h;have hll:=YP hn
     grind
   | _=>grind
theorem Qc9 {t:Txt} (h:(XK t).2.2=true):∃ p∈ZL,p.1=(XK t).1/\(XK t).2.1.length=p.2.1/\Zk t=some (p.2.2,(XK t).2.1):=by
 unfold XK at h |-;unfold Zk;cases hs:spl t with
 | cons w ws =>
   rw[hs] at h;simp only at h |-;cases hn:XN ws with
   | some l =>
     rw[hn] at h;have hll:=YP hn;simp only[decide_eq_true_eq] at h;rcases WZ w with ⟨p,hp,rfl⟩ | hno
     ·rw[Xy p hp] at h |-
      grind
     rw[JP hno] at h
     grind
   | _=>grind
 | _=>grind
theorem Qfo {h h':Qd} (ho:okH h) {v:WS} {l:List Int} (hc:Zy h v l=some h'):QK h':=by
 unfold Zy at hc;cases v<;>simp only at hc<;>try cases hc
 case undo =>
  split at hc
  ·cases hc
  injection hc with hc
  subst hc;exact ZN ho (by simp;omega) (by simp) (by simp) (by simp) (by grind) (by simp) (by simp)
 all_goals exact ZN ho (by simp[Qg]) (by simp[Qg]) (by simp[Qg]) (by simp[Qg]) (by simp[Qg]) (by simp[Qg]) (by simp[Qg])
theorem QBs (h:Qd) (ho:okH h) (t:Txt) (ht:t.length<=1000) (hq:∀ p,p∈ZL->Zf p.2.2=false->∀ l,Zk t=some (p.2.2,l)->l.length=p.2.1->Gd KW 128 [hoV h,.str p.1,Q0 l] (.str (Jo h p.2.2 l))):Gd KW 41 [hoV h,.str t] (.xg [.str (QP h t).1,hoV (QP h t).2]):=by
 refine Qb hKW (fk func41 c41 (by kernel_rfl)) (by simp) ?_
 have g36:=Qun hKW t ht;unfold QP;cases hp:(XK t).2.2 with
 | false =>
   rw[Qda hp];rw[hp] at g36;simp;refine cK (by omega) ?_
   simp[Qfk]
 | true =>
   obtain ⟨p,hpm,hw,hl,hv⟩:=Qc9 hp;have hq:=fun hc=>hq p hpm hc _ hv hl
   rw[hv];rw[hp,<- hw] at g36;have g37:=Qum hKW p.1;rw[Xy p hpm] at g37;simp only at g37;cases hc:Zf p.2.2 with
   | false =>
     have g119:=hq hc;rw[hc] at g37;simp only;rw[Zo hc];generalize (XK t).2.1=l at *;generalize p.1=w at *;simp;refine cK (by omega) ?_
     simp;refine cK (by omega) ?_
     simp;refine cK (by simpa using g119) ?_
     simp
   | true =>
     have g120:=Qxm h ho p hpm hc _ hl;rw[hc] at g37;simp only;unfold doV;rw[hc,if_pos rfl];cases hcv:Zy h p.2.2 (XK t).2.1 with
     | none =>
       rw[hcv] at g120;generalize (XK t).2.1=l at *;generalize p.1=w at *;simp;refine cK (by omega) ?_
       simp;refine cK (by omega) ?_
       simp;refine cK (by simpa using g120) ?_
       simp[tNo]
     | some h' =>
       have g11:=Qwc h' (Qfo ho hcv);rw[hcv] at g120;unfold Qru at g11;generalize (XK t).2.1=l at *;generalize p.1=w at *;simp;refine cK (by omega) ?_
       simp;refine cK (by omega) ?_
       simp;refine cK (by simpa using g120) ?_
       simp;refine cK (by simpa using g11) ?_
       by_cases hk:okH h'<;>simp[hk,tNo,Qhs]
def h0:Qd:=⟨⟨⟨[],[],0⟩,⟨[],0,0,0,[],0⟩,[],0,0⟩,⟨0,0,0,[],[],0⟩⟩
noncomputable def Qt0 (h:Qd) (s:List Txt):List Txt:=if okH h then (if 40<s.length then [] else Xh h s s.length) else []
noncomputable def QhF (h:Qd) (s:List Txt):Qd:=if okH h then (if 40<s.length then h0 else Qi h s s.length) else h0
theorem Qow (h:Qd) (s:List Txt) (hs:QK h) (hl:s.length<=100) (hq:okH h->s.length<=40->∀ i (hi:i<s.length),Gh KW 34 (.loc 0 0::[.map Qa2,.str s[i]].map .iv) (QH (Qi h s i)) [0] (.iv (.str (QP (Qi h s i) s[i]).1)) (QH (QP (Qi h s i) s[i]).2)) :
  Gd KW 12 [hoV h,strs s] (.xg [strs (Qt0 h s),hoV (QhF h s),.int .i64 (QtZ h s)]):=by
 refine Qb hKW (fk func12 c12 (by kernel_rfl)) (by simp) ?_
 have g9:=Quo hKW h hs;unfold Qru at g9;generalize hG:Ya c12.res (.xg [strs (Qt0 h s),hoV (QhF h s),.int .i64 (QtZ h s)])=G;unfold Qt0 QhF QtZ at hG;by_cases ho:okH h;rotate_left
 ·rw[if_neg ho] at g9 hG hG hG
  simp[c12];refine cK (by simpa using g9) ?_
  simp;rw[<- hG];simp[c12,h0]
 rw[if_pos ho] at g9 hG hG hG;simp[c12];refine cK (by simpa using g9) ?_
 by_cases h40:40<s.length
 ·have h40':(40:Int)<s.length:=by omega
  rw[if_pos h40] at hG hG hG;simp[h40'];rw[<- hG];intro _;simp[c12,h0]
 have h40':¬ (40:Int)<s.length:=by omega
 rw[if_neg h40] at hG hG hG;have g28:Gd KW 32 [hoV h] (.agg (hoC h)):=WC (xs:=[hoV h]) hKW (Qn7 hKW h hs) (by simp[Qc])
 have g29:=QBx hKW;simp[h40'];intro _;refine cK (by simpa using g28) ?_
 simp;refine cK (by omega) ?_
 simp;intro _;have hq:=hq ho (by omega)
 refine Xe (fun i=>[(4,AV.yo 4 (Xh h s i).length),(5,AV.loc 5 0),(8,AV.loc 25 0),(9,AV.iv (IV.map Qa2)),(27,AV.iv (strs s)),(28,AV.iv (.int .i64 s.length)),(29,AV.iv (.int .i64 (i:Nat)))])
  (fun i=>[(4,AO.arr 9 1 (emb ((Xh h s i).map fun t=>[.str t])) 0),(5,AO.box ((hoC h0).map AV.iv)),(25,AO.box ((hoC (Qi h s i)).map AV.iv))]) s.length ?_ ?_
 ·rw[Qa Qp5.eq_1]
  simp;rw[<- hG];simp[c12]
 intro i hi ih;have hd:=hq i hi;rw[<- Q2 h s i hi] at hd;have hst:=qB h s i hi;rw[hst] at ih;rw[Qa Qp5.eq_1];simp[hi] at ih |-;refine Qj hd (by simp[nth,rn]) (Ye (by simp[Qc])) ?_
 simp[nth,rn];have hal:(Xh h s i).length=i:=by simp[Xh]
 grind
theorem QBF (h:Qd) (s:List Txt) (hs:QK h) (hl:s.length<=100) (hw:okH h->s.length<=40->∀ t∈s,t.length<=1000) (hf:okH h->s.length<=40->∀ i (hi:i<s.length) v l,Zk s[i]=some (v,l)->Zf v=false->Qay (Qi h s i)) :
  Gd KW 12 [hoV h,strs s] (.xg [strs (Qt0 h s),hoV (QhF h s),.int .i64 (QtZ h s)]) :=
 Qow h s hs hl fun ho h4 i hi=>Qv9 _ (U5 ho i) _ (hf ho h4 i hi) (hw ho h4 _ (QKR hi))
theorem Qsa (L:List (List IV)) (x:List IV):emb (L++[x])=emb L++[x.map AV.iv]:=by simp[emb]
theorem QBD (h:Qd) (ho:okH h) (s:List Txt) (hl:s.length<=100) (hw:∀ t∈s,t.length<=1000) :
  Gd KW 16 [hoV h,strs s] (.sl 18 ((List.range (s.length+1)).map fun i=>hoC (Qi h s i))):=by
 refine Qb hKW (fk func16 c16 (by kernel_rfl)) (by simp) ?_
 have g10:=Qut hKW h (Qt ho);simp;refine cK (by simpa using g10) ?_
 simp
 refine Xe (fun i=>[(1,AV.iv (strs s)),(5,AV.yo 13 (i+1)),(6,AV.iv (.int .i64 (i:Nat)))])
  (fun i=>[(13,AO.arr 40 18 (emb ((List.range (i+1)).map fun j=>hoC (Qi h s j))) 0)]) s.length ?_ ?_
 ·rw[Qa Qp4.eq_1]
  simp;intro _;exact QKP (by simp)
 intro i hi ih;have hst:=Q2 h s i hi
 have e1:(List.range (i+1+1)).map (fun j=>hoC (Qi h s j))=(List.range (i+1)).map (fun j=>hoC (Qi h s j))++[hoC (Qi h s (i+1))]:=by
  rw[QLf,QK3];rfl
 have hlen:((List.range (i+1)).map fun j=>hoC (Qi h s j)).length=i+1:=by simp
 have hget:((List.range (i+1)).map fun j=>hoC (Qi h s j))[i]?=some (hoC (Qi h s i)):=by simp
 have g36:=Qun hKW s[i] (hw _ (QKR hi));rw[e1,Qsa] at ih;generalize (List.range (i+1)).map (fun j=>hoC (Qi h s j))=T at *
 have hgi:∀ hq:i<T.length,T[i]'hq=hoC (Qi h s i):=fun hq=>by
  grind
 rw[Qa Qp4.eq_1];cases hp:(XK s[i]).2.2 with
 | false =>
   have hsame:Qi h s (i+1)=Qi h s i:=by
    rw[hst];unfold QP;rw[Qda hp]
   rw[hsame] at ih;rw[hp] at g36;simp[hi,hlen,hgi] at ih |-;intros;refine ⟨by omega,cK (by omega) ?_⟩
   simp[hlen]
   grind
 | true =>
   obtain ⟨p,hpm,hw',hl',hv⟩:=Qc9 hp;rw[hp,<- hw'] at g36;have g37:=Qum hKW p.1;rw[Xy p hpm] at g37;simp only at g37;cases hc:Zf p.2.2 with
   | false =>
     have hsame:Qi h s (i+1)=Qi h s i:=by
      rw[hst];unfold QP;rw[hv];simp only;rw[Zo hc]
     rw[hsame] at ih;rw[hc] at g37;generalize (XK s[i]).2.1=l at *;generalize p.1=w at *;simp[hi,hlen,hgi] at ih |-;intros;refine ⟨by omega,cK (by omega) ?_⟩
     simp;refine cK (by omega) ?_
     simp[hlen]
     grind
   | true =>
     have g31:=QBs (Qi h s i) (U5 ho i) s[i] (hw _ (QKR hi)) (fun q _ h2 l h1 _=>by
      rw[hv] at h1;injection h1 with h1
      injection h1 with h1
      rw[<- h1,hc] at h2;cases h2)
     rw[<- hst] at g31;rw[hc] at g37;generalize (XK s[i]).2.1=l at *;generalize p.1=w at *;simp[hi,hlen,hgi] at ih |-;intros;refine ⟨by omega,cK (by omega) ?_⟩
     simp;refine cK (by omega) ?_
     simp[hi];refine cK (by simpa using g31) ?_
     simp[hlen]
     grind
theorem Qvh {a b:Rod} (h1:a.long=b.long) (h2:a.ya=b.ya) (h3:a.grow=b.grow):a=b:=by cases a;cases b;simp_all
theorem Qq6 {a b:Qz} (h1:a.yj=b.yj) (h2:a.rod=b.rod) (h3:a.count=b.count) (h4:a.rest=b.rest) (h5:a.off=b.off) (h6:a.yk=b.yk) (h7:a.yl=b.yl):a=b:=by cases a;cases b;simp_all
noncomputable instance:DecidableEq Qd:=fun _ _=>Classical.propDecidable _
include hK
theorem QBv (a b:Zj):Gd K 36 [puV a,puV b] (.bool (decide (a=b))):=by
 refine Qb hK (fk func36 c36 (by kernel_rfl)) (by simp) ?_
 by_cases h1:a.yi=b.yi;rotate_left
 ·have:a≠b:=fun e=>h1 (by rw[e])
  simp[h1,this]
 ·by_cases h2:a.yb=b.yb/\a.yc=b.yc
  ·by_cases h3:a.zh=b.zh
   ·by_cases h4:a.zi.length=b.zi.length
    ·by_cases h5:a.zj.length=b.zj.length
     ·simp[h1,h2.1,h2.2,h3,h4,h5]
      intros;refine Ql (fun i=>[(2,AV.iv (.ptr [.int .i64 b.yi,.int .i64 b.yb,.int .i64 b.yc,qb a.zi,Y7 a.zj,.int .i64 b.zh])),(3,AV.iv (.ptr [.int .i64 b.yi,.int .i64 b.yb,.int .i64 b.yc,qb b.zi,Y7 b.zj,.int .i64 b.zh])),(5,AV.iv (IV.int IntKind.i64 (i:Nat)))]) (fun _=>[]) a.zi.length (fun i=>a.zi.take i=b.zi.take i) (by simp) ?_ ?_
      ·intro h
       rw[h4,QKX,<- h4,QKX] at h;rw[Qa QpS.eq_1];simp;intros;refine Ql (fun i=>[(2,AV.iv (.ptr [.int .i64 b.yi,.int .i64 b.yb,.int .i64 b.yc,qb a.zi,Y7 a.zj,.int .i64 b.zh])),(3,AV.iv (.ptr [.int .i64 b.yi,.int .i64 b.yb,.int .i64 b.yc,qb b.zi,Y7 b.zj,.int .i64 b.zh])),(6,AV.iv (IV.int IntKind.i64 (i:Nat)))]) (fun _=>[]) a.zj.length (fun i=>a.zj.take i=b.zj.take i) (by simp) ?_ ?_
       ·intro h'
        rw[h5,QKX,<- h5,QKX] at h';rw[Qa QpR.eq_1];have:a=b:=by cases a;cases b;simp_all
        subst this;simp
       intro i hi h ih;have hi':i<b.zj.length:=by omega
       rw[Qa QpR.eq_1];by_cases e:a.zj[i]=b.zj[i]
       ·simp[hi,hi',e] at ih |-
        intros;refine ⟨by omega,ih ?_⟩
        rw[QKL hi,QKL hi',h,e]
       have hne:a≠b:=fun c=>by grind
       have e':=fun k1 k2 k3 k4 k5 k6 k7=>e (Qq6 k1 k2 k3 k4 k5 k6 k7)
       simp[hi,hi',hne]
       grind
      intro i hi h ih;have hi':i<b.zi.length:=by omega
      rw[Qa QpS.eq_1];by_cases e:a.zi[i]=b.zi[i]
      ·simp[hi,hi',e] at ih |-
       intros;refine ⟨by omega,ih ?_⟩
       rw[QKL hi,QKL hi',h,e]
      have hne:a≠b:=fun c=>by grind
      have e':=fun k1 k2 k3=>e (Qvh k1 k2 k3)
      simp[hi,hi',hne]
      grind
     have h':¬ (a.zj.length:Int)=b.zj.length:=by omega
     have:a≠b:=fun e=>h5 (by rw[e])
     simp[h1,h2.1,h2.2,h3,h4,h',this]
    have h':¬ (a.zi.length:Int)=b.zi.length:=by omega
    have:a≠b:=fun e=>h4 (by rw[e])
    simp[h1,h2.1,h2.2,h3,h',this]
   have:a≠b:=fun e=>h3 (by rw[e])
   simp[h1,h2.1,h2.2,h3,this]
  ·have:a≠b:=fun e=>h2 (by grind)
   by_cases k1:a.yb=b.yb
   ·have k2:¬ a.yc=b.yc:=fun c=>h2 ⟨k1,c⟩
    simp[h1,k1,k2,this]
   ·simp[h1,k1,this]
theorem QBE (a b:Qd):Gd K 14 [hoV a,hoV b] (.bool (decide (a=b))):=by
 refine Qb hK (fk func14 c14 (by kernel_rfl)) (by simp) ?_
 have g32:=QBw hK a.ze b.ze;have g33:=QBv hK a.zq b.zq;have he:a=b↔a.ze=b.ze/\a.zq=b.zq:=by cases a;cases b;simp
 simp;refine cK (by simpa using g32) ?_
 by_cases h1:a.ze=b.ze
 ·simp[h1]
  refine cK (by simpa using g33) ?_
  simp[he,h1]
 ·simp[he,h1]
theorem Qov (a b:List Txt) (ha:a.length<=1000000) (hb:b.length<=1000000):Gd K 13 [strs a,strs b] (.bool (decide (a=b))):=by
 refine Qb hK c13_ok (by simp) ?_
 by_cases h4:a.length=b.length;rotate_left
 ·have h':¬ (a.length:Int)=b.length:=by omega
  have:a≠b:=fun e=>h4 (by rw[e])
  simp[h',this]
 simp[h4];intros;refine Ql (fun i=>[(0,AV.iv (strs a)),(1,AV.iv (strs b)),(5,AV.iv (IV.int IntKind.i64 (i:Nat)))]) (fun _=>[]) a.length (fun i=>a.take i=b.take i) (by simp) ?_ ?_
 ·intro h
  rw[h4,QKX,<- h4,QKX] at h;subst h;rw[Qa c13_b0.eq_1];simp
 intro i hi h ih;have hi':i<b.length:=by omega
 rw[Qa c13_b0.eq_1];by_cases e:a[i]=b[i]
 ·simp[hi,hi',e] at ih |-
  intros;refine ⟨by omega,ih ?_⟩
  rw[QKL hi,QKL hi',h,e]
 have hne:a≠b:=fun c=>by grind
 simp[hi,hi',hne,e]
omit hK
def Y3:List Rod->Int
 | []=>1
 | r::l=>(r.ya+1)*Y3 l
theorem QcR:∀ (l:List Rod) (r:Rod),Y3 (l++[r])=Y3 l*(r.ya+1)
 | [],r=>by simp[Y3]
 | a::l,r=>by
   simp only[QK1,Y3,QcR l r]
   grind
def QoF (p:Zj):Prop:=40<p.zi.length\/40<p.zj.length\/(OkU p/\((∃ x∈p.zj,3<x.yl-x.yk)\/12<Y3 p.zi\/8<p.yc-p.yb\/4<p.zj.length))
noncomputable instance (p:Zj):Decidable (QoF p):=Classical.propDecidable _
theorem QqO (l:List Rod) (h:∀ r∈l,Vk r) (i:Nat):1<=Y3 (l.take i)/\Y3 (l.take i)<=10 ^ (min i l.length):=by
 induction l generalizing i with
 | nil=>simp[Y3]
 | cons r l ih =>
   cases i with
   | zero=>simp[Y3]
   | succ i =>
     obtain ⟨h1,h2⟩:=ih (fun x hx=>h x (by simp[hx])) i
     have hr:=(h r (by simp)).2.1
     simp only[inR] at hr;simp only[List.take_succ_cons,Y3,QK6,Nat.succ_min_succ];rw[Nat.succ_eq_add_one,Int.pow_succ];have h3:(r.ya+1)*Y3 (l.take i)<=10*Y3 (l.take i):=QLc (by omega) (by omega)
     have h4:1*Y3 (l.take i)<=(r.ya+1)*Y3 (l.take i):=QLc (by omega) (by omega)
     omega
theorem QBt (p:Zj):Gd KW 38 [puV p] (.bool (decide (QoF p))):=by
 refine Qb hKW (fk func38 c38 (by kernel_rfl)) (by simp) ?_
 by_cases h1:p.zi.length<=40;rotate_left
 ·have h1':(40:Int)<p.zi.length:=by omega
  have hf:QoF p:=.inl (by omega)
  simp[h1',hf]
  try omega
 ·by_cases h2:p.zj.length<=40
  ·have h1':¬ (40:Int)<p.zi.length:=by omega
   have h2':¬ (40:Int)<p.zj.length:=by omega
   have g27:=Quq hKW p (by omega) (by omega)
   simp[h1',h2'];intros;refine cK (by simpa using g27) ?_
   by_cases h3:OkU p;rotate_left
   ·have h3':¬ QoF p:=by
     rintro (h | h | ⟨h,_⟩)
     all_goals grind
    simp[h3,h3']
   simp[h3];have hr4:=h3.rlen;have hgu:=h3.guess;have hmo:=h3.most;simp only[inR] at hgu;refine Xe (fun i=>[(1,AV.iv (.ptr [.int .i64 p.yi,.int .i64 p.yb,.int .i64 p.yc,qb p.zi,Y7 p.zj,.int .i64 p.zh])),(3,AV.iv (.int .i64 (Y3 (p.zi.take i)))),(4,AV.iv (.int .i64 (i:Nat)))]) (fun _=>[]) p.zi.length ?_ ?_
   ·rw[QKX]
    rw[Qa QpO.eq_1];simp;intros;refine Ql (fun i=>[(1,AV.iv (.ptr [.int .i64 p.yi,.int .i64 p.yb,.int .i64 p.yc,qb p.zi,Y7 p.zj,.int .i64 p.zh])),(3,AV.iv (.int .i64 (Y3 p.zi))),(5,AV.iv (.int .i64 (i:Nat)))]) (fun _=>[]) p.zj.length (fun i=>∀ x∈p.zj.take i,¬ 3<x.yl-x.yk) (by simp) ?_ ?_
    ·intro hQ
     rw[QKX] at hQ
     have he:QoF p↔12<Y3 p.zi\/8<p.yc-p.yb\/4<p.zj.length:=by
      constructor
      ·rintro (h | h | ⟨_,⟨x,hx,h⟩ | h⟩)
       all_goals grind
      exact fun h=>.inr (.inr ⟨h3,.inr h⟩)
     rw[Qa QpN.eq_1];by_cases w1:12<Y3 p.zi
     ·simp[he,w1]
      try omega
     by_cases w2:8<p.yc-p.yb
     ·simp[he,w1,w2]
      try omega
     simp[he,w1,w2]
     try omega
    intro i hi hQ ih;have hrd:=h3.zj _ (QKR hi);obtain ⟨_,_,_,_,_,hw1,hw2⟩:=hrd;simp only[inR] at hw1;rw[Qa QpN.eq_1];by_cases e:3<p.zj[i].yl-p.zj[i].yk
    ·have hf:QoF p:=.inr (.inr ⟨h3,.inl ⟨_,QKR hi,e⟩⟩)
     simp[hi,e,hf]
     try omega
    have ih:=ih fun x hx=>by
     rw[QKL hi] at hx
     grind
    simp[hi,e] at ih |-
    grind
   intro i hi ih;have hrd:=h3.zi _ (QKR hi);have hw:=hrd.2.1;simp only[inR] at hw;have hq:=QqO p.zi h3.zi i;have hq2:(10:Int) ^ (min i p.zi.length)<=10 ^ 4:=by exact_mod_cast QLB (n:=10) (by omega) (by omega:min i p.zi.length<=4)
   have hb:Y3 (p.zi.take i)*(p.zi[i].ya+1)<=10000*10:=QL0 (by omega) (by omega) (by omega) (by omega)
   have hb':0<=Y3 (p.zi.take i)*(p.zi[i].ya+1):=QLU (by omega) (by omega)
   rw[QKL hi,QcR] at ih;rw[Qa QpO.eq_1];simp[hi] at ih |-
   grind
  ·have h2':(40:Int)<p.zj.length:=by omega
   have hf:QoF p:=.inr (.inl (by omega))
   simp[h2',hf]
   try omega
def QoH (h:Qd):Prop:=Qhe h.ze\/QoF h.zq
noncomputable instance (h:Qd):Decidable (QoH h):=Classical.propDecidable _
theorem Qus (h:Qd):Gd KW 15 [hoV h] (.bool (decide (QoH h))):=by
 refine Qb hKW (fk func15 c15 (by kernel_rfl)) (by simp) ?_
 have g34:=QBu hKW h.ze;have g35:=QBt h.zq;unfold QoH;simp;refine cK (by simpa using g34) ?_
 by_cases h1:Qhe h.ze
 ·simp[h1]
 simp[h1];refine cK (by simpa using g35) ?_
 simp
def QmA (h:Qd) (s:List Txt):Prop:=QoH h\/45<s.length\/(∃ t∈s,90<t.length)\/(okH h/\∃ i,i<=s.length/\QoH (Qi h s i))
noncomputable instance (h:Qd) (s:List Txt):Decidable (QmA h s):=Classical.propDecidable _
theorem qJ {h:Qd} (hf:¬ QoH h):QK h:=by
 simp only[QoH,Qhe,Quv,QoG,QoF,not_or] at hf;obtain ⟨⟨⟨h1,h2,_⟩,⟨h3,h4,_⟩,h5,_⟩,h6,h7,_⟩:=hf;exact ⟨⟨by omega,by omega,by omega,by omega,by omega⟩,by omega,by omega⟩
theorem QD4 (h:Qd) (s:List Txt):Gd KW 4 [hoV h,strs s] (.bool (decide (QmA h s))):=by
 refine Qb hKW (fk func4 c4 (by kernel_rfl)) (by simp) ?_
 have g19:=Qus h;simp;refine cK (by simpa using g19) ?_
 by_cases h1:QoH h
 ·have hf:QmA h s:=.inl h1
  simp[h1,hf]
 by_cases h2:45<s.length
 ·have hf:QmA h s:=.inr (.inl h2)
  have h2':(45:Int)<s.length:=by omega
  simp[h1,hf,h2']
  try omega
 have h2':¬ (45:Int)<s.length:=by omega
 have g11:=Qwc h (qJ h1);unfold Qru at g11;simp[h1,h2'];intros;refine Ql (fun i=>[(1,AV.iv (strs s)),(2,AV.iv (.ptr (hoC h))),(5,AV.iv (.int .i64 (i:Nat)))]) (fun _=>[]) s.length (fun i=>∀ t∈s.take i,¬ 90<t.length) (by simp) ?_ ?_
 ·intro hQ
  rw[QKX] at hQ;rw[Qa Qyx.eq_1];simp;intros;refine cK (by simpa using g11) ?_
  by_cases ho:okH h;rotate_left
  ·have hf:¬ QmA h s:=by
    rintro (h | h | ⟨t,ht,h⟩ | ⟨h,_⟩)
    all_goals grind
   simp[ho,hf]
  have g20:=QBD h ho s (by omega) (fun t ht=>by grind)
  have hT1:((List.range (s.length+1)).map fun i=>hoC (Qi h s i)).length=s.length+1:=by simp
  have hT2:∀ i (hi:i<((List.range (s.length+1)).map fun i=>hoC (Qi h s i)).length),((List.range (s.length+1)).map fun i=>hoC (Qi h s i))[i]=hoC (Qi h s i):=fun i hi=>by simp
  generalize ((List.range (s.length+1)).map fun i=>hoC (Qi h s i))=T at *
  simp[ho];refine cK (by simpa using g20) ?_
  simp;refine Ql (fun i=>[(6,AV.iv (.sl 18 T)),(7,AV.iv (.int .i64 (i:Nat)))]) (fun _=>[]) T.length (fun i=>∀ j,j<i->¬ QoH (Qi h s j)) (by omega) ?_ ?_
  ·intro hN
   have hf:¬ QmA h s:=by
    rintro (h | h | ⟨t,ht,h⟩ | ⟨_,j,hj,h⟩)
    all_goals grind
   rw[Qa Qyw.eq_1];simp[hf]
  intro i hi hN ih;have hTi:=hT2 i hi;have g19:=Qus (Qi h s i);rw[Qa Qyw.eq_1];by_cases e:QoH (Qi h s i)
  ·have hf:QmA h s:=.inr (.inr (.inr ⟨ho,i,by omega,e⟩))
   simp[hi,hTi,hf];intros;refine cK (by simpa using g19) ?_
   simp[e]
  have ih:=ih fun j hj=>by
   grind
  simp[hi,hTi] at ih |-;intros;refine cK (by simpa using g19) ?_
  simp[e]
  grind
 intro i hi hQ ih;rw[Qa Qyx.eq_1];by_cases e:90<s[i].length
 ·have hf:QmA h s:=.inr (.inr (.inl ⟨_,QKR hi,e⟩))
  have e':(90:Int)<s[i].length:=by omega
  simp[hi,e',hf]
  try omega
 have e':¬ (90:Int)<s[i].length:=by omega
 have ih:=ih fun x hx=>by
  rw[QKL hi] at hx
  grind
 simp[hi,e'] at ih |-
 grind
def exU:Zj:=⟨12,9900,10200,[⟨1000,1,12⟩,⟨500,0,20⟩],[⟨1,0,10,0,2,0,0⟩,⟨2,0,10,30,2,0,0⟩],0⟩
def exH:Qd:=⟨exP,exU⟩
def Ql6:Qs:=⟨exC.za,[⟨7,0,0,5,1⟩],0⟩
def QqD:Qe:={ exP with zc:=Ql6 }
def qx:Qd:=⟨QqD,exU⟩
def exS:List Txt:=[[119,104,111,32,48],[115,101,101,32,55,32,48,32,48,32,53,32,49],[119,104,111,32,48],[119,101,108,100,32,48,32,48,32,53],[112,114,111,118,101,32,52,48,32,48,32,51],[115,116,114,101,116,99,104],[99,111,110,100,101,109,110,101,100]]
def exA:List Txt:=[[48,32,49],[121,101,115],[48],[119,104,97,116],[110,111],[50,54,32,51,52],[112,101,114,104,97,112,115]]
include hK
theorem QBl:Gd K 53 [] (.xg [puV exU,.agg (reC ⟨1,1,20,0,1,20,20⟩)]):=by
 refine Qb hK (fk func53 c53 (by kernel_rfl)) (by simp) ?_
 simp[exU]
theorem QBB:Gd K 22 [] (hoV exH):=by
 refine Qb hK (fk func22 c22 (by kernel_rfl)) (by simp) ?_
 have g38:=QBl hK;have g39:=QBk hK;simp;refine cK (by omega) ?_
 simp;refine cK (by omega) ?_
 simp[exH]
omit hK
theorem QgH:OkU exU:=by decide
theorem Qdw:okH exH:=⟨QgI,QgH⟩
theorem QiK:OkC Ql6:=by
 refine ⟨by decide,by decide,by decide,QgJ.za,fun s hs=>?_⟩
 simp[Ql6] at hs;subst hs;decide
theorem QiJ:OkP QqD:=⟨QiK,QoL,QgI.zo,QgI.z8,QgI.many,QgI.zf⟩
theorem QoM:okH qx:=⟨QiJ,QgH⟩
theorem Qdv:span ((UY exU).map qs)=(26,34):=by
 rw[<- Qba];decide +kernel
theorem QEx:uE exU true=0:=by
 unfold uE;rw[if_pos QgH,if_pos rfl,if_neg];intro h;have:=Qdv;simp_all
theorem p1:Zk [119,104,111,32,48]=some (.who,[0]):=by decide +kernel
theorem p2:Zk [115,101,101,32,55,32,48,32,48,32,53,32,49]=some (.see,[7,0,0,5,1]):=by decide +kernel
theorem p4:Zk [119,101,108,100,32,48,32,48,32,53]=none:=by decide +kernel
theorem p5:Zk [112,114,111,118,101,32,52,48,32,48,32,51]=some (.prove,[40,0,3]):=by decide +kernel
theorem p6:Zk [115,116,114,101,116,99,104]=some (.stretch,[]):=by decide +kernel
theorem p7:Zk [99,111,110,100,101,109,110,101,100]=some (.y8,[]):=by decide +kernel
theorem Qux:QqL exC 0=[0,1]/\Y0 exC (plB exC 0)=0:=by
 have e:(QU exC).map (QqA exC 0)=[1,0]:=by decide
 have hb:plB exC 0=true:=by decide
 have ha:Y0 exC (plB exC 0)=0:=by
  unfold Y0;rw[if_pos QgJ,if_pos hb];decide
 refine ⟨?_,ha⟩;unfold QqL;rw[if_pos ha,e]
 exact Qqe (V3 _) (by decide) fun x=>by
  rw[Vp]
  grind
theorem QoK:QqL Ql6 0=[0]/\Y0 Ql6 (plB Ql6 0)=0:=by
 have e:(QU Ql6).map (QqA Ql6 0)=[0]:=by decide
 have hb:plB Ql6 0=true:=by decide
 have ha:Y0 Ql6 (plB Ql6 0)=0:=by
  unfold Y0;rw[if_pos QiK,if_pos hb];decide
 refine ⟨?_,ha⟩;unfold QqL;rw[if_pos ha,e];exact Qqe (V3 _) (by decide) fun x=>by rw[Vp]
def QFD:List Q5:=[⟨[0,0,0,0,1,1,0],⟨[10,5],1⟩⟩,⟨[0,0,0,0,1,1,0],⟨[11,5],1⟩⟩]
theorem QoN:QF QqD=QFD:=by
 unfold QF;rw[show QqD.zc=Ql6 from rfl,show QqD.zb=exM from rfl,QAe QiK,Qhz]
 decide
theorem Quy:kL QqD true=QFD/\kE QqD true=0:=by
 unfold kL kE;rw[if_pos ⟨QiJ,rfl⟩,if_pos QiJ,if_pos rfl,QoN];exact ⟨rfl,by decide⟩
theorem Qr2:QbP (rCond QqD) (kE QqD true)=[112,101,114,104,97,112,115]:=by
 unfold rCond;rw[Quy.1,Quy.2];decide
theorem QxS:QFg exU:=by
 refine ⟨by decide,by decide,fun _=>?_⟩
 have h1:(Xf exU).length=301:=by decide +kernel
 have h2:(Xc exU.zi).length=2:=by decide
 have key:∀ l l':List Int,(l.flatMap fun b=>l'.flatMap fun a=>(Xc exU.zi).map fun w=>(⟨b,a,w⟩:TrU)).length<=l.length*(l'.length*2):=fun l l'=>by
  refine ZE _ _ l fun b _=>ZE _ _ l' fun a _=>?_
  grind
 have:=key (Xf exU) (Xf exU);rw[h1] at this;unfold Qzy;omega
theorem QxT:Qay exH:=⟨QBQ 1 (by decide),QxS⟩
theorem Quz (h:okH (Q8 qx ⟨40,0,3⟩)):False:=by
 have h1:=h.1.zf 2 (by decide) (by decide)
 revert h1
 decide
theorem s0:Qi exH exS 0=exH:=rfl
theorem lv1:QP exH [119,104,111,32,48]=([48,32,49],exH):=by
 unfold QP;rw[p1];simp only;rw[Zo rfl];unfold Jo;rw[show exH.ze.zc=exC from rfl,show nI [0] 0=0 from rfl,Qux.1,Qux.2]
 show (Ys [0,1] 0,exH)=_
 rw[show Ys [0,1] 0=[48,32,49] by decide +kernel]
theorem lv2:QP exH [115,101,101,32,55,32,48,32,48,32,53,32,49]=([121,101,115],qx):=by
 unfold QP;rw[p2];simp only;rw[Zz (h':=qx) rfl rfl];unfold chT chH;rw[if_pos QoM,if_pos QoM];rfl
theorem lv3:QP qx [119,104,111,32,48]=([48],qx):=by
 unfold QP;rw[p1];simp only;rw[Zo rfl];unfold Jo;rw[show qx.ze.zc=Ql6 from rfl,show nI [0] 0=0 from rfl,QoK.1,QoK.2]
 show (Ys [0] 0,qx)=_
 rw[show Ys [0] 0=[48] by decide +kernel]
theorem lv4:QP qx [119,101,108,100,32,48,32,48,32,53]=([119,104,97,116],qx):=by
 unfold QP;rw[p4];rfl
theorem lv5:QP qx [112,114,111,118,101,32,52,48,32,48,32,51]=([110,111],qx):=by
 unfold QP;rw[p5];simp only;rw[Zz (h':=Q8 qx ⟨40,0,3⟩) rfl rfl];unfold chT chH;rw[if_neg Quz,if_neg Quz];rfl
theorem lv6:QP qx [115,116,114,101,116,99,104]=([50,54,32,51,52],qx):=by
 unfold QP;rw[p6];simp only;rw[Zo rfl];unfold Jo;have hu:uL exU true=UY exU:=by simp[uL,QgH]
 rw[show qx.zq=exU from rfl,QEx,hu,Qdv]
 show (Ys [26,34] 0,qx)=_
 rw[show Ys [26,34] 0=[50,54,32,51,52] by decide +kernel]
theorem lv7:QP qx [99,111,110,100,101,109,110,101,100]=([112,101,114,104,97,112,115],qx):=by
 unfold QP;rw[p7];simp only;rw[Zo rfl];unfold Jo;rw[show qx.ze=QqD from rfl,Qr2]
theorem st (i:Nat) (h:i<=7):Qi exH exS i=if i<=1 then exH else qx:=by
 have e1:Qi exH exS 1=exH:=by rw[Q2 exH exS 0 (by decide)];exact congrArg Prod.snd lv1
 have e2:Qi exH exS 2=qx:=by rw[Q2 exH exS 1 (by decide),e1];exact congrArg Prod.snd lv2
 have e3:Qi exH exS 3=qx:=by rw[Q2 exH exS 2 (by decide),e2];exact congrArg Prod.snd lv3
 have e4:Qi exH exS 4=qx:=by rw[Q2 exH exS 3 (by decide),e3];exact congrArg Prod.snd lv4
 have e5:Qi exH exS 5=qx:=by rw[Q2 exH exS 4 (by decide),e4];exact congrArg Prod.snd lv5
 have e6:Qi exH exS 6=qx:=by rw[Q2 exH exS 5 (by decide),e5];exact congrArg Prod.snd lv6
 have e7:Qi exH exS 7=qx:=by rw[Q2 exH exS 6 (by decide),e6];exact congrArg Prod.snd lv7
 have:i=0\/i=1\/i=2\/i=3\/i=4\/i=5\/i=6\/i=7:=by omega
 rcases this with rfl | rfl | rfl | rfl | rfl | rfl | rfl | rfl
 ·rfl
 all_goals grind
def exW:List Txt:=[[119,104,111,32,48],[116,117,114,110]]
theorem pW:Zk [116,117,114,110]=some (.turn,[]):=by decide +kernel
theorem Qxl:Gd KW 12 [hoV exH,strs exW] (.xg [strs (Qt0 exH exW),hoV (QhF exH exW),.int .i64 (QtZ exH exW)]) :=
 Qow exH exW (Qt Qdw) (by decide) fun _ _ i hi=>by
  match i,hi with
  | 0,_ =>
    refine Qew _ _ (fun v l hp _=>?_) (by simp[exW])
    have hp:Zk [119,104,111,32,48]=some (v,l):=hp;rw[p1] at hp;injection hp with hp
    injection hp with h1 h2
    subst h1 h2;rw[Zo rfl];exact Qn5 exH 0 Qdw QxT
  | 1,_ =>
    refine Qew _ _ (fun v l hp _=>?_) (by simp[exW])
    have hp:Zk [116,117,114,110]=some (v,l):=hp;rw[pW] at hp;injection hp with hp
    injection hp with h1 h2
    subst h1 h2
    have e:Qi exH exW 1=exH:=by
     rw[Q2 exH exW 0 (by decide)]
     show (QP exH [119,104,111,32,48]).2=_
     unfold QP;rw[p1];simp only;rw[Zo rfl]
    rw[e,Zz (h':=Qg exH ⟨3,0,0,0,0⟩) rfl rfl];exact Qn6 hKW exH (Qt Qdw) (ZN Qdw (by simp[Qg]) (by simp[Qg]) (by simp[Qg]) (by simp[Qg]) (by simp[Qg]) (by simp[Qg]) (by simp[Qg]))
end Go.Pf
namespace Go.Bk
open Go Go.Ev Go.RowKit
set_option maxRecDepth 8000
attribute [simp] qi
abbrev W:=List UInt8
@[simp] def Q0 (l:List Int):IV:=.sl 1 (l.map fun n=>[.int .i64 n])
@[simp] def strs (l:List W):IV:=.sl 1 (l.map fun s=>[.str s])
def tx (s:W):Bool:=s.all (fun c=>decide (32<=c.toNat)&&decide (c.toNat<=126))&&decide (s.length<=60)
def two (n:Nat):W:=[UInt8.ofNat (48+n / 10),UInt8.ofNat (48+n % 10)]
def v1 (c:UInt8):Int:=(c.toNat:Int)-32
def S1:W->Int
 | []=>0
 | c::s=>v1 c+S1 s
def S2:Nat->W->Int
 | _,[]=>0
 | k,c::s=>v1 c*(k:Int)+S2 (k+1) s
def QQ (s:W):W:=s++two (S1 s % 97).toNat++two (S2 1 s % 97).toNat
def QvL (c:UInt8):Bool:=decide (48<=c.toNat)&&decide (c.toNat<=57)
def dg:W->Int
 | [a,b]=>if QvL a&&QvL b then 10*((a.toNat:Int)-48)+((b.toNat:Int)-48) else -1
 | _ => -1
def numOf (r:W):Int × W × Bool :=
 if decide (r.length<2)||!tx (r.drop 2) then (0,[],false) else (dg (r.take 2),r.drop 2,decide (0<=dg (r.take 2))&&decide (dg (r.take 2)<40))
def Vg (r:W):Int × Bool :=
 if decide (r.length≠4)||decide (r.take 2≠[46,46]) then (0,false) else (dg (r.drop 2),decide (0<=dg (r.drop 2))&&decide (dg (r.drop 2)<=40))
def YV (r:W):Bool:=(numOf r).2.2||(Vg r).2
def Xb:W->W->Nat
 | a::r,b::s=>(if a=b then 0 else 1)+Xb r s
 | _,_=>0
def fits (l r:W):Bool:=YV r&&decide (l.length=r.length+4)&&decide (Xb l (QQ r)<=1)
def Qmy (want:Int) (r:W) (i:Nat):Int:=((want-(S1 (r.take i++[32]++r.drop (i+1))).tmod 97).tmod 97+97).tmod 97
def fix (want:Int) (r:W) (i:Nat):W:=r.take i++[UInt8.ofNat (32+Qmy want r i).toNat]++r.drop (i+1)
def Y4 (l:W):Option W :=
 if l.length<6 then none else
 let r:=l.take (l.length-4)
 if fits l r then some r else
 let want:=dg ((l.drop (l.length-4)).take 2)
 if want<0 then none else
 ((List.range r.length).find? fun i=>fits l (fix want r i)).map fun i=>fix want r i
theorem Qhp (c:UInt8):c.toNat<256:=c.toNat_lt
theorem QdR (c:UInt8) : -32<=v1 c/\v1 c<=223:=by have:=Qhp c;unfold v1;omega
theorem QtE (s:W) : -32*(s.length:Int)<=S1 s/\S1 s<=223*(s.length:Int):=by
 induction s with
 | nil=>simp[S1]
 | cons c s ih=>have:=QdR c;simp only[S1,QK6];omega
theorem Qcu (s t:W):S1 (s++t)=S1 s+S1 t:=by
 induction s with
 | nil=>simp[S1]
 | cons c s ih=>simp only[QK1,S1,ih];omega
theorem Qg9 (s t:W) (k:Nat):S2 k (s++t)=S2 k s+S2 (k+s.length) t:=by
 induction s generalizing k with
 | nil=>simp[S2]
 | cons c s ih=>simp only[QK1,S2,ih,QK6];grind
theorem QtD (s:W) (k:Nat) (hk:k+s.length<=200001) : -7000000*(s.length:Int)<=S2 k s/\S2 k s<=50000000*(s.length:Int):=by
 induction s generalizing k with
 | nil=>simp[S2]
 | cons c s ih =>
   simp only[QK6] at hk;have h1:=ih (k+1) (by omega)
   obtain ⟨h2,h3⟩:=QdR c;simp only[S2,QK6];have e1:v1 c*(k:Int)<=223*(k:Int):=QLc h3 (by omega)
   have e2 : -32*(k:Int)<=v1 c*(k:Int):=QLc h2 (by omega)
   omega
theorem Qj0 {n:Int} (h : -2147483648<=n) (h':n<=2147483647):IntKind.wrap .i32 n=n:=by
 unfold IntKind.wrap;simp[IntKind.bits,IntKind.signed];omega
theorem QtL (a b:UInt8):((a.toNat:Int)=b.toNat)=(a=b):=by
 apply propext;constructor
 ·intro h
  exact UInt8.toNat_inj.1 (by omega)
 grind
theorem Qx3 (s:W) (i:Nat) (h:i<s.length) (hc:s[i].toNat<128):QqE s i=(s[i].toNat,1):=by
 unfold QqE Utf8.decode;have e:(ByteArray.get! ⟨s.toArray⟩ (i+0)).toNat=s[i].toNat:=by simp[ByteArray.get!,h]
 simp_all
theorem Qx4 (s:W) (i:Nat) (h:i<s.length) (hc:128<=s[i].toNat):128<=(QqE s i).1:=by
 unfold QqE Utf8.decode;have e:(ByteArray.get! ⟨s.toArray⟩ (i+0)).toNat=s[i].toNat:=by simp[ByteArray.get!,h]
 simp only[e];rw[if_neg (by omega)]
 repeat' split
 all_goals first
  | (simp only[Utf8.runeError];omega)
  | (simp at *;omega)
@[simp] theorem QIu (c:UInt8):IntKind.i64.wrap (c.toNat:Int)=c.toNat:=by have:=Qhp c;exact wrap_i64 (by omega) (by omega)
@[simp] theorem QDj (c:UInt8):IntKind.i64.wrap ((c.toNat:Int)-48)=c.toNat-48:=by have:=Qhp c;exact wrap_i64 (by omega) (by omega)
theorem Qe4 {α:Type} {p:α->Bool} {l:List α} {i:Nat} (hi:i<l.length) (h:(l.take i).all p=true) (h':p l[i]=true):(l.take (i+1)).all p=true:=by
 rw[QKL hi,List.all_append,h];simp[h']
theorem qe {α:Type} {p:α->Bool} {l:List α} {i:Nat} (hi:i<l.length) (h':p l[i]=false):l.all p=false:=by
 grind
theorem QCA (s:W) (i:Nat) (hi:i<s.length):S1 (s.take (i+1))=S1 (s.take i)+v1 s[i]/\S2 1 (s.take (i+1))=S2 1 (s.take i)+v1 s[i]*((i:Int)+1):=by
 rw[QKL hi,Qcu,Qg9];have:(s.take i).length=i:=by simp;omega
 simp only[S1,S2,this]
 grind
theorem QgR:∀ (a b:W) (i:Nat) (h:i<a.length) (h':i<b.length),Xb (a.take (i+1)) b=Xb (a.take i) b+if a[i]=b[i] then 0 else 1
 | [],_,i,h,_=>by simp at h
 | x::a,[],i,_,h'=>by simp at h'
 | x::a,y::b,0,_,_=>by simp[Xb]
 | x::a,y::b,i+1,h,h'=>by
   have:=QgR a b i (by simpa using h) (by simpa using h')
   simp only[List.take_succ_cons,Xb,this,List.getElem_cons_succ];omega
theorem Qx0 (a b:W):Xb a b<=a.length:=by
 induction a generalizing b with
 | nil=>simp[Xb]
 | cons x a ih =>
   cases b with
   | nil=>simp[Xb]
   | cons y b=>have:=ih b;simp only[Xb,QK6];grind
theorem QAb {s:W} (h:tx s=true):∀ c∈s,32<=c.toNat/\c.toNat<=126:=by
 intro c hc;simp only[tx,QKO,QLo,decide_eq_true_eq] at h;exact h.1 c hc
def plain (s:W):Prop:=∀ c∈s,32<=c.toNat/\c.toNat<=126
theorem Qqv {s:W} (h:plain s):0<=S1 s:=by
 induction s with
 | nil=>simp[S1]
 | cons c s ih =>
   have:=ih (fun c hc=>h c (QMa _ hc))
   have:=h c (by simp)
   simp only[S1,v1];omega
theorem QCB {s:W} (h:plain s) (k:Nat):0<=S2 k s:=by
 induction s generalizing k with
 | nil=>simp[S2]
 | cons c s ih =>
   have:=ih (fun c hc=>h c (QMa _ hc)) (k+1)
   have:=h c (by simp)
   have hv:0<=v1 c:=by simp only[v1];omega
   have:=QLU hv (show (0:Int)<=k by omega)
   simp only[S2];omega
theorem Qk1 {s:W} (h:0<=dg s):plain s:=by
 match s with
 | []=>simp[dg] at h
 | [a]=>simp[dg] at h
 | [a,b] =>
   simp only[dg] at h;split at h
   ·rename_i hd
    simp only[QvL,QKO,decide_eq_true_eq] at hd;intro c hc
    grind
   omega
 | a::b::c::s=>simp[dg] at h
theorem Jw {r:W} (h:YV r=true):plain r/\r.length<=62/\2<=r.length:=by
 simp only[YV,QL6] at h;rcases h with h | h
 ·unfold numOf at h
  split at h
  ·simp at h
  rename_i hc;simp only[QL6,decide_eq_true_eq,QLm,not_or,Bool.not_eq_false] at hc;simp only[QKO,decide_eq_true_eq] at h;have h1:=Qk1 h.1;have h2:=QAb hc.2
  have h3:(r.drop 2).length<=60:=by
   have:=hc.2;simp only[tx,QKO,decide_eq_true_eq] at this;exact this.2
  simp at h3;refine ⟨fun c hc=>?_,by omega,by omega⟩
  rw[<- QLX 2 r] at hc;rcases QK0.1 hc with hc | hc
  ·exact h1 c hc
  exact h2 c hc
 ·unfold Vg at h
  split at h
  ·simp at h
  ·rename_i hc
   simp only[QL6,decide_eq_true_eq,not_or,ne_eq,Decidable.not_not] at hc;simp only[QKO,decide_eq_true_eq] at h;have h1:=Qk1 h.1;refine ⟨fun c hc'=>?_,by omega,by omega⟩
   rw[<- QLX 2 r,hc.2] at hc';rcases QK0.1 hc' with hc' | hc'
   ·simp_all
   ·exact h1 c hc'
theorem Z7 (r:W):(QQ r).length=r.length+4:=by simp[QQ,two]
end Go.Bk
namespace Go.Bk
open Go Go.Ev Go.Proofs Go.RowKit Go.Proofs.Tryz
variable {K:World->Prop} (hK:∀ w w',K w->Below w.heap.size w w'->K w')
open Go.Pf (Gd c19_ok c227_ok c228_ok c25_ok c57_ok c58_ok)
set_option maxRecDepth 8000
include hK
theorem qu (s:W) (h:s.length=2):Gd K 228 [.str s] (.int .i64 (dg s)):=by
 refine Qb hK c228_ok (by simp) ?_
 match s,h with
 | [a,b],_ =>
   have ha:=Qhp a;have hb:=Qhp b;simp[dg,QvL];omega
theorem QBC (s:W) (hs:s.length<=1000000):Gd K 19 [.str s] (.bool (tx s)):=by
 refine Qb hK c19_ok (by simp) ?_
 simp;refine Ql (fun i=>[(0,AV.iv (IV.str s)),(3,AV.iv (IV.int IntKind.i64 (i:Nat)))]) (fun _=>[]) s.length (fun i=>(s.take i).all (fun c=>decide (32<=c.toNat)&&decide (c.toNat<=126))=true) (by simp) ?_ ?_
 ·intro h
  rw[Qa Go.Pf.c19_b0.eq_1];rw[QKX] at h;simp[tx,h];omega
 ·intro i hi h ih
  have hc:=Qhp s[i];rw[Qa Go.Pf.c19_b0.eq_1];by_cases h1:32<=s[i].toNat
  ·by_cases h2:s[i].toNat<=126
   ·have:=ih (Qe4 hi h (by simp[h1,h2]))
    simp[hi] at this |-
    repeat' (first | omega | assumption | intro _ | apply And.intro)
   have e:=qe (p:=fun c:UInt8=>decide (32<=c.toNat)&&decide (c.toNat<=126)) hi (by simp[h2])
   simp[hi,tx,e];omega
  ·have e:=qe (p:=fun c:UInt8=>decide (32<=c.toNat)&&decide (c.toNat<=126)) hi (by simp[h1])
   simp[hi,tx,e];omega
theorem Qup (s:W) (hs:s.length<=1000000):Gd K 25 [.str s] (.bool (tx s)):=by
 refine Qb hK c25_ok (by simp) ?_
 simp;refine Ql (fun i=>[(0,AV.iv (IV.str s)),(6,AV.yn 6)]) (fun i=>[(6,AO.siter s i)]) s.length (fun i=>(s.take i).all (fun c=>decide (32<=c.toNat)&&decide (c.toNat<=126))=true) (by simp) ?_ ?_
 ·intro h
  rw[Qa Go.Pf.c25_b0.eq_1];rw[QKX] at h;simp[tx,h];omega
 ·intro i hi h ih
  have hc:=Qhp s[i];rw[Qa Go.Pf.c25_b0.eq_1];by_cases h0:s[i].toNat<128
  ·have hd:=Qx3 s i hi h0
   by_cases h1:32<=s[i].toNat
   ·by_cases h2:s[i].toNat<=126
    ·have:=ih (Qe4 hi h (by simp[h1,h2]))
     simp[hi,hd] at this |-
     repeat' (first | omega | assumption | intro _ | apply And.intro)
    have e:=qe (p:=fun c:UInt8=>decide (32<=c.toNat)&&decide (c.toNat<=126)) hi (by simp[h2])
    simp[hi,hd,tx,e];omega
   have e:=qe (p:=fun c:UInt8=>decide (32<=c.toNat)&&decide (c.toNat<=126)) hi (by simp[h1])
   simp[hi,hd,tx,e];omega
  ·have hd:=Qx4 s i hi (by omega)
   have e:=qe (p:=fun c:UInt8=>decide (32<=c.toNat)&&decide (c.toNat<=126)) hi (by simp;omega)
   simp[hi,tx,e];omega
theorem Quj (s:W) (hs:s.length<=100000):Gd K 57 [.str s] (.xg [.int .i64 ((S1 s).tmod 97),.int .i64 ((S2 1 s).tmod 97)]):=by
 refine Qb hK c57_ok (by simp) ?_
 simp;refine Xe (fun i=>[(0,AV.iv (IV.str s)),(2,AV.iv (IV.int IntKind.i64 (S1 (s.take i)))),(3,AV.iv (IV.int IntKind.i64 (S2 1 (s.take i)))),(7,AV.iv (IV.int IntKind.i64 (s.length:Nat))),(8,AV.iv (IV.int IntKind.i64 (i:Nat)))]) (fun _=>[]) s.length ?_ ?_
 ·rw[Qa Go.Pf.c57_b0.eq_1]
  simp
 ·intro i hi ih
  obtain ⟨e1,e2⟩:=QCA s i hi;have r1:=QtE (s.take (i+1));have r2:=QtD (s.take (i+1)) 1 (by simp;omega)
  have q1:((s.take (i+1)).length:Int)<=100000:=by simp;omega
  obtain ⟨r3,r4⟩:=QdR s[i];have q2:v1 s[i]*((i:Int)+1)<=223*((i:Int)+1):=QLc r4 (by omega)
  have q3 : -32*((i:Int)+1)<=v1 s[i]*((i:Int)+1):=QLc r3 (by omega)
  rw[Qa Go.Pf.c57_b0.eq_1];rw[e1,e2] at ih;rw[e1] at r1;rw[e2] at r2;have ev:((s[i].toNat:Int)-32)=v1 s[i]:=rfl;simp[hi,ev] at ih |-
  repeat' (first | omega | assumption | intro _ | apply And.intro)
theorem QkL (n:Nat) (hn:n<100):Gd K 58 [.int .i64 (n:Nat)] (.str (two n)):=by
 refine Qb hK c58_ok (by simp) ?_
 have h1:((n:Int)).tdiv 10=(n:Int) / 10:=QLD (by omega)
 have h2:((n:Int)).tmod 10=(n:Int) % 10:=QLR (by omega)
 have w1:IntKind.i32.wrap (48+(n:Int) / 10)=48+(n:Int) / 10:=Qj0 (by omega) (by omega)
 have w2:IntKind.i32.wrap (48+(n:Int) % 10)=48+(n:Int) % 10:=Qj0 (by omega) (by omega)
 have t1:(48+(n:Int) / 10).toNat=48+n / 10:=by omega
 have t2:(48+(n:Int) % 10).toNat=48+n % 10:=by omega
 simp[h1,h2,two,Yy,W8,w1,w2,t1,t2];omega
theorem Qoi (a b:W) (h:a.length<=b.length) (hb:b.length<=1000000):Gd K 227 [.str a,.str b] (.int .i64 (Xb a b:Nat)):=by
 refine Qb hK c227_ok (by simp) ?_
 simp;refine Xe (fun i=>[(0,AV.iv (IV.str a)),(1,AV.iv (IV.str b)),(5,AV.iv (IV.int IntKind.i64 (Xb (a.take i) b:Nat))),(8,AV.iv (IV.int IntKind.i64 (a.length:Nat))),(9,AV.iv (IV.int IntKind.i64 (i:Nat)))]) (fun _=>[]) a.length ?_ ?_
 ·rw[Qa Go.Pf.c227_b0.eq_1]
  simp
 ·intro i hi ih
  have hi':i<b.length:=by omega
  have e:=QgR a b i hi hi';have l:=Qx0 (a.take i) b;rw[QLF] at l;rw[Qa Go.Pf.c227_b0.eq_1];have hne:=QtL a[i] b[i];by_cases hc:a[i]=b[i]
  ·rw[if_pos hc] at e
   rw[e] at ih;simp[hi,hi',hne,hc] at ih |-
   repeat' (first | omega | assumption | intro _ | apply And.intro)
  ·rw[if_neg hc] at e
   rw[e] at ih;simp[hi,hi',hne,hc] at ih |-
   repeat' (first | omega | assumption | intro _ | apply And.intro)
end Go.Bk
namespace Go.Bk
open Go Go.Ev Go.Proofs Go.RowKit Go.Proofs.Tryz
variable {K:World->Prop} (hK:∀ w w',K w->Below w.heap.size w w'->K w')
open Go.Pf (Gd c226_ok c26_ok c56_ok)
set_option maxRecDepth 8000
theorem Wu {a:UInt8} (h:QvL a=true):48<=a.toNat/\a.toNat<=57:=by simpa[QvL] using h
theorem QtM {s:W} (h:0<=dg s):two (dg s).toNat=s:=by
 match s with
 | []=>simp[dg] at h
 | [a]=>simp[dg] at h
 | [a,b] =>
   simp only[dg] at h |-;split at h
   ·rename_i hd
    simp only[QKO] at hd;obtain ⟨h1,h2⟩:=Wu hd.1;obtain ⟨h3,h4⟩:=Wu hd.2;rw[if_pos (by simp[hd])]
    have e:(10*((a.toNat:Int)-48)+((b.toNat:Int)-48)).toNat=10*(a.toNat-48)+(b.toNat-48):=by omega
    rw[e];have e1:48+(10*(a.toNat-48)+(b.toNat-48)) / 10=a.toNat:=by omega
    have e2:48+(10*(a.toNat-48)+(b.toNat-48)) % 10=b.toNat:=by omega
    simp only[two,e1,e2,UInt8.ofNat_toNat]
   omega
 | a::b::c::s=>simp[dg] at h
theorem QEB (s:W):dg s<100 /\ -1<=dg s:=by
 match s with
 | []=>simp[dg]
 | [a]=>simp[dg]
 | [a,b] =>
   simp only[dg];split
   ·rename_i hd
    simp only[QKO] at hd;obtain ⟨h1,h2⟩:=Wu hd.1;obtain ⟨h3,h4⟩:=Wu hd.2;omega
   omega
 | a::b::c::s=>simp[dg]
theorem Qcc {n:Nat} (h:n<100):dg (two n)=n:=by
 have e1:(UInt8.ofNat (48+n / 10)).toNat=48+n / 10:=by simp only[UInt8.toNat_ofNat'];omega
 have e2:(UInt8.ofNat (48+n % 10)).toNat=48+n % 10:=by simp only[UInt8.toNat_ofNat'];omega
 simp only[two,dg,QvL,e1,e2];rw[if_pos (by simp;omega)]
 omega
def Qn (s:W):(Int × W × Bool) × Bool :=
 if s.length<2 then ((0,[],false),false)
 else if s.take 2=[46,46] then
  (if s.length=4 then ((dg (s.drop 2),[],true),decide (0<=dg (s.drop 2))&&decide (dg (s.drop 2)<=40)) else ((0,[],false),false))
 else ((dg (s.take 2),s.drop 2,false),decide (0<=dg (s.take 2))&&decide (dg (s.take 2)<40)&&tx (s.drop 2))
def Ve (n:Nat) (t:W) (c:Bool):W:=if c then [46,46]++two n else two n++t
@[simp] def QAK (p:Int × W × Bool):IV:=.agg [.int .i64 p.1,.str p.2.1,.bool p.2.2]
theorem JV {s:W} (hp:s.take 2=[46,46]) (h4:s.length=4):Qn s=((dg (s.drop 2),[],true),decide (0<=dg (s.drop 2))&&decide (dg (s.drop 2)<=40)):=by
 unfold Qn;simp_all
theorem VA {s:W} (h2:¬ s.length<2) (hp:s.take 2=[46,46]) (h4:s.length≠4):Qn s=((0,[],false),false):=by
 unfold Qn;simp_all
theorem V9 {s:W} (h2:¬ s.length<2) (hp:s.take 2≠[46,46]):Qn s=((dg (s.take 2),s.drop 2,false),decide (0<=dg (s.take 2))&&decide (dg (s.take 2)<40)&&tx (s.drop 2)):=by
 unfold Qn;rw[if_neg h2,if_neg hp]
theorem UH {s:W} (h2:s.length<2):Qn s=((0,[],false),false):=by
 unfold Qn;rw[if_pos h2]
theorem Vz (s:W):(Qn s).2=YV s:=by
 unfold YV;by_cases h2:s.length<2
 ·have h4:s.length≠4:=by omega
  rw[UH h2];simp[numOf,Vg,h2,h4]
 by_cases hp:s.take 2=[46,46]
 ·have hd:dg (s.take 2) = -1:=by rw[hp];decide
  have hn:(numOf s).2.2=false:=by
   unfold numOf;split
   all_goals simp_all
  by_cases h4:s.length=4
  ·rw[JV hp h4,hn]
   simp[Vg,h4,hp]
  rw[VA h2 hp h4,hn];simp[Vg,h4]
 rw[V9 h2 hp];have hm:(Vg s).2=false:=by simp[Vg,hp]
 rw[hm];by_cases hx:tx (s.drop 2)=true
 ·simp[numOf,hx,h2]
 simp[numOf,hx]
theorem QfY {s:W} (h:YV s=true):0<=(Qn s).1.1/\(Qn s).1.1<=40/\Ve (Qn s).1.1.toNat (Qn s).1.2.1 (Qn s).1.2.2=s:=by
 rw[<- Vz] at h;by_cases h2:s.length<2
 ·rw[UH h2] at h;cases h
 ·by_cases hp:s.take 2=[46,46]
  ·by_cases h4:s.length=4
   ·rw[JV hp h4] at h |-
    simp only[QKO,decide_eq_true_eq] at h;refine ⟨h.1,h.2,?_⟩;simp only[Ve,if_true,QtM h.1];rw[<- hp,QLX]
   rw[VA h2 hp h4] at h;cases h
  ·rw[V9 h2 hp] at h |-
   simp only[QKO,decide_eq_true_eq] at h;refine ⟨h.1.1,by grind,?_⟩
   simp only[Ve,QLh,if_false,QtM h.1.1,QLX]
theorem QhJ {l:W} (h:l.length<6):Y4 l=none:=by unfold Y4;rw[if_pos h]
theorem qa {l r:W} (h:¬ l.length<6) (hr:l.take (l.length-4)=r) (hf:fits l r=true):Y4 l=some r:=by
 subst hr;unfold Y4;grind
theorem Qc3 {l r:W} (h:¬ l.length<6) (hr:l.take (l.length-4)=r) (hf:fits l r=false) (hd:dg ((l.drop (l.length-4)).take 2)<0):Y4 l=none:=by
 subst hr;unfold Y4;grind
theorem Jx {l r:W} {want:Int} (h:¬ l.length<6) (hr:l.take (l.length-4)=r) (hf:fits l r=false) (hw:dg ((l.drop (l.length-4)).take 2)=want) (hd:¬ want<0) :
  Y4 l=((List.range r.length).find? fun i=>fits l (fix want r i)).map fun i=>fix want r i:=by
 subst hr hw;unfold Y4;grind
theorem QxK {p:Nat->Bool} {n i:Nat} (hi:i<n) (h:∀ j,j<i->p j=false) (hp:p i=true):(List.range n).find? p=some i:=by
 simp_all
theorem QeH {p:Nat->Bool} {n:Nat} (h:∀ j,j<n->p j=false):(List.range n).find? p=none:=by
 grind
theorem Ql2 (want:Int) (r:W) (i:Nat):0<=Qmy want r i/\Qmy want r i<97:=by
 unfold Qmy;generalize want-_=x;have h1:=QMF x (show (0:Int)<97 by omega)
 have h2 : -97<x.tmod 97:=by
  grind
 rw[QLR (by omega)]
 omega
theorem QoD (want:Int) (r:W) (i:Nat) (h:i<r.length):(fix want r i).length=r.length:=by
 simp[fix];omega
include hK
theorem QBi (n:Nat) (t:W) (c:Bool) (hn:n<100) (ht:t.length<=1000000):Gd K 56 [QAK ((n:Nat),t,c)] (.str (Ve n t c)):=by
 refine Qb hK c56_ok (by simp) ?_
 have la:(two n).length=2:=rfl;cases c with
 | true =>
   simp;refine Qf (QkL hK n hn) (by simp) ?_
   simp[la,Ve]
 | false =>
   simp;refine Qf (QkL hK n hn) (by simp) ?_
   simp[la,Ve];omega
theorem Qod (n:Nat) (t:W) (c:Bool) (hn:n<100) (h:plain (Ve n t c)) (hl:(Ve n t c).length<=1000) (ht:t.length<=1000):Gd K 26 [QAK ((n:Nat),t,c)] (.str (QQ (Ve n t c))):=by
 refine Qb hK c26_ok (by simp) ?_
 have g58:=QBi hK n t c hn (by omega)
 simp at g58 |-;refine Qf g58 (by simp) ?_
 generalize Ve n t c=r at *;simp;refine Qf (Quj hK r (by omega)) (by simp) ?_
 simp;have e1:(S1 r).tmod 97=((S1 r % 97).toNat:Nat):=by rw[QLR (Qqv h)];omega
 have e2:(S2 1 r).tmod 97=((S2 1 r % 97).toNat:Nat):=by rw[QLR (QCB h 1)];omega
 rw[e1,e2];have el:QQ r=r++two (S1 r % 97).toNat++two (S2 1 r % 97).toNat:=rfl;rw[el];have h1:(S1 r % 97).toNat<100:=by omega
 have h2:(S2 1 r % 97).toNat<100:=by omega
 generalize (S1 r % 97).toNat=a at *;generalize (S2 1 r % 97).toNat=b at *;refine Qf (QkL hK a h1) (by simp) ?_
 have la:(two a).length=2:=rfl;have lb:(two b).length=2:=rfl;simp[la];refine ⟨by omega,Qf (QkL hK b h2) (by simp) ?_⟩
 simp[la,lb];omega
theorem Qoj (s:W) (h:s.length<=1000000):Gd K 226 [.str s] (.xg [QAK (Qn s).1,.bool (Qn s).2]):=by
 refine Qb hK c226_ok (by simp) ?_
 by_cases h2:s.length<2
 ·have hi:((s.length:Int)<2):=by omega
  rw[UH h2];simp[hi]
 ·have hi:¬ ((s.length:Int)<2):=by omega
  have hi':(2:Int)<=(s.length:Int):=by omega
  by_cases hp:s.take 2=[46,46]
  ·by_cases h4:s.length=4
   ·have hi4:((s.length-2:Nat):Int)=2:=by omega
    rw[JV hp h4];simp[hi,hi',hp,hi4];refine Qf (qu hK (s.drop 2) (by simp;omega)) (by simp) ?_
    by_cases hd:0<=dg (s.drop 2)<;>simp[hd]
   have hi4:¬ ((s.length-2:Nat):Int)=2:=by omega
   rw[VA h2 hp h4];simp[hi,hi',hp,hi4]
  ·rw[V9 h2 hp]
   simp[hi,hi',hp];refine Qf (qu hK (s.take 2) (by simp;omega)) (by simp) ?_
   by_cases hd:0<=dg (s.take 2)
   ·by_cases hd4:dg (s.take 2)<40
    ·simp[hd,hd4]
     refine Qf (Qup hK (s.drop 2) (by simp;omega)) (by simp) ?_
     simp
    simp[hd,hd4]
   ·simp[hd]
end Go.Bk
namespace Go.Bk
open Go Go.Ev Go.Proofs Go.RowKit Go.Proofs.Tryz
variable {K:World->Prop} (hK:∀ w w',K w->Below w.heap.size w w'->K w')
open Go.Pf (Gd c139_b0 c139_ok)
set_option maxRecDepth 8000
theorem WJ:∀ (a b:W),Xb a b=Xb b a
 | [],b=>by cases b<;>rfl
 | x::a,[]=>rfl
 | x::a,y::b=>by
   simp only[Xb,WJ a b]
   grind
theorem JI (a:W):Xb a a=0:=by
 induction a with
 | nil=>rfl
 | cons x a ih=>simp[Xb,ih]
theorem YA:∀ (a b c d:W),a.length=b.length->Xb (a++c) (b++d)=Xb a b+Xb c d
 | [],[],c,d,_=>by simp[Xb]
 | x::a,y::b,c,d,h=>by
   simp only[QK1,Xb,YA a b c d (by simpa using h)]
   omega
 | [],y::b,c,d,h=>by simp at h
 | x::a,[],c,d,h=>by simp at h
theorem Xo:∀ (a b:W),a.length=b.length->Xb a b=0->a=b
 | [],[],_,_=>rfl
 | x::a,y::b,h,hd=>by
   simp only[Xb] at hd
   have h1:x=y:=by
    grind
   have h2:=Xo a b (by simpa using h) (by omega)
   rw[h1,h2]
 | [],y::b,h,_=>by simp at h
 | x::a,[],h,_=>by simp at h
theorem QsT (want:Int) (r:W) (i:Nat) (h:i<r.length):Xb r (fix want r i)<=1:=by
 have e:r=r.take i++([r[i]]++r.drop (i+1)):=by simp
 have e2:fix want r i=r.take i++([UInt8.ofNat (32+Qmy want r i).toNat]++r.drop (i+1)):=by simp[fix]
 rw[e2]
 conv=>lhs;arg 1;rw[e]
 rw[YA _ _ _ _ rfl,JI,YA [r[i]] [UInt8.ofNat (32+Qmy want r i).toNat] _ _ rfl,JI];simp only[Xb];split<;>omega
theorem QkT {l r:W} {want:Int} {i:Nat} (h4:4<=l.length) (hr:l.take (l.length-4)=r) (hf:fits l r=false) (hi:i<r.length) :
  fits l (fix want r i)=(YV (fix want r i)&&decide (QQ (fix want r i)=fix want r i++l.drop (l.length-4))):=by
 have hrl:r.length=l.length-4:=by grind
 have hfl:=QoD want r i hi;have hl:l=r++l.drop (l.length-4):=by rw[<- hr];simp
 have hdl:(l.drop (l.length-4)).length=4:=by simp;omega
 generalize hq:fix want r i=q at *;have xd:QQ q=q++(two (S1 q % 97).toNat++two (S2 1 q % 97).toNat):=by simp[QQ]
 generalize hdd:two (S1 q % 97).toNat++two (S2 1 q % 97).toNat=dd at xd;have hddl:dd.length=4:=by rw[<- hdd];rfl
 have hdf:=QsT want r i hi;rw[hq] at hdf;by_cases hrow:YV q=true;rotate_left
 ·have:YV q=false:=by simpa using hrow
  simp[fits,this]
 ·have hlen:l.length=q.length+4:=by omega
  unfold fits;simp only[hrow,hlen,decide_true,Bool.true_and];rw[xd]
  have hd:Xb l (q++dd)=Xb r q+Xb (l.drop (l.length-4)) dd:=by
   conv=>lhs;rw[hl]
   exact YA _ _ _ _ (by omega)
  rw[<- hlen,hd];by_cases heq:dd=l.drop (l.length-4)
  ·rw[<- heq,JI]
   simp;exact hdf
  ·have hne:¬ (q++dd=q++l.drop (l.length-4)):=fun e=>heq (List.append_cancel_left e)
   have h1:Xb (l.drop (l.length-4)) dd≠0:=fun e=>heq (Xo _ _ (by omega) e).symm
   by_cases h2:Xb r q=0
   ·have hrq:=Xo _ _ hfl.symm h2
    rw[hrq] at hf;have:fits l q=decide (Xb l (QQ q)<=1):=by unfold fits;simp only[hrow,hlen,decide_true,Bool.true_and]
    rw[this,xd,hd,h2,decide_eq_false_iff_not] at hf;simp[hne];omega
   ·simp[hne]
    omega
theorem Qbj {l r:W} (h6:¬ l.length<6) (hr:l.take (l.length-4)=r) (hf:fits l r=false) (hw:¬ dg ((l.drop (l.length-4)).take 2)<0) (hz:dg ((l.drop (l.length-4)).drop 2)<0):Y4 l=none:=by
 rw[Jx h6 hr hf rfl hw,QeH]
 ·rfl
 ·intro j hj
  rw[QkT (by omega) hr hf hj]
  generalize fix _ r j=q;by_cases hrow:YV q=true
  ·rw[hrow,Bool.true_and,decide_eq_false_iff_not]
   intro he;have xd:QQ q=q++(two (S1 q % 97).toNat++two (S2 1 q % 97).toNat):=by simp[QQ]
   rw[xd] at he;have he2:=List.append_cancel_left he;rw[<- he2] at hz;have e1:(two (S1 q % 97).toNat++two (S2 1 q % 97).toNat).drop 2=two (S2 1 q % 97).toNat:=rfl;rw[e1,Qcc (by omega)] at hz
   omega
  grind
def XA (l:W):Int × W × Bool:=match Y4 l with
 | some r=>(Qn r).1
 | none=>(0,[],false)
include hK
theorem Qey (r:W) (hrow:YV r=true):Gd K 26 [QAK (Qn r).1] (.str (QQ r)):=by
 obtain ⟨q1,q2,q3⟩:=QfY hrow;obtain ⟨h1,h2,h3⟩:=Jw hrow;generalize hP:(Qn r).1=P at *;obtain ⟨pn,pt,pc⟩:=P;simp only at q1 q2 q3;obtain ⟨m,rfl⟩:∃ m:Nat,pn=m:=⟨pn.toNat,by omega⟩
 rw[QLQ] at q3
 have htl:pt.length<=1000:=by
  have:=congrArg List.length q3;unfold Ve at this;split at this
  ·rename_i hc
   have:pt=[]:=by
    have hP':=hP;unfold Qn at hP'
    repeat' (split at hP')
    all_goals (injection hP' with x1 x2;injection x2 with x2 x3)
    ·exact x2.symm
    ·exact x2.symm
    ·exact x2.symm
    grind
   rw[this];simp
  grind
 have g41:=Qod hK m pt pc (by omega) (by grind) (by rw[q3];omega) htl
 grind
def k62:List AI:=[.inBlock 0,.code (.seq (.ops [⟨some 109,none,.bld [.int .i64 0,.str [],.bool false] []⟩,⟨none,none,.sto 2 3 (.t 2) (.t 109)⟩,⟨some 3,none,.xh (.bool false)⟩] false) .ret)]
theorem Qub (l r:W) (R:Option W) (S:Int × W × Bool) (want:Int) (hl:l.length<=10000) (h6:¬ l.length<6) (hrl:r.length=l.length-4) (hr:l.take (l.length-4)=r) (hf':fits l r=false)
  (hw:dg ((l.drop (l.length-4)).take 2)=want) (hd:¬ want<0) (hR:Y4 l=R) (hS:XA l=S) :
  ZB prog K (FnF (Ya [Y2.cell 2 3 true,Y2.tmp 3] (.xg [.agg [.int .i64 S.1,.str S.2.1,.bool S.2.2],.bool R.isSome]))) c139_b0 [0,2,4,7,60,61] [2] k62
   [(0,.iv (.str l)),(2,.loc 2 0),(4,.iv (.str r)),(7,.iv (.int .i64 want)),(60,.iv (.int .i64 (r.length:Nat))),(61,.iv (.int .i64 0))]
   [(2,.box [.iv (.int .i64 0),.iv (.str []),.iv (.bool false)])]:=by
 rw[Jx h6 hr hf' hw hd] at hR;have hwr:=QEB ((l.drop (l.length-4)).take 2);rw[hw] at hwr;refine Ql (fun i=>[(0,AV.iv (.str l)),(2,.loc 2 0),(4,.iv (.str r)),(7,.iv (.int .i64 want)),(60,.iv (.int .i64 (r.length:Nat))),(61,.iv (.int .i64 (i:Nat)))]) (fun _=>[(2,AO.box [.iv (.int .i64 0),.iv (.str []),.iv (.bool false)])]) r.length (fun i=>∀ j,j<i->fits l (fix want r j)=false) (by simp) ?_ ?_
 ·intro hq
  rw[Qa Go.Pf.c139_b0.eq_1];rw[QeH hq] at hR
  have hS':XA l=(0,[],false):=by
   unfold XA;rw[Jx h6 hr hf' hw hd,QeH hq];rfl
  rw[hS'] at hS;subst hR hS;simp[k62]
 ·intro i hi hq ih
  have hir:(i:Int)<(r.length:Int):=by omega
  rw[Qa Go.Pf.c139_b0.eq_1];have hfl:=QoD want r i hi;have hfr:=Ql2 want r i;have hset:r.set i 32=r.take i++[32]++r.drop (i+1):=by rw[List.set_eq_take_append_cons_drop,if_pos hi];simp
  have hfixv:Qmy want r i=((want-(S1 (r.set i 32)).tmod 97).tmod 97+97).tmod 97:=by rw[hset];rfl
  have hfix:r.set i (UInt8.ofNat (32+Qmy want r i).toNat)=fix want r i:=by rw[List.set_eq_take_append_cons_drop,if_pos hi];simp[fix]
  have g59:=Quj hK (r.set i 32) (by simp;omega)
  generalize hs2:(S2 1 (r.set i 32)).tmod 97=s2 at *;generalize hs1:(S1 (r.set i 32)).tmod 97=s1 at *
  have hs1a : -97<s1/\s1<97:=by
   rw[<- hs1]
   exact ⟨by
    have:=QMF (-(S1 (r.set i 32))) (show (0:Int)<97 by omega)
    rw[Int.neg_tmod] at this;omega,QMF _ (by omega)⟩
  have hm : -97<(want-s1).tmod 97/\(want-s1).tmod 97<97:=⟨by
    have:=QMF (-(want-s1)) (show (0:Int)<97 by omega)
    rw[Int.neg_tmod] at this;omega,QMF _ (by omega)⟩
  have hw8:IntKind.u8.wrap (Qmy want r i)=Qmy want r i:=QuO (by omega) (by omega)
  simp[hi,hir];refine ⟨by omega,Qf g59 (by simp) ?_⟩
  simp[hi,<- hfixv,hw8,hfix]
  repeat' (first | omega | apply And.intro)
  have g72:=Qoj hK (fix want r i) (by omega)
  simp at g72;refine Qf g72 (by simp) ?_
  rw[Vz];have hfx:=QkT (want:=want) (by omega) hr hf' hi
  have hdl:((r.length:Int)).toNat=l.length-4:=by omega
  have hfd:(l.drop (l.length-4)).length=4:=by simp;omega
  by_cases hrow:YV (fix want r i)=true;rotate_left
  ·have hrow':YV (fix want r i)=false:=by simpa using hrow
   rw[hrow'] at hfx;simp only[Bool.false_and] at hfx
   have:=ih (fun j hj=>by
    rcases QMD.1 hj with h | h
    ·exact hq j h
    subst h;exact hfx)
   simp[hrow'] at this |-;exact ⟨by omega,this⟩
  ·have g41:=Qey hK (fix want r i) hrow
   simp at g41;simp[hrow];refine Qf g41 (by simp) ?_
   simp[hrl];rw[hrow,Bool.true_and] at hfx;refine ⟨by omega,fun hE=>?_,fun hE=>⟨by omega,?_⟩⟩
   ·have hfi:fits l (fix want r i)=true:=by rw[hfx];simp[hE]
    have hfd':=Jx h6 hr hf' hw hd;rw[QxK hi hq hfi] at hR hfd'
    have hS':XA l=(Qn (fix want r i)).1:=by
     unfold XA;rw[hfd'];rfl
    rw[hS'] at hS;subst hR hS;simp
   ·have:=ih (fun j hj=>by
     rcases QMD.1 hj with h | h
     ·exact hq j h
     subst h;rw[hfx];simp[hE])
    simp[hrl] at this;exact this
theorem Qxg (l:W) (hl:l.length<=10000):Gd K 139 [.str l] (.xg [QAK (XA l),.bool (Y4 l).isSome]):=by
 refine Qb hK c139_ok (by simp) ?_
 by_cases h6:l.length<6
 ·have hi:((l.length:Int)<6):=by omega
  have e:=QhJ h6;simp[hi,XA,e]
 have hi:¬ ((l.length:Int)<6):=by omega
 have hn:((l.length:Int)-4).toNat=l.length-4:=by omega
 generalize hR:Y4 l=R;generalize hS:XA l=S;simp[hi,hn];refine ⟨by omega,by omega,?_⟩
 have hrl:(l.take (l.length-4)).length=l.length-4:=by simp
 generalize hr:l.take (l.length-4)=r at hrl;have g72:=Qoj hK r (by omega)
 simp at g72;refine Qf g72 (by simp) ?_
 rw[Vz]
 have e2:List.drop r.length (List.take ((r.length:Int)+2).toNat l)=(l.drop (l.length-4)).take 2:=by
  rw[show ((r.length:Int)+2).toNat=(l.length-4)+2 by omega,hrl,List.drop_take]
  simp_all
 have e3:List.drop ((r.length:Int)+2).toNat l=(l.drop (l.length-4)).drop 2:=by
  rw[show ((r.length:Int)+2).toNat=(l.length-4)+2 by omega,List.drop_drop]
 have xd:=Z7 r;by_cases hf:fits l r=true
 ·have hrow:YV r=true:=by
   simp only[fits,QKO] at hf;exact hf.1.1
  have hdf:Xb (QQ r) l<=1:=by
   simp only[fits,QKO,decide_eq_true_eq] at hf;rw[WJ];exact hf.2
  rw[qa h6 hr hf] at hR;have hS':XA l=(Qn r).1:=by unfold XA;rw[qa h6 hr hf]
  rw[hS'] at hS;subst hR hS;have g41:=Qey hK r hrow;simp at g41;simp[hrow];refine Qf g41 (by simp) ?_
  simp;refine Qf (Qoi hK (QQ r) l (by omega) (by omega)) (by simp) ?_
  have hdi:((Xb (QQ r) l:Nat):Int)<=1:=by omega
  simp[hdi]
 have hf':fits l r=false:=by simpa using hf
 have hwl:((l.drop (l.length-4)).take 2).length=2:=by simp;omega
 have hzl:((l.drop (l.length-4)).drop 2).length=2:=by simp;omega
 generalize hwt:(l.drop (l.length-4)).take 2=wt at *;generalize hzt:(l.drop (l.length-4)).drop 2=zt at *;by_cases hrow:YV r=true
 ·have hdi:¬ ((Xb (QQ r) l:Nat):Int)<=1:=by
   have hlen:l.length=r.length+4:=by omega
   have:fits l r=decide (Xb l (QQ r)<=1):=by unfold fits;simp only[hrow,hlen,decide_true,Bool.true_and]
   rw[this,decide_eq_false_iff_not,WJ] at hf';omega
  have g41:=Qey hK r hrow;simp at g41;simp[hrow];refine Qf g41 (by simp) ?_
  simp;refine Qf (Qoi hK (QQ r) l (by omega) (by omega)) (by simp) ?_
  simp[hdi,e2,e3];refine ⟨by omega,by omega,Qf (qu hK wt hwl) (by simp) ?_⟩
  simp[e3];refine ⟨by omega,by omega,Qf (qu hK zt hzl) (by simp) ?_⟩
  simp;refine ⟨fun h0=>⟨fun hz=>?_,fun _=>Qub hK l r R S (dg wt) hl h6 hrl hr hf' (by rw[hwt]) (by omega) hR hS⟩,fun hneg=>?_⟩
  ·have e:=Qbj h6 hr hf' (by rw[hwt];omega) (by rw[hzt];exact hz)
   have hS':XA l=(0,[],false):=by unfold XA;rw[e]
   rw[e] at hR;rw[hS'] at hS;subst hR hS;simp
  have e:=Qc3 h6 hr hf' (by rw[hwt];exact hneg)
  have hS':XA l=(0,[],false):=by unfold XA;rw[e]
  rw[e] at hR;rw[hS'] at hS;subst hR hS;simp
 simp[hrow,e2];refine ⟨by omega,by omega,Qf (qu hK wt hwl) (by simp) ?_⟩
 simp[e3];refine ⟨by omega,by omega,Qf (qu hK zt hzl) (by simp) ?_⟩
 simp;refine ⟨fun h0=>⟨fun hz=>?_,fun _=>Qub hK l r R S (dg wt) hl h6 hrl hr hf' (by rw[hwt]) (by omega) hR hS⟩,fun hneg=>?_⟩
 ·have e:=Qbj h6 hr hf' (by rw[hwt];omega) (by rw[hzt];exact hz)
  have hS':XA l=(0,[],false):=by unfold XA;rw[e]
  rw[e] at hR;rw[hS'] at hS;subst hR hS;simp
 have e:=Qc3 h6 hr hf' (by rw[hwt];exact hneg)
 have hS':XA l=(0,[],false):=by unfold XA;rw[e]
 rw[e] at hR;rw[hS'] at hS;subst hR hS;simp
end Go.Bk
namespace Go.Bk
open Go Go.Ev Go.Proofs Go.RowKit Go.Proofs.Tryz
variable {K:World->Prop} (hK:∀ w w',K w->Below w.heap.size w w'->K w')
set_option maxRecDepth 8000
theorem Qk0:∀ (a b c:W),a.length=b.length->b.length=c.length->Xb a c<=Xb a b+Xb b c
 | [],[],[],_,_=>by simp[Xb]
 | x::a,y::b,z::c,h,h'=>by
   have:=Qk0 a b c (by simpa using h) (by simpa using h')
   simp only[Xb]
   grind
 | [],y::b,_,h,_=>by simp at h
 | x::a,[],_,h,_=>by simp at h
 | x::a,y::b,[],_,h=>by simp at h
 | [],[],z::c,_,h=>by simp at h
theorem Uh:∀ (r q:W) (k:Nat),r.length=q.length->Xb r q=k+1->∃ a x y b b',r=a++x::b/\q=a++y::b'/\x≠y/\b.length=b'.length/\Xb b b'=k
 | [],[],k,_,h=>by simp[Xb] at h
 | x::r,y::q,k,h,hd=>by
   by_cases hxy:x=y
   ·subst hxy
    simp only[Xb,if_true,QLb] at hd;obtain ⟨a,u,v,b,b',h1,h2,h3,h4,h5⟩:=Uh r q k (by simpa using h) hd
    exact ⟨x::a,u,v,b,b',by rw[h1];rfl,by rw[h2];rfl,h3,h4,h5⟩
   simp only[Xb,if_neg hxy] at hd;exact ⟨[],x,y,r,q,rfl,rfl,hxy,by simpa using h,by omega⟩
 | [],y::q,k,h,_=>by simp at h
 | x::r,[],k,h,_=>by simp at h
theorem p97:∀ a,a<97->∀ m,m<97->a*m % 97=0->a=0\/m=0:=by decide +kernel
theorem QFv (d m:Int) (hd:d.natAbs<97) (hm:m.natAbs<97) (h:(d*m) % 97=0):d=0\/m=0:=by
 have h1:(d*m).natAbs % 97=0:=by omega
 rw[Int.natAbs_mul] at h1;rcases p97 _ hd _ hm h1 with h | h
 all_goals simp_all
theorem QAR (d d' m1 m2:Int) (h1:(d+d') % 97=0) (h2:(d*m1+d'*(m1+m2)) % 97=0):(d*m2) % 97=0:=by
 obtain ⟨u,hu⟩:∃ u,d'=97*u-d:=⟨(d+d') / 97,by omega⟩
 have e:d*m1+d'*(m1+m2)=97*(u*(m1+m2))-d*m2:=by
  grind
 omega
theorem U1 {c:UInt8} (h:32<=c.toNat/\c.toNat<=126):0<=v1 c/\v1 c<=94:=by simp only[v1];omega
theorem Qz9 {x y:UInt8} (h:x≠y):v1 x-v1 y≠0:=by
 intro e;apply h;rw[<- QtL];simp only[v1] at e;omega
theorem QuU {m n:Nat} (hm:m<100) (hn:n<100) (h:two m=two n):m=n:=by
 have:=congrArg dg h;rw[Qcc hm,Qcc hn] at this;omega
theorem QaB {m n:Nat} (hm:m<100) (hn:n<100) (h:m≠n):1<=Xb (two m) (two n):=by
 rcases QMi (Xb (two m) (two n)) with h0 | h0
 ·exact absurd (QuU hm hn (Xo _ _ rfl h0)) h
 ·exact h0
theorem Qpl (r q:W) (h:r.length=q.length):Xb (QQ r) (QQ q)=Xb r q+Xb (two (S1 r % 97).toNat) (two (S1 q % 97).toNat)+Xb (two (S2 1 r % 97).toNat) (two (S2 1 q % 97).toNat):=by
 simp only[QQ,QLz];rw[YA r q _ _ h,YA (two (S1 r % 97).toNat) (two (S1 q % 97).toNat) _ _ rfl];omega
theorem QrZ {r q:W} (hr:plain r) (hq:plain q) (hl:r.length=q.length) (hn:r.length<=62) (hne:r≠q):3<=Xb (QQ r) (QQ q):=by
 rw[Qpl r q hl];rcases QL2 (Xb r q) 3 with h3 | h3;rotate_left
 ·omega
 ·rcases QMi (Xb r q) with h0 | h0
  ·exact absurd (Xo _ _ hl h0) hne
  ·obtain ⟨k,hk⟩:∃ k,Xb r q=k+1:=⟨Xb r q-1,by omega⟩
   obtain ⟨a,x,y,b,b',e1,e2,hxy,hbl,hd⟩:=Uh r q k hl hk;have px:=U1 (hr x (by rw[e1];simp))
   have py:=U1 (hq y (by rw[e2];simp))
   have hd0:=Qz9 hxy;have hal:a.length+1+b.length<=62:=by rw[e1] at hn;simp at hn;omega
   have s1:S1 r-S1 q=v1 x-v1 y+(S1 b-S1 b'):=by
    rw[e1,e2,Qcu,Qcu];simp only[S1];omega
   have s2:S2 1 r-S2 1 q=(v1 x-v1 y)*((1+a.length:Nat):Int)+(S2 (1+a.length+1) b-S2 (1+a.length+1) b'):=by
    rw[e1,e2,Qg9,Qg9];simp only[S2,Int.sub_mul];omega
   rcases QMi k with hk0 | hk0
   ·subst hk0
    have hb:=Xo _ _ hbl hd;subst hb;have n1:(S1 r % 97).toNat≠(S1 q % 97).toNat:=by omega
    have n2:(S2 1 r % 97).toNat≠(S2 1 q % 97).toNat:=by
     intro e;have:((v1 x-v1 y)*((1+a.length:Nat):Int)) % 97=0:=by omega
     rcases QFv _ _ (by omega) (by omega) this with h | h<;>omega
    have:=QaB (by omega) (by omega) n1
    have:=QaB (by omega) (by omega) n2
    omega
   ·have hk1:k=1:=by omega
    subst hk1;obtain ⟨a',x',y',c,c',f1,f2,hxy',hcl,hd'⟩:=Uh b b' 0 hbl hd;have hc:=Xo _ _ hcl hd';subst hc;have px':=U1 (hr x' (by rw[e1,f1];simp))
    have py':=U1 (hq y' (by rw[e2,f2];simp))
    have hd0':=Qz9 hxy';have hal':a.length+1+a'.length+1<=62:=by rw[f1] at hal;simp at hal;omega
    have s1':S1 b-S1 b'=v1 x'-v1 y':=by
     rw[f1,f2,Qcu,Qcu];simp only[S1];omega
    have s2':S2 (1+a.length+1) b-S2 (1+a.length+1) b'=(v1 x'-v1 y')*((1+a.length+1+a'.length:Nat):Int):=by
     rw[f1,f2,Qg9,Qg9];simp only[S2,Int.sub_mul];omega
    rw[s1'] at s1;rw[s2'] at s2;by_cases m1:(S1 r % 97).toNat=(S1 q % 97).toNat
    ·have n2:(S2 1 r % 97).toNat≠(S2 1 q % 97).toNat:=by
      intro e
      have hz:((v1 x-v1 y)*((1+a'.length:Nat):Int)) % 97=0:=by
       refine QAR _ (v1 x'-v1 y') ((1+a.length:Nat):Int) _ (by omega) ?_
       have e6:((1+a.length+1+a'.length:Nat):Int)=((1+a.length:Nat):Int)+((1+a'.length:Nat):Int):=by omega
       rw[e6] at s2;omega
      rcases QFv _ _ (by omega) (by omega) hz with h | h<;>omega
     have:=QaB (by omega) (by omega) n2
     omega
    ·have:=QaB (by omega) (by omega) m1
     omega
theorem Qb5 {l r:W} (h:fits l r=true):YV r=true/\l.length=r.length+4/\Xb l (QQ r)<=1:=by
 simp only[fits,QKO,decide_eq_true_eq] at h
 grind
theorem QxI {l r:W} (h1:YV r=true) (h2:l.length=r.length+4) (h3:Xb l (QQ r)<=1):fits l r=true:=by
 simp[fits,h1,h2,h3]
theorem Qb4 {l r q:W} (h:fits l r=true) (h':fits l q=true):r=q:=by
 obtain ⟨a1,a2,a3⟩:=Qb5 h;obtain ⟨b1,b2,b3⟩:=Qb5 h';obtain ⟨p1,p2,_⟩:=Jw a1;obtain ⟨p3,_,_⟩:=Jw b1;by_cases hne:r=q
 ·exact hne
 ·have:=QrZ p1 p3 (by omega) p2 hne
  have:=Qk0 (QQ r) l (QQ q) (by rw[Z7];omega) (by rw[Z7];omega)
  rw[WJ (QQ r) l] at this;omega
theorem QqQ {x:Int} (h1 : -97<x) (h2:x<97):x.tmod 97=x:=by
 grind
theorem QrW {a b:W} {x y:UInt8} (hp:plain (a++x::b)):fix (S1 (a++x::b) % 97) (a++y::b) a.length=a++x::b:=by
 have pa:plain a:=fun c hc=>hp c (by simp[hc])
 have pb:plain b:=fun c hc=>hp c (by simp[hc])
 have px:=U1 (hp x (by simp))
 have na:=Qqv pa;have nb:=Qqv pb
 have e:Qmy (S1 (a++x::b) % 97) (a++y::b) a.length=v1 x:=by
  unfold Qmy;have e1:(a++y::b).take a.length++[32]++(a++y::b).drop (a.length+1)=a++([32]++b):=by simp
  have e3:S1 ((32:UInt8)::b)=S1 b:=by simp[S1,v1]
  rw[e1,Qcu,Qcu,show ([32]:W)++b=32::b from rfl,e3]
  have e2:S1 (x::b)=v1 x+S1 b:=rfl;have t1:(S1 a+S1 b).tmod 97=(S1 a+S1 b) % 97:=QLR (by omega)
  rw[e2,t1];generalize hX:(S1 a+(v1 x+S1 b)) % 97-(S1 a+S1 b) % 97=X;rw[QqQ (x:=X) (by omega) (by omega),QLR (show 0<=X+97 by omega)]
  omega
 unfold fix;rw[e]
 have:UInt8.ofNat (32+v1 x).toNat=x:=by
  have e3:(32+v1 x).toNat=x.toNat:=by simp only[v1] at *;omega
  simp_all
 rw[this];simp
theorem Qd7 {l r:W} (h:fits l r=true):Y4 l=some r:=by
 obtain ⟨a1,a2,a3⟩:=Qb5 h;obtain ⟨p1,p2,p3⟩:=Jw a1;have h6:¬ l.length<6:=by omega
 cases hf:fits l (l.take (l.length-4)) with
 | true=>rw[qa h6 rfl hf,Qb4 hf h]
 | false =>
   generalize ht:l.take (l.length-4)=t at *;have htl:t.length=r.length:=by grind
   have hl:l=t++l.drop (l.length-4):=by rw[<- ht];simp
   have hdl:(l.drop (l.length-4)).length=4:=by simp;omega
   have hd:Xb l (QQ r)=Xb t r+Xb (l.drop (l.length-4)) (two (S1 r % 97).toNat++two (S2 1 r % 97).toNat):=by
    conv=>lhs;arg 1;rw[hl]
    simp only[QQ,QLz];exact YA _ _ _ _ htl
   have htr:Xb t r≠0:=fun e=>by
    have:=Xo _ _ htl e;subst this
    grind
   have hz:Xb (l.drop (l.length-4)) (two (S1 r % 97).toNat++two (S2 1 r % 97).toNat)=0:=by omega
   have hz':=Xo _ _ hdl hz
   have hw:dg ((l.drop (l.length-4)).take 2)=S1 r % 97:=by
    rw[hz'];have:(two (S1 r % 97).toNat++two (S2 1 r % 97).toNat).take 2=two (S1 r % 97).toNat:=rfl;rw[this,Qcc (by omega)]
    omega
   rw[Jx h6 ht hf hw (by omega)]
   obtain ⟨a,y,x,b,b',e1,e2,hxy,hbl,hd0⟩:=Uh t r 0 htl (by omega)
   have hb:=Xo _ _ hbl hd0;subst hb;have hfix:fix (S1 r % 97) t a.length=r:=by rw[e1,e2];exact QrW (by rw[<- e2];exact p1)
   have hal:a.length<t.length:=by rw[e1];simp
   cases hs:(List.range t.length).find? fun i=>fits l (fix (S1 r % 97) t i) with
   | none =>
     rw[List.find?_eq_none] at hs;have:=hs a.length (QLi.2 hal);simp[hfix,h] at this
   | some j =>
     have:=List.find?_some hs;simp only[QMe,Qb4 this h]
open Go.Pf (Gd c13_ok c225_ok c229_ok c230_ok c23_ok c24_ok c27_ok c303_ok c304_ok c305_ok c343_ok c357_ok c55_ok c6_ok)
set_option maxRecDepth 8000
def Qfi (l:List W):Nat:=(l.map fun s=>s.length+1).sum
def QIP (l:List W):Bool:=decide (5000<Qfi l)
def QED (s:W):Bool:=decide (90<s.count 10)
def Z1 (a:List W × W) (c:UInt8):List W × W:=if c=10 then (a.1++[a.2],[]) else (a.1,a.2++[c])
def lns (s:W):List W × W:=s.foldl Z1 ([],[])
theorem Wo (s:W) (c:UInt8):lns (s++[c])=Z1 (lns s) c:=by simp[lns]
theorem Qrl (s:W) (i:Nat) (h:i<s.length):lns (s.take (i+1))=Z1 (lns (s.take i)) s[i]:=by
 rw[QKL h,Wo]
theorem Qrm (s:W):(lns s).2.length<=s.length/\s.drop (s.length-(lns s).2.length)=(lns s).2:=by
 have:∀ (n:Nat) (s:W),s.length=n->(lns s).2.length<=s.length/\s.drop (s.length-(lns s).2.length)=(lns s).2:=by
  intro n
  induction n with
  | zero =>
    intro s h;have:s=[]:=QKT h;subst this;simp[lns]
  | succ n ih =>
    intro s h
    have hs:s=s.take n++[s[n]]:=by
     have:=QKL (l:=s) (i:=n) (by omega)
     rw[<- this,QKP (by omega)]
    obtain ⟨h1,h2⟩:=ih (s.take n) (by simp;omega)
    have hl:(s.take n).length=n:=by simp;omega
    rw[hl] at h1 h2;generalize s[n]=c at hs;generalize s.take n=t at *;subst hs;rw[Wo];unfold Z1;split
    ·simp
    simp only[QKW,QLY];refine ⟨by omega,?_⟩
    rw[hl,List.drop_append_of_le_length (by omega)]
    have:n+1-((lns t).2.length+1)=n-(lns t).2.length:=by omega
    rw[this,h2]
 exact this _ s rfl
theorem QnF (s:W):(lns s).1.length=s.count 10/\(lns s).1.length<=s.length:=by
 have:∀ (n:Nat) (s:W),s.length=n->(lns s).1.length=s.count 10:=by
  intro n
  induction n with
  | zero =>
    intro s h;have:s=[]:=QKT h;subst this;simp[lns]
  | succ n ih =>
    intro s h
    have hs:s=s.take n++[s[n]]:=by
     have:=QKL (l:=s) (i:=n) (by omega)
     grind
    have h1:=ih (s.take n) (by simp;omega)
    generalize s[n]=c at hs;generalize s.take n=t at *;subst hs;rw[Wo,List.count_append];unfold Z1;split
    ·rename_i hc;subst hc;simp[h1]
    simp_all
 grind
def cutL (b:W):Option (List W):=if b.getLast?=some 10 then some (lns b).1 else none
def Qam {α:Type} (p:α->Bool):List α->Nat->Int
 | [],_ => -1
 | a::r,k=>if p a then k else Qam p r (k+1)
theorem QaH {α:Type} (p:α->Bool):∀ (l:List α) (k:Nat),decide (0<=Qam p l k)=l.any p
 | [],k=>by simp[Qam]
 | a::r,k=>by
   simp only[Qam,List.any_cons];by_cases h:p a=true
   ·simp[h]
   have h':p a=false:=by simpa using h
   simp[h',<- QaH p r (k+1)]
theorem QsY:callee prog 24=true:=by
 unfold callee;rw[func24];rfl
include hK
theorem Qov (l m:List W):Gd K 13 [strs l,strs m] (.bool (decide (l=m))):=by
 refine Qb hK c13_ok (by simp) ?_
 simp;intro hl hm;refine ⟨fun e c=>e (by rw[c]),fun e=>?_⟩
 have e:l.length=m.length:=by omega
 refine Ql (fun i=>[(0,AV.iv (strs l)),(1,AV.iv (strs m)),(5,AV.iv (IV.int IntKind.i64 (i:Nat)))]) (fun _=>[]) l.length (fun i=>l.take i=m.take i) (by simp) ?_ ?_
 ·intro h
  rw[Qa Go.Pf.c13_b0.eq_1];simp at h |-
  grind
 ·intro i hi h ih
  have hi':i<m.length:=by omega
  rw[Qa Go.Pf.c13_b0.eq_1];simp[hi,hi'] at h ih |-;intro _;refine ⟨fun e c=>e (by subst c;rfl),fun e=>⟨by omega,ih ?_⟩⟩
  rw[QKL hi,QKL hi',h,e]
def errT (l:List W):Int:=if 40<l.length then 2 else if l.all tx then 0 else 1
theorem good6 (l:List W) (h:∀ s∈l,s.length<=1000000):Gd K 6 [strs l] (.int .i64 (errT l)):=by
 refine Qb hK c6_ok (by simp) ?_
 simp;refine fun _=>⟨fun h40=>?_,fun h40=>?_⟩
 ·have:40<l.length:=by omega
  simp[errT,this]
 ·have hn:¬ 40<l.length:=by omega
  refine Ql (fun i=>[(0,AV.iv (strs l)),(3,AV.iv (IV.int IntKind.i64 (i:Nat)))]) (fun _=>[]) l.length (fun i=>(l.take i).all tx=true) (by simp) ?_ ?_
  ·intro hq
   rw[Qa Go.Pf.c6_b0.eq_1];rw[QKX] at hq;simp[errT,hn,hq]
  ·intro i hi hq ih
   rw[Qa Go.Pf.c6_b0.eq_1];simp[hi];intro _;refine Qf (QBC hK l[i] (h _ (QKR hi))) (by simp) ?_
   by_cases hx:tx l[i]=true
   ·have:=ih (Qe4 hi hq hx)
    simp[hx] at this |-;exact ⟨by omega,this⟩
   ·have hx':tx l[i]=false:=by simpa using hx
    have xf:=qe (p:=tx) hi hx';simp[hx',errT,hn,xf]
theorem QBy (b:W) (hb:b.length<=1000000):Gd K 27 [.str b] (.xg [strs ((cutL b).getD []),.bool (cutL b).isSome]):=by
 refine Qb hK c27_ok (by simp) ?_
 by_cases h0:b.length=0
 ·have:b=[]:=QKT h0
  subst this;simp[cutL]
 ·have hi0:¬ ((b.length:Int)=0):=by omega
  have xc:b.length-1<b.length:=by omega
  have hne:b≠[]:=fun e=>h0 (by rw[e];rfl)
  have hn:((b.length:Int)-1).toNat=b.length-1:=by omega
  have hlast:b.getLast?=some b[b.length-1]:=by rw[List.getLast?_eq_getElem?,QKM xc]
  by_cases hc:b[b.length-1]=10;rotate_left
  ·have hci:¬ ((b[b.length-1].toNat:Int)=10):=fun e=>hc (UInt8.toNat_inj.1 (by have:(10:UInt8).toNat=10:=rfl;omega))
   have hcut:cutL b=none:=by
    unfold cutL;rw[hlast,if_neg];intro e;injection e with e
    exact hc e
   rw[hcut];simp[hne,hn,xc,hci];omega
  ·have hci:((b[b.length-1].toNat:Int)=10):=by rw[hc];rfl
   have hcut:cutL b=some (lns b).1:=by unfold cutL;simp_all
   rw[hcut];simp[hne,hn,xc,hci];refine ⟨by omega,by omega,?_⟩
   refine Xe (fun i=>[(0,AV.iv (.str b)),(4,AV.yo 4 (lns (b.take i)).1.length),(5,AV.iv (.int .i64 ((i-(lns (b.take i)).2.length:Nat):Int))),(6,AV.iv (.int .i64 (i:Nat)))]) (fun i=>[(4,AO.arr 9 1 (emb ((lns (b.take i)).1.map fun s=>[.str s])) 0)]) b.length ?_ ?_
   ·rw[Qa Go.Pf.c27_b0.eq_1]
    simp
   ·intro i hi ih
    rw[Qa Go.Pf.c27_b0.eq_1];have hst:=Qrl b i hi;obtain ⟨r1,r2⟩:=Qrm (b.take i);obtain ⟨_,r3⟩:=QnF (b.take i);have htl:(b.take i).length=i:=by simp;omega
    rw[htl] at r1 r2 r3;generalize lns (b.take i)=P at *;obtain ⟨A,r⟩:=P;simp only at r1 r2 r3;rw[hst] at ih;by_cases hbi:b[i]=10
    ·have hbii:((b[i].toNat:Int)=10):=by rw[hbi];rfl
     have e:Z1 (A,r) b[i]=(A++[r],[]):=by simp[Z1,hbi]
     rw[e] at ih;simp[hi,hbii,r2] at ih |-
     repeat' (first | omega | assumption | apply And.intro)
    ·have hbii:¬ ((b[i].toNat:Int)=10):=fun e=>hbi (UInt8.toNat_inj.1 (by have:(10:UInt8).toNat=10:=rfl;omega))
     have e:Z1 (A,r) b[i]=(A,r++[b[i]]):=by simp[Z1,hbi]
     rw[e] at ih;have e5:i+1-(r.length+1)=i-r.length:=by omega
     simp[hi,hbii,e5] at ih |-
     repeat' (first | omega | assumption | apply And.intro)
theorem Qwi (s t:W) (hs:s.length<=1000000) (ht:t.length<=1000000):Gd K 357 [.str s,.str t] (.bool (decide (t.length<=s.length)&&decide (s.drop (s.length-t.length)=t))):=by
 refine Qb hK c357_ok (by simp) ?_
 by_cases h:t.length<=s.length
 ·have hi:(t.length:Int)<=s.length:=by omega
  have hn:((s.length:Int)-(t.length:Int)).toNat=s.length-t.length:=by omega
  have hx:s.take s.length=s:=QKX;simp[hi,h,hn];omega
 ·have hi:¬ (t.length:Int)<=s.length:=by omega
  simp[hi,h]
theorem Qwx (s:W) (hs:s.length<=1000000):Gd K 303 [.str s,.str [10]] (.xg [.str (if s.getLast?=some 10 then s.dropLast else s),.bool (decide (s.getLast?=some 10))]):=by
 refine Qb hK c303_ok (by simp) ?_
 simp;refine Qf (Qwi hK s [10] hs (by simp)) (by simp) ?_
 rcases List.eq_nil_or_concat s with rfl | ⟨t,c,rfl⟩
 ·simp
 ·have hn:(((t.length:Int)+1-1)).toNat=t.length:=by omega
  by_cases hc:c=10
  ·simp[hc]
   grind
  ·simp[hc]
theorem QwR (s:W) (hs:s.length<=1000000):Gd K 225 [.str s,.str [10]] (.xg [.str (if s.getLast?=some 10 then s.dropLast else s),.bool (decide (s.getLast?=some 10))]):=by
 refine Qb hK c225_ok (by simp) ?_
 simp;refine Qf (Qwx hK s hs) (by simp) ?_
 simp
theorem Qww (l:List Int) (n:Int):Gd K 304 [Q0 l,.int .i64 n] (.int .i64 (Qam (·==n) l 0)):=by
 refine Qb hK c304_ok (by simp) ?_
 generalize hR:Qam (·==n) l 0=R
 simp;intro hl;refine Ql (fun i=>[(0,AV.iv (Q0 l)),(1,AV.iv (.int .i64 n)),(7,AV.iv (.int .i64 (l.length:Nat))),(8,AV.iv (.int .i64 (i:Nat)))]) (fun _=>[]) l.length (fun i=>Qam (·==n) (l.drop i) i=R) (by simpa using hR) ?_ ?_
 ·intro hq
  rw[Qa Go.Pf.c304_b0.eq_1];rw[List.drop_length] at hq;simp[<- hq,Qam]
 ·intro i hi hq ih
  rw[Qa Go.Pf.c304_b0.eq_1];rw[QLg hi] at hq;by_cases hc:n=l[i]
  ·have:R=i:=by rw[<- hq];simp[Qam,hc]
   subst this;simp[hi,hc]
  ·have hc':¬ l[i]=n:=fun e=>hc e.symm
   have:=ih (by rw[<- hq];simp[Qam,hc'])
   simp[hi,hc] at this |-;exact ⟨by omega,this⟩
theorem Qwv (l:List W) (n:W):Gd K 305 [strs l,.str n] (.int .i64 (Qam (·==n) l 0)):=by
 refine Qb hK c305_ok (by simp) ?_
 generalize hR:Qam (·==n) l 0=R
 simp;intro hl;refine Ql (fun i=>[(0,AV.iv (strs l)),(1,AV.iv (.str n)),(7,AV.iv (.int .i64 (l.length:Nat))),(8,AV.iv (.int .i64 (i:Nat)))]) (fun _=>[]) l.length (fun i=>Qam (·==n) (l.drop i) i=R) (by simpa using hR) ?_ ?_
 ·intro hq
  rw[Qa Go.Pf.c305_b0.eq_1];rw[List.drop_length] at hq;simp[<- hq,Qam]
 ·intro i hi hq ih
  rw[Qa Go.Pf.c305_b0.eq_1];rw[QLg hi] at hq;by_cases hc:n=l[i]
  ·have:R=i:=by rw[<- hq];simp[Qam,hc]
   subst this;simp[hi,hc]
  ·have hc':¬ l[i]=n:=fun e=>hc e.symm
   have:=ih (by rw[<- hq];simp[Qam,hc'])
   simp[hi,hc] at this |-;exact ⟨by omega,this⟩
theorem Qoh (l:List Int) (n:Int):Gd K 229 [Q0 l,.int .i64 n] (.bool (l.any (·==n))):=by
 refine Qb hK c229_ok (by simp) ?_
 have g:=Qww hK l n;rw[<- QaH _ l 0];generalize Qam (·==n) l 0=R at *
 simp at g |-;refine Qf g (by simp) ?_
 simp
theorem Qog (l:List W) (n:W):Gd K 230 [strs l,.str n] (.bool (l.any (·==n))):=by
 refine Qb hK c230_ok (by simp) ?_
 have g:=Qwv hK l n;rw[<- QaH _ l 0];generalize Qam (·==n) l 0=R at *
 simp at g |-;refine Qf g (by simp) ?_
 simp
theorem QBz (s:W) (hs:s.length<=1000000):Gd K 24 [.str s] (.bool (!tx s)):=by
 refine Qb hK c24_ok (by simp) ?_
 simp;refine Qf (Qup hK s hs) (by simp) ?_
 simp
theorem QBj (l:List W) (h:∀ s∈l,s.length<=1000000):Gd K 55 [strs l,.fn 24] (.int .i64 (Qam (fun s=>!tx s) l 0)):=by
 refine Qb hK c55_ok (by simp) ?_
 generalize hR:Qam (fun s=>!tx s) l 0=R
 simp;intro hl;refine Ql (fun i=>[(0,AV.iv (strs l)),(1,AV.iv (.fn 24)),(7,AV.iv (.int .i64 (l.length:Nat))),(8,AV.iv (.int .i64 (i:Nat)))]) (fun _=>[]) l.length (fun i=>Qam (fun s=>!tx s) (l.drop i) i=R) (by simpa using hR) ?_ ?_
 ·intro hq
  rw[Qa Go.Pf.c55_b0.eq_1];rw[List.drop_length] at hq;simp[<- hq,Qam]
 ·intro i hi hq ih
  rw[Qa Go.Pf.c55_b0.eq_1];rw[QLg hi] at hq;simp[hi];refine ⟨QsY,Qf (QBz hK l[i] (h _ (QKR hi))) (by simp) ?_⟩
  by_cases hx:tx l[i]=true
  ·have:=ih (by rw[<- hq];simp[Qam,hx])
   simp[hx] at this |-;exact ⟨by omega,this⟩
  ·have hx':tx l[i]=false:=by simpa using hx
   have:R=i:=by rw[<- hq];simp[Qam,hx']
   subst this;simp[hx']
theorem QBA (l:List W) (h:∀ s∈l,s.length<=1000000):Gd K 23 [strs l,.fn 24] (.bool (!l.all tx)):=by
 refine Qb hK c23_ok (by simp) ?_
 have g:=QBj hK l h;have e2:(!l.all tx)=l.any fun s=>!tx s:=List.not_all_eq_any_not
 rw[e2,<- QaH _ l 0];generalize Qam (fun s=>!tx s) l 0=R at *
 simp at g |-;refine Qf g (by simp) ?_
 simp
end Go.Bk
namespace Go.Bk
open Go Go.Ev Go.Proofs Go.RowKit Go.Proofs.Tryz
variable {K:World->Prop} (hK:∀ w w',K w->Below w.heap.size w w'->K w')
open Go.Pf (Gd c138_ok c140_ok c141_ok)
set_option maxRecDepth 8000
def spl:W->List W
 | []=>[[]]
 | c::s=>if c=10 then []::spl s else (c::(spl s).headD [])::(spl s).tail
theorem QcU (s:W):spl s≠[]:=by
 cases s with
 | nil=>simp[spl]
 | cons c s=>unfold spl;split<;>simp
theorem Qrn (s:W):∀ (A:List W) (r:W),(s.foldl Z1 (A,r)).1++[(s.foldl Z1 (A,r)).2]=A++(r++(spl s).headD [])::(spl s).tail:=by
 induction s with
 | nil=>intro A r;simp[spl]
 | cons c s ih =>
   intro A r;rw[QLs];by_cases hc:c=10
   ·have e:Z1 (A,r) c=(A++[r],[]):=by simp[Z1,hc]
    have e2:spl (c::s)=[]::spl s:=by simp[spl,hc]
    rw[e,e2,ih];have:=QcU s;cases h:spl s with
    | cons a l=>simp
    | _=>grind
   have e:Z1 (A,r) c=(A,r++[c]):=by simp[Z1,hc]
   have e2:spl (c::s)=(c::(spl s).headD [])::(spl s).tail:=by simp[spl,hc]
   rw[e,e2,ih];simp
theorem Qvz (s:W):(lns s).1++[(lns s).2]=spl s:=by
 unfold lns;rw[Qrn];have:=QcU s;cases h:spl s with
 | _=>grind
theorem Qx5 (t:W):(lns (t++[10])).1=spl t:=by
 rw[Wo,<- Qvz];simp[Z1]
include hK
theorem Qxh (hS:∀ s:W,s.length<=1000000->Gd K 119 [.str s,.str [10]] (strs (spl s))) (b:W) (hb:b.length<=1000000):Gd K 138 [.str b] (.xg [strs ((cutL b).getD []),.bool (cutL b).isSome]):=by
 refine Qb hK c138_ok (by simp) ?_
 simp;refine Qf (QwR hK b hb) (by simp) ?_
 rcases List.eq_nil_or_concat b with rfl | ⟨t,c,rfl⟩
 ·simp[cutL]
 ·by_cases hc:c=10
  ·have e:cutL (t++[c])=some (spl t):=by unfold cutL;rw[hc,Qx5];simp
   simp at hb;have hS':=hS t (by omega)
   simp[hc] at hS' e |-;refine Qf hS' (by simp) ?_
   simp[e]
  ·have e:cutL (t++[c])=none:=by unfold cutL;simp[hc]
   simp[hc] at e |-;simp[e]
def Yq {α:Type} [BEq α] (l:List α) (x:α):List α:=if l.any (·==x) then l else l++[x]
theorem QvS (l:List Int) (x:Int) (hl:l.length<=1000000):qD prog K 140 3 1 (l.map fun n=>[.int .i64 n]) [.int .i64 x] ((Yq l x).map fun n=>[.int .i64 n]):=by
 unfold Yq;cases h:l.any (·==x) with
 | true =>
   refine Qdp fun v0=>?_
   have hK':=QzF.stay (sz:=1) (rows:=l.map fun n=>[.int .i64 n]) (v0:=v0) hK
   refine Qb hK' c140_ok (by simp) ?_
   have g:=Ev.good_row (v0:=v0) (Qoh hK l x) rfl;rw[h] at g;simp;refine Qf g (by simp[Zb]) ?_
   simp
 | false =>
   refine QbZ 4 c140_ok (by simp) rfl (by simp) ?_
   have g:=Qoh hK l x;rw[h] at g;rw[Qkf];simp;refine Qf g (by simp[Zb]) ?_
   simp;refine ⟨⟨by omega,by omega⟩,by simp,rfl,rfl,rfl⟩
theorem QvR (l:List W) (x:W) (hl:l.length<=1000000):qD prog K 141 9 1 (l.map fun n=>[.str n]) [.str x] ((Yq l x).map fun n=>[.str n]):=by
 unfold Yq;cases h:l.any (·==x) with
 | true =>
   refine Qdp fun v0=>?_
   have hK':=QzF.stay (sz:=1) (rows:=l.map fun n=>[.str n]) (v0:=v0) hK
   refine Qb hK' c141_ok (by simp) ?_
   have g:=Ev.good_row (v0:=v0) (Qog hK l x) rfl;rw[h] at g;simp;refine Qf g (by simp[Zb]) ?_
   simp
 | false =>
   refine QbZ 4 c141_ok (by simp) rfl (by simp) ?_
   have g:=Qog hK l x;rw[h] at g;rw[Qkf];simp;refine Qf g (by simp[Zb]) ?_
   simp;refine ⟨⟨by omega,by omega⟩,by simp,rfl,rfl,rfl⟩
end Go.Bk
namespace Go.Bk
open Go Go.Ev Go.Proofs Go.RowKit Go.Proofs.Tryz
variable {K:World->Prop} (hK:∀ w w',K w->Below w.heap.size w w'->K w')
open Go.Pf (Gd c59_ok)
set_option maxRecDepth 8000
section
variable {P:Program} {K:World->Prop}
theorem Qpw {C:Env->Qr->Prop} {d:Option Nat} {g:FuncId} {id mv n:Nat} {t:TypeId} {sz:Nat} {l:List Zc} {e:Env} {o:Qr} {ys:List IV} {rows rows':List (List IV)} (hn:n=rows.length) (hg:qD P K g t sz rows ys rows')
  (h:Qp P K C l (bnd d (.yo id rows'.length) e) (Yi id (.arr t sz (emb rows') rows'.length) o)):QgV P K C d g id l e o (some ys) (.yo id n) (some (.arr t sz (emb rows) mv)):=by
 subst hn;exact Qpx hg h
theorem Qmj {C:Env->Qr->Prop} {d:Option Nat} {g:FuncId} {id:Nat} {t:TypeId} {sz:Nat} {l:List Zc} {e:Env} {o:Qr} {ys:List IV} {kvs:List (MK × List (List IV))} {k:MK} {n:Nat} {rows rows':List (List IV)} (hr:(Qo k kvs).getD []=rows) (hn:rows.length=n) (hg:qD P K g t sz rows ys rows')
  (h:Qp P K C l (bnd d (.yr id k rows'.length) e) (Yi id (.yu t sz (zn k rows' kvs) (some k)) o)):QgV P K C d g id l e o (some ys) (.yr id k n) (some (.yu t sz kvs none)):=by
 subst hr;exact Qpv hn hg h
end
theorem QkS {l r:W} (h:fits l r=true):YV r=true/\l.length=r.length+4:=by
 simp only[fits,QKO,decide_eq_true_eq] at h
 grind
theorem Qc2 {l r:W} (h:Y4 l=some r):fits l r=true:=by
 unfold Y4 at h;split at h
 ·cases h
 ·simp only at h
  split at h
  ·grind
  ·split at h
   ·cases h
   ·rw[QKQ] at h
    obtain ⟨i,h1,h2⟩:=h;rw[<- h2];have h3:=List.find?_some h1;exact h3
def Qe5 {β:Type} (k:Int) (v:β):List (Int × β)->List (Int × β)
 | []=>[(k,v)]
 | p::r=>if p.1=k then (k,v)::r else p::Qe5 k v r
def Zv {β:Type} (k:Int):List (Int × β)->Option β
 | []=>none
 | p::r=>if p.1=k then some p.2 else Zv k r
def Ug {β α:Type} (f:β->α) (l:List (Int × β)):List (MK × α):=l.map fun p=>(.int .i64 p.1,f p.2)
theorem QeL {β α:Type} (f:β->α) (k:Int) (v:β):∀ l:List (Int × β),zn (.int .i64 k) (f v) (Ug f l)=Ug f (Qe5 k v l)
 | []=>rfl
 | p::r=>by
   have ih:=QeL f k v r;simp only[Ug,QLa,zn,Qe5] at ih |-
   grind
theorem YZ {β α:Type} (f:β->α) (k:Int):∀ l:List (Int × β),Qo (.int .i64 k) (Ug f l)=(Zv k l).map f
 | []=>rfl
 | p::r=>by
   have ih:=YZ f k r;simp only[Ug,QLa,Qo,Zv] at ih |-
   grind
theorem X9 {β α:Type} (f:β->α):∀ l:List (Int × β),Zw (some .i64) (Ug f l)
 | []=>trivial
 | p::r=>⟨rfl,X9 f r⟩
theorem XC {β:Type} (k j:Int) (v:β):∀ l:List (Int × β),Zv j (Qe5 k v l)=if j=k then some v else Zv j l
 | []=>by
   simp only[Qe5,Zv]
   grind
 | p::r=>by
   have ih:=XC k j v r;simp only[Qe5];by_cases h:p.1=k
   ·simp only[h,if_true,Zv]
    grind
   ·simp only[h,if_false,Zv,ih]
    grind
def txE (l:List W):List (List IV):=l.map fun s=>[.str s]
def inE (l:List Int):List (List IV):=l.map fun n=>[.int .i64 n]
structure Pg where
 rows:List (Int × List W)
 ends:List Int
 exact:List (Int × Int)
 bad:List Int
def U4 (p:Pg) (i:Nat) (l:W):Pg :=
 match Y4 l with
 | none=>{ p with bad:=p.bad++[(i:Int)] }
 | some r =>
   if (Qn r).1.2.2 then { p with ends:=Yq p.ends (Qn r).1.1 }
   else { p with rows:=Qe5 (Qn r).1.1 (Yq ((Zv (Qn r).1.1 p.rows).getD []) (Qn r).1.2.1) p.rows,exact:=if QQ r=l then Qe5 (Qn r).1.1 ((Zv (Qn r).1.1 p.exact).getD 0+1) p.exact else p.exact }
def Uj (ls:List W):Nat->Pg
 | 0=>⟨[],[],[],[]⟩
 | i+1=>U4 (Uj ls i) i (ls.getD i [])
theorem Qfg {α:Type} [BEq α] (l:List α) (x:α):(Yq l x).length<=l.length+1:=by
 unfold Yq;split<;>simp
theorem QfX (ls:List W):∀ i,(Uj ls i).ends.length<=i/\(Uj ls i).bad.length<=i/\(∀ k,((Zv k (Uj ls i).rows).getD []).length<=i)/\(∀ k,0<=(Zv k (Uj ls i).exact).getD 0/\(Zv k (Uj ls i).exact).getD 0<=i)
 | 0=>by simp[Uj,Zv]
 | i+1=>by
   obtain ⟨h1,h2,h3,h4⟩:=QfX ls i;simp only[Uj,U4];split
   ·refine ⟨by simp only;omega,by simp;omega,fun k=>?_,fun k=>?_⟩
    ·have:=h3 k;simp only;omega
    have:=h4 k;simp only;omega
   ·split
    ·refine ⟨?_,by simp only;omega,fun k=>?_,fun k=>?_⟩
     ·have:=Qfg (Uj ls i).ends (Qn ‹W›).1.1
      simp only;omega
     ·have:=h3 k;simp only;omega
     have:=h4 k;simp only;omega
    ·refine ⟨by simp only;omega,by simp only;omega,fun k=>?_,fun k=>?_⟩
     ·simp only[XC]
      split
      ·have:=Qfg ((Zv (Qn ‹W›).1.1 (Uj ls i).rows).getD []) (Qn ‹W›).1.2.1
       have:=h3 (Qn ‹W›).1.1;simp only[QLu];omega
      have:=h3 k;omega
     ·simp only
      split
      ·rw[XC]
       split
       ·have:=h4 (Qn ‹W›).1.1
        simp only[QLu];omega
       have:=h4 k;omega
      ·have:=h4 k;omega
def pgV (p:Pg):IV:=.agg [.map (Ug (fun t=>.sl 1 (txE t)) p.rows),Q0 p.ends,.map (Ug (fun n=>.int .i64 n) p.exact),Q0 p.bad]
def QDM:IV:=.agg [.map [],.sl 1 [],.map [],.sl 1 []]
include hK
theorem QBh (hS:∀ s:W,s.length<=1000000->Gd K 119 [.str s,.str [10]] (strs (spl s))) (b:W) (hb:b.length<=100000) (hl:∀ ls,cutL b=some ls->ls.length<=100000/\∀ l∈ls,l.length<=10000) :
  Gd K 59 [.str b] (match cutL b with | some ls=>.xg [pgV (Uj ls ls.length),.int .i64 0] | none=>.xg [QDM,.int .i64 140]):=by
 refine Qb hK c59_ok (by simp) ?_
 have g50:=Qxh hK hS b (by omega)
 generalize cutL b=R at *;cases R with
 | none =>
   simp at g50 |-;refine Qf g50 (by simp) ?_
   simp[QDM]
 | some ls =>
   obtain ⟨hl1,hl2⟩:=hl ls rfl;simp at g50 |-;refine Qf g50 (by simp) ?_
   simp;intro hln;have e0:Ug txE ([]:List (Int × List W))=[]:=rfl
   refine Xe (fun i=>[(2,AV.loc 2 0),(6,.loc 6 0),(22,.iv (strs ls)),(23,.iv (.int .i64 (ls.length:Nat))),(24,.iv (.int .i64 (i:Nat)))])
    (fun i=>[(2,AO.box [.iv (.map []),.iv (.sl 1 []),.iv (.map []),.iv (.sl 1 [])]),(6,.box [.yn 19,.yo 7001 (Uj ls i).ends.length,.yn 20,.yo 7003 (Uj ls i).bad.length]),(19,.yu 9 1 (Ug txE (Uj ls i).rows) none),
      (20,.xi (Ug (fun n=>.int .i64 n) (Uj ls i).exact)),(7001,.arr 3 1 (emb (inE (Uj ls i).ends)) (Uj ls i).ends.length),(7003,.arr 3 1 (emb (inE (Uj ls i).bad)) 0)]) ls.length ?_ ?_
   ·rw[Qa Go.Pf.c59_b0.eq_1]
    generalize Uj ls ls.length=p;have l1:(inE p.ends).length=p.ends.length:=by simp[inE]
    have l2:(inE p.bad).length=p.bad.length:=by simp[inE]
    simp[l1,l2];simp[pgV,Ug,txE,inE]
   intro i hi ih;rw[Qa Go.Pf.c59_b0.eq_1];obtain ⟨b1,b2,b3,b4⟩:=QfX ls i;have hli:=hl2 ls[i] (QKR hi);have hg:ls.getD i []=ls[i]:=by simp[hi]
   simp only[Uj,hg] at ih;generalize Uj ls i=p at *;simp[hi];refine Qf (Qxg hK ls[i] hli) (by simp) ?_
   cases hR:Y4 ls[i] with
   | none =>
     have e:U4 p i ls[i]={ p with bad:=p.bad++[(i:Int)] }:=by simp[U4,hR]
     rw[e] at ih;have l2:(inE p.bad).length=p.bad.length:=by simp[inE]
     have l3:inE (p.bad++[(i:Int)])=inE p.bad++[[.int .i64 (i:Nat)]]:=by simp[inE]
     rw[l3] at ih;simp[l2] at ih |-;exact ⟨by omega,by omega,ih⟩
   | some r =>
     have hst:XA ls[i]=(Qn r).1:=by unfold XA;rw[hR]
     have hrow:YV r=true:=(QkS (Qc2 hR)).1;cases hc:(Qn r).1.2.2 with
     | true =>
       have e:U4 p i ls[i]={ p with ends:=Yq p.ends (Qn r).1.1 }:=by simp[U4,hR,hc]
       rw[e] at ih;simp[hst,hc] at ih |-;refine Qpw (rows:=inE p.ends) (rows':=inE (Yq p.ends (Qn r).1.1)) (by simp[inE]) (QvS hK p.ends (Qn r).1.1 (by omega)) ?_
       have l1:(inE (Yq p.ends (Qn r).1.1)).length=(Yq p.ends (Qn r).1.1).length:=by simp[inE]
       simp[l1];exact ⟨by omega,ih⟩
     | false =>
       have g41:=Qey hK r hrow;simp[hc] at g41;have hfk:=YZ txE (Qn r).1.1 p.rows;have hle:=b3 (Qn r).1.1;have hks:=X9 txE p.rows;generalize hold:(Zv (Qn r).1.1 p.rows).getD []=old at *
       have hfo:(Qo (.int .i64 (Qn r).1.1) (Ug txE p.rows)).getD []=txE old:=by
        rw[hfk,<- hold];cases Zv (Qn r).1.1 p.rows<;>rfl
       simp[hst,hc,hks,hfo];refine Qmj hfo rfl (QvR hK old (Qn r).1.2.1 (by omega)) ?_
       have hl2':(List.map (fun n=>[IV.str n]) (Yq old (Qn r).1.2.1))=txE (Yq old (Qn r).1.2.1):=rfl
       rw[hl2',QeL];have hks2:=X9 txE (Qe5 (Qn r).1.1 (Yq old (Qn r).1.2.1) p.rows);have hf2:=YZ txE (Qn r).1.1 (Qe5 (Qn r).1.1 (Yq old (Qn r).1.2.1) p.rows);rw[XC,if_pos rfl] at hf2;simp[hks2,hf2];refine Qf g41 (by simp) ?_
       have hks3:=X9 (fun n=>IV.int .i64 n) p.exact
       have hf3:=YZ (fun n=>IV.int .i64 n) (Qn r).1.1 p.exact
       obtain ⟨b5,b6⟩:=b4 (Qn r).1.1;generalize hcnt:(Zv (Qn r).1.1 p.exact).getD 0=cnt at *
       have hf3':(Qo (.int .i64 (Qn r).1.1) (Ug (fun n=>IV.int .i64 n) p.exact)).getD (.int .i64 0)=.int .i64 cnt:=by
        rw[hf3,<- hcnt];cases Zv (Qn r).1.1 p.exact<;>rfl
       have hins:=QeL (fun n=>IV.int .i64 n) (Qn r).1.1 (cnt+1) p.exact
       by_cases he:QQ r=ls[i]
       ·have e:U4 p i ls[i]={ p with rows:=Qe5 (Qn r).1.1 (Yq old (Qn r).1.2.1) p.rows,exact:=Qe5 (Qn r).1.1 (cnt+1) p.exact }:=by simp[U4,hR,hc,he,hold,hcnt]
        rw[e] at ih;simp[he,hks3,hf3',hins] at ih |-;exact ⟨by omega,by omega,ih⟩
       have e:U4 p i ls[i]={ p with rows:=Qe5 (Qn r).1.1 (Yq old (Qn r).1.2.1) p.rows }:=by simp[U4,hR,hc,he,hold]
       rw[e] at ih;simp[he] at ih |-;exact ⟨by omega,ih⟩
end Go.Bk
namespace Go.Bk
open Go Go.Ev Go.Proofs Go.RowKit Go.Proofs.Tryz
variable {K:World->Prop} (hK:∀ w w',K w->Below w.heap.size w w'->K w')
open Go.Pf (Gd c60_b0 c60_ok c61_ok)
set_option maxRecDepth 8000
def Vj (ends:List Int) (q:Int × List W):Bool:=decide (1<q.2.length)||(match ends with | []=>false | e::_=>decide (e<=q.1))
def Vi (p:Pg):Bool:=decide (1<p.ends.length)||p.rows.any (Vj p.ends)
def Y5 (p:Pg) (n:Int):List Int:=((List.range n.toNat).filter fun k:Nat=>((Zv (k:Int) p.rows).getD []).length==0).map fun k:Nat=>(k:Int)
theorem Qr9 {β α:Type} (f:β->α) (l:List (Int × β)) (i:Nat):(Ug f l)[i]?=(l[i]?).map fun p=>(.int .i64 p.1,f p.2):=by simp[Ug]
theorem QlU (p:Pg) (i:Nat):Y5 p ((i+1:Nat):Int)=Y5 p (i:Nat)++if ((Zv (i:Int) p.rows).getD []).length=0 then [(i:Int)] else []:=by
 simp only[Y5,QLQ,QLf,QL7,QK3]
 congr 1
 grind
theorem Qf6 (p:Pg) (n:Nat):(Y5 p (n:Nat)).length<=n:=by
 simp only[Y5,QKZ,QLQ]
 grind
include hK
theorem QBg (p:Pg):Gd K 60 [pgV p] (.bool (Vi p)):=by
 refine Qb hK c60_ok (by simp) ?_
 by_cases h1:1<p.ends.length
 ·have hi:(1:Int)<(p.ends.length:Int):=by omega
  simp[pgV,hi,Vi,h1]
 ·have hi:¬ (1:Int)<(p.ends.length:Int):=by omega
  generalize hC:Vi p=C;simp[pgV,hi];intro hl
  have key:∀ seen:List Nat,(∀ i∈seen,∀ q,p.rows[i]?=some q->Vj p.ends q=false) ->
    ZB prog K (FnF (Ya [Y2.tmp 2] (.bool C))) c60_b0 [1,11] [11] [AI.inBlock 0,AI.code (.seq (.ops [⟨some 2,none,.xh (.bool false)⟩] false) .ret)]
     [(1,.iv (.ptr [.map (Ug (fun t=>.sl 1 (txE t)) p.rows),Q0 p.ends,.map (Ug (fun n=>.int .i64 n) p.exact),Q0 p.bad])),(11,.yn 11)] [(11,.yw (Ug (fun t=>.sl 1 (txE t)) p.rows) seen)]:=by
   refine QnA (fun _=>[(1,AV.iv (.ptr [.map (Ug (fun t=>.sl 1 (txE t)) p.rows),Q0 p.ends,.map (Ug (fun n=>.int .i64 n) p.exact),Q0 p.bad])),(11,.yn 11)]) (fun seen=>[(11,AO.yw (Ug (fun t=>.sl 1 (txE t)) p.rows) seen)]) p.rows.length (fun seen=>∀ i∈seen,∀ q,p.rows[i]?=some q->Vj p.ends q=false) ?_
   intro seen hI ih;rw[Qa Go.Pf.c60_b0.eq_1];have hlen:(Ug (fun t=>IV.sl 1 (txE t)) p.rows).length=p.rows.length:=by simp[Ug]
   simp[hlen,Qr9];refine ⟨fun xf=>?_,fun i a b n ts hq ha hb hns=>?_⟩
   ·have:p.rows.any (Vj p.ends)=false:=by
     rw[QMp];intro q hq;obtain ⟨i,hi⟩:=QLn hq;rw[hI i (xf i (QKN.1 hi).1) q hi];simp
    rw[<- hC];simp[Vi,h1,this]
   subst ha hb;have hil:=(QKN.1 hq).1;have htl:(txE ts).length=ts.length:=by simp[txE]
   have hmem:(n,ts)∈p.rows:=QK4 hq
   have hbad:Vj p.ends (n,ts)=true->C=true:=by
    intro hb;rw[<- hC];simp only[Vi,QL6,QMh];exact .inr ⟨_,hmem,hb⟩
   have hgood:Vj p.ends (n,ts)=false->ZB prog K (FnF (Ya [Y2.tmp 2] (.bool C))) c60_b0 [1,11] [11] [AI.inBlock 0,AI.code (.seq (.ops [⟨some 2,none,.xh (.bool false)⟩] false) .ret)]
    [(1,.iv (.ptr [.map (Ug (fun t=>.sl 1 (txE t)) p.rows),Q0 p.ends,.map (Ug (fun n=>.int .i64 n) p.exact),Q0 p.bad])),(11,.yn 11)] [(11,.yw (Ug (fun t=>.sl 1 (txE t)) p.rows) (i::seen))]:=by
    intro hg;refine ih i hil hns fun j hj q hjq=>?_
    rcases QKV.1 hj with rfl | hj
    ·rw[hq] at hjq
     injection hjq with hjq
     rw[<- hjq];exact hg
    exact hI j hj q hjq
   generalize hends:p.ends=ends at *;simp[hq,htl];intro _
   match ends,h1 with
   | [],_ =>
     by_cases ht:1<ts.length
     ·have hti:(1:Int)<(ts.length:Int):=by omega
      have:=hbad (by simp[Vj,ht])
      simp[hti,this];omega
     have hti:¬ (1:Int)<(ts.length:Int):=by omega
     have:=hgood (by simp[Vj,ht])
     simp[hti] at this |-
     repeat' (first | omega | assumption | intro _ | apply And.intro)
   | [e],_ =>
     by_cases ht:1<ts.length
     ·have hti:(1:Int)<(ts.length:Int):=by omega
      have:=hbad (by simp[Vj,ht])
      simp[hti,this];omega
     have hti:¬ (1:Int)<(ts.length:Int):=by omega
     by_cases hen:e<=n
     ·have:=hbad (by simp[Vj,hen])
      simp[hti,hen,this]
      try (repeat' (first | omega | assumption | intro _ | apply And.intro))
     have:=hgood (by simp[Vj,ht,hen])
     simp[hti,hen] at this |-
     repeat' (first | omega | assumption | intro _ | apply And.intro)
   | _::_::_,h=>simp at h
  have:=key [] (by simp)
  simp at this |-;exact this
theorem QBf (p:Pg) (n:Nat) (hn:n<=100000):Gd K 61 [pgV p,.int .i64 (n:Nat)] (Q0 (Y5 p (n:Nat))):=by
 refine Qb hK c61_ok (by simp) ?_
 simp[pgV]
 refine Xe (fun i=>[(2,AV.iv (.ptr [.map (Ug (fun t=>.sl 1 (txE t)) p.rows),Q0 p.ends,.map (Ug (fun n=>.int .i64 n) p.exact),Q0 p.bad])),(5,.yo 5 (Y5 p (i:Nat)).length),(7,.iv (.int .i64 (n:Nat))),(8,.iv (.int .i64 (i:Nat)))])
  (fun i=>[(5,AO.arr 3 1 (emb (inE (Y5 p (i:Nat)))) 0)]) n ?_ ?_
 ·rw[Qa Go.Pf.c61_b0.eq_1]
  have l:(inE (Y5 p (n:Nat))).length=(Y5 p (n:Nat)).length:=by simp[inE]
  simp[l];simp[inE]
 intro i hi ih;rw[Qa Go.Pf.c61_b0.eq_1];have hs:=QlU p i;have hl:=Qf6 p i;have l:(inE (Y5 p (i:Nat))).length=(Y5 p (i:Nat)).length:=by simp[inE]
 rw[hs] at ih;have hks:=X9 (fun t=>IV.sl 1 (txE t)) p.rows
 have hf:=YZ (fun t=>IV.sl 1 (txE t)) (i:Int) p.rows
 generalize hold:(Zv (i:Int) p.rows).getD []=old at *
 have hf':(Qo (.int .i64 (i:Int)) (Ug (fun t=>IV.sl 1 (txE t)) p.rows)).getD (.sl 1 [])=.sl 1 (txE old):=by
  rw[hf,<- hold];cases Zv (i:Int) p.rows<;>rfl
 generalize Y5 p (i:Nat)=L at *;have htl:(txE old).length=old.length:=by simp[txE]
 have hin:(i:Int)<(n:Int):=by omega
 by_cases h0:old.length=0
 ·have l3:inE (L++[(i:Int)])=inE L++[[.int .i64 (i:Nat)]]:=by simp[inE]
  rw[if_pos h0,l3] at ih;have he:=QKT h0;have ht0:txE old=[]:=by rw[he];rfl
  simp[hin,hks,hf',ht0,l] at ih |-
  repeat' (first | omega | assumption | intro _ | apply And.intro)
 have hne:old≠[]:=fun e=>h0 (by rw[e];rfl)
 rw[if_neg h0] at ih;simp[hin,hks,hf',htl,hne] at ih |-
 repeat' (first | omega | assumption | intro _ | apply And.intro)
end Go.Bk
namespace Go.Bk
open Go Go.Ev Go.Proofs Go.RowKit Go.Proofs.Tryz
variable {K:World->Prop} (hK:∀ w w',K w->Below w.heap.size w w'->K w')
open Go.Pf (Gd c28_ok)
set_option maxRecDepth 8000
def Jq (p:Pg) (i:Nat):List W:=(List.range i).map fun n:Nat=>((Zv (n:Int) p.rows).getD []).headD []
def qh (p:Pg) (i:Nat):List Int:=((List.range i).filter fun n:Nat=>(Zv (n:Int) p.exact).getD 0==0).map fun n:Nat=>(n:Int)
def Qq7 (p:Pg):List W × List Int × Int :=
 if Vi p then ([],[],141) else
 match p.ends with
 | []=>([],[],142)
 | e::_=>if 0<(Y5 p e).length then ([],[],142) else (Jq p e.toNat,qh p e.toNat,0)
def readB (b:W):List W × List Int × Int:=match cutL b with
 | none=>([],[],140)
 | some ls=>Qq7 (Uj ls ls.length)
@[simp] def QDA (r:List W × List Int × Int):IV:=.xg [strs r.1,Q0 r.2.1,.int .i64 r.2.2]
theorem QlS (p:Pg) (i:Nat):qh p (i+1)=qh p i++if (Zv (i:Int) p.exact).getD 0=0 then [(i:Int)] else []:=by
 simp only[qh,QLf,QL7,QK3]
 congr 1
 grind
theorem Qhr (p:Pg) (i:Nat):Jq p (i+1)=Jq p i++[((Zv (i:Int) p.rows).getD []).headD []]:=by
 simp only[Jq,QLf,QK3,QLa,List.map_nil]
theorem Qlp (p:Pg) (i:Nat):(Jq p i).length=i:=by simp[Jq]
theorem Qnv (p:Pg) (i:Nat):(qh p i).length<=i:=by
 simp only[qh,QKZ]
 grind
theorem Qnz {p:Pg} {n:Nat} (h:(Y5 p (n:Nat)).length=0):∀ i,i<n->(Zv (i:Int) p.rows).getD []≠[]:=by
 intro i hi he;have h0:=QKT h;simp only[Y5,QLQ,List.map_eq_nil_iff,List.filter_eq_nil_iff] at h0;simp_all
theorem Qnl (ls:List W):∀ i,∀ e∈(Uj ls i).ends,0<=e/\e<=40
 | 0=>by simp[Uj]
 | i+1=>by
   have ih:=Qnl ls i;simp only[Uj,U4];split
   ·exact ih
   ·rename_i r hr
    split
    ·intro e he
     simp only[Yq] at he;split at he
     ·exact ih e he
     rcases QK0.1 he with he | he
     ·exact ih e he
     simp at he;subst he;have:=QfY (QkS (Qc2 hr)).1;omega
    ·exact ih
include hK
def QIJ (a:Int) (l:List Int):Int:=l.foldl (fun m x=>if m<x then x else m) a
theorem good28 (hS:∀ s:W,s.length<=1000000->Gd K 119 [.str s,.str [10]] (strs (spl s))) (b:W) (hb:b.length<=100000) (hl:∀ ls,cutL b=some ls->ls.length<=100000/\∀ l∈ls,l.length<=10000) :
  Gd K 28 [.str b] (QDA (readB b)):=by
 refine Qb hK c28_ok (by simp) ?_
 have g44:=QBh hK hS b hb hl;unfold readB;cases hcut:cutL b with
 | none =>
   rw[hcut] at g44;simp[QDM] at g44 |-;refine Qf g44 (by simp) ?_
   simp
 | some ls =>
   rw[hcut] at g44;simp only at g44 |-;have hends:=Qnl ls ls.length;generalize Uj ls ls.length=p at *;have g45:=QBg hK p;have g46:∀ (n:Nat),n<=100000->_:=fun n hn=>QBf hK p n hn
   unfold Qq7;have hdef:Pg.ends p=p.ends:=rfl;cases he:p.ends with
   | nil =>
     simp[pgV,he] at g44 g45 |-;refine Qf g44 (by simp) ?_
     simp;refine Qf g45 (by simp) ?_
     by_cases hc:Vi p=true
     ·simp[hc]
     have hc':Vi p=false:=by simpa using hc
     simp[hc']
   | cons e es =>
     obtain ⟨e0,e1⟩:=hends e (by rw[he];exact List.mem_cons_self)
     obtain ⟨n,rfl⟩:∃ n:Nat,e=n:=⟨e.toNat,by omega⟩
     have g46:=g46 n (by omega)
     simp[pgV,he] at g44 g45 g46 |-;refine Qf g44 (by simp) ?_
     simp;refine Qf g45 (by simp) ?_
     by_cases hc:Vi p=true
     ·simp[hc]
     ·have hc':Vi p=false:=by simpa using hc
      have hze:¬ ((es.length:Int)+1=0):=by omega
      simp[hc',hze];intro hel;refine Qf g46 (.inl rfl) ?_;have hll:=Qf6 p n;by_cases h0:(Y5 p (n:Nat)).length=0
      ·have hll0:=Qnz h0
       have h0':=QKT h0;simp[h0']
       refine Xe (fun i=>[(2,AV.yo 2 (Jq p i).length),(3,.yo 3 (qh p i).length),(5,.loc 5 0),(37,.iv (.int .i64 (n:Nat))),(38,.iv (.int .i64 (i:Nat)))])
        (fun i=>[(2,AO.arr 9 1 (emb (txE (Jq p i))) 0),(3,.arr 3 1 (emb (inE (qh p i))) 0),(5,.box [.iv (.map (Ug (fun t=>.sl 1 (txE t)) p.rows)),.iv (Q0 ((n:Int)::es)),.iv (.map (Ug (fun n=>.int .i64 n) p.exact)),.iv (Q0 p.bad)])]) n ?_ ?_
       ·rw[Qa Go.Pf.c28_b0.eq_1]
        have l1:(txE (Jq p n)).length=(Jq p n).length:=by simp[txE]
        have l2:(inE (qh p n)).length=(qh p n).length:=by simp[inE]
        simp[l1,l2];simp[txE,inE]
       intro i hi ih;rw[Qa Go.Pf.c28_b0.eq_1];have hni:=hll0 i hi;have hin:(i:Int)<(n:Int):=by omega
       have hks:=X9 (fun t=>IV.sl 1 (txE t)) p.rows
       have hf:=YZ (fun t=>IV.sl 1 (txE t)) (i:Int) p.rows
       have hks2:=X9 (fun n=>IV.int .i64 n) p.exact
       have hf2:=YZ (fun n=>IV.int .i64 n) (i:Int) p.exact
       rw[Qhr,QlS] at ih;have hml:=Qnv p i;have htl:=Qlp p i;generalize hold:(Zv (i:Int) p.rows).getD []=old at *
       have hf':(Qo (.int .i64 (i:Int)) (Ug (fun t=>IV.sl 1 (txE t)) p.rows)).getD (.sl 1 [])=.sl 1 (txE old):=by
        rw[hf,<- hold];cases Zv (i:Int) p.rows<;>rfl
       generalize hcnt:(Zv (i:Int) p.exact).getD 0=cnt at *
       have hf2':(Qo (.int .i64 (i:Int)) (Ug (fun n=>IV.int .i64 n) p.exact)).getD (.int .i64 0)=.int .i64 cnt:=by
        rw[hf2,<- hcnt];cases Zv (i:Int) p.exact<;>rfl
       generalize Jq p i=T at *;generalize qh p i=M at *;have l1:(txE T).length=T.length:=by simp[txE]
       have l2:(inE M).length=M.length:=by simp[inE]
       obtain ⟨o,os,rfl⟩:∃ o os,old=o::os:=by
        cases old with
        | nil=>exact absurd rfl hni
        | cons o os=>exact ⟨o,os,rfl⟩
       have l3:txE (T++[o])=txE T++[[.str o]]:=by simp[txE]
       have hto:txE (o::os)=[.str o]::txE os:=rfl;by_cases hz:cnt=0
       ·have l4:inE (M++[(i:Int)])=inE M++[[.int .i64 (i:Nat)]]:=by simp[inE]
        rw[if_pos hz] at ih;simp[l3,l4] at ih;simp[hin,hks,hks2,hf',hf2',hto,hz,l1,l2] at ih |-
        repeat' (first | omega | assumption | intro _ | apply And.intro)
       rw[if_neg hz] at ih;simp[l3] at ih;simp[hin,hks,hks2,hf',hf2',hto,hz,l1,l2] at ih |-
       repeat' (first | omega | assumption | intro _ | apply And.intro)
      ·have h0':¬ Y5 p (n:Nat)=[]:=fun e=>h0 (by rw[e];rfl)
       have h0p:0<(Y5 p (n:Nat)).length:=by omega
       simp[h0',h0p]
def QDR (p:Pg):List Int × Int:=match p.ends with
 | []=>([],142)
 | e::es=>(Y5 p (QIJ e es),0)
def QIM (b:W):List Int × Int:=match cutL b with
 | none=>([],140)
 | some ls=>QDR (Uj ls ls.length)
def QA3 (a b:W):List W × Int:=if (cutL a).isSome&&(cutL b).isSome then ((readB (a++b)).1,(readB (a++b)).2.2) else ([],140)
end Go.Bk
namespace Go.Bk
open Go Go.Ev Go.Proofs Go.RowKit Go.Proofs.Tryz
variable {K:World->Prop} (hK:∀ w w',K w->Below w.heap.size w w'->K w')
set_option maxRecDepth 8000
def rd (l:W):Option (Int × W × Bool):=(Y4 l).map fun r=>(Qn r).1
def ex (l:W):Bool:=match Y4 l with
 | some r=>decide (QQ r=l)
 | none=>false
theorem QbH {α:Type} [BEq α] [LawfulBEq α] {l:List α} {x y:α}:y∈Yq l x↔y∈l\/y=x:=by
 unfold Yq
 grind
theorem Qa1 {α:Type} [BEq α] [LawfulBEq α] {l:List α} {x:α} (h:l.Nodup):(Yq l x).Nodup:=by
 unfold Yq;split
 ·exact h
 rename_i hx;rw[List.nodup_append];refine ⟨h,by simp,?_⟩
 grind
theorem QqK {α:Type} [BEq α] [LawfulBEq α] (l:List α) (x:α):Yq l x≠[]:=fun e=>by
 have:x∈Yq l x:=QbH.2 (.inr rfl)
 grind
theorem Qg3 {β:Type} (k:Int) (v:β):∀ l:List (Int × β),(Qe5 k v l).map (·.1)=if k∈l.map (·.1) then l.map (·.1) else l.map (·.1)++[k]
 | []=>by simp[Qe5]
 | p::r=>by
   have ih:=Qg3 k v r;simp only[Qe5];by_cases h:p.1=k
   ·simp[h]
   rw[if_neg h];simp only[QLa,ih,QKV,Ne.symm h,false_or];split<;>simp
theorem Qky {β:Type} {k:Int} {v:β}:∀ {l:List (Int × β)} {q:Int × β},q∈Qe5 k v l->q=(k,v)\/q∈l
 | [],q,h=>by simpa[Qe5] using h
 | p::r,q,h=>by
   simp only[Qe5] at h;split at h
   ·grind
   rcases QKV.1 h with h | h
   ·grind
   rcases Qky h with h | h
   all_goals grind
theorem Qg4 {β:Type}:∀ {l:List (Int × β)} {q:Int × β},(l.map (·.1)).Nodup->q∈l->Zv q.1 l=some q.2
 | p::r,q,hn,h=>by
   simp only[QLa,QMv] at hn;simp only[Zv];rcases QKV.1 h with h | h
   ·grind
   rw[if_neg,Qg4 hn.2 h];intro e;simp_all
structure Qcv (p:Pg) (L:List W):Prop where
 ends:∀ e,e∈p.ends↔∃ l∈L,∃ t,rd l=some (e,t,true)
 endsN:p.ends.Nodup
 rows:∀ k t,t∈(Zv k p.rows).getD []↔∃ l∈L,rd l=some (k,t,false)
 rowsN:∀ k,((Zv k p.rows).getD []).Nodup
 keysN:(p.rows.map (·.1)).Nodup
 full:∀ q∈p.rows,q.2≠[]
 pos:∀ k,0<=(Zv k p.exact).getD 0
 exact:∀ k,(Zv k p.exact).getD 0=0↔∀ l∈L,∀ t,rd l=some (k,t,false)->ex l=false
 bad:p.bad=((List.range L.length).filter fun j:Nat=>(rd (L.getD j [])).isNone).map fun j:Nat=>(j:Int)
theorem QvN:Qcv ⟨[],[],[],[]⟩ []:=⟨by simp,by simp,by simp[Zv],by simp[Zv],by simp,by simp,by simp[Zv],by simp[Zv],by simp⟩
theorem Qtn (L:List W) (l:W):(((List.range (L++[l]).length).filter fun j:Nat=>(rd ((L++[l]).getD j [])).isNone).map fun j:Nat=>(j:Int)) =
  (((List.range L.length).filter fun j:Nat=>(rd (L.getD j [])).isNone).map fun j:Nat=>(j:Int))++if (rd l).isNone then [(L.length:Int)] else []:=by
 rw[QKW,QLY,QLf,QL7,QK3]
 congr 1
 ·congr 1
  apply QMn
  grind
 ·cases h:(rd l).isNone<;>simp[h]
theorem Qrt {p:Pg} {L:List W} (l:W) (h:Qcv p L):Qcv (U4 p L.length l) (L++[l]):=by
 have hb:=Qtn L l;unfold U4;cases hR:Y4 l with
 | none =>
   have hr:rd l=none:=by simp[rd,hR]
   refine ⟨fun e=>?_,h.endsN,fun k t=>?_,h.rowsN,h.keysN,h.full,h.pos,fun k=>?_,?_⟩
   ·simp only[h.ends,QK0,QLe]
    constructor
    ·rintro ⟨l',hl,t,ht⟩;exact ⟨l',.inl hl,t,ht⟩
    rintro ⟨l',hl | rfl,t,ht⟩
    ·exact ⟨l',hl,t,ht⟩
    grind
   ·simp only[h.rows,QK0,QLe]
    constructor
    ·rintro ⟨l',hl,ht⟩;exact ⟨l',.inl hl,ht⟩
    rintro ⟨l',hl | rfl,ht⟩
    ·exact ⟨l',hl,ht⟩
    grind
   ·simp only[h.exact,QK0,QLe]
    constructor
    ·rintro hq l' (hl | rfl) t ht
     ·exact hq l' hl t ht
     grind
    intro hq l' hl;exact hq l' (.inl hl)
   rw[hb,h.bad,hr];simp
 | some r =>
   have hr:rd l=some (Qn r).1:=by simp[rd,hR]
   have he:ex l=decide (QQ r=l):=by simp[ex,hR]
   have hbb:p.bad=((List.range (L++[l]).length).filter fun j:Nat=>(rd ((L++[l]).getD j [])).isNone).map fun j:Nat=>(j:Int):=by rw[hb,h.bad,hr];simp
   dsimp only
   generalize (Qn r).1=x at *;obtain ⟨k0,t0,c⟩:=x;cases c with
   | true =>
     simp only[if_true];refine ⟨fun e=>?_,Qa1 h.endsN,fun k t=>?_,h.rowsN,h.keysN,h.full,h.pos,fun k=>?_,hbb⟩
     ·simp only[QbH,h.ends,QK0,QLe]
      constructor
      ·rintro (⟨l',hl,t,ht⟩ | rfl)
       ·exact ⟨l',.inl hl,t,ht⟩
       exact ⟨l,.inr rfl,t0,hr⟩
      rintro ⟨l',hl | rfl,t,ht⟩
      ·exact .inl ⟨l',hl,t,ht⟩
      rw[hr] at ht;injection ht with ht
      injection ht with ht
      omega
     ·simp only[h.rows,QK0,QLe]
      constructor
      ·rintro ⟨l',hl,ht⟩;exact ⟨l',.inl hl,ht⟩
      rintro ⟨l',hl | rfl,ht⟩
      ·exact ⟨l',hl,ht⟩
      grind
     simp only[h.exact,QK0,QLe];constructor
     ·rintro hq l' (hl | rfl) t ht
      ·exact hq l' hl t ht
      rw[hr] at ht;simp at ht
     intro hq l' hl;exact hq l' (.inl hl)
   | false =>
     simp only[QLh,if_false];refine ⟨fun e=>?_,h.endsN,fun k t=>?_,fun k=>?_,?_,?_,fun k=>?_,fun k=>?_,hbb⟩
     ·simp only[h.ends,QK0,QLe]
      constructor
      ·rintro ⟨l',hl,t,ht⟩;exact ⟨l',.inl hl,t,ht⟩
      rintro ⟨l',hl | rfl,t,ht⟩
      ·exact ⟨l',hl,t,ht⟩
      grind
     ·simp only[XC]
      by_cases hk:k=k0
      ·subst hk
       simp only[if_true,QLu,QbH,h.rows,QK0,QLe];constructor
       ·rintro (⟨l',hl,ht⟩ | rfl)
        ·exact ⟨l',.inl hl,ht⟩
        exact ⟨l,.inr rfl,hr⟩
       rintro ⟨l',hl | rfl,ht⟩
       ·exact .inl ⟨l',hl,ht⟩
       grind
      simp only[if_neg hk,h.rows,QK0,QLe];constructor
      ·rintro ⟨l',hl,ht⟩;exact ⟨l',.inl hl,ht⟩
      rintro ⟨l',hl | rfl,ht⟩
      ·exact ⟨l',hl,ht⟩
      grind
     ·simp only[XC]
      split
      ·simp only[QLu];exact Qa1 (h.rowsN _)
      exact h.rowsN _
     ·rw[Qg3]
      split
      ·exact h.keysN
      rename_i hx;rw[List.nodup_append];refine ⟨h.keysN,by simp,?_⟩
      intro a ha b hb e;simp at hb
      grind
     ·intro q hq
      rcases Qky hq with rfl | hq
      ·exact QqK _ _
      exact h.full q hq
     ·have:=h.pos k
      have:=h.pos k0;split
      ·rw[XC]
       split
       ·simp only[QLu];omega
       omega
      omega
     ·by_cases hx:QQ r=l
      ·rw[if_pos hx,XC]
       have hel:ex l=true:=by grind
       by_cases hk:k=k0
       ·subst hk
        have:=h.pos k;simp only[if_true,QLu];constructor
        ·grind
        intro hq;have:=hq l (by simp) t0 hr
        rw[hel] at this;cases this
       simp only[if_neg hk,h.exact,QK0,QLe];constructor
       ·rintro hq l' (hl | rfl) t ht
        ·exact hq l' hl t ht
        rw[hr] at ht;injection ht with ht
        injection ht with ht _
        omega
       intro hq l' hl;exact hq l' (.inl hl)
      ·rw[if_neg hx]
       have hel:ex l=false:=by grind
       simp only[h.exact,QK0,QLe];constructor
       ·rintro hq l' (hl | rfl) t ht
        ·exact hq l' hl t ht
        exact hel
       ·intro hq l' hl;exact hq l' (.inl hl)
theorem Qt8 (ls:List W):∀ i,i<=ls.length->Qcv (Uj ls i) (ls.take i)
 | 0,_=>QvN
 | i+1,h=>by
   have hi:i<ls.length:=h;have:=Qrt ls[i] (Qt8 ls i (by omega))
   rw[QLF,QLG (by omega)] at this
   rw[QKL hi];have e:Uj ls (i+1)=U4 (Uj ls i) i ls[i]:=by simp[Uj,hi]
   grind
theorem QAP (ls:List W):Qcv (Uj ls ls.length) ls:=by
 have:=Qt8 ls ls.length (QKS _)
 grind
theorem Qt9 {α:Type} {l:List α} {a:α} (hn:l.Nodup) (h:∀ x,x∈l↔x=a):l=[a]:=by
 match l,hn with
 | [],_=>simp_all
 | [x],_=>rw[(h x).1 (by simp)]
 | x::y::r,hn =>
   have h1:=(h x).1 (by simp)
   simp_all
def JG (ls:List W) (T:List W) (i:Nat):Bool:=ls.any fun l=>decide (rd l=some ((i:Int),T.getD i [],false))
def Qki (ls:List W) (T:List W) (i:Nat):Bool:=ls.any fun l=>decide (rd l=some ((i:Int),T.getD i [],false))&&ex l
structure Qag (ls:List W) (T:List W):Prop where
 each:∀ l∈ls,∀ x,rd l=some x->x=((T.length:Int),[],true)\/∃ (i:Nat) (t:W),T[i]?=some t/\x=((i:Int),t,false)
 close:∃ l∈ls,rd l=some ((T.length:Int),[],true)
theorem QgZ {p:Pg} {ls T:List W} (h:Qcv p ls) (hb:Qag ls T):p.ends=[(T.length:Int)]:=by
 refine Qt9 h.endsN fun e=>?_
 rw[h.ends];constructor
 ·rintro ⟨l,hl,t,ht⟩
  rcases hb.each l hl _ ht with h | ⟨i,t,_,h⟩
  all_goals grind
 rintro rfl
 obtain ⟨l,hl,ht⟩:=hb.close
 grind
theorem Qe0 {p:Pg} {ls T:List W} (h:Qcv p ls) (hb:Qag ls T) (i:Nat) (hi:i<T.length):(Zv (i:Int) p.rows).getD []=if JG ls T i then [T[i]] else []:=by
 have hg:T.getD i []=T[i]:=by simp[hi]
 have hm:∀ t,t∈(Zv (i:Int) p.rows).getD []->t=T[i]/\JG ls T i=true:=by
  intro t ht;rw[h.rows] at ht;obtain ⟨l,hl,ht⟩:=ht;rcases hb.each l hl _ ht with h | ⟨j,u,hj,h⟩
  ·grind
  injection h with h1 h
  injection h with h2 _
  have:i=j:=by omega
  subst this;rw[QKM hi] at hj;injection hj with hj
  refine ⟨by rw[h2,hj],?_⟩
  simp only[JG,QMh,decide_eq_true_eq]
  grind
 split
 ·rename_i hf
  refine Qt9 (h.rowsN _) fun t=>⟨fun ht=>(hm t ht).1,?_⟩
  rintro rfl
  rw[h.rows];simp only[JG,QMh,decide_eq_true_eq] at hf;obtain ⟨l,hl,ht⟩:=hf;exact ⟨l,hl,by rw[ht,hg]⟩
 rename_i hf;cases hl:(Zv (i:Int) p.rows).getD [] with
 | nil=>rfl
 | cons a r=>exact absurd (hm a (by rw[hl];simp)).2 hf
theorem Qmn {p:Pg} {ls T:List W} (h:Qcv p ls) (hb:Qag ls T):Vi p=false:=by
 have he:=QgZ h hb;unfold Vi;rw[he];simp only[QLY,Nat.lt_irrefl,decide_false,Bool.false_or];rw[QMp];intro q hq;have hf:=Qg4 h.keysN hq;have hne:=h.full q hq
 obtain ⟨t,ht⟩:∃ t,t∈q.2:=by
  cases hq2:q.2 with
  | _=>simp_all
 have ht':t∈(Zv q.1 p.rows).getD []:=by grind
 obtain ⟨l,hl,hx⟩:=(h.rows _ _).1 ht';rcases hb.each l hl _ hx with h' | ⟨j,u,hj,h'⟩
 ·grind
 injection h' with h1 _
 have hjl:=(QKN.1 hj).1;have hr:=Qe0 h hb j hjl;rw[<- h1,hf] at hr;simp only[QLu] at hr;simp only[Vj,hr];split
 ·simp;omega
 simp;omega
theorem Qqa {p:Pg} {ls T:List W} (h:Qcv p ls) (hb:Qag ls T):Y5 p (T.length:Nat)=((List.range T.length).filter fun i=>!JG ls T i).map fun i:Nat=>(i:Int):=by
 unfold Y5;rw[QLQ]
 congr 1
 apply QMn;intro i hi;rw[QLi] at hi;rw[Qe0 h hb i hi]
 grind
theorem Qmm {p:Pg} {ls T:List W} (h:Qcv p ls) (hb:Qag ls T) (hf:∀ i,i<T.length->JG ls T i=true):Jq p T.length=T:=by
 unfold Jq;apply QMo;intro i;by_cases hi:i<T.length
 ·rw[QKU,List.getElem?_range hi,QKM hi]
  simp only[QMe];rw[Qe0 h hb i hi,hf i hi];simp
 simp_all
theorem Qp9 {p:Pg} {ls T:List W} (h:Qcv p ls) (hb:Qag ls T):qh p T.length=((List.range T.length).filter fun i=>!Qki ls T i).map fun i:Nat=>(i:Int):=by
 unfold qh
 congr 1
 apply QMn;intro i hi;rw[QLi] at hi;have hx:=h.exact (i:Int)
 have e:Qki ls T i=false↔(Zv (i:Int) p.exact).getD 0=0:=by
  rw[hx];simp only[Qki,QMp,QKO,decide_eq_true_eq,not_and,Bool.not_eq_true];constructor
  ·intro hq l hl t ht
   rcases hb.each l hl _ ht with h' | ⟨j,u,hj,h'⟩
   ·grind
   injection h' with h1 h'
   injection h' with h2 _
   have:i=j:=by omega
   subst this;rw[QKM hi] at hj;injection hj with hj
   exact hq l hl (by rw[ht,h2,<- hj];simp[hi])
  grind
 grind
theorem Qnb {ls T:List W} (hb:Qag ls T):Qq7 (Uj ls ls.length)=if (List.range T.length).all (JG ls T) then (T,((List.range T.length).filter fun i=>!Qki ls T i).map fun i:Nat=>(i:Int),0) else ([],[],142):=by
 have h:=QAP ls;unfold Qq7;rw[Qmn h hb];have he:=QgZ h hb;have hl:=Qqa h hb;have hm:=Qp9 h hb;simp only[QLh,if_false,he,hl,QLQ,hm];by_cases ha:(List.range T.length).all (JG ls T)=true
 ·rw[if_pos ha]
  have hf:∀ i,i<T.length->JG ls T i=true:=by
   grind
  rw[Qmm h hb hf,if_neg];rw[QKZ]
  have:(List.range T.length).filter (fun i=>!JG ls T i)=[]:=by
   simp_all
  grind
 rw[if_neg ha,if_pos];rw[QKZ];rcases QMi ((List.range T.length).filter fun i=>!JG ls T i).length with h0 | h0
 ·exfalso
  apply ha;rw[QLo];intro i hi;have:=QKT h0;rw[List.filter_eq_nil_iff] at this
  grind
 exact h0
open Go.Pf (Gd c8_ok)
set_option maxRecDepth 8000
def lnT (T:List W) (i:Nat):W:=QQ (Ve i (T.getD i []) false)++[10]
def wrT (T:List W):Nat->W
 | 0=>[]
 | i+1=>wrT T i++lnT T i
def wrB (T:List W):W:=wrT T T.length++(QQ (Ve T.length [] true)++[10])
def wrA (T:List W) (i:Nat):W:=if i<=T.length then wrT T i else wrB T
theorem Qj1 (T:List W):wrA T (T.length+1)=wrB T:=by unfold wrA;grind
def writeB (T:List W):W × Int:=if errT T=0 then (wrB T,0) else ([],errT T)
def Qq3 (T:List W) (i:Nat):List IV:=[.int .i64 (i:Nat),.str (T.getD i []),.bool false]
def Vt (T:List W):Nat->List (List IV)
 | 0=>[]
 | i+1=>Vt T i++[Qq3 T i]
theorem V5 (T:List W):∀ i,(Vt T i).length=i
 | 0=>rfl
 | i+1=>by simp[Vt,V5 T i]
theorem Qc1 (T:List W):∀ n i,i<n->(Vt T n)[i]?=some (Qq3 T i)
 | 0,i,h=>by omega
 | n+1,i,h=>by
   have hl:=V5 T n;simp only[Vt];by_cases hi:i<n
   ·rw[QLd (by omega),Qc1 T n i hi]
   ·have:i=n:=by omega
    simp_all
theorem QiL {T:List W} (h:errT T=0):T.length<=40/\∀ s∈T,tx s=true:=by
 unfold errT at h
 grind
theorem tx_len {s:W} (h:tx s=true):s.length<=60:=by
 simp only[tx,QKO,decide_eq_true_eq] at h;exact h.2
theorem Qa5 (n:Nat) (h:n<100):plain (two n):=by
 intro c hc;simp only[two,QKV,QK2,or_false] at hc;rcases hc with rfl | rfl<;>simp only[UInt8.toNat_ofNat']<;>omega
theorem W9 {n:Nat} {t:W} {c:Bool} (hn:n<100) (ht:tx t=true):plain (Ve n t c)/\(Ve n t c).length<=62:=by
 have h1:=Qa5 n hn;have h2:=QAb ht;have h3:=tx_len ht;unfold Ve;split
 ·refine ⟨fun c hc=>?_,by simp[two]⟩
  rcases QK0.1 hc with hc | hc
  ·simp_all
  exact h1 c hc
 refine ⟨fun c hc=>?_,by simp[two];omega⟩
 rcases QK0.1 hc with hc | hc
 ·exact h1 c hc
 grind
theorem Quu {T:List W} (h:∀ s∈T,tx s=true) (i:Nat):tx (T.getD i [])=true:=by
 by_cases hi:i<T.length
 ·grind
 simp only[List.getD_eq_getElem?_getD,QMw (show T.length<=i by omega),Option.getD_none]
 decide
theorem QvB {T:List W} (h:∀ s∈T,tx s=true) (i:Nat) (hi:i<100):(lnT T i).length<=67:=by
 have:=(W9 (c:=false) hi (Quu h i)).2;simp only[lnT,QKW,Z7,QLY];omega
theorem Qhk {T:List W} (h:∀ s∈T,tx s=true):∀ i,i<=100->(wrT T i).length<=67*i
 | 0,_=>by simp[wrT]
 | i+1,hi=>by
   have:=Qhk h i (by omega)
   have:=QvB h i (by omega)
   simp only[wrT,QKW];omega
theorem wrB_len {T:List W} (h:∀ s∈T,tx s=true) (hl:T.length<=40):(wrB T).length<=2700+9:=by
 have:=Qhk h T.length (by omega)
 simp only[wrB,QKW,Z7,Ve,if_true,two,QK6,QLr];omega
include hK
theorem good8 (T:List W) (h:∀ s∈T,s.length<=1000000):Gd K 8 [strs T] (.xg [.str (writeB T).1,.int .i64 (writeB T).2]):=by
 refine Qb hK c8_ok (by simp) ?_
 have g38:=QBA hK T h;unfold writeB;by_cases h40:40<T.length
 ·have he:errT T=2:=by simp[errT,h40]
  have hi:(40:Int)<(T.length:Int):=by omega
  simp[he,hi]
 ·have hi:¬ (40:Int)<(T.length:Int):=by omega
  by_cases xf:T.all tx=true;rotate_left
  ·have hall':T.all tx=false:=by grind
   have he:errT T=1:=by simp[errT,h40,hall']
   rw[hall'] at g38;simp[he,hi];intro _;refine Qf g38 (by simp) ?_
   simp
  ·have he:errT T=0:=by simp[errT,h40,xf]
   obtain ⟨_,htx⟩:=QiL he;rw[xf] at g38;simp[he,hi];intro _;refine Qf g38 (by simp) ?_
   simp;intro _
   refine Xe (fun i=>[(0,AV.iv (strs T)),(4,.yo 15 (Vt T i).length),(16,.iv (strs T)),(17,.iv (.int .i64 (T.length:Nat))),(18,.iv (.int .i64 (i:Nat)))])
    (fun i=>[(15,AO.arr 74 3 (emb (Vt T i)) 0)]) T.length ?_ ?_
   ·rw[Qa Go.Pf.c8_b0.eq_1]
    have l1:=V5 T T.length;simp[l1];refine fun _=>⟨⟨by omega,by omega⟩,fun _=>?_⟩
    refine Xe (fun i=>[(7,AV.iv (.str (wrA T i))),(35,.yo 15 (T.length+1)),(36,.iv (.int .i64 ((T.length:Int)+1))),(37,.iv (.int .i64 (i:Nat)))])
     (fun _=>[(15,AO.arr 74 3 (emb (Vt T T.length++[[IV.int IntKind.i64 (T.length:Nat),IV.str [],IV.bool true]])) 0)]) (T.length+1) ?_ ?_
    ·rw[Qa Go.Pf.c8_b1.eq_1]
     have e:wrA T (T.length+1)=wrB T:=Qj1 T;rw[e];simp
    intro i hi ih;rw[Qa Go.Pf.c8_b1.eq_1];have hw:=Qhk htx i (by omega)
    have e:wrA T i=wrT T i:=by simp[wrA];omega
    have hin:(i:Int)<(T.length:Int)+1:=by omega
    by_cases xc:i<T.length
    ·have hp:=W9 (c:=false) (n:=i) (t:=T[i]) (by omega) (htx _ (QKR xc))
     have hti:=tx_len (htx _ (QKR xc));have g41:=Qod hK i T[i] false (by omega) hp.1 (by omega) (by omega)
     have hl:=Z7 (Ve i T[i] false)
     have e1:wrA T (i+1)=wrT T i++(QQ (Ve i T[i] false)++[10]):=by
      have:i+1<=T.length:=xc;simp[wrA,this,wrT,lnT,xc]
     have hget:(Vt T T.length++[[IV.int IntKind.i64 (T.length:Nat),IV.str [],IV.bool true]])[i]?=some [.int .i64 (i:Nat),.str T[i],.bool false]:=by
      rw[QLd (by omega),Qc1 T _ i xc]
      simp[Qq3,xc]
     rw[e1] at ih;simp at g41;simp[hin,e,hget] at ih |-;refine ⟨by omega,Qf g41 (by simp) ?_⟩
     simp[hl]
     repeat' (first | omega | assumption | apply And.intro)
    have hin':i=T.length:=by omega
    subst hin';have hp:=W9 (c:=true) (n:=T.length) (t:=[]) (by omega) (by decide)
    have g41:=Qod hK T.length [] true (by omega) hp.1 (by omega) (by simp)
    have hl:=Z7 (Ve T.length [] true);have e1:wrA T (T.length+1)=wrT T T.length++(QQ (Ve T.length [] true)++[10]):=Qj1 T;have e:wrA T T.length=wrT T T.length:=e
    have hget:(Vt T T.length++[[IV.int IntKind.i64 (T.length:Nat),IV.str [],IV.bool true]])[T.length]?=some [.int .i64 (T.length:Nat),.str [],.bool true]:=by
     rw[QK7 (by omega),l1]
     simp
    rw[e1] at ih;simp at g41;simp[hin,e,hget] at ih |-;refine ⟨by omega,Qf g41 (by simp) ?_⟩
    simp[hl]
    repeat' (first | omega | assumption | apply And.intro)
   ·intro i hi ih
    rw[Qa Go.Pf.c8_b0.eq_1];have l1:=V5 T i;simp[Vt,Qq3,hi,l1] at ih;simp[hi,l1]
    repeat' (first | omega | assumption | apply And.intro)
end Go.Bk
namespace Go.Bk
open Go Go.Ev Go.Proofs Go.RowKit Go.Proofs.Tryz
variable {K:World->Prop} (hK:∀ w w',K w->Below w.heap.size w w'->K w')
set_option maxRecDepth 8000
abbrev Fd:=List (W × Int)
def fnd (ls:List W):Fd:=ls.filterMap fun l=>(Y4 l).map fun r=>(r,if QQ r=l then 1 else 0)
@[simp] def rwV (F:Fd):IV:=.sl 1 (F.map fun x=>[.str x.1])
@[simp] def rtV (F:Fd):IV:=.sl 1 (F.map fun x=>[.int .i64 x.2])
@[simp] def fdV (F:Fd):IV:=.agg [rwV F,rtV F]
def rwE (F:Fd):List (List IV):=F.map fun x=>[.str x.1]
def rtE (F:Fd):List (List IV):=F.map fun x=>[.int .i64 x.2]
def cl (a b:W):Bool :=
 if (numOf a).2.2&&(numOf b).2.2 then decide ((numOf a).1=(numOf b).1)&&decide ((numOf a).2.1≠(numOf b).2.1)
 else if (numOf a).2.2 then decide ((Vg b).1<=(numOf a).1)
 else if (numOf b).2.2 then decide ((Vg a).1<=(numOf b).1)
 else decide (a≠b)
def gF (F:Fd) (i:Nat):W:=(F.getD i ([],0)).1
def QB2 (F:Fd):Bool:=(List.range F.length).any fun i=>(List.range i).any fun k=>cl (gF F i) (gF F k)
def QDQ (m:Int) (x:W × Int):Int:=if (Vg x.1).2 then (if m<(Vg x.1).1 then (Vg x.1).1 else m) else m
def Qri (F:Fd):Int:=F.foldl QDQ (-1)
def QAc (n:Int) (a:W × Bool × Bool) (x:W × Int):W × Bool × Bool :=
 if (numOf x.1).2.2&&decide ((numOf x.1).1=n) then ((numOf x.1).2.1,a.2.1||decide (x.2=1),true) else a
def QqR (F:Fd) (n:Int):W × Bool × Bool:=F.foldl (QAc n) ([],false,false)
@[simp] def QIz (a:W × Bool × Bool):IV:=.xg [.str a.1,.bool a.2.1,.bool a.2.2]
def QAd (F:Fd) (i:Nat):List W:=(List.range i).map fun n:Nat=>(QqR F (n:Int)).1
def QDP (F:Fd) (i:Nat):List Int:=((List.range i).filter fun n:Nat=>!(QqR F (n:Int)).2.1).map fun n:Nat=>(n:Int)
def QKo (F:Fd) (i:Nat):Bool:=(List.range i).all fun n:Nat=>(QqR F (n:Int)).2.2
def QIL (F:Fd) (i:Nat):List Int:=((List.range i).filter fun n:Nat=>!(QqR F (n:Int)).2.2).map fun n:Nat=>(n:Int)
def QDB (F:Fd):List W × List Int × Int :=
 if QB2 F then ([],[],141) else
 if Qri F<0 then ([],[],142) else
 if QKo F (Qri F).toNat then (QAd F (Qri F).toNat,QDP F (Qri F).toNat,0) else ([],[],142)
def QKJ (ls:List W) (i:Nat):List Int:=((List.range i).filter fun j:Nat=>(rd (ls.getD j [])).isNone).map fun j:Nat=>(j:Int)
def rrB (b:W):List W × List Int × Int:=match cutL b with
 | none=>([],[],140)
 | some ls=>QDB (fnd ls)
include hK
omit hK
def jn:List W->W
 | []=>[]
 | l::r=>l++(10::jn r)
theorem QkD (a b:List W):jn (a++b)=jn a++jn b:=by
 induction a with
 | nil=>rfl
 | cons x a ih=>simp[jn,ih]
theorem QA4 (a:List W):(jn a).length=Qfi a:=by
 induction a with
 | nil=>rfl
 | cons x a ih =>
   simp only[jn,QKW,QK6,ih,Qfi,QLa,List.sum_cons];omega
theorem QnP (a:List W) (h:a≠[]):(jn a).getLast?=some 10:=by
 match a,h with
 | [x],_=>simp[jn]
 | x::y::r,_ =>
   have:=QnP (y::r) (by simp)
   have hn:jn (y::r)≠[]:=by simp[jn]
   simp only[jn] at this |-;rw[List.getLast?_append,List.getLast?_cons,this];rfl
theorem QvA (l:W) (h:(10:UInt8) ∉ l):∀ (A:List W) (r:W),l.foldl Z1 (A,r)=(A,r++l):=by
 induction l with
 | cons c l ih =>
   intro A r;have h1:c≠10:=fun e=>h (by simp[e])
   have h2:(10:UInt8) ∉ l:=fun e=>h (by simp[e])
   rw[QLs];have e:Z1 (A,r) c=(A,r++[c]):=by simp[Z1,h1]
   simp_all
 | _=>grind
theorem QvF (ls:List W) (h:∀ l∈ls,(10:UInt8) ∉ l):∀ A:List W,(jn ls).foldl Z1 (A,[])=(A++ls,[]):=by
 induction ls with
 | nil=>intro A;simp[jn]
 | cons l ls ih =>
   intro A;have h1:=h l (by simp)
   simp only[jn,QL4,QvA l h1,QLs];have e:Z1 (A,[]++l) 10=(A++[l],[]):=by simp[Z1]
   simp_all
theorem QuC (ls:List W) (hne:ls≠[]) (h:∀ l∈ls,(10:UInt8) ∉ l):cutL (jn ls)=some ls:=by
 unfold cutL;rw[if_pos (QnP ls hne)];have:=QvF ls h [];unfold lns
 grind
theorem QAX (s:W):jn (lns s).1++(lns s).2=s/\(10:UInt8) ∉ (lns s).2/\∀ l∈(lns s).1,(10:UInt8) ∉ l:=by
 have:∀ (n:Nat) (s:W),s.length=n->jn (lns s).1++(lns s).2=s/\(10:UInt8) ∉ (lns s).2/\∀ l∈(lns s).1,(10:UInt8) ∉ l:=by
  intro n
  induction n with
  | zero =>
    intro s h;have:s=[]:=QKT h;subst this;simp[lns,jn]
  | succ n ih =>
    intro s h
    have hs:s=s.take n++[s[n]]:=by
     have:=QKL (l:=s) (i:=n) (by omega)
     rw[<- this,QKP (by omega)]
    obtain ⟨h1,h2,h3⟩:=ih (s.take n) (by simp;omega)
    generalize s[n]=c at hs;generalize s.take n=t at *;subst hs;rw[Wo];unfold Z1;split
    ·rename_i hc
     subst hc;refine ⟨?_,by simp,fun l hl=>?_⟩
     ·simp only
      rw[QkD]
      conv=>rhs;rw[<- h1]
      simp[jn]
     rcases QK0.1 hl with hl | hl
     ·exact h3 l hl
     simp at hl;subst hl;exact h2
    rename_i hc;refine ⟨?_,?_,h3⟩
    ·simp only
     conv=>rhs;rw[<- h1]
     simp
    simp only[QK0,QLe,not_or];exact ⟨h2,Ne.symm hc⟩
 exact this _ s rfl
theorem QsV {b:W} {ls:List W} (h:cutL b=some ls):b=jn ls/\ls≠[]/\∀ l∈ls,(10:UInt8) ∉ l:=by
 obtain ⟨h1,h2,h3⟩:=QAX b;unfold cutL at h;split at h
 ·rename_i hl
  injection h with h
  subst h
  have hnil:(lns b).2=[]:=by
   cases hx:(lns b).2 with
   | nil=>rfl
   | cons a r =>
     rw[hx] at h1 h2;rw[<- h1,List.getLast?_append] at hl
     have:(a::r).getLast?=some 10:=by
      simp_all
     exact absurd (List.mem_of_getLast? this) h2
  rw[hnil,QK9] at h1;refine ⟨h1.symm,?_,h3⟩;intro e;rw[e] at h1;rw[<- h1] at hl;simp[jn] at hl
 cases h
theorem QmO {ls:List W} {l:W} (h:l∈ls):l.length+1<=Qfi ls:=by
 induction ls with
 | nil=>cases h
 | cons x ls ih =>
   simp only[Qfi,QLa,List.sum_cons] at *
   grind
theorem QmP (ls:List W):ls.length<=Qfi ls:=by
 induction ls with
 | nil=>simp[Qfi]
 | cons x ls ih =>
   simp only[Qfi,QLa,List.sum_cons,QK6] at *;omega
theorem Qpn (b:W) (hb:b.length<=9000):∀ ls,cutL b=some ls->ls.length<=100000/\∀ l∈ls,l.length<=10000:=by
 intro ls h;obtain ⟨h1,_,_⟩:=QsV h;have h2:=QA4 ls;rw[<- h1] at h2;have h3:=QmP ls;refine ⟨by omega,fun l hl=>?_⟩
 have:=QmO hl;omega
def bkR (T:List W) (i:Nat):W:=if i<T.length then Ve i (T.getD i []) false else Ve T.length [] true
def bkN (T:List W) (i:Nat):W:=QQ (bkR T i)
def bkL (T:List W):List W:=(List.range (T.length+1)).map (bkN T)
theorem QtI (T:List W):∀ i,i<=T.length->wrT T i=jn ((List.range i).map (bkN T))
 | 0,_=>rfl
 | i+1,h=>by
   have hi:i<T.length:=h;rw[QLf,QK3,QkD,<- QtI T i (by omega)]
   simp[wrT,lnT,jn,bkN,bkR,hi]
theorem wrB_jn (T:List W):wrB T=jn (bkL T):=by
 unfold wrB bkL;rw[QLf,QK3,QkD,<- QtI T T.length (QKS _)];simp[jn,bkN,bkR]
structure Qcs (T:List W):Prop where
 len:T.length<=40
 tx:∀ s∈T,tx s=true
theorem texts_err {T:List W}:errT T=0↔Qcs T:=by
 constructor
 ·intro h
  exact ⟨(QiL h).1,(QiL h).2⟩
 ·intro h
  have h1:¬ 40<T.length:=by have:=h.len;omega
  have h2:T.all tx=true:=QLo.2 h.tx;simp[errT,h1,h2]
theorem Qsb {n:Nat} (h:n<100):two n≠[46,46]:=fun e=>by
 have:=Qcc h;rw[e] at this;have h2:dg [46,46] = -1:=by decide
 grind
theorem Qq0 {n:Nat} {t:W} (hn:n<40) (ht:tx t=true):YV (Ve n t false)=true/\(Qn (Ve n t false)).1=((n:Int),t,false):=by
 have h2:(two n).length=2:=rfl;have e1:(Ve n t false).take 2=two n:=by simp[Ve,two]
 have e2:(Ve n t false).drop 2=t:=by simp[Ve,two]
 have hl:¬ (Ve n t false).length<2:=by grind
 have hp:=V9 hl (by rw[e1];exact Qsb (by omega))
 rw[e1,e2,Qcc (by omega)] at hp
 constructor
 ·rw[<- Vz,hp]
  grind
 rw[hp]
theorem Qm3 {n:Nat} (hn:n<=40):YV (Ve n [] true)=true/\(Qn (Ve n [] true)).1=((n:Int),[],true):=by
 have e1:(Ve n [] true).take 2=[46,46]:=by simp[Ve]
 have e2:(Ve n [] true).drop 2=two n:=by simp[Ve]
 have hl:(Ve n [] true).length=4:=by simp[Ve,two]
 have hp:=JV e1 hl;rw[e2,Qcc (by omega)] at hp
 constructor
 ·rw[<- Vz,hp]
  grind
 rw[hp]
def bkP (T:List W) (i:Nat):Int × W × Bool:=if i<T.length then ((i:Int),T.getD i [],false) else ((T.length:Int),[],true)
theorem QjT {T:List W} (h:Qcs T) (i:Nat):YV (bkR T i)=true/\(Qn (bkR T i)).1=bkP T i:=by
 have:=h.len;unfold bkR bkP;split
 ·exact Qq0 (by omega) (Quu h.tx i)
 ·exact Qm3 h.len
theorem Qvl {l r:W} (hr:YV r=true) (hl:l.length=r.length+4) (hd:Xb l (QQ r)<=1):rd l=some (Qn r).1/\ex l=decide (l=QQ r):=by
 have h:=Qd7 (QxI hr hl hd);refine ⟨by simp[rd,h],?_⟩
 simp only[ex,h]
 grind
def QzE (T:List W) (i:Nat) (l:W):Prop:=l.length=(bkN T i).length/\Xb l (bkN T i)<=1
theorem Qek {T:List W} (h:Qcs T) {i:Nat} {l:W} (hn:QzE T i l):rd l=some (bkP T i)/\ex l=decide (l=bkN T i):=by
 obtain ⟨h1,h2⟩:=QjT h i;obtain ⟨h3,h4⟩:=hn;have:=Qvl h1 (by rw[h3,bkN,Z7]) h4
 rw[h2] at this;exact this
theorem Qzt {T:List W} {i j:Nat} (hi:i<=T.length) (hj:j<=T.length) (h:bkP T i=bkP T j):i=j:=by
 unfold bkP at h;split at h<;>split at h
 ·grind
 ·grind
 all_goals grind
theorem Qvs {T:List W} (h:Qcs T) {ls:List W} (h1:∀ l∈ls,rd l=none\/∃ i,i<=T.length/\QzE T i l) (h2:∃ l∈ls,QzE T T.length l):Qag ls T:=by
 constructor
 ·intro l hl x hx
  rcases h1 l hl with h1 | ⟨i,hi,hn⟩
  ·grind
  rw[(Qek h hn).1] at hx;injection hx with hx
  subst hx;unfold bkP;split
  ·rename_i xc
   exact .inr ⟨i,T[i],by simp[xc],by simp[xc]⟩
  grind
 obtain ⟨l,hl,hn⟩:=h2;refine ⟨l,hl,?_⟩;rw[(Qek h hn).1];simp[bkP]
theorem Ql1 {T:List W} (h:Qcs T) {ls:List W} (h1:∀ l∈ls,rd l=none\/∃ i,i<=T.length/\QzE T i l) {i:Nat} (hi:i<T.length):JG ls T i=true↔∃ l∈ls,QzE T i l:=by
 have e:((i:Int),T.getD i [],false)=bkP T i:=by simp[bkP,hi]
 simp only[JG,QMh,decide_eq_true_eq,e];constructor
 ·rintro ⟨l,hl,hx⟩
  rcases h1 l hl with h1 | ⟨j,hj,hn⟩
  ·grind
  rw[(Qek h hn).1] at hx;injection hx with hx
  have:=Qzt hj (by omega) hx
  subst this
  grind
 rintro ⟨l,hl,hn⟩
 exact ⟨l,hl,(Qek h hn).1⟩
theorem Qgc {r:W} (h:plain r):plain (QQ r):=by
 intro c hc;simp only[QQ,QK0] at hc;rcases hc with (hc | hc) | hc
 ·exact h c hc
 ·exact Qa5 _ (by omega) c hc
 exact Qa5 _ (by omega) c hc
theorem Qg0 {T:List W} (h:Qcs T) (i:Nat):plain (bkN T i):=Qgc (Jw (QjT h i).1).1
theorem Qzu {T:List W} (h:Qcs T) (i:Nat):(bkN T i).length<=66/\6<=(bkN T i).length:=by
 have:=Jw (QjT h i).1;simp only[bkN,Z7];omega
def exA:W:=[48,48,97,98,54,54,50,50,10,48,49,99,48,51,53,55,10,46,46,48,50,54,50,54,53,10]
def exB:W:=[48,48,97,66,54,54,50,50,10,48,49,99,48,51,53,54,10,46,46,48,50,54,50,54,53,10]
def exC:W:=[48,48,65,66,54,54,50,50,10,48,49,99,48,51,53,55,10,46,46,48,50,54,50,54,53,10]
def exD:W:=exA++[48,49,100,48,52,54,48,10]
theorem ex_write:writeB [[97,98],[99]]=(exA,0):=by decide +kernel
end Go.Bk
namespace Go.Pp
open Go Go.Ev Go.Proofs Go.RowKit Go.Proofs.Tryz
variable {K:World->Prop} (hK:∀ w w',K w->Below w.heap.size w w'->K w')
open Go.Pf (Gd c224_ok)
attribute [simp] qi
abbrev W:=List UInt8
inductive Op where
 | and | or | ifw
 deriving DecidableEq
def Op.word:Op->W
 | .and=>[97,110,100]
 | .or=>[111,114]
 | .ifw=>[105,102]
def QuS:W:=[110,111,116]
def QzL (w:W):Option Op:=if w=[97,110,100] then some .and else if w=[111,114] then some .or else if w=[105,102] then some .ifw else none
def QI6 (w:W):Bool:=(QzL w).isSome
inductive Rd where
 | fact (n:Nat)
 | no (r:Rd)
 | bin (o:Op) (a b:Rd)
def QxV:Rd->List IV
 | .fact n=>[.int .i64 n,.str [],.nilp,.nilp]
 | .no r=>[.int .i64 0,.str QuS,.nilp,.ptr (QxV r)]
 | .bin o a b=>[.int .i64 0,.str o.word,.ptr (QxV a),.ptr (QxV b)]
@[simp] def enc (r:Rd):IV:=.ptr (QxV r)
def val:Rd->Nat->Bool
 | .fact n,t=>t.testBit n
 | .no r,t=>!val r t
 | .bin .and a b,t=>val a t&&val b t
 | .bin .or a b,t=>val a t||val b t
 | .bin .ifw a b,t=>val a t||!val b t
def QtO:Rd->W
 | .fact n=>[UInt8.ofNat (97+n)]
 | .no r=>[40,110,111,116,32]++QtO r++[41]
 | .bin o a b=>[40]++QtO a++[32]++o.word++[32]++QtO b++[41]
def fok:Rd->Prop
 | .fact n=>n<6
 | .no r=>fok r
 | .bin _ a b=>fok a/\fok b
@[simp] def Q0 (l:List Int):IV:=.sl 1 (l.map fun n=>[.int .i64 n])
@[simp] def QIG (l:List Nat):IV:=.sl 1 (l.map fun n=>[.int .u64 (n:Nat)])
@[simp] def strs (l:List W):IV:=.sl 1 (l.map fun s=>[.str s])
@[simp] def rds (l:List Rd):IV:=.sl 1 (l.map fun r=>[enc r])
@[simp] def Qnm (w:W) (fs:List Int):IV:=.agg [.str w,Q0 fs]
def QDT (a b:Int):Int:=if a=b then 1 else if a=0 then 2 else 3
def QIr (k:Int) (b:Bool):Bool:=if k=1 then b else if k=2 then !b else decide (k=3)
def QA3 (w:W) (a b:Nat):Nat:=if w=[97,110,100] then a &&& b else if w=[111,114] then a ||| b else a ||| (18446744073709551615 ^^^ b)
def QiI (n:Nat):Nat->Nat
 | 0=>0
 | i+1=>if i.testBit n then QiI n i ||| 2 ^ i else QiI n i
include hK
theorem Qok (n l h:Int):Gd K 224 [.int .i64 n,.int .i64 l,.int .i64 h] (.bool (decide (l<=n)&&decide (n<=h))):=by
 refine Qb hK c224_ok (by simp) ?_
 simp;omega
omit hK
def Qu (out:List W) (c:UInt8):List W:=if c=32 then out++[[]] else out.set (out.length-1) (out.getD (out.length-1) []++[c])
def spl (s:W):List W:=s.foldl Qu [[]]
def okT (fs:List Int) (n:Nat):Nat->Bool
 | 0=>true
 | i+1=>okT fs n i&&(!n.testBit i||decide (fs.getD i 0≠2))&&(n.testBit i||decide (fs.getD i 0≠1))
def QuV (fs:List Int) (m:Nat):List Nat:=(List.range m).filter fun n=>okT fs n fs.length
def QFn (fs:List Int):List Nat:=QuV fs (2 ^ fs.length)
@[simp] def ZZ (l:List Nat):IV:=.sl 1 (l.map fun n=>[.int .i64 (n:Nat)])
include hK
end Go.Pp
namespace Go.Pp
open Go Go.Ev Go.Proofs Go.RowKit Go.Proofs.Tryz
open Go.Pf (Gd c135_b0 c135_b1 c135_b2 c135_b3 c135_ok)
def Qab (n:Nat):List W->Option Nat
 | [[c]]=>if 97<=c.toNat/\c.toNat-97<n then some (c.toNat-97) else none
 | _=>none
def Xt (o:Op) (A B:List Rd):List Rd:=A.flatMap fun a=>B.map fun b=>.bin o a b
def Y8 (f:List W->List Rd) (ws:List W) (i:Nat):List Rd :=
 if i=0\/i+1=ws.length then [] else
  match QzL (ws.getD i []) with
  | none=>[]
  | some o=>Xt o (f (ws.take i)) (f (ws.drop (i+1)))
def Vw (f:List W->List Rd) (ws:List W):List Rd:=if 1<ws.length/\ws.getD 0 []=QuS then (f (ws.drop 1)).map .no else []
def Jy (f:List W->List Rd) (ws:List W) (i:Nat):List Rd:=Vw f ws++(List.range i).flatMap (Y8 f ws)
def rdg (n:Nat):Nat->List W->List Rd
 | 0,_=>[]
 | k+1,ws =>
   match Qab n ws with
   | some m=>[.fact m]
   | none=>Jy (rdg n k) ws ws.length
def mo:Nat->Nat->Nat
 | 0,_=>0
 | k+1,l=>if l<=1 then 1 else mo k (l-1)+((List.range l).map fun i=>if i=0\/i+1=l then 0 else mo k i*mo k (l-(i+1))).sum
theorem QDN:∀ k,k<=9->∀ l,l<=9->mo k l<=323:=by decide +kernel
theorem ZE {α β:Type} (g:α->List β) (c:Nat):∀ l:List α,(∀ x∈l,(g x).length<=c)->(l.flatMap g).length<=l.length*c
 | [],_=>by simp
 | a::l,h=>by
   have h1:=ZE g c l (fun x hx=>h x (by simp[hx]))
   have h2:=h a (by simp)
   simp only[QLH,QKW,QK6]
   grind
theorem QcT {α:Type} (f g:α->Nat):∀ l:List α,(∀ x∈l,f x<=g x)->(l.map f).sum<=(l.map g).sum
 | [],_=>by simp
 | a::l,h=>by
   have h1:=QcT f g l (fun x hx=>h x (by simp[hx]))
   grind
theorem Qbz (o:Op) (A B:List Rd):(Xt o A B).length=A.length*B.length:=by
 unfold Xt
 induction A with
 | nil=>simp
 | cons a A ih =>
   rw[QLH,QKW,ih,QKZ,QK6,QLx];omega
theorem Ql4 {n:Nat} {ws:List W} {m:Nat} (h:Qab n ws=some m):ws.length=1/\m<n:=by
 unfold Qab at h;split at h
 ·grind
 ·cases h
theorem Qeb (n:Nat):∀ (k:Nat) (ws:List W),(rdg n k ws).length<=mo k ws.length
 | 0,ws=>by simp[rdg]
 | k+1,ws=>by
   simp only[rdg];split
   ·rename_i m hm
    simp[mo,(Ql4 hm).1]
   ·simp only[mo]
    split
    ·rename_i h1
     have:Jy (rdg n k) ws ws.length=[]:=by
      have h2:Vw (rdg n k) ws=[]:=by simp[Vw];omega
      simp only[Jy,h2,QK5];rw[List.flatMap_eq_nil_iff];intro i hi;simp at hi;have:i=0:=by omega
      simp[Y8,this]
     grind
    ·simp only[Jy,QKW,List.length_flatMap]
     have h1:(Vw (rdg n k) ws).length<=mo k (ws.length-1):=by
      unfold Vw;split
      ·have:=Qeb n k (ws.drop 1)
       grind
      simp
     refine Nat.add_le_add h1 (QcT _ _ _ fun i hi=>?_)
     simp at hi;unfold Y8;split
     ·simp
     ·split
      ·simp
      ·rw[Qbz]
       have h2:=Qeb n k (ws.take i);have h3:=Qeb n k (ws.drop (i+1));rw[QLF,QLG (by omega)] at h2
       rw[List.length_drop] at h3;exact Nat.mul_le_mul h2 h3
theorem Qnc {n k:Nat} {ws:List W} (hk:k<=9) (hw:ws.length<=9):(rdg n k ws).length<=323:=QLp (Qeb n k ws) (QDN k hk _ hw)
@[simp] def ob (L:List Rd):Qr:=[(5,AO.arr 282 1 (emb (L.map fun r=>[enc r])) 0)]
theorem QlO (o:Op) (A B:List Rd) (j:Nat) (hj:j<A.length):Xt o (A.take (j+1)) B=Xt o (A.take j) B++B.map (Rd.bin o A[j]):=by
 rw[QKL hj];simp only[Xt,List.flatMap_append,QLH,List.flatMap_nil,QK9]
section
variable {K:World->Prop} {r:IV}
theorem QvO (o:Op) (w:W) (hw:w=o.word) (a:Rd) (X0 X1 X11 X68 X69 X70 X109 X110 X111:IV) (B L:List Rd) (kk:List AI) (hb:L.length+B.length<=1000000000)
  (h:ZB prog K (FnF (Ya [Y2.tmp 4] r)) c135_b1 [0,1,5,10,11,13,68,69,70,109,110,111,115,116,117] [5] kk
    [(0,.iv X0),(1,.iv X1),(5,AV.yo 5 (L++B.map (Rd.bin o a)).length),(10,AV.iv (.str w)),(11,.iv X11),(13,AV.iv (enc a)),(68,.iv X68),(69,.iv X69),(70,.iv X70),(109,.iv X109),(110,.iv X110),(111,.iv X111),(115,AV.iv (rds B)),(116,AV.iv (.int .i64 (B.length:Nat))),(117,AV.iv (.int .i64 (B.length:Nat)))] (ob (L++B.map (Rd.bin o a)))) :
  ZB prog K (FnF (Ya [Y2.tmp 4] r)) c135_b1 [0,1,5,10,11,13,68,69,70,109,110,111,115,116,117] [5] kk
   [(0,.iv X0),(1,.iv X1),(5,AV.yo 5 L.length),(10,AV.iv (.str w)),(11,.iv X11),(13,AV.iv (enc a)),(68,.iv X68),(69,.iv X69),(70,.iv X70),(109,.iv X109),(110,.iv X110),(111,.iv X111),(115,AV.iv (rds B)),(116,AV.iv (.int .i64 (B.length:Nat))),(117,AV.iv (.int .i64 0))] (ob L):=by
 have:=Xe (P:=prog) (K:=K) (F:=FnF (Ya [Y2.tmp 4] r)) (c:=c135_b1) (ks:=[0,1,5,10,11,13,68,69,70,109,110,111,115,116,117]) (ids:=[5]) (k:=kk)
  (fun m=>[(0,.iv X0),(1,.iv X1),(5,AV.yo 5 (L++(B.take m).map (Rd.bin o a)).length),(10,AV.iv (.str w)),(11,.iv X11),(13,AV.iv (enc a)),(68,.iv X68),(69,.iv X69),(70,.iv X70),(109,.iv X109),(110,.iv X110),(111,.iv X111),(115,AV.iv (rds B)),(116,AV.iv (.int .i64 (B.length:Nat))),(117,AV.iv (.int .i64 (m:Nat)))])
  (fun m=>ob (L++(B.take m).map (Rd.bin o a))) B.length (by simp_all) (fun i hi ih=>?_)
 ·simpa using this
 ·have e1:L++(B.take (i+1)).map (Rd.bin o a)=(L++(B.take i).map (Rd.bin o a))++[Rd.bin o a B[i]]:=by
   rw[QKL hi,QK3,<- QLz];rfl
  have e2:(L++(B.take i).map (Rd.bin o a)).length<=1000000000:=by
   simp;omega
  rw[e1] at ih;generalize L++(B.take i).map (Rd.bin o a)=Y at *;rw[Qa Go.Pf.c135_b1.eq_1];simp[QxV,<- hw] at ih;simp[hi];exact ⟨by omega,by omega,ih⟩
theorem QDO (o:Op) (w:W) (hw:w=o.word) (X0 X1 X68 X69 X70:IV) (A B L:List Rd) (kk:List AI) (hA:A.length<=323) (hB:B.length<=323) (hL:L.length<=9000000)
  (h:ZB prog K (FnF (Ya [Y2.tmp 4] r)) c135_b2 [0,1,5,10,11,68,69,70,109,110,111] [5] kk
    [(0,.iv X0),(1,.iv X1),(5,AV.yo 5 (L++Xt o A B).length),(10,AV.iv (.str w)),(11,.iv (rds B)),(68,.iv X68),(69,.iv X69),(70,.iv X70),(109,.iv (rds A)),(110,AV.iv (.int .i64 (A.length:Nat))),(111,AV.iv (.int .i64 (A.length:Nat)))] (ob (L++Xt o A B))) :
  ZB prog K (FnF (Ya [Y2.tmp 4] r)) c135_b2 [0,1,5,10,11,68,69,70,109,110,111] [5] kk
   [(0,.iv X0),(1,.iv X1),(5,AV.yo 5 L.length),(10,AV.iv (.str w)),(11,.iv (rds B)),(68,.iv X68),(69,.iv X69),(70,.iv X70),(109,.iv (rds A)),(110,AV.iv (.int .i64 (A.length:Nat))),(111,AV.iv (.int .i64 0))] (ob L):=by
 have:=Xe (P:=prog) (K:=K) (F:=FnF (Ya [Y2.tmp 4] r)) (c:=c135_b2) (ks:=[0,1,5,10,11,68,69,70,109,110,111]) (ids:=[5]) (k:=kk)
  (fun m=>[(0,.iv X0),(1,.iv X1),(5,AV.yo 5 (L++Xt o (A.take m) B).length),(10,AV.iv (.str w)),(11,.iv (rds B)),(68,.iv X68),(69,.iv X69),(70,.iv X70),(109,.iv (rds A)),(110,AV.iv (.int .i64 (A.length:Nat))),(111,AV.iv (.int .i64 (m:Nat)))])
  (fun m=>ob (L++Xt o (A.take m) B)) A.length (by simp_all) (fun i hi ih=>?_)
 ·simpa[Xt] using this
 ·have e2:(L++Xt o (A.take i) B).length<=100000000:=by
   rw[QKW,Qbz,QLF,QLG (by omega)]
   have:=Nat.mul_le_mul (show i<=323 by omega) hB
   omega
  rw[QlO o A B i hi,<- QLz] at ih;generalize L++Xt o (A.take i) B=Y at *;rw[Qa Go.Pf.c135_b2.eq_1];simp[hi];intro _
  have:=QvO (K:=K) (r:=r) o w hw A[i] X0 X1 (rds B) X68 X69 X70 (rds A) (.int .i64 (A.length:Nat)) (.int .i64 (i:Nat)) B Y
   (AI.inBlock 6::.inBlock 5::.code (.ops [⟨some 130,none,.bin .add (.t 111) (.int .i64 1)⟩,⟨some 111,none,.xh (.t 130)⟩] false)::.inLoop c135_b2 [0,1,5,10,11,68,69,70,109,110,111] [5]::kk) (by omega) ?_
  ·simpa using this
  ·rw[Qa Go.Pf.c135_b1.eq_1]
   simp at ih |-;exact ⟨by omega,ih⟩
theorem QDL (X0 X1:IV) (A:List Rd) (kk:List AI) (hA:A.length<=323)
  (h:ZB prog K (FnF (Ya [Y2.tmp 4] r)) c135_b0 [0,1,5,55,56,57] [5] kk
    [(0,.iv X0),(1,.iv X1),(5,AV.yo 5 (A.map Rd.no).length),(55,.iv (rds A)),(56,AV.iv (.int .i64 (A.length:Nat))),(57,AV.iv (.int .i64 (A.length:Nat)))] (ob (A.map Rd.no))) :
  ZB prog K (FnF (Ya [Y2.tmp 4] r)) c135_b0 [0,1,5,55,56,57] [5] kk
   [(0,.iv X0),(1,.iv X1),(5,AV.yo 5 0),(55,.iv (rds A)),(56,AV.iv (.int .i64 (A.length:Nat))),(57,AV.iv (.int .i64 0))] (ob []):=by
 have:=Xe (P:=prog) (K:=K) (F:=FnF (Ya [Y2.tmp 4] r)) (c:=c135_b0) (ks:=[0,1,5,55,56,57]) (ids:=[5]) (k:=kk)
  (fun m=>[(0,.iv X0),(1,.iv X1),(5,AV.yo 5 ((A.take m).map Rd.no).length),(55,.iv (rds A)),(56,AV.iv (.int .i64 (A.length:Nat))),(57,AV.iv (.int .i64 (m:Nat)))])
  (fun m=>ob ((A.take m).map Rd.no)) A.length (by grind) (fun i hi ih=>?_)
 ·grind
 ·have e1:(A.take (i+1)).map Rd.no=(A.take i).map Rd.no++[Rd.no A[i]]:=by
   rw[QKL hi,QK3];rfl
  have e2:((A.take i).map Rd.no).length<=323:=by
   simp;omega
  rw[e1] at ih;generalize (A.take i).map Rd.no=Y at *;rw[Qa Go.Pf.c135_b0.eq_1];simp[QxV,QuS] at ih;simp[hi];exact ⟨by omega,by omega,ih⟩
variable (hK:∀ w w',K w->Below w.heap.size w w'->K w')
include hK
theorem Qot (n:Nat) (hn:n<=6):∀ (k:Nat),k<=9->∀ ws:List W,ws.length<=k->Gd K 135 [strs ws,.int .i64 n] (rds (rdg n k ws))
 | 0,_,ws,hw=>by
   have:ws=[]:=List.length_eq_zero_iff.1 (by omega)
   subst this;refine Qb hK c135_ok (by simp) ?_
   simp[rdg];rw[Qa Go.Pf.c135_b3.eq_1];simp
 | k+1,hk,ws,hw=>by
   have IH:=Qot n hn k (by omega)
   have small:∀ ws:List W,ws.length<=k->(rdg n k ws).length<=323:=fun ws h=>Qnc (by omega) (by omega)
   refine Qb hK c135_ok (by simp) ?_
   generalize hf:rdg n k=f at *
   have outer:ZB prog K (FnF (Ya [Y2.tmp 4] (rds (Jy f ws ws.length)))) c135_b3 [0,1,5,68,69,70] [5] [AI.inBlock 2,AI.code (.seq (.ops [⟨some 132,none,.xh (.t 5)⟩,⟨some 4,none,.xh (.t 132)⟩] false) .ret)]
     [(0,.iv (strs ws)),(1,.iv (.int .i64 n)),(5,.yo 5 (Vw f ws).length),(68,.iv (strs ws)),(69,.iv (.int .i64 (ws.length:Nat))),(70,.iv (.int .i64 0))] (ob (Vw f ws)):=by
    have:=Xe (P:=prog) (K:=K) (F:=FnF (Ya [Y2.tmp 4] (rds (Jy f ws ws.length)))) (c:=c135_b3) (ks:=[0,1,5,68,69,70]) (ids:=[5]) (k:=[AI.inBlock 2,AI.code (.seq (.ops [⟨some 132,none,.xh (.t 5)⟩,⟨some 4,none,.xh (.t 132)⟩] false) .ret)])
     (fun i=>[(0,.iv (strs ws)),(1,.iv (.int .i64 n)),(5,.yo 5 (Jy f ws i).length),(68,.iv (strs ws)),(69,.iv (.int .i64 (ws.length:Nat))),(70,.iv (.int .i64 (i:Nat)))])
     (fun i=>ob (Jy f ws i)) ws.length ?_ (fun i hi ih=>?_)
    ·simpa[Jy] using this
    ·rw[Qa Go.Pf.c135_b3.eq_1]
     simp
    have e1:Jy f ws (i+1)=Jy f ws i++Y8 f ws i:=by
     simp[Jy,QLf]
    have e2:(Jy f ws i).length<=8000000:=by
     have h1:(Vw f ws).length<=323:=by
      unfold Vw;split
      ·rw[QKZ]
       exact small _ (by simp;omega)
      simp
     have h2:((List.range i).flatMap (Y8 f ws)).length<=i*(323*323):=by
      refine QLp (ZE _ (323*323) _ fun x hx=>?_) (by simp)
      simp at hx;unfold Y8;split
      ·simp
      split
      ·simp
      rw[Qbz];exact Nat.mul_le_mul (small _ (by simp;omega)) (small _ (by simp;omega))
     simp only[Jy,QKW];omega
    rw[e1] at ih;generalize Jy f ws i=Y at *;rw[Qa Go.Pf.c135_b3.eq_1]
    have skip:Y8 f ws i=[]->ZB prog K (FnF (Ya [Y2.tmp 4] (rds (Jy f ws ws.length)))) c135_b3 [0,1,5,68,69,70] [5] [AI.inBlock 2,AI.code (.seq (.ops [⟨some 132,none,.xh (.t 5)⟩,⟨some 4,none,.xh (.t 132)⟩] false) .ret)]
      [(0,.iv (strs ws)),(1,.iv (.int .i64 n)),(5,.yo 5 Y.length),(68,.iv (strs ws)),(69,.iv (.int .i64 (ws.length:Nat))),(70,.iv (.int .i64 ((i:Int)+1)))] (ob Y):=by
     intro h;rw[h] at ih;simpa using ih
    have go:∀ o:Op,ws[i]=o.word->¬ i=0->¬ i+1=ws.length->ZB prog K (FnF (Ya [Y2.tmp 4] (rds (Jy f ws ws.length)))) c135_b2 [0,1,5,10,11,68,69,70,109,110,111] [5]
      [.inBlock 4,.inBlock 3,.code (.ops [⟨some 131,none,.bin .add (.t 70) (.int .i64 1)⟩,⟨some 70,none,.xh (.t 131)⟩] false),.inLoop c135_b3 [0,1,5,68,69,70] [5],AI.inBlock 2,AI.code (.seq (.ops [⟨some 132,none,.xh (.t 5)⟩,⟨some 4,none,.xh (.t 132)⟩] false) .ret)]
      [(0,.iv (strs ws)),(1,.iv (.int .i64 n)),(5,.yo 5 Y.length),(10,.iv (.str ws[i])),(11,.iv (rds (f (ws.drop (i+1))))),(68,.iv (strs ws)),(69,.iv (.int .i64 (ws.length:Nat))),(70,.iv (.int .i64 (i:Nat))),
        (109,.iv (rds (f (ws.take i)))),(110,.iv (.int .i64 ((f (ws.take i)).length:Nat))),(111,.iv (.int .i64 0))] (ob Y):=by
     intro o ho c0 c1
     have e3:Y8 f ws i=Xt o (f (ws.take i)) (f (ws.drop (i+1))):=by
      have:QzL ws[i]=some o:=by rw[ho];cases o<;>rfl
      simp[Y8,c0,c1,hi,this]
     rw[e3] at ih;refine QDO o ws[i] ho (strs ws) (.int .i64 n) (strs ws) (.int .i64 (ws.length:Nat)) (.int .i64 (i:Nat)) _ _ Y _ (small _ (by simp;omega)) (small _ (by simp;omega)) (by omega) ?_
     rw[Qa Go.Pf.c135_b2.eq_1];simp at ih |-;exact ⟨by omega,ih⟩
    have hst:∀ o:Op,ws[i]=o.word->f (ws.drop (i+1))=[]->Y8 f ws i=[]:=by
     intro o ho he;have:QzL ws[i]=some o:=by rw[ho];cases o<;>rfl
     simp[Y8,hi,this,he,Xt]
    simp[hi];refine ⟨fun c0 hl=>⟨by omega,fun c1=>⟨fun ca=>⟨fun co=>⟨fun ci=>?s1,fun ci=>⟨by omega,by omega,fun _=>?g1⟩⟩,fun co=>⟨by omega,by omega,fun _=>?g2⟩⟩,fun ca=>⟨by omega,by omega,fun _=>?g3⟩⟩,fun c1=>?s2⟩,fun c0=>?s3⟩
    case s1 =>
     refine ⟨by omega,skip ?_⟩
     have:QzL ws[i]=none:=by simp[QzL,ca,co,ci]
     simp[Y8,hi,this]
    case s2 =>
     have c1':i+1=ws.length:=by omega
     exact ⟨by omega,skip (by simp[Y8,c1'])⟩
    case s3=>exact ⟨by omega,skip (by simp[Y8,c0])⟩
    case g1 =>
     rw[<- QME];refine Qf (IH (ws.drop (i+1)) (by simp;omega)) (by simp) ?_
     simp;intro _;refine ⟨fun e=>⟨by omega,skip (hst .ifw ci e)⟩,fun e=>⟨by omega,fun _=>?_⟩⟩
     rw[<- QMr];refine Qf (IH (ws.take i) (by simp;omega)) (by simp) ?_
     simp;intro _;have:=go .ifw ci c0 (by omega)
     simpa using this
    case g2 =>
     rw[<- QME];refine Qf (IH (ws.drop (i+1)) (by simp;omega)) (by simp) ?_
     simp;intro _;refine ⟨fun e=>⟨by omega,skip (hst .or co e)⟩,fun e=>⟨by omega,fun _=>?_⟩⟩
     rw[<- QMr];refine Qf (IH (ws.take i) (by simp;omega)) (by simp) ?_
     simp;intro _;have:=go .or co c0 (by omega)
     simpa using this
    case g3 =>
     rw[<- QME];refine Qf (IH (ws.drop (i+1)) (by simp;omega)) (by simp) ?_
     simp;intro _;refine ⟨fun e=>⟨by omega,skip (hst .and ca e)⟩,fun e=>⟨by omega,fun _=>?_⟩⟩
     rw[<- QMr];refine Qf (IH (ws.take i) (by simp;omega)) (by simp) ?_
     simp;intro _;have:=go .and ca c0 (by omega)
     simpa using this
   rcases ws with _ | ⟨w0,_ | ⟨w1,rest⟩⟩
   ·have h3:Vw f []=[]:=by simp[Vw]
    rw[h3] at outer;have h4:rdg n (k+1) []=Jy f [] 0:=by simp[rdg,Qab,hf]
    rw[h4];simp at outer |-;exact outer
   ·have h3:Vw f [w0]=[]:=by simp[Vw]
    rw[h3] at outer
    have go:Qab n [w0]=none->ZB prog K (FnF (Ya [Y2.tmp 4] (rds (rdg n (k+1) [w0])))) c135_b3 [0,1,5,68,69,70] [5] [AI.inBlock 2,AI.code (.seq (.ops [⟨some 132,none,.xh (.t 5)⟩,⟨some 4,none,.xh (.t 132)⟩] false) .ret)]
     [(0,.iv (strs [w0])),(1,.iv (.int .i64 n)),(5,.yo 5 0),(68,.iv (strs [w0])),(69,.iv (.int .i64 1)),(70,.iv (.int .i64 0))] (ob []):=by
     intro h;have h4:rdg n (k+1) [w0]=Jy f [w0] 1:=by simp[rdg,h,hf]
     rw[h4];exact outer
    rcases w0 with _ | ⟨c,_ | ⟨d,w0⟩⟩
    ·simp at go |-
     exact go rfl
    ·have h6:c.toNat<256:=c.toNat_lt
     by_cases h7:97<=c.toNat/\c.toNat-97<n
     ·have h8:IntKind.wrap .i64 (c.toNat:Int)=c.toNat:=wrap_i64 (by omega) (by omega)
      have h9:rdg n (k+1) [[c]]=[.fact (c.toNat-97)]:=by simp[rdg,Qab,h7]
      have h10:(97:Int)<=c.toNat:=by omega
      have h11:(c.toNat:Int)-97<n:=by omega
      have h12:((c.toNat-97:Nat):Int)=(c.toNat:Int)-97:=by omega
      rw[h9];simp[h8,h10,h11,QxV,h12];omega
     have h8:IntKind.wrap .i64 (c.toNat:Int)=c.toNat:=wrap_i64 (by omega) (by omega)
     have go':=go (by simp[Qab];omega)
     simp[h8] at go' |-;refine ⟨by omega,fun a=>⟨fun b=>absurd ⟨by omega,by omega⟩ h7,fun _=>go'⟩,fun _=>go'⟩
    have go':=go rfl;simp at go' |-;exact ⟨fun h=>by omega,fun _=>go'⟩
   have h4:rdg n (k+1) (w0::w1::rest)=Jy f (w0::w1::rest) (w0::w1::rest).length:=by simp[rdg,Qab,hf]
   have h5:(1:Int)<(rest.length:Int)+1+1:=by omega
   have h6:¬ (rest.length:Int)+1+1=1:=by omega
   rw[h4];by_cases h2:w0=QuS
   ·have h3:Vw f (w0::w1::rest)=(f (w1::rest)).map .no:=by simp[Vw,h2]
    rw[h3] at outer;have h7:((rest.length:Int)+1+1).toNat=rest.length+2:=by omega
    have h8:=small (w1::rest) (by simp at hw |-;omega)
    simp[QuS] at h2;simp[h2,h5,h6,h7];refine fun _=>⟨by omega,fun _=>?_⟩
    refine Qf (IH (w1::rest) (by simp at hw |-;omega)) (by simp) ?_
    simp;intro _;refine QDL _ _ _ _ h8 ?_;rw[Qa Go.Pf.c135_b0.eq_1];subst h2;simp at outer |-;exact fun _=>outer
   have h3:Vw f (w0::w1::rest)=[]:=by simp[Vw,h2]
   rw[h3] at outer;simp[QuS] at h2;simp at outer;simp[h2,h5,h6];exact fun _=>outer
end
end Go.Pp
namespace Go.Pp
open Go Go.Ev Go.Proofs Go.RowKit Go.Proofs.Tryz
def QzI:Rd->Nat
 | .fact n=>QiI n 64
 | .no r=>18446744073709551615 ^^^ QzI r
 | .bin o a b=>QA3 o.word (QzI a) (QzI b)
@[simp] def QKy (r:Rd):List IV:=[.str (QtO r),.int .u64 (QzI r:Nat)]
@[simp] def rrs (L:List Rd):IV:=.sl 2 (L.map fun r=>[.str (QtO r),.int .u64 (QzI r:Nat)])
@[simp] def ob2 (L:List Rd):Qr:=[(5,AO.arr 90311 2 (emb (L.map fun r=>[.str (QtO r),.int .u64 (QzI r:Nat)])) 0)]
def QBN (w:W) (n:Nat):List Rd:=((List.range n).filter fun m=>decide (w=[UInt8.ofNat (97+m)])).map Rd.fact
section
variable {K:World->Prop} {r:IV}
variable (hK:∀ w w',K w->Below w.heap.size w w'->K w')
include hK
end
end Go.Pp
namespace Go.Pp
open Go Go.Ev Go.Proofs Go.RowKit Go.Proofs.Tryz
open Go.Pf (Gd c52_b0 c52_b1 c52_b2 c52_ok)
def Up (ts:List Nat) (i:Nat) (k:Int):List Nat:=if k=1 then ts.map (· ||| 2 ^ i) else if k=3 then ts++ts.map (· ||| 2 ^ i) else ts
def trN (fs:List Int):Nat->List Nat
 | 0=>[0]
 | i+1=>Up (trN fs i) i (fs.getD i 0)
theorem QmM (fs:List Int):∀ i,(trN fs i).length<=2 ^ i
 | 0=>by simp[trN]
 | i+1=>by
   have:=QmM fs i;simp only[trN,Up];rw[Nat.pow_succ];split
   ·simp;omega
   split
   ·simp;omega
   omega
theorem QtN (fs:List Int):∀ i,∀ t∈trN fs i,t<2 ^ i
 | 0=>by simp[trN]
 | i+1=>by
   have ih:=QtN fs i;have h1:∀ t∈trN fs i,t<2 ^ (i+1):=fun t ht=>QLj (ih t ht) (QLB (by omega) (by omega))
   have h2:∀ t∈(trN fs i).map (· ||| 2 ^ i),t<2 ^ (i+1):=by
    intro t ht;rw[QK8] at ht;obtain ⟨u,hu,rfl⟩:=ht;exact QMm (h1 u hu) (QMl (by omega) (by omega))
   simp only[trN,Up];split
   ·exact h2
   ·split
    ·intro t ht
     rcases QK0.1 ht with c | c
     ·exact h1 t c
     exact h2 t c
    ·exact h1
@[simp] def ob3 (T:List Nat) (mv n:Nat):Qr:=[(16,AO.arr 192 1 (emb (T.map fun t=>[.int .u64 (t:Nat)])) mv),(18,AO.box [.iv (.sl 1 []),.yo 16 n])]
def QlR (T:List Nat) (b m:Nat):List Nat:=(T.take m).map (· ||| b)++T.drop m
theorem Qre (T:List Nat) (b m:Nat):(QlR T b m).length=T.length:=by
 simp[QlR];omega
theorem Qrf (T:List Nat) (b m:Nat) (h:m<T.length):(QlR T b m)[m]?=some T[m]:=by
 unfold QlR;rw[QK7 (by simp;omega)]
 simp[QLG (Nat.le_of_lt h),h]
theorem Qrd (T:List Nat) (b m:Nat) (h:m<T.length):(QlR T b m).set m (T[m] ||| b)=QlR T b (m+1):=by
 apply QMo;intro i;simp only[QlR,QMy,List.getElem?_append,QKU,QLt,QLT,QKZ,QLF,QKW,List.length_drop];by_cases h1:m=i
 ·subst h1
  have h5:¬ T.length-m=0:=by omega
  simp[QLG (Nat.le_of_lt h),QLG (show m+1<=T.length from h),h,h5]
 ·by_cases h2:i<m
  ·have h3:i<m+1:=by omega
   simp[QLG (Nat.le_of_lt h),QLG (show m+1<=T.length from h),h1,h2,h3]
  ·have h3:¬ i<m+1:=by omega
   have h4:m+(i-m)=m+1+(i-(m+1)):=by omega
   simp[QLG (Nat.le_of_lt h),QLG (show m+1<=T.length from h),h1,h2,h3,h4]
def J5 (fs:List Int):Bool:=fs.all (fun k=>decide (1<=k)&&decide (k<=3))&&decide (fs.length<=6)
def rs (s:W) (fs:List Int):List Rd:=if J5 fs=true/\(spl s).length<=9 then rdg fs.length 9 (spl s) else []
def err (s:W) (fs:List Int):Int:=if J5 fs=false then 130 else if rs s fs=[] then 131 else 0
def tru (fs:List Int):List Nat:=trN fs fs.length
def pap (s:W) (fs:List Int):IV:=if err s fs=0 then .ptr [rds (rs s fs),QIG (tru fs)] else .nilp
section
variable {K:World->Prop} {r:IV}
theorem QAh (X1 X20 X21 X22:IV) (T:List Nat) (i mv:Nat) (hi:i<6) (hT:T.length<=64) (ht:∀ t∈T,t<64) (hm:mv<=T.length) (kk:List AI)
  (h:∀ mv,mv<=T.length->ZB prog K (FnF (Ya [Y2.tmp 2,Y2.tmp 3] r)) c52_b0 [1,4,7,20,21,22,36,37] [16,18] kk
    [(1,.iv X1),(4,.loc 18 0),(7,.iv (.int .u64 (2 ^ i:Nat))),(20,.iv X20),(21,.iv X21),(22,.iv X22),(36,.iv (.int .i64 (T.length:Nat))),(37,.iv (.int .i64 (T.length:Nat)))] (ob3 (T.map (· ||| 2 ^ i)) mv T.length)) :
  ZB prog K (FnF (Ya [Y2.tmp 2,Y2.tmp 3] r)) c52_b0 [1,4,7,20,21,22,36,37] [16,18] kk
   [(1,.iv X1),(4,.loc 18 0),(7,.iv (.int .u64 (2 ^ i:Nat))),(20,.iv X20),(21,.iv X21),(22,.iv X22),(36,.iv (.int .i64 (T.length:Nat))),(37,.iv (.int .i64 0))] (ob3 T mv T.length):=by
 refine XV T.length (fun m e o=>∃ mv,mv<=T.length /\
  e=[(1,.iv X1),(4,.loc 18 0),(7,.iv (.int .u64 (2 ^ i:Nat))),(20,.iv X20),(21,.iv X21),(22,.iv X22),(36,.iv (.int .i64 (T.length:Nat))),(37,.iv (.int .i64 (m:Nat)))] /\
  o=ob3 (QlR T (2 ^ i) m) mv T.length) ?_ ?_ _ _ ⟨mv,hm,rfl,by simp[QlR]⟩
 ·rintro e o ⟨mv,h1,rfl,rfl⟩
  have:QlR T (2 ^ i) T.length=T.map (· ||| 2 ^ i):=by simp[QlR]
  rw[this];exact h mv h1
 ·rintro m e o hi' ⟨mv,h1,rfl,rfl⟩ ih
  have e1:=Qrf T (2 ^ i) m hi';have e2:=Qre T (2 ^ i) m;have e3:=Qrd T (2 ^ i) m hi';have e4:=ht _ (QKR hi');have e5:2 ^ i<=2 ^ 5:=QLB (by omega) (by omega)
  have e6:VV .or .u64 (T[m]:Int) (2 ^ i)=((T[m] ||| 2 ^ i:Nat):Int):=by
   have:=Qdb T[m] (2 ^ i) (by omega) (by omega)
   rw[<- this];simp
  have ih':=fun mv h=>ih _ _ ⟨mv,h,rfl,rfl⟩
  generalize QlR T (2 ^ i) m=Y at *;have e7:m<Y.length:=by omega
  have e8:Y[m]=T[m]:=by
   rw[QKM e7] at e1;injection e1
  have e9:(Y.map fun t=>[IV.int .u64 (t:Nat)]).set m [IV.int .u64 ((T[m] ||| 2 ^ i:Nat):Int)]=(QlR T (2 ^ i) (m+1)).map fun t=>[IV.int .u64 (t:Nat)]:=by
   rw[<- e3,List.map_set]
  have:=ih' T.length (QKS _);rw[Qa Go.Pf.c52_b0.eq_1];simp[hi',e2,e6,e8,e9];simp at this;exact ⟨h1,by omega,this⟩
theorem QAQ (X1 X20 X21 X22:IV) (T:List Nat) (i mv:Nat) (hi:i<6) (hT:T.length<=64) (ht:∀ t∈T,t<64) (hm:mv<=T.length) (kk:List AI)
  (h:ZB prog K (FnF (Ya [Y2.tmp 2,Y2.tmp 3] r)) c52_b1 [1,4,7,20,21,22,58,59,60] [16,18] kk
    [(1,.iv X1),(4,.loc 18 0),(7,.iv (.int .u64 (2 ^ i:Nat))),(20,.iv X20),(21,.iv X21),(22,.iv X22),(58,.yo 16 T.length),(59,.iv (.int .i64 (T.length:Nat))),(60,.iv (.int .i64 (T.length:Nat)))] (ob3 (T++T.map (· ||| 2 ^ i)) mv (T++T.map (· ||| 2 ^ i)).length)) :
  ZB prog K (FnF (Ya [Y2.tmp 2,Y2.tmp 3] r)) c52_b1 [1,4,7,20,21,22,58,59,60] [16,18] kk
   [(1,.iv X1),(4,.loc 18 0),(7,.iv (.int .u64 (2 ^ i:Nat))),(20,.iv X20),(21,.iv X21),(22,.iv X22),(58,.yo 16 T.length),(59,.iv (.int .i64 (T.length:Nat))),(60,.iv (.int .i64 0))] (ob3 T mv T.length):=by
 have:=Xe (P:=prog) (K:=K) (F:=FnF (Ya [Y2.tmp 2,Y2.tmp 3] r)) (c:=c52_b1) (ks:=[1,4,7,20,21,22,58,59,60]) (ids:=[16,18]) (k:=kk)
  (fun m=>[(1,.iv X1),(4,.loc 18 0),(7,.iv (.int .u64 (2 ^ i:Nat))),(20,.iv X20),(21,.iv X21),(22,.iv X22),(58,.yo 16 T.length),(59,.iv (.int .i64 (T.length:Nat))),(60,.iv (.int .i64 (m:Nat)))])
  (fun m=>ob3 (T++(T.take m).map (· ||| 2 ^ i)) mv (T++(T.take m).map (· ||| 2 ^ i)).length) T.length (by simp_all) (fun m hi' ih=>?_)
 ·simpa using this
 ·have e1:T++(T.take (m+1)).map (· ||| 2 ^ i)=(T++(T.take m).map (· ||| 2 ^ i))++[T[m] ||| 2 ^ i]:=by
   rw[QKL hi',QK3,<- QLz];rfl
  have e2:(T++(T.take m).map (· ||| 2 ^ i)).length<=128:=by
   simp;omega
  have e3:(T++(T.take m).map (· ||| 2 ^ i))[m]?=some T[m]:=by
   rw[QLd hi',QKM hi']
  have e4:=ht _ (QKR hi');have e5:2 ^ i<=2 ^ 5:=QLB (by omega) (by omega)
  have e6:VV .or .u64 (T[m]:Int) (2 ^ i)=((T[m] ||| 2 ^ i:Nat):Int):=by
   have:=Qdb T[m] (2 ^ i) (by omega) (by omega)
   rw[<- this];simp
  have e7:T.length<=(T++(T.take m).map (· ||| 2 ^ i)).length:=by simp
  rw[e1] at ih;generalize T++(T.take m).map (· ||| 2 ^ i)=Y at *
  rw[Qa Go.Pf.c52_b1.eq_1];simp[hi',e3,e6];simp at ih;exact ⟨⟨hm,e7⟩,hm,by omega,by omega,ih⟩
variable (hK:∀ w w',K w->Below w.heap.size w w'->K w') (hS:∀ s:W,s.length<=1000->Gd K 119 [.str s,.str [32]] (strs (spl s)))
include hK hS
theorem QBm (s:W) (fs:List Int) (hs:s.length<=1000) (hw:(spl s).length<=9\/11<(spl s).length):Gd K 52 [Qnm s fs] (.xg [pap s fs,.int .i64 (err s fs)]):=by
 refine Qb hK c52_ok (by simp) ?_
 simp;intro _;refine ⟨fun e=>?_,fun e _=>?_⟩
 ·have h1:J5 fs=false:=by simp[J5];omega
  simp[pap,err,h1]
 have hf:fs.length<=6:=by omega
 refine XV fs.length (fun i e o=>∃ mv,mv<=(trN fs i).length/\(∀ k∈fs.take i,1<=k/\k<=3) /\
  e=[(1,.iv (.ptr [.str s,Q0 fs])),(4,.loc 18 0),(20,.iv (Q0 fs)),(21,.iv (.int .i64 (fs.length:Nat))),(22,.iv (.int .i64 (i:Nat)))] /\
  o=ob3 (trN fs i) mv (trN fs i).length) ?_ ?_ _ _ ⟨0,by simp,by simp,rfl,rfl⟩
 ·rintro e o ⟨mv,h1,h2,rfl,rfl⟩
  have h3:J5 fs=true:=by
   simp at h2;simp[J5];exact ⟨h2,hf⟩
  rw[Qa Go.Pf.c52_b2.eq_1];simp;refine Qf (hS s hs) (by simp) ?_
  simp;intro _;refine ⟨fun e=>?_,fun e=>?_⟩
  ·have h4:rs s fs=[]:=by simp[rs];omega
   simp[pap,err,h3,h4]
  have h4:(spl s).length<=9:=by omega
  have h5:rs s fs=rdg fs.length 9 (spl s):=by simp[rs,h3,h4]
  refine fun _=>?_
  refine Qf (Qot hK fs.length hf 9 (by omega) (spl s) h4) (by simp) ?_
  rw[<- h5];simp;refine fun _=>⟨fun e=>?_,fun e=>?_⟩
  ·simp[pap,err,h3,e]
  simp[h1,pap,err,h3,e,tru]
 rintro i e o hi ⟨mv,h1,h2,rfl,rfl⟩ ih
 have l1:=QmM fs i;have l2:=QtN fs i;have e5:2 ^ i<=2 ^ 5:=QLB (by omega) (by omega)
 have e6:QtV .u64 1 (i:Int)=2 ^ i:=by
  have:=Qd1 1 i (by omega) (by omega)
  simpa using this
 have e7:trN fs (i+1)=Up (trN fs i) i fs[i]:=by simp[trN,hi]
 have ih':=fun mv h h'=>ih _ _ ⟨mv,h,h',rfl,rfl⟩
 rw[e7] at ih';generalize trN fs i=T at *;rw[Qa Go.Pf.c52_b2.eq_1]
 have ok:1<=fs[i]/\fs[i]<=3->∀ k∈fs.take (i+1),1<=k/\k<=3:=by
  intro h k hk;rw[QKL hi] at hk;rcases QK0.1 hk with c | c
  ·exact h2 k c
  rw[QLe] at c;omega
 simp[hi,e6];refine ⟨fun f1=>⟨h1,fun _=>?_⟩,fun f1=>⟨fun f2=>⟨by omega,?_⟩,fun f2=>⟨fun f3=>⟨h1,fun _=>?_⟩,fun f3=>?_⟩⟩⟩
 ·have e8:Up T i fs[i]=T.map (· ||| 2 ^ i):=by simp[Up,f1]
  rw[e8] at ih'
  have:=QAh (K:=K) (r:=.xg [pap s fs,.int .i64 (err s fs)]) (.ptr [.str s,Q0 fs]) (Q0 fs) (.int .i64 (fs.length:Nat)) (.int .i64 (i:Nat)) T i mv (by omega) (by omega)
   (fun t ht=>QLj (l2 t ht) (by omega)) h1
   [AI.inBlock 3,AI.inBlock 2,AI.inBlock 1,.code (.ops [⟨some 77,none,.bin .add (.t 22) (.int .i64 1)⟩,⟨some 22,none,.xh (.t 77)⟩] false),.inLoop c52_b2 [1,4,20,21,22] [16,18],AI.inBlock 0,.code (.seq (.ops [⟨some 78,none,.fld 0 (.t 1)⟩,⟨some 79,none,.ldi 1 false (.t 78)⟩,⟨some 80,none,.call 119 [.t 79,.str [32]] []⟩,⟨some 11,none,.xh (.t 80)⟩] false) (.seq (.seq (.ops [⟨some 81,none,.xh (.t 11)⟩,⟨some 82,none,.len (.t 81)⟩,⟨some 83,none,.bin .gtr (.t 82) (.int .i64 11)⟩] false) (.cond (.t 83) (.seq (.ops [⟨some 2,none,.xh (.nilp)⟩,⟨some 3,none,.xh (.int .i64 131)⟩] false) (.ret)) (.skip))) (.seq (.seq (.ops [⟨some 84,none,.xh (.t 4)⟩,⟨some 85,none,.xh (.t 11)⟩,⟨some 86,none,.fld 1 (.t 1)⟩,⟨some 87,none,.ldi 1 false (.t 86)⟩,⟨some 88,none,.len (.t 87)⟩,⟨some 89,none,.call 135 [.t 85,.t 88] []⟩,⟨some 90,none,.nilc (.t 84)⟩,⟨some 91,none,.fld 0 (.t 90)⟩,⟨none,none,.sto 18 1 (.t 91) (.t 89)⟩] false) (.seq (.ops [⟨some 92,none,.xh (.t 4)⟩,⟨some 93,none,.nilc (.t 92)⟩,⟨some 94,none,.fld 0 (.t 93)⟩,⟨some 95,none,.ldo 18 1 false (.t 94)⟩,⟨some 96,none,.len (.t 95)⟩,⟨some 97,none,.bin .eql (.t 96) (.int .i64 0)⟩] false) (.cond (.t 97) (.seq (.ops [⟨some 2,none,.xh (.nilp)⟩,⟨some 3,none,.xh (.int .i64 131)⟩] false) (.ret)) (.skip)))) (.seq (.ops [⟨some 98,none,.xh (.t 4)⟩,⟨some 2,none,.xh (.t 98)⟩,⟨some 3,none,.xh (.int .i64 0)⟩] false) (.ret)))))]
   ?_
  ·simpa using this
  intro mv' hm';have:=ih' mv' (by simpa using hm') (ok (by omega))
  rw[Qa Go.Pf.c52_b0.eq_1];simp at this |-;exact ⟨by omega,this⟩
 ·have e8:Up T i fs[i]=T:=by simp[Up,f2]
  rw[e8] at ih';have:=ih' mv h1 (ok (by omega))
  simpa using this
 ·have e8:Up T i fs[i]=T++T.map (· ||| 2 ^ i):=by simp[Up,f3]
  rw[e8] at ih'
  have:=QAQ (K:=K) (r:=.xg [pap s fs,.int .i64 (err s fs)]) (.ptr [.str s,Q0 fs]) (Q0 fs) (.int .i64 (fs.length:Nat)) (.int .i64 (i:Nat)) T i mv (by omega) (by omega)
   (fun t ht=>QLj (l2 t ht) (by omega)) h1
   [AI.inBlock 5,AI.inBlock 2,AI.inBlock 1,.code (.ops [⟨some 77,none,.bin .add (.t 22) (.int .i64 1)⟩,⟨some 22,none,.xh (.t 77)⟩] false),.inLoop c52_b2 [1,4,20,21,22] [16,18],AI.inBlock 0,.code (.seq (.ops [⟨some 78,none,.fld 0 (.t 1)⟩,⟨some 79,none,.ldi 1 false (.t 78)⟩,⟨some 80,none,.call 119 [.t 79,.str [32]] []⟩,⟨some 11,none,.xh (.t 80)⟩] false) (.seq (.seq (.ops [⟨some 81,none,.xh (.t 11)⟩,⟨some 82,none,.len (.t 81)⟩,⟨some 83,none,.bin .gtr (.t 82) (.int .i64 11)⟩] false) (.cond (.t 83) (.seq (.ops [⟨some 2,none,.xh (.nilp)⟩,⟨some 3,none,.xh (.int .i64 131)⟩] false) (.ret)) (.skip))) (.seq (.seq (.ops [⟨some 84,none,.xh (.t 4)⟩,⟨some 85,none,.xh (.t 11)⟩,⟨some 86,none,.fld 1 (.t 1)⟩,⟨some 87,none,.ldi 1 false (.t 86)⟩,⟨some 88,none,.len (.t 87)⟩,⟨some 89,none,.call 135 [.t 85,.t 88] []⟩,⟨some 90,none,.nilc (.t 84)⟩,⟨some 91,none,.fld 0 (.t 90)⟩,⟨none,none,.sto 18 1 (.t 91) (.t 89)⟩] false) (.seq (.ops [⟨some 92,none,.xh (.t 4)⟩,⟨some 93,none,.nilc (.t 92)⟩,⟨some 94,none,.fld 0 (.t 93)⟩,⟨some 95,none,.ldo 18 1 false (.t 94)⟩,⟨some 96,none,.len (.t 95)⟩,⟨some 97,none,.bin .eql (.t 96) (.int .i64 0)⟩] false) (.cond (.t 97) (.seq (.ops [⟨some 2,none,.xh (.nilp)⟩,⟨some 3,none,.xh (.int .i64 131)⟩] false) (.ret)) (.skip)))) (.seq (.ops [⟨some 98,none,.xh (.t 4)⟩,⟨some 2,none,.xh (.t 98)⟩,⟨some 3,none,.xh (.int .i64 0)⟩] false) (.ret)))))]
   ?_
  ·simpa using this
  have:=ih' mv (by simp;omega) (ok (by omega))
  rw[Qa Go.Pf.c52_b1.eq_1];simp at this |-;exact ⟨by omega,this⟩
 have h3:J5 fs=false:=by
  cases hc:J5 fs with
  | false=>rfl
  | true =>
    simp[J5] at hc;have:=hc.1 _ (QKR hi);omega
 simp[pap,err,h3]
end
end Go.Pp
namespace Go.Pp
open Go Go.Ev
theorem W7 (x:List W) (l:W) (c:UInt8):Qu (x++[l]) c=x++Qu [l] c:=by
 unfold Qu;split
 ·simp
 ·simp
theorem QgC (s:W):∀ (x:List W) (l:W),s.foldl Qu (x++[l])=x++s.foldl Qu [l]:=by
 induction s with
 | cons c s ih =>
   intro x l;simp only[QLs];rw[W7];by_cases h:c=32
   ·have e:Qu [l] c=[l]++[[]]:=by simp[Qu,h]
    grind
   have e:Qu [l] c=[l++[c]]:=by simp[Qu,h]
   rw[e,ih]
 | _=>grind
def join:List W->W
 | []=>[]
 | [w]=>w
 | w::v::r=>w++32::join (v::r)
theorem QrV (s:W):∀ l:W,s.foldl Qu [l]≠[]:=by
 induction s with
 | cons c s ih =>
   intro l;simp only[QLs];by_cases h:c=32
   ·have e:Qu [l] c=[l]++[[]]:=by simp[Qu,h]
    rw[e,QgC];simp
   have e:Qu [l] c=[l++[c]]:=by simp[Qu,h]
   grind
 | _=>grind
theorem Qbd (a b:W):spl (a++32::b)=spl a++spl b:=by
 unfold spl;rw[QL4];have h:=QrV a [];generalize a.foldl Qu [[]]=x at *;obtain ⟨y,l,rfl⟩:∃ y l,x=y++[l]:=⟨x.dropLast,x.getLast h,(QLN h).symm⟩
 simp only[QLs];have e:Qu (y++[l]) 32=(y++[l])++[[]]:=by simp[Qu]
 rw[e,QgC]
theorem QdZ (a:W) (h:32 ∉ a):spl a=[a]:=by
 have:∀ (a l:W),32 ∉ a->a.foldl Qu [l]=[l++a]:=by
  intro a
  induction a with
  | cons c s ih =>
    intro l h;simp only[QKV,not_or] at h;have e:Qu [l] c=[l++[c]]:=by simp[Qu,Ne.symm h.1]
    simp_all
  | _=>grind
 have:=this a [] h;simpa[spl] using this
def Qhm:Rd->List W
 | .fact n=>[[UInt8.ofNat (97+n)]]
 | .no r=>QuS::Qhm r
 | .bin o a b=>Qhm a++o.word::Qhm b
end Go.Pp
namespace Go.Pp
open Go Go.Ev Go.Proofs Go.RowKit Go.Proofs.Tryz
open Go.Pf (Gd c20_ok)
def fit (s:W):Prop:=s.length<=1000/\((spl s).length<=9\/11<(spl s).length)
def QCP (s:W) (fs:List Int) (n:Int):Option Rd:=if 0<=n then (rs s fs)[n.toNat]? else none
def QDF (s:W) (fs:List Int) (n:Int):Int:=if err s fs≠0 then err s fs else if (QCP s fs n).isSome then 0 else 1
def cnt (fs:List Int) (r:Rd):Nat:=(tru fs).countP (val r)
theorem QAJ {s:W} {fs:List Int} (h:err s fs≠0):rs s fs=[]:=by
 unfold err at h;split at h
 ·rename_i h1
  simp[rs,h1]
 grind
def QFj (s:W) (fs:List Int) (n:Int):IV:=.xg [.str (match QCP s fs n with | some r=>QtO r | none=>[]),.int .i64 (QDF s fs n)]
def QFI (s:W) (fs:List Int) (n:Int):IV:=.xg [.int .i64 (match QCP s fs n with | some r=>(cnt fs r:Nat) | none=>0),.int .i64 (QDF s fs n)]
def Qem (fs:List Int) (r:Rd):Int:=QDT (cnt fs r:Nat) ((tru fs).length:Nat)
def QFy (s:W) (fs:List Int) (n:Int):IV:=.xg [.int .i64 (match QCP s fs n with | some r=>Qem fs r | none=>0),.int .i64 (QDF s fs n)]
section
variable {K:World->Prop} (hK:∀ w w',K w->Below w.heap.size w w'->K w')
include hK
variable (hS:∀ s:W,s.length<=1000->Gd K 119 [.str s,.str [32]] (strs (spl s)))
include hS
theorem good20 (s:W) (fs:List Int) (hs:fit s):Gd K 20 [Qnm s fs] (.xg [.int .i64 ((rs s fs).length:Nat),.int .i64 (err s fs)]):=by
 refine Qb hK c20_ok (by simp) ?_
 simp;refine Qf (QBm hK hS s fs hs.1 hs.2) (by simp) ?_
 by_cases h:err s fs=0
 ·simp[h,pap]
 simp[h,pap,QAJ h]
end
open Go.Pf (Gd c21_ok)
def Qtm (c:Rd->Nat) (L:List Rd):Nat->Nat
 | 0=>0
 | i+1=>match L[i]?,L[Qtm c L i]? with
   | some a,some b=>if c a<c b then i else Qtm c L i
   | _,_=>Qtm c L i
def QDt (s:W) (fs:List Int):IV:=.xg [.int .i64 (Qtm (cnt fs) (rs s fs) (rs s fs).length:Nat),.int .i64 (err s fs)]
def Qx8 (fs:List Int):List Rd->Int
 | []=>0
 | r::L=>if (r::L).all (fun a=>decide (Qem fs a=Qem fs r)) then Qem fs r else 3
def QFH (s:W) (fs:List Int):IV:=.xg [.int .i64 (Qx8 fs (rs s fs)),.int .i64 (err s fs)]
def QJi (s:W) (fs:List Int):Bool:=decide (40<fs.length)||decide (100<s.length)||decide (9<(spl s).length)
def QFr (s:W) (fs:List Int):Bool:=!QJi s fs&&decide (err s fs=0)
section
variable {K:World->Prop} (hK:∀ w w',K w->Below w.heap.size w w'->K w')
include hK
theorem good21:Gd K 21 [] (Qnm [110,111,116,32,97,32,97,110,100,32,98,32,111,114,32,99] [3,3,1]):=by
 refine Qb hK c21_ok (by simp) ?_
 simp
variable (hS:∀ s:W,s.length<=1000->Gd K 119 [.str s,.str [32]] (strs (spl s)))
include hS
end
open Go.Pf (Gd)
def Qnx (fs:List Int) (L:List Rd) (i:Nat):Bool:=(tru fs).any fun t=>L.any fun r=>val r t != val r (t ^^^ 2 ^ i)
def Qrg (fs:List Int) (L:List Rd) (m:Nat):List Nat:=(List.range m).filter fun i=>decide (fs.getD i 0=3)&&Qnx fs L i
def Qrh (s:W) (fs:List Int):List Nat:=Qrg fs (rs s fs) fs.length
def QCT (s:W) (fs:List Int):IV:=.xg [ZZ (Qrh s fs),.int .i64 (err s fs)]
def clash (L:List Rd) (t:Nat):Bool:=match L with | []=>false | r0::L'=>(r0::L').any fun r=>val r t != val r0 t
def QiN (s:W) (fs:List Int):Option Nat:=(tru fs).find? (clash (rs s fs))
def QCr (t n:Nat):List Nat:=(List.range n).map fun i=>(t.testBit i).toNat
def QBT (s:W) (fs:List Int):Int:=if err s fs≠0 then err s fs else match QiN s fs with | some _=>0 | none=>3
def QBS (s:W) (fs:List Int):List Nat:=if err s fs≠0 then [] else match QiN s fs with | some t=>QCr t fs.length | none=>[]
def QFF (s:W) (fs:List Int):IV:=.xg [ZZ (QBS s fs),.int .i64 (QBT s fs)]
def QFJ (s:W) (fs:List Int):IV:=.xg [.bool (decide (err s fs=0)&&(QiN s fs).isNone),.int .i64 (err s fs)]
@[simp] def ob4 (id:Nat) (M:List Nat):Qr:=[(id,AO.arr 3 1 (emb (M.map fun n=>[.int .i64 (n:Nat)])) 0)]
section
variable {K:World->Prop} (hK:∀ w w',K w->Below w.heap.size w w'->K w')
include hK
variable (hS:∀ s:W,s.length<=1000->Gd K 119 [.str s,.str [32]] (strs (spl s)))
include hS
omit hS
end
open Go.Pf (Gd)
section
variable {K:World->Prop} (hK:∀ w w',K w->Below w.heap.size w w'->K w')
include hK
def QFo (s:W) (fs:List Int):List W:=(rs s fs).map QtO
variable (hS:∀ s:W,s.length<=1000->Gd K 119 [.str s,.str [32]] (strs (spl s)))
include hS
end
open Go.Pf (Gd)
def exW:W:=[110,111,116,32,97,32,97,110,100,32,98,32,111,114,32,99]
def exF:List Int:=[3,3,1]
def exT:W:=[40,40,110,111,116,32,40,97,32,97,110,100,32,98,41,41,32,111,114,32,99,41]
theorem ex_fit:fit exW:=by
 unfold fit;decide +kernel
theorem ex_err:err exW exF=0:=by decide +kernel
theorem ex_len:(rs exW exF).length=5:=by decide +kernel
def QDI (v:List Int):Nat->Nat
 | 0=>0
 | i+1=>QDI v i+(v.getD i 0).toNat*2 ^ i
def QDH (fs v:List Int):Bool:=decide (v.length=fs.length)&&v.all fun x=>decide (0<=x)&&decide (x<=1)
def Qdd (fs v:List Int):IV:=if QDH fs v then .xg [.int .i64 (QDI v v.length:Nat),.bool (decide (QDI v v.length∈tru fs))] else .xg [.int .i64 0,.bool false]
section
variable {K:World->Prop} (hK:∀ w w',K w->Below w.heap.size w w'->K w')
include hK
variable (hS:∀ s:W,s.length<=1000->Gd K 119 [.str s,.str [32]] (strs (spl s)))
include hS
end
end Go.Pp
namespace Go.Bk
open Go Go.Ev Go.Proofs Go.RowKit Go.Proofs.Tryz
theorem QtT (s:W):spl (10::s)=[]::spl s:=by simp[spl]
theorem V0 (c:UInt8) (s:W) (h:c≠10):spl (c::s)=(c::(spl s).headD [])::(spl s).tail:=by simp[spl,h]
theorem splitK_spl:∀ s:W,Lib.splitK [10] 0 (Lib.count s [10]) s=spl s
 | []=>by
   rw[Lib.count_miss (by simp[Lib.index])]
   rfl
 | c::s=>by
   have ih:=splitK_spl s;by_cases h:c=10
   ·subst h
    have hix:Lib.index ((10:UInt8)::s) [10]=0:=by rw[Lib.index];simp_all
    rw[Lib.count_cons_eq,Nat.add_comm,Lib.splitK,hix,QtT,<- ih];simp
   ·rw[Lib.count_cons_ne c 10 s h,V0 c s h,<- ih]
    have hp:([10]:List UInt8).isPrefixOf (c::s)=false:=by simp[List.isPrefixOf,Ne.symm h]
    have hix:Lib.index (c::s) [10]=if Lib.index s [10] == -1 then -1 else Lib.index s [10]+1:=by rw[Lib.index,hp];simp
    cases hk:Lib.count s [10] with
    | zero=>simp[Lib.splitK]
    | succ k =>
      have hm:¬ Lib.index s [10] = -1:=fun e=>by rw[Lib.count_miss e] at hk;cases hk
      have hge:=Lib.index_ge s [10];obtain ⟨j,hj⟩:∃ j:Nat,Lib.index s [10]=j:=⟨(Lib.index s [10]).toNat,by omega⟩
      have h1:¬ ((j:Int) == -1)=true:=by simp
      have h2:¬ ((j:Int)+1 == -1)=true:=by simp;omega
      have h3:((j:Int)+1).toNat=j+1:=by omega
      simp only[Lib.splitK,hix,hj,if_neg h1,if_neg h2,h3,QLQ];simp
theorem spl_len:∀ s:W,(spl s).length<=s.length+1
 | []=>by simp[spl]
 | c::s=>by
   have ih:=spl_len s;by_cases h:c=10
   ·subst h;rw[QtT];simp;exact ih
   ·rw[V0 c s h];simp;omega
end Go.Bk
namespace Go.Pf
open Go Go.Ev Go.Proofs Go.RowKit Go.Proofs.Tryz
theorem hSB (s:Txt) (hs:s.length<=1000000):Gd KW 119 [.str s,.str [10]] (Bk.strs (Bk.spl s)):=by
 intro w ok vs hk hok hl hx
 obtain ⟨v0,v1,rfl⟩:∃ v0 v1,vs=[v0,v1]:=by
  match vs,hl with
  | [a,b],_=>grind
 have r0:=hx 0 _ v0 rfl rfl;have r1:=hx 1 _ v1 rfl rfl;cases r0;cases r1;have:=Any.strings_Split_shaped Tryz.laysM146 ⟨s.toArray⟩ ⟨[10].toArray⟩ w hk.shaped (by simp[ByteArray.size];omega) (by simp[ByteArray.size])
 refine this.mono fun e w' ⟨he,hw⟩=>?_
 subst he hw;have hb:=QA w (.cells ((Lib.splitB ⟨[10].toArray⟩ 0 (Lib.countB ⟨s.toArray⟩ ⟨[10].toArray⟩) ⟨s.toArray⟩).map Value.string).toArray (Tryz.laysM146_ren.t 9))
 have hd:(Lib.splitB ⟨[10].toArray⟩ 0 (Lib.countB ⟨s.toArray⟩ ⟨[10].toArray⟩) ⟨s.toArray⟩).map (·.data.toList)=Bk.spl s:=by
  rw[Lib.splitB_data];exact Bk.splitK_spl s
 have hlen:=Lib.splitB_all ⟨[10].toArray⟩ (by simp[ByteArray.size]) 0 _ ⟨s.toArray⟩ rfl
 generalize Lib.countB ⟨s.toArray⟩ ⟨[10].toArray⟩=n at *;generalize Lib.splitB ⟨[10].toArray⟩ 0 n ⟨s.toArray⟩=L at *;refine ⟨_,rfl,?_,hb⟩;have hl2:(Bk.spl s).length=n+1:=by grind
 have hnl:n+1<=maxLen:=by
  have:=Bk.spl_len s;simp only[maxLen];omega
 have rep:=QS.sl (ok:=ok) (w:=w.alloc (.cells (L.map Value.string).toArray (Tryz.laysM146_ren.t 9))) 1 ((Bk.spl s).map fun s=>[IV.str s]) w.heap.size 0 (n+1) (fun k=>.string (L.getD k default)) (by simp[hl2]) hnl (by simp) (fun k hk=>?_) (fun i j c x hi hj=>?_)
 ·simpa[hl2] using rep
 ·simp[hl2] at hk
  have hkl:k<L.length:=by omega
  refine ⟨hok _ (QKS _),?_,rfl⟩;rw[QLb];exact Yg w _ _ k _ (by simp[hkl])
 ·simp only[QKU,QKQ] at hi
  obtain ⟨t,ht,rfl⟩:=hi
  have hj0:j=0:=by
   grind
  subst hj0;simp at hj;subst hj;rw[<- hd,QKU,QKQ] at ht;obtain ⟨z,hz,rfl⟩:=ht;have e:L.getD (i*1+0) default=z:=by simp[hz]
  rw[e];have:=QS.str (ok:=ok) (w:=w.alloc (.cells (L.map Value.string).toArray (Tryz.laysM146_ren.t 9))) z.data.toList;omega
set_option maxRecDepth 8000
set_option maxHeartbeats 1000000
theorem hSP (s:Txt) (hs:s.length<=1000):Gd KW 119 [.str s,.str [32]] (Pp.strs (Pp.spl s)):=Qox s hs
def QqC:Qd:=Qg exH ⟨3,0,0,0,0⟩
theorem Qr3:OkC QqC.ze.zc:=by
 refine ⟨by decide,by decide,by decide,fun i h _=>?_,fun s hs=>by simp[QqC,Qg,exH,exP,exC] at hs⟩
 have all:∀ i<8,Zr (QqC.ze.zc.za.getD i d0) (cnt QqC.ze.zc.za i):=by decide
 have:=all i h
 grind
theorem QoO:okH QqC:=by
 refine ⟨⟨Qr3,QoL,by decide,by decide,by decide,fun i h h'=>?_⟩,QgH⟩
 have all:∀ i<2,Yt (QqC.ze.zf.getD i t0) (cnt QqC.ze.zc.za ((pv QqC.ze.zc.za).getD i 0)):=by decide
 have:=all i h'
 grind
theorem QFz:QP exH [119,104,111,32,48]=([48,32,49],exH):=lv1
theorem QIK:QP exH [116,117,114,110]=([121,101,115],QqC):=by
 unfold QP;rw[pW];simp only;rw[Zz (h':=QqC) rfl rfl];unfold chT chH;rw[if_pos QoO,if_pos QoO];rfl
theorem QIE:Qt0 exH exW=[[48,32,49],[121,101,115]]:=by
 have e1:Qi exH exW 1=exH:=by rw[Q2 exH exW 0 (by decide)];exact congrArg Prod.snd QFz
 unfold Qt0;rw[if_pos Qdw,if_neg (by decide)]
 show Xh exH exW 2=_
 rw[qB exH exW 1 (by decide),qB exH exW 0 (by decide),e1]
 show []++[(QP exH [119,104,111,32,48]).1]++[(QP exH [116,117,114,110]).1]=_
 rw[QFz,QIK];rfl
theorem QDz:QtZ exH exW=0:=by
 unfold QtZ;rw[if_pos Qdw,if_neg (by decide)]
theorem QD3:Gd KW 7 [] (.bool true):=by
 refine Qb hKW (fk func7 c7 (by kernel_rfl)) (by simp) ?_
 have g10:=Bk.good8 hKW [[97,98],[99]] (by simp)
 have g35:=Pp.good21 hKW;have g28:=Pp.good20 hKW hSP Pp.exW Pp.exF Pp.ex_fit;have g36:=QBB hKW;have g14:=Qxl;have g15:=Qov hKW [[48,32,49],[121,101,115]] [[48,32,49],[121,101,115]] (by decide) (by decide)
 rw[Bk.ex_write] at g10;rw[Pp.ex_len,Pp.ex_err] at g28;rw[QIE,QDz] at g14;generalize QhF exH exW=H at g14;simp
 repeat first | intro _ | refine ⟨by omega,?_⟩
 refine cK (by simpa[Bk.exA] using g10) ?_
 simp
 repeat first | intro _ | refine ⟨by omega,?_⟩
 refine cK (by omega) ?_
 simp
 repeat first | intro _ | refine ⟨by omega,?_⟩
 refine cK (by simpa[Pp.exW,Pp.exF] using g28) ?_
 simp
 repeat first | intro _ | refine ⟨by omega,?_⟩
 refine cK (by omega) ?_
 simp
 repeat first | intro _ | refine ⟨by omega,?_⟩
 refine cK (by simpa[exW] using g14) ?_
 simp
 repeat first | intro _ | refine ⟨by omega,?_⟩
 refine cK (by simpa using g15) ?_
 simp
end Go.Pf
namespace Go.Bk
open Go Go.Ev Go.Proofs Go.RowKit Go.Proofs.Tryz
set_option maxRecDepth 8000
def Yo (l:W) (a:Int):W:=if 0<=a/\a<l.length then l.take a.toNat++[l.getD a.toNat 0 ^^^ 1]++l.drop (a.toNat+1) else l
theorem QeF (l:W) (a:Int):(Yo l a).length=l.length:=by
 unfold Yo;split
 ·simp
  omega
 rfl
theorem QoA (l:W) (a:Int):Xb (Yo l a) l<=1:=by
 unfold Yo;split
 ·rename_i h
  have hi:a.toNat<l.length:=by omega
  have e:l=l.take a.toNat++([l[a.toNat]]++l.drop (a.toNat+1)):=by simp
  conv=>lhs;arg 2;rw[e]
  rw[QLz,YA _ _ _ _ rfl,JI,YA [l.getD a.toNat 0 ^^^ 1] [l[a.toNat]] _ _ rfl,JI];simp only[Xb];split<;>omega
 rw[JI];omega
theorem QxH {l:W} (h:plain l) (a:Int):(10:UInt8) ∉ Yo l a:=by
 have h10:(10:UInt8) ∉ l:=fun c=>by have:=h _ c;grind
 unfold Yo;split
 ·rename_i hc
  have hi:a.toNat<l.length:=by omega
  intro c;simp only[QK0,QLe] at c;rcases c with (c | c) | c
  ·grind
  ·have h1:=h _ (QKR hi)
   rw[List.getD_eq_getElem?_getD,QKM hi,QLu] at c;generalize l[a.toNat]=x at *
   have:x=11:=by
    have h2:x=10 ^^^ 1:=by rw[c,UInt8.xor_assoc,UInt8.xor_self,UInt8.xor_zero]
    rw[h2];decide
   simp_all
  grind
 ·exact h10
def Qfm (T:List W) (ats:List Int) (i:Nat):W:=Yo (bkN T i) (ats.getD i (-1))
def spoil (T:List W) (ats:List Int):List W:=(List.range (T.length+1)).map (Qfm T ats)
theorem W6 (T:List W) (ats:List Int) (i:Nat):QzE T i (Qfm T ats i):=⟨QeF _ _,QoA _ _⟩
theorem VD {T:List W} {ats:List Int} {l:W}:l∈spoil T ats↔∃ i,i<=T.length/\l=Qfm T ats i:=by
 unfold spoil;rw[QK8];constructor
 ·grind
 grind
theorem spoil_cut {T:List W} (h:Qcs T) (ats:List Int):cutL (jn (spoil T ats))=some (spoil T ats):=by
 refine QuC _ (fun e=>?_) fun l hl=>?_
 ·have:=congrArg List.length e
  simp[spoil] at this
 obtain ⟨i,_,rfl⟩:=VD.1 hl;exact QxH (Qg0 h i) _
theorem read_spoil {T:List W} (h:Qcs T) (ats:List Int):∃ m,readB (jn (spoil T ats))=(T,m,0):=by
 have h1:∀ l∈spoil T ats,rd l=none\/∃ i,i<=T.length/\QzE T i l:=by
  intro l hl;obtain ⟨i,hi,rfl⟩:=VD.1 hl;exact .inr ⟨i,hi,W6 T ats i⟩
 have hb:=Qvs h h1 ⟨_,VD.2 ⟨T.length,QKS _,rfl⟩,W6 T ats T.length⟩;unfold readB;rw[spoil_cut h];simp only;rw[Qnb hb,if_pos]
 ·grind
 rw[QLo];intro i hi;rw[QLi] at hi;exact (Ql1 h h1 hi).2 ⟨_,VD.2 ⟨i,by omega,rfl⟩,W6 T ats i⟩
open Go.Pf (Gd)
set_option maxRecDepth 8000
def jnL (lines:List W) (lost:List Int) (i:Nat):List W:=((List.range i).filter fun k=>decide (lost.getD k 0=0)).map fun k=>lines.getD k []
section
variable {K:World->Prop} (hK:∀ w w',K w->Below w.heap.size w w'->K w')
include hK
variable (hS:∀ s:W,s.length<=1000000->Gd K 119 [.str s,.str [10]] (strs (spl s)))
include hS
end
end Go.Bk
namespace Go.Bk
open Go Go.Ev Go.RowKit
@[simp] def QD0 (x:Int × Int × UInt8):List IV:=[.int .i64 x.1,.int .i64 x.2.1,.int .u8 (x.2.2.toNat:Nat)]
@[simp] def QI7 (l:List (Int × Int × UInt8)):IV:=.sl 3 (l.map QD0)
end Go.Bk
namespace Go.Bk
open Go Go.Ev Go.Proofs Go.RowKit Go.Proofs.Tryz
variable {K:World->Prop} (hK:∀ w w',K w->Below w.heap.size w w'->K w')
set_option maxRecDepth 8000
abbrev Hm:=Int × Int × UInt8
abbrev Hs:=List W × List Int × List Int
def hCh (l:W) (x:Hm):W:=l.take x.2.1.toNat++[x.2.2]++l.drop (x.2.1.toNat+1)
def QD2 (s:Hs) (x:Hm):Bool:=decide (x.1<0)||decide ((s.1.length:Int)<=x.1)||decide (0<s.2.2.getD x.1.toNat 0)
def QI8 (s:Hs) (x:Hm):Bool:=decide (x.2.1<((s.1.getD x.1.toNat []).length:Int))&&decide (x.2.2≠10)&&decide (x.2.2≠(s.1.getD x.1.toNat []).getD x.2.1.toNat 0)
def QD1 (s:Hs) (x:Hm):Hs :=
 if QD2 s x then s
 else if x.2.1<0 then (s.1.set x.1.toNat [],s.2.1.set x.1.toNat (s.2.1.getD x.1.toNat 0+1),s.2.2.set x.1.toNat (s.2.2.getD x.1.toNat 0+1))
 else if QI8 s x then (s.1.set x.1.toNat (hCh (s.1.getD x.1.toNat []) x),s.2.1.set x.1.toNat (s.2.1.getD x.1.toNat 0+1),s.2.2)
 else s
def hTo (all:List W) (hs:List Hm) (i:Nat):Hs:=(hs.take i).foldl QD1 (all,List.replicate all.length 0,List.replicate all.length 0)
structure QKt (all:List W) (s:Hs) (n:Nat):Prop where
 l1:s.1.length=all.length
 l2:s.2.1.length=all.length
 l3:s.2.2.length=all.length
 b:∀ i:Nat,0<=s.2.2.getD i 0/\s.2.2.getD i 0<=s.2.1.getD i 0/\s.2.1.getD i 0<=n
 z:∀ i:Nat,s.2.1.getD i 0=0->s.1.getD i []=all.getD i []
 le:∀ i:Nat,(s.1.getD i []).length<=(all.getD i []).length
 o:∀ i:Nat,s.2.2.getD i 0=0->(s.1.getD i []).length=(all.getD i []).length/\(Xb (s.1.getD i []) (all.getD i []):Int)<=s.2.1.getD i 0/\((10:UInt8) ∉ all.getD i []->(10:UInt8) ∉ s.1.getD i [])/\(s.2.1.getD i 0=1->s.1.getD i []≠all.getD i [])
structure Left (T:List W) (s:Hs) (n:Nat):Prop where
 inv:QKt (bkL T) s n
 once:∀ i,i<=T.length->s.2.1.getD i 0<=1
def QIN (s:Hs):List W:=jnL s.1 s.2.2 s.1.length
include hK
def hmR (b:W) (hs:List Hm):IV:=match cutL b with
 | none=>.xg [strs [],Q0 [],Q0 [],.bool false]
 | some ls=>if 200<hs.length then .xg [strs [],Q0 [],Q0 [],.bool false] else .xg [strs (hTo ls hs hs.length).1,Q0 (hTo ls hs hs.length).2.1,Q0 (hTo ls hs hs.length).2.2,.bool true]
omit hK
open Go.Pf (Gd c9_ok)
set_option maxRecDepth 8000
set_option maxHeartbeats 1000000
def flN (ls:List W) (ats:List Int) (i:Nat):List W:=(List.range i).map fun k=>Yo (ls.getD k []) (ats.getD k (-1))
theorem QvE (l:List W) (x:W):jn (l++[x])=jn l++(x++[10]):=by simp[QkD,jn]
theorem QkR (ls:List W) (ats:List Int) (i:Nat) (hi:i<ls.length):jn (flN ls ats (i+1))=jn (flN ls ats i)++(Yo ls[i] (ats.getD i (-1))++[10]):=by
 unfold flN;rw[QLf,QK3,QMj,QvE,List.getD_eq_getElem?_getD,QKM hi,QLu]
theorem QoC (ls:List W) (ats:List Int) (h:∀ l∈ls,l.length<=10000):∀ i,i<=ls.length->(jn (flN ls ats i)).length<=i*10001
 | 0,_=>by simp[flN,jn]
 | i+1,hi=>by
   have ih:=QoC ls ats h i (by omega)
   have h1:=h _ (QKR (show i<ls.length from hi))
   rw[QkR ls ats i hi];simp only[QKW,QeF,QLY];omega
theorem Qz2 (x:UInt8):VV .xor .u8 (x.toNat:Int) 1=((x ^^^ 1).toNat:Int):=by
 have h:∀ n:Nat,n<256->VV .xor .u8 (n:Int) 1=((n ^^^ 1:Nat):Int):=by decide +kernel
 rw[h x.toNat x.toNat_lt,UInt8.toNat_xor];rfl
include hK
theorem good9 (b:W) (ats:List Int) (ls:List W) (hc:cutL b=some ls) (hb:b.length<=5000):Gd K 9 [.str b,Q0 ats] (.xg [.str (jn (flN ls ats ls.length)),.bool true]):=by
 refine Qb hK c9_ok (by simp) ?_
 have g41:=QBy hK b (by omega)
 rw[hc] at g41;obtain ⟨hl1,hl2⟩:=Qpn b (by omega) ls hc
 have h5:¬ (5000:Int)<(b.length:Int):=by omega
 simp at g41 |-;refine Qf g41 (by simp) ?_
 simp[h5]
 repeat first | intro _ | refine ⟨by omega,?_⟩
 have h0:AV.iv (.str [])=AV.iv (.str (jn (flN ls ats 0))):=by simp[flN,jn]
 rw[h0];refine Ql (fun i=>[(1,AV.iv (Q0 ats)),(6,AV.iv (strs ls)),(8,AV.iv (.str (jn (flN ls ats i)))),(9,AV.iv (.int .i64 (i:Nat)))]) (fun _=>[]) ls.length (fun _=>True) trivial ?_ ?_
 ·intro _
  rw[Qa Go.Pf.c9_b0.eq_1];simp
 intro i hi _ ih;have hn:=QoC ls ats hl2 i (by omega)
 have hn1:=hl2 _ (QKR hi);rw[QkR ls ats i hi] at ih;rw[Qa Go.Pf.c9_b0.eq_1];generalize jn (flN ls ats i)=J at *;generalize hL:ls[i]=L at *;by_cases ha:i<ats.length;rotate_left
 ·have e:ats.getD i (-1) = -1:=by rw[List.getD_eq_getElem?_getD,QMw (by omega),Option.getD_none]
  have hq:Yo L (-1)=L:=by rw[Yo,if_neg (fun c=>absurd c.1 (by decide))]
  rw[e,hq] at ih;have ha':¬ (i:Int)<ats.length:=by omega
  simp[hi,hL,ha] at ih |-
  repeat' first | exact ih | omega | intro _ | apply And.intro
 have e:ats.getD i (-1)=ats[i]:=by rw[List.getD_eq_getElem?_getD,QKM ha,QLu]
 rw[e] at ih;have ha':(i:Int)<ats.length:=by omega
 by_cases h1:0<=ats[i];rotate_left
 ·have hq:Yo L ats[i]=L:=by rw[Yo,if_neg (fun c=>h1 c.1)]
  rw[hq] at ih;simp[hi,hL,ha,h1] at ih |-
  repeat' first | exact ih | omega | intro _ | apply And.intro
 by_cases h2:ats[i]<L.length
 ·have hq:Yo L ats[i]=L.take ats[i].toNat++[L.getD ats[i].toNat 0 ^^^ 1]++L.drop (ats[i].toNat+1):=by rw[Yo,if_pos ⟨h1,h2⟩]
  rw[hq] at ih;have hat:∃ k:Nat,ats[i]=k:=⟨ats[i].toNat,by omega⟩
  obtain ⟨k,hk⟩:=hat;rw[hk] at h1 h2 ih;have hkl:k<L.length:=by omega
  simp only[QLQ] at ih;have hg:L.getD k 0=L[k]:=by simp[hkl]
  rw[hg] at ih
  have hx:L[k].toNat ^^^ 1<=255:=by
   have h9:=(L[k] ^^^ 1).toNat_lt;rw[UInt8.toNat_xor,show (1:UInt8).toNat=1 from rfl] at h9
   omega
  simp[hi,hL,ha,hk,hkl,Qz2,Yy] at ih |-
  repeat' first | exact ih | omega | intro _ | apply And.intro
 have hq:Yo L ats[i]=L:=by rw[Yo,if_neg (fun c=>h2 c.2)]
 rw[hq] at ih;simp[hi,hL,ha,h1,h2] at ih |-
 repeat' first | exact ih | omega | intro _ | apply And.intro
omit hK
theorem cut_bk {T:List W} (h:Qcs T):cutL (jn (bkL T))=some (bkL T):=by
 refine QuC _ (fun e=>?_) fun l hl=>?_
 ·have:=congrArg List.length e
  simp[bkL] at this
 simp only[bkL,QK8] at hl;obtain ⟨i,_,rfl⟩:=hl;exact fun c=>by have:=Qg0 h i _ c;grind
theorem jn_le:∀ l:List W,(∀ x∈l,x.length<=66)->(jn l).length<=67*l.length
 | [],_=>by simp[jn]
 | x::l,h=>by
   have h1:=jn_le l fun y hy=>h y (by simp[hy])
   have h2:=h x (by simp)
   simp only[jn,QKW,QK6];omega
theorem spoil_le {T:List W} (h:Qcs T) (ats:List Int):(spoil T ats).length<=41/\∀ l∈spoil T ats,l.length<=66:=by
 have h1:=h.len;refine ⟨by simp[spoil];omega,fun l hl=>?_⟩
 obtain ⟨i,_,rfl⟩:=VD.1 hl;rw[Qfm,QeF];exact (Qzu h i).1
theorem flN_bk {T:List W} (ats:List Int) (l:List W) (h:l=(List.range (T.length+1)).map (bkN T)):flN l ats l.length=spoil T ats:=by
 subst h;unfold flN spoil;rw[QKZ,List.length_range];apply QLO;intro i hi;rw[QLi] at hi;simp[Qfm,hi]
end Go.Bk
namespace Go.Ev
open Go Go.RowKit
section
variable {P:Program} {K:World->Prop}
end
end Go.Ev
namespace Go.Pf
open Go Go.Ev Go.Proofs Go.RowKit Go.Proofs.Tryz
set_option maxRecDepth 8000
set_option maxHeartbeats 1000000
theorem QxL {p:Zj} (h:¬ QoF p):QFg p:=by
 have h':=h;simp only[QoF,not_or] at h';obtain ⟨h1,h2,_⟩:=h';refine ⟨by omega,by omega,fun hp=>?_⟩
 have h3:Y3 p.zi<=12:=Int.not_lt.1 fun c=>h (.inr (.inr ⟨hp,.inr (.inl c)⟩))
 have h4:p.yc-p.yb<=8:=Int.not_lt.1 fun c=>h (.inr (.inr ⟨hp,.inr (.inr (.inl c))⟩))
 have hw:=WY p.zi hp.zi;have hw2:10 ^ p.zi.length<=10 ^ 4:=QLB (by omega) hp.rlen
 have hl:(Xf p).length<=9:=by
  simp[Xf,VM];omega
 have:=ZE (fun b=>(Xf p).flatMap fun a=>(Xc p.zi).map fun w=>(⟨b,a,w⟩:TrU)) (9*10000) (Xf p) fun b _=>by
  refine QLp (ZE _ 10000 (Xf p) fun a _=>?_) (QLq _ hl)
  grind
 unfold Qzy;omega
theorem QxM {h:Qd} (hf:¬ QoH h):Qay h:=⟨QBK fun c=>hf (.inl c),QxL fun c=>hf (.inr c)⟩
theorem Qej {h:Qd} {s:List Txt} (hf:¬ QmA h s):QK h/\s.length<=45/\(∀ t∈s,t.length<=1000)/\(okH h->∀ i,i<=s.length->Qay (Qi h s i)):=by
 refine ⟨qJ fun c=>hf (.inl c),?_,fun t ht=>?_,fun ho i hi=>QxM fun c=>hf (.inr (.inr (.inr ⟨ho,i,hi,c⟩)))⟩
 ·exact QLP.1 fun c=>hf (.inr (.inl c))
 have:=QLP.1 fun c:90<t.length=>hf (.inr (.inr (.inl ⟨t,ht,c⟩)))
 omega
theorem Qhv (h:Qd) (s:List Txt) (c i:Nat) (hi:i<=c):Qi h (s.take c) i=Qi h s i:=by
 unfold Qi
 grind
theorem Qbc (h:Qd) (s:List Txt) (c i:Nat):Qi (Qi h s c) (s.drop c) i=Qi h s (c+i):=by
 unfold Qi
 grind
theorem Qmq (h:Qd) (s:List Txt) (c:Nat):Xh h (s.take c) c=Xh h s c:=by
 unfold Xh;refine QLO fun j hj=>?_
 have hj:=QLi.1 hj;rw[Qhv h s c j (by omega)]
 grind
theorem Qqp (h:Qd) (s:List Txt) (c:Nat):∀ i,Xh h s (c+i)=Xh h s c++Xh (Qi h s c) (s.drop c) i
 | i=>by
   unfold Xh;rw[List.range_add,QK3,List.map_map]
   congr 1
   refine QLO fun j _=>?_
   simp only[Function.comp_apply];rw[Qbc]
   grind
def QfT (h:Qd) (s:List Txt):Prop:=¬ QmA h s/\okH h/\s.length<=40
noncomputable instance (h:Qd) (s:List Txt):Decidable (QfT h s):=Classical.propDecidable _
def Qih:WS->Bool
 | .weld | .cut | .turn | .prove=>true
 | _=>false
theorem Qfh {h h1:Qd} {v:WS} {l m:List Int} (hv:Qih v=true) (hc:Zy h v l=some h1):Zy h1 .undo m=some h:=by
 cases v<;>simp only[Qih,QLh] at hv<;>simp only[Zy,Option.some.injEq] at hc<;>subst hc<;>simp[Zy,Qg]
def QAf:Txt:=[117,110,100,111]
theorem QlM:Zk QAf=some (.undo,[]):=by decide +kernel
theorem QtH:¬ tNo=Qhs:=by decide
theorem QDn {h:Qd} {t:Txt} {v:WS} {l:List Int} (ho:okH h) (hp:Zk t=some (v,l)) (hv:Qih v=true) (hy:(QP h t).1=Qhs):QP (QP h t).2 QAf=(Qhs,h):=by
 have hc:Zf v=true:=by cases v<;>first | rfl | cases hv
 simp only[QP,hp,doV,hc,if_true,QlM] at hy |-;split at hy
 ·rename_i h1 h2
  split at hy
  ·rename_i h3
   simp[h2,h3,Qfh hv h2,ho,Zf]
  exact absurd hy QtH
 exact absurd hy QtH
noncomputable def QzU (h:Qd) (t:Txt):Bool:=match Zk t with
 | none=>false
 | some (v,_)=>Zf v&&decide ((QP h t).1=Qhs)
theorem Qx2 {h:Qd} {t:Txt} (hd:QzU h t=false):(QP h t).2=h:=by
 unfold QzU at hd;unfold QP at *;cases hp:Zk t with
 | none=>rfl
 | some p =>
   obtain ⟨v,l⟩:=p;rw[hp] at hd;simp only[doV] at *
   grind
theorem Qx1 {h:Qd} {t:Txt} (hd:QzU h t=true):(QP h t).1=Qhs:=by
 unfold QzU at hd
 grind
noncomputable def Qge (h:Qd) (s:List Txt):Nat->List Txt
 | 0=>[]
 | i+1=>if QzU (Qi h s i) (s.getD i []) then Qge h s i++[s.getD i []] else Qge h s i
theorem Qfl (h:Qd) (s:List Txt) (t:Txt):Qi h (s++[t]) (s.length+1)=(QP (Qi h s s.length) t).2:=by
 simp[Qi,QKP]
theorem Qlj (h:Qd) (s:List Txt) (t:Txt):Xh h (s++[t]) (s.length+1)=Xh h s s.length++[(QP (Qi h s s.length) t).1]:=by
 unfold Xh;rw[QLf,QK3,QMj]
 congr 1
 ·refine QLO fun j hj=>?_
  have hj:=QLi.1 hj
  have:Qi h (s++[t]) j=Qi h s j:=by
   unfold Qi
   grind
  grind
 have:Qi h (s++[t]) s.length=Qi h s s.length:=by simp[Qi]
 simp_all
theorem Qvt (h:Qd) (s:List Txt):∀ i,i<=s.length->Qi h (Qge h s i) (Qge h s i).length=Qi h s i/\∀ a∈Xh h (Qge h s i) (Qge h s i).length,a=Qhs
 | 0,_=>⟨rfl,by simp[Xh,Qge]⟩
 | i+1,hi=>by
   obtain ⟨h1,h2⟩:=Qvt h s i (by omega)
   have hg:s.getD i []=s[i]:=by grind
   unfold Qge;rw[hg,Q2 h s i (by omega)]
   cases hd:QzU (Qi h s i) s[i]
   ·exact ⟨by rw[Qx2 hd];exact h1,h2⟩
   have:=Qx1 hd;simp only[if_true,QKW,QLY];rw[Qfl,Qlj,h1];refine ⟨rfl,fun a ha=>?_⟩
   rcases QK0.1 ha with ha | ha
   ·exact h2 a ha
   simp at ha;rw[ha,this]
theorem qz (u:Nat):∀ c∈Lib.decDigits u,48<=c.toNat/\c.toNat<=57:=by
 induction u using Nat.strongRecOn with
 | ind u ih =>
   intro c hc;rw[Lib.decDigits] at hc;split at hc
   ·simp at hc
    subst hc;simp;omega
   rcases QK0.1 hc with hc | hc
   ·exact ih (u / 10) (by omega) c hc
   simp at hc;subst hc;simp;omega
theorem QvG (n:Int):(32:UInt8) ∉ Lib.itoa n:=by
 have h1:=qz n.natAbs 32;have h2:=qz n.toNat 32;have h3:(32:UInt8).toNat=32:=rfl;rw[h3] at h1 h2;unfold Lib.itoa
 grind
theorem QiO (u:Nat) (x:UInt8) (r:Txt) (h:Lib.decDigits u=x::r):x≠45:=fun e=>by
 have:=qz u x (by rw[h];simp)
 simp_all
theorem QlP {n:Int} (h : -999999999<=n/\n<=999999999):Qdd (Lib.itoa n)=some n:=by
 refine Qgi rfl ?_;have h1:=WI n.natAbs 9 (by omega) (by omega)
 have h2:=WI n.toNat 9 (by omega) (by omega)
 unfold Lib.itoa;split
 ·simpa[Lib.trimPrefix,Lib.hasPrefix] using h1
 cases hd:Lib.decDigits n.toNat with
 | nil=>simp[Lib.trimPrefix,Lib.hasPrefix]
 | cons x r =>
   have hx:=QiO _ x r hd;rw[hd] at h2;have:Lib.hasPrefix (x::r) [45]=false:=by simp[Lib.hasPrefix,List.isPrefixOf,Ne.symm hx]
   simpa[Lib.trimPrefix,this] using h2
def JC (w:Txt) (l:List Int):Txt:=w++l.flatMap fun n=>32::Lib.itoa n
theorem Qj7:∀ (l:List Int) (w:Txt),32 ∉ w->spl (JC w l)=w::l.map Lib.itoa
 | [],w,h=>by simp[JC,QdZ w h]
 | n::r,w,h=>by
   have e:JC w (n::r)=w++32::JC (Lib.itoa n) r:=by simp[JC]
   rw[e,Qbd,QdZ w h,Qj7 r _ (QvG n)];rfl
theorem QbB:∀ (l:List Int),(∀ n∈l,-999999999<=n/\n<=999999999)->XN (l.map Lib.itoa)=some l
 | [],_=>rfl
 | n::r,h=>by
   simp only[QLa,XN,QlP (h n (by simp)),QbB r fun m hm=>h m (by simp[hm])]
theorem QlN {w:Txt} {v:WS} {l:List Int} (hw:Xz w=some (l.length,v)) (hb:32 ∉ w) (h:∀ n∈l,-999999999<=n/\n<=999999999):Zk (JC w l)=some (v,l):=by
 simp[Zk,Qj7 l w hb,hw,QbB l h]
theorem Qgb:∀ (l:List Int) (w:Txt),(∀ n∈l,-999999999<=n/\n<=999999999)->(JC w l).length<=w.length+21*l.length
 | [],w,_=>by simp[JC]
 | n::l,w,h=>by
   have h1:=Qgb l (w++32::Lib.itoa n) fun m hm=>h m (by simp[hm])
   have h2:=h n (by simp)
   have h3:=QkE (n:=n) (by omega)
   have e:JC w (n::l)=JC (w++32::Lib.itoa n) l:=by simp[JC]
   rw[e];simp at h1 |-;omega
def QB3 (t:Txt):Prop:=(∃ v l,Zk t=some (v,l)/\Zf v=true)/\t.length<=200
def Qas (h:Qd) (s:List Txt) (h':Qd):Prop:=(Qi h s s.length=h'/\∀ a∈Xh h s s.length,a=Qhs)/\∀ t∈s,QB3 t
theorem Qas.nil (h:Qd):Qas h [] h:=⟨⟨rfl,by simp[Xh]⟩,by simp⟩
theorem Qas.snoc {h h1 h2:Qd} {s:List Txt} {t:Txt} (w:Qas h s h1) (e:QP h1 t=(Qhs,h2)/\QB3 t):Qas h (s++[t]) h2:=by
 obtain ⟨⟨a,b⟩,c⟩:=w;obtain ⟨e,ec⟩:=e;unfold Qas;rw[QKW,QLY,Qfl,Qlj,a,e];refine ⟨⟨rfl,fun x hx=>?_⟩,fun x hx=>?_⟩
 ·grind
 grind
theorem Qro {h h':Qd} {t:Txt} {v:WS} {l:List Int} (hp:Zk t=some (v,l)) (hc:Zf v=true) (he:Zy h v l=some h') (ho:okH h'):QP h t=(Qhs,h'):=by
 simp[QP,hp,doV,hc,he,ho]
theorem YJ {h h':Qd} {w:Txt} {v:WS} {l:List Int} (hw:Xz w=some (l.length,v)) (hb:32 ∉ w/\w.length<=20) (hn:l.length<=7/\∀ n∈l,-999999999<=n/\n<=999999999) (hc:Zf v=true) (he:Zy h v l=some h') (ho:okH h'):QP h (JC w l)=(Qhs,h')/\QB3 (JC w l):=by
 have hp:=QlN hw hb.1 hn.2;have:=Qgb l w hn.2;exact ⟨Qro hp hc he ho,⟨v,l,hp,hc⟩,by omega⟩
def hw (h:Qd) (ds:List Qx) (ts:List VW) (ss:List Xp) (bs:List QT) (rs:List Qz):Qd :=
 ⟨{ h.ze with zc:=⟨ds,ss,h.ze.zc.zh⟩,zb:={ h.ze.zb with zk:=bs },zf:=ts },{ h.zq with zj:=rs }⟩
theorem Qnf (ds:List Qx) (i:Nat):∃ r,pv ds=pv (ds.take i)++r:=by
 refine ⟨XX Zx (ds.drop i) (0+(ds.take i).length),?_⟩;unfold pv;rw[<- X6,QLX]
theorem Qua {h:Qd} (ho:okH h) (i:Nat) (ss:List Xp) (bs:List QT) (rs:List Qz) (hs:ss=[]\/h.ze.zc.za.length<=i/\ss <+: h.ze.zc.zg) (hb:bs <+: h.ze.zb.zk) (hr:rs <+: h.zq.zj) :
  okH (hw h (h.ze.zc.za.take i) (h.ze.zf.take (pv (h.ze.zc.za.take i)).length) ss bs rs):=by
 obtain ⟨⟨⟨c1,c2,c3,c4,c5⟩,⟨m1,m2,m3,m4,m5,m6,m7,m8⟩,h1,h2,h3,h4⟩,⟨u1,u2,u3,u4,u5,u6,u7,u8⟩⟩:=ho;obtain ⟨r,hpv⟩:=Qnf h.ze.zc.za i
 have hsub:∀ s∈ss,s∈h.ze.zc.zg/\h.ze.zc.za.length<=i:=fun s hs'=>by
  rcases hs with rfl | ⟨h5,h6⟩
  ·cases hs'
  exact ⟨h6.subset hs',h5⟩
 have hlen:ss.length<=h.ze.zc.zg.length:=by
  rcases hs with rfl | ⟨_,h6⟩
  ·simp
  exact h6.length_le
 have hle:(pv (h.ze.zc.za.take i)).length<=(pv h.ze.zc.za).length:=by rw[hpv,QKW];omega
 refine ⟨⟨⟨by simp[hw];omega,by simp[hw];omega,c3,fun j hj _=>?_,fun s hs'=>?_⟩,⟨m1,m2,m3,m4,m5,QLp hb.length_le m6,fun b hb'=>m7 b (hb.subset hb'),m8⟩,h1,h2,?_,fun j hj hj'=>?_⟩,⟨u1,u2,u3,u4,u5,QLp hr.length_le u6,u7,fun x hx=>u8 x (hr.subset hx)⟩⟩
 ·simp only[hw,QLF] at hj
  have:=c4 j (by omega) (by omega)
  simp only[hw,List.getElem_take]
  rwa [QaP _ _ _ (by omega)]
 ·obtain ⟨h5,h6⟩:=hsub s hs'
  simp only[hw];rw[QKP h6];exact c5 s h5
 ·simp only[hw,QLF]
  omega
 simp only[hw,QLF] at hj hj';have hj2:j<(pv h.ze.zc.za).length:=by omega
 have:=h4 j hj2 (by omega)
 have he:(pv h.ze.zc.za)[j]=(pv (h.ze.zc.za.take i))[j]:=by simp[hpv,List.getElem_append_left hj]
 have xc:(pv (h.ze.zc.za.take i))[j]<i:=by
  have:=(VJ Zx _ 0 _ (QKR hj)).2;simp only[QLF] at this;omega
 simp only[hw,List.getElem_take];rw[QaP _ _ _ (by omega),<- he]
 exact this
def Qz5:Txt:=[119,101,108,100]
def QFl:Txt:=[99,117,116]
def Qz6:Txt:=[116,117,114,110]
def QtJ:Txt:=[112,114,111,118,101]
def QFk:Txt:=[115,101,101]
def QFm:Txt:=[98,97,108,97,110,99,101]
def Qz7:Txt:=[114,101,97,100]
theorem QDk:Xz Qz5=some (4,.weld):=by decide +kernel
theorem QIx:Xz QFl=some (2,.cut):=by decide +kernel
theorem QDl:Xz Qz6=some (0,.turn):=by decide +kernel
theorem Qz8:Xz QtJ=some (3,.prove):=by decide +kernel
theorem QIw:Xz QFk=some (5,.see):=by decide +kernel
theorem QIy:Xz QFm=some (4,.balance):=by decide +kernel
theorem QDm:Xz Qz7=some (7,.read):=by decide +kernel
def trN (ds:List Qx) (i:Nat):Nat:=(pv (ds.take i)).length
theorem QqP (ds:List Qx) (i:Nat) (hi:i<ds.length):trN ds (i+1)=trN ds i+if Zx ds[i] then 1 else 0:=by
 unfold trN pv;rw[QKL hi,X6,QKW];simp only[XX];split<;>simp
def dL (ds:List Qx) (ts:List VW) (i:Nat):Txt :=
 let d:=ds.getD i ⟨0,0,0,0,0⟩
 if d.zp=1 then JC Qz5 [d.pos,d.z6,d.bar,d.z1] else if d.zp=2 then JC QFl [d.pos,d.z6] else if d.zp=3 then JC Qz6 []
 else let t:=ts.getD (trN ds i) ⟨0,0,0⟩;JC QtJ [t.zm,t.zn,t.z7]
def sL (s:Xp):Txt:=JC QFk [s.after,s.pos,s.z6,s.bar,s.z1]
def bL (b:QT):Txt:=JC QFm [b.zm,b.zn,b.load,b.off]
def rL (x:Qz):Txt:=JC Qz7 [x.yj,x.rod,x.count,x.rest,x.off,x.yk,x.yl]
def QnH (h:Qd) (i:Nat):List Txt:=(List.range i).map (dL h.ze.zc.za h.ze.zf)
def QAZ (h:Qd):List Txt:=QnH h h.ze.zc.za.length++h.ze.zc.zg.map sL++h.ze.zb.zk.map bL++h.zq.zj.map rL
def QCt (h:Qd):Qd:=hw h [] [] [] [] []
theorem U3 {α:Type} {l:List α} {i:Nat} (hi:i<l.length):l.take i++[l[i]]=l.take (i+1):=(QKL hi).symm
theorem Qpm {h:Qd} (ho:okH h) (i:Nat) (hi:i<h.ze.zc.za.length) :
  QP (hw h (h.ze.zc.za.take i) (h.ze.zf.take (trN h.ze.zc.za i)) [] [] []) (dL h.ze.zc.za h.ze.zf i) =
   (Qhs,hw h (h.ze.zc.za.take (i+1)) (h.ze.zf.take (trN h.ze.zc.za (i+1))) [] [] [])/\QB3 (dL h.ze.zc.za h.ze.zf i):=by
 have hn:=Qua ho (i+1) [] [] [] (.inl rfl) List.nil_prefix List.nil_prefix;have hd:=ho.1.zc.za i hi hi;have hc:=ho.1.zc.za.cnt i (by omega) (by omega)
 have hlen:=ho.1.zc.len;have hg:h.ze.zc.za.getD i ⟨0,0,0,0,0⟩=h.ze.zc.za[i]:=by simp[hi]
 have ht:=QqP h.ze.zc.za i hi;unfold dL;rw[hg];change okH (hw h (h.ze.zc.za.take (i+1)) (h.ze.zf.take (trN h.ze.zc.za (i+1))) [] [] []) at hn;rw[<- U3 hi] at hn |-
 have hpr:¬ h.ze.zc.za[i].zp=1->¬ h.ze.zc.za[i].zp=2->¬ h.ze.zc.za[i].zp=3->h.ze.zc.za[i].zp=4:=by
  rcases hd with ⟨h1,_⟩ | ⟨h1,_⟩ | ⟨h1 | h1,_⟩<;>omega
 have hmany:trN h.ze.zc.za i<trN h.ze.zc.za (i+1)->trN h.ze.zc.za i<h.ze.zf.length:=fun h1=>by
  obtain ⟨r,hr⟩:=Qnf h.ze.zc.za (i+1);have h2:=congrArg List.length hr;rw[QKW] at h2;rw[ho.1.many];unfold trN at *;omega
 have htr:∀ j (hj:j<h.ze.zf.length),Yt h.ze.zf[j] (cnt h.ze.zc.za ((pv h.ze.zc.za)[j]'(by rw[<- ho.1.many];exact hj))):=fun j hj=>ho.1.zf j (by rw[<- ho.1.many];exact hj) hj
 generalize hD:h.ze.zc.za[i]=d at *;obtain ⟨zp,pos,z6,bar,z1⟩:=d;simp only[Zr,inR] at hd hpr |-;by_cases h1:zp=1
 ·subst h1
  simp only[Zx,reduceIte] at ht |-;have ht':trN h.ze.zc.za (i+1)=trN h.ze.zc.za i:=by simpa using ht
  rw[ht'] at hn |-;exact YJ (v:=.weld) QDk (by decide) (by simp;omega) rfl (by simp[Zy,Qg,hw,nI]) hn
 by_cases h2:zp=2
 ·subst h2
  simp only[Zx,h1,reduceIte] at ht |-;have ht':trN h.ze.zc.za (i+1)=trN h.ze.zc.za i:=by simpa using ht
  rw[ht'] at hn |-;obtain ⟨rfl,rfl⟩:bar=0/\z1=0:=by omega
  exact YJ (v:=.cut) QIx (by decide) (by simp;omega) rfl (by simp[Zy,Qg,hw,nI]) hn
 by_cases h3:zp=3
 ·subst h3
  simp only[Zx,h1,h2,reduceIte] at ht |-;have ht':trN h.ze.zc.za (i+1)=trN h.ze.zc.za i:=by simpa using ht
  rw[ht'] at hn |-;obtain ⟨rfl,rfl,rfl,rfl⟩:pos=0/\z6=0/\bar=0/\z1=0:=by omega
  exact YJ (v:=.turn) (l:=[]) QDl (by decide) (by simp) rfl (by simp[Zy,Qg,hw]) hn
 have h4:=hpr h1 h2 h3;subst h4;simp only[Zx,h1,h2,h3,reduceIte] at ht |-;have ht':trN h.ze.zc.za (i+1)=trN h.ze.zc.za i+1:=by simpa using ht
 have hk:=hmany (by omega)
 obtain ⟨rfl,rfl,rfl,rfl⟩:pos=0/\z6=0/\bar=0/\z1=0:=by omega
 have hok:=htr _ hk;rw[ht',<- U3 hk] at hn |-;have hgt:h.ze.zf.getD (trN h.ze.zc.za i) ⟨0,0,0⟩=h.ze.zf[trN h.ze.zc.za i]:=by simp[hk]
 rw[hgt];generalize h.ze.zf[trN h.ze.zc.za i]=t at *
 have hcl:cnt h.ze.zc.za ((pv h.ze.zc.za)[trN h.ze.zc.za i]'(by rw[<- ho.1.many];exact hk))<=12:=by
  have h5:=(VJ Zx _ 0 _ (QKR (by rw[<- ho.1.many];exact hk:trN h.ze.zc.za i<(pv h.ze.zc.za).length))).2
  have:=ho.1.zc.za.cnt _ (by omega) (by omega:(pv h.ze.zc.za)[trN h.ze.zc.za i]'(by rw[<- ho.1.many];exact hk)<=h.ze.zc.za.length)
  omega
 simp only[Yt,inR] at hok;exact YJ (v:=.prove) Qz8 (by decide) (by simp;omega) rfl (by simp[Zy,hw,nI]) hn
theorem QaY {h:Qd} (ho:okH h):∀ i,i<=h.ze.zc.za.length->Qas (QCt h) (QnH h i) (hw h (h.ze.zc.za.take i) (h.ze.zf.take (trN h.ze.zc.za i)) [] [] [])
 | 0,_=>Qas.nil _
 | i+1,hi=>by
   have h1:=(QaY ho i (by omega)).snoc (Qpm ho i (by omega))
   unfold QnH at *;rw[QLf,QK3];exact h1
theorem QmN {h:Qd} (ho:okH h):h.ze.zf.take (trN h.ze.zc.za h.ze.zc.za.length)=h.ze.zf:=by
 rw[QKP];unfold trN;rw[QKX];exact Nat.le_of_eq ho.1.many
theorem WX {α:Type} {h0:Qd} {s:List Txt} (l:List α) (f:α->Txt) (H:List α->Qd) (w:Qas h0 s (H [])) (st:∀ i (hi:i<l.length),QP (H (l.take i)) (f l[i])=(Qhs,H (l.take (i+1)))/\QB3 (f l[i])):Qas h0 (s++l.map f) (H l):=by
 have:∀ i,i<=l.length->Qas h0 (s++(l.take i).map f) (H (l.take i)):=fun i=>by
  induction i with
  | succ i ih =>
    intro hi;have h1:=(ih (by omega)).snoc (st i (by omega))
    rw[QKL (by omega),QK3,<- QLz,<- QKL (by omega)]
    exact h1
  | _=>simp_all
 have h1:=this l.length (QKS _);simp_all
theorem written {h:Qd} (ho:okH h):Qas (QCt h) (QAZ h) h:=by
 have hlen:=ho.1.zc.len;have w0:=QaY ho _ (QKS _);rw[QKX,QmN ho] at w0
 have pre:∀ ss bs rs,ss <+: h.ze.zc.zg->bs <+: h.ze.zb.zk->rs <+: h.zq.zj->okH (hw h h.ze.zc.za h.ze.zf ss bs rs):=fun ss bs rs h1 h2 h3=>by
  have:=Qua ho h.ze.zc.za.length ss bs rs (.inr ⟨QKS _,h1⟩) h2 h3;rw[show (h.ze.zf.take (pv (h.ze.zc.za.take h.ze.zc.za.length)).length)=h.ze.zf from QmN ho,QKX] at this
  exact this
 have w1:=WX h.ze.zc.zg sL (fun ss=>hw h h.ze.zc.za h.ze.zf ss [] []) w0 fun i hi=>by
  have hs:=ho.1.zc.zg _ (QKR hi);have hn:=pre (h.ze.zc.zg.take (i+1)) [] [] (List.take_prefix _ _) List.nil_prefix List.nil_prefix;rw[<- U3 hi] at hn |-;generalize h.ze.zc.zg[i]=s at *;obtain ⟨a,b,c,d,e⟩:=s;simp only[ZR,inR] at hs;have hc:=ho.1.zc.za.cnt a.toNat (by omega) (by omega)
  exact YJ (v:=.see) QIw (by decide) (by simp;omega) rfl (by simp[Zy,hw,nI]) hn
 have w2:=WX h.ze.zb.zk bL (fun bs=>hw h h.ze.zc.za h.ze.zf h.ze.zc.zg bs []) w1 fun i hi=>by
  have hs:=ho.1.zb.zk _ (QKR hi);have hn:=pre h.ze.zc.zg (h.ze.zb.zk.take (i+1)) [] (List.prefix_refl _) (List.take_prefix _ _) List.nil_prefix;rw[<- U3 hi] at hn |-;generalize h.ze.zb.zk[i]=s at *;obtain ⟨a,b,c,d⟩:=s;have hs:((inR a 0 9999/\inR b 0 99)/\inR c 0 999999999)/\inR d 0 999999999:=by simpa[Yp] using hs
  simp only[inR] at hs;exact YJ (v:=.balance) QIy (by decide) (by simp;omega) rfl (by simp[Zy,hw,nI]) hn
 have w3:=WX h.zq.zj rL (fun rs=>hw h h.ze.zc.za h.ze.zf h.ze.zc.zg h.ze.zb.zk rs) w2 fun i hi=>by
  have hs:=ho.2.zj _ (QKR hi);have hrl:=ho.2.rlen;have hn:=pre h.ze.zc.zg h.ze.zb.zk (h.zq.zj.take (i+1)) (List.prefix_refl _) (List.prefix_refl _) (List.take_prefix _ _);rw[<- U3 hi] at hn |-;generalize h.zq.zj[i]=s at *;obtain ⟨a,b,c,d,e,f,g⟩:=s;simp only[XM,inR] at hs;exact YJ (v:=.read) QDm (by decide) (by simp;omega) rfl (by simp[Zy,hw,nI]) hn
 exact w3
def QIO (h:Qd) (w:Int):Qd:=⟨QKq h.ze w,h.zq⟩
section
variable {m:Machine} {b:List QT} (hb:b.Perm m.zk)
include hb
end
section
variable {p:Zj} {r:List Qz} (hr:r.Perm p.zj)
include hr
end
def QI5:WS->Bool
 | .pulls | .stretch | .best | .zm=>true
 | _=>false
def QFA:QT ⊕ Qz->Txt
 | .inl b=>bL b
 | .inr x=>rL x
def QJa:QT ⊕ Qz->Option QT
 | .inl b=>some b
 | _=>none
def QI9:QT ⊕ Qz->Option Qz
 | .inr x=>some x
 | _=>none
def QKA:QT ⊕ Qz->Prop
 | .inl b=>Yp b=false
 | .inr x=>XM 4 x
theorem W5 (h:Qd) (s r:List Txt) (i:Nat) (hi:i<=s.length):Qi h (s++r) i=Qi h s i:=by
 unfold Qi
 grind
theorem Qqo (h:Qd) (s r:List Txt):Xh h (s++r) s.length=Xh h s s.length:=by
 rw[<- Qmq,List.take_left]
theorem Qbb (h:Qd) (s r:List Txt) (i:Nat):Qi h (s++r) (s.length+i)=Qi (Qi h s s.length) r i:=by
 rw[<- Qbc,List.drop_left,W5 h s r _ (QKS _)]
theorem Qmr (h:Qd) (s r:List Txt) (i:Nat):Xh h (s++r) (s.length+i)=Xh h s s.length++Xh (Qi h s s.length) r i:=by
 rw[Qqp,List.drop_left,Qqo,W5 h s r _ (QKS _)]
def Qtq (t:Txt):Prop:=∃ v l,Zk t=some (v,l)/\Zf v=false
theorem Qqc {h:Qd} {t:Txt} {v:WS} {l:List Int} (hp:Zk t=some (v,l)) (hc:Zf v=false):QP h t=(Jo h v l,h):=by
 simp[QP,hp,doV,hc]
theorem JK {h:Qd} {r:List Txt} (hr:∀ t∈r,Qtq t):∀ i,Qi h r i=h
 | 0=>rfl
 | i+1=>by
   by_cases hi:i<r.length
   ·obtain ⟨v,l,hp,hc⟩:=hr _ (QKR hi)
    rw[Q2 h r i hi,JK hr i,Qqc hp hc]
   have:=JK (h:=h) hr i;unfold Qi at this |-
   rwa [QKP (by omega)] at this |-
theorem Qqd {h:Qd} {r:List Txt} (hr:∀ t∈r,Qtq t):Xh h r r.length=r.map fun t=>(QP h t).1:=by
 unfold Xh;refine List.ext_getElem (by simp) fun i h1 h2=>?_
 simp at h1;simp[JK hr,h1]
theorem QAH {h:Qd} {s:List Txt} (ho:okH h) (h4:s.length<=40) (hw:∀ t∈s,t.length<=1000) (hf:∀ i (hi:i<s.length) v l,Zk s[i]=some (v,l)->Zf v=false->Qay (Qi h s i)) :
  Gd KW 12 [hoV h,strs s] (.xg [strs (Xh h s s.length),hoV (Qi h s s.length),.int .i64 0]):=by
 have g:=QBF h s (Qt ho) (by omega) (fun _ _=>hw) (fun _ _=>hf)
 unfold Qt0 QhF QtZ at g;have h4':¬ 40<s.length:=by omega
 simpa only[if_pos ho,if_neg h4'] using g
theorem QfS {h:Qd} {s:List Txt} (hr:QfT h s) (i:Nat) (hi:i<=s.length):Qay (Qi h s i):=(Qej hr.1).2.2.2 hr.2.1 i hi
theorem QlH {h:Qd} {s:List Txt} (hr:QfT h s):∀ t∈s,t.length<=1000:=(Qej hr.1).2.2.1
theorem QqZ {h:Qd} {s r:List Txt} (hr:QfT h s) (h4:s.length+r.length<=40) (ha:∀ t∈r,Qtq t) (hw:∀ t∈r,t.length<=1000) :
  Gd KW 12 [hoV h,strs (s++r)] (.xg [strs (Xh h s s.length++r.map fun t=>(QP (Qi h s s.length) t).1),hoV (Qi h s s.length),.int .i64 0]):=by
 have g:=QAH (s:=s++r) hr.2.1 (by simp;omega) (fun t ht=>by
  rcases QK0.1 ht with h1 | h1
  ·exact QlH hr t h1
  grind) fun i hi _ _ _ _=>by
  by_cases h1:i<=s.length
  ·rw[W5 _ _ _ _ h1]
   exact QfS hr i h1
  obtain ⟨k,rfl⟩:∃ k,i=s.length+k:=⟨i-s.length,by omega⟩
  rw[Qbb,JK ha];exact QfS hr _ (QKS _)
 rw[QKW,Qmr,Qbb,JK ha,Qqd ha] at g;exact g
def QDq:Txt:=[119,101,105,103,104,116]
def QIA:Txt:=[111,112,101,110]
def QIB:Txt:=[103,111,111,100]
def QIC:Txt:=[99,111,110,100,101,109,110,101,100]
def QKm (h:Qd):Qd:=hw h h.ze.zc.za h.ze.zf h.ze.zc.zg [] []
def QKz (h:Qd) (L:List (QT ⊕ Qz)):Qd:=hw h h.ze.zc.za h.ze.zf h.ze.zc.zg (L.filterMap QJa) (L.filterMap QI9)
def QKp (h:Qd):List (QT ⊕ Qz):=h.ze.zb.zk.map .inl++h.zq.zj.map .inr
theorem QBG (h:Qd) (b:Txt) (T A:List Txt) (X:Qd) (mm:List Int) (hb:b.length<=100000) (hl:∀ ls,Bk.cutL b=some ls->ls.length<=100000/\∀ l∈ls,l.length<=10000)
  (hr:Bk.readB b=(T,mm,0)) (g14:Gd KW 12 [hoV h,strs T] (.xg [strs A,hoV X,.int .i64 0])) :
  Gd KW 10 [hoV h,.str b] (.xg [strs A,hoV X,.int .i64 0]):=by
 refine Qb hKW (fk func10 c10 (by kernel_rfl)) (by simp) ?_
 have g27:=Bk.good28 hKW hSB b hb hl;rw[hr] at g27;simp
 repeat first | intro _ | refine ⟨by omega,?_⟩
 refine cK (by omega) ?_
 simp
 repeat first | intro _ | refine ⟨by omega,?_⟩
 refine cK (by simpa using g14) ?_
 simp
def QcK (s:List Txt):List Txt:=s++[[103,111,111,100],[119,111,114,116,104],[115,116,114,101,116,99,104]]
theorem Qtx:∀ t∈([[103,111,111,100],[119,111,114,116,104],[115,116,114,101,116,99,104]]:List Txt),Qtq t:=fun t ht=>by
 simp only[QKV,QK2,or_false] at ht;rcases ht with rfl | rfl | rfl
 ·exact ⟨.good,[],by decide +kernel,rfl⟩
 ·exact ⟨.worth,[],by decide +kernel,rfl⟩
 exact ⟨.stretch,[],by decide +kernel,rfl⟩
theorem QAI {h:Qd} {s:List Txt} (ho:okH h) (hf:¬ QmA h s) (h4:s.length<=37) :
  ∃ A X,A.length=s.length+3/\Gd KW 12 [hoV h,strs (QcK s)] (.xg [strs A,hoV X,.int .i64 0]):=by
 have g:=QqZ (r:=[[103,111,111,100],[119,111,114,116,104],[115,116,114,101,116,99,104]]) (show QfT h s from ⟨hf,ho,by omega⟩) (by simp;omega) Qtx (by decide)
 refine ⟨_,_,?_,g⟩;simp[Xh]
theorem QD5 (h:Qd) (s:List Txt) (ats:List Int) (hb:s.length*16<=140737488351232):Gd KW 3 [hoV h,strs s,Q0 ats] (.bool true):=by
 refine Qb hKW (fk func3 c3 (by kernel_rfl)) (by simp) ?_
 have g9:=QD3;have g6:=QD4 h s
 have e1:List.take (s.length+3) (List.map (List.map AV.iv∘fun s=>[IV.str s]) s++[[AV.iv (IV.str [103,111,111,100])],[AV.iv (IV.str [119,111,114,116,104])],[AV.iv (IV.str [115,116,114,101,116,99,104])]])=emb ((QcK s).map fun t=>[IV.str t]):=by
  rw[QKP (by simp)]
  simp[emb,QcK]
 by_cases hn:37<s.length
 ·have hn':(37:Int)<s.length:=by omega
  simp[hn']
  repeat first | intro _ | refine ⟨by omega,?_⟩
  refine cK (by simpa using g9) ?_
  simp
 have hn':¬ (37:Int)<s.length:=by omega
 by_cases hf:QmA h s
 ·simp[hn']
  repeat first | intro _ | refine ⟨by omega,?_⟩
  refine cK (by simpa using g6) ?_
  simp[hf]
  repeat first | intro _ | refine ⟨by omega,?_⟩
  refine cK (by simpa using g9) ?_
  simp
 have hs:QK h:=(Qej hf).1;have g7:=Qwc h hs;unfold Qru at g7;by_cases ho:okH h;rotate_left
 ·rw[if_neg ho] at g7
  simp[hn']
  repeat first | intro _ | refine ⟨by omega,?_⟩
  refine cK (by simpa using g6) ?_
  simp[hf]
  repeat first | intro _ | refine ⟨by omega,?_⟩
  refine cK (by simpa using g7) ?_
  simp
  repeat first | intro _ | refine ⟨by omega,?_⟩
  refine cK (by simpa using g9) ?_
  simp
 rw[if_pos ho] at g7
 have g8:=Bk.good6 hKW (QcK s) (fun t ht=>by
  simp only[QcK,QK0,QKV,QK2,or_false] at ht;rcases ht with ht | rfl | rfl | rfl
  ·exact QLp ((Qej hf).2.2.1 t ht) (by omega)
  all_goals simp)
 by_cases ht:Bk.errT (QcK s)=0;rotate_left
 ·simp[hn']
  repeat first | intro _ | refine ⟨by omega,?_⟩
  refine cK (by simpa using g6) ?_
  simp[hf]
  repeat first | intro _ | refine ⟨by omega,?_⟩
  refine cK (by simpa using g7) ?_
  simp
  repeat first | intro _ | refine ⟨by omega,?_⟩
  rw[e1];simp;refine cK (by simpa using g8) ?_
  simp[ht]
  repeat first | intro _ | refine ⟨by omega,?_⟩
  refine cK (by simpa using g9) ?_
  simp
 have hT:=Bk.texts_err.1 ht;rw[ht] at g8;have g10:=Bk.good8 hKW (QcK s) (fun t hm=>by have:=Bk.tx_len (hT.tx t hm);omega)
 have e33:Bk.writeB (QcK s)=(Bk.wrB (QcK s),0):=by simp[Bk.writeB,ht]
 rw[e33] at g10;have hwl:=Bk.wrB_len hT.tx hT.len;have hcut:Bk.cutL (Bk.wrB (QcK s))=some (Bk.bkL (QcK s)):=by rw[Bk.wrB_jn];exact Bk.cut_bk hT
 have g11:=Bk.good9 hKW (Bk.wrB (QcK s)) ats _ hcut (by omega)
 rw[Bk.flN_bk ats (Bk.bkL (QcK s)) rfl] at g11;obtain ⟨mm,hrd⟩:=Bk.read_spoil hT ats;obtain ⟨A,X,hA,g14⟩:=QAI ho hf (by omega)
 have g13:=Qut hKW h hs
 have g12:=QBG h (Bk.jn (Bk.spoil (QcK s) ats)) (QcK s) A X mm (by have:=Bk.jn_le _ (Bk.spoil_le hT ats).2;have:=(Bk.spoil_le hT ats).1;omega) (fun ls hc=>by
  rw[Bk.spoil_cut hT] at hc;injection hc with hc
  subst hc;exact ⟨by have:=(Bk.spoil_le hT ats).1;omega,fun l hl=>by have:=(Bk.spoil_le hT ats).2 l hl;omega⟩) hrd g14
 have g15:=Qov hKW A A (by omega) (by omega)
 have g16:=QBE hKW X X;have hal3:(QcK s).length=s.length+3:=by simp[QcK]
 generalize Bk.jn (Bk.spoil (QcK s) ats)=B at *;generalize Bk.wrB (QcK s)=C at *;simp[hn']
 repeat first | intro _ | refine ⟨by omega,?_⟩
 refine cK (by simpa using g6) ?_
 simp[hf]
 repeat first | intro _ | refine ⟨by omega,?_⟩
 refine cK (by simpa using g7) ?_
 simp
 repeat first | intro _ | refine ⟨by omega,?_⟩
 rw[e1];simp;refine cK (by simpa using g8) ?_
 simp
 repeat first | intro _ | refine ⟨by omega,?_⟩
 refine cK (by simpa[QcK] using g10) ?_
 simp
 repeat first | intro _ | refine ⟨by omega,?_⟩
 refine cK (by simpa using g11) ?_
 simp
 repeat first | intro _ | refine ⟨by omega,?_⟩
 refine cK (by simpa using g13) ?_
 simp
 repeat first | intro _ | refine ⟨by omega,?_⟩
 refine cK (by simpa using g12) ?_
 simp
 repeat first | intro _ | refine ⟨by omega,?_⟩
 refine cK (by simpa using g13) ?_
 simp
 repeat first | intro _ | refine ⟨by omega,?_⟩
 refine cK (by simpa[QcK] using g14) ?_
 simp[hA,hal3]
 repeat first | intro _ | refine ⟨by omega,?_⟩
 refine cK (by simpa using g15) ?_
 simp
 repeat first | intro _ | refine ⟨by omega,?_⟩
 refine cK (by simpa using g16) ?_
 simp
 repeat first | intro _ | refine ⟨by omega,?_⟩
 refine cK (by simpa using g9) ?_
 simp
end Go.Pf
namespace Go.Pf
open Go Go.Ev Go.Proofs Go.RowKit Go.ChangeShapes Go.WideShapes Go.Proofs.YteihocdmbflkiaaGreatDoor Go.Proofs.Tryz
set_option maxRecDepth 100000
theorem Qgz {P:Program} (h:P.funcs.any Func.goes=false) (f:FuncId):P.goes f=false:=by
 unfold Program.goes;rw[h,Bool.and_false,Bool.or_false,QMp];intro g _;cases hg:P.funcs[g]? with
 | none=>simp
 | some fn =>
   have:=Array.any_eq_false'.1 h fn (Array.mem_of_getElem? hg);simpa using this
theorem QiC {P:Program} (h:P.funcs.any Func.goes=false) (c:OpenClaim):false=c.goesBy P:=by
 have h1:∀ o:Option FuncId,o.any P.goes=false:=fun o=>by cases o<;>simp[Qgz h]
 have h2:P.inits.toList.any P.goes=false:=by
  rw[QMp];intro f _;simp[Qgz h]
 unfold OpenClaim.goesBy Program.goesAt Program.goesFrom;rw[h1,h2];cases c.start<;>rfl
theorem QEc:prog.funcs.any Func.goes=false:=by kernel_rfl
end Go.Pf
