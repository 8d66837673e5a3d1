/- The reference's change of a house. -/
import Derived.Test.YtjchdgaomencbaaGreatDoorPartFive
import Derived.Test.YtjchdgaomencbaaGreatDoorPartThree
import Derived.KernelRfl
import Derived.Test.YtjchdgaomencbaaGreatDoorPartFour
set_option linter.all false
namespace Go.Pf
open Go Go.Ev Go.Proofs Go.RowKit
variable {K:World->Prop} (hK:∀ w w',K w->Below w.heap.size w w'->K w')
set_option maxRecDepth 8000
set_option maxHeartbeats 1000000
theorem WM (L:List (List IV)) (a b c d e f g:IV):emb L++[[.iv a,.iv b,.iv c,.iv d,.iv e,.iv f,.iv g]]=emb (L++[[a,b,c,d,e,f,g]]):=by simp[emb]
theorem QvO (h:Qd):imm (Qc (W0 0 h)) 40 (.agg (qU 0 h))=some (.agg (hoC h)):=by
 cases ht:h.proof.trials<;>simp[qU,UA,trA,W0,Vu,trO,ht,imm,imms,immss,Qc,QLQ]
include hK
theorem Qj5 (h:Qd) (hs:QK h):Ev.Good Tryz.prog K 43 [hoV h] (hoV h) :=
 WI (xs:=[hoV h]) hK (Vc hK h hs) (QvO h)
theorem Qgf (h:Qd) (a b c d:Int) (hs:QK h):Ev.Good Tryz.prog K 230 [hoV h,.str [119,101,108,100],Zd [a,b,c,d]] (.tup [hoV (Qg h ⟨1,a,b,c,d⟩),.bool true]):=by
 refine Qb hK VV (by simp) ?_
 have g10:=Vc hK h hs;obtain ⟨⟨b1,b2,b3,b4,b5⟩,b6,b7⟩:=hs;cases ht:h.proof.trials with
 | nil =>
   simp only[qU,W0,UA,Vu,trA,trO,ht,if_true,if_false,reduceCtorEq,QL0,QL1,QL4] at g10;simp;refine Qi g10 (by simp[nth,rn]) (Zf (by decide) rfl (by simp[Zr]) (by simp[Qc])) ?_
   simp[nth,rn,rnL];simp[Qg,ht,QLQ];omega
 | cons t r =>
   simp only[qU,W0,UA,Vu,trA,trO,ht,if_true,if_false,reduceCtorEq,QL0,QL1,QL4] at g10;rw[ht] at b5;simp at b5;simp;refine Qi g10 (by simp[nth,rn]) (Zf (by decide) rfl (by simp[Zr]) (by simp[Qc])) ?_
   simp[nth,rn,rnL];simp[Qg,ht,QLQ];omega
theorem QhW (h:Qd) (a b:Int) (hs:QK h):Ev.Good Tryz.prog K 230 [hoV h,.str [99,117,116],Zd [a,b]] (.tup [hoV (Qg h ⟨2,a,b,0,0⟩),.bool true]):=by
 refine Qb hK VV (by simp) ?_
 have g10:=Vc hK h hs;obtain ⟨⟨b1,b2,b3,b4,b5⟩,b6,b7⟩:=hs;cases ht:h.proof.trials with
 | nil =>
   simp only[qU,W0,UA,Vu,trA,trO,ht,if_true,if_false,reduceCtorEq,QL0,QL1,QL4] at g10;simp;refine Qi g10 (by simp[nth,rn]) (Zf (by decide) rfl (by simp[Zr]) (by simp[Qc])) ?_
   simp[nth,rn,rnL];simp[Qg,ht,QLQ];omega
 | cons t r =>
   simp only[qU,W0,UA,Vu,trA,trO,ht,if_true,if_false,reduceCtorEq,QL0,QL1,QL4] at g10;rw[ht] at b5;simp at b5;simp;refine Qi g10 (by simp[nth,rn]) (Zf (by decide) rfl (by simp[Zr]) (by simp[Qc])) ?_
   simp[nth,rn,rnL];simp[Qg,ht,QLQ];omega
theorem Qgh (h:Qd) (hs:QK h):Ev.Good Tryz.prog K 230 [hoV h,.str [116,117,114,110],Zd []] (.tup [hoV (Qg h ⟨3,0,0,0,0⟩),.bool true]):=by
 refine Qb hK VV (by simp) ?_
 have g10:=Vc hK h hs;obtain ⟨⟨b1,b2,b3,b4,b5⟩,b6,b7⟩:=hs;cases ht:h.proof.trials with
 | nil =>
   simp only[qU,W0,UA,Vu,trA,trO,ht,if_true,if_false,reduceCtorEq,QL0,QL1,QL4] at g10;simp;refine Qi g10 (by simp[nth,rn]) (Zf (by decide) rfl (by simp[Zr]) (by simp[Qc])) ?_
   simp[nth,rn,rnL];simp[Qg,ht,QLQ];omega
 | cons t r =>
   simp only[qU,W0,UA,Vu,trA,trO,ht,if_true,if_false,reduceCtorEq,QL0,QL1,QL4] at g10;rw[ht] at b5;simp at b5;simp;refine Qi g10 (by simp[nth,rn]) (Zf (by decide) rfl (by simp[Zr]) (by simp[Qc])) ?_
   simp[nth,rn,rnL];simp[Qg,ht,QLQ];omega
theorem Qeo (h:Qd) (a b c:Int) (hs:QK h):Ev.Good Tryz.prog K 230 [hoV h,.str [112,114,111,118,101],Zd [a,b,c]] (.tup [hoV (Zb h ⟨a,b,c⟩),.bool true]):=by
 refine Qb hK VV (by simp) ?_
 have g10:=Vc hK h hs;obtain ⟨⟨b1,b2,b3,b4,b5⟩,b6,b7⟩:=hs;cases ht:h.proof.trials with
 | nil =>
   simp only[qU,W0,UA,Vu,trA,trO,ht,if_true,if_false,reduceCtorEq,QL0,QL1,QL4] at g10;simp;refine Qi g10 (by simp[nth,rn]) (Zf (by decide) rfl (by simp[Zr]) (by simp[Qc])) ?_
   simp[nth,rn,rnL];simp[Zb,ht,QLQ];omega
 | cons t r =>
   simp only[qU,W0,UA,Vu,trA,trO,ht,if_true,if_false,reduceCtorEq,QL0,QL1,QL4] at g10;rw[ht] at b5;simp at b5;simp;refine Qi g10 (by simp[nth,rn]) (Zf (by decide) rfl (by simp[Zr]) (by simp[Qc])) ?_
   simp[nth,rn,rnL];simp[Zb,ht,QLQ];omega
theorem QhV (h:Qd) (a b c d e:Int) (hs:QK h):Ev.Good Tryz.prog K 230 [hoV h,.str [115,101,101],Zd [a,b,c,d,e]] (.tup [hoV (Zo h ⟨a,b,c,d,e⟩),.bool true]):=by
 refine Qb hK VV (by simp) ?_
 have g10:=Vc hK h hs;obtain ⟨⟨b1,b2,b3,b4,b5⟩,b6,b7⟩:=hs;cases ht:h.proof.trials with
 | nil =>
   simp only[qU,W0,UA,Vu,trA,trO,ht,if_true,if_false,reduceCtorEq,QL0,QL1,QL4] at g10;simp;refine Qi g10 (by simp[nth,rn]) (Zf (by decide) rfl (by simp[Zr]) (by simp[Qc])) ?_
   simp[nth,rn,rnL];simp[Zo,ht,QLQ];omega
 | cons t r =>
   simp only[qU,W0,UA,Vu,trA,trO,ht,if_true,if_false,reduceCtorEq,QL0,QL1,QL4] at g10;rw[ht] at b5;simp at b5;simp;refine Qi g10 (by simp[nth,rn]) (Zf (by decide) rfl (by simp[Zr]) (by simp[Qc])) ?_
   simp[nth,rn,rnL];simp[Zo,ht,QLQ];omega
theorem QbR (h:Qd) (a b c d:Int) (hs:QK h):Ev.Good Tryz.prog K 230 [hoV h,.str [98,97,108,97,110,99,101],Zd [a,b,c,d]] (.tup [hoV (XF h ⟨a,b,c,d⟩),.bool true]):=by
 refine Qb hK VV (by simp) ?_
 have g10:=Vc hK h hs;obtain ⟨⟨b1,b2,b3,b4,b5⟩,b6,b7⟩:=hs;cases ht:h.proof.trials with
 | nil =>
   simp only[qU,W0,UA,Vu,trA,trO,ht,if_true,if_false,reduceCtorEq,QL0,QL1,QL4] at g10;simp;refine Qi g10 (by simp[nth,rn]) (Zf (by decide) rfl (by simp[Zr]) (by simp[Qc])) ?_
   simp[nth,rn,rnL];simp[XF,ht,QLQ];omega
 | cons t r =>
   simp only[qU,W0,UA,Vu,trA,trO,ht,if_true,if_false,reduceCtorEq,QL0,QL1,QL4] at g10;rw[ht] at b5;simp at b5;simp;refine Qi g10 (by simp[nth,rn]) (Zf (by decide) rfl (by simp[Zr]) (by simp[Qc])) ?_
   simp[nth,rn,rnL];simp[XF,ht,QLQ];omega
theorem Qgi (h:Qd) (a b c d e f g:Int) (hs:QK h):Ev.Good Tryz.prog K 230 [hoV h,.str [114,101,97,100],Zd [a,b,c,d,e,f,g]] (.tup [hoV (ZN h ⟨a,b,c,d,e,f,g⟩),.bool true]):=by
 refine Qb hK VV (by simp) ?_
 have g10:=Vc hK h hs;obtain ⟨⟨b1,b2,b3,b4,b5⟩,b6,b7⟩:=hs;cases ht:h.proof.trials with
 | nil =>
   simp only[qU,W0,UA,Vu,trA,trO,ht,if_true,if_false,reduceCtorEq,QL0,QL1,QL4] at g10;simp;refine Qi g10 (by simp[nth,rn]) (Zf (by decide) rfl (by simp[Zr]) (by simp[Qc])) ?_
   simp[nth,rn,rnL,WM];simp[ZN,ht,WM,QLQ];omega
 | cons t r =>
   simp only[qU,W0,UA,Vu,trA,trO,ht,if_true,if_false,reduceCtorEq,QL0,QL1,QL4] at g10;rw[ht] at b5;simp at b5;simp;refine Qi g10 (by simp[nth,rn]) (Zf (by decide) rfl (by simp[Zr]) (by simp[Qc])) ?_
   simp[nth,rn,rnL,WM];simp[ZN,ht,WM,QLQ];omega
theorem Qgg (h:Qd) (hs:QK h) (hu:(h.proof.chain.deeds.getLast?.map (·.what))=some 4->h.proof.trials≠[]):Ev.Good Tryz.prog K 230 [hoV h,.str [117,110,100,111],Zd []] (.tup [hoV (if h.proof.chain.deeds=[] then h else ZP h),.bool (decide (¬ h.proof.chain.deeds=[]))]):=by
 refine Qb hK VV (by simp) ?_
 have g10:=Vc hK h hs;obtain ⟨⟨b1,b2,b3,b4,b5⟩,b6,b7⟩:=hs;by_cases hd:h.proof.chain.deeds=[]
 ·cases ht:h.proof.trials with
  | nil =>
    simp only[qU,W0,UA,Vu,trA,trO,ht,hd,if_true,if_false,reduceCtorEq,QL0,QL1,QL4] at g10;simp;refine Qi g10 (by simp[nth,rn,hd]) (Zf (by decide) rfl (by simp[Zr]) (by simp[Qc])) ?_
    simp[nth,rn,rnL]
    grind
  | cons t r =>
    simp only[qU,W0,UA,Vu,trA,trO,ht,hd,if_true,if_false,reduceCtorEq,QL0,QL1,QL4] at g10;simp;refine Qi g10 (by simp[nth,rn,hd]) (Zf (by decide) rfl (by simp[Zr]) (by simp[Qc])) ?_
    simp[nth,rn,rnL]
    grind
 ·obtain ⟨D,d,hD⟩:∃ D d,h.proof.chain.deeds=D++[d]:=⟨_,_,(QMM hd).symm⟩
  rw[hD] at b1;simp at b1;cases ht:h.proof.trials with
  | nil =>
    have h4:¬ d.what=4:=fun e=>hu (by rw[hD];simp[e]) ht
    simp only[qU,W0,UA,Vu,trA,trO,ht,if_true,if_false,reduceCtorEq,QL0,QL1,QL4] at g10;simp;refine Qi g10 (by simp[nth,rn]) (Zf (by decide) rfl (by simp[Zr]) (by simp[Qc])) ?_
    simp[nth,rn,rnL];simp[hd,hD,ht,h4,ZP,QLQ];omega
  | cons t r =>
    rw[ht] at b5;simp at b5
    have tk:∀ x:List IV,List.take D.length (List.take (D.length+1) (D.map dC++[x]))=D.map dC:=fun x=>by
     grind
    have htn:((r.length:Int)+1-1).toNat=r.length:=by omega
    by_cases h4:d.what=4
    ·simp only[qU,W0,UA,Vu,trA,trO,ht,if_true,if_false,reduceCtorEq,QL0,QL1,QL4] at g10
     simp;refine Qi g10 (by simp[nth,rn]) (Zf (by decide) rfl (by simp[Zr]) (by simp[Qc])) ?_
     simp[nth,rn,rnL];simp[hd,hD,ht,h4,ZP,QLQ,List.dropLast_eq_take,tk];omega
    ·simp only[qU,W0,UA,Vu,trA,trO,ht,if_true,if_false,reduceCtorEq,QL0,QL1,QL4] at g10
     simp;refine Qi g10 (by simp[nth,rn]) (Zf (by decide) rfl (by simp[Zr]) (by simp[Qc])) ?_
     simp[nth,rn,rnL];simp[hd,hD,ht,h4,ZP,QLQ];omega
omit hK
def QBP:Vv->FuncId
 | .weld=>162 | .cut=>163 | .turn=>164 | .prove=>165 | .undo=>166 | .see=>167 | .balance=>168 | .read=>169
 | .who=>170 | .wher=>172 | .first=>173 | .pulls=>175 | .broke=>177 | .loads=>178 | .failures=>179 | .condemned=>180 | .proved=>182 | .opn=>183 | .good=>184 | .worth=>185 | .weight=>186 | .stretch=>187 | .best=>188 | .holds=>189 | .rods=>190
def QkQ (p:Nat × Vv):IV:=.agg [.int .i64 (p.1:Nat),.fn (QBP p.2)]
def QaS:List (MK × IV):=ZA.map fun p=>(.str p.1,QkQ p.2)
theorem QbH {k:MK} {y:IV} (h:k.kind=none):∀ {l:List (MK × IV)},ZE none l->ZE none (mins k y l)
 | [],_=>⟨h,trivial⟩
 | p::r,hl=>by
   unfold mins;split
   ·exact ⟨h,hl.2⟩
   ·exact ⟨hl.1,QbH h hl.2⟩
include hK
theorem QwW:Ev.Good Tryz.prog K 102 [] (.map QaS):=by
 refine Qb hK QzV (by simp) ?_
 simp
 repeat' first | exact trivial | apply And.intro | apply QbH rfl | kernel_rfl
omit hK
def arV:Vv->Nat
 | .weld=>4 | .cut=>2 | .turn=>0 | .prove=>3 | .undo=>0 | .see=>5 | .balance=>4 | .read=>7
 | .who=>1 | .wher=>1 | .first=>0 | .pulls=>2 | .broke=>1 | .loads=>1 | .failures=>0 | .condemned=>0 | .proved=>1 | .opn=>0 | .good=>0 | .worth=>0 | .weight=>0 | .stretch=>0 | .best=>0 | .holds=>1 | .rods=>1
theorem QpX:∀ p∈ZA,p.2.1=arV p.2.2:=by decide
theorem Qmj {w:Txt} {n:Nat} {v:Vv} (h:Xd w=some (n,v)):n=arV v:=by
 rcases W7 w with ⟨p,hp,rfl⟩ | hn
 ·rw[Z7 p hp] at h
  injection h with h
  have:=QpX p hp
  grind
 ·rw[JU hn] at h
  cases h
theorem QkP (w:Txt):Qw (.str w) QaS=(Xd w).map QkQ:=by
 have key:∀ l:List (Txt × Nat × Vv),Qw (.str w) (l.map fun p=>(MK.str p.1,QkQ p.2))=((l.find? fun p=>p.1==w).map (·.2)).map QkQ:=by
  intro l
  induction l with
  | nil=>rfl
  | cons p r ih =>
    simp only[QMb,Qw,List.find?_cons]
    grind
 exact key ZA
theorem ZV {h h':Qd} {v:Vv} {l:List Int} (hv:QJ v=true) (hc:Zq h v l=some h'):doV h v l=(chT h',chH h h'):=by
 unfold doV chT chH
 grind
theorem Zw {h:Qd} {v:Vv} {l:List Int} (hv:QJ v=false):doV h v l=(QR h v l,h):=by
 unfold doV;rw[hv];rfl
theorem ZU {h h':Qd} (ho:okH h) (h1:h'.proof.chain.deeds.length<=h.proof.chain.deeds.length+1) (h2:h'.proof.chain.sights.length<=h.proof.chain.sights.length+1) (h3:h'.proof.machine.levers.length<=h.proof.machine.levers.length)
  (h4:h'.proof.machine.bals.length<=h.proof.machine.bals.length+1) (h5:h'.proof.trials.length<=h.proof.trials.length+1) (h6:h'.pull.rods.length<=h.pull.rods.length) (h7:h'.pull.reads.length<=h.pull.reads.length+1):QK h':=by
 have q1:=ho.1.chain.len;have q2:=ho.1.chain.slen;have q3:=ho.1.machine.len;have q4:=ho.1.machine.blen;have q5:=ho.1.many;have q6:=Qbl h.proof.chain.deeds;have q7:=ho.2.rlen;have q8:=ho.2.xlen;exact ⟨⟨by omega,by omega,by omega,by omega,by omega⟩,by omega,by omega⟩
theorem QaT {h:Qd} (ho:okH h) (hl:(h.proof.chain.deeds.getLast?.map (·.what))=some 4):h.proof.trials≠[]:=by
 rw[QLT] at hl;obtain ⟨d,hd,h4⟩:=hl
 obtain ⟨D,hD⟩:∃ D,h.proof.chain.deeds=D++[d]:=by
  have hne:h.proof.chain.deeds≠[]:=fun e=>by grind
  refine ⟨h.proof.chain.deeds.dropLast,?_⟩;have:=List.getLast?_eq_some_getLast hne;rw[hd] at this;injection this with this
  rw[this];exact (QMM hne).symm
 have hm:=ho.1.many;intro e;rw[e,hD] at hm;unfold pv at hm;rw[Z5] at hm;simp[XH,Q1,h4] at hm
theorem QaU (h:Qd):Zq h .undo []=if h.proof.chain.deeds=[] then none else some (ZP h):=by
 unfold Zq ZP;cases hd:h.proof.chain.deeds.getLast? with
 | none =>
   have:h.proof.chain.deeds=[]:=by simpa using hd
   simp[this]
 | _=>grind
theorem QqZ (h:Qd) (ho:okH h) (v:Vv) (l:List Int) (hf:QJ v=false->qy h) (hl:l.length=arV v) :
  QQ Tryz.prog KW (QBP v) (.loc 0 0::[Zd l].map .iv) (QH h) [0] (.iv (.str (doV h v l).1)) (QH (doV h v l).2):=by
 have hs:=Qq ho;have l0:∀ l:List Int,l.length=0->l=[]:=fun l h=>QLV h
 have l1:∀ l:List Int,l.length=1->∃ a,l=[a]:=fun l h=>by
  match l,h with
  | [a],_=>exact ⟨a,rfl⟩
 have l2:∀ l:List Int,l.length=2->∃ a b,l=[a,b]:=fun l h=>by
  match l,h with
  | [a,b],_=>grind
 cases v with
 | weld =>
   match l,hl with
   | [a,b,c,d],_ =>
     rw[ZV (h':=Qg h ⟨1,a,b,c,d⟩) rfl rfl];exact Qrt hKW h a b c d hs (ZU ho (by simp[Qg]) (by simp[Qg]) (by simp[Qg]) (by simp[Qg]) (by simp[Qg]) (by simp[Qg]) (by simp[Qg]))
 | cut =>
   match l,hl with
   | [a,b],_ =>
     rw[ZV (h':=Qg h ⟨2,a,b,0,0⟩) rfl rfl];exact Qrs hKW h a b hs (ZU ho (by simp[Qg]) (by simp[Qg]) (by simp[Qg]) (by simp[Qg]) (by simp[Qg]) (by simp[Qg]) (by simp[Qg]))
 | turn =>
   rw[l0 l hl,ZV (h':=Qg h ⟨3,0,0,0,0⟩) rfl rfl];exact Qrr hKW h hs (ZU ho (by simp[Qg]) (by simp[Qg]) (by simp[Qg]) (by simp[Qg]) (by simp[Qg]) (by simp[Qg]) (by simp[Qg]))
 | prove =>
   match l,hl with
   | [a,b,c],_ =>
     rw[ZV (h':=Zb h ⟨a,b,c⟩) rfl rfl];exact Qrq hKW h a b c hs (ZU ho (by simp[Zb]) (by simp[Zb]) (by simp[Zb]) (by simp[Zb]) (by simp[Zb]) (by simp[Zb]) (by simp[Zb]))
 | undo =>
   rw[l0 l hl];have hu:=QaU h;have hs':QK (ZP h):=ZU ho (by simp[ZP];omega) (by simp[ZP]) (by simp[ZP]) (by simp[ZP]) (by simp only[ZP];grind) (by simp[ZP]) (by simp[ZP])
   have hg:=Qrp hKW h (QaT ho) hs hs';by_cases hne:h.proof.chain.deeds=[]
   ·rw[if_pos hne] at hu
    rw[if_pos hne,if_pos hne] at hg
    have e:doV h .undo []=(tNo,h):=by
     unfold doV;rw[hu];rfl
    rw[e];exact hg
   ·rw[if_neg hne] at hu
    rw[if_neg hne,if_neg hne] at hg;rw[ZV (h':=ZP h) rfl hu];exact hg
 | see =>
   match l,hl with
   | [a,b,c,d,e],_ =>
     rw[ZV (h':=Zo h ⟨a,b,c,d,e⟩) rfl rfl];exact Qro hKW h a b c d e hs (ZU ho (by simp[Zo]) (by simp[Zo]) (by simp[Zo]) (by simp[Zo]) (by simp[Zo]) (by simp[Zo]) (by simp[Zo]))
 | balance =>
   match l,hl with
   | [a,b,c,d],_ =>
     rw[ZV (h':=XF h ⟨a,b,c,d⟩) rfl rfl];exact Qrn hKW h a b c d hs (ZU ho (by simp[XF]) (by simp[XF]) (by simp[XF]) (by simp[XF]) (by simp[XF]) (by simp[XF]) (by simp[XF]))
 | read =>
   match l,hl with
   | [a,b,c,d,e,f,g],_ =>
     rw[ZV (h':=ZN h ⟨a,b,c,d,e,f,g⟩) rfl rfl];exact Qrm hKW h a b c d e f g hs (ZU ho (by simp[ZN]) (by simp[ZN]) (by simp[ZN]) (by simp[ZN]) (by simp[ZN]) (by simp[ZN]) (by simp[ZN]))
 | who=>obtain ⟨a,rfl⟩:=l1 l hl;rw[Zw rfl];exact Qrl h a ho (hf rfl)
 | wher=>obtain ⟨a,rfl⟩:=l1 l hl;rw[Zw rfl];exact Qrk h a ho (hf rfl)
 | first=>rw[l0 l hl,Zw rfl];exact Qrj h ho (hf rfl)
 | pulls=>obtain ⟨a,b,rfl⟩:=l2 l hl;rw[Zw rfl];exact Qri h a b ho (hf rfl)
 | broke=>obtain ⟨a,rfl⟩:=l1 l hl;rw[Zw rfl];exact Qrh h a ho (hf rfl)
 | loads=>obtain ⟨a,rfl⟩:=l1 l hl;rw[Zw rfl];exact Qrg h a ho (hf rfl)
 | failures=>rw[l0 l hl,Zw rfl];exact Qrf h ho (hf rfl)
 | condemned=>rw[l0 l hl,Zw rfl];exact Qre h ho (hf rfl)
 | proved=>obtain ⟨a,rfl⟩:=l1 l hl;rw[Zw rfl];exact Qrd h a ho (hf rfl)
 | opn=>rw[l0 l hl,Zw rfl];exact Qrc h ho (hf rfl)
 | good=>rw[l0 l hl,Zw rfl];exact Qrb h ho (hf rfl)
 | worth=>rw[l0 l hl,Zw rfl];exact Qra h ho (hf rfl)
 | weight=>rw[l0 l hl,Zw rfl];exact Qq9 h ho (hf rfl)
 | stretch=>rw[l0 l hl,Zw rfl];exact Qq8 h ho (hf rfl)
 | best=>rw[l0 l hl,Zw rfl];exact Qq7 h ho (hf rfl)
 | holds=>obtain ⟨a,rfl⟩:=l1 l hl;rw[Zw rfl];exact Qq6 h a ho (hf rfl)
 | rods=>obtain ⟨a,rfl⟩:=l1 l hl;rw[Zw rfl];exact Qq5 h a ho (hf rfl)
theorem Qs6:ZO Tryz.prog 103 QDZ [0]:=⟨_,Tryz.func103,by kernel_rfl⟩
theorem QoU:∀ v:Vv,callee Tryz.prog (QBP v)=true:=by
 intro v;cases v<;>kernel_rfl
theorem QhI:ZE none QaS:=by
 have key:∀ l:List (Txt × Nat × Vv),ZE none (l.map fun p=>(MK.str p.1,QkQ p.2)):=by
  intro l
  induction l with
  | nil=>trivial
  | cons p r ih=>exact ⟨rfl,ih⟩
 exact key ZA
theorem QnC (h:Qd) (t:Txt) (hdo:∀ v l,Q3 t=some (v,l)->l.length=arV v->QQ Tryz.prog KW (QBP v) (.loc 0 0::[Zd l].map .iv) (QH h) [0] (.iv (.str (doV h v l).1)) (QH (doV h v l).2)) (ht:t.length<=1000) :
  QQ Tryz.prog KW 103 (.loc 0 0::[.map QaS,.str t].map .iv) (QH h) [0] (.iv (.str (Qm h t).1)) (QH (Qm h t).2):=by
 refine Qp Qs6 rfl (by simp[QDZ]) ?_
 generalize hG:UW 6 (Qm h t).1 (Qm h t).2=G;have g1:=Qwx t ht;have hsl:=QdR t;have hwl:=qD t;cases hs:spl t with
 | nil=>exact absurd hs (Qmv t [])
 | cons w ws =>
   rw[hs] at g1 hsl hwl;simp at hsl;have hfd:=QkP w;simp[QDZ];refine cK (by simpa using g1) ?_
   simp;refine ⟨QhI,?_⟩;cases hv:Xd w with
   | none =>
     have hL:Qm h t=(Qe5,h):=by
      simp[Qm,Q3,hs,hv]
     rw[hv] at hfd;simp only[Option.map_none] at hfd;rw[hL] at hG;simp[hfd];rw[<- hG];exact QS (by simp[Ev.look,Qe5]) (by simp[Ev.look]) (by simp[Qc])
   | some p =>
     obtain ⟨n,v⟩:=p;rw[hv] at hfd;simp only[QNi] at hfd;have har:=Qmj hv;simp[hfd,QkQ];have h7:n<=7:=by rw[har];cases v<;>decide
     intro _;refine ⟨by omega,fun hq=>?_,fun hq=>?_⟩
     ·have hn:¬ ws.length=n:=fun e=>hq (by omega)
      have hL:Qm h t=(Qe5,h):=by
       simp[Qm,Q3,hs,hv,hn]
      rw[hL] at hG;rw[<- hG];exact QS (by simp[Ev.look,Qe5]) (by simp[Ev.look]) (by simp[Qc])
     ·have hn:ws.length=n:=by omega
      refine ⟨by omega,fun _ _=>?_⟩
      refine Qj (fun i=>[(0,AV.loc 0 0),(8,AV.loc 8 0),(10,AV.aref 10 ((XN (ws.take i)).getD []).length),(36,AV.iv (.sl 1 (ws.map fun s=>[IV.str s]))),(37,AV.iv (.int .i64 ws.length)),(38,AV.iv (.int .i64 (i:Nat)))])
       (fun i=>[(0,AO.box ((hoC h).map AV.iv)),(8,AO.box [AV.iv (.int .i64 n),AV.iv (.fn (QBP v))]),(10,AO.arr 3 1 (emb (((XN (ws.take i)).getD []).map fun n=>[.int .i64 n])) 0)]) ws.length (fun i=>(XN (ws.take i)).isSome=true) (by simp[XN]) ?_ ?_
      ·intro hall
       rw[QLU] at hall;obtain ⟨l,hl⟩:=QMj.1 hall;have hll:=YN hl
       have hL:Qm h t=doV h v l:=by
        simp[Qm,Q3,hs,hv,hn,hl]
       rw[hL] at hG;have hd:=hdo v l (by simp[Q3,hs,hv,hn,hl]) (by omega)
       rw[Qa Qi5.eq_1];simp[hl,Qbp];refine ⟨QoU v,Qi hd (by simp[nth,rn]) (X9 (by simp[Qc])) ?_⟩
       simp[nth,rn];rw[<- hG];exact QS rfl rfl (by simp[Qc])
      ·intro i hi hQ ih
       obtain ⟨l,hl⟩:=QMj.1 hQ;have hll:=YN hl;rw[QM4] at hll;have hwi:=hwl ws[i] (by simp)
       obtain ⟨m,hm,hg⟩:=Qww ws[i] (by omega)
       have hst:=qQ (ws.take i) ws[i];rw[<- QLM hi,hl] at hst;rw[Qa Qi5.eq_1];cases hx:Qea ws[i] with
       | none =>
         have hno:XN ws=none:=by
          cases hq:XN ws with
          | none=>rfl
          | some l' =>
            have:=Qbu hq ws[i] (by simp)
            grind
         have hL:Qm h t=(Qe5,h):=by
          simp[Qm,Q3,hs,hv,hn,hno]
         rw[hL] at hG;rw[hx] at hg;simp[hi,hl];refine cK (by simpa using hg) ?_
         simp;rw[<- hG];exact QS (by simp[Ev.look,Qe5]) (by simp[Ev.look]) (by simp[Qc])
       | some x =>
         rw[hx] at hg hst hm;have hmx:m=x:=by simpa using hm rfl
         subst hmx;simp only at hst;have ih:=ih (by rw[hst];rfl)
         rw[hst] at ih;simp[hi,hl] at ih |-;refine cK (by simpa using hg) ?_
         simp
         grind
theorem QrA (h:Qd) (ho:okH h) (t:Txt) (hf:∀ v l,Q3 t=some (v,l)->QJ v=false->qy h) (ht:t.length<=1000) :
  QQ Tryz.prog KW 103 (.loc 0 0::[.map QaS,.str t].map .iv) (QH h) [0] (.iv (.str (Qm h t).1)) (QH (Qm h t).2) :=
 QnC h t (fun v l hp hl=>QqZ h ho v l (hf v l hp) hl) ht
theorem Qwb (h:Qd) (ho:okH h) (p:Txt × Nat × Vv) (hp:p∈ZA) (hv:QJ p.2.2=true) (l:List Int) (hl:l.length=p.2.1) :
  Ev.Good Tryz.prog KW 230 [hoV h,.str p.1,Zd l] (.tup [hoV ((Zq h p.2.2 l).getD h),.bool (Zq h p.2.2 l).isSome]):=by
 have hs:=Qq ho;simp only[ZA,QLX,QLZ,or_false] at hp;rcases hp with rfl | rfl | rfl | rfl | rfl | rfl | rfl | rfl | rfl | rfl | rfl | rfl | rfl | rfl | rfl | rfl | rfl | rfl | rfl | rfl | rfl | rfl | rfl | rfl | rfl
 ·match l,hl with
  | [a,b,c,d],_=>exact Qgf hKW h a b c d hs
 ·match l,hl with
  | [a,b],_=>exact QhW hKW h a b hs
 ·match l,hl with
  | [],_=>exact Qgh hKW h hs
 ·match l,hl with
  | [a,b,c],_=>exact Qeo hKW h a b c hs
 ·match l,hl with
  | [],_ =>
    have hg:=Qgg hKW h hs (QaT ho);have hc:=QaU h
    grind
 ·match l,hl with
  | [a,b,c,d,e],_=>exact QhV hKW h a b c d e hs
 ·match l,hl with
  | [a,b,c,d],_=>exact QbR hKW h a b c d hs
 ·match l,hl with
  | [a,b,c,d,e,f,g],_=>exact Qgi hKW h a b c d e f g hs
 all_goals cases hv
theorem Qdd (h:Qd) (hs:QK h):Ev.Good Tryz.prog KW 19 [hoV h] (.int .i64 (Qma h)):=by
 refine Qb hKW QDt (by simp) ?_
 have g26:=QtX hKW h.proof hs.proof;have g27:=QtW hKW h.pull hs.rods hs.reads;unfold Qma okH;by_cases h1:OkP h.proof
 ·rw[if_pos h1] at g26
  simp[h1];refine cK (by simpa using g26) ?_
  simp;refine cK (by simpa using g27) ?_
  by_cases h2:OkU h.pull<;>simp[h2]
 ·rw[if_neg h1] at g26
  simp[h1];refine cK (by simpa using g26) ?_
  simp
theorem qg {t:Txt} (h:(Z2 t).2.2=false):Q3 t=none:=by
 unfold Z2 at h;unfold Q3;cases hs:spl t with
 | nil=>rfl
 | cons w ws =>
   rw[hs] at h;simp only at h |-;cases hn:XN ws with
   | some l =>
     rw[hn] at h;have hll:=YN hn
     grind
   | _=>grind
theorem Ub {t:Txt} (h:(Z2 t).2.2=true):∃ p∈ZA,p.1=(Z2 t).1/\(Z2 t).2.1.length=p.2.1/\Q3 t=some (p.2.2,(Z2 t).2.1):=by
 unfold Z2 at h |-;unfold Q3;cases hs:spl t with
 | cons w ws =>
   rw[hs] at h;simp only at h |-;cases hn:XN ws with
   | some l =>
     rw[hn] at h;have hll:=YN hn;simp only[decide_eq_true_eq] at h;rcases W7 w with ⟨p,hp,rfl⟩ | hno
     ·rw[Z7 p hp] at h |-
      grind
     ·rw[JU hno] at h
      grind
   | _=>grind
 | _=>grind
theorem Qfa {h h':Qd} (ho:okH h) {v:Vv} {l:List Int} (hc:Zq h v l=some h'):QK h':=by
 unfold Zq at hc;cases v<;>simp only at hc<;>try cases hc
 case undo =>
  split at hc
  ·cases hc
  ·injection hc with hc
   subst hc;exact ZU ho (by simp;omega) (by simp) (by simp) (by simp) (by grind) (by simp) (by simp)
 all_goals exact ZU ho (by simp[Qg]) (by simp[Qg]) (by simp[Qg]) (by simp[Qg]) (by simp[Qg]) (by simp[Qg]) (by simp[Qg])
theorem Qwy (h:Qd) (ho:okH h) (t:Txt) (ht:t.length<=1000) (hq:∀ p,p∈ZA->QJ p.2.2=false->∀ l,Q3 t=some (p.2.2,l)->l.length=p.2.1->Ev.Good Tryz.prog KW 229 [hoV h,.str p.1,Zd l] (.str (QR h p.2.2 l))):Ev.Good Tryz.prog KW 154 [hoV h,.str t] (.tup [.str (Qm h t).1,hoV (Qm h t).2]):=by
 refine Qb hKW Qzd (by simp) ?_
 have g36:=Qj7 hKW t ht;unfold Qm;cases hp:(Z2 t).2.2 with
 | false =>
   rw[qg hp];rw[hp] at g36;simp;refine cK (by simpa using g36) ?_
   simp[Qe5]
 | true =>
   obtain ⟨p,hpm,hw,hl,hv⟩:=Ub hp;have hq:=fun hc=>hq p hpm hc _ hv hl
   rw[hv];rw[hp,<- hw] at g36;have g37:=Qn2 hKW p.1;rw[Z7 p hpm] at g37;simp only at g37;cases hc:QJ p.2.2 with
   | false =>
     have g119:=hq hc;rw[hc] at g37;simp only;rw[Zw hc];generalize (Z2 t).2.1=l at *;generalize p.1=w at *;simp;refine cK (by simpa using g36) ?_
     simp;refine cK (by simpa using g37) ?_
     simp;refine cK (by simpa using g119) ?_
     simp
   | true =>
     have g120:=Qwb h ho p hpm hc _ hl;rw[hc] at g37;simp only;unfold doV;rw[hc,if_pos rfl];cases hcv:Zq h p.2.2 (Z2 t).2.1 with
     | none =>
       rw[hcv] at g120;generalize (Z2 t).2.1=l at *;generalize p.1=w at *;simp;refine cK (by simpa using g36) ?_
       simp;refine cK (by simpa using g37) ?_
       simp;refine cK (by simpa using g120) ?_
       simp[tNo]
     | some h' =>
       have g11:=Qdd h' (Qfa ho hcv);rw[hcv] at g120;unfold Qma at g11;generalize (Z2 t).2.1=l at *;generalize p.1=w at *;simp;refine cK (by simpa using g36) ?_
       simp;refine cK (by simpa using g37) ?_
       simp;refine cK (by simpa using g120) ?_
       simp;refine cK (by simpa using g11) ?_
       by_cases hk:okH h'<;>simp[hk,tNo,Ji]
def h0:Qd:=⟨⟨⟨[],[],0⟩,⟨[],0,0,0,[],0⟩,[],0,0⟩,⟨0,0,0,[],[],0⟩⟩
noncomputable def QtG (h:Qd) (s:List Txt):List Txt:=if okH h then (if 40<s.length then [] else QU h s s.length) else []
noncomputable def QgU (h:Qd) (s:List Txt):Qd:=if okH h then (if 40<s.length then h0 else Qe h s s.length) else h0
theorem QvT (h:Qd) (s:List Txt) (hs:QK h) (hl:s.length<=100) (hq:okH h->s.length<=40->∀ i (hi:i<s.length),QQ Tryz.prog KW 103 (.loc 0 0::[.map QaS,.str s[i]].map .iv) (QH (Qe h s i)) [0] (.iv (.str (Qm (Qe h s i) s[i]).1)) (QH (Qm (Qe h s i) s[i]).2)) :
  Ev.Good Tryz.prog KW 45 [hoV h,strs s] (.tup [strs (QtG h s),hoV (QgU h s),.int .i64 (QtF h s)]):=by
 refine Qb hKW QCZ (by simp) ?_
 have g9:=Qn7 hKW h hs;unfold Qma at g9;generalize hG:Qqg c45.res (.tup [strs (QtG h s),hoV (QgU h s),.int .i64 (QtF h s)])=G;unfold QtG QgU QtF at hG;by_cases ho:okH h
 ·rw[if_pos ho] at g9 hG hG hG
  simp[c45];refine cK (by simpa using g9) ?_
  by_cases h40:40<s.length
  ·have h40':(40:Int)<s.length:=by omega
   rw[if_pos h40] at hG hG hG;simp[h40'];rw[<- hG];intro _;simp[c45,h0]
  ·have h40':¬ (40:Int)<s.length:=by omega
   rw[if_neg h40] at hG hG hG;have g28:Ev.Good Tryz.prog KW 101 [hoV h] (.agg (hoC h)):=WI (xs:=[hoV h]) hKW (Qj3 hKW h hs) (by simp[Qc])
   have g29:=QwW hKW;simp[h40'];intro _;refine cK (by simpa using g28) ?_
   simp;refine cK (by simpa using g29) ?_
   simp;intro _;have hq:=hq ho (by omega)
   refine QhB (fun i=>[(4,AV.aref 4 (QU h s i).length),(5,AV.loc 5 0),(8,AV.loc 25 0),(9,AV.iv (IV.map QaS)),(27,AV.iv (strs s)),(28,AV.iv (.int .i64 s.length)),(29,AV.iv (.int .i64 (i:Nat)))])
    (fun i=>[(4,AO.arr 9 1 (emb ((QU h s i).map fun t=>[.str t])) 0),(5,AO.box ((hoC h0).map AV.iv)),(25,AO.box ((hoC (Qe h s i)).map AV.iv))]) s.length ?_ ?_
   ·rw[Qa Qpt.eq_1]
    simp;rw[<- hG];simp[c45]
   ·intro i hi ih
    have hd:=hq i hi;rw[<- Ze h s i hi] at hd;have hst:=XE h s i hi;rw[hst] at ih;rw[Qa Qpt.eq_1];simp[hi] at ih |-;refine Qi hd (by simp[nth,rn]) (X9 (by simp[Qc])) ?_
    simp[nth,rn];have hal:(QU h s i).length=i:=by simp[QU]
    grind
 ·rw[if_neg ho] at g9 hG hG hG
  simp[c45];refine cK (by simpa using g9) ?_
  simp;rw[<- hG];simp[c45,h0]
theorem QtY (h:Qd) (s:List Txt) (hs:QK h) (hl:s.length<=100) (hw:okH h->s.length<=40->∀ t∈s,t.length<=1000) (hf:okH h->s.length<=40->∀ i (hi:i<s.length) v l,Q3 s[i]=some (v,l)->QJ v=false->qy (Qe h s i)) :
  Ev.Good Tryz.prog KW 45 [hoV h,strs s] (.tup [strs (QtG h s),hoV (QgU h s),.int .i64 (QtF h s)]) :=
 QvT h s hs hl fun ho h4 i hi=>QrA _ (Yd ho i) _ (hf ho h4 i hi) (hw ho h4 _ (QLR hi))
theorem QrQ (L:List (List IV)) (x:List IV):emb (L++[x])=emb L++[x.map AV.iv]:=by simp[emb]
theorem QBk (h:Qd) (ho:okH h) (s:List Txt) (hl:s.length<=100) (hw:∀ t∈s,t.length<=1000) :
  Ev.Good Tryz.prog KW 99 [hoV h,strs s] (.sl 18 ((List.range (s.length+1)).map fun i=>hoC (Qe h s i))):=by
 refine Qb hKW QCa (by simp) ?_
 have g10:=Qj5 hKW h (Qq ho);simp;refine cK (by simpa using g10) ?_
 simp
 refine QhB (fun i=>[(1,AV.iv (strs s)),(5,AV.aref 13 (i+1)),(6,AV.iv (.int .i64 (i:Nat)))])
  (fun i=>[(13,AO.arr 40 18 (emb ((List.range (i+1)).map fun j=>hoC (Qe h s j))) 0)]) s.length ?_ ?_
 ·rw[Qa QoZ.eq_1]
  simp;intro _;exact QLQ (by simp)
 ·intro i hi ih
  have hst:=Ze h s i hi
  have e1:(List.range (i+1+1)).map (fun j=>hoC (Qe h s j))=(List.range (i+1)).map (fun j=>hoC (Qe h s j))++[hoC (Qe h s (i+1))]:=by
   rw[QMn,QL8];rfl
  have hlen:((List.range (i+1)).map fun j=>hoC (Qe h s j)).length=i+1:=by simp
  have hget:((List.range (i+1)).map fun j=>hoC (Qe h s j))[i]?=some (hoC (Qe h s i)):=by simp
  have g36:=Qj7 hKW s[i] (hw _ (QLR hi));rw[e1,QrQ] at ih;generalize (List.range (i+1)).map (fun j=>hoC (Qe h s j))=T at *
  have hgi:∀ hq:i<T.length,T[i]'hq=hoC (Qe h s i):=fun hq=>by
   grind
  rw[Qa QoZ.eq_1];cases hp:(Z2 s[i]).2.2 with
  | false =>
    have hsame:Qe h s (i+1)=Qe h s i:=by
     rw[hst];unfold Qm;rw[qg hp]
    rw[hsame] at ih;rw[hp] at g36;simp[hi,hlen,hgi] at ih |-;intros;refine ⟨by omega,cK (by simpa using g36) ?_⟩
    simp[hlen]
    grind
  | true =>
    obtain ⟨p,hpm,hw',hl',hv⟩:=Ub hp;rw[hp,<- hw'] at g36;have g37:=Qn2 hKW p.1;rw[Z7 p hpm] at g37;simp only at g37;cases hc:QJ p.2.2 with
    | false =>
      have hsame:Qe h s (i+1)=Qe h s i:=by
       rw[hst];unfold Qm;rw[hv];simp only;rw[Zw hc]
      rw[hsame] at ih;rw[hc] at g37;generalize (Z2 s[i]).2.1=l at *;generalize p.1=w at *;simp[hi,hlen,hgi] at ih |-;intros;refine ⟨by omega,cK (by simpa using g36) ?_⟩
      simp;refine cK (by simpa using g37) ?_
      simp[hlen]
      grind
    | true =>
      have g31:=Qwy (Qe h s i) (Yd ho i) s[i] (hw _ (QLR hi)) (fun q _ h2 l h1 _=>by
       rw[hv] at h1;injection h1 with h1
       injection h1 with h1
       rw[<- h1,hc] at h2;cases h2)
      rw[<- hst] at g31;rw[hc] at g37;generalize (Z2 s[i]).2.1=l at *;generalize p.1=w at *;simp[hi,hlen,hgi] at ih |-;intros;refine ⟨by omega,cK (by simpa using g36) ?_⟩
      simp;refine cK (by simpa using g37) ?_
      simp[hi];refine cK (by simpa using g31) ?_
      simp[hlen]
      grind
theorem Qvd {a b:Rod} (h1:a.long=b.long) (h2:a.wear=b.wear) (h3:a.grow=b.grow):a=b:=by cases a;cases b;simp_all
theorem QqL {a b:Qo} (h1:a.whn=b.whn) (h2:a.rod=b.rod) (h3:a.count=b.count) (h4:a.rest=b.rest) (h5:a.off=b.off) (h6:a.wlo=b.wlo) (h7:a.whi=b.whi):a=b:=by cases a;cases b;simp_all
noncomputable instance:DecidableEq Qd:=fun _ _=>Classical.propDecidable _
include hK
theorem QBD (a b:Zm):Ev.Good Tryz.prog K 51 [puV a,puV b] (.bool (decide (a=b))):=by
 refine Qb hK QCT (by simp) ?_
 by_cases h1:a.iron=b.iron
 ·by_cases h2:a.glo=b.glo/\a.ghi=b.ghi
  ·by_cases h3:a.wrong=b.wrong
   ·by_cases h4:a.rods.length=b.rods.length
    ·by_cases h5:a.reads.length=b.reads.length
     ·simp[h1,h2.1,h2.2,h3,h4,h5]
      intros;refine Qj (fun i=>[(2,AV.iv (.ptr [.int .i64 b.iron,.int .i64 b.glo,.int .i64 b.ghi,qd a.rods,Y7 a.reads,.int .i64 b.wrong])),(3,AV.iv (.ptr [.int .i64 b.iron,.int .i64 b.glo,.int .i64 b.ghi,qd b.rods,Y7 b.reads,.int .i64 b.wrong])),(5,AV.iv (IV.int IntKind.i64 (i:Nat)))]) (fun _=>[]) a.rods.length (fun i=>a.rods.take i=b.rods.take i) (by simp) ?_ ?_
      ·intro h
       rw[h4,QLU,<- h4,QLU] at h;rw[Qa Qpq.eq_1];simp;intros;refine Qj (fun i=>[(2,AV.iv (.ptr [.int .i64 b.iron,.int .i64 b.glo,.int .i64 b.ghi,qd a.rods,Y7 a.reads,.int .i64 b.wrong])),(3,AV.iv (.ptr [.int .i64 b.iron,.int .i64 b.glo,.int .i64 b.ghi,qd b.rods,Y7 b.reads,.int .i64 b.wrong])),(6,AV.iv (IV.int IntKind.i64 (i:Nat)))]) (fun _=>[]) a.reads.length (fun i=>a.reads.take i=b.reads.take i) (by simp) ?_ ?_
       ·intro h'
        rw[h5,QLU,<- h5,QLU] at h';rw[Qa Qpp.eq_1];have:a=b:=by cases a;cases b;simp_all
        subst this;simp
       ·intro i hi h ih
        have hi':i<b.reads.length:=by omega
        rw[Qa Qpp.eq_1];by_cases e:a.reads[i]=b.reads[i]
        ·simp[hi,hi',e] at ih |-
         intros;refine ⟨by omega,ih ?_⟩
         rw[QLM hi,QLM hi',h,e]
        ·have hne:a≠b:=fun c=>by grind
         have e':=fun k1 k2 k3 k4 k5 k6 k7=>e (QqL k1 k2 k3 k4 k5 k6 k7)
         simp[hi,hi',hne]
         grind
      ·intro i hi h ih
       have hi':i<b.rods.length:=by omega
       rw[Qa Qpq.eq_1];by_cases e:a.rods[i]=b.rods[i]
       ·simp[hi,hi',e] at ih |-
        intros;refine ⟨by omega,ih ?_⟩
        rw[QLM hi,QLM hi',h,e]
       ·have hne:a≠b:=fun c=>by grind
        have e':=fun k1 k2 k3=>e (Qvd k1 k2 k3)
        simp[hi,hi',hne]
        grind
     ·have h':¬ (a.reads.length:Int)=b.reads.length:=by omega
      have:a≠b:=fun e=>h5 (by rw[e])
      simp[h1,h2.1,h2.2,h3,h4,h',this]
    ·have h':¬ (a.rods.length:Int)=b.rods.length:=by omega
     have:a≠b:=fun e=>h4 (by rw[e])
     simp[h1,h2.1,h2.2,h3,h',this]
   ·have:a≠b:=fun e=>h3 (by rw[e])
    simp[h1,h2.1,h2.2,h3,this]
  ·have:a≠b:=fun e=>h2 (by grind)
   by_cases k1:a.glo=b.glo
   ·have k2:¬ a.ghi=b.ghi:=fun c=>h2 ⟨k1,c⟩
    simp[h1,k1,k2,this]
   ·simp[h1,k1,this]
 ·have:a≠b:=fun e=>h1 (by rw[e])
  simp[h1,this]
theorem QnY (a b:Qd):Ev.Good Tryz.prog K 14 [hoV a,hoV b] (.bool (decide (a=b))):=by
 refine Qb hK QDU (by simp) ?_
 have g32:=QBE hK a.proof b.proof;have g33:=QBD hK a.pull b.pull;have he:a=b↔a.proof=b.proof/\a.pull=b.pull:=by cases a;cases b;simp
 simp;refine cK (by simpa using g32) ?_
 by_cases h1:a.proof=b.proof
 ·simp[h1]
  refine cK (by simpa using g33) ?_
  simp[he,h1]
 ·simp[he,h1]
theorem QnP (a b:List Txt) (ha:a.length<=1000000) (hb:b.length<=1000000):Ev.Good Tryz.prog K 39 [strs a,strs b] (.bool (decide (a=b))):=by
 refine Qb hK QC4 (by simp) ?_
 by_cases h4:a.length=b.length
 ·simp[h4]
  intros;refine Qj (fun i=>[(0,AV.iv (strs a)),(1,AV.iv (strs b)),(5,AV.iv (IV.int IntKind.i64 (i:Nat)))]) (fun _=>[]) a.length (fun i=>a.take i=b.take i) (by simp) ?_ ?_
  ·intro h
   rw[h4,QLU,<- h4,QLU] at h;subst h;rw[Qa QpB.eq_1];simp
  ·intro i hi h ih
   have hi':i<b.length:=by omega
   rw[Qa QpB.eq_1];by_cases e:a[i]=b[i]
   ·simp[hi,hi',e] at ih |-
    intros;refine ⟨by omega,ih ?_⟩
    rw[QLM hi,QLM hi',h,e]
   ·have hne:a≠b:=fun c=>by grind
    simp[hi,hi',hne,e]
 ·have h':¬ (a.length:Int)=b.length:=by omega
  have:a≠b:=fun e=>h4 (by rw[e])
  simp[h',this]
omit hK
def Y4:List Rod->Int
 | []=>1
 | r::l=>(r.wear+1)*Y4 l
theorem QcG:∀ (l:List Rod) (r:Rod),Y4 (l++[r])=Y4 l*(r.wear+1)
 | [],r=>by simp[Y4]
 | a::l,r=>by
   simp only[QL1,Y4,QcG l r]
   grind
def Qoc (p:Zm):Prop:=40<p.rods.length\/40<p.reads.length\/(OkU p/\((∃ x∈p.reads,3<x.whi-x.wlo)\/12<Y4 p.rods\/8<p.ghi-p.glo\/4<p.reads.length))
noncomputable instance (p:Zm):Decidable (Qoc p):=Classical.propDecidable _
theorem Qqs (l:List Rod) (h:∀ r∈l,J3 r) (i:Nat):1<=Y4 (l.take i)/\Y4 (l.take i)<=10 ^ (min i l.length):=by
 induction l generalizing i with
 | nil=>simp[Y4]
 | cons r l ih =>
   cases i with
   | zero=>simp[Y4]
   | succ i =>
     obtain ⟨h1,h2⟩:=ih (fun x hx=>h x (by simp[hx])) i
     have hr:=(h r (by simp)).2.1
     simp only[inR] at hr;simp only[List.take_succ_cons,Y4,QMa,Nat.succ_min_succ];rw[Nat.succ_eq_add_one,Int.pow_succ];have h3:(r.wear+1)*Y4 (l.take i)<=10*Y4 (l.take i):=QMm (by omega) (by omega)
     have h4:1*Y4 (l.take i)<=(r.wear+1)*Y4 (l.take i):=QMm (by omega) (by omega)
     omega
theorem QBB (p:Zm):Ev.Good Tryz.prog KW 54 [puV p] (.bool (decide (Qoc p))):=by
 refine Qb hKW QCR (by simp) ?_
 by_cases h1:p.rods.length<=40
 ·by_cases h2:p.reads.length<=40
  ·have h1':¬ (40:Int)<p.rods.length:=by omega
   have h2':¬ (40:Int)<p.reads.length:=by omega
   have g27:=QtW hKW p (by omega) (by omega)
   simp[h1',h2'];intros;refine cK (by simpa using g27) ?_
   by_cases h3:OkU p
   ·simp[h3]
    have hr4:=h3.rlen;have hgu:=h3.guess;have hmo:=h3.most;simp only[inR] at hgu;refine QhB (fun i=>[(1,AV.iv (.ptr [.int .i64 p.iron,.int .i64 p.glo,.int .i64 p.ghi,qd p.rods,Y7 p.reads,.int .i64 p.wrong])),(3,AV.iv (.int .i64 (Y4 (p.rods.take i)))),(4,AV.iv (.int .i64 (i:Nat)))]) (fun _=>[]) p.rods.length ?_ ?_
    ·rw[QLU]
     rw[Qa Qpm.eq_1];simp;intros;refine Qj (fun i=>[(1,AV.iv (.ptr [.int .i64 p.iron,.int .i64 p.glo,.int .i64 p.ghi,qd p.rods,Y7 p.reads,.int .i64 p.wrong])),(3,AV.iv (.int .i64 (Y4 p.rods))),(5,AV.iv (.int .i64 (i:Nat)))]) (fun _=>[]) p.reads.length (fun i=>∀ x∈p.reads.take i,¬ 3<x.whi-x.wlo) (by simp) ?_ ?_
     ·intro hQ
      rw[QLU] at hQ
      have he:Qoc p↔12<Y4 p.rods\/8<p.ghi-p.glo\/4<p.reads.length:=by
       constructor
       ·rintro (h | h | ⟨_,⟨x,hx,h⟩ | h⟩)
        all_goals grind
       ·exact fun h=>.inr (.inr ⟨h3,.inr h⟩)
      rw[Qa Qpl.eq_1];by_cases w1:12<Y4 p.rods
      ·simp[he,w1]
       try omega
      ·by_cases w2:8<p.ghi-p.glo
       ·simp[he,w1,w2]
        try omega
       ·simp[he,w1,w2]
        try omega
     ·intro i hi hQ ih
      have hrd:=h3.reads _ (QLR hi);obtain ⟨_,_,_,_,_,hw1,hw2⟩:=hrd;simp only[inR] at hw1;rw[Qa Qpl.eq_1];by_cases e:3<p.reads[i].whi-p.reads[i].wlo
      ·have hf:Qoc p:=.inr (.inr ⟨h3,.inl ⟨_,QLR hi,e⟩⟩)
       simp[hi,e,hf]
       try omega
      ·have ih:=ih fun x hx=>by
        rw[QLM hi] at hx
        grind
       simp[hi,e] at ih |-
       grind
    ·intro i hi ih
     have hrd:=h3.rods _ (QLR hi);have hw:=hrd.2.1;simp only[inR] at hw;have hq:=Qqs p.rods h3.rods i;have hq2:(10:Int) ^ (min i p.rods.length)<=10 ^ 4:=by exact_mod_cast QMS (n:=10) (by omega) (by omega:min i p.rods.length<=4)
     have hb:Y4 (p.rods.take i)*(p.rods[i].wear+1)<=10000*10:=QMO (by omega) (by omega) (by omega) (by omega)
     have hb':0<=Y4 (p.rods.take i)*(p.rods[i].wear+1):=QMN (by omega) (by omega)
     rw[QLM hi,QcG] at ih;rw[Qa Qpm.eq_1];simp[hi] at ih |-
     grind
   ·have h3':¬ Qoc p:=by
     rintro (h | h | ⟨h,_⟩)
     all_goals grind
    simp[h3,h3']
  ·have h2':(40:Int)<p.reads.length:=by omega
   have hf:Qoc p:=.inr (.inl (by omega))
   simp[h2',hf]
   try omega
 ·have h1':(40:Int)<p.rods.length:=by omega
  have hf:Qoc p:=.inl (by omega)
  simp[h1',hf]
  try omega
def Qki (h:Qd):Prop:=QgV h.proof\/Qoc h.pull
noncomputable instance (h:Qd):Decidable (Qki h):=Classical.propDecidable _
theorem Qgj (h:Qd):Ev.Good Tryz.prog KW 18 [hoV h] (.bool (decide (Qki h))):=by
 refine Qb hKW QDv (by simp) ?_
 have g34:=QBC hKW h.proof;have g35:=QBB h.pull;unfold Qki;simp;refine cK (by simpa using g34) ?_
 by_cases h1:QgV h.proof
 ·simp[h1]
 ·simp[h1]
  refine cK (by simpa using g35) ?_
  simp
def Qqj (h:Qd) (s:List Txt):Prop:=Qki h\/45<s.length\/(∃ t∈s,90<t.length)\/(okH h/\∃ i,i<=s.length/\Qki (Qe h s i))
noncomputable instance (h:Qd) (s:List Txt):Decidable (Qqj h s):=Classical.propDecidable _
theorem Y6 {h:Qd} (hf:¬ Qki h):QK h:=by
 simp only[Qki,QgV,Qug,Qod,Qoc,not_or] at hf;obtain ⟨⟨⟨h1,h2,_⟩,⟨h3,h4,_⟩,h5,_⟩,h6,h7,_⟩:=hf;exact ⟨⟨by omega,by omega,by omega,by omega,by omega⟩,by omega,by omega⟩
theorem QBJ (h:Qd) (s:List Txt):Ev.Good Tryz.prog KW 44 [hoV h,strs s] (.bool (decide (Qqj h s))):=by
 refine Qb hKW QC0 (by simp) ?_
 have g19:=Qgj h;simp;refine cK (by simpa using g19) ?_
 by_cases h1:Qki h
 ·have hf:Qqj h s:=.inl h1
  simp[h1,hf]
 ·by_cases h2:45<s.length
  ·have hf:Qqj h s:=.inr (.inl h2)
   have h2':(45:Int)<s.length:=by omega
   simp[h1,hf,h2']
   try omega
  ·have h2':¬ (45:Int)<s.length:=by omega
   have g11:=Qdd h (Y6 h1);unfold Qma at g11;simp[h1,h2'];intros;refine Qj (fun i=>[(1,AV.iv (strs s)),(2,AV.iv (.ptr (hoC h))),(5,AV.iv (.int .i64 (i:Nat)))]) (fun _=>[]) s.length (fun i=>∀ t∈s.take i,¬ 90<t.length) (by simp) ?_ ?_
   ·intro hQ
    rw[QLU] at hQ;rw[Qa Qpv.eq_1];simp;intros;refine cK (by simpa using g11) ?_
    by_cases ho:okH h
    ·have g20:=QBk h ho s (by omega) (fun t ht=>by grind)
     have hT1:((List.range (s.length+1)).map fun i=>hoC (Qe h s i)).length=s.length+1:=by simp
     have hT2:∀ i (hi:i<((List.range (s.length+1)).map fun i=>hoC (Qe h s i)).length),((List.range (s.length+1)).map fun i=>hoC (Qe h s i))[i]=hoC (Qe h s i):=fun i hi=>by simp
     generalize ((List.range (s.length+1)).map fun i=>hoC (Qe h s i))=T at *
     simp[ho];refine cK (by simpa using g20) ?_
     simp;refine Qj (fun i=>[(6,AV.iv (.sl 18 T)),(7,AV.iv (.int .i64 (i:Nat)))]) (fun _=>[]) T.length (fun i=>∀ j,j<i->¬ Qki (Qe h s j)) (by intro j h;omega) ?_ ?_
     ·intro hN
      have hf:¬ Qqj h s:=by
       rintro (h | h | ⟨t,ht,h⟩ | ⟨_,j,hj,h⟩)
       all_goals grind
      rw[Qa Qpu.eq_1];simp[hf]
     ·intro i hi hN ih
      have hTi:=hT2 i hi;have g19:=Qgj (Qe h s i);rw[Qa Qpu.eq_1];by_cases e:Qki (Qe h s i)
      ·have hf:Qqj h s:=.inr (.inr (.inr ⟨ho,i,by omega,e⟩))
       simp[hi,hTi,hf];intros;refine cK (by simpa using g19) ?_
       simp[e]
      ·have ih:=ih fun j hj=>by
        grind
       simp[hi,hTi] at ih |-;intros;refine cK (by simpa using g19) ?_
       simp[e]
       grind
    ·have hf:¬ Qqj h s:=by
      rintro (h | h | ⟨t,ht,h⟩ | ⟨h,_⟩)
      all_goals grind
     simp[ho,hf]
   ·intro i hi hQ ih
    rw[Qa Qpv.eq_1];by_cases e:90<s[i].length
    ·have hf:Qqj h s:=.inr (.inr (.inl ⟨_,QLR hi,e⟩))
     have e':(90:Int)<s[i].length:=by omega
     simp[hi,e',hf]
     try omega
    ·have e':¬ (90:Int)<s[i].length:=by omega
     have ih:=ih fun x hx=>by
      rw[QLM hi] at hx
      grind
     simp[hi,e'] at ih |-
     grind
def exU:Zm:=⟨12,9900,10200,[⟨1000,1,12⟩,⟨500,0,20⟩],[⟨1,0,10,0,2,0,0⟩,⟨2,0,10,30,2,0,0⟩],0⟩
def exH:Qd:=⟨exP,exU⟩
def Qkm:Qn:=⟨exC.deeds,[⟨7,0,0,5,1⟩],0⟩
def Qol:Qf:={ exP with chain:=Qkm }
def Uz:Qd:=⟨Qol,exU⟩
def exS:List Txt:=[[119,104,111,32,48],[115,101,101,32,55,32,48,32,48,32,53,32,49],[119,104,111,32,48],[119,101,108,100,32,48,32,48,32,53],[112,114,111,118,101,32,52,48,32,48,32,51],[115,116,114,101,116,99,104],[99,111,110,100,101,109,110,101,100]]
def exA:List Txt:=[[48,32,49],[121,101,115],[48],[119,104,97,116],[110,111],[50,54,32,51,52],[112,101,114,104,97,112,115]]
include hK
theorem QwV:Ev.Good Tryz.prog K 104 [] (.tup [puV exU,.agg (reC ⟨1,1,20,0,1,20,20⟩)]):=by
 refine Qb hK QzU (by simp) ?_
 simp[exU]
theorem QBI:Ev.Good Tryz.prog K 46 [] (hoV exH):=by
 refine Qb hK QCY (by simp) ?_
 have g38:=QwV hK;have g39:=QwU hK;simp;refine cK (by simpa using g38) ?_
 simp;refine cK (by simpa using g39) ?_
 simp[exH]
omit hK
theorem Qkk:OkU exU:=by decide
theorem Qkl:okH exH:=⟨Qgq,Qkk⟩
theorem Qey:OkC Qkm:=by
 refine ⟨by decide,by decide,by decide,Qgr.deeds,fun s hs=>?_⟩
 simp[Qkm] at hs;subst hs;decide
theorem Qh6:OkP Qol:=⟨Qey,Quj,Qgq.need,Qgq.rule,Qgq.many,Qgq.trials⟩
theorem Qoj:okH Uz:=⟨Qh6,Qkk⟩
theorem Qdl:span ((Um exU).map UN)=(26,34):=by
 rw[<- Qa0];decide +kernel
theorem QFM:uE exU true=0:=by
 unfold uE;rw[if_pos Qkk,if_pos rfl,if_neg];intro h;have:=Qdl;rw[h] at this
 revert this
 decide
theorem p1:Q3 [119,104,111,32,48]=some (.who,[0]):=by decide +kernel
theorem p2:Q3 [115,101,101,32,55,32,48,32,48,32,53,32,49]=some (.see,[7,0,0,5,1]):=by decide +kernel
theorem p4:Q3 [119,101,108,100,32,48,32,48,32,53]=none:=by decide +kernel
theorem p5:Q3 [112,114,111,118,101,32,52,48,32,48,32,51]=some (.prove,[40,0,3]):=by decide +kernel
theorem p6:Q3 [115,116,114,101,116,99,104]=some (.stretch,[]):=by decide +kernel
theorem p7:Q3 [99,111,110,100,101,109,110,101,100]=some (.condemned,[]):=by decide +kernel
theorem Qui:QkM exC 0=[0,1]/\Yo exC (plB exC 0)=0:=by
 have e:(QX exC).map (Qmf exC 0)=[1,0]:=by decide
 have hb:plB exC 0=true:=by decide
 have ha:Yo exC (plB exC 0)=0:=by
  unfold Yo;rw[if_pos Qgr,if_pos hb];decide
 refine ⟨?_,ha⟩;unfold QkM;rw[if_pos ha,e]
 exact QkC (Jx _) (by decide) fun x=>by
  rw[Jy]
  grind
theorem Qoi:QkM Qkm 0=[0]/\Yo Qkm (plB Qkm 0)=0:=by
 have e:(QX Qkm).map (Qmf Qkm 0)=[0]:=by decide
 have hb:plB Qkm 0=true:=by decide
 have ha:Yo Qkm (plB Qkm 0)=0:=by
  unfold Yo;rw[if_pos Qey,if_pos hb];decide
 refine ⟨?_,ha⟩;unfold QkM;rw[if_pos ha,e];exact QkC (Jx _) (by decide) fun x=>by rw[Jy]
def QIb:List Q7:=[⟨[0,0,0,0,1,1,0],⟨[10,5],1⟩⟩,⟨[0,0,0,0,1,1,0],⟨[11,5],1⟩⟩]
theorem Qgs:Qr Qol=QIb:=by
 unfold Qr;rw[show Qol.chain=Qkm from rfl,show Qol.machine=exM from rfl,Qtx Qey,QdU]
 decide
theorem Quk:kL Qol true=QIb/\kE Qol true=0:=by
 unfold kL kE;rw[if_pos ⟨Qh6,rfl⟩,if_pos Qh6,if_pos rfl,Qgs];exact ⟨rfl,by decide⟩
theorem QrJ:Uv (rCond Qol) (kE Qol true)=[112,101,114,104,97,112,115]:=by
 unfold rCond;rw[Quk.1,Quk.2];decide
theorem Qok:QHY exU:=by
 refine ⟨by decide,by decide,fun _=>?_⟩
 have h1:(Xh exU).length=301:=by decide +kernel
 have h2:(Xf exU.rods).length=2:=by decide
 have key:∀ l l':List Int,(l.flatMap fun b=>l'.flatMap fun a=>(Xf exU.rods).map fun w=>(⟨b,a,w⟩:TrU)).length<=l.length*(l'.length*2):=fun l l'=>by
  refine Xy _ _ l fun b _=>Xy _ _ l' fun a _=>?_
  grind
 have:=key (Xh exU) (Xh exU);rw[h1] at this;unfold Qz4;omega
theorem Qw6:qy exH:=⟨QBT 1 (by decide),Qok⟩
theorem Qw5:qy Uz:=by
 refine ⟨⟨⟨⟨by decide,by decide,by decide,by decide,by decide⟩,fun _=>by decide⟩,fun _=>?_,fun _=>?_,fun _=>by show (Qr Qol).length<=100000;rw[Qgs];decide⟩,Qok⟩
 ·rw[show Uz.proof.chain=Qkm from rfl,Qtx Qey];decide
 ·rw[show Uz.proof.machine=exM from rfl,QdU]
  exact QMe (QMg _ _) (by decide)
theorem Qul (h:okH (Zb Uz ⟨40,0,3⟩)):False:=by
 have h1:=h.1.trials 2 (by decide) (by decide)
 revert h1
 decide
theorem s0:Qe exH exS 0=exH:=rfl
theorem lv1:Qm exH [119,104,111,32,48]=([48,32,49],exH):=by
 unfold Qm;rw[p1];simp only;rw[Zw rfl];unfold QR;rw[show exH.proof.chain=exC from rfl,show nI [0] 0=0 from rfl,Qui.1,Qui.2]
 show (Xa [0,1] 0,exH)=_
 rw[show Xa [0,1] 0=[48,32,49] by decide +kernel]
theorem lv2:Qm exH [115,101,101,32,55,32,48,32,48,32,53,32,49]=([121,101,115],Uz):=by
 unfold Qm;rw[p2];simp only;rw[ZV (h':=Uz) rfl rfl];unfold chT chH;rw[if_pos Qoj,if_pos Qoj];rfl
theorem lv3:Qm Uz [119,104,111,32,48]=([48],Uz):=by
 unfold Qm;rw[p1];simp only;rw[Zw rfl];unfold QR;rw[show Uz.proof.chain=Qkm from rfl,show nI [0] 0=0 from rfl,Qoi.1,Qoi.2]
 show (Xa [0] 0,Uz)=_
 rw[show Xa [0] 0=[48] by decide +kernel]
theorem lv4:Qm Uz [119,101,108,100,32,48,32,48,32,53]=([119,104,97,116],Uz):=by
 unfold Qm;rw[p4];rfl
theorem lv5:Qm Uz [112,114,111,118,101,32,52,48,32,48,32,51]=([110,111],Uz):=by
 unfold Qm;rw[p5];simp only;rw[ZV (h':=Zb Uz ⟨40,0,3⟩) rfl rfl];unfold chT chH;rw[if_neg Qul,if_neg Qul];rfl
theorem lv6:Qm Uz [115,116,114,101,116,99,104]=([50,54,32,51,52],Uz):=by
 unfold Qm;rw[p6];simp only;rw[Zw rfl];unfold QR;have hu:uL exU true=Um exU:=by simp[uL,Qkk]
 rw[show Uz.pull=exU from rfl,QFM,hu,Qdl]
 show (Xa [26,34] 0,Uz)=_
 rw[show Xa [26,34] 0=[50,54,32,51,52] by decide +kernel]
theorem lv7:Qm Uz [99,111,110,100,101,109,110,101,100]=([112,101,114,104,97,112,115],Uz):=by
 unfold Qm;rw[p7];simp only;rw[Zw rfl];unfold QR;rw[show Uz.proof=Qol from rfl,QrJ]
theorem st (i:Nat) (h:i<=7):Qe exH exS i=if i<=1 then exH else Uz:=by
 have e1:Qe exH exS 1=exH:=by rw[Ze exH exS 0 (by decide)];exact congrArg Prod.snd lv1
 have e2:Qe exH exS 2=Uz:=by rw[Ze exH exS 1 (by decide),e1];exact congrArg Prod.snd lv2
 have e3:Qe exH exS 3=Uz:=by rw[Ze exH exS 2 (by decide),e2];exact congrArg Prod.snd lv3
 have e4:Qe exH exS 4=Uz:=by rw[Ze exH exS 3 (by decide),e3];exact congrArg Prod.snd lv4
 have e5:Qe exH exS 5=Uz:=by rw[Ze exH exS 4 (by decide),e4];exact congrArg Prod.snd lv5
 have e6:Qe exH exS 6=Uz:=by rw[Ze exH exS 5 (by decide),e5];exact congrArg Prod.snd lv6
 have e7:Qe exH exS 7=Uz:=by rw[Ze exH exS 6 (by decide),e6];exact congrArg Prod.snd lv7
 have:i=0\/i=1\/i=2\/i=3\/i=4\/i=5\/i=6\/i=7:=by omega
 rcases this with rfl | rfl | rfl | rfl | rfl | rfl | rfl | rfl
 ·rfl
 all_goals grind
theorem Qw7:QU exH exS 7=exA:=by
 rw[XE exH exS 6 (by decide),XE exH exS 5 (by decide),XE exH exS 4 (by decide),XE exH exS 3 (by decide),XE exH exS 2 (by decide),XE exH exS 1 (by decide),XE exH exS 0 (by decide)]
 rw[st 6 (by decide),st 5 (by decide),st 4 (by decide),st 3 (by decide),st 2 (by decide),st 1 (by decide),st 0 (by decide)]
 simp only[QU,List.range_zero,List.map_nil,QL4,exS,QMW,List.getElem_cons_succ];rw[if_pos (by decide),if_pos (by decide),if_neg (by decide),if_neg (by decide),if_neg (by decide),if_neg (by decide),if_neg (by decide),lv1,lv2,lv3,lv4,lv5,lv6,lv7]
 rfl
theorem Qde:Ev.Good Tryz.prog KW 10 [] (.bool true):=by
 refine Qb hKW QDY (by simp) ?_
 have g21:=QBI hKW
 have g12:=QtY exH exS (Qq Qkl) (by decide) (fun _ _=>by decide) (fun _ _ i hi _ _ _ _=>by
  rw[st i (Nat.le_of_lt hi)];split
  ·exact Qw6
  ·exact Qw5)
 have hA:QtG exH exS=exA:=by unfold QtG;rw[if_pos Qkl,if_neg (by decide)];exact Qw7
 have hH:QgU exH exS=Uz:=by unfold QgU;rw[if_pos Qkl,if_neg (by decide),show exS.length=7 from rfl,st 7 (by decide)];rfl
 have hE:QtF exH exS=0:=by unfold QtF;rw[if_pos Qkl,if_neg (by decide)]
 rw[hA,hH,hE] at g12;have g14:=QnP hKW exA exA (by decide) (by decide)
 simp;refine cK (by simpa using g21) ?_
 simp;refine cK (by simpa[exS] using g12) ?_
 have hs1:Uz.proof.chain.sights.length=1:=rfl;simp[hs1];refine cK (by simpa[exA] using g14) ?_
 simp
end Go.Pf
namespace Go.Ev
open Go Go.RowKit
section
variable {P:Program} {K:World->Prop}
end
end Go.Ev
namespace Go.Pf
open Go Go.Ev Go.Proofs Go.RowKit
variable {K:World->Prop} (hK:∀ w w',K w->Below w.heap.size w w'->K w')
set_option maxRecDepth 8000
set_option maxHeartbeats 1000000
theorem Qw0 {p:Zm} (h:¬ Qoc p):QHY p:=by
 have h':=h;simp only[Qoc,not_or] at h';obtain ⟨h1,h2,_⟩:=h';refine ⟨by omega,by omega,fun hp=>?_⟩
 have h3:Y4 p.rods<=12:=Int.not_lt.1 fun c=>h (.inr (.inr ⟨hp,.inr (.inl c)⟩))
 have h4:p.ghi-p.glo<=8:=Int.not_lt.1 fun c=>h (.inr (.inr ⟨hp,.inr (.inr (.inl c))⟩))
 have hw:=W6 p.rods hp.rods;have hw2:10 ^ p.rods.length<=10 ^ 4:=QMS (by omega) hp.rlen
 have hl:(Xh p).length<=9:=by
  simp[Xh,VO];omega
 have:=Xy (fun b=>(Xh p).flatMap fun a=>(Xf p.rods).map fun w=>(⟨b,a,w⟩:TrU)) (9*10000) (Xh p) fun b _=>by
  refine QMe (Xy _ 10000 (Xh p) fun a _=>?_) (QMo _ hl)
  grind
 unfold Qz4;omega
theorem Qw1 {h:Qd} (hf:¬ Qki h):qy h:=⟨QBQ fun c=>hf (.inl c),Qw0 fun c=>hf (.inr c)⟩
theorem Qhu {h:Qd} {s:List Txt} (hf:¬ Qqj h s):QK h/\s.length<=45/\(∀ t∈s,t.length<=1000)/\(okH h->∀ i,i<=s.length->qy (Qe h s i)):=by
 refine ⟨Y6 fun c=>hf (.inl c),?_,fun t ht=>?_,fun ho i hi=>Qw1 fun c=>hf (.inr (.inr (.inr ⟨ho,i,hi,c⟩)))⟩
 ·exact QMK.1 fun c=>hf (.inr (.inl c))
 ·have:=QMK.1 fun c:90<t.length=>hf (.inr (.inr (.inl ⟨t,ht,c⟩)))
  omega
theorem Qg5 (h:Qd) (s:List Txt) (c i:Nat) (hi:i<=c):Qe h (s.take c) i=Qe h s i:=by
 unfold Qe
 grind
theorem Qa1 (h:Qd) (s:List Txt) (c i:Nat):Qe (Qe h s c) (s.drop c) i=Qe h s (c+i):=by
 unfold Qe
 grind
theorem QlZ (h:Qd) (s:List Txt) (c:Nat):QU h (s.take c) c=QU h s c:=by
 unfold QU;refine QMG fun j hj=>?_
 have hj:=QMi.1 hj;rw[Qg5 h s c j (by omega)]
 grind
theorem Qp6 (h:Qd) (s:List Txt) (c:Nat):∀ i,QU h s (c+i)=QU h s c++QU (Qe h s c) (s.drop c) i
 | i=>by
   unfold QU;rw[List.range_add,QL8,List.map_map]
   congr 1
   refine QMG fun j _=>?_
   simp only[Function.comp_apply];rw[Qa1]
   grind
def Xe (h:Qd) (s:List Txt):Prop:=¬ Qqj h s/\okH h/\s.length<=40
noncomputable instance (h:Qd) (s:List Txt):Decidable (Xe h s):=Classical.propDecidable _
theorem QhS (h:Qd) (s:List Txt):Ev.Good Tryz.prog KW 9 [hoV h,strs s] (.bool (decide (Xe h s))):=by
 refine Qb hKW QFX (by simp) ?_
 have g7:=QBJ h s;unfold Xe;by_cases hf:Qqj h s
 ·simp
  refine cK (by simpa using g7) ?_
  simp[hf]
 ·have g11:=Qdd h (Qhu hf).1
  unfold Qma at g11;by_cases ho:okH h
  ·rw[if_pos ho] at g11
   by_cases h4:s.length<=40
   ·have h4':(s.length:Int)<=40:=by omega
    simp;refine cK (by simpa using g7) ?_
    simp[hf,ho];refine cK (by simpa using g11) ?_
    simp[h4,h4']
   ·have h4':¬ (s.length:Int)<=40:=by omega
    simp;refine cK (by simpa using g7) ?_
    simp[hf,ho];refine cK (by simpa using g11) ?_
    simp[h4,h4']
  ·rw[if_neg ho] at g11
   simp;refine cK (by simpa using g7) ?_
   simp[hf,ho];refine cK (by simpa using g11) ?_
   simp
theorem QbT (a b:List Txt) (hl:a.length+b.length<=1000000):Ev.Good Tryz.prog KW 17 [strs a,strs b] (strs (a++b)):=by
 refine Qb hKW QDF (by simp) ?_
 simp;rw[QLQ (by simp),<- QL8,<- List.map_map,Qaw]
 simp;omega
theorem QBM (h:Qd) (s:List Txt) (hs:QK h) (hl:s.length<=100) (hw:okH h->s.length<=40->∀ t∈s,t.length<=1000) (hf:okH h->s.length<=40->∀ i (hi:i<s.length) v l,Q3 s[i]=some (v,l)->QJ v=false->qy (Qe h s i)) :
  Ev.Good Tryz.prog KW 11 [hoV h,strs s] (.tup [strs (QtG h s),hoV (QgU h s),.int .i64 (QtF h s)]):=by
 refine Qb hKW QDX (by simp) ?_
 have g10:=Qj5 hKW h hs;have g18:=QbT s [] (by simp;omega)
 have g12:=QtY h s hs hl hw hf;rw[QL0] at g18;simp;refine cK (by simpa using g10) ?_
 simp;refine cK (by simpa using g18) ?_
 simp;refine cK (by simpa using g12) ?_
 simp
def UL:Vv->Bool
 | .weld | .cut | .turn | .prove=>true
 | _=>false
theorem Qe2 {h h1:Qd} {v:Vv} {l m:List Int} (hv:UL v=true) (hc:Zq h v l=some h1):Zq h1 .undo m=some h:=by
 cases v<;>simp only[UL,QMh] at hv<;>simp only[Zq,Option.some.injEq] at hc<;>subst hc<;>simp[Zq,Qg]
def U3:Txt:=[117,110,100,111]
theorem Qlf:Q3 U3=some (.undo,[]):=by decide +kernel
theorem Qtt:¬ tNo=Ji:=by decide
theorem QuL {h:Qd} {t:Txt} {v:Vv} {l:List Int} (ho:okH h) (hp:Q3 t=some (v,l)) (hv:UL v=true) (hy:(Qm h t).1=Ji):Qm (Qm h t).2 U3=(Ji,h):=by
 have hc:QJ v=true:=by cases v<;>first | rfl | cases hv
 simp only[Qm,hp,doV,hc,if_true,Qlf] at hy |-;split at hy
 ·rename_i h1 h2
  split at hy
  ·rename_i h3
   simp[h2,h3,Qe2 hv h2,ho,QJ]
  ·exact absurd hy Qtt
 ·exact absurd hy Qtt
theorem QkR {h:Qd} {t:Txt} {v:Vv} {l:List Int} (hp:Q3 t=some (v,l)) (hv:UL v=true) (hy:¬ (Qm h t).1=Ji):(Qm h t).1=tNo:=by
 have hc:QJ v=true:=by cases v<;>first | rfl | cases hv
 simp only[Qm,hp,doV,hc,if_true] at hy |-
 grind
noncomputable def QoP (h:Qd) (t:Txt):Bool:=match Q3 t with
 | none=>false
 | some (v,_)=>QJ v&&decide ((Qm h t).1=Ji)
theorem Qxe {h:Qd} {t:Txt} (hd:QoP h t=false):(Qm h t).2=h:=by
 unfold QoP at hd;unfold Qm at *;cases hp:Q3 t with
 | none=>rfl
 | some p =>
   obtain ⟨v,l⟩:=p;rw[hp] at hd;simp only[doV] at *
   grind
theorem Qxd {h:Qd} {t:Txt} (hd:QoP h t=true):(Qm h t).1=Ji:=by
 unfold QoP at hd;split at hd
 ·cases hd
 ·simp only[QLP,decide_eq_true_eq] at hd
  exact hd.2
noncomputable def Xo (h:Qd) (s:List Txt):Nat->List Txt
 | 0=>[]
 | i+1=>if QoP (Qe h s i) (s.getD i []) then Xo h s i++[s.getD i []] else Xo h s i
theorem Qe6 (h:Qd) (s:List Txt) (t:Txt):Qe h (s++[t]) (s.length+1)=(Qm (Qe h s s.length) t).2:=by
 simp[Qe,QLQ]
theorem QkH (h:Qd) (s:List Txt) (t:Txt):QU h (s++[t]) (s.length+1)=QU h s s.length++[(Qm (Qe h s s.length) t).1]:=by
 unfold QU;rw[QMn,QL8,QM2]
 congr 1
 ·refine QMG fun j hj=>?_
  have hj:=QMi.1 hj
  have:Qe h (s++[t]) j=Qe h s j:=by
   unfold Qe;rw[List.take_append_of_le_length (by omega)]
  rw[this,List.getD_eq_getElem?_getD,QMd hj,List.getD_eq_getElem?_getD]
 ·have:Qe h (s++[t]) s.length=Qe h s s.length:=by simp[Qe]
  rw[this];simp[List.getD_eq_getElem?_getD]
theorem Qeh (h:Qd) (s:List Txt):∀ i,(Xo h s i).length<=i
 | 0=>QLS _
 | i+1=>by
   have:=Qeh h s i;unfold Xo;split<;>simp<;>omega
theorem Qeb (h:Qd) (s:List Txt):∀ i,i<=s.length->Qe h (Xo h s i) (Xo h s i).length=Qe h s i/\∀ a∈QU h (Xo h s i) (Xo h s i).length,a=Ji
 | 0,_=>⟨rfl,by simp[QU,Xo]⟩
 | i+1,hi=>by
   obtain ⟨h1,h2⟩:=Qeb h s i (by omega)
   have hg:s.getD i []=s[i]:=by simp[List.getD_eq_getElem?_getD,show i<s.length by omega]
   unfold Xo;rw[hg,Ze h s i (by omega)]
   cases hd:QoP (Qe h s i) s[i]
   ·exact ⟨by rw[Qxe hd];exact h1,h2⟩
   ·have:=Qxd hd
    simp only[if_true,QL3,List.length_singleton];rw[Qe6,QkH,h1];refine ⟨rfl,fun a ha=>?_⟩
    rcases QMc.1 ha with ha | ha
    ·exact h2 a ha
    ·simp at ha
     rw[ha,this]
theorem JO (u:Nat):∀ c∈Lib.decDigits u,48<=c.toNat/\c.toNat<=57:=by
 induction u using Nat.strongRecOn with
 | ind u ih =>
   intro c hc;rw[Lib.decDigits] at hc;split at hc
   ·simp at hc
    subst hc;simp;omega
   ·rcases QMc.1 hc with hc | hc
    ·exact ih (u / 10) (by omega) c hc
    ·simp at hc
     subst hc;simp;omega
theorem QvG (n:Int):(32:UInt8) ∉ Lib.itoa n:=by
 have h1:=JO n.natAbs 32;have h2:=JO n.toNat 32;have h3:(32:UInt8).toNat=32:=rfl;rw[h3] at h1 h2;unfold Lib.itoa;split
 ·rw[QLX]
  rintro (h | h)
  ·exact absurd h (by decide)
  ·have:=h1 h
   omega
 ·intro h
  have:=h2 h;omega
theorem Qh8 (u:Nat) (x:UInt8) (r:Txt) (h:Lib.decDigits u=x::r):x≠45:=fun e=>by
 have:=JO u x (by rw[h];simp)
 rw[e] at this;exact absurd this.1 (by decide)
theorem Qlm {n:Int} (h : -999999999<=n/\n<=999999999):Qea (Lib.itoa n)=some n:=by
 refine Qf2 rfl ?_;have h1:=VT n.natAbs 9 (by omega) (by omega)
 have h2:=VT n.toNat 9 (by omega) (by omega)
 unfold Lib.itoa;split
 ·simpa[Lib.trimPrefix,Lib.hasPrefix] using h1
 ·cases hd:Lib.decDigits n.toNat with
  | nil=>simp[Lib.trimPrefix,Lib.hasPrefix]
  | cons x r =>
    have hx:=Qh8 _ x r hd;rw[hd] at h2;have:Lib.hasPrefix (x::r) [45]=false:=by simp[Lib.hasPrefix,List.isPrefixOf,Ne.symm hx]
    simpa[Lib.trimPrefix,this] using h2
def QL (w:Txt) (l:List Int):Txt:=w++l.flatMap fun n=>32::Lib.itoa n
theorem Qjt:∀ (l:List Int) (w:Txt),32 ∉ w->spl (QL w l)=w::l.map Lib.itoa
 | [],w,h=>by simp[QL,Qjs w h]
 | n::r,w,h=>by
   have e:QL w (n::r)=w++32::QL (Lib.itoa n) r:=by simp[QL]
   rw[e,Qe7,Qjs w h,Qjt r _ (QvG n)];rfl
theorem Qbt:∀ (l:List Int),(∀ n∈l,-999999999<=n/\n<=999999999)->XN (l.map Lib.itoa)=some l
 | [],_=>rfl
 | n::r,h=>by
   simp only[QMb,XN,Qlm (h n (by simp)),Qbt r fun m hm=>h m (by simp[hm])]
theorem XZ {w:Txt} {v:Vv} {l:List Int} (hw:Xd w=some (l.length,v)) (hb:32 ∉ w) (h:∀ n∈l,-999999999<=n/\n<=999999999):Q3 (QL w l)=some (v,l):=by
 simp[Q3,Qjt l w hb,hw,Qbt l h]
theorem Wv:∀ (l:List Int) (w:Txt),(∀ n∈l,-999999999<=n/\n<=999999999)->(QL w l).length<=w.length+21*l.length
 | [],w,_=>by simp[QL]
 | n::l,w,h=>by
   have h1:=Wv l (w++32::Lib.itoa n) fun m hm=>h m (by simp[hm])
   have h2:=h n (by simp)
   have h3:=Qax (n:=n) (by omega)
   have e:QL w (n::l)=QL (w++32::Lib.itoa n) l:=by simp[QL]
   rw[e];simp at h1 |-;omega
def QB4 (t:Txt):Prop:=(∃ v l,Q3 t=some (v,l)/\QJ v=true)/\t.length<=200
def Qai (h:Qd) (s:List Txt) (h':Qd):Prop:=(Qe h s s.length=h'/\∀ a∈QU h s s.length,a=Ji)/\∀ t∈s,QB4 t
theorem Qai.nil (h:Qd):Qai h [] h:=⟨⟨rfl,by simp[QU]⟩,by simp⟩
theorem Qai.snoc {h h1 h2:Qd} {s:List Txt} {t:Txt} (w:Qai h s h1) (e:Qm h1 t=(Ji,h2)/\QB4 t):Qai h (s++[t]) h2:=by
 obtain ⟨⟨a,b⟩,c⟩:=w;obtain ⟨e,ec⟩:=e;unfold Qai;rw[QL3,List.length_singleton,Qe6,QkH,a,e];refine ⟨⟨rfl,fun x hx=>?_⟩,fun x hx=>?_⟩
 ·rcases QMc.1 hx with hx | hx
  ·exact b x hx
  ·simpa using hx
 ·rcases QMc.1 hx with hx | hx
  ·exact c x hx
  ·rw[QMB.1 hx]
   exact ec
theorem Qav {h h':Qd} {t:Txt} {v:Vv} {l:List Int} (hp:Q3 t=some (v,l)) (hc:QJ v=true) (he:Zq h v l=some h') (ho:okH h'):Qm h t=(Ji,h'):=by
 simp[Qm,hp,doV,hc,he,ho]
theorem YC {h h':Qd} {w:Txt} {v:Vv} {l:List Int} (hw:Xd w=some (l.length,v)) (hb:32 ∉ w/\w.length<=20) (hn:l.length<=7/\∀ n∈l,-999999999<=n/\n<=999999999) (hc:QJ v=true) (he:Zq h v l=some h') (ho:okH h'):Qm h (QL w l)=(Ji,h')/\QB4 (QL w l):=by
 have hp:=XZ hw hb.1 hn.2;have:=Wv l w hn.2;exact ⟨Qav hp hc he ho,⟨v,l,hp,hc⟩,by omega⟩
def hw (h:Qd) (ds:List Qs) (ts:List Vt) (ss:List Xq) (bs:List Qy) (rs:List Qo):Qd :=
 ⟨{ h.proof with chain:=⟨ds,ss,h.proof.chain.wrong⟩,machine:={ h.proof.machine with bals:=bs },trials:=ts },{ h.pull with reads:=rs }⟩
theorem Qhp (ds:List Qs) (i:Nat):∃ r,pv ds=pv (ds.take i)++r:=by
 refine ⟨XH Q1 (ds.drop i) (0+(ds.take i).length),?_⟩;unfold pv;rw[<- Z5,QNj]
theorem QmY {h:Qd} (ho:okH h) (i:Nat) (ss:List Xq) (bs:List Qy) (rs:List Qo) (hs:ss=[]\/h.proof.chain.deeds.length<=i/\ss <+: h.proof.chain.sights) (hb:bs <+: h.proof.machine.bals) (hr:rs <+: h.pull.reads) :
  okH (hw h (h.proof.chain.deeds.take i) (h.proof.trials.take (pv (h.proof.chain.deeds.take i)).length) ss bs rs):=by
 obtain ⟨⟨⟨c1,c2,c3,c4,c5⟩,⟨m1,m2,m3,m4,m5,m6,m7,m8⟩,h1,h2,h3,h4⟩,⟨u1,u2,u3,u4,u5,u6,u7,u8⟩⟩:=ho;obtain ⟨r,hpv⟩:=Qhp h.proof.chain.deeds i
 have hsub:∀ s∈ss,s∈h.proof.chain.sights/\h.proof.chain.deeds.length<=i:=fun s hs'=>by
  rcases hs with rfl | ⟨h5,h6⟩
  ·cases hs'
  ·exact ⟨h6.subset hs',h5⟩
 have hlen:ss.length<=h.proof.chain.sights.length:=by
  rcases hs with rfl | ⟨_,h6⟩
  ·simp
  ·exact h6.length_le
 have hle:(pv (h.proof.chain.deeds.take i)).length<=(pv h.proof.chain.deeds).length:=by rw[hpv,QL3];omega
 refine ⟨⟨⟨by simp[hw];omega,by simp[hw];omega,c3,fun j hj _=>?_,fun s hs'=>?_⟩,⟨m1,m2,m3,m4,m5,QMe hb.length_le m6,fun b hb'=>m7 b (hb.subset hb'),m8⟩,h1,h2,?_,fun j hj hj'=>?_⟩,⟨u1,u2,u3,u4,u5,QMe hr.length_le u6,u7,fun x hx=>u8 x (hr.subset hx)⟩⟩
 ·simp only[hw,QM4] at hj
  have:=c4 j (by omega) (by omega)
  simp only[hw,List.getElem_take]
  rwa [WQ _ _ _ (by omega)]
 ·obtain ⟨h5,h6⟩:=hsub s hs'
  simp only[hw];rw[QLQ h6];exact c5 s h5
 ·simp only[hw,QM4]
  omega
 ·simp only[hw,QM4] at hj hj'
  have hj2:j<(pv h.proof.chain.deeds).length:=by omega
  have:=h4 j hj2 (by omega)
  have he:(pv h.proof.chain.deeds)[j]=(pv (h.proof.chain.deeds.take i))[j]:=by simp[hpv,QM3 hj]
  have hlt:(pv (h.proof.chain.deeds.take i))[j]<i:=by
   have:=(Jm Q1 _ 0 _ (QLR hj)).2;simp only[QM4] at this;omega
  simp only[hw,List.getElem_take];rw[WQ _ _ _ (by omega),<- he]
  exact this
def QuH:Txt:=[119,101,108,100]
def QEU:Txt:=[99,117,116]
def QuI:Txt:=[116,117,114,110]
def Vw:Txt:=[112,114,111,118,101]
def QET:Txt:=[115,101,101]
def QEV:Txt:=[98,97,108,97,110,99,101]
def QuJ:Txt:=[114,101,97,100]
theorem QEW:Xd QuH=some (4,.weld):=by decide +kernel
theorem QK3:Xd QEU=some (2,.cut):=by decide +kernel
theorem QEX:Xd QuI=some (0,.turn):=by decide +kernel
theorem Qtv:Xd Vw=some (3,.prove):=by decide +kernel
theorem QK2:Xd QET=some (5,.see):=by decide +kernel
theorem QH1:Xd QEV=some (4,.balance):=by decide +kernel
theorem QAy:Xd QuJ=some (7,.read):=by decide +kernel
def trN (ds:List Qs) (i:Nat):Nat:=(pv (ds.take i)).length
theorem QdH (ds:List Qs) (i:Nat) (hi:i<ds.length):trN ds (i+1)=trN ds i+if Q1 ds[i] then 1 else 0:=by
 unfold trN pv;rw[QLM hi,Z5,QL3];simp only[XH];split<;>simp
def dL (ds:List Qs) (ts:List Vt) (i:Nat):Txt :=
 let d:=ds.getD i ⟨0,0,0,0,0⟩
 if d.what=1 then QL QuH [d.pos,d.frm,d.bar,d.smith] else if d.what=2 then QL QEU [d.pos,d.frm] else if d.what=3 then QL QuI []
 else let t:=ts.getD (trN ds i) ⟨0,0,0⟩;QL Vw [t.weight,t.mins,t.broke]
def sL (s:Xq):Txt:=QL QET [s.after,s.pos,s.frm,s.bar,s.smith]
def bL (b:Qy):Txt:=QL QEV [b.weight,b.mins,b.load,b.off]
def rL (x:Qo):Txt:=QL QuJ [x.whn,x.rod,x.count,x.rest,x.off,x.wlo,x.whi]
def JH (h:Qd) (i:Nat):List Txt:=(List.range i).map (dL h.proof.chain.deeds h.proof.trials)
def YQ (h:Qd):List Txt:=JH h h.proof.chain.deeds.length++h.proof.chain.sights.map sL++h.proof.machine.bals.map bL++h.pull.reads.map rL
def QgJ (h:Qd):Qd:=hw h [] [] [] [] []
theorem U2 {α:Type} {l:List α} {i:Nat} (hi:i<l.length):l.take i++[l[i]]=l.take (i+1):=(QLM hi).symm
theorem QoQ {h:Qd} (ho:okH h) (i:Nat) (hi:i<h.proof.chain.deeds.length) :
  Qm (hw h (h.proof.chain.deeds.take i) (h.proof.trials.take (trN h.proof.chain.deeds i)) [] [] []) (dL h.proof.chain.deeds h.proof.trials i) =
   (Ji,hw h (h.proof.chain.deeds.take (i+1)) (h.proof.trials.take (trN h.proof.chain.deeds (i+1))) [] [] [])/\QB4 (dL h.proof.chain.deeds h.proof.trials i):=by
 have hn:=QmY ho (i+1) [] [] [] (.inl rfl) QNk QNk;have hd:=ho.1.chain.deeds i hi hi;have hc:=ho.1.chain.deeds.cnt i (by omega) (by omega)
 have hlen:=ho.1.chain.len;have hg:h.proof.chain.deeds.getD i ⟨0,0,0,0,0⟩=h.proof.chain.deeds[i]:=by simp[hi]
 have ht:=QdH h.proof.chain.deeds i hi;unfold dL;rw[hg];change okH (hw h (h.proof.chain.deeds.take (i+1)) (h.proof.trials.take (trN h.proof.chain.deeds (i+1))) [] [] []) at hn;rw[<- U2 hi] at hn |-
 have hpr:¬ h.proof.chain.deeds[i].what=1->¬ h.proof.chain.deeds[i].what=2->¬ h.proof.chain.deeds[i].what=3->h.proof.chain.deeds[i].what=4:=by
  rcases hd with ⟨h1,_⟩ | ⟨h1,_⟩ | ⟨h1 | h1,_⟩<;>omega
 have hmany:trN h.proof.chain.deeds i<trN h.proof.chain.deeds (i+1)->trN h.proof.chain.deeds i<h.proof.trials.length:=fun h1=>by
  obtain ⟨r,hr⟩:=Qhp h.proof.chain.deeds (i+1);have h2:=congrArg List.length hr;rw[QL3] at h2;rw[ho.1.many];unfold trN at *;omega
 have htr:∀ j (hj:j<h.proof.trials.length),X0 h.proof.trials[j] (cnt h.proof.chain.deeds ((pv h.proof.chain.deeds)[j]'(by rw[<- ho.1.many];exact hj))):=fun j hj=>ho.1.trials j (by rw[<- ho.1.many];exact hj) hj
 generalize hD:h.proof.chain.deeds[i]=d at *;obtain ⟨what,pos,frm,bar,smith⟩:=d;simp only[Zu,inR] at hd hpr |-;by_cases h1:what=1
 ·subst h1
  simp only[Q1,reduceIte] at ht |-;have ht':trN h.proof.chain.deeds (i+1)=trN h.proof.chain.deeds i:=by simpa using ht
  rw[ht'] at hn |-;exact YC (v:=.weld) QEW (by decide) (by simp;omega) rfl (by simp[Zq,Qg,hw,nI]) hn
 ·by_cases h2:what=2
  ·subst h2
   simp only[Q1,h1,reduceIte] at ht |-;have ht':trN h.proof.chain.deeds (i+1)=trN h.proof.chain.deeds i:=by simpa using ht
   rw[ht'] at hn |-;obtain ⟨rfl,rfl⟩:bar=0/\smith=0:=by omega
   exact YC (v:=.cut) QK3 (by decide) (by simp;omega) rfl (by simp[Zq,Qg,hw,nI]) hn
  ·by_cases h3:what=3
   ·subst h3
    simp only[Q1,h1,h2,reduceIte] at ht |-;have ht':trN h.proof.chain.deeds (i+1)=trN h.proof.chain.deeds i:=by simpa using ht
    rw[ht'] at hn |-;obtain ⟨rfl,rfl,rfl,rfl⟩:pos=0/\frm=0/\bar=0/\smith=0:=by omega
    exact YC (v:=.turn) (l:=[]) QEX (by decide) (by simp) rfl (by simp[Zq,Qg,hw]) hn
   ·have h4:=hpr h1 h2 h3
    subst h4;simp only[Q1,h1,h2,h3,reduceIte] at ht |-;have ht':trN h.proof.chain.deeds (i+1)=trN h.proof.chain.deeds i+1:=by simpa using ht
    have hk:=hmany (by omega)
    obtain ⟨rfl,rfl,rfl,rfl⟩:pos=0/\frm=0/\bar=0/\smith=0:=by omega
    have hok:=htr _ hk;rw[ht',<- U2 hk] at hn |-;have hgt:h.proof.trials.getD (trN h.proof.chain.deeds i) ⟨0,0,0⟩=h.proof.trials[trN h.proof.chain.deeds i]:=by simp[hk]
    rw[hgt];generalize h.proof.trials[trN h.proof.chain.deeds i]=t at *
    have hcl:cnt h.proof.chain.deeds ((pv h.proof.chain.deeds)[trN h.proof.chain.deeds i]'(by rw[<- ho.1.many];exact hk))<=12:=by
     have h5:=(Jm Q1 _ 0 _ (QLR (by rw[<- ho.1.many];exact hk:trN h.proof.chain.deeds i<(pv h.proof.chain.deeds).length))).2
     have:=ho.1.chain.deeds.cnt _ (by omega) (by omega:(pv h.proof.chain.deeds)[trN h.proof.chain.deeds i]'(by rw[<- ho.1.many];exact hk)<=h.proof.chain.deeds.length)
     omega
    simp only[X0,inR] at hok;exact YC (v:=.prove) Qtv (by decide) (by simp;omega) rfl (by simp[Zq,hw,nI]) hn
theorem QaO {h:Qd} (ho:okH h):∀ i,i<=h.proof.chain.deeds.length->Qai (QgJ h) (JH h i) (hw h (h.proof.chain.deeds.take i) (h.proof.trials.take (trN h.proof.chain.deeds i)) [] [] [])
 | 0,_=>Qai.nil _
 | i+1,hi=>by
   have h1:=(QaO ho i (by omega)).snoc (QoQ ho i (by omega))
   unfold JH at *;rw[QMn,QL8];exact h1
theorem Qmp {h:Qd} (ho:okH h):h.proof.trials.take (trN h.proof.chain.deeds h.proof.chain.deeds.length)=h.proof.trials:=by
 rw[QLQ];unfold trN;rw[QLU];exact Nat.le_of_eq ho.1.many
theorem W5 {α:Type} {h0:Qd} {s:List Txt} (l:List α) (f:α->Txt) (H:List α->Qd) (w:Qai h0 s (H [])) (st:∀ i (hi:i<l.length),Qm (H (l.take i)) (f l[i])=(Ji,H (l.take (i+1)))/\QB4 (f l[i])):Qai h0 (s++l.map f) (H l):=by
 have:∀ i,i<=l.length->Qai h0 (s++(l.take i).map f) (H (l.take i)):=fun i=>by
  induction i with
  | zero=>intro _;simpa using w
  | succ i ih =>
    intro hi;have h1:=(ih (by omega)).snoc (st i (by omega))
    rw[QLM (by omega),QL8,<- QMY,<- QLM (by omega)]
    exact h1
 have h1:=this l.length (QLS _)
 rwa [QLU] at h1
theorem written {h:Qd} (ho:okH h):Qai (QgJ h) (YQ h) h:=by
 have hlen:=ho.1.chain.len;have w0:=QaO ho _ (QLS _);rw[QLU,Qmp ho] at w0
 have pre:∀ ss bs rs,ss <+: h.proof.chain.sights->bs <+: h.proof.machine.bals->rs <+: h.pull.reads->okH (hw h h.proof.chain.deeds h.proof.trials ss bs rs):=fun ss bs rs h1 h2 h3=>by
  have:=QmY ho h.proof.chain.deeds.length ss bs rs (.inr ⟨QLS _,h1⟩) h2 h3;rw[show (h.proof.trials.take (pv (h.proof.chain.deeds.take h.proof.chain.deeds.length)).length)=h.proof.trials from Qmp ho,QLU] at this
  exact this
 have w1:=W5 h.proof.chain.sights sL (fun ss=>hw h h.proof.chain.deeds h.proof.trials ss [] []) w0 fun i hi=>by
  have hs:=ho.1.chain.sights _ (QLR hi);have hn:=pre (h.proof.chain.sights.take (i+1)) [] [] (List.take_prefix _ _) QNk QNk;rw[<- U2 hi] at hn |-;generalize h.proof.chain.sights[i]=s at *;obtain ⟨a,b,c,d,e⟩:=s;simp only[ZI,inR] at hs;have hc:=ho.1.chain.deeds.cnt a.toNat (by omega) (by omega)
  exact YC (v:=.see) QK2 (by decide) (by simp;omega) rfl (by simp[Zq,hw,nI]) hn
 have w2:=W5 h.proof.machine.bals bL (fun bs=>hw h h.proof.chain.deeds h.proof.trials h.proof.chain.sights bs []) w1 fun i hi=>by
  have hs:=ho.1.machine.bals _ (QLR hi);have hn:=pre h.proof.chain.sights (h.proof.machine.bals.take (i+1)) [] (List.prefix_refl _) (List.take_prefix _ _) QNk;rw[<- U2 hi] at hn |-;generalize h.proof.machine.bals[i]=s at *;obtain ⟨a,b,c,d⟩:=s;have hs:((inR a 0 9999/\inR b 0 99)/\inR c 0 999999999)/\inR d 0 999999999:=by simpa[XD] using hs
  simp only[inR] at hs;exact YC (v:=.balance) QH1 (by decide) (by simp;omega) rfl (by simp[Zq,hw,nI]) hn
 have w3:=W5 h.pull.reads rL (fun rs=>hw h h.proof.chain.deeds h.proof.trials h.proof.chain.sights h.proof.machine.bals rs) w2 fun i hi=>by
  have hs:=ho.2.reads _ (QLR hi);have hrl:=ho.2.rlen;have hn:=pre h.proof.chain.sights h.proof.machine.bals (h.pull.reads.take (i+1)) (List.prefix_refl _) (List.prefix_refl _) (List.take_prefix _ _);rw[<- U2 hi] at hn |-;generalize h.pull.reads[i]=s at *;obtain ⟨a,b,c,d,e,f,g⟩:=s;simp only[Z3,inR] at hs;exact YC (v:=.read) QAy (by decide) (by simp;omega) rfl (by simp[Zq,hw,nI]) hn
 exact w3
theorem QBd {p:Qf} (hp:OkP p):kE p true=0\/kE p true=3:=by unfold kE;grind
theorem Qd4 {p:Qf} (hp:OkP p):(QD p).2=3\/(QD p).2=0/\kE p true=0/\QD p=Zz p.machine 0 p.need:=by
 unfold QD;rcases QBd hp with h | h
 ·have:=QkO hp h
  simp[h]
  grind
 ·simp[h]
theorem Ql3 {p:Qf} {w:Int} (hp:OkP p) (ho:OkP (Vk p w)) (hk:kE p true=0):rCond (Vk p w)=rCond p:=by
 have h1:=Qi9 hp ho hk;unfold rCond;rw[if_pos h1,if_pos hk,YT hp,YT ho,Ug hp,List.countP_map,QL6];simp only[Function.comp_def,QgM];rfl
def QfY (h:Qd) (w:Int):Qd:=⟨Vk h.proof w,h.pull⟩
theorem QbE {h:Qd} (ho:okH h) (hw:(QD h.proof).2=0) (hl:h.proof.chain.deeds.length<12) :
  inR (QD h.proof).1 0 9999/\okH (QfY h (QD h.proof).1)/\Qm h (QL Vw [(QD h.proof).1,0,-1])=(Ji,QfY h (QD h.proof).1):=by
 rcases Qd4 ho.1 with h3 | ⟨h1,hk,he⟩
 ·omega
 ·rw[he] at hw |-
  obtain ⟨h4,_⟩:=qA ho.1 hk hw;generalize (Zz h.proof.machine 0 h.proof.need).1=n at *;have hok:okH (QfY h n):=⟨Qz6 ho.1 hl h4,ho.2⟩;simp only[inR] at h4 |-;exact ⟨h4,hok,Qav (v:=.prove) (XZ Qtv (by decide) (by simp;omega)) rfl (by simp[Zq,nI,QfY,Vk,Qqd,Js,prv]) hok⟩
theorem Qni {h:Qd} (ho:okH h) (hw:(QD h.proof).2=0) (hl:h.proof.chain.deeds.length<12) :
  QR (QfY h (QD h.proof).1) .opn []=qY/\(QR (QfY h (QD h.proof).1) .good []=Vx↔QR (QfY h (QD h.proof).1) .condemned []=qC):=by
 obtain ⟨_,hok,_⟩:=QbE ho hw hl;rcases Qd4 ho.1 with h3 | ⟨h1,hk,he⟩
 ·omega
 ·rw[he] at hw hok |-
  obtain ⟨_,ha⟩:=qA ho.1 hk hw;generalize (Zz h.proof.machine 0 h.proof.need).1=n at *;have hk':=Qi9 ho.1 hok.1 hk;have ho':OkP (Vk h.proof n):=hok.1;simp only[QR,QfY,hk',Ql2 ho.1 ho' ha,Ql3 ho.1 ho' hk];have hg:=Qqa ho.1 ho' ha hk;refine ⟨by simp[Xa,Qlq],?_⟩
  simp only[Uv,if_true];generalize rCond h.proof=c at *;generalize rGood (Vk h.proof n)=g at *;have d1:¬ qC=Vx:=by decide
  have d2:¬ U4=Vx:=by decide
  have d3:¬ Vx=qC:=by decide
  have d4:¬ U4=qC:=by decide
  grind
section
variable {m:Machine} {b:List Qy} (hb:b.Perm m.bals)
include hb
theorem Qat:OkM { m with bals:=b }↔OkM m:=by
 constructor
 ·rintro ⟨h1,h2,h3,h4,h5,h6,h7,h8⟩
  exact ⟨h1,h2,h3,h4,h5,by rw[<- hb.length_eq];exact h6,fun x hx=>h7 x (hb.mem_iff.2 hx),h8⟩
 ·rintro ⟨h1,h2,h3,h4,h5,h6,h7,h8⟩
  exact ⟨h1,h2,h3,h4,h5,by rw[<- hb.length_eq] at h6;exact h6,fun x hx=>h7 x (hb.mem_iff.1 hx),h8⟩
theorem Qlu (s:Qk):Vq { m with bals:=b } s↔Vq m s:=by
 unfold Vq;have:ZQ { m with bals:=b } b s=ZQ m m.bals s:=hb.countP_eq _
 rw[this];exact Iff.rfl
theorem qc (first:List Int) (rest:List ZC):QW { m with bals:=b } first rest=QW m first rest:=by
 unfold QW;refine QNf fun s _=>?_
 rw[decide_eq_decide];exact Qlu hb s
theorem Qmq (is:Bool):tL { m with bals:=b } is=tL m is:=by
 unfold tL;simp only[Qat hb,qc hb]
theorem Qmr (is:Bool):tE { m with bals:=b } is=tE m is:=by
 unfold tE;simp only[Qat hb,qc hb]
theorem Qk9 (w mn:Int):Yk { m with bals:=b } w mn=Yk m w mn:=by
 unfold Yk;rw[Qmq hb];rfl
theorem QfH (mn load:Int):Zz { m with bals:=b } mn load=Zz m mn load:=by
 unfold Zz;rw[Qmr hb,Qmq hb];rfl
end
theorem QqR {p:Qf} {b:List Qy} (hb:b.Perm p.machine.bals):OkP { p with machine:={ p.machine with bals:=b } }↔OkP p:=by
 constructor
 ·rintro ⟨h1,h2,h3,h4,h5,h6⟩
  exact ⟨h1,(Qat hb).1 h2,h3,h4,h5,h6⟩
 ·rintro ⟨h1,h2,h3,h4,h5,h6⟩
  exact ⟨h1,(Qat hb).2 h2,h3,h4,h5,h6⟩
theorem QvF {p:Qf} {b:List Qy} (hb:b.Perm p.machine.bals) (is:Bool):kE { p with machine:={ p.machine with bals:=b } } is=kE p is:=by
 unfold kE
 have:Qr { p with machine:={ p.machine with bals:=b } }=Qr p:=by
  unfold Qr;simp only[qc hb]
 rw[this];simp only[QqR hb]
theorem Qho {p:Qf} {b:List Qy} (hb:b.Perm p.machine.bals):QD { p with machine:={ p.machine with bals:=b } }=QD p:=by
 unfold QD;rw[QvF hb,QfH hb]
section
variable {p:Zm} {r:List Qo} (hr:r.Perm p.reads)
include hr
theorem QjO:OkU { p with reads:=r }↔OkU p:=by
 constructor
 ·rintro ⟨h1,h2,h3,h4,h5,h6,h7,h8⟩
  exact ⟨h1,h2,h3,h4,h5,by rw[<- hr.length_eq];exact h6,h7,fun x hx=>h8 x (hr.mem_iff.2 hx)⟩
 ·rintro ⟨h1,h2,h3,h4,h5,h6,h7,h8⟩
  exact ⟨h1,h2,h3,h4,h5,by rw[<- hr.length_eq] at h6;exact h6,h7,fun x hx=>h8 x (hr.mem_iff.1 hx)⟩
theorem QaW:Um { p with reads:=r }=Um p:=by
 unfold Um;refine QNf fun t _=>?_
 have h:∀ wh w len,wrU { p with reads:=r } wh w len=wrU p wh w len:=fun wh w len=>hr.countP_eq _
 unfold Qdz;rw[h,h]
theorem Qml (is:Bool):uE { p with reads:=r } is=uE p is:=by
 unfold uE;simp only[QjO hr,QaW hr]
theorem QuM (is:Bool):uL { p with reads:=r } is=uL p is:=by
 unfold uL;simp only[QjO hr,QaW hr]
theorem Qlb:Wk { p with reads:=r }=Wk p:=by
 unfold Wk;rw[Qml hr,QaW hr]
end
def Qlv:Vv->Bool
 | .pulls | .stretch | .best | .weight=>true
 | _=>false
theorem Qtd {h:Qd} {b:List Qy} {r:List Qo} (hb:b.Perm h.proof.machine.bals) (hr:r.Perm h.pull.reads) {v:Vv} (hv:Qlv v=true) (l:List Int) :
  QR (hw h h.proof.chain.deeds h.proof.trials h.proof.chain.sights b r) v l=QR h v l:=by
 cases v<;>simp only[Qlv,QMh] at hv<;>simp only[QR,hw]
 ·rw[Qk9 hb,Qmr hb]
 ·rw[Qho hb]
 ·rw[QuM hr,Qml hr]
 ·rw[Qlb hr]
def Xn:Qy ⊕ Qo->Txt
 | .inl b=>bL b
 | .inr x=>rL x
def Qkb:Qy ⊕ Qo->Option Qy
 | .inl b=>some b
 | _=>none
def Qj9:Qy ⊕ Qo->Option Qo
 | .inr x=>some x
 | _=>none
def QFc:Qy ⊕ Qo->Prop
 | .inl b=>XD b=false
 | .inr x=>Z3 4 x
theorem QqO {b:Qy} (h:XD b=false):Q3 (bL b)=some (.balance,[b.weight,b.mins,b.load,b.off]):=by
 have hs:((inR b.weight 0 9999/\inR b.mins 0 99)/\inR b.load 0 999999999)/\inR b.off 0 999999999:=by simpa[XD] using h
 simp only[inR] at hs;exact XZ QH1 (by decide) (by simp;omega)
theorem QqN {x:Qo} (h:Z3 4 x):Q3 (rL x)=some (.read,[x.whn,x.rod,x.count,x.rest,x.off,x.wlo,x.whi]):=by
 simp only[Z3,inR] at h;exact XZ QAy (by decide) (by simp;omega)
theorem Jv (h:Qd) (s r:List Txt) (i:Nat) (hi:i<=s.length):Qe h (s++r) i=Qe h s i:=by
 unfold Qe;rw[List.take_append_of_le_length hi]
theorem Qp5 (h:Qd) (s r:List Txt):QU h (s++r) s.length=QU h s s.length:=by
 rw[<- QlZ,List.take_left]
theorem YE (h:Qd) (s r:List Txt) (i:Nat):Qe h (s++r) (s.length+i)=Qe (Qe h s s.length) r i:=by
 rw[<- Qa1,List.drop_left,Jv h s r _ (QLS _)]
theorem Uk (h:Qd) (s r:List Txt) (i:Nat):QU h (s++r) (s.length+i)=QU h s s.length++QU (Qe h s s.length) r i:=by
 rw[Qp6,List.drop_left,Qp5,Jv h s r _ (QLS _)]
def QlX (t:Txt):Prop:=∃ v l,Q3 t=some (v,l)/\QJ v=false
theorem Yg {h:Qd} {t:Txt} {v:Vv} {l:List Int} (hp:Q3 t=some (v,l)) (hc:QJ v=false):Qm h t=(QR h v l,h):=by
 simp[Qm,hp,doV,hc]
theorem YA {h:Qd} {r:List Txt} (hr:∀ t∈r,QlX t):∀ i,Qe h r i=h
 | 0=>rfl
 | i+1=>by
   by_cases hi:i<r.length
   ·obtain ⟨v,l,hp,hc⟩:=hr _ (QLR hi)
    rw[Ze h r i hi,YA hr i,Yg hp hc]
   ·have:=YA (h:=h) hr i
    unfold Qe at this |-
    rwa [QLQ (by omega)] at this |-
theorem QgK {h:Qd} {r:List Txt} (hr:∀ t∈r,QlX t):QU h r r.length=r.map fun t=>(Qm h t).1:=by
 unfold QU;refine List.ext_getElem (by simp) fun i h1 h2=>?_
 simp at h1;simp[YA hr,h1]
theorem QjY (h:Qd) (s:List Txt):∀ n,n<=s.length->∀ t∈Xo h s n,t∈s
 | 0,_,t,ht=>by cases ht
 | n+1,hn,t,ht=>by
   have ih:=QjY h s n (by omega)
   unfold Xo at ht;split at ht
   ·rcases QMc.1 ht with ht | ht
    ·exact ih t ht
    ·simp only[QMB] at ht
     rw[ht,List.getD_eq_getElem?_getD,QLN (by omega)]
     exact QLR _
   ·exact ih t ht
theorem Qc2 (h:Qd) (s:List Txt):∀ n,n<=s.length->∀ k,k<=(Xo h s n).length->∃ i,i<=n/\Qe h (Xo h s n) k=Qe h s i
 | 0,_,k,hk=>⟨0,QLS _,by simp[Xo,Qe]⟩
 | n+1,hn,k,hk=>by
   have ih:=Qc2 h s n (by omega)
   by_cases he:k=(Xo h s (n+1)).length
   ·exact ⟨n+1,QLS _,by rw[he];exact (Qeb h s (n+1) hn).1⟩
   ·unfold Xo at hk he |-
    split at hk
    ·rename_i hd
     rw[if_pos hd] at he |-;simp at hk he;obtain ⟨i,hi,e⟩:=ih k (by omega)
     exact ⟨i,by omega,by rw[Jv _ _ _ _ (by omega),e]⟩
    ·rename_i hd
     rw[if_neg hd] at he |-;obtain ⟨i,hi,e⟩:=ih k hk;exact ⟨i,by omega,e⟩
theorem Qvp {h:Qd} (ho:okH h) (bs:List Qy) (rs:List Qo) (hb:∀ b∈bs,b∈h.proof.machine.bals) (hr:∀ x∈rs,x∈h.pull.reads) (lb:bs.length<=h.proof.machine.bals.length) (lr:rs.length<=h.pull.reads.length) :
  okH (hw h h.proof.chain.deeds h.proof.trials h.proof.chain.sights bs rs):=by
 obtain ⟨⟨hc,⟨m1,m2,m3,m4,m5,m6,m7,m8⟩,h1,h2,h3,h4⟩,⟨u1,u2,u3,u4,u5,u6,u7,u8⟩⟩:=ho;exact ⟨⟨hc,⟨m1,m2,m3,m4,m5,QMe lb m6,fun b hb'=>m7 b (hb b hb'),m8⟩,h1,h2,h3,h4⟩,⟨u1,u2,u3,u4,u5,QMe lr u6,u7,fun x hx=>u8 x (hr x hx)⟩⟩
theorem QfL {h:Qd} (ho:okH h) {L:List (Qy ⊕ Qo)} (hL:L.Perm (h.proof.machine.bals.map .inl++h.pull.reads.map .inr)) (hk:∀ x∈L,QFc x):∀ i,i<=L.length ->
  Qe (hw h h.proof.chain.deeds h.proof.trials h.proof.chain.sights [] []) (L.map Xn) i=hw h h.proof.chain.deeds h.proof.trials h.proof.chain.sights ((L.take i).filterMap Qkb) ((L.take i).filterMap Qj9)
   /\ ∀ j,j<i->∀ hj:j<L.length,(Qm (Qe (hw h h.proof.chain.deeds h.proof.trials h.proof.chain.sights [] []) (L.map Xn) j) (Xn L[j])).1=Ji
 | 0,_=>⟨by simp[Qe],by intro j hj;omega⟩
 | i+1,hi=>by
   obtain ⟨h1,h2⟩:=QfL ho hL hk i (by omega)
   have hpb:(L.filterMap Qkb).Perm h.proof.machine.bals:=by
    have:=hL.filterMap Qkb;have e1:h.proof.machine.bals.filterMap (Qkb∘Sum.inl)=h.proof.machine.bals:=List.filterMap_some;have e2:h.pull.reads.filterMap (Qkb∘Sum.inr)=[]:=by simp[Qkb,Function.comp_def]
    rw[List.filterMap_append,List.filterMap_map,List.filterMap_map,e1,e2,QL0] at this;exact this
   have hpr:(L.filterMap Qj9).Perm h.pull.reads:=by
    have:=hL.filterMap Qj9;have e1:h.proof.machine.bals.filterMap (Qj9∘Sum.inl)=[]:=by simp[Qj9,Function.comp_def]
    have e2:h.pull.reads.filterMap (Qj9∘Sum.inr)=h.pull.reads:=List.filterMap_some;rw[List.filterMap_append,List.filterMap_map,List.filterMap_map,e1,e2,QL4] at this;exact this
   have hok:=fun j=>Qvp ho ((L.take j).filterMap Qkb) ((L.take j).filterMap Qj9)
    (fun b hb=>hpb.subset (((List.take_sublist j L).filterMap Qkb).subset hb)) (fun x hx=>hpr.subset (((List.take_sublist j L).filterMap Qj9).subset hx))
    (by rw[<- hpb.length_eq];exact ((List.take_sublist j L).filterMap Qkb).length_le) (by rw[<- hpr.length_eq];exact ((List.take_sublist j L).filterMap Qj9).length_le)
   have hx:=hk _ (QLR (show i<L.length by omega))
   have hi1:=hok (i+1)
   have hln:Qm (Qe (hw h h.proof.chain.deeds h.proof.trials h.proof.chain.sights [] []) (L.map Xn) i) (Xn L[i])=(Ji,hw h h.proof.chain.deeds h.proof.trials h.proof.chain.sights ((L.take (i+1)).filterMap Qkb) ((L.take (i+1)).filterMap Qj9)):=by
    rw[h1];rw[QLM (by omega),List.filterMap_append,List.filterMap_append] at hi1 |-
    generalize L[i]=x at *;cases x with
    | inl b=>exact Qav (QqO hx) rfl (by simp[Zq,hw,nI,Qkb,Qj9]) hi1
    | inr x=>exact Qav (QqN hx) rfl (by simp[Zq,hw,nI,Qkb,Qj9]) hi1
   refine ⟨?_,fun j hj hj2=>?_⟩
   ·rw[Ze _ _ _ (by rw[QL6];omega),List.getElem_map,hln]
   ·by_cases e:j=i
    ·subst e
     rw[hln]
    ·exact h2 j (by omega) hj2
theorem Qfl {h:Qd} {s:List Txt} (ho:okH h) (h4:s.length<=40) (hw:∀ t∈s,t.length<=1000) (hf:∀ i (hi:i<s.length) v l,Q3 s[i]=some (v,l)->QJ v=false->qy (Qe h s i)) :
  Ev.Good Tryz.prog KW 11 [hoV h,strs s] (.tup [strs (QU h s s.length),hoV (Qe h s s.length),.int .i64 0]):=by
 have g:=QBM h s (Qq ho) (by omega) (fun _ _=>hw) (fun _ _=>hf)
 have h5:¬ 40<s.length:=by omega
 unfold QtG QgU QtF at g
 rwa [if_pos ho,if_pos ho,if_pos ho,if_neg h5,if_neg h5,if_neg h5] at g
theorem JE {h:Qd} {s:List Txt} (hr:Xe h s) (i:Nat) (hi:i<=s.length):qy (Qe h s i):=(Qhu hr.1).2.2.2 hr.2.1 i hi
theorem Yv {h:Qd} {s:List Txt} (hr:Xe h s):∀ t∈s,t.length<=1000:=(Qhu hr.1).2.2.1
theorem Wd {h:Qd} {s:List Txt} (hr:Xe h s):Ev.Good Tryz.prog KW 11 [hoV h,strs s] (.tup [strs (QU h s s.length),hoV (Qe h s s.length),.int .i64 0]) :=
 Qfl hr.2.1 hr.2.2 (Yv hr) fun i hi _ _ _ _=>JE hr i (by omega)
theorem QqC {h:Qd} {s:List Txt} (hr:Xe h s):Ev.Good Tryz.prog KW 11 [hoV h,strs (Xo h s s.length)] (.tup [strs (QU h (Xo h s s.length) (Xo h s s.length).length),hoV (Qe h s s.length),.int .i64 0]):=by
 have h1:=Qeh h s s.length;have h4:=hr.2.2
 have g:=Qfl (s:=Xo h s s.length) hr.2.1 (by omega) (fun t ht=>Yv hr t (QjY h s _ (QLS _) t ht)) fun i hi _ _ _ _=>by
  obtain ⟨j,hj,e⟩:=Qc2 h s _ (QLS _) i (by omega)
  rw[e];exact JE hr j hj
 rwa [(Qeb h s _ (QLS _)).1] at g
theorem Qva {h:Qd} {s r:List Txt} (hr:Xe h (s++r)):Ev.Good Tryz.prog KW 11 [hoV h,strs s] (.tup [strs (QU h s s.length),hoV (Qe h s s.length),.int .i64 0]):=by
 have h4:=hr.2.2;rw[QL3] at h4
 exact Qfl hr.2.1 (by omega) (fun t ht=>Yv hr t (List.mem_append_left _ ht)) fun i hi _ _ _ _=>by
  have:=JE hr i (by simp;omega)
  rwa [Jv _ _ _ _ (by omega)] at this
theorem Qjz {h:Qd} {s r:List Txt} (hr:Xe h s) (h4:s.length+r.length<=40) (ha:∀ t∈r,QlX t) (hw:∀ t∈r,t.length<=1000) :
  Ev.Good Tryz.prog KW 11 [hoV h,strs (s++r)] (.tup [strs (QU h s s.length++r.map fun t=>(Qm (Qe h s s.length) t).1),hoV (Qe h s s.length),.int .i64 0]):=by
 have g:=Qfl (s:=s++r) hr.2.1 (by simp;omega) (fun t ht=>by
  rcases QMc.1 ht with h1 | h1
  ·exact Yv hr t h1
  ·exact hw t h1) fun i hi _ _ _ _=>by
  by_cases h1:i<=s.length
  ·rw[Jv _ _ _ _ h1]
   exact JE hr i h1
  ·obtain ⟨k,rfl⟩:∃ k,i=s.length+k:=⟨i-s.length,by omega⟩
   rw[YE,YA ha];exact JE hr _ (QLS _)
 rw[QL3,Uk,YE,YA ha,QgK ha] at g;exact g
theorem Qti (h:Qd) (t u:Txt):QU h [t,u] 2=[(Qm h t).1,(Qm (Qm h t).2 u).1]:=by simp[QU,QMn,Qe]
theorem Qmu (h:Qd) (t u:Txt):Qe h [t,u] 2=(Qm (Qm h t).2 u).2:=by simp[Qe]
theorem Qu9 {h:Qd} {s:List Txt} {t u:Txt} (hr:Xe h (s++[t,u])) :
  Ev.Good Tryz.prog KW 11 [hoV h,strs (s++[t,u])] (.tup [strs (QU h s s.length++[(Qm (Qe h s s.length) t).1,(Qm (Qm (Qe h s s.length) t).2 u).1]),hoV (Qm (Qm (Qe h s s.length) t).2 u).2,.int .i64 0]):=by
 have g:=Wd hr
 rwa [QL3,show [t,u].length=2 from rfl,Uk,YE,Qti,Qmu] at g
theorem Qhb {h:Qd} (ho:okH h) (h4:(YQ h).length<=40) :
  Ev.Good Tryz.prog KW 11 [hoV (QgJ h),strs (YQ h)] (.tup [strs ((YQ h).map fun _=>Ji),hoV h,.int .i64 0]):=by
 obtain ⟨⟨w1,w2⟩,w3⟩:=written ho;have hb:okH (QgJ h):=by simpa[QgJ,pv,XH] using QmY ho 0 [] [] [] (.inl rfl) QNk QNk
 have g:=Qfl hb h4 (fun t ht=>QMe (w3 t ht).2 (by omega)) fun i hi v l hp hq=>by
  obtain ⟨⟨v',l',h1,h2⟩,_⟩:=w3 _ (QLR hi);rw[hp] at h1;injection h1 with h1
  injection h1 with h1
  rw[h1,h2] at hq;cases hq
 have e:QU (QgJ h) (YQ h) (YQ h).length=(YQ h).map fun _=>Ji:=by
  refine List.ext_getElem (by simp[QU]) fun i h1 h2=>?_
  rw[w2 _ (QLR h1)];simp
 rwa [w1,e] at g
def JW:Txt:=[119,101,105,103,104,116]
def QdK:Txt:=[111,112,101,110]
def QdL:Txt:=[103,111,111,100]
def QdM:Txt:=[99,111,110,100,101,109,110,101,100]
theorem qO:Q3 JW=some (.weight,[]):=by decide +kernel
theorem Qlg:Q3 QdK=some (.opn,[]):=by decide +kernel
theorem Qlh:Q3 QdL=some (.good,[]):=by decide +kernel
theorem Qlj:Q3 QdM=some (.condemned,[]):=by decide +kernel
theorem Qk2 {h:Qd} {s:List Txt} (hr:Xe h s) (h4:s.length<=35) :
  Ev.Good Tryz.prog KW 11 [hoV h,strs (s++[JW])] (.tup [strs (QU h s s.length++[Xa [(QD (Qe h s s.length).proof).1] (QD (Qe h s s.length).proof).2]),hoV (Qe h s s.length),.int .i64 0]):=by
 have g:=Qjz (r:=[JW]) hr (by simp;omega) (fun t ht=>by
  rw[QMB.1 ht];exact ⟨_,_,qO,rfl⟩) (fun t ht=>by
  rw[QMB.1 ht];decide)
 have e:(Qm (Qe h s s.length) JW).1=Xa [(QD (Qe h s s.length).proof).1] (QD (Qe h s s.length).proof).2:=by
  rw[Yg qO rfl];rfl
 rwa [QM2,e] at g
theorem Qp4 (h:Qd) (a b c d:Txt):QU h [a,b,c,d] 4=[(Qm h a).1,(Qm (Qm h a).2 b).1,(Qm (Qm (Qm h a).2 b).2 c).1,(Qm (Qm (Qm (Qm h a).2 b).2 c).2 d).1]:=by
 simp[QU,QMn,Qe]
theorem QkX (h:Qd) (a b c d:Txt):Qe h [a,b,c,d] 4=(Qm (Qm (Qm (Qm h a).2 b).2 c).2 d).2:=by simp[Qe]
theorem QqD {h:Qd} {s:List Txt} {n:Int} {X:Qd} (hX:Qe h s s.length=X) (hn:(QD X.proof).1=n) (hr:Xe h (s++[QL Vw [n,0,-1],QdK,QdL,QdM])) (hw:(QD X.proof).2=0) (hl:X.proof.chain.deeds.length<12) :
  ∃ G C L,(G=Vx↔C=qC)/\Ev.Good Tryz.prog KW 11 [hoV h,strs (s++[QL Vw [n,0,-1],QdK,QdL,QdM])] (.tup [strs (QU h s s.length++[Ji,qY,G,C]),hoV L,.int .i64 0]):=by
 have ho:okH X:=by rw[<- hX];exact Yd hr.2.1 _
 obtain ⟨_,_,e1⟩:=QbE ho hw hl;obtain ⟨e2,e3⟩:=Qni ho hw hl;have g:=Wd hr;rw[QL3,show [QL Vw [n,0,-1],QdK,QdL,QdM].length=4 from rfl,Uk,YE,hX,Qp4,QkX] at g
 rw[hn] at e1 e2 e3;rw[e1] at g;simp only[Yg Qlg rfl,Yg Qlh rfl,Yg Qlj rfl] at g;rw[e2] at g;exact ⟨_,_,_,e3,g⟩
def Qcd (h:Qd):Qd:=hw h h.proof.chain.deeds h.proof.trials h.proof.chain.sights [] []
def QmW (h:Qd) (L:List (Qy ⊕ Qo)):Qd:=hw h h.proof.chain.deeds h.proof.trials h.proof.chain.sights (L.filterMap Qkb) (L.filterMap Qj9)
def XA (h:Qd):List (Qy ⊕ Qo):=h.proof.machine.bals.map .inl++h.pull.reads.map .inr
theorem QD3 {h:Qd} (ho:okH h) {L:List (Qy ⊕ Qo)} (hL:L.Perm (XA h)):∀ x∈L,QFc x:=fun x hx=>by
 have hx:=hL.mem_iff.1 hx;simp only[XA,QMc,QL5] at hx;rcases hx with ⟨b,hb,rfl⟩ | ⟨y,hy,rfl⟩
 ·exact ho.1.machine.bals b hb
 ·have h1:=ho.2.reads y hy
  have h2:=ho.2.rlen;simp only[QFc,Z3,inR] at h1 |-;omega
theorem QmB {h:Qd} (ho:okH h) {L:List (Qy ⊕ Qo)} (hL:L.Perm (XA h)) {r:List Txt} (ha:∀ t∈r,QlX t) (hr:Xe (Qcd h) (L.map Xn++r)) :
  Ev.Good Tryz.prog KW 11 [hoV (Qcd h),strs (L.map Xn++r)] (.tup [strs ((L.map fun _=>Ji)++r.map fun t=>(Qm (QmW h L) t).1),hoV (QmW h L),.int .i64 0]):=by
 obtain ⟨h1,h2⟩:=QfL ho hL (QD3 ho hL) L.length (QLS _);rw[QLU] at h1;have h1:Qe (Qcd h) (L.map Xn) (L.map Xn).length=QmW h L:=by rw[QL6];exact h1
 have e:QU (Qcd h) (L.map Xn) (L.map Xn).length=L.map fun _=>Ji:=by
  refine List.ext_getElem (by simp[QU]) fun i h3 h4=>?_
  simp only[QL6] at h4;have:=h2 i h4 h4;simp only[QU,List.getElem_map,List.getElem_range];rw[List.getD_eq_getElem?_getD,QLN (by simpa using h4)]
  simpa[Qcd] using this
 have g:=Wd hr
 rwa [QL3,Uk,YE,h1,e,YA ha,QgK ha] at g
theorem Qlk {h:Qd} {L M:List (Qy ⊕ Qo)} (hL:L.Perm (XA h)) (hM:M.Perm (XA h)) {t:Txt} {v:Vv} {l:List Int} (hp:Q3 t=some (v,l)) (hv:Qlv v=true) :
  (Qm (QmW h L) t).1=(Qm (QmW h M) t).1:=by
 have hc:QJ v=false:=by cases v<;>first | rfl | cases hv
 rw[Yg hp hc,Yg hp hc];have hp:=hL.trans hM.symm;exact Qtd (h:=QmW h M) (b:=L.filterMap Qkb) (r:=L.filterMap Qj9) (hp.filterMap _) (hp.filterMap _) hv l
theorem Qa4 {l:List Int} (h:∀ x∈l,-10<=x/\x<=100):(YG l).length<=400:=by
 rw[<- Qe8 (l:=l) (fun x=>Iff.rfl) h]
 exact QMe (JX _ _ _) (by decide)
theorem QuG {c:Qn} (hc:OkC c) (n:Int):(QkM c n).length<=400:=by
 unfold QkM;split
 ·refine Qa4 fun x hx=>?_
  obtain ⟨k,_,rfl⟩:=QL5.1 hx;unfold Qmf;have:=QoY hc (ZD c.deeds k);rw[List.getD_eq_getElem?_getD];cases h:(cab c.deeds (ZD c.deeds k) c.deeds.length)[n.toNat]? with
  | none=>simp
  | some x =>
    have:=this x (QL2 h);simp;omega
 ·simp
theorem Qqr {c:Qn} (hc:OkC c) (n:Int):(QdC c n).length<=400:=by
 unfold QdC;split
 ·refine Qa4 fun x hx=>?_
  obtain ⟨k,_,rfl⟩:=QL5.1 hx;unfold QaR VG fi;have h1:=QgE hc (ZD c.deeds k)
  grind
 ·simp
theorem QpS (p:Qf) (n:Int):(Ut p n).length<=400:=QMe (JX _ _ _) (by decide)
theorem Qvn {p:Qf} (hp:OkP p):(Wi p).length<=400:=by
 have h2:=OkD.cnt hp.chain.deeds p.chain.deeds.length (QLS _) (QLS _);have h3:=hp.chain.len;have h4:(Xw p.chain.deeds).toNat<=12:=by unfold Xw;omega
 unfold Wi;split
 ·refine QMe (QeR _ 1 (fun i=>?_) _) (by omega)
  split<;>simp
 ·simp
theorem QqG (u:Zm) (n:Int):(Qd5 u n).length<=400:=by
 unfold Qd5;split
 ·rename_i h
  obtain ⟨hp,hb,_⟩:=QaV h;have hb:=of_decide_eq_true hb;simp only[inR] at hb;have hlt:n.toNat<u.rods.length:=by omega
  have hr:=hp.rods _ (QLR hlt);rw[List.getD_eq_getElem?_getD,QLN hlt,QMU];simp only[J3,inR] at hr;refine QMe (JX _ _ _) ?_;omega
 ·simp
theorem Qu7 {l:List Int} (h:OkL l):∀ n∈l,¬ n < -1125899906842624/\¬ 1125899906842624<n:=fun n hn=>by
 have:=h.2 n hn;omega
def QEe:Txt:=[119,104,111]
def Qjm:Txt:=[119,104,101,114,101]
def Qjp:Txt:=[102,105,114,115,116]
def Ju:Txt:=[112,117,108,108,115]
def Qjq:Txt:=[98,114,111,107,101]
def Qjn:Txt:=[108,111,97,100,115]
def U5:Txt:=[102,97,105,108,117,114,101,115]
def V1:Txt:=[99,111,110,100,101,109,110,101,100]
def QdJ:Txt:=[112,114,111,118,101,100]
def QEf:Txt:=[111,112,101,110]
def QEg:Txt:=[103,111,111,100]
def Qjl:Txt:=[119,111,114,116,104]
def QcH:Txt:=[119,101,105,103,104,116]
def V0:Txt:=[115,116,114,101,116,99,104]
def QkS:Txt:=[98,101,115,116]
def Qjo:Txt:=[104,111,108,100,115]
def Qqv:Txt:=[114,111,100,115]
def UV (a k t w m p r:Int):List (Txt × Vv × List Int):=[(QEe,.who,[a]),(Qjm,.wher,[k]),(Qjp,.first,[]),(Ju,.pulls,[w,m]),(Qjq,.broke,[t]),(Qjn,.loads,[t]),(U5,.failures,[]),(V1,.condemned,[]),
 (QdJ,.proved,[k]),(QEf,.opn,[]),(QEg,.good,[]),(Qjl,.worth,[]),(QcH,.weight,[]),(V0,.stretch,[]),(QkS,.best,[]),(Qjo,.holds,[p]),(Qqv,.rods,[r])]
theorem QlW (a k t w m p r:Int):∀ q∈UV a k t w m p r,Xd q.1=some (q.2.2.length,q.2.1)/\(32 ∉ q.1/\q.1.length<=20)/\QJ q.2.1=false/\q.2.2.length<=7:=by
 simp only[UV,QLX,QLZ,or_false,forall_eq_or_imp,forall_eq,QMa,QMs];refine ⟨?_,?_,?_,?_,?_,?_,?_,?_,?_,?_,?_,?_,?_,?_,?_,?_,?_⟩
 all_goals exact ⟨by decide +kernel,by decide,rfl,by decide⟩
def Yp (l:List Int):Prop:=∀ n∈l,0<=n/\n<=999999999
theorem QpV {a k t w m p r:Int} (h:Yp [a,k,t,w,m,p,r]):∀ q∈UV a k t w m p r,∀ n∈q.2.2,-999999999<=n/\n<=999999999:=by
 simp only[Yp,UV,QLX,QLZ,or_false,forall_eq_or_imp,forall_eq] at h |-;simp;omega
theorem Qtc {a k t w m p r:Int} (h:Yp [a,k,t,w,m,p,r]) (X:Qd):(∀ t'∈(UV a k t w m p r).map (fun q=>QL q.1 q.2.2),QlX t'/\t'.length<=1000) /\
  ((UV a k t w m p r).map (fun q=>QL q.1 q.2.2)).map (fun t'=>(Qm X t').1)=(UV a k t w m p r).map fun q=>QR X q.2.1 q.2.2:=by
 have hq:=QlW a k t w m p r;have hn:=QpV h;generalize UV a k t w m p r=L at *;refine ⟨fun t' ht=>?_,?_⟩
 ·obtain ⟨q,hm,rfl⟩:=QL5.1 ht
  obtain ⟨h1,⟨h2,h3⟩,h4,h5⟩:=hq q hm;have:=Wv q.2.2 q.1 (hn q hm);exact ⟨⟨_,_,XZ h1 h2 (hn q hm),h4⟩,by omega⟩
 ·rw[List.map_map]
  refine QMG fun q hm=>?_
  obtain ⟨h1,⟨h2,_⟩,h4,_⟩:=hq q hm;simp only[Function.comp_apply];rw[Yg (XZ h1 h2 (hn q hm)) h4]
theorem Qls (w:Txt) (l:List Int) (x:Int):QL w (l++[x])=QL w l++32::Lib.itoa x:=by simp[QL]
instance (l:List Int):Decidable (Yp l):=by unfold Yp;infer_instance
include hK
theorem YV (w:Txt) (l:List Int) (hw:w.length<=100) (hl:l.length<=20) (h:∀ n∈l,-999999999<=n/\n<=999999999):Ev.Good Tryz.prog K 16 [.str w,Zd l] (.str (QL w l)):=by
 refine Qb hK QDL (by simp) ?_
 have h0:AV.iv (.str w)=AV.iv (.str (QL w (l.take 0))):=by simp[QL]
 simp;rw[h0];refine Qj (fun i=>[(0,AV.iv (.str (QL w (l.take i)))),(1,AV.iv (Zd l)),(5,AV.iv (.int .i64 (i:Nat)))]) (fun _=>[]) l.length (fun _=>True) trivial ?_ ?_
 ·intro _
  rw[QLU,Qa QpL.eq_1];simp
 ·intro i hi _ ih
  have h2:=h _ (QLR hi);have hg:=QnO hK l[i] (by omega)
  have h3:=Qax (n:=l[i]) (by omega)
  have h1:=Wv (l.take i) w (fun n hn=>h n (QMt hn))
  have h4:(l.take i).length<=20:=by simp;omega
  rw[QLM hi,Qls] at ih;rw[Qa QpL.eq_1];generalize QL w (l.take i)=X at *;simp[hi]
  try intro _
  refine cK (by simpa using hg) ?_
  simp at ih |-
  repeat' first | exact ih | omega | intro _ | apply And.intro
theorem Quf (l:List Int) (hl:l.length<=20):Ev.Good Tryz.prog K 15 [Zd l] (.bool (decide (Yp l))):=by
 refine Qb hK QDR (by simp) ?_
 simp;refine Qj (fun i=>[(0,AV.iv (Zd l)),(3,AV.iv (.int .i64 (i:Nat)))]) (fun _=>[]) l.length (fun i=>Yp (l.take i)) (by simp[Yp]) ?_ ?_
 ·intro hQ
  rw[QLU] at hQ;rw[Qa QpM.eq_1];simp[hQ]
 ·intro i hi hQ ih
  rw[QLM hi] at ih;rw[Qa QpM.eq_1];by_cases h1:l[i]<0
  ·have hn:¬ Yp l:=fun c=>by
    have:=c _ (QLR hi);omega
   simp[hi,h1,hn]
  ·by_cases h2:999999999<l[i]
   ·have hn:¬ Yp l:=fun c=>by
     have:=c _ (QLR hi);omega
    simp[hi,h1,h2,hn]
   ·have ih:=ih fun n hn=>by
     rcases QMc.1 hn with hn | hn
     ·exact hQ n hn
     ·rw[QMB.1 hn]
      omega
    simp[hi,h1,h2] at ih |-
    repeat' first | exact ih | omega | intro _ | apply And.intro
theorem QBL (p:Txt × Nat × Vv) (hp:p∈ZA):Ev.Good Tryz.prog K 40 [.str p.1] (.bool (UL p.2.2)):=by
 refine Qb hK QC3 (by simp) ?_
 simp only[ZA,QLX,QLZ,or_false] at hp;rcases hp with rfl | rfl | rfl | rfl | rfl | rfl | rfl | rfl | rfl | rfl | rfl | rfl | rfl | rfl | rfl | rfl | rfl | rfl | rfl | rfl | rfl | rfl | rfl | rfl | rfl
 all_goals simp[UL]
theorem JM (l:List Int) (e:Int) (h:OkL l) (h4:l.length<=400):Ev.Good Tryz.prog K 28 [Zd l,.int .i64 e] (.str (Xa l e)):=by
 refine Qb hK QDg (by simp) ?_
 have h4':¬ (400:Int)<l.length:=by omega
 have hg:=QtR hK l e (fun _=>h)
 simp[h4'];intro _;refine Qj (fun i=>[(0,AV.iv (Zd l)),(1,AV.iv (.int .i64 e)),(5,AV.iv (.int .i64 (i:Nat)))]) (fun _=>[]) l.length (fun _=>True) trivial ?_ ?_
 ·intro _
  rw[Qa QpF.eq_1];simp
  try intro _
  refine cK (by simpa using hg) ?_
  simp
 ·intro i hi _ ih
  obtain ⟨h1,h2⟩:=Qu7 h _ (QLR hi);rw[Qa QpF.eq_1];simp[hi,h1,h2] at ih |-
  repeat' first | exact ih | omega | intro _ | apply And.intro
theorem QBK (h:Qd) (hs:QK h):Ev.Good Tryz.prog K 42 [hoV h] (hoV (QgJ h)):=by
 refine Qb hK QC1 (by simp) ?_
 have hg:=Qj5 hK h hs;simp
 try intro _
 refine cK (by simpa using hg) ?_
 simp[QgJ,hw]
omit hK
theorem QhF (h:Qd) (i:Nat):JH h (i+1)=JH h i++[dL h.proof.chain.deeds h.proof.trials i]:=by
 simp[JH,QMn]
theorem Qc0 (h:Qd) (i:Nat):(JH h i).length=i:=by simp[JH]
def apL {α:Type} (f:α->Txt) (D:List Txt) (l:List α):List Txt:=l.foldl (fun a x=>a++[f x]) D
theorem QkG {α:Type} (f:α->Txt) (D:List Txt) (l:List α):apL f D l=D++l.map f:=by
 unfold apL
 induction l generalizing D with
 | nil=>simp
 | cons x l ih=>simp[ih]
theorem QeN {α:Type} (f:α->Txt) (D:List Txt) (l:List α) (x:α):apL f D (l++[x])=apL f D l++[f x]:=by simp[apL]
theorem Qi7 {α:Type} (f:α->Txt) (D:List Txt) (l:List α) (i:Nat) (h:i<=l.length):(apL f D (l.take i)).length=D.length+i:=by
 rw[QkG];simp[h]
abbrev smN (n:Int):Prop := -999999999<=n/\n<=999999999
theorem QlP {h:Qd} (ho:okH h) (i:Nat) (hi:i<h.proof.chain.deeds.length) :
  (h.proof.chain.deeds[i].what=1\/h.proof.chain.deeds[i].what=2\/h.proof.chain.deeds[i].what=3\/h.proof.chain.deeds[i].what=4) /\
  (smN h.proof.chain.deeds[i].pos/\smN h.proof.chain.deeds[i].frm/\smN h.proof.chain.deeds[i].bar/\smN h.proof.chain.deeds[i].smith) /\
  (h.proof.chain.deeds[i].what=4->∃ hk:trN h.proof.chain.deeds i<h.proof.trials.length,smN h.proof.trials[trN h.proof.chain.deeds i].weight/\smN h.proof.trials[trN h.proof.chain.deeds i].mins/\smN h.proof.trials[trN h.proof.chain.deeds i].broke):=by
 have hd:=ho.1.chain.deeds i hi hi;have hc:=ho.1.chain.deeds.cnt i (by omega) (by omega)
 have hlen:=ho.1.chain.len;have ht:=QdH h.proof.chain.deeds i hi
 have hmany:trN h.proof.chain.deeds i<trN h.proof.chain.deeds (i+1)->trN h.proof.chain.deeds i<h.proof.trials.length:=fun h1=>by
  obtain ⟨r,hr⟩:=Qhp h.proof.chain.deeds (i+1);have h2:=congrArg List.length hr;rw[QL3] at h2;rw[ho.1.many];unfold trN at *;omega
 have htr:∀ j (hj:j<h.proof.trials.length),X0 h.proof.trials[j] (cnt h.proof.chain.deeds ((pv h.proof.chain.deeds)[j]'(by rw[<- ho.1.many];exact hj))):=fun j hj=>ho.1.trials j (by rw[<- ho.1.many];exact hj) hj
 simp only[Zu,inR] at hd;refine ⟨by omega,by omega,fun h4=>?_⟩
 have hk:=hmany (by rw[ht,if_pos (by simp[Q1,h4])];omega)
 refine ⟨hk,?_⟩;have hok:=htr _ hk
 have hcl:cnt h.proof.chain.deeds ((pv h.proof.chain.deeds)[trN h.proof.chain.deeds i]'(by rw[<- ho.1.many];exact hk))<=12:=by
  have h5:=(Jm Q1 _ 0 _ (QLR (by rw[<- ho.1.many];exact hk:trN h.proof.chain.deeds i<(pv h.proof.chain.deeds).length))).2
  have:=ho.1.chain.deeds.cnt _ (by omega) (by omega:(pv h.proof.chain.deeds)[trN h.proof.chain.deeds i]'(by rw[<- ho.1.many];exact hk)<=h.proof.chain.deeds.length)
  omega
 simp only[X0,inR] at hok;omega
include hK
theorem QtZ (h:Qd) (ho:okH h):Ev.Good Tryz.prog K 41 [hoV h] (strs (YQ h)):=by
 refine Qb hK QC2 (by simp) ?_
 have l1:=ho.1.chain.len;have l2:=ho.1.chain.slen;have l3:=ho.1.machine.blen;have l4:=ho.2.xlen
 have l5:h.proof.trials.length<=12:=by
  rw[ho.1.many];exact QMe (Qbl _) l1
 generalize hLV:YQ h=LV;simp
 refine Qj (fun i=>[(1,AV.iv (.ptr (hoC h))),(3,AV.aref 3 (JH h i).length),(4,AV.iv (.int .i64 (trN h.proof.chain.deeds i:Nat))),(5,AV.iv (.int .i64 (i:Nat)))])
  (fun i=>[(3,.arr 9 1 (emb ((JH h i).map fun t=>[.str t])) 0)]) h.proof.chain.deeds.length (fun _=>True) trivial ?_ ?_
 ·intro _
  rw[Qa QpA.eq_1];have hDl:(JH h h.proof.chain.deeds.length).length=h.proof.chain.deeds.length:=Qc0 h _;generalize hD:JH h h.proof.chain.deeds.length=D at *;simp;intro _
  refine Qj (fun i=>[(1,AV.iv (.ptr (hoC h))),(3,AV.aref 3 (apL sL D (h.proof.chain.sights.take i)).length),(8,AV.iv (.int .i64 (i:Nat)))])
   (fun i=>[(3,.arr 9 1 (emb ((apL sL D (h.proof.chain.sights.take i)).map fun t=>[.str t])) 0)]) h.proof.chain.sights.length (fun _=>True) trivial ?_ ?_
  ·intro _
   rw[Qa Qpz.eq_1,QLU,QkG];have hSl:(D++h.proof.chain.sights.map sL).length=D.length+h.proof.chain.sights.length:=by simp
   generalize hS:D++h.proof.chain.sights.map sL=S at *;simp;intro _
   refine Qj (fun i=>[(1,AV.iv (.ptr (hoC h))),(3,AV.aref 3 (apL bL S (h.proof.machine.bals.take i)).length),(10,AV.iv (.int .i64 (i:Nat)))])
    (fun i=>[(3,.arr 9 1 (emb ((apL bL S (h.proof.machine.bals.take i)).map fun t=>[.str t])) 0)]) h.proof.machine.bals.length (fun _=>True) trivial ?_ ?_
   ·intro _
    rw[Qa Qpy.eq_1,QLU,QkG];have hBl:(S++h.proof.machine.bals.map bL).length=S.length+h.proof.machine.bals.length:=by simp
    generalize hB:S++h.proof.machine.bals.map bL=B at *;simp;intro _
    refine Qj (fun i=>[(1,AV.iv (.ptr (hoC h))),(3,AV.aref 3 (apL rL B (h.pull.reads.take i)).length),(12,AV.iv (.int .i64 (i:Nat)))])
     (fun i=>[(3,.arr 9 1 (emb ((apL rL B (h.pull.reads.take i)).map fun t=>[.str t])) 0)]) h.pull.reads.length (fun _=>True) trivial ?_ ?_
    ·intro _
     rw[Qa Qpx.eq_1,QLU,QkG];have hR:B++h.pull.reads.map rL=LV:=by rw[<- hLV,<- hB,<- hS,<- hD];rfl
     rw[hR];simp
    ·intro i hi _ ih
     have hx:=ho.2.reads _ (QLR hi);have hrl:=ho.2.rlen;simp only[Z3,inR] at hx;have hal:=Qi7 rL B h.pull.reads i (by omega)
     rw[QLM hi,QeN,rL] at ih;generalize apL rL B (h.pull.reads.take i)=Z at *;have hg:=YV hK QuJ [h.pull.reads[i].whn,h.pull.reads[i].rod,h.pull.reads[i].count,h.pull.reads[i].rest,h.pull.reads[i].off,h.pull.reads[i].wlo,h.pull.reads[i].whi] (by decide) (by simp) (by simp;omega)
     rw[Qa Qpx.eq_1];simp[hi]
     try intro _
     refine cK hg ?_;simp at ih |-
     repeat' first | exact ih | omega | intro _ | apply And.intro
   ·intro i hi _ ih
    have hx:=ho.1.machine.bals _ (QLR hi);have hx:((inR h.proof.machine.bals[i].weight 0 9999/\inR h.proof.machine.bals[i].mins 0 99)/\inR h.proof.machine.bals[i].load 0 999999999)/\inR h.proof.machine.bals[i].off 0 999999999:=by simpa[XD] using hx
    simp only[inR] at hx;have hal:=Qi7 bL S h.proof.machine.bals i (by omega)
    rw[QLM hi,QeN,bL] at ih;generalize apL bL S (h.proof.machine.bals.take i)=Z at *;have hg:=YV hK QEV [h.proof.machine.bals[i].weight,h.proof.machine.bals[i].mins,h.proof.machine.bals[i].load,h.proof.machine.bals[i].off] (by decide) (by simp) (by simp;omega)
    rw[Qa Qpy.eq_1];simp[hi]
    try intro _
    refine cK hg ?_;simp at ih |-
    repeat' first | exact ih | omega | intro _ | apply And.intro
  ·intro i hi _ ih
   have hx:=ho.1.chain.sights _ (QLR hi);have hc:=ho.1.chain.deeds.cnt h.proof.chain.sights[i].after.toNat;simp only[ZI,inR] at hx;have hc:=hc (by omega) (by omega)
   have hal:=Qi7 sL D h.proof.chain.sights i (by omega)
   rw[QLM hi,QeN,sL] at ih;generalize apL sL D (h.proof.chain.sights.take i)=Z at *;have hg:=YV hK QET [h.proof.chain.sights[i].after,h.proof.chain.sights[i].pos,h.proof.chain.sights[i].frm,h.proof.chain.sights[i].bar,h.proof.chain.sights[i].smith] (by decide) (by simp) (by simp;omega)
   rw[Qa Qpz.eq_1];simp[hi]
   try intro _
   refine cK hg ?_;simp at ih |-
   repeat' first | exact ih | omega | intro _ | apply And.intro
 ·intro i hi _ ih
  obtain ⟨hw,hn,ht⟩:=QlP ho i hi;have hll:=Qc0 h i;have hs:=QdH h.proof.chain.deeds i hi;have hgd:h.proof.chain.deeds.getD i ⟨0,0,0,0,0⟩=h.proof.chain.deeds[i]:=by simp[hi]
  have hdl:dL h.proof.chain.deeds h.proof.trials i=dL h.proof.chain.deeds h.proof.trials i:=rfl
  conv at hdl=>rhs;unfold dL;rw[hgd]
  rw[QhF,hdl] at ih;rw[Qa QpA.eq_1];have hpv:∀ b,Q1 h.proof.chain.deeds[i]=b↔decide (h.proof.chain.deeds[i].what=4)=b:=fun _=>Iff.rfl
  rcases hw with h1 | h1 | h1 | h1
  ·have hg:=YV hK QuH [h.proof.chain.deeds[i].pos,h.proof.chain.deeds[i].frm,h.proof.chain.deeds[i].bar,h.proof.chain.deeds[i].smith] (by decide) (by simp) (by simpa using hn)
   have hs:trN h.proof.chain.deeds (i+1)=trN h.proof.chain.deeds i:=by rw[hs];simp[Q1,h1]
   rw[hs] at ih;simp[hi,h1] at ih |-
   try intro _
   refine cK hg ?_;simp
   repeat' first | exact ih | omega | intro _ | apply And.intro
  ·have hg:=YV hK QEU [h.proof.chain.deeds[i].pos,h.proof.chain.deeds[i].frm] (by decide) (by simp) (by simp;omega)
   have hs:trN h.proof.chain.deeds (i+1)=trN h.proof.chain.deeds i:=by rw[hs];simp[Q1,h1]
   rw[hs] at ih;simp[hi,h1] at ih |-
   try intro _
   refine cK hg ?_;simp
   repeat' first | exact ih | omega | intro _ | apply And.intro
  ·have hs:trN h.proof.chain.deeds (i+1)=trN h.proof.chain.deeds i:=by rw[hs];simp[Q1,h1]
   rw[hs] at ih;simp[hi,h1] at ih |-;simp[QL,QuI] at ih
   repeat' first | exact ih | omega | intro _ | apply And.intro
  ·obtain ⟨hk,h2⟩:=ht h1
   have hgt:h.proof.trials.getD (trN h.proof.chain.deeds i) ⟨0,0,0⟩=h.proof.trials[trN h.proof.chain.deeds i]:=by simp[hk]
   have hg:=YV hK Vw [h.proof.trials[trN h.proof.chain.deeds i].weight,h.proof.trials[trN h.proof.chain.deeds i].mins,h.proof.trials[trN h.proof.chain.deeds i].broke] (by decide) (by simp) (by simpa using h2)
   have hs:trN h.proof.chain.deeds (i+1)=trN h.proof.chain.deeds i+1:=by rw[hs];simp[Q1,h1]
   rw[hs,hgt] at ih;generalize trN h.proof.chain.deeds i=T at *;simp[hi,h1,hk] at ih |-
   try intro _
   refine cK hg ?_;simp
   repeat' first | exact ih | omega | intro _ | apply And.intro
omit hK
theorem QFp (h:Qd) (s:List Txt) (t:Txt):Ev.Good Tryz.prog KW 5 [hoV h,strs s,.str t] (.bool true):=by
 refine Qb hKW QF4 (by simp) ?_
 have g10:=Qde;by_cases h38:38<s.length
 ·have h38':(38:Int)<s.length:=by omega
  simp[h38']
  repeat first | intro _ | refine ⟨by omega,?_⟩
  refine cK (by simpa using g10) ?_
  simp
 ·have h38':¬ (38:Int)<s.length:=by omega
  have g17:=QbT s [t,U3] (by simp;omega)
  have g9:=QhS h (s++[t,[117,110,100,111]]);simp[h38']
  repeat first | intro _ | refine ⟨by omega,?_⟩
  refine cK (by simpa[U3] using g17) ?_
  simp;by_cases hr:Xe h (s++[t,[117,110,100,111]])
  ·have hr2:Xe h (s++[t,U3]):=hr
   have g12:=Qj7 hKW t (Yv hr t (by simp))
   repeat first | intro _ | refine ⟨by omega,?_⟩
   refine cK (by simpa[U3] using g9) ?_
   simp[hr];cases hp:(Z2 t).2.2 with
   | false =>
     rw[hp] at g12
     repeat first | intro _ | refine ⟨by omega,?_⟩
     refine cK (by simpa using g12) ?_
     simp
     repeat first | intro _ | refine ⟨by omega,?_⟩
     refine cK (by simpa using g10) ?_
     simp
   | true =>
     obtain ⟨p,hpm,hw',hl',hv⟩:=Ub hp;have gd:=QBL hKW p hpm;rw[hp,<- hw'] at g12;have ga:=Qva hr2;have gb:=Qu9 hr2
     repeat first | intro _ | refine ⟨by omega,?_⟩
     refine cK (by simpa using g12) ?_
     simp;cases hd:UL p.2.2 with
     | false =>
       rw[hd] at gd
       repeat first | intro _ | refine ⟨by omega,?_⟩
       refine cK (by simpa using gd) ?_
       simp
       repeat first | intro _ | refine ⟨by omega,?_⟩
       refine cK (by simpa using g10) ?_
       simp
     | true =>
       rw[hd] at gd;have ho:okH (Qe h s s.length):=Yd hr2.2.1 _;have hA:(QU h s s.length).length=s.length:=by simp[QU]
       repeat first | intro _ | refine ⟨by omega,?_⟩
       refine cK (by simpa using gd) ?_
       simp
       repeat first | intro _ | refine ⟨by omega,?_⟩
       refine cK (by simpa using ga) ?_
       simp
       repeat first | intro _ | refine ⟨by omega,?_⟩
       refine cK (by simpa[U3] using g17) ?_
       simp;by_cases hy:(Qm (Qe h s s.length) t).1=Ji
       ·have g14:=QnY hKW (Qe h s s.length) (Qe h s s.length)
        rw[QuL ho hv hd hy,hy] at gb;generalize Qe h s s.length=X at *;generalize QU h s s.length=A at *
        repeat first | intro _ | refine ⟨by omega,?_⟩
        refine cK (by simpa[U3] using gb) ?_
        simp[hA,Ji]
        repeat first | intro _ | refine ⟨by omega,?_⟩
        refine cK (by simpa using g14) ?_
        simp
        repeat first | intro _ | refine ⟨by omega,?_⟩
        refine cK (by simpa using g10) ?_
        simp
       ·rw[QkR hv hd hy] at gb
        generalize Qe h s s.length=X at *;generalize QU h s s.length=A at *;generalize (Qm (Qm X t).2 U3).1=Y at *;generalize (Qm (Qm X t).2 U3).2=Z at *
        repeat first | intro _ | refine ⟨by omega,?_⟩
        refine cK (by simpa[U3] using gb) ?_
        simp[hA,tNo]
        repeat first | intro _ | refine ⟨by omega,?_⟩
        refine cK (by simpa using g10) ?_
        simp
  ·refine cK (by simpa[U3] using g9) ?_
   simp[hr]
   repeat first | intro _ | refine ⟨by omega,?_⟩
   refine cK (by simpa using g10) ?_
   simp
theorem Qli {h:Qd} {t:Txt} (hp:(Z2 t).2.2=false):QoP h t=false:=by
 simp[QoP,qg hp]
theorem QFr (h:Qd) (s:List Txt):Ev.Good Tryz.prog KW 3 [hoV h,strs s] (.bool true):=by
 refine Qb hKW QF8 (by simp) ?_
 have g9:=QhS h s;have g10:=Qde;by_cases hr:Xe h s
 ·have gA:=Wd hr
  have gL:=QqC hr;have h40:=hr.2.2;have hA:(QU h s s.length).length=s.length:=by simp[QU]
  have hAi:∀ i (hi:i<s.length),(QU h s s.length)[i]'(by rw[hA];exact hi)=(Qm (Qe h s i) s[i]).1:=fun i hi=>by
   simp[QU,List.getD_eq_getElem?_getD,hi]
  have hwd:=Yv hr;have hll:=fun i=>Qeh h s i
  have hno:=(Qeb h s s.length (QLS _)).2;have g14:=QnY hKW (Qe h s s.length) (Qe h s s.length);have hB:(QU h (Xo h s s.length) (Xo h s s.length).length).length=(Xo h s s.length).length:=by simp[QU]
  generalize hX:Qe h s s.length=X at *;generalize hAA:QU h s s.length=A at *;simp
  repeat first | intro _ | refine ⟨by omega,?_⟩
  refine cK (by simpa[U3] using g9) ?_
  simp[hr]
  repeat first | intro _ | refine ⟨by omega,?_⟩
  refine cK (by simpa using gA) ?_
  simp[hA]
  repeat first | intro _ | refine ⟨by omega,?_⟩
  refine Qj (fun i=>[(1,AV.iv (strs s)),(2,AV.iv (.ptr (hoC h))),(5,AV.iv (strs A)),(6,AV.loc 6 0),(8,AV.aref 8 (Xo h s i).length),(9,AV.iv (.int .i64 (i:Nat)))])
   (fun i=>[(6,.box ((hoC X).map .iv)),(8,.arr 9 1 (emb ((Xo h s i).map fun t=>[.str t])) 0)]) s.length (fun _=>True) trivial ?_ ?_
  ·intro _
   rw[Qa Qxs.eq_1];have hls:=hll s.length;generalize Xo h s s.length=L at *;generalize QU h L L.length=B at *;simp
   repeat first | intro _ | refine ⟨by omega,?_⟩
   refine cK (by simpa using gL) ?_
   simp[hB]
   repeat first | intro _ | refine ⟨by omega,?_⟩
   refine cK (by simpa using g14) ?_
   simp
   repeat first | intro _ | refine ⟨by omega,?_⟩
   refine Qj (fun i=>[(13,AV.iv (strs B)),(16,AV.iv (.int .i64 (i:Nat)))]) (fun _=>[]) B.length (fun _=>True) trivial ?_ ?_
   ·intro _
    rw[Qa Qxr.eq_1];simp
    repeat first | intro _ | refine ⟨by omega,?_⟩
    refine cK (by simpa using g10) ?_
    simp
   ·intro i hi _ ih
    have he:=hno _ (QLR hi);rw[Qa Qxr.eq_1];simp[hi,he,Ji] at ih |-
    repeat' first | exact ih | omega | intro _ | apply And.intro
  ·intro i hi _ ih
   have g12:=Qj7 hKW s[i] (hwd _ (QLR hi));have hi':=hAi i hi;have hls:=hll i;have hgd:s.getD i []=s[i]:=by simp[List.getD_eq_getElem?_getD,hi]
   have hsucc:Xo h s (i+1)=if QoP (Qe h s i) s[i] then Xo h s i++[s[i]] else Xo h s i:=by rw[Xo,hgd]
   rw[hsucc] at ih;rw[Qa Qxs.eq_1];generalize Xo h s i=L at *;cases hp:(Z2 s[i]).2.2 with
   | false =>
     rw[Qli hp] at ih;rw[hp] at g12;simp[hi]
     repeat first | intro _ | refine ⟨by omega,?_⟩
     refine cK (by simpa using g12) ?_
     simp at ih |-
     repeat' first | exact ih | omega | intro _ | apply And.intro
   | true =>
     obtain ⟨p,hpm,hw',_,hv⟩:=Ub hp;have hd:QoP (Qe h s i) s[i]=(QJ p.2.2&&decide ((Qm (Qe h s i) s[i]).1=Ji)):=by simp[QoP,hv]
     have g13:Ev.Good Tryz.prog KW 13 [.str (Z2 s[i]).1] (.bool (QJ p.2.2)):=by
      rw[<- hw'];have:=Qn2 hKW p.1
      rwa [Z7 p hpm] at this
     rw[hd] at ih;rw[hp] at g12;generalize QJ p.2.2=ch at *;simp[hi]
     repeat first | intro _ | refine ⟨by omega,?_⟩
     refine cK (by simpa using g12) ?_
     simp
     repeat first | intro _ | refine ⟨by omega,?_⟩
     refine cK (by simpa using g13) ?_
     cases ch with
     | false =>
       simp at ih |-
       repeat' first | exact ih | omega | intro _ | apply And.intro
     | true =>
       by_cases hy:(Qm (Qe h s i) s[i]).1=Ji
       ·have hy':A[i]=[121,101,115]:=by rw[hi',hy];rfl
        simp[hy,hy',hi,hA] at ih |-
        repeat' first | exact ih | omega | intro _ | apply And.intro
       ·have hy':¬ A[i]=[121,101,115]:=by rw[hi'];exact hy
        simp[hy,hy',hi,hA] at ih |-
        repeat' first | exact ih | omega | intro _ | apply And.intro
 ·simp
  repeat first | intro _ | refine ⟨by omega,?_⟩
  refine cK (by simpa[U3] using g9) ?_
  simp[hr]
  repeat first | intro _ | refine ⟨by omega,?_⟩
  refine cK (by simpa using g10) ?_
  simp
end Go.Pf
namespace Go.Pf
open Go Go.Ev Go.Proofs Go.RowKit Go.ChangeShapes Go.WideShapes Go.Proofs.YtjchdgaomencbaaGreatDoor
set_option maxRecDepth 100000
theorem Qgk {P:Program} (h:P.funcs.any Func.goes=false) (f:FuncId):P.goes f=false:=by
 unfold Program.goes;rw[h,Bool.and_false,Bool.or_false,List.any_eq_false];intro g _;cases hg:P.funcs[g]? with
 | none=>simp
 | some fn =>
   have:=Array.any_eq_false'.1 h fn (Array.mem_of_getElem? hg);simpa using this
theorem X5 {P:Program} (h:P.funcs.any Func.goes=false) (c:OpenClaim):false=c.goesBy P:=by
 have h1:∀ o:Option FuncId,o.any P.goes=false:=fun o=>by cases o<;>simp[Qgk h]
 have h2:P.inits.toList.any P.goes=false:=by
  rw[List.any_eq_false];intro f _;simp[Qgk h]
 unfold OpenClaim.goesBy Program.goesAt Program.goesFrom;rw[h1,h2];cases c.start<;>rfl
theorem QlC:Tryz.prog.funcs.any Func.goes=false:=by kernel_rfl
end Go.Pf
namespace Go.Pf
open Go Go.Ev Go.Proofs Go.RowKit
set_option maxRecDepth 8000
set_option maxHeartbeats 2000000
theorem QFq (h:Qd) (s:List Txt) (a k t w m p r:Int):Ev.Good Tryz.prog KW 4 [hoV h,strs s,.agg [.int .i64 a,.int .i64 k,.int .i64 t,.int .i64 w,.int .i64 m,.int .i64 p,.int .i64 r]] (.bool true):=by
 refine Qb hKW QF5 (by simp) ?_
 have g10:=Qde;by_cases h23:23<s.length
 ·have h23':(23:Int)<s.length:=by omega
  simp[h23']
  repeat first | intro _ | refine ⟨by omega,?_⟩
  refine cK (by simpa using g10) ?_
  simp
 ·have h23':¬ (23:Int)<s.length:=by omega
  have g9:=QhS h s;by_cases hr:Xe h s
  ·have g15:=Quf hKW [a,k,t,w,m,p,r] (by simp)
   by_cases hsm:Yp [a,k,t,w,m,p,r]
   ·have hsm2:=hsm
    simp only[Yp,QLX,QLZ,or_false,forall_eq_or_imp,forall_eq] at hsm2;obtain ⟨ba,bk,bt,bw,bm,bp,br⟩:=hsm2;have ho:okH (Qe h s s.length):=Yd hr.2.1 _;have hfew:=JE hr s.length (QLS _);have hnf:¬ Qki (Qe h s s.length):=fun c=>hr.1 (.inr (.inr (.inr ⟨hr.2.1,_,QLS _,c⟩)))
    obtain ⟨hall,hans⟩:=Qtc hsm (Qe h s s.length);have gA:=Qjz (r:=(UV a k t w m p r).map fun q=>QL q.1 q.2.2) hr (by simp[UV];omega) (fun x hx=>(hall x hx).1) (fun x hx=>(hall x hx).2)
    rw[hans] at gA;have hA:(QU h s s.length).length=s.length:=by simp[QU]
    have g17:=QbT s ((UV a k t w m p r).map fun q=>QL q.1 q.2.2) (by simp[UV];omega)
    have e1:((UV a k t w m p r).map fun q=>QL q.1 q.2.2)=[QL QEe [a],QL Qjm [k],Qjp,QL Ju [w,m],QL Qjq [t],QL Qjn [t],U5,V1,QL QdJ [k],QEf,QEg,Qjl,QcH,V0,QkS,QL Qjo [p],QL Qqv [r]]:=by simp[UV,QL]
    generalize Qe h s s.length=X at *;have e2:((UV a k t w m p r).map fun q=>QR X q.2.1 q.2.2)=[QR X .who [a],QR X .wher [k],QR X .first [],QR X .pulls [w,m],QR X .broke [t],QR X .loads [t],QR X .failures [],QR X .condemned [],QR X .proved [k],QR X .opn [],QR X .good [],QR X .worth [],QR X .weight [],QR X .stretch [],QR X .best [],QR X .holds [p],QR X .rods [r]]:=rfl
    rw[e1] at gA g17;rw[e2] at gA;have l1:=YV hKW QEe [a] (by decide) (by simp) (by simp;omega)
    have l2:=YV hKW Qjm [k] (by decide) (by simp) (by simp;omega)
    have l3:=YV hKW Ju [w,m] (by decide) (by simp) (by simp;omega)
    have l4:=YV hKW Qjq [t] (by decide) (by simp) (by simp;omega)
    have l5:=YV hKW Qjn [t] (by decide) (by simp) (by simp;omega)
    have l6:=YV hKW QdJ [k] (by decide) (by simp) (by simp;omega)
    have l7:=YV hKW Qjo [p] (by decide) (by simp) (by simp;omega)
    have l8:=YV hKW Qqv [r] (by decide) (by simp) (by simp;omega)
    generalize QL QEe [a]=L1 at *;generalize QL Qjm [k]=L2 at *;generalize QL Ju [w,m]=L3 at *;generalize QL Qjq [t]=L4 at *;generalize QL Qjn [t]=L5 at *;generalize QL QdJ [k]=L6 at *;generalize QL Qjo [p]=L7 at *;generalize QL Qqv [r]=L8 at *;obtain ⟨⟨h1,h2,h3,h4,h5⟩,h6,h7⟩:=Qq ho;have g18:=Qgj X;rw[decide_eq_false hnf] at g18;have g19:=Qdd X (Qq ho);unfold Qma at g19;rw[if_pos ho] at g19;have q1:Ev.Good Tryz.prog KW 29 [chV X.proof.chain,.int .i64 a] (.tup [Zd (QkM X.proof.chain a),.int .i64 (Yo X.proof.chain (plB X.proof.chain a))]):=QnQ hKW X.proof.chain a h1 h2;have s1:Ev.Good Tryz.prog KW 28 [Zd (QkM X.proof.chain a),.int .i64 (Yo X.proof.chain (plB X.proof.chain a))] (.str (QR X .who [a])):=JM hKW _ _ (Qtu ho.1.chain a) (QuG ho.1.chain a);have q2:Ev.Good Tryz.prog KW 30 [chV X.proof.chain,.int .i64 k] (.tup [Zd (QdC X.proof.chain k),.int .i64 (Yo X.proof.chain (Va X.proof.chain k))]):=Qt7 hKW X.proof.chain k h1 h2;have s2:Ev.Good Tryz.prog KW 28 [Zd (QdC X.proof.chain k),.int .i64 (Yo X.proof.chain (Va X.proof.chain k))] (.str (QR X .wher [k])):=JM hKW _ _ (Qmg ho.1.chain k) (Qqr ho.1.chain k);have q3:=Qub hKW X.proof.chain h1 h2;have s3:Ev.Good Tryz.prog KW 28 [Zd [(Vp X.proof.chain).1],.int .i64 (Vp X.proof.chain).2] (.str (QR X .first [])):=JM hKW _ _ (Qkf ho.1.chain) (by simp)
    have q4:=QnV hKW X.proof.machine w m h3 h4;have s4:Ev.Good Tryz.prog KW 28 [Zd [(Yk X.proof.machine w m).1,(Yk X.proof.machine w m).2],.int .i64 (tE X.proof.machine (W2 w m 0))] (.str (QR X .pulls [w,m])):=JM hKW _ _ (QhD w m) (by simp)
    have q5:=Qt6 hKW X.proof t hfew.proof;have s5:Ev.Good Tryz.prog KW 28 [Zd (Ut X.proof t),.int .i64 (kE X.proof (Z0 X.proof t))] (.str (QR X .broke [t])):=JM hKW _ _ (Qkz X.proof t) (QpS X.proof t)
    have q6:Ev.Good Tryz.prog KW 21 [prV X.proof,.int .i64 t] (.tup [.agg [.int .i64 (Yq X.proof t).1,.int .i64 (Yq X.proof t).2],.int .i64 (qe X.proof t)]):=by
     have:=Que hKW X.proof t hfew.proof;unfold Yq qe;by_cases c:kE X.proof (Z0 X.proof t)=0
     ·simpa[c] using this
     ·simpa[c] using this
    have s6:Ev.Good Tryz.prog KW 28 [Zd [(Yq X.proof t).1,(Yq X.proof t).2],.int .i64 (qe X.proof t)] (.str (QR X .loads [t])):=JM hKW _ _ (QjX X.proof t) (by simp)
    have q7:=Qud hKW X.proof hfew.proof;have s7:Ev.Good Tryz.prog KW 28 [Zd [(rFail X.proof).1,(rFail X.proof).2],.int .i64 (kE X.proof true)] (.str (QR X .failures [])):=JM hKW _ _ (Qof ho.1) (by simp)
    have q8:=Qt5 hKW X.proof hfew.proof;have s8:Ev.Good Tryz.prog KW 32 [.int .i64 (rCond X.proof),.int .i64 (kE X.proof true)] (.str (QR X .condemned [])):=Qj6 hKW _ _;have q9:=Qt4 hKW X.proof k hfew.proof;have s9:Ev.Good Tryz.prog KW 32 [.int .i64 (rProved X.proof k),.int .i64 (kE X.proof (Wu X.proof k))] (.str (QR X .proved [k])):=Qj6 hKW _ _;have q10:=Qt3 hKW X.proof hfew.proof;have s10:Ev.Good Tryz.prog KW 28 [Zd (Wi X.proof),.int .i64 (kE X.proof true)] (.str (QR X .opn [])):=JM hKW _ _ (QmX ho.1) (Qvn ho.1);have q11:=Qt2 hKW X.proof hfew.proof;have s11:Ev.Good Tryz.prog KW 32 [.int .i64 (rGood X.proof),.int .i64 (kE X.proof true)] (.str (QR X .good [])):=Qj6 hKW _ _;have q12:=Qua hKW X.proof hfew.proof;have s12:Ev.Good Tryz.prog KW 28 [Zd [(Y8 X.proof).1],.int .i64 (Y8 X.proof).2] (.str (QR X .worth [])):=JM hKW _ _ (Qjf X.proof) (by simp)
    have q13:Ev.Good Tryz.prog KW 26 [prV X.proof] (.tup [.int .i64 (QD X.proof).1,.int .i64 (QD X.proof).2]):=by
     have:=Qt9 hKW X.proof hfew.proof;unfold QD;by_cases c:kE X.proof true=0
     ·simpa[c] using this
     ·simpa[c] using this
    have s13:Ev.Good Tryz.prog KW 28 [Zd [(QD X.proof).1],.int .i64 (QD X.proof).2] (.str (QR X .weight [])):=JM hKW _ _ (Qji X.proof) (by simp)
    have q14:=Quc hKW X.pull h6 h7;have s14:Ev.Good Tryz.prog KW 28 [Zd [(span ((uL X.pull true).map UN)).1,(span ((uL X.pull true).map UN)).2],.int .i64 (uE X.pull true)] (.str (QR X .stretch [])):=JM hKW _ _ (QcI X.pull) (by simp)
    have q15:=Qt8 hKW X.pull h6 h7;have s15:Ev.Good Tryz.prog KW 28 [Zd [(Wk X.pull).1],.int .i64 (Wk X.pull).2] (.str (QR X .best [])):=JM hKW _ _ (QpT X.pull) (by simp)
    have q16:=Qt1 hKW X.pull p h6 h7;have s16:Ev.Good Tryz.prog KW 32 [.int .i64 (Wj X.pull p),.int .i64 (uE X.pull (Qcq p))] (.str (QR X .holds [p])):=Qj6 hKW _ _;have q17:=Qt0 hKW X.pull r h6 h7;have s17:Ev.Good Tryz.prog KW 28 [Zd (Qd5 X.pull r),.int .i64 (uE X.pull (QqH X.pull r))] (.str (QR X .rods [r])):=JM hKW _ _ (QmH X.pull r) (QqG X.pull r);have g39:=QnP hKW ([QR X .who [a],QR X .wher [k],QR X .first [],QR X .pulls [w,m],QR X .broke [t],QR X .loads [t],QR X .failures [],QR X .condemned [],QR X .proved [k],QR X .opn [],QR X .good [],QR X .worth [],QR X .weight [],QR X .stretch [],QR X .best [],QR X .holds [p],QR X .rods [r]]) ([QR X .who [a],QR X .wher [k],QR X .first [],QR X .pulls [w,m],QR X .broke [t],QR X .loads [t],QR X .failures [],QR X .condemned [],QR X .proved [k],QR X .opn [],QR X .good [],QR X .worth [],QR X .weight [],QR X .stretch [],QR X .best [],QR X .holds [p],QR X .rods [r]]) (by simp) (by simp)
    generalize QR X .who [a]=T1 at *;generalize QR X .wher [k]=T2 at *;generalize QR X .first []=T3 at *;generalize QR X .pulls [w,m]=T4 at *;generalize QR X .broke [t]=T5 at *;generalize QR X .loads [t]=T6 at *;generalize QR X .failures []=T7 at *;generalize QR X .condemned []=T8 at *;generalize QR X .proved [k]=T9 at *;generalize QR X .opn []=T10 at *;generalize QR X .good []=T11 at *;generalize QR X .worth []=T12 at *;generalize QR X .weight []=T13 at *;generalize QR X .stretch []=T14 at *;generalize QR X .best []=T15 at *;generalize QR X .holds [p]=T16 at *;generalize QR X .rods [r]=T17 at *;generalize QU h s s.length=A at *
    have hd:∀ Z:List (List IV),Z.length=17->(((A.map fun s=>[IV.str s])++Z).take ((A.length:Int)+17).toNat).drop s.length=Z:=fun Z hZ=>by
     rw[show ((A.length:Int)+17).toNat=A.length+17 by omega,QLQ (by simp[hZ]),List.drop_left' (by simp[hA])]
    simp[h23']
    repeat first | intro _ | refine ⟨by omega,?_⟩
    refine cK (by simpa using g9) ?_
    simp[hr]
    repeat first | intro _ | refine ⟨by omega,?_⟩
    refine cK (by simpa using g15) ?_
    simp[hsm]
    repeat first | intro _ | refine ⟨by omega,?_⟩
    refine cK (by exact l1) ?_
    simp
    repeat first | intro _ | refine ⟨by omega,?_⟩
    refine cK (by exact l2) ?_
    simp
    repeat first | intro _ | refine ⟨by omega,?_⟩
    refine cK (by exact l3) ?_
    simp
    repeat first | intro _ | refine ⟨by omega,?_⟩
    refine cK (by exact l4) ?_
    simp
    repeat first | intro _ | refine ⟨by omega,?_⟩
    refine cK (by exact l5) ?_
    simp
    repeat first | intro _ | refine ⟨by omega,?_⟩
    refine cK (by exact l6) ?_
    simp
    repeat first | intro _ | refine ⟨by omega,?_⟩
    refine cK (by exact l7) ?_
    simp
    repeat first | intro _ | refine ⟨by omega,?_⟩
    refine cK (by exact l8) ?_
    simp
    repeat first | intro _ | refine ⟨by omega,?_⟩
    refine cK (by simpa[Qjp,U5,V1,QEf,QEg,Qjl,QcH,V0,QkS] using g17) ?_
    simp
    repeat first | intro _ | refine ⟨by omega,?_⟩
    refine cK (by simpa[Qjp,U5,V1,QEf,QEg,Qjl,QcH,V0,QkS] using gA) ?_
    simp[hA]
    repeat first | intro _ | refine ⟨by omega,?_⟩
    refine cK (by simpa using g18) ?_
    simp
    repeat first | intro _ | refine ⟨by omega,?_⟩
    refine cK (by simpa using g19) ?_
    simp;generalize hrF:Vp X.proof.chain=F1 at *
    repeat first | intro _ | refine ⟨by omega,?_⟩
    refine cK (by simpa using q4) ?_
    simp
    repeat first | intro _ | refine ⟨by omega,?_⟩
    refine cK (by simpa using q6) ?_
    simp
    repeat first | intro _ | refine ⟨by omega,?_⟩
    refine cK (by simpa using q7) ?_
    simp
    repeat first | intro _ | refine ⟨by omega,?_⟩
    refine cK (by simpa using q14) ?_
    simp
    repeat first | intro _ | refine ⟨by omega,?_⟩
    refine cK (by simpa using q3) ?_
    simp
    repeat first | intro _ | refine ⟨by omega,?_⟩
    refine cK (by simpa using q12) ?_
    simp
    repeat first | intro _ | refine ⟨by omega,?_⟩
    refine cK (by simpa using q13) ?_
    simp
    repeat first | intro _ | refine ⟨by omega,?_⟩
    refine cK (by simpa using q15) ?_
    simp
    repeat first | intro _ | refine ⟨by omega,?_⟩
    refine cK (by simpa using q1) ?_
    simp
    repeat first | intro _ | refine ⟨by omega,?_⟩
    refine cK (by simpa using s1) ?_
    simp
    repeat first | intro _ | refine ⟨by omega,?_⟩
    refine cK (by simpa using q2) ?_
    simp
    repeat first | intro _ | refine ⟨by omega,?_⟩
    refine cK (by simpa using s2) ?_
    simp
    repeat first | intro _ | refine ⟨by omega,?_⟩
    refine cK (by simpa using s3) ?_
    simp
    repeat first | intro _ | refine ⟨by omega,?_⟩
    refine cK (by simpa using s4) ?_
    simp
    repeat first | intro _ | refine ⟨by omega,?_⟩
    refine cK (by simpa using q5) ?_
    simp
    repeat first | intro _ | refine ⟨by omega,?_⟩
    refine cK (by simpa using s5) ?_
    simp
    repeat first | intro _ | refine ⟨by omega,?_⟩
    refine cK (by simpa using s6) ?_
    simp
    repeat first | intro _ | refine ⟨by omega,?_⟩
    refine cK (by simpa using s7) ?_
    simp
    repeat first | intro _ | refine ⟨by omega,?_⟩
    refine cK (by simpa using q8) ?_
    simp
    repeat first | intro _ | refine ⟨by omega,?_⟩
    refine cK (by simpa using s8) ?_
    simp
    repeat first | intro _ | refine ⟨by omega,?_⟩
    refine cK (by simpa using q9) ?_
    simp
    repeat first | intro _ | refine ⟨by omega,?_⟩
    refine cK (by simpa using s9) ?_
    simp
    repeat first | intro _ | refine ⟨by omega,?_⟩
    refine cK (by simpa using q10) ?_
    simp
    repeat first | intro _ | refine ⟨by omega,?_⟩
    refine cK (by simpa using s10) ?_
    simp
    repeat first | intro _ | refine ⟨by omega,?_⟩
    refine cK (by simpa using q11) ?_
    simp
    repeat first | intro _ | refine ⟨by omega,?_⟩
    refine cK (by simpa using s11) ?_
    simp
    repeat first | intro _ | refine ⟨by omega,?_⟩
    refine cK (by simpa using s12) ?_
    simp
    repeat first | intro _ | refine ⟨by omega,?_⟩
    refine cK (by simpa using s13) ?_
    simp
    repeat first | intro _ | refine ⟨by omega,?_⟩
    refine cK (by simpa using s14) ?_
    simp
    repeat first | intro _ | refine ⟨by omega,?_⟩
    refine cK (by simpa using s15) ?_
    simp
    repeat first | intro _ | refine ⟨by omega,?_⟩
    refine cK (by simpa using q16) ?_
    simp
    repeat first | intro _ | refine ⟨by omega,?_⟩
    refine cK (by simpa using s16) ?_
    simp
    repeat first | intro _ | refine ⟨by omega,?_⟩
    refine cK (by simpa using q17) ?_
    simp
    repeat first | intro _ | refine ⟨by omega,?_⟩
    refine cK (by simpa using s17) ?_
    simp
    repeat first | intro _ | refine ⟨by omega,?_⟩
    refine cK (by simpa[hd] using g39) ?_
    simp
    repeat first | intro _ | refine ⟨by omega,?_⟩
    refine cK (by simpa using g10) ?_
    simp
   ·simp[h23']
    repeat first | intro _ | refine ⟨by omega,?_⟩
    refine cK (by simpa using g9) ?_
    simp[hr]
    repeat first | intro _ | refine ⟨by omega,?_⟩
    refine cK (by simpa using g15) ?_
    simp[hsm]
    repeat first | intro _ | refine ⟨by omega,?_⟩
    refine cK (by simpa using g10) ?_
    simp
  ·simp[h23']
   repeat first | intro _ | refine ⟨by omega,?_⟩
   refine cK (by simpa using g9) ?_
   simp[hr]
   repeat first | intro _ | refine ⟨by omega,?_⟩
   refine cK (by simpa using g10) ?_
   simp
theorem QFo (h:Qd):Ev.Good Tryz.prog KW 6 [hoV h] (.bool true):=by
 refine Qb hKW QF3 (by simp) ?_
 have g10:=Qde;have g18:=Qgj h;by_cases hf:Qki h
 ·simp
  repeat first | intro _ | refine ⟨by omega,?_⟩
  refine cK (by simpa using g18) ?_
  simp[hf]
  repeat first | intro _ | refine ⟨by omega,?_⟩
  refine cK (by simpa using g10) ?_
  simp
 ·have hs:=Y6 hf
  have g19:=Qdd h hs;unfold Qma at g19;by_cases ho:okH h
  ·rw[if_pos ho] at g19
   have g41:=QtZ hKW h ho;simp
   repeat first | intro _ | refine ⟨by omega,?_⟩
   refine cK (by simpa using g18) ?_
   simp[hf]
   repeat first | intro _ | refine ⟨by omega,?_⟩
   refine cK (by simpa using g19) ?_
   simp
   repeat first | intro _ | refine ⟨by omega,?_⟩
   refine cK (by simpa using g41) ?_
   by_cases h4:(YQ h).length<=40
   ·have h4':¬ (40:Int)<(YQ h).length:=by omega
    have g42:=QBK hKW h hs;have g11:=Qhb ho h4;have g14:=QnY hKW h h;generalize YQ h=L at *;obtain ⟨Y,hY⟩:∃ Y,Y=L.map fun _=>Ji:=⟨_,rfl⟩
    rw[<- hY] at g11;have hYl:Y.length=L.length:=by rw[hY];simp
    have hYi:∀ i (h:i<L.length),Y[i]'(by omega)=Ji:=fun i h=>by
     subst hY;simp
    simp[h4']
    repeat first | intro _ | refine ⟨by omega,?_⟩
    refine cK (by simpa using g42) ?_
    simp
    repeat first | intro _ | refine ⟨by omega,?_⟩
    refine cK (by simpa using g11) ?_
    simp[hYl]
    repeat first | intro _ | refine ⟨by omega,?_⟩
    refine Qj (fun i=>[(1,AV.iv (.ptr (hoC h))),(4,AV.iv (strs Y)),(5,AV.loc 5 0),(7,AV.iv (.int .i64 (i:Nat)))]) (fun _=>[(5,.box ((hoC h).map .iv))]) L.length (fun _=>True) trivial ?_ ?_
    ·intro _
     rw[Qa Qxp.eq_1];simp[hYl]
     repeat first | intro _ | refine ⟨by omega,?_⟩
     refine cK (by simpa using g14) ?_
     simp
     repeat first | intro _ | refine ⟨by omega,?_⟩
     refine cK (by simpa using g10) ?_
     simp
    ·intro i hi _ ih
     have h1:=hYi i hi;rw[Qa Qxp.eq_1];simp[hi,h1,hYl,Ji] at ih |-
     repeat' first | exact ih | omega | intro _ | apply And.intro
   ·have h4':(40:Int)<(YQ h).length:=by omega
    simp[h4']
    repeat first | intro _ | refine ⟨by omega,?_⟩
    refine cK (by simpa using g10) ?_
    simp
  ·rw[if_neg ho] at g19
   simp
   repeat first | intro _ | refine ⟨by omega,?_⟩
   refine cK (by simpa using g18) ?_
   simp[hf]
   repeat first | intro _ | refine ⟨by omega,?_⟩
   refine cK (by simpa using g19) ?_
   simp
   repeat first | intro _ | refine ⟨by omega,?_⟩
   refine cK (by simpa using g10) ?_
   simp
def Ul {α:Type} (l:List α) (b:Nat):List α:=l.drop (b % l.length)++l.take (b % l.length)
theorem Qe3 {α:Type} (l:List α) (b:Nat):(Ul l b).Perm l:=by
 have:=List.perm_append_comm (l₁:=l.drop (b % l.length)) (l₂:=l.take (b % l.length))
 rwa [QNj] at this
theorem JV {α:Type} (l:List α) (b:Nat):(Ul l b).length=l.length:=(Qe3 l b).length_eq
theorem QuN {n b i:Nat} (hi:i<n):(i+b) % n=if i+b % n<n then i+b % n else i+b % n-n:=by
 have hk:=Nat.mod_lt b (QNd (QMX _) hi);rw[Nat.add_mod,Nat.mod_eq_of_lt hi];split
 ·exact Nat.mod_eq_of_lt ‹_›
 ·rw[Nat.mod_eq_sub_mod (by omega),Nat.mod_eq_of_lt (by omega)]
theorem Qqu {α:Type} (l:List α) (b i:Nat) (hi:i<l.length):(Ul l b)[i]'(by rw[JV];exact hi)=l[(i+b) % l.length]'(Nat.mod_lt _ (by omega)):=by
 have hk:=Nat.mod_lt b (show 0<l.length by omega)
 have e:=QuN (b:=b) hi;simp only[e,Ul,List.getElem_append,List.length_drop,List.getElem_drop,List.getElem_take];split<;>split<;>first | (congr 1;omega) | omega
theorem Qqt {α β:Type} (f:α->β) (l:List α) (b:Nat):Ul (l.map f) b=(Ul l b).map f:=by simp[Ul,List.map_drop,QNt]
def Wn (h:Qd):Qd:=⟨⟨⟨[],[],0⟩,h.proof.machine,[],0,1⟩,h.pull⟩
theorem Qvo {h:Qd} (ho:okH h):okH (Wn h):=by
 refine ⟨⟨⟨by simp[Wn],by simp[Wn],by simp[Wn,inR],fun i hi=>by simp[Wn] at hi,by simp[Wn]⟩,ho.1.machine,by simp[Wn,inR],by simp[Wn,inR],by simp[Wn,pv,XH],fun i hi=>by simp[Wn,pv,XH] at hi⟩,ho.2⟩
theorem Qll (h:Qd):YQ (Wn h)=(XA h).map Xn:=by
 simp[YQ,JH,Wn,XA,Xn,Function.comp_def]
def Qqm (w m:Int):List (Txt × Vv × List Int):=[(Ju,.pulls,[w,m]),(V0,.stretch,[]),(QkS,.best,[]),(QcH,.weight,[])]
theorem QmV (w m:Int):∀ q∈Qqm w m,Xd q.1=some (q.2.2.length,q.2.1)/\(32 ∉ q.1/\q.1.length<=20)/\Qlv q.2.1=true/\q.2.2.length<=7:=by
 simp only[Qqm,QLX,QLZ,or_false,forall_eq_or_imp,forall_eq,QMa,QMs];refine ⟨?_,?_,?_,?_⟩
 all_goals exact ⟨by decide +kernel,by decide,rfl,by decide⟩
theorem Qvl {v:Vv} (h:Qlv v=true):QJ v=false:=by cases v<;>first | rfl | cases h
theorem Qvm {w m:Int} (h:Yp [w,m]):∀ t∈(Qqm w m).map (fun q=>QL q.1 q.2.2),∃ v l,Q3 t=some (v,l)/\Qlv v=true:=fun t ht=>by
 obtain ⟨q,hm,rfl⟩:=QL5.1 ht;obtain ⟨h1,⟨h2,_⟩,h3,_⟩:=QmV w m q hm;refine ⟨_,_,XZ h1 h2 fun n hn=>?_,h3⟩
 simp only[Yp,Qqm,QLX,QLZ,or_false,forall_eq_or_imp,forall_eq] at h hm;rcases hm with rfl | rfl | rfl | rfl<;>simp at hn
 omega
theorem QFn (h:Qd) (b a1 a2 a3 w m a4 a5:Int):Ev.Good Tryz.prog KW 7 [hoV h,.int .i64 b,.agg [.int .i64 a1,.int .i64 a2,.int .i64 a3,.int .i64 w,.int .i64 m,.int .i64 a4,.int .i64 a5]] (.bool true):=by
 refine Qb hKW QF2 (by simp) ?_
 have g10:=Qde;have g18:=Qgj h;by_cases hf:Qki h
 ·simp
  repeat first | intro _ | refine ⟨by omega,?_⟩
  refine cK (by simpa using g18) ?_
  simp[hf]
  repeat first | intro _ | refine ⟨by omega,?_⟩
  refine cK (by simpa using g10) ?_
  simp
 ·have hs:=Y6 hf
  have g19:=Qdd h hs;unfold Qma at g19;by_cases ho:okH h
  ·rw[if_pos ho] at g19
   by_cases b0:b<0
   ·simp
    repeat first | intro _ | refine ⟨by omega,?_⟩
    refine cK (by simpa using g18) ?_
    simp[hf]
    repeat first | intro _ | refine ⟨by omega,?_⟩
    refine cK (by simpa using g19) ?_
    simp[b0]
    repeat first | intro _ | refine ⟨by omega,?_⟩
    refine cK (by simpa using g10) ?_
    simp
   ·by_cases b1:100<b
    ·simp
     repeat first | intro _ | refine ⟨by omega,?_⟩
     refine cK (by simpa using g18) ?_
     simp[hf]
     repeat first | intro _ | refine ⟨by omega,?_⟩
     refine cK (by simpa using g19) ?_
     simp[b0,b1]
     repeat first | intro _ | refine ⟨by omega,?_⟩
     refine cK (by simpa using g10) ?_
     simp
    ·have g15:=Quf hKW [w,m] (by simp)
     by_cases hsm:Yp [w,m]
     ·obtain ⟨k,rfl⟩:∃ k:Nat,b=k:=⟨b.toNat,by omega⟩
      have g43:=Qj5 hKW h hs;have g41:=QtZ hKW (Wn h) (Qvo ho);rw[Qll] at g41;have hLp:=(Qe3 (XA h) k)
      have hl8:(XA h).length<=14:=by
       have:=ho.1.machine.blen;have:=ho.2.xlen;simp[XA];omega
      have hsm2:=hsm;simp only[Yp,QLX,QLZ,or_false,forall_eq_or_imp,forall_eq] at hsm2;have g16:=YV hKW Ju [w,m] (by decide) (by simp) (by simp;omega)
      have hord:=Qvm hsm
      have hask:∀ t∈(Qqm w m).map (fun q=>QL q.1 q.2.2),QlX t:=fun t ht=>by
       obtain ⟨v,l,h1,h2⟩:=hord t ht;exact ⟨v,l,h1,Qvl h2⟩
      have hRl:((Qqm w m).map (fun q=>QL q.1 q.2.2))=[QL Ju [w,m],[115,116,114,101,116,99,104],[98,101,115,116],[119,101,105,103,104,116]]:=by simp[Qqm,QL,V0,QkS,QcH]
      have gr:=fun (L:List (Qy ⊕ Qo)) (hL:L.Perm (XA h)) (hr:Xe (Qcd h) (L.map Xn++(Qqm w m).map (fun q=>QL q.1 q.2.2)))=>QmB ho hL hask hr
      have hsame:((Qqm w m).map (fun q=>QL q.1 q.2.2)).map (fun t=>(Qm (QmW h (Ul (XA h) k)) t).1)=((Qqm w m).map (fun q=>QL q.1 q.2.2)).map (fun t=>(Qm (QmW h (XA h)) t).1):=QMG fun t ht=>by
       obtain ⟨v,l,h1,h2⟩:=hord t ht;exact Qlk hLp (List.Perm.refl _) h1 h2
      have ga:=gr (XA h) (List.Perm.refl _);have gb:=gr (Ul (XA h) k) hLp;rw[hsame] at gb;rw[hRl] at ga gb;generalize hZ:[QL Ju [w,m],[115,116,114,101,116,99,104],[98,101,115,116],[119,101,105,103,104,116]].map (fun t=>(Qm (QmW h (XA h)) t).1)=Z at *
      have hZl:Z.length=4:=by rw[<- hZ];rfl
      have g9a:=QhS (Qcd h) ((XA h).map Xn++[QL Ju [w,m],[115,116,114,101,116,99,104],[98,101,115,116],[119,101,105,103,104,116]]);have g9b:=QhS (Qcd h) ((Ul (XA h) k).map Xn++[QL Ju [w,m],[115,116,114,101,116,99,104],[98,101,115,116],[119,101,105,103,104,116]]);have g17a:=QbT ((XA h).map Xn) [QL Ju [w,m],[115,116,114,101,116,99,104],[98,101,115,116],[119,101,105,103,104,116]] (by simp;omega)
      have g17b:=QbT ((Ul (XA h) k).map Xn) [QL Ju [w,m],[115,116,114,101,116,99,104],[98,101,115,116],[119,101,105,103,104,116]] (by simp[JV];omega)
      have g39:=QnP hKW Z Z (by omega) (by omega)
      generalize QL Ju [w,m]=LP at *;rw[<- Qqt] at g9b g17b gb;have hm0:(((XA h).map Xn).map fun _=>Ji)=(XA h).map fun _=>Ji:=by simp
      generalize hO:QmW h (XA h)=OA at *;generalize hO2:QmW h (Ul (XA h) k)=OB at *
      have hTm:((Ul (XA h) k).map fun _=>Ji)=(XA h).map fun _=>Ji:=by
       rw[List.map_const',List.map_const',JV]
      rw[hTm] at gb;have hall:((XA h).map fun _=>Ji)=List.replicate (XA h).length Ji:=List.map_const' ..
      rw[hall] at ga gb;have hln:(XA h).length=((XA h).map Xn).length:=by simp
      rw[hln] at ga gb hl8;generalize (XA h).map Xn=L at *;simp
      repeat first | intro _ | refine ⟨by omega,?_⟩
      refine cK (by simpa using g18) ?_
      simp[hf]
      repeat first | intro _ | refine ⟨by omega,?_⟩
      refine cK (by simpa using g19) ?_
      simp[b1]
      repeat first | intro _ | refine ⟨by omega,?_⟩
      refine cK (by simpa using g15) ?_
      simp[hsm]
      repeat first | intro _ | refine ⟨by omega,?_⟩
      refine cK (by simpa using g43) ?_
      simp
      repeat first | intro _ | refine ⟨by omega,?_⟩
      refine cK (by simpa[Wn] using g41) ?_
      simp
      repeat first | intro _ | refine ⟨by omega,?_⟩
      refine Qj (fun i=>[(1,AV.iv (.int .i64 (k:Nat))),(5,AV.iv (.ptr [.int .i64 a1,.int .i64 a2,.int .i64 a3,.int .i64 w,.int .i64 m,.int .i64 a4,.int .i64 a5])),(7,AV.loc 7 0),(9,AV.iv (strs L)),(10,AV.aref 10 i),(11,AV.iv (.int .i64 (i:Nat)))])
       (fun i=>[(7,.box ((hoC (Qcd h)).map .iv)),(10,.arr 9 1 (emb (((Ul L k).take i).map fun t=>[.str t])) 0)]) L.length (fun _=>True) trivial ?_ ?_
      ·intro _
       rw[Qa Qxo.eq_1];have htl:=JV L k;generalize Ul L k=T at *;rw[<- htl,QLU];simp
       repeat first | intro _ | refine ⟨by omega,?_⟩
       refine cK (by exact g16) ?_
       simp
       repeat first | intro _ | refine ⟨by omega,?_⟩
       refine cK (by simpa using g17a) ?_
       simp;by_cases hra:Xe (Qcd h) (L++[LP,[115,116,114,101,116,99,104],[98,101,115,116],[119,101,105,103,104,116]])
       ·by_cases hrb:Xe (Qcd h) (T++[LP,[115,116,114,101,116,99,104],[98,101,115,116],[119,101,105,103,104,116]])
        ·have ga:=ga hra
         have gb:=gb hrb;obtain ⟨W,hWe⟩:∃ W,W=List.replicate L.length Ji++Z:=⟨_,rfl⟩
         rw[<- hWe] at ga gb;have hWl:W.length=L.length+4:=by rw[hWe];simp[hZl]
         have hWi:∀ i (h:i<L.length),W[i]'(by omega)=Ji:=fun i h=>by
          subst hWe;rw[QM3 (by simpa using h)]
          simp
         have hWd:W.drop L.length=Z:=by rw[hWe];simp
         repeat first | intro _ | refine ⟨by omega,?_⟩
         refine cK (by simpa using g9a) ?_
         simp[hra]
         repeat first | intro _ | refine ⟨by omega,?_⟩
         refine cK (by simpa using g17b) ?_
         simp
         repeat first | intro _ | refine ⟨by omega,?_⟩
         refine cK (by simpa using g9b) ?_
         simp[hrb]
         repeat first | intro _ | refine ⟨by omega,?_⟩
         refine cK (by simpa using g17a) ?_
         simp
         repeat first | intro _ | refine ⟨by omega,?_⟩
         refine cK (by simpa using ga) ?_
         simp
         repeat first | intro _ | refine ⟨by omega,?_⟩
         refine cK (by simpa using g17b) ?_
         simp
         repeat first | intro _ | refine ⟨by omega,?_⟩
         refine cK (by simpa using gb) ?_
         simp[hWl]
         repeat first | intro _ | refine ⟨by omega,?_⟩
         refine Qj (fun i=>[(9,AV.iv (strs L)),(13,AV.iv (strs W)),(16,AV.iv (strs W)),(19,AV.iv (.int .i64 (i:Nat)))]) (fun _=>[]) L.length (fun _=>True) trivial ?_ ?_
         ·intro _
          rw[Qa Qxn.eq_1];have hWt:(W.map fun s=>[IV.str s]).take ((L.length:Int)+4).toNat=W.map fun s=>[IV.str s]:=QLQ (by simp[hWl];omega)
          simp[<- List.map_drop,hWd,hWl,hWt]
          repeat first | intro _ | refine ⟨by omega,?_⟩
          refine cK (by simpa using g39) ?_
          simp
          repeat first | intro _ | refine ⟨by omega,?_⟩
          refine cK (by simpa using g10) ?_
          simp
         ·intro i hi _ ih
          have h1:=hWi i hi;have h2:(i:Int)<(L.length:Int)+4:=by omega
          have h3:i<L.length+4:=by omega
          rw[Qa Qxn.eq_1];simp[hi,h1,Ji,hWl,h2,h3] at ih |-
          repeat' first | exact ih | omega | intro _ | apply And.intro
        ·refine cK (by simpa using g9a) ?_
         simp[hra]
         repeat first | intro _ | refine ⟨by omega,?_⟩
         refine cK (by simpa using g17b) ?_
         simp
         repeat first | intro _ | refine ⟨by omega,?_⟩
         refine cK (by simpa using g9b) ?_
         simp[hrb]
         repeat first | intro _ | refine ⟨by omega,?_⟩
         refine cK (by simpa using g10) ?_
         simp
       ·refine cK (by simpa using g9a) ?_
        simp[hra]
        repeat first | intro _ | refine ⟨by omega,?_⟩
        refine cK (by simpa using g10) ?_
        simp
      ·intro i hi _ ih
       obtain ⟨j,hjd⟩:∃ j,j=(i+k) % L.length:=⟨_,rfl⟩
       have hm:j<L.length:=by
        rw[hjd];exact Nat.mod_lt _ (by omega)
       have hg:(Ul L k)[i]'(by rw[JV];exact hi)=L[j]:=by
        subst hjd;exact Qqu L k i hi
       have htl:=JV L k;rw[QLM (by rw[JV];exact hi),hg] at ih
       have hrem:((i:Int)+(k:Int)).tmod (L.length:Int)=(j:Int):=by
        rw[QNm (by omega),hjd]
        push_cast
        rfl
       have hne:¬ (L.length:Int)=0:=by omega
       rw[Qa Qxo.eq_1];have hj:(j:Int)<L.length:=by omega
       have hne2:¬ L=[]:=fun c=>by simp[c] at hi
       simp[hi,hrem,hne,hne2,hm,hj] at ih |-
       repeat' first | exact ih | omega | intro _ | apply And.intro
     ·simp
      repeat first | intro _ | refine ⟨by omega,?_⟩
      refine cK (by simpa using g18) ?_
      simp[hf]
      repeat first | intro _ | refine ⟨by omega,?_⟩
      refine cK (by simpa using g19) ?_
      simp[b0,b1]
      repeat first | intro _ | refine ⟨by omega,?_⟩
      refine cK (by simpa using g15) ?_
      simp[hsm]
      repeat first | intro _ | refine ⟨by omega,?_⟩
      refine cK (by simpa using g10) ?_
      simp
  ·rw[if_neg ho] at g19
   simp
   repeat first | intro _ | refine ⟨by omega,?_⟩
   refine cK (by simpa using g18) ?_
   simp[hf]
   repeat first | intro _ | refine ⟨by omega,?_⟩
   refine cK (by simpa using g19) ?_
   simp
   repeat first | intro _ | refine ⟨by omega,?_⟩
   refine cK (by simpa using g10) ?_
   simp
theorem Qnm (n:Int):¬ Lib.itoa n=qY:=fun e=>by
 have h:=JO n.natAbs;unfold Lib.itoa at e;split at e
 ·simp[qY] at e
 ·have h2:=JO n.toNat 110 (by rw[e];decide)
  revert h2
  decide
theorem Qnn {n:Int} (h:inR n 0 9999):(Lib.itoa n).length<=4:=by
 simp only[inR] at h;have:=VT n.toNat 4 (by omega) (by omega)
 unfold Lib.itoa;rw[if_neg (by omega)]
 exact this
theorem Qld (n:Int):QL Vw [n,0,-1]=[112,114,111,118,101,32]++Lib.itoa n++[32,48,32,45,49]:=by
 have e0:Lib.itoa 0=[48]:=by decide +kernel
 have e1:Lib.itoa (-1)=[45,49]:=by decide +kernel
 simp[QL,e0,e1,Vw]
theorem QFm (h:Qd) (s:List Txt):Ev.Good Tryz.prog KW 8 [hoV h,strs s] (.bool true):=by
 refine Qb hKW QF1 (by simp) ?_
 have g10:=Qde;by_cases h35:35<s.length
 ·have h35':(35:Int)<s.length:=by omega
  simp[h35']
  repeat first | intro _ | refine ⟨by omega,?_⟩
  refine cK (by simpa using g10) ?_
  simp
 ·have h35':¬ (35:Int)<s.length:=by omega
  have g9:=QhS h s;by_cases hr:Xe h s
  ·have g17:=QbT s [JW] (by simp;omega)
   have gA:=Qk2 hr (by omega)
   have hA:(QU h s s.length).length=s.length:=by simp[QU]
   have ho:okH (Qe h s s.length):=Yd hr.2.1 _;have hlen:=ho.1.chain.len;have hwe:=Qd4 ho.1;have hlast:=fun n hn hr' hw hl=>QqD (h:=h) (s:=s) (n:=n) rfl hn hr' hw hl
   have hli:=QbE ho;generalize hX:Qe h s s.length=X at *;generalize QU h s s.length=A at *;simp[h35']
   repeat first | intro _ | refine ⟨by omega,?_⟩
   refine cK (by simpa using g9) ?_
   simp[hr]
   repeat first | intro _ | refine ⟨by omega,?_⟩
   refine cK (by simpa[JW] using g17) ?_
   simp;by_cases h3:(QD X.proof).2=3
   ·have e:Xa [(QD X.proof).1] (QD X.proof).2=[110,111,110,101]:=by rw[h3];rfl
    rw[e] at gA
    repeat first | intro _ | refine ⟨by omega,?_⟩
    refine cK (by simpa[JW] using gA) ?_
    simp[hA]
    repeat first | intro _ | refine ⟨by omega,?_⟩
    refine cK (by simpa using g10) ?_
    simp
   ·have h0:(QD X.proof).2=0:=by omega
    have e:Xa [(QD X.proof).1] (QD X.proof).2=Lib.itoa (QD X.proof).1:=by rw[h0];simp[Xa,Qlq,VK]
    have hne:¬ Lib.itoa (QD X.proof).1=[110,111,110,101]:=Qnm _;by_cases h12:X.proof.chain.deeds.length<12
    ·obtain ⟨hin,_,_⟩:=hli h0 h12
     have h4:=Qnn hin;have hpt:=Qld (QD X.proof).1;have hlast:=hlast _ rfl;have g9b:=QhS h (s++[QL Vw [(QD X.proof).1,0,-1],[111,112,101,110],[103,111,111,100],[99,111,110,100,101,109,110,101,100]]);have g17b:=QbT s [QL Vw [(QD X.proof).1,0,-1],[111,112,101,110],[103,111,111,100],[99,111,110,100,101,109,110,101,100]] (by simp;omega)
     rw[e] at gA;have h12':¬ (12:Int)<=X.proof.chain.deeds.length:=by omega
     have h40':¬ (40:Int)<X.proof.chain.deeds.length:=by omega
     repeat first | intro _ | refine ⟨by omega,?_⟩
     refine cK (by simpa[JW] using gA) ?_
     simp[hA,hne,h12',h40'];rw[hpt] at g9b g17b hlast;have h4':¬ (4:Int)<((Lib.itoa (QD X.proof).1).length:Int):=by omega
     have h4i:((Lib.itoa (QD X.proof).1).length:Int)<=4:=by omega
     generalize Lib.itoa (QD X.proof).1=WT at *
     repeat first | intro _ | refine ⟨by omega,?_⟩
     refine cK (by simpa[QdK,QdL,QdM] using g17b) ?_
     simp[h4'];by_cases hrb:Xe h (s++[[112,114,111,118,101,32]++WT++[32,48,32,45,49],[111,112,101,110],[103,111,111,100],[99,111,110,100,101,109,110,101,100]])
     ·obtain ⟨G,C,L,hGC,gB⟩:=hlast hrb h0 h12
      simp at hrb
      repeat first | intro _ | refine ⟨by omega,?_⟩
      refine cK (by simpa[QdK,QdL,QdM] using g9b) ?_
      simp[hrb]
      repeat first | intro _ | refine ⟨by omega,?_⟩
      have hn1:((s.length:Int)+1).toNat=s.length+1:=by omega
      have hn2:((s.length:Int)+2).toNat=s.length+2:=by omega
      have hn3:((s.length:Int)+3).toNat=s.length+3:=by omega
      have hGC:G=[115,117,114,101,108,121]↔C=[110,101,118,101,114]:=hGC;by_cases hG:G=[115,117,114,101,108,121]
      ·have hC:=hGC.1 hG
       subst hG hC;refine cK (by simpa[QdK,QdL,QdM] using gB) ?_
       simp[hA,hn1,hn2,hn3,QNo,Ji,qY]
       repeat first | intro _ | refine ⟨by omega,?_⟩
       refine cK (by simpa using g10) ?_
       simp
      ·have hC:¬ C=[110,101,118,101,114]:=fun c=>hG (hGC.2 c)
       refine cK (by simpa[QdK,QdL,QdM] using gB) ?_
       simp[hA,hn1,hn2,hn3,QNo,Ji,qY,hG,hC]
       repeat first | intro _ | refine ⟨by omega,?_⟩
       refine cK (by simpa using g10) ?_
       simp
     ·simp at hrb
      refine cK (by simpa[QdK,QdL,QdM] using g9b) ?_
      simp[hrb,h4i]
      repeat first | intro _ | refine ⟨by omega,?_⟩
      refine cK (by simpa using g10) ?_
      simp
    ·have h12':(12:Int)<=X.proof.chain.deeds.length:=by omega
     rw[e] at gA
     repeat first | intro _ | refine ⟨by omega,?_⟩
     refine cK (by simpa[JW] using gA) ?_
     simp[hA,hne,h12']
     repeat first | intro _ | refine ⟨by omega,?_⟩
     refine cK (by simpa using g10) ?_
     simp
  ·simp[h35']
   repeat first | intro _ | refine ⟨by omega,?_⟩
   refine cK (by simpa using g9) ?_
   simp[hr]
   repeat first | intro _ | refine ⟨by omega,?_⟩
   refine cK (by simpa using g10) ?_
   simp
end Go.Pf
