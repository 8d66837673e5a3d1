/- The contracts of zp is read: clashes, zp is lost, Read, Bad, Lost, Join, Mend, Write. -/
import Derived.Test.YtpiohpigfaahcaaGreatDoorPartSix
set_option linter.all false
set_option maxRecDepth 100000
namespace Go.Bk
open Go Go.Ev Go.Proofs Go.RowKit Go.Proofs.Tryz
variable{K:World->Prop}(hK:∀w w',K w->Below w.heap.size w w'->K w')
open Go.Pf(Gd c34_b0 c34_ok c35_ok)
def YG(ends:List Int)(q:Int×List W):Bool:=decide (1<q.2.length)||(match ends with|[]=>false|e::_=>decide (e<=q.1))
def XB(p:Pg):Bool:=decide (1<p.ends.length)||p.rows.any (YG p.ends)
def Ji(p:Pg)(n:Int):List Int:=((List.range n.toNat).filter λk:Nat=>((Q5 (k:Int) p.rows).getD []).length==0).map λk:Nat=>(k:Int)
def QuT{β α:Type}(f:β->α)(l:List (Int×β))(i:Nat):(UT f l)[i]?=(l[i]?).map λp=>(.int .i64 p.1,f p.2):=by simp[UT]
def Qoe(p:Pg)(i:Nat):Ji p ((i+1:Nat):Int)=Ji p (i:Nat)++if((Q5 (i:Int) p.rows).getD []).length=0 then [(i:Int)] else []:=by simp only[Ji,QPg,QOv,QOT,QOd];congr 1;by_cases h:((Q5 (i:Int) p.rows).getD []).length=0<;>simp[h]
def Qhm(p:Pg)(n:Nat):(Ji p (n:Nat)).length<=n:=by simp only[Ji,QN9,QPg];have:=QOp (λk:Nat=>((Q5 (k:Int) p.rows).getD []).length==0) (List.range n);simpa using this
include hK
def QF4(p:Pg):Gd K 34 [pgV p] (.bool (XB p)):=by
 apply Qb hK c34_ok (by simp);by_cases h1:1<p.ends.length
 .have hi:(1:Int)<(p.ends.length:Int):=by omega
  simp[pgV,hi,XB,h1]
 .have hi:¬(1:Int)<(p.ends.length:Int):=by omega
  generalize hC:XB p=C;simp[pgV,hi];intro hl
  have key:∀seen:List Nat,(∀i∈seen,∀q,p.rows[i]?=some q->YG p.ends q=false) ->
    XJ prog K (FnF (QdT [Qbu.tmp 2] (.bool C))) c34_b0 [1,11] [11] [AI.inBlock 0,AI.code (.seq (.ops [⟨some 2,none,.xg (.bool false)⟩] false) .ret)]
     [(1,.iv (.ptr [.map (UT (λt=>.sl 1 (txE t)) p.rows),Qq p.ends,.map (UT (λn=>.int .i64 n) p.exact),Qq p.bad])),(11,.yk 11)] [(11,.yq (UT (λt=>.sl 1 (txE t)) p.rows) seen)]:=by
   apply QpV (λ_=>[(1,AV.iv (.ptr [.map (UT (λt=>.sl 1 (txE t)) p.rows),Qq p.ends,.map (UT (λn=>.int .i64 n) p.exact),Qq p.bad])),(11,.yk 11)]) (λseen=>[(11,AO.yq (UT (λt=>.sl 1 (txE t)) p.rows) seen)]) p.rows.length (λseen=>∀i∈seen,∀q,p.rows[i]?=some q->YG p.ends q=false);intro seen hI ih;rw[Qa Go.Pf.c34_b0.eq_1];have hlen:(UT (λt=>IV.sl 1 (txE t)) p.rows).length=p.rows.length:=by simp[UT]
   simp[hlen,QuT];refine⟨λxd=>?_,λi a b n ts hq ha hb hns=>?_⟩
   .have:p.rows.any (YG p.ends)=false:=by
     rw[QPt];intro q hq;have⟨i,hi⟩:=QOF hq;rw[hI i (xd i (QNY.1 hi).1) q hi];simp
    rw[<- hC];simp[XB,h1,this]
   subst ha hb;have hil:=(QNY.1 hq).1;have htl:(txE ts).length=ts.length:=by simp[txE]
   have hmem:(n,ts)∈p.rows:=QOh hq;have hbad:YG p.ends (n,ts)=true->C=true:=by intro hb;rw[<- hC];simp only[XB,QO8,QOO];exact .inr ⟨_,hmem,hb⟩
   have hgood:YG p.ends (n,ts)=false->XJ prog K (FnF (QdT [Qbu.tmp 2] (.bool C))) c34_b0 [1,11] [11] [AI.inBlock 0,AI.code (.seq (.ops [⟨some 2,none,.xg (.bool false)⟩] false) .ret)]
    [(1,.iv (.ptr [.map (UT (λt=>.sl 1 (txE t)) p.rows),Qq p.ends,.map (UT (λn=>.int .i64 n) p.exact),Qq p.bad])),(11,.yk 11)] [(11,.yq (UT (λt=>.sl 1 (txE t)) p.rows) (i::seen))]:=by
    intro hg;refine ih i hil hns λj hj q hjq=>?_;rcases QN7.1 hj with rfl|hj
    .rw[hq] at hjq;injection hjq with hjq;rw[<- hjq];exact hg
    exact hI j hj q hjq
   generalize hends:p.ends=ends at *;simp[hq,htl];intro _
   match ends,h1 with
   |[],_=>
    by_cases ht:1<ts.length
    .have hti:(1:Int)<(ts.length:Int):=by omega
     have:=hbad (by simp[YG,ht]);simp[hti,this]
     try (repeat' first|omega|assumption|intro _|apply And.intro)
    have hti:¬(1:Int)<(ts.length:Int):=by omega
    have:=hgood (by simp[YG,ht]);simp[hti] at this |-
    repeat' first|omega|assumption|intro _|apply And.intro
   |[e],_=>
    by_cases ht:1<ts.length
    .have hti:(1:Int)<(ts.length:Int):=by omega
     have:=hbad (by simp[YG,ht]);simp[hti,this]
     try (repeat' first|omega|assumption|intro _|apply And.intro)
    have hti:¬(1:Int)<(ts.length:Int):=by omega
    by_cases hen:e<=n
    .have:=hbad (by simp[YG,hen]);simp[hti,hen,this]
     try (repeat' first|omega|assumption|intro _|apply And.intro)
    have:=hgood (by simp[YG,ht,hen]);simp[hti,hen] at this |-
    repeat' first|omega|assumption|intro _|apply And.intro
   |_::_::_,h=>simp at h
  have:=key [] (by simp);simp at this |-;exact this
def QF3(p:Pg)(n:Nat)(hn:n<=100000):Gd K 35 [pgV p,.int .i64 (n:Nat)] (Qq (Ji p (n:Nat))):=by
 apply Qb hK c35_ok (by simp);simp[pgV]
 refine Zz (λi=>[(2,AV.iv (.ptr [.map (UT (λt=>.sl 1 (txE t)) p.rows),Qq p.ends,.map (UT (λn=>.int .i64 n) p.exact),Qq p.bad])),(5,.yl 5 (Ji p (i:Nat)).length),(7,.iv (.int .i64 (n:Nat))),(8,.iv (.int .i64 (i:Nat)))])
  (λi=>[(5,AO.arr 3 1 (emb (inE (Ji p (i:Nat)))) 0)]) n ?_ ?_
 .rw[Qa Go.Pf.c35_b0.eq_1]
  have l:(inE (Ji p (n:Nat))).length=(Ji p (n:Nat)).length:=by simp[inE]
  simp[l];simp[inE]
 intro i hi ih;rw[Qa Go.Pf.c35_b0.eq_1];have hs:=Qoe p i;have hl:=Qhm p i;have l:(inE (Ji p (i:Nat))).length=(Ji p (i:Nat)).length:=by simp[inE]
 rw[hs] at ih;have hks:=Ym (λt=>IV.sl 1 (txE t)) p.rows;have hf:=Jp (λt=>IV.sl 1 (txE t)) (i:Int) p.rows;generalize hold:(Q5 (i:Int) p.rows).getD []=old at *
 have hf':(Qv (.int .i64 (i:Int)) (UT (λt=>IV.sl 1 (txE t)) p.rows)).getD (.sl 1 [])=.sl 1 (txE old):=by rw[hf,<- hold];cases Q5 (i:Int) p.rows<;>rfl
 generalize Ji p (i:Nat)=L at *;have htl:(txE old).length=old.length:=by simp[txE]
 have hin:(i:Int)<(n:Int):=by omega
 by_cases h0:old.length=0
 .have l3:inE (L++[(i:Int)])=inE L++[[.int .i64 (i:Nat)]]:=by simp[inE]
  rw[if_pos h0,l3] at ih;have he:=QN4 h0;have ht0:txE old=[]:=by rw[he];rfl
  simp[hin,hks,hf',ht0,l] at ih |-
  repeat' first|omega|assumption|intro _|apply And.intro
 have hne:old≠[]:=λe=>h0 (by rw[e];rfl);rw[if_neg h0] at ih;simp[hin,hks,hf',htl,hne] at ih |-
 repeat' first|omega|assumption|intro _|apply And.intro
end Go.Bk
namespace Go.Bk
open Go Go.Ev Go.Proofs Go.RowKit Go.Proofs.Tryz
variable{K:World->Prop}(hK:∀w w',K w->Below w.heap.size w w'->K w')
open Go.Pf(Gd c15_ok c16_ok)
def VU(p:Pg)(i:Nat):List W:=(List.range i).map λn:Nat=>((Q5 (n:Int) p.rows).getD []).headD []
def Qag(p:Pg)(i:Nat):List Int:=((List.range i).filter λn:Nat=>(Q5 (n:Int) p.exact).getD 0==0).map λn:Nat=>(n:Int)
def QtJ(p:Pg):List W×List Int×Int:=
 if XB p then([],[],141) else
 match p.ends with
 |[]=>([],[],142)
 |e::_=>if 0<(Ji p e).length then([],[],142) else(VU p e.toNat,Qag p e.toNat,0)
def readB(b:W):List W×List Int×Int:=match Wd b with
 |none=>([],[],140)
 |some ls=>QtJ (VX ls ls.length)
@[simp] def readV(r:List W×List Int×Int):IV:=.xf [strs r.1,Qq r.2.1,.int .i64 r.2.2]
def Qob(p:Pg)(i:Nat):Qag p (i+1)=Qag p i++if(Q5 (i:Int) p.exact).getD 0=0 then [(i:Int)] else []:=by simp only[Qag,QOv,QOT,QOd];congr 1;by_cases h:(Q5 (i:Int) p.exact).getD 0=0<;>simp[h]
def QiD(p:Pg)(i:Nat):VU p (i+1)=VU p i++[((Q5 (i:Int) p.rows).getD []).headD []]:=by simp only[VU,QOv,QOd,QOk,List.map_nil]
def QnO(p:Pg)(i:Nat):(VU p i).length=i:=by simp[VU]
def QpP(p:Pg)(i:Nat):(Qag p i).length<=i:=by simp only[Qag,QN9];have:=QOp (λn:Nat=>(Q5 (n:Int) p.exact).getD 0==0) (List.range i);simpa using this
def Qhl{p:Pg}{n:Nat}(h:(Ji p (n:Nat)).length=0):∀i,i<n->(Q5 (i:Int) p.rows).getD []≠[]:=by intro i hi he;have h0:=QN4 h;simp only[Ji,QPg,List.map_eq_nil_iff,List.filter_eq_nil_iff] at h0;have:=h0 i (QOr.2 hi);simp[he] at this
theorem QpF(ls:List W):∀i,∀e∈(VX ls i).ends,0<=e/\e<=40
 |0=>by simp[VX]
 |i+1=>by
  have ih:=QpF ls i;simp only[VX,WT];split
  .exact ih
  .rename_i r hr;split
   .intro e he;simp only[YI] at he;split at he
    .exact ih e he
    rcases QOc.1 he with he|he
    .exact ih e he
    simp at he;subst he;have:=J8 (Qm6 (Qea hr)).1;exact⟨this.1,this.2.1⟩
   .exact ih
include hK
def good15(hS:∀s:W,s.length<=1000000->Gd K 139 [.str s,.str [10]] (strs (spl s)))(b:W)(hb:b.length<=100000)(hl:∀ls,Wd b=some ls->ls.length<=100000/\∀l∈ls,l.length<=10000):Gd K 15 [.str b] (readV (readB b)):=by
 apply Qb hK c15_ok (by simp);have g44:=Qw0 hK hS b hb hl;unfold readB;cases hcut:Wd b with
 |none=>rw[hcut] at g44;simp[QHG] at g44 |-;apply Qd g44 (by simp);simp
 |some ls=>
  rw[hcut] at g44;simp only at g44 |-;have hends:=QpF ls ls.length;generalize VX ls ls.length=p at *;have g45:=QF4 hK p;have g46:∀(n:Nat),n<=100000->_:=λn hn=>QF3 hK p n hn;unfold QtJ;have hdef:Pg.ends p=p.ends:=rfl;cases he:p.ends with
  |nil=>
   simp[pgV,he] at g44 g45 |-;apply Qd g44 (by simp);simp;apply Qd g45 (by simp);by_cases hc:XB p=true
   .simp[hc]
   have hc':XB p=false:=by simpa using hc
   simp[hc']
  |cons e es=>
   obtain⟨e0,e1⟩:=hends e (by rw[he];exact List.mem_cons_self);obtain⟨n,rfl⟩:∃n:Nat,e=n:=⟨e.toNat,by omega⟩;have g46:=g46 n (by omega);simp[pgV,he] at g44 g45 g46 |-;apply Qd g44 (by simp);simp;apply Qd g45 (by simp);by_cases hc:XB p=true
   .simp[hc]
   .have hc':XB p=false:=by simpa using hc
    have hze:¬((es.length:Int)+1=0):=by omega
    simp[hc',hze];intro hel;apply Qd g46 (.inl rfl);have hll:=Qhm p n;by_cases h0:(Ji p (n:Nat)).length=0
    .have hll0:=Qhl h0;have h0':=QN4 h0;simp[h0']
     refine Zz (λi=>[(2,AV.yl 2 (VU p i).length),(3,.yl 3 (Qag p i).length),(5,.loc 5 0),(37,.iv (.int .i64 (n:Nat))),(38,.iv (.int .i64 (i:Nat)))])
      (λi=>[(2,AO.arr 9 1 (emb (txE (VU p i))) 0),(3,.arr 3 1 (emb (inE (Qag p i))) 0),(5,.box [.iv (.map (UT (λt=>.sl 1 (txE t)) p.rows)),.iv (Qq ((n:Int)::es)),.iv (.map (UT (λn=>.int .i64 n) p.exact)),.iv (Qq p.bad)])]) n ?_ ?_
     .rw[Qa Go.Pf.c15_b0.eq_1]
      have l1:(txE (VU p n)).length=(VU p n).length:=by simp[txE]
      have l2:(inE (Qag p n)).length=(Qag p n).length:=by simp[inE]
      simp[l1,l2];simp[txE,inE]
     intro i hi ih;rw[Qa Go.Pf.c15_b0.eq_1];have hni:=hll0 i hi;have hin:(i:Int)<(n:Int):=by omega
     have hks:=Ym (λt=>IV.sl 1 (txE t)) p.rows;have hf:=Jp (λt=>IV.sl 1 (txE t)) (i:Int) p.rows;have hks2:=Ym (λn=>IV.int .i64 n) p.exact;have hf2:=Jp (λn=>IV.int .i64 n) (i:Int) p.exact;rw[QiD,Qob] at ih;have hml:=QpP p i;have htl:=QnO p i;generalize hold:(Q5 (i:Int) p.rows).getD []=old at *
     have hf':(Qv (.int .i64 (i:Int)) (UT (λt=>IV.sl 1 (txE t)) p.rows)).getD (.sl 1 [])=.sl 1 (txE old):=by rw[hf,<- hold];cases Q5 (i:Int) p.rows<;>rfl
     generalize hcnt:(Q5 (i:Int) p.exact).getD 0=cnt at *
     have hf2':(Qv (.int .i64 (i:Int)) (UT (λn=>IV.int .i64 n) p.exact)).getD (.int .i64 0)=.int .i64 cnt:=by rw[hf2,<- hcnt];cases Q5 (i:Int) p.exact<;>rfl
     generalize VU p i=T at *;generalize Qag p i=M at *;have l1:(txE T).length=T.length:=by simp[txE]
     have l2:(inE M).length=M.length:=by simp[inE]
     obtain⟨o,os,rfl⟩:∃o os,old=o::os:=by
      cases old with
      |nil=>exact absurd rfl hni
      |cons o os=>exact⟨o,os,rfl⟩
     have l3:txE (T++[o])=txE T++[[.str o]]:=by simp[txE]
     have hto:txE (o::os)=[.str o]::txE os:=rfl;by_cases hz:cnt=0
     .have l4:inE (M++[(i:Int)])=inE M++[[.int .i64 (i:Nat)]]:=by simp[inE]
      rw[if_pos hz] at ih;simp[l3,l4] at ih;simp[hin,hks,hks2,hf',hf2',hto,hz,l1,l2] at ih |-
      repeat' first|omega|assumption|intro _|apply And.intro
     rw[if_neg hz] at ih;simp[l3] at ih;simp[hin,hks,hks2,hf',hf2',hto,hz,l1,l2] at ih |-
     repeat' first|omega|assumption|intro _|apply And.intro
    .have h0':¬Ji p (n:Nat)=[]:=λe=>h0 (by rw[e];rfl);have h0p:0<(Ji p (n:Nat)).length:=by omega
     simp[h0',h0p]
def QGe(hS:∀s:W,s.length<=1000000->Gd K 139 [.str s,.str [10]] (strs (spl s)))(b:W)(hb:b.length<=100000)(hl:∀ls,Wd b=some ls->ls.length<=100000/\∀l∈ls,l.length<=10000):
  Gd K 16 [.str b] (match Wd b with|none=>.xf [Qq [],.int .i64 140]|some ls=>.xf [Qq (VX ls ls.length).bad,.int .i64 0]):=by
 apply Qb hK c16_ok (by simp);have g44:=Qw0 hK hS b hb hl;cases hcut:Wd b with
 |none=>rw[hcut] at g44;simp[QHG] at g44 |-;apply Qd g44 (by simp);simp
 |some ls=>rw[hcut] at g44;simp only at g44 |-;generalize VX ls ls.length=p at *;simp[pgV] at g44 |-;apply Qd g44 (by simp);simp
end Go.Bk
namespace Go.Bk
open Go Go.Ev Go.Proofs Go.RowKit Go.Proofs.Tryz
variable{K:World->Prop}(hK:∀w w',K w->Below w.heap.size w w'->K w')
def rd(l:W):Option (Int×W×Bool):=(XF l).map λr=>(Qu r).1
def ex(l:W):Bool:=match XF l with
 |some r=>decide (QV r=l)
 |none=>false
def QcB{α:Type}[BEq α][LawfulBEq α]{l:List α}{x y:α}:y∈YI l x↔y∈l\/y=x:=by
 unfold YI;split
 .rename_i h;simp only[QOO,beq_iff_eq] at h;obtain⟨z,hz,rfl⟩:=h;exact⟨.inl,λh=>h.elim id λe=>e▸hz⟩
 simp
def QbW{α:Type}[BEq α][LawfulBEq α]{l:List α}{x:α}(h:l.Nodup):(YI l x).Nodup:=by
 unfold YI;split
 .exact h
 rename_i hx;rw[List.nodup_append];refine⟨h,by simp,?_⟩;intro a ha b hb e;simp at hb;subst hb e;apply hx;simp only[QOO,beq_iff_eq];exact⟨_,ha,rfl⟩
def Qtr{α:Type}[BEq α][LawfulBEq α](l:List α)(x:α):YI l x≠[]:=λe=>by have:x∈YI l x:=QcB.2 (.inr rfl);rw[e] at this;cases this
theorem Qin{β:Type}(k:Int)(v:β):∀l:List (Int×β),(Qgq k v l).map (·.1)=if k∈l.map (·.1) then l.map (·.1) else l.map (·.1)++[k]
 |[]=>by simp[Qgq]
 |p::r=>by
  have ih:=Qin k v r;simp only[Qgq];by_cases h:p.1=k
  .simp[h]
  rw[if_neg h];simp only[QOk,ih,QN7,Ne.symm h,false_or];split<;>simp
theorem QmJ{β:Type}{k:Int}{v:β}:∀{l:List (Int×β)}{q:Int×β},q∈Qgq k v l->q=(k,v)\/q∈l
 |[],q,h=>by simpa[Qgq] using h
 |p::r,q,h=>by
  simp only[Qgq] at h;split at h
  .rcases QN7.1 h with h|h
   .exact .inl h
   exact .inr (QO2 _ h)
  rcases QN7.1 h with h|h
  .exact .inr (by rw[h];exact List.mem_cons_self)
  rcases QmJ h with h|h
  .exact .inl h
  exact .inr (QO2 _ h)
theorem Uz{β:Type}:∀{l:List (Int×β)}{q:Int×β},(l.map (·.1)).Nodup->q∈l->Q5 q.1 l=some q.2
 |p::r,q,hn,h=>by
  simp only[QOk,QPL] at hn;simp only[Q5];rcases QN7.1 h with h|h
  .subst h;rw[if_pos rfl]
  rw[if_neg,Uz hn.2 h];intro e;apply hn.1;rw[e];exact List.mem_map_of_mem h
theorem QcC{β:Type}{k:Int}{v:β}:∀{l:List (Int×β)},Q5 k l=some v->(k,v)∈l
 |[],h=>by cases h
 |p::r,h=>by
  simp only[Q5] at h;split at h
  .rename_i e;injection h with h;subst e h;exact List.mem_cons_self
  .exact QO2 _ (QcC h)
structure Qgs(p:Pg)(L:List W):Prop where
 ends:∀e,e∈p.ends↔∃l∈L,∃t,rd l=some (e,t,true)
 endsN:p.ends.Nodup
 rows:∀k t,t∈(Q5 k p.rows).getD []↔∃l∈L,rd l=some (k,t,false)
 rowsN:∀k,((Q5 k p.rows).getD []).Nodup
 keysN:(p.rows.map (·.1)).Nodup
 full:∀q∈p.rows,q.2≠[]
 pos:∀k,0<=(Q5 k p.exact).getD 0
 exact:∀k,(Q5 k p.exact).getD 0=0↔∀l∈L,∀t,rd l=some (k,t,false)->ex l=false
 bad:p.bad=((List.range L.length).filter λj:Nat=>(rd (L.getD j [])).isNone).map λj:Nat=>(j:Int)
def Qyj:Qgs ⟨[],[],[],[]⟩ []:=⟨by simp,by simp,by simp[Q5],by simp[Q5],by simp,by simp,by simp[Q5],by simp[Q5],by simp⟩
def Qwc(L:List W)(l:W):(((List.range (L++[l]).length).filter λj:Nat=>(rd ((L++[l]).getD j [])).isNone).map λj:Nat=>(j:Int)) =
  (((List.range L.length).filter λj:Nat=>(rd (L.getD j [])).isNone).map λj:Nat=>(j:Int))++if(rd l).isNone then [(L.length:Int)] else []:=by
 rw[QOf,List.length_singleton,QOv,QOT,QOd]
 congr 1
 .congr 1;apply QPC;intro j hj;rw[QOr] at hj;simp[QOs hj]
 .cases h:(rd l).isNone<;>simp[h]
def Qt3{p:Pg}{L:List W}(l:W)(h:Qgs p L):Qgs (WT p L.length l) (L++[l]):=by
 have hb:=Qwc L l;unfold WT;cases hR:XF l with
 |none=>
  have hr:rd l=none:=by simp[rd,hR]
  refine⟨λe=>?_,h.endsN,λk t=>?_,h.rowsN,h.keysN,h.full,h.pos,λk=>?_,?_⟩
  .simp only[h.ends,QOc,QOu];constructor
   .rintro⟨l',hl,t,ht⟩;exact⟨l',.inl hl,t,ht⟩
   rintro⟨l',hl|rfl,t,ht⟩
   .exact⟨l',hl,t,ht⟩
   rw[hr] at ht;cases ht
  .simp only[h.rows,QOc,QOu];constructor
   .rintro⟨l',hl,ht⟩;exact⟨l',.inl hl,ht⟩
   rintro⟨l',hl|rfl,ht⟩
   .exact⟨l',hl,ht⟩
   rw[hr] at ht;cases ht
  .simp only[h.exact,QOc,QOu];constructor
   .rintro hq l' (hl|rfl) t ht
    .exact hq l' hl t ht
    rw[hr] at ht;cases ht
   intro hq l' hl;exact hq l' (.inl hl)
  rw[hb,h.bad,hr];simp
 |some r=>
  have hr:rd l=some (Qu r).1:=by simp[rd,hR]
  have he:ex l=decide (QV r=l):=by simp[ex,hR]
  have hbb:p.bad=((List.range (L++[l]).length).filter λj:Nat=>(rd ((L++[l]).getD j [])).isNone).map λj:Nat=>(j:Int):=by rw[hb,h.bad,hr];simp
  dsimp only
  generalize(Qu r).1=x at *;have⟨k0,t0,c⟩:=x;cases c with
  |true=>
   simp only[if_true];refine⟨λe=>?_,QbW h.endsN,λk t=>?_,h.rowsN,h.keysN,h.full,h.pos,λk=>?_,hbb⟩
   .simp only[QcB,h.ends,QOc,QOu];constructor
    .rintro (⟨l',hl,t,ht⟩|rfl)
     .exact⟨l',.inl hl,t,ht⟩
     exact⟨l,.inr rfl,t0,hr⟩
    rintro⟨l',hl|rfl,t,ht⟩
    .exact .inl ⟨l',hl,t,ht⟩
    rw[hr] at ht;injection ht with ht;injection ht with ht;exact .inr ht.symm
   .simp only[h.rows,QOc,QOu];constructor
    .rintro⟨l',hl,ht⟩;exact⟨l',.inl hl,ht⟩
    rintro⟨l',hl|rfl,ht⟩
    .exact⟨l',hl,ht⟩
    rw[hr] at ht;simp at ht
   simp only[h.exact,QOc,QOu];constructor
   .rintro hq l' (hl|rfl) t ht
    .exact hq l' hl t ht
    rw[hr] at ht;simp at ht
   intro hq l' hl;exact hq l' (.inl hl)
  |false=>
   simp only[QOo,if_false];refine⟨λe=>?_,h.endsN,λk t=>?_,λk=>?_,?_,?_,λk=>?_,λk=>?_,hbb⟩
   .simp only[h.ends,QOc,QOu];constructor
    .rintro⟨l',hl,t,ht⟩;exact⟨l',.inl hl,t,ht⟩
    rintro⟨l',hl|rfl,t,ht⟩
    .exact⟨l',hl,t,ht⟩
    rw[hr] at ht;simp at ht
   .simp only[XQ];by_cases hk:k=k0
    .subst hk;simp only[if_true,QOG,QcB,h.rows,QOc,QOu];constructor
     .rintro (⟨l',hl,ht⟩|rfl)
      .exact⟨l',.inl hl,ht⟩
      exact⟨l,.inr rfl,hr⟩
     rintro⟨l',hl|rfl,ht⟩
     .exact .inl ⟨l',hl,ht⟩
     rw[hr] at ht;injection ht with ht;injection ht with _ ht;injection ht with ht _;exact .inr ht.symm
    simp only[if_neg hk,h.rows,QOc,QOu];constructor
    .rintro⟨l',hl,ht⟩;exact⟨l',.inl hl,ht⟩
    rintro⟨l',hl|rfl,ht⟩
    .exact⟨l',hl,ht⟩
    rw[hr] at ht;injection ht with ht;injection ht with ht _;exact absurd ht.symm hk
   .simp only[XQ];split
    .simp only[QOG];exact QbW (h.rowsN _)
    exact h.rowsN _
   .rw[Qin]
    split
    .exact h.keysN
    rename_i hx;rw[List.nodup_append];refine⟨h.keysN,by simp,?_⟩;intro a ha b hb e;simp at hb;subst hb e;exact hx ha
   .intro q hq;rcases QmJ hq with rfl|hq
    .exact Qtr _ _
    exact h.full q hq
   .have:=h.pos k;have:=h.pos k0;split
    .rw[XQ]
     split
     .simp only[QOG];omega
     omega
    omega
   .by_cases hx:QV r=l
    .rw[if_pos hx,XQ]
     have hel:ex l=true:=by rw[he];simp[hx]
     by_cases hk:k=k0
     .subst hk;have:=h.pos k;simp only[if_true,QOG];constructor
      .intro hz;omega
      intro hq;have:=hq l (by simp) t0 hr;rw[hel] at this;cases this
     simp only[if_neg hk,h.exact,QOc,QOu];constructor
     .rintro hq l' (hl|rfl) t ht
      .exact hq l' hl t ht
      rw[hr] at ht;injection ht with ht;injection ht with ht _;exact absurd ht.symm hk
     intro hq l' hl;exact hq l' (.inl hl)
    .rw[if_neg hx]
     have hel:ex l=false:=by rw[he];simp[hx]
     simp only[h.exact,QOc,QOu];constructor
     .rintro hq l' (hl|rfl) t ht
      .exact hq l' hl t ht
      exact hel
     .intro hq l' hl;exact hq l' (.inl hl)
theorem QwJ(ls:List W):∀i,i<=ls.length->Qgs (VX ls i) (ls.take i)
 |0,_=>Qyj
 |i+1,h=>by
  have hi:i<ls.length:=h;have:=Qt3 ls[i] (QwJ ls i (by omega));rw[QPj,QPK (by omega)] at this;rw[QNW hi];have e:VX ls (i+1)=WT (VX ls i) i ls[i]:=by simp[VX,hi]
  rw[e];exact this
def QwK(ls:List W):Qgs (VX ls ls.length) ls:=by
 have:=QwJ ls ls.length (QN3 _)
 rwa [QN5] at this
structure QNk(ls:List W)(T:List W):Prop where
 each:∀l∈ls,∀x,rd l=some x->x=((T.length:Int),[],true)\/∃(i:Nat)(t:W),T[i]?=some t/\x=((i:Int),t,false)
 close:∃l∈ls,rd l=some ((T.length:Int),[],true)
open Go.Pf (Gd c14_ok)
def lnT(T:List W)(i:Nat):W:=QV (Qdw i (T.getD i []) false)++[10]
def wrT(T:List W):Nat->W
 |0=>[]
 |i+1=>wrT T i++lnT T i
def wrB(T:List W):W:=wrT T T.length++(QV (Qdw T.length [] true)++[10])
def wrA(T:List W)(i:Nat):W:=if i<=T.length then wrT T i else wrB T
def Qma(T:List W):wrA T (T.length+1)=wrB T:=by unfold wrA;rw[if_neg (by omega)]
def Ql8(T:List W):W×Int:=if Qtj T=0 then(wrB T,0) else([],Qtj T)
def QtE(T:List W)(i:Nat):List IV:=[.int .i64 (i:Nat),.str (T.getD i []),.bool false]
def Uc(T:List W):Nat->List (List IV)
 |0=>[]
 |i+1=>Uc T i++[QtE T i]
theorem UG(T:List W):∀i,(Uc T i).length=i
 |0=>rfl
 |i+1=>by simp[Uc,UG T i]
theorem Qd9(T:List W):∀n i,i<n->(Uc T n)[i]?=some (QtE T i)
 |0,i,h=>by omega
 |n+1,i,h=>by
  have hl:=UG T n;simp only[Uc];by_cases hi:i<n
  .rw[QOs (by omega),Qd9 T n i hi]
  .have:i=n:=by omega
   subst this;rw[QOm (by omega),hl];simp
def QAO{T:List W}(h:Qtj T=0):T.length<=40/\∀s∈T,tx s=true:=by
 unfold Qtj at h;split at h
 .omega
 split at h
 .rename_i h1 h2;rw[QOt] at h2;exact⟨by omega,h2⟩
 omega
def Qwu{s:W}(h:tx s=true):s.length<=60:=by simp only[tx,QNZ,decide_eq_true_eq] at h;exact h.2
def Qo4(n:Nat)(h:n<100):plain (two n):=by intro c hc;simp only[two,QN7,QOe,or_false] at hc;rcases hc with rfl|rfl<;>simp only[UInt8.toNat_ofNat']<;>omega
def qY{n:Nat}{t:W}{c:Bool}(hn:n<100)(ht:tx t=true):plain (Qdw n t c)/\(Qdw n t c).length<=62:=by
 have h1:=Qo4 n hn;have h2:=QEX ht;have h3:=Qwu ht;unfold Qdw;split
 .refine⟨λc hc=>?_,by simp[two]⟩;rcases QOc.1 hc with hc|hc
  .simp at hc;subst hc;decide
  exact h1 c hc
 refine⟨λc hc=>?_,by simp[two];omega⟩;rcases QOc.1 hc with hc|hc
 .exact h1 c hc
 exact h2 c hc
def QGj{T:List W}(h:∀s∈T,tx s=true)(i:Nat):tx (T.getD i [])=true:=by
 by_cases hi:i<T.length
 .simp only[List.getD_eq_getElem?_getD,QNX hi,QOG];exact h _ (QN0 hi)
 simp only[List.getD_eq_getElem?_getD,QPx (show T.length<=i by omega),Option.getD_none];decide
def Qyb{T:List W}(h:∀s∈T,tx s=true)(i:Nat)(hi:i<100):(lnT T i).length<=67:=by have:=(qY (c:=false) hi (QGj h i)).2;simp only[lnT,QOf,Yf,List.length_singleton];omega
theorem QoW{T:List W}(h:∀s∈T,tx s=true):∀i,i<=100->(wrT T i).length<=67*i
 |0,_=>by simp[wrT]
 |i+1,hi=>by have:=QoW h i (by omega);have:=Qyb h i (by omega);simp only[wrT,QOf];omega
include hK
def QGf(T:List W)(h:∀s∈T,s.length<=1000000):Gd K 14 [strs T] (.xf [.str (Ql8 T).1,.int .i64 (Ql8 T).2]):=by
 apply Qb hK c14_ok (by simp);have g38:=QF6 hK T h;unfold Ql8;by_cases h40:40<T.length
 .have he:Qtj T=2:=by simp[Qtj,h40]
  have hi:(40:Int)<(T.length:Int):=by omega
  simp[he,hi]
 .have hi:¬(40:Int)<(T.length:Int):=by omega
  by_cases xd:T.all tx=true;rotate_left
  .have hall':T.all tx=false:=by simpa using xd
   have he:Qtj T=1:=by simp[Qtj,h40,hall']
   rw[hall'] at g38;simp[he,hi];intro _;apply Qd g38 (by simp);simp
  .have he:Qtj T=0:=by simp[Qtj,h40,xd]
   have⟨_,htx⟩:=QAO he;rw[xd] at g38;simp[he,hi];intro _;apply Qd g38 (by simp);simp;intro _
   refine Zz (λi=>[(0,AV.iv (strs T)),(4,.yl 15 (Uc T i).length),(16,.iv (strs T)),(17,.iv (.int .i64 (T.length:Nat))),(18,.iv (.int .i64 (i:Nat)))])
    (λi=>[(15,AO.arr 76 3 (emb (Uc T i)) 0)]) T.length ?_ ?_
   .rw[Qa Go.Pf.c14_b0.eq_1]
    have l1:=UG T T.length;simp[l1];refine λ_=>⟨⟨by omega,by omega⟩,λ_=>?_⟩
    refine Zz (λi=>[(7,AV.iv (.str (wrA T i))),(35,.yl 15 (T.length+1)),(36,.iv (.int .i64 ((T.length:Int)+1))),(37,.iv (.int .i64 (i:Nat)))])
     (λ_=>[(15,AO.arr 76 3 (emb (Uc T T.length++[[IV.int IntKind.i64 (T.length:Nat),IV.str [],IV.bool true]])) 0)]) (T.length+1) ?_ ?_
    .rw[Qa Go.Pf.c14_b1.eq_1]
     have e:wrA T (T.length+1)=wrB T:=Qma T;rw[e];simp
    intro i hi ih;rw[Qa Go.Pf.c14_b1.eq_1];have hw:=QoW htx i (by omega);have e:wrA T i=wrT T i:=by simp[wrA];omega
    have hin:(i:Int)<(T.length:Int)+1:=by omega
    by_cases y9:i<T.length
    .have hp:=qY (c:=false) (n:=i) (t:=T[i]) (by omega) (htx _ (QN0 y9));have hti:=Qwu (htx _ (QN0 y9));have g41:=QqB hK i T[i] false (by omega) hp.1 (by omega) (by omega);have hl:=Yf (Qdw i T[i] false);have e1:wrA T (i+1)=wrT T i++(QV (Qdw i T[i] false)++[10]):=by
      have:i+1<=T.length:=y9;simp[wrA,this,wrT,lnT,y9]
     have hget:(Uc T T.length++[[IV.int IntKind.i64 (T.length:Nat),IV.str [],IV.bool true]])[i]?=some [.int .i64 (i:Nat),.str T[i],.bool false]:=by
      rw[QOs (by omega),Qd9 T _ i y9]
      simp[QtE,y9]
     rw[e1] at ih;simp at g41;simp[hin,e,hget] at ih |-;refine⟨by omega,Qd g41 (by simp) ?_⟩;simp[hl]
     repeat' (first|omega|assumption|apply And.intro)
    have hin':i=T.length:=by omega
    subst hin';have hp:=qY (c:=true) (n:=T.length) (t:=[]) (by omega) (by decide);have g41:=QqB hK T.length [] true (by omega) hp.1 (by omega) (by simp);have hl:=Yf (Qdw T.length [] true);have e1:wrA T (T.length+1)=wrT T T.length++(QV (Qdw T.length [] true)++[10]):=Qma T;have e:wrA T T.length=wrT T T.length:=e;have hget:(Uc T T.length++[[IV.int IntKind.i64 (T.length:Nat),IV.str [],IV.bool true]])[T.length]?=some [.int .i64 (T.length:Nat),.str [],.bool true]:=by
     rw[QOm (by omega),l1]
     simp
    rw[e1] at ih;simp at g41;simp[hin,e,hget] at ih |-;refine⟨by omega,Qd g41 (by simp) ?_⟩;simp[hl]
    repeat' (first|omega|assumption|apply And.intro)
   .intro i hi ih;rw[Qa Go.Pf.c14_b0.eq_1];have l1:=UG T i;simp[Uc,QtE,hi,l1] at ih;simp[hi,l1]
    repeat' (first|omega|assumption|apply And.intro)
end Go.Bk
namespace Go.Bk
open Go Go.Ev Go.Proofs Go.RowKit Go.Proofs.Tryz
variable{K:World->Prop}(hK:∀w w',K w->Below w.heap.size w w'->K w')
open Go.Pf(Gd c19_ok c36_ok c37_ok c38_ok c39_ok c7_ok)
abbrev Fd:=List (W×Int)
def fnd(ls:List W):Fd:=ls.filterMap λl=>(XF l).map λr=>(r,if QV r=l then 1 else 0)
def QuH(ls:List W)(i:Nat)(h:i<ls.length):fnd (ls.take (i+1))=fnd (ls.take i)++match XF ls[i] with|none=>[]|some r=>[(r,if QV r=ls[i] then 1 else 0)]:=by rw[QNW h];simp only[fnd,List.filterMap_append];congr 1;cases h:XF ls[i]<;>simp[h]
def Qq8(ls:List W):(fnd ls).length<=ls.length:=List.length_filterMap_le _ _
def VG{ls:List W}{x:W×Int}(h:x∈fnd ls):YE x.1=true:=by simp only[fnd,List.mem_filterMap,QN2] at h;obtain⟨l,_,r,hr,rfl⟩:=h;exact(Xy ((Jd l r).1 hr)).1
@[simp] def rwV(F:Fd):IV:=.sl 1 (F.map λx=>[.str x.1])
@[simp] def rtV(F:Fd):IV:=.sl 1 (F.map λx=>[.int .i64 x.2])
@[simp] def fdV(F:Fd):IV:=.agg [rwV F,rtV F]
def rwE(F:Fd):List (List IV):=F.map λx=>[.str x.1]
def rtE(F:Fd):List (List IV):=F.map λx=>[.int .i64 x.2]
def Qpj(F:Fd):(rwE F).length=F.length:=by simp[rwE]
def Qpp(F:Fd):(rtE F).length=F.length:=by simp[rtE]
def Qpk(F:Fd)(r:W)(n:Int):rwE (F++[(r,n)])=rwE F++[[.str r]]:=by simp[rwE]
def Qpq(F:Fd)(r:W)(n:Int):rtE (F++[(r,n)])=rtE F++[[.int .i64 n]]:=by simp[rtE]
def cl(a b:W):Bool:=
 if(numOf a).2.2&&(numOf b).2.2 then decide ((numOf a).1=(numOf b).1)&&decide ((numOf a).2.1≠(numOf b).2.1)
 else if(numOf a).2.2 then decide ((Zb b).1<=(numOf a).1)
 else if(numOf b).2.2 then decide ((Zb a).1<=(numOf b).1)
 else decide (a≠b)
def gF(F:Fd)(i:Nat):W:=(F.getD i ([],0)).1
def Uv(F:Fd):Bool:=(List.range F.length).any λi=>(List.range i).any λk=>cl (gF F i) (gF F k)
def QpU(m:Int)(x:W×Int):Int:=if(Zb x.1).2 then(if m<(Zb x.1).1 then(Zb x.1).1 else m) else m
def YB(F:Fd):Int:=F.foldl QpU (-1)
def Qmi(n:Int)(a:W×Bool×Bool)(x:W×Int):W×Bool×Bool:=if(numOf x.1).2.2&&decide ((numOf x.1).1=n) then((numOf x.1).2.1,a.2.1||decide (x.2=1),true) else a
def Xo(F:Fd)(n:Int):W×Bool×Bool:=F.foldl (Qmi n) ([],false,false)
@[simp] def QIt(a:W×Bool×Bool):IV:=.xf [.str a.1,.bool a.2.1,.bool a.2.2]
def Qd0(F:Fd)(n:Int)(i:Nat)(h:i<F.length):Xo (F.take (i+1)) n=Qmi n (Xo (F.take i) n) F[i]:=by rw[QNW h];simp only[Xo,QOZ,QOP,List.foldl_nil]
def Qak(F:Fd)(i:Nat)(h:i<F.length):YB (F.take (i+1))=QpU (YB (F.take i)) F[i]:=by rw[QNW h];simp only[YB,QOZ,QOP,List.foldl_nil]
def VV(F:Fd)(i:Nat):List W:=(List.range i).map λn:Nat=>(Xo F (n:Int)).1
def Qah(F:Fd)(i:Nat):List Int:=((List.range i).filter λn:Nat=>!(Xo F (n:Int)).2.1).map λn:Nat=>(n:Int)
def Qtn(F:Fd)(i:Nat):Bool:=(List.range i).all λn:Nat=>(Xo F (n:Int)).2.2
def QtS(F:Fd)(i:Nat):List Int:=((List.range i).filter λn:Nat=>!(Xo F (n:Int)).2.2).map λn:Nat=>(n:Int)
def Qg9(F:Fd):List W×List Int×Int:=
 if Uv F then([],[],141) else
 if YB F<0 then([],[],142) else
 if Qtn F (YB F).toNat then(VV F (YB F).toNat,Qah F (YB F).toNat,0) else([],[],142)
theorem Wv(F:Fd):∀i,i<=F.length -> -1<=YB (F.take i)/\YB (F.take i)<=40
 |0,_=>by simp[YB]
 |i+1,h=>by
  have ih:=Wv F i (by omega);rw[Qak F i h];unfold QpU;split
  .rename_i hm;have:(Zb F[i].1).1<=40/\0<=(Zb F[i].1).1:=by
    unfold Zb at hm |-;split
    .rename_i hc;rw[if_pos hc] at hm;cases hm
    rename_i hc;rw[if_neg hc] at hm;simp at hm;exact⟨hm.2,hm.1⟩
   split<;>omega
  .omega
def QiE(F:Fd)(i:Nat):VV F (i+1)=VV F i++[(Xo F (i:Int)).1]:=by simp[VV,QOv]
def Qoc(F:Fd)(i:Nat):Qah F (i+1)=Qah F i++if(Xo F (i:Int)).2.1 then [] else [(i:Int)]:=by simp only[Qah,QOv,QOT,QOd];congr 1;cases h:(Xo F (i:Int)).2.1<;>simp[h]
def QpQ(F:Fd)(i:Nat):(Qah F i).length<=i:=by simp only[Qah,QN9];have:=QOp (λn:Nat=>!(Xo F (n:Int)).2.1) (List.range i);simpa using this
def rrB(b:W):List W×List Int×Int:=match Wd b with
 |none=>([],[],140)
 |some ls=>Qg9 (fnd ls)
def Qs6(F:Fd)(i:Nat):Qtn F (i+1)=(Qtn F i&&(Xo F (i:Int)).2.2):=by simp[Qtn,QOv]
def QoN{F:Fd}{n m:Nat}(h:n<m)(h':(Xo F (n:Int)).2.2=false):Qtn F m=false:=by unfold Qtn;rw[List.all_eq_false];exact⟨n,QOr.2 h,by simp[h']⟩
def QrZ{F:Fd}(h:∀i',i'<F.length->∀k,k<i'->cl (gF F i') (gF F k)=false):Uv F=false:=by unfold Uv;rw[QPt];intro i hi;rw[QOr] at hi;rw[Bool.not_eq_true,QPt];intro k hk;rw[QOr] at hk;rw[h i hi k hk];simp
def QaB{F:Fd}{i k:Nat}(hi:i<F.length)(hk:k<i)(h:cl (gF F i) (gF F k)=true):Uv F=true:=by unfold Uv;rw[QOO];refine⟨i,QOr.2 hi,?_⟩;rw[QOO];exact⟨k,QOr.2 hk,h⟩
include hK
def QF1(a b:W)(ha:a.length<=1000000)(hb:b.length<=1000000):Gd K 37 [.str a,.str b] (.bool (cl a b)):=by
 apply Qb hK c37_ok (by simp);have ga:=QmX hK a ha;have gb:=QmX hK b hb;have ma:=QmW hK a;have mb:=QmW hK b;unfold cl;generalize numOf a=na at *;generalize numOf b=nb at *;generalize Zb a=xa at *;generalize Zb b=xb at *;have⟨n,s,is⟩:=na;have⟨m,t,so⟩:=nb;simp at ga gb |-;apply Qd ga (by simp);simp;apply Qd gb (by simp);cases is with
 |true=>
  cases so with
  |true=>simp;exact⟨λe _=>e,λe e'=>absurd e' e⟩
  |false=>simp;apply Qd mb (by simp);simp
 |false=>
  cases so with
  |true=>simp;apply Qd ma (by simp);simp
  |false=>simp
def QF0(F:Fd):Gd K 38 [fdV F] (.int .i64 (YB F)):=by
 apply Qb hK c38_ok (by simp);simp;refine Zz (λi=>[(1,AV.iv (.ptr [rwV F,rtV F])),(3,.iv (.int .i64 (YB (F.take i)))),(4,.iv (.int .i64 (i:Nat)))]) (λ_=>[]) F.length ?_ ?_
 .rw[Qa Go.Pf.c38_b0.eq_1]
  simp
 .intro i hi ih;rw[Qa Go.Pf.c38_b0.eq_1];have g70:=QmW hK F[i].1;have hr:=Wv F (i+1) (by omega);rw[Qak F i hi] at ih hr;generalize YB (F.take i)=M at *;unfold QpU at ih hr;cases hm:(Zb F[i].1).2 with
  |true=>
   rw[hm] at g70;simp[hi,hm] at ih |-;refine λ_=>Qd g70 (by simp) ?_;simp
   repeat' first|omega|assumption|intro _|apply And.intro
  |false=>
   rw[hm] at g70;simp[hi,hm] at ih |-;refine λ_=>Qd g70 (by simp) ?_;simp
   repeat' first|omega|assumption|intro _|apply And.intro
def QFZ(F:Fd)(n:Int)(hF:∀x∈F,x.1.length<=1000000):Gd K 39 [fdV F,.int .i64 n] (QIt (Xo F n)):=by
 apply Qb hK c39_ok (by simp);simp;refine Zz (λi=>[(1,AV.iv (.int .i64 n)),(2,.iv (.ptr [rwV F,rtV F])),(4,.iv (.str (Xo (F.take i) n).1)),(5,.iv (.bool (Xo (F.take i) n).2.1)),(6,.iv (.bool (Xo (F.take i) n).2.2)),(7,.iv (.int .i64 (i:Nat)))]) (λ_=>[]) F.length ?_ ?_
 .rw[Qa Go.Pf.c39_b0.eq_1]
  simp
 .intro i hi ih;rw[Qa Go.Pf.c39_b0.eq_1];have g71:=QmX hK F[i].1 (hF _ (QN0 hi));rw[Qd0 F n i hi] at ih;generalize Xo (F.take i) n=T at *;unfold Qmi at ih;generalize numOf F[i].1=q at *;have⟨m,s,is⟩:=q;have⟨T1,T2,T3⟩:=T;simp[hi] at ih g71 |-;refine λ_=>Qd g71 (by simp) ?_;cases is with
  |false=>
   simp at ih |-
   repeat' first|omega|assumption|intro _|apply And.intro
  |true=>
   by_cases hm:m=n
   .cases T2 with
    |true=>
     simp[hm] at ih |-
     repeat' first|omega|assumption|intro _|apply And.intro
    |false=>
     simp[hm,hi] at ih |-
     repeat' first|omega|assumption|intro _|apply And.intro
   .simp[hm] at ih |-
    repeat' first|omega|assumption|intro _|apply And.intro
def QF2(ls:List W)(hl:∀l∈ls,l.length<=10000)(hn:ls.length<=100000):Gd K 36 [strs ls] (fdV (fnd ls)):=by
 apply Qb hK c36_ok (by simp);simp
 refine Zz (λi=>[(0,AV.iv (strs ls)),(2,.loc 2 0),(3,.loc 3 0),(4,.iv (.int .i64 (i:Nat)))])
  (λi=>[(2,AO.box [AV.iv (IV.sl 1 []),AV.iv (IV.sl 1 [])]),(3,.box [.yl 4000 (fnd (ls.take i)).length,.yl 4001 (fnd (ls.take i)).length]),(4000,.arr 9 1 (emb (rwE (fnd (ls.take i)))) 0),(4001,.arr 3 1 (emb (rtE (fnd (ls.take i)))) 0)]) ls.length ?_ ?_
 .rw[Qa Go.Pf.c36_b0.eq_1]
  have l1:=Qpj (fnd ls);have l2:=Qpp (fnd ls);simp[l1,l2];simp[rwE,rtE]
 .intro i hi ih;rw[Qa Go.Pf.c36_b0.eq_1];have hli:=hl ls[i] (QN0 hi);have hfl:=Qq8 (ls.take i);rw[QPj,QPK (by omega)] at hfl;rw[QuH ls i hi] at ih;generalize fnd (ls.take i)=F at *;have l1:=Qpj F;have l2:=Qpp F;have g23:=QFP hK ls[i] hli;cases hR:XF ls[i] with
  |none=>
   rw[hR] at ih g23;simp[hi] at ih g23 |-;refine λ_=>Qd g23 (by simp) ?_;simp
   repeat' first|omega|assumption|intro _|apply And.intro
  |some r=>
   have hrow:=(Xy ((Jd _ _).1 hR)).1;have⟨p1,p2,p3⟩:=Jc hrow;have g29:=QwU hK r p1 (by omega);rw[hR] at ih g23;by_cases he:QV r=ls[i]
   .simp[hi,he,Qpk,Qpq] at ih;simp[hi] at g23 |-;refine λ_=>Qd g23 (by simp) ?_;simp;apply Qd g29 (by simp);simp[hi,he,l1,l2]
    repeat' first|omega|assumption|intro _|apply And.intro
   .simp[hi,he,Qpk,Qpq] at ih;simp[hi] at g23 |-;refine λ_=>Qd g23 (by simp) ?_;simp;apply Qd g29 (by simp);simp[hi,he,l1,l2]
    repeat' first|omega|assumption|intro _|apply And.intro
def QGc(ls:List W)(hl:∀l∈ls,l.length<=10000)(hn:ls.length<=100000):Gd K 19 [strs ls] (readV (Qg9 (fnd ls))):=by
 apply Qb hK c19_ok (by simp);have g54:=QF2 hK ls hl hn;have hfl:=Qq8 ls;have hrow:∀x∈fnd ls,x.1.length<=1000:=λx hx=>by have:=Jc (VG hx);omega
 generalize fnd ls=F at *;generalize hR:Qg9 F=R;simp at g54 |-;apply Qd g54 (by simp);simp;refine Qe (λi=>[(2,AV.yl 2 0),(3,.yl 3 0),(5,.loc 5 0),(6,.iv (.int .i64 (i:Nat)))]) (λ_=>[(2,AO.arr 9 1 [] 0),(3,.arr 3 1 [] 0),(5,.box [.iv (rwV F),.iv (rtV F)])]) F.length (λi=>∀i',i'<i->∀k,k<i'->cl (gF F i') (gF F k)=false) (by simp) ?_ ?_
 .intro hq;have hc:=QrZ hq;rw[Qa Go.Pf.c19_b1.eq_1];have hmr:=Wv F F.length (QN3 _);rw[QN5] at hmr;have g55:=QF0 hK F;unfold Qg9 at hR;rw[hc] at hR;have g56:∀n,_:=λn=>QFZ hK F n (λx hx=>by have:=hrow x hx;omega);generalize hM:YB F=M at *;simp at g55 |-;refine λ_=>Qd g55 (by simp) ?_;by_cases h0:M<0
  .simp[h0] at hR;subst hR;simp[h0]
  obtain⟨m,rfl⟩:∃m:Nat,M=m:=⟨M.toNat,by omega⟩;simp[h0] at hR |-
  refine Qe (λn=>[(2,AV.yl 2 (VV F n).length),(3,.yl 3 (Qah F n).length),(5,.loc 5 0),(8,.iv (.int .i64 (m:Nat))),(9,.iv (.int .i64 (n:Nat)))])
   (λn=>[(2,AO.arr 9 1 (emb (txE (VV F n))) 0),(3,.arr 3 1 (emb (inE (Qah F n))) 0),(5,.box [.iv (rwV F),.iv (rtV F)])]) m (λn=>Qtn F n=true) (by simp[Qtn]) ?_ ?_
  .intro ha;rw[Qa Go.Pf.c19_b2.eq_1];rw[if_pos ha] at hR;subst hR;have l1:(txE (VV F m)).length=(VV F m).length:=by simp[txE]
   have l2:(inE (Qah F m)).length=(Qah F m).length:=by simp[inE]
   simp[l1,l2];simp[txE,inE]
  intro n hn ha ih;rw[Qa Go.Pf.c19_b2.eq_1];have hnm:(n:Int)<(m:Int):=by omega
  have g:=g56 (n:Int);have hal:=Qs6 F n;have hsm:=QoN (F:=F) (n:=n) (m:=m) hn;rw[QiE,Qoc,hal,ha] at ih;have hml:=QpQ F n;have htl:(VV F n).length=n:=by simp[VV]
  generalize Xo F (n:Int)=T at *;have⟨t,ri,is⟩:=T;generalize VV F n=X at *;generalize Qah F n=Y at *;have l1:(txE X).length=X.length:=by simp[txE]
  have l2:(inE Y).length=Y.length:=by simp[inE]
  have l3:txE (X++[t])=txE X++[[.str t]]:=by simp[txE]
  have l4:inE (Y++[(n:Int)])=inE Y++[[.int .i64 (n:Nat)]]:=by simp[inE]
  simp[hnm] at g |-;apply Qd g (by simp);cases is with
  |false=>rw[hsm rfl] at hR;simp at hR;subst hR;simp
  |true=>
   cases ri with
   |true=>
    simp[l3] at ih;simp[l1]
    repeat' first|omega|assumption|intro _|apply And.intro
   |false=>
    simp[l3,l4] at ih;simp[l1,l2]
    repeat' first|omega|assumption|intro _|apply And.intro
 .intro i hi hq ih;rw[Qa Go.Pf.c19_b1.eq_1];have hin:(i:Int)<(F.length:Int):=by omega
  simp[hin];intro _;refine Qe (λk=>[(2,AV.yl 2 0),(3,.yl 3 0),(5,.loc 5 0),(6,.iv (.int .i64 (i:Nat))),(7,.iv (.int .i64 (k:Nat)))]) (λ_=>[(2,AO.arr 9 1 [] 0),(3,.arr 3 1 [] 0),(5,.box [.iv (rwV F),.iv (rtV F)])]) i (λk=>∀k',k'<k->cl (gF F i) (gF F k')=false) (by simp) ?_ ?_
  .intro hq';rw[Qa Go.Pf.c19_b0.eq_1]
   have:=ih (λi' hi' k hk=>by
    rcases QO4.1 hi' with h|h
    .exact hq i' h k hk
    subst h;exact hq' k hk)
   simp at this |-;exact⟨by omega,this⟩
  .intro k hk hq' ih';rw[Qa Go.Pf.c19_b0.eq_1];have hkn:(k:Int)<(i:Int):=by omega
   have hkl:k<F.length:=by omega
   have e1:gF F i=F[i].1:=by simp[gF,hi]
   have e2:gF F k=F[k].1:=by simp[gF,hkl]
   have g69:=QF1 hK F[i].1 F[k].1 (by have:=hrow _ (QN0 hi);omega) (by have:=hrow _ (QN0 hkl);omega);simp[hkn,hi,hkl];apply Qd g69 (by simp);cases hc:cl F[i].1 F[k].1 with
   |true=>
    have hcf:Uv F=true:=QaB hi hk (by rw[e1,e2];exact hc);have:R=([],[],141):=by rw[<- hR];unfold Qg9;rw[hcf];rfl
    subst this;simp
   |false=>
    have:=ih' (λk' hk'=>by
     rcases QO4.1 hk' with h|h
     .exact hq' k' h
     subst h;rw[e1,e2];exact hc)
    simp at this |-;exact⟨by omega,this⟩
def good7(b:W)(hb:b.length<=100000)(hl:∀ls,Wd b=some ls->ls.length<=100000/\∀l∈ls,l.length<=10000):
  Gd K 7 [.str b] (readV (match Wd b with|none=>([],[],140)|some ls=>Qg9 (fnd ls))):=by
 apply Qb hK c7_ok (by simp);have g24:=QGd hK b (by omega);cases hc:Wd b with
 |none=>rw[hc] at g24;simp at g24 |-;apply Qd g24 (by simp);simp
 |some ls=>rw[hc] at g24;have g53:=QGc hK ls (hl ls hc).2 (hl ls hc).1;simp at g24 g53 |-;apply Qd g24 (by simp);simp;apply Qd g53 (by simp);simp
end Go.Bk
namespace Go.Bk
open Go Go.Ev Go.Proofs Go.RowKit Go.Proofs.Tryz
def Xh{r:W}(h:YE r=true):(∃k t,numOf r=(k,t,true)/\(Zb r).2=false/\(Qu r).1=(k,t,false))\/(∃e,Zb r=(e,true)/\(numOf r).2.2=false/\(Qu r).1=(e,[],true)):=by
 have hp:=h;rw[<- W8] at hp;by_cases h2:r.length<2
 .rw[Vs h2] at hp;cases hp
 .by_cases hd:r.take 2=[46,46]
  .have hdg:dg (r.take 2) = -1:=by rw[hd];decide
   have hn:(numOf r).2.2=false:=by
    unfold numOf;split
    .rfl
    simp only[hdg];decide
   by_cases h4:r.length=4
   .rw[Vt hd h4] at hp |-
    simp only at hp;refine .inr ⟨dg (r.drop 2),?_,hn,rfl⟩;unfold Zb;rw[if_neg (by simp[h4,hd]),hp]
   rw[JB h2 hd h4] at hp;cases hp
  .rw[UM h2 hd] at hp |-
   simp only[QNZ,decide_eq_true_eq] at hp;refine .inl ⟨dg (r.take 2),r.drop 2,?_,by simp[Zb,hd],rfl⟩;unfold numOf;rw[if_neg (by simp[h2,hp.2])];simp[hp.1.1,hp.1.2]
def QpG{r q:W}(hr:YE r=true)(hq:YE q=true)(h:(Qu r).1=(Qu q).1):r=q:=by have h1:=(J8 hr).2.2;have h2:=(J8 hq).2.2;rw[h] at h1;rw[<- h1,h2]
def Qai{ls:List W}{x:W×Int}:x∈fnd ls↔∃l∈ls,XF l=some x.1/\x.2=if QV x.1=l then 1 else 0:=by
 simp only[fnd,List.mem_filterMap,QN2];constructor
 .rintro⟨l,hl,r,hr,rfl⟩;exact⟨l,hl,hr,rfl⟩
 .rintro⟨l,hl,hr,hx⟩;exact⟨l,hl,x.1,hr,by rw[<- hx]⟩
def Qc2(ls:List W)(k:Int)(t:W):(∃l∈ls,rd l=some (k,t,false))↔∃x∈fnd ls,numOf x.1=(k,t,true):=by
 constructor
 .rintro⟨l,hl,h⟩;simp only[rd,QN2] at h;have⟨r,hr,hp⟩:=h;refine⟨(r,if QV r=l then 1 else 0),Qai.2 ⟨l,hl,hr,rfl⟩,?_⟩;rcases Xh (Xy ((Jd _ _).1 hr)).1 with ⟨k',t',h1,_,h2⟩|⟨e,_,_,h2⟩
  .rw[h2] at hp;injection hp with a b;injection b with b _;subst a b;exact h1
  rw[h2] at hp;injection hp with _ b;injection b with _ b;cases b
 rintro⟨x,hx,h⟩;have⟨l,hl,hr,_⟩:=Qai.1 hx;refine⟨l,hl,?_⟩;simp only[rd,hr,QPf];rcases Xh (Xy ((Jd _ _).1 hr)).1 with ⟨k',t',h1,_,h2⟩|⟨e,_,h1,_⟩
 .rw[h] at h1;injection h1 with a b;injection b with b _;subst a b;rw[h2]
 rw[h] at h1;cases h1
def JG(ls:List W)(e:Int):(∃l∈ls,∃t,rd l=some (e,t,true))↔∃x∈fnd ls,Zb x.1=(e,true):=by
 constructor
 .rintro⟨l,hl,t,h⟩;simp only[rd,QN2] at h;have⟨r,hr,hp⟩:=h;refine⟨(r,if QV r=l then 1 else 0),Qai.2 ⟨l,hl,hr,rfl⟩,?_⟩;rcases Xh (Xy ((Jd _ _).1 hr)).1 with ⟨k',t',h1,_,h2⟩|⟨e',h1,_,h2⟩
  .rw[h2] at hp;injection hp with _ b;injection b with _ b;cases b
  rw[h2] at hp;injection hp with a _;subst a;exact h1
 .rintro⟨x,hx,h⟩;have⟨l,hl,hr,_⟩:=Qai.1 hx;refine⟨l,hl,[],?_⟩;simp only[rd,hr,QPf];rcases Xh (Xy ((Jd _ _).1 hr)).1 with ⟨k',t',_,h1,_⟩|⟨e',h1,_,h2⟩
  .rw[h] at h1;cases h1
  .rw[h] at h1;injection h1 with a _;subst a;rw[h2]
theorem Qd1(F:Fd)(n:Int):∀i,i<=F.length->((Xo (F.take i) n).2.2=true↔∃x∈F.take i,∃t,numOf x.1=(n,t,true)) /\
  ((Xo (F.take i) n).2.2=true->∃x∈F.take i,numOf x.1=(n,(Xo (F.take i) n).1,true))/\((Xo (F.take i) n).2.1=true↔∃x∈F.take i,∃t,numOf x.1=(n,t,true)/\x.2=1)
 |0,_=>by simp[Xo]
 |i+1,h=>by
  have hi:i<F.length:=h;obtain⟨h1,h2,h3⟩:=Qd1 F n i (by omega);rw[Qd0 F n i hi,QNW hi];generalize Xo (F.take i) n=T at *;generalize F.take i=L at *;generalize F[i]=y at *;unfold Qmi;rcases hN:numOf y.1 with ⟨k,t,is⟩
  by_cases hc:is=true/\k=n
  .obtain⟨rfl,rfl⟩:=hc;simp only[decide_true,Bool.and_self,if_true,QOc,QOu,QO8,decide_eq_true_eq];refine⟨⟨λ_=>⟨y,.inr rfl,t,hN⟩,λ_=>trivial⟩,λ_=>⟨y,.inr rfl,hN⟩,?_⟩;rw[h3];constructor
   .rintro (⟨x,hx,t',ht⟩|h)
    .exact⟨x,.inl hx,t',ht⟩
    exact⟨y,.inr rfl,t,hN,h⟩
   rintro⟨x,hx|rfl,t',ht⟩
   .exact .inl ⟨x,hx,t',ht⟩
   exact .inr ht.2
  have hb:(is&&decide (k=n))=false:=by
   cases is with
   |false=>rfl
   |true=>simp at hc |-;exact hc
  have hno:∀t',numOf y.1≠(n,t',true):=by intro t' e;rw[hN] at e;injection e with e1 e2;injection e2 with _ e3;exact hc ⟨e3,e1⟩
  simp only[hb,QOo,if_false,QOc,QOu];refine⟨?_,?_,?_⟩
  .rw[h1]
   constructor
   .rintro⟨x,hx,t',ht⟩;exact⟨x,.inl hx,t',ht⟩
   rintro⟨x,hx|rfl,t',ht⟩
   .exact⟨x,hx,t',ht⟩
   exact absurd ht (hno _)
  .intro h;have⟨x,hx,ht⟩:=h2 h;exact⟨x,.inl hx,ht⟩
  rw[h3];constructor
  .rintro⟨x,hx,t',ht⟩;exact⟨x,.inl hx,t',ht⟩
  rintro⟨x,hx|rfl,t',ht⟩
  .exact⟨x,hx,t',ht⟩
  exact absurd ht.1 (hno _)
def Qb3(F:Fd)(n:Int):((Xo F n).2.2=true↔∃x∈F,∃t,numOf x.1=(n,t,true)) /\((Xo F n).2.2=true->∃x∈F,numOf x.1=(n,(Xo F n).1,true))/\((Xo F n).2.1=true↔∃x∈F,∃t,numOf x.1=(n,t,true)/\x.2=1):=by
 have:=Qd1 F n F.length (QN3 _)
 rwa [QN5] at this
theorem Qem(F:Fd):∀i,i<=F.length->(YB (F.take i) = -1\/∃x∈F.take i,Zb x.1=(YB (F.take i),true))/\∀x∈F.take i,∀e,Zb x.1=(e,true)->e<=YB (F.take i)
 |0,_=>by simp[YB]
 |i+1,h=>by
  have hi:i<F.length:=h;obtain⟨h1,h2⟩:=Qem F i (by omega);rw[Qak F i hi,QNW hi];generalize YB (F.take i)=M at *;generalize F.take i=L at *;generalize F[i]=y at *;unfold QpU;rcases hN:Zb y.1 with ⟨k,is⟩
  cases is with
  |true=>
   simp only[if_true];refine⟨?_,?_⟩
   .by_cases hk:M<k
    .rw[if_pos hk];exact .inr ⟨y,by simp,hN⟩
    rw[if_neg hk];rcases h1 with h1|⟨x,hx,h1⟩
    .exact .inl h1
    exact .inr ⟨x,by simp[hx],h1⟩
   intro x hx e he;rcases QOc.1 hx with hx|hx
   .have:=h2 x hx e he;split<;>omega
   simp at hx;subst hx;rw[hN] at he;injection he with he _;split<;>omega
  |false=>
   simp only[QOo,if_false];refine⟨?_,?_⟩
   .rcases h1 with h1|⟨x,hx,h1⟩
    .exact .inl h1
    exact .inr ⟨x,by simp[hx],h1⟩
   intro x hx e he;rcases QOc.1 hx with hx|hx
   .exact h2 x hx e he
   simp at hx;subst hx;rw[hN] at he;injection he with _ he;cases he
def QpT(F:Fd):(YB F = -1\/∃x∈F,Zb x.1=(YB F,true))/\∀x∈F,∀e,Zb x.1=(e,true)->e<=YB F:=by
 have:=Qem F F.length (QN3 _)
 rwa [QN5] at this
def QA2(a b:W):cl a b=cl b a:=by unfold cl;have⟨n,s,is⟩:=numOf a;have⟨m,t,so⟩:=numOf b;cases is<;>cases so<;>simp only[Bool.and_self,Bool.false_and,Bool.and_false,Bool.true_and,Bool.and_true,if_true,if_false,QOo]<;>congr 1<;>simp[eq_comm]
def QA1(a:W):cl a a=false:=by unfold cl;have⟨n,s,is⟩:=numOf a;cases is<;>simp
def QoF(F:Fd):Uv F=true↔∃x∈F,∃y∈F,cl x.1 y.1=true:=by
 constructor
 .intro h;simp only[Uv,QOO,QOr] at h;obtain⟨i,hi,k,hk,h⟩:=h;have hk':k<F.length:=by omega
  simp only[gF,List.getD_eq_getElem?_getD,QNX hi,QNX hk',QOG] at h;exact⟨_,QN0 hi,_,QN0 hk',h⟩
 .rintro⟨x,hx,y,hy,h⟩;obtain⟨i,hi,rfl⟩:=List.mem_iff_getElem.1 hx;obtain⟨k,hk,rfl⟩:=List.mem_iff_getElem.1 hy;have e1:gF F i=F[i].1:=by simp[gF,hi]
  have e2:gF F k=F[k].1:=by simp[gF,hk]
  rcases Nat.lt_trichotomy i k with y9|heq|y9
  .exact QaB hk y9 (by rw[e1,e2,QA2];exact h)
  .subst heq;rw[QA1] at h;cases h
  .exact QaB hi y9 (by rw[e1,e2];exact h)
def Qo5{α:Type}{l:List α}(h:1<l.length)(hn:l.Nodup):∃a∈l,∃b∈l,a≠b:=by
 match l,h,hn with
 |a::b::r,_,hn=>exact⟨a,by simp,b,by simp,λe=>by subst e;simp at hn⟩
def Qp3{α:Type}{l:List α}{a b:α}(ha:a∈l)(hb:b∈l)(h:a≠b):1<l.length:=by
 match l,ha,hb with
 |[c],ha,hb=>simp at ha hb;exact absurd (ha.trans hb.symm) h
 |a::b::r,_,_=>simp
def QvF(ls:List W):Uv (fnd ls)=XB (VX ls ls.length):=by
 have h:=QwK ls;generalize VX ls ls.length=p at *
 have key:Uv (fnd ls)=true↔XB p=true:=by
  rw[QoF];constructor
  .rintro⟨x,hx,y,hy,hc⟩;have hrx:=VG hx;have hry:=VG hy;have rowIn:∀(k:Int)(t:W),(∃x∈fnd ls,numOf x.1=(k,t,true))->∃ts,(k,ts)∈p.rows/\t∈ts:=by
    intro k t hz;have:=(h.rows k t).2 ((Qc2 ls k t).2 hz);cases hf:Q5 k p.rows with
    |none=>rw[hf] at this;cases this
    |some ts=>rw[hf] at this;exact⟨ts,QcC hf,this⟩
   have endIn:∀e:Int,(∃x∈fnd ls,Zb x.1=(e,true))->e∈p.ends:=λe hz=>(h.ends e).2 ((JG ls e).2 hz);have mixed:∀(k:Int)(t:W)(e:Int),(∃x∈fnd ls,numOf x.1=(k,t,true))->(∃x∈fnd ls,Zb x.1=(e,true))->e<=k->XB p=true:=by
    intro k t e hk he hle;have⟨ts,hm,_⟩:=rowIn k t hk;have he':=endIn e he;unfold XB;by_cases h1:1<p.ends.length
    .simp[h1]
    have:p.rows.any (YG p.ends)=true:=by
     rw[QOO];refine⟨_,hm,?_⟩
     match hends:p.ends with
     |[]=>rw[hends] at he';cases he'
     |[e0]=>rw[hends] at he';simp at he';subst he';simp[YG,hle]
     |_::_::_=>rw[hends] at h1;simp at h1
    simp[this]
   rcases Xh hrx with ⟨k,t,a1,_,_⟩|⟨e,a1,a2,a3⟩
   .rcases Xh hry with ⟨m,u,b1,_,_⟩|⟨e',b1,b2,_⟩
    .unfold cl at hc;simp only[a1,b1,Bool.and_self,if_true,QNZ,decide_eq_true_eq] at hc;obtain⟨rfl,hne⟩:=hc;have⟨ts,hm,ht⟩:=rowIn k t ⟨x,hx,a1⟩;have⟨ts',hm',ht'⟩:=rowIn k u ⟨y,hy,b1⟩;have e1:=Uz h.keysN hm;have e2:=Uz h.keysN hm';simp only at e1 e2;rw[e1] at e2;injection e2 with e2;subst e2;have:p.rows.any (YG p.ends)=true:=by
      rw[QOO];refine⟨_,hm,?_⟩;have:=Qp3 ht ht' hne;simp[YG,this]
     simp[XB,this]
    unfold cl at hc;simp only[a1,b1,b2,Bool.and_false,QOo,if_false,if_true,decide_eq_true_eq] at hc;exact mixed k t e' ⟨x,hx,a1⟩ ⟨y,hy,b1⟩ hc
   rcases Xh hry with ⟨m,u,b1,_,_⟩|⟨e',b1,b2,b3⟩
   .unfold cl at hc;simp only[a1,a2,b1,Bool.false_and,QOo,if_false,if_true,decide_eq_true_eq] at hc;exact mixed m u e ⟨y,hy,b1⟩ ⟨x,hx,a1⟩ hc
   unfold cl at hc;simp only[a2,b2,Bool.false_and,QOo,if_false,decide_eq_true_eq] at hc;have hne:e≠e':=by rintro rfl;exact hc (QpG hrx hry (by rw[a3,b3]))
   have:=Qp3 (endIn e ⟨x,hx,a1⟩) (endIn e' ⟨y,hy,b1⟩) hne;simp[XB,this]
  intro hc;simp only[XB,QO8,decide_eq_true_eq] at hc;have numIn:∀(k:Int)(t:W)(ts:List W),(k,ts)∈p.rows->t∈ts->∃x∈fnd ls,numOf x.1=(k,t,true):=by intro k t ts hm ht;have e1:=Uz h.keysN hm;simp only at e1;exact(Qc2 ls k t).1 ((h.rows k t).1 (by rw[e1];exact ht))
  rcases hc with hc|hc
  .obtain⟨a,ha,b,hb,hab⟩:=Qo5 hc h.endsN;have⟨x,hx,hxa⟩:=(JG ls a).1 ((h.ends a).1 ha);have⟨y,hy,hyb⟩:=(JG ls b).1 ((h.ends b).1 hb);refine⟨x,hx,y,hy,?_⟩;rcases Xh (VG hx) with ⟨_,_,_,c,_⟩|⟨e,a1,a2,_⟩
   .rw[hxa] at c;cases c
   rcases Xh (VG hy) with ⟨_,_,_,c,_⟩|⟨e',b1,b2,_⟩
   .rw[hyb] at c;cases c
   unfold cl;simp only[a2,b2,Bool.false_and,QOo,if_false,decide_eq_true_eq];intro e0;rw[e0,hyb] at hxa;injection hxa with hxa _;exact hab hxa.symm
  rw[QOO] at hc;have⟨⟨k,ts⟩,hm,hbad⟩:=hc;simp only[YG,QO8,decide_eq_true_eq] at hbad;rcases hbad with hb|hb
  .have hnd:=h.rowsN k;have e1:=Uz h.keysN hm;simp only at e1;rw[e1] at hnd;have⟨t,ht,u,hu,hne⟩:=Qo5 hb hnd;have⟨x,hx,hxa⟩:=numIn k t ts hm ht;have⟨y,hy,hyb⟩:=numIn k u ts hm hu;refine⟨x,hx,y,hy,?_⟩;simp[cl,hxa,hyb,hne]
  have hne:=h.full _ hm;obtain⟨t,ht⟩:∃t,t∈ts:=by
   cases hq2:ts with
   |nil=>exact absurd hq2 hne
   |cons a r=>exact⟨a,by simp⟩
  have⟨x,hx,hxa⟩:=numIn k t ts hm ht;cases hends:p.ends with
  |nil=>rw[hends] at hb;cases hb
  |cons e es=>
   rw[hends] at hb;simp only[decide_eq_true_eq] at hb;obtain⟨y,hy,hyb⟩:=(JG ls e).1 ((h.ends e).1 (by rw[hends];simp));refine⟨x,hx,y,hy,?_⟩;rcases Xh (VG hy) with ⟨_,_,_,c,_⟩|⟨e',b1,b2,_⟩
   .rw[hyb] at c;cases c
   simp[cl,hxa,b2,hyb,hb]
 cases h1:Uv (fnd ls) with
 |true=>exact(key.1 h1).symm
 |false=>
  cases h2:XB p with
  |false=>rfl
  |true=>rw[key.2 h2] at h1;cases h1
def QwO(ls:List W){p:Pg}(h:Qgs p ls)(i:Int):(Xo (fnd ls) i).2.2=true↔(Q5 i p.rows).getD []≠[]:=by
 rw[(Qb3 (fnd ls) i).1];constructor
 .rintro⟨x,hx,t,ht⟩ e;have:=(h.rows i t).2 ((Qc2 ls i t).2 ⟨x,hx,ht⟩);rw[e] at this;cases this
 intro hne;obtain⟨t,ht⟩:∃t,t∈(Q5 i p.rows).getD []:=by
  cases hq2:(Q5 i p.rows).getD [] with
  |nil=>exact absurd hq2 hne
  |cons a r=>exact⟨a,by simp⟩
 have⟨x,hx,hxa⟩:=(Qc2 ls i t).1 ((h.rows i t).1 ht);exact⟨x,hx,t,hxa⟩
def Qx7(ls:List W){p:Pg}(h:Qgs p ls)(m:Nat):QtS (fnd ls) m=Ji p (m:Nat):=by
 unfold QtS Ji;rw[QPg];congr 1;apply QPC;intro i _;have:=QwO ls h (i:Int);cases hx:(Xo (fnd ls) (i:Int)).2.2 with
 |true=>
  have:=this.1 hx;cases hq2:(Q5 (i:Int) p.rows).getD [] with
  |nil=>exact absurd hq2 this
  |cons a r=>simp
 |false=>
  have:(Q5 (i:Int) p.rows).getD []=[]:=by
   rcases Classical.em ((Q5 (i:Int) p.rows).getD []=[]) with e|e
   .exact e
   rw[this.2 e] at hx;cases hx
  simp[this]
def Qx6(ls:List W){p:Pg}(h:Qgs p ls)(m:Nat):Qah (fnd ls) m=Qag p m:=by
 unfold Qah Qag;congr 1;apply QPC;intro i _;have h1:=(Qb3 (fnd ls) (i:Int)).2.2;have h2:=h.exact (i:Int);have key:(Xo (fnd ls) (i:Int)).2.1=true↔¬(Q5 (i:Int) p.exact).getD 0=0:=by
  rw[h1,h2];constructor
  .rintro⟨x,hx,t,ht,hr⟩ xd;have⟨l,hl,ho,hx2⟩:=Qai.1 hx;have hrd:rd l=some ((i:Int),t,false):=by
    simp only[rd,ho,QPf];rcases Xh (VG hx) with ⟨k',t',a1,_,a2⟩|⟨e,_,a1,_⟩
    .rw[ht] at a1;injection a1 with a b;injection b with b _;subst a b;rw[a2]
    rw[ht] at a1;cases a1
   have:=xd l hl t hrd;simp only[ex,ho,decide_eq_false_iff_not] at this;rw[if_neg this] at hx2;omega
  intro hno;rcases Classical.em (∃x∈fnd ls,∃t,numOf x.1=((i:Int),t,true)/\x.2=1) with e|e
  .exact e
  exfalso;apply hno;intro l hl t hrd;simp only[rd,QN2] at hrd;have⟨r,ho,hp⟩:=hrd;simp only[ex,ho,decide_eq_false_iff_not];intro xc;apply e;have hmem:(r,(1:Int))∈fnd ls:=Qai.2 ⟨l,hl,ho,by simp[xc]⟩;refine⟨_,hmem,t,?_,rfl⟩;rcases Xh (VG hmem) with ⟨k',t',a1,_,a2⟩|⟨e,_,_,a2⟩
  .simp only at a1 a2;rw[a2] at hp;injection hp with a b;injection b with b _;subst a b;exact a1
  simp only at a2;rw[a2] at hp;injection hp with _ b;injection b with _ b;cases b
 cases hx:(Xo (fnd ls) (i:Int)).2.1 with
 |true=>have:=key.1 hx;simp[this]
 |false=>
  have:(Q5 (i:Int) p.exact).getD 0=0:=by
   rcases Classical.em ((Q5 (i:Int) p.exact).getD 0=0) with e|e
   .exact e
   rw[key.2 e] at hx;cases hx
  simp[this]
def QpS(ls:List W){p:Pg}(h:Qgs p ls):(p.ends=[]->YB (fnd ls) = -1)/\(p.ends≠[]->YB (fnd ls)∈p.ends/\∀e∈p.ends,e<=YB (fnd ls)):=by
 have⟨h1,h2⟩:=QpT (fnd ls);constructor
 .intro he;rcases h1 with h1|h1
  .exact h1
  have:=(h.ends _).2 ((JG ls _).2 h1);rw[he] at this;cases this
 .intro he;have hle:∀e∈p.ends,e<=YB (fnd ls):=by
   intro e hm;have⟨x,hx,hxa⟩:=(JG ls e).1 ((h.ends e).1 hm);exact h2 x hx e hxa
  refine⟨?_,hle⟩;rcases h1 with h1|h1
  .obtain⟨e,hm⟩:∃e,e∈p.ends:=by
    cases hq2:p.ends with
    |nil=>exact absurd hq2 he
    |cons a r=>exact⟨a,by simp⟩
   have⟨x,hx,hxa⟩:=(JG ls e).1 ((h.ends e).1 hm);have hr:=VG hx;have h3:=hle e hm;rcases Xh hr with ⟨_,_,_,c,_⟩|⟨e',a1,_,a2⟩
   .rw[hxa] at c;cases c
   have:=(J8 hr).1;rw[a2] at this;rw[hxa] at a1;injection a1 with a1 _;simp only at this;omega
  .exact(h.ends _).2 ((JG ls _).2 h1)
def Qs7(F:Fd)(m:Nat):Qtn F m=decide (QtS F m=[]):=by
 rw[QPR,decide_eq_true_eq];unfold Qtn QtS;rw[QOt,List.map_eq_nil_iff,List.filter_eq_nil_iff];constructor
 .intro h a ha;rw[h a ha];simp
 .intro h a ha;have:=h a ha;simpa using this
def QxZ(ls:List W):Qg9 (fnd ls)=QtJ (VX ls ls.length):=by
 have hc:=QvF ls;have h:=QwK ls;unfold Qg9 QtJ;rw[hc];generalize VX ls ls.length=p at *;cases hcl:XB p with
 |true=>rfl
 |false=>
  simp only[QOo,if_false];have⟨m1,m2⟩:=QpS ls h;cases hends:p.ends with
  |nil=>rw[m1 hends,if_pos (by omega)]
  |cons e es=>
   have hes:es=[]:=by
    cases es with
    |nil=>rfl
    |cons a r=>rw[XB,hends] at hcl;simp at hcl
   subst hes;have hm:=(m2 (by rw[hends];simp)).1;rw[hends] at hm;simp at hm;obtain⟨l,hl,t,hrd⟩:=(h.ends e).1 (by rw[hends];simp);have he0:0<=e:=by simp only[rd,QN2] at hrd;have⟨r,hr,hp⟩:=hrd;have:=(J8 (Xy ((Jd _ _).1 hr)).1).1;rw[hp] at this;exact this
   obtain⟨m,rfl⟩:∃m:Nat,e=m:=⟨e.toNat,by omega⟩;rw[hm,if_neg (by omega),QPg,Qs7,Qx7 ls h,Qx6 ls h]
   by_cases h0:Ji p (m:Nat)=[]
   .simp only[h0,decide_true,if_true];have:¬0<([]:List Int).length:=by simp
    rw[if_neg this];refine Prod.ext ?_ rfl;simp only;unfold VV VU;apply QO6;intro i hi;rw[QOr] at hi;have hne:=Qhl (by rw[h0];rfl) i hi;have his:=(QwO ls h (i:Int)).2 hne;have⟨x,hx,hxa⟩:=(Qb3 (fnd ls) (i:Int)).2.1 his;have hin:=(h.rows _ _).2 ((Qc2 ls _ _).2 ⟨x,hx,hxa⟩);have hone:((Q5 (i:Int) p.rows).getD []).length<=1:=by
     cases hf:Q5 (i:Int) p.rows with
     |none=>simp
     |some ts=>have hmem:=QcC hf;simp only[XB,Bool.or_eq_false_iff,QPt] at hcl;have:=hcl.2 _ hmem;simp[YG] at this;simp;omega
    generalize(Q5 (i:Int) p.rows).getD []=ts at *
    match ts,hone with
    |[],_=>cases hin
    |[a],_=>simp at hin;simp[hin]
   have h0':0<(Ji p (m:Nat)).length:=QO7.2 h0;simp[h0]
def rrB_eq(b:W):rrB b=readB b:=by
 unfold rrB readB;cases Wd b with
 |none=>rfl
 |some ls=>exact QxZ ls
def jn:List W->W
 |[]=>[]
 |l::r=>l++(10::jn r)
def QFD(a b:List W):jn (a++b)=jn a++jn b:=by
 induction a with
 |nil=>rfl
 |cons x a ih=>simp[jn,ih]
def QFC(a:List W):(jn a).length=total a:=by
 induction a with
 |nil=>rfl
 |cons x a ih=>simp only[jn,QOf,QOi,ih,total,QOk,List.sum_cons];omega
def QFx(s:W):jn (lns s).1++(lns s).2=s/\(10:UInt8)∉(lns s).2/\∀l∈(lns s).1,(10:UInt8)∉l:=by
 have:∀(n:Nat)(s:W),s.length=n->jn (lns s).1++(lns s).2=s/\(10:UInt8)∉(lns s).2/\∀l∈(lns s).1,(10:UInt8)∉l:=by
  intro n;induction n with
  |zero=>intro s h;have:s=[]:=QN4 h;subst this;simp[lns,jn]
  |succ n ih=>
   intro s h;have hs:s=s.take n++[s[n]]:=by have:=QNW (l:=s) (i:=n) (by omega);rw[<- this,QN1 (by omega)]
   obtain⟨h1,h2,h3⟩:=ih (s.take n) (by simp;omega);generalize s[n]=c at hs;generalize s.take n=t at *;subst hs;rw[qf];unfold YC;split
   .rename_i hc;subst hc;refine⟨?_,by simp,λl hl=>?_⟩
    .simp only
     rw[QFD]
     conv=>rhs;rw[<- h1]
     simp[jn]
    rcases QOc.1 hl with hl|hl
    .exact h3 l hl
    simp at hl;subst hl;exact h2
   rename_i hc;refine⟨?_,?_,h3⟩
   .simp only
    conv=>rhs;rw[<- h1]
    simp
   simp only[QOc,QOu,not_or];exact⟨h2,Ne.symm hc⟩
 exact this _ s rfl
def QvD{b:W}{ls:List W}(h:Wd b=some ls):b=jn ls/\ls≠[]/\∀l∈ls,(10:UInt8)∉l:=by
 have⟨h1,h2,h3⟩:=QFx b;unfold Wd at h;split at h
 .rename_i hl;injection h with h;subst h;have hnil:(lns b).2=[]:=by
   cases hx:(lns b).2 with
   |nil=>rfl
   |cons a r=>
    rw[hx] at h1 h2;rw[<- h1,List.getLast?_append] at hl;have:(a::r).getLast?=some 10:=by
     cases hz:(a::r).getLast? with
     |none=>simp at hz
     |some z=>rw[hz] at hl;simpa using hl
    exact absurd (List.mem_of_getLast? this) h2
  rw[hnil,QOl] at h1;refine⟨h1.symm,?_,h3⟩;intro e;rw[e] at h1;rw[<- h1] at hl;simp[jn] at hl
 cases h
def Qo6{ls:List W}{l:W}(h:l∈ls):l.length+1<=total ls:=by
 induction ls with
 |nil=>cases h
 |cons x ls ih=>
  simp only[total,QOk,List.sum_cons] at *;rcases QN7.1 h with rfl|h
  .omega
  have:=ih h;omega
def Qo7(ls:List W):ls.length<=total ls:=by
 induction ls with
 |nil=>simp[total]
 |cons x ls ih=>simp only[total,QOk,List.sum_cons,QOi] at *;omega
def cut_bound(b:W)(hb:b.length<=9000):∀ls,Wd b=some ls->ls.length<=100000/\∀l∈ls,l.length<=10000:=by intro ls h;have⟨h1,_,_⟩:=QvD h;have h2:=QFC ls;rw[<- h1] at h2;have h3:=Qo7 ls;refine⟨by omega,λl hl=>?_⟩;have:=Qo6 hl;omega
def bkR(T:List W)(i:Nat):W:=if i<T.length then Qdw i (T.getD i []) false else Qdw T.length [] true
structure QNP(T:List W):Prop where
 len:T.length<=40
 tx:∀s∈T,tx s=true
def exA:W:=[48,48,97,98,54,54,50,50,10,48,49,99,48,51,53,55,10,46,46,48,50,54,50,54,53,10]
def exB:W:=[48,48,97,66,54,54,50,50,10,48,49,99,48,51,53,54,10,46,46,48,50,54,50,54,53,10]
def exC:W:=[48,48,65,66,54,54,50,50,10,48,49,99,48,51,53,55,10,46,46,48,50,54,50,54,53,10]
def exD:W:=exA++[48,49,100,48,52,54,48,10]
def QuM:Ql8 [[97,98],[99]]=(exA,0):=by decide +kernel
def QuO:readB exB=([[97,98],[99]],[0,1],0):=by decide +kernel
def QuN:readB exD=([],[],141):=by decide +kernel
def QAM:∃ls,Wd exC=some ls/\(VX ls ls.length).bad=[0]:=by refine⟨(lns exC).1,by decide +kernel,by decide +kernel⟩
open Go.Pf (Gd c6_ok)
section
variable{K:World->Prop}(hK:∀w w',K w->Below w.heap.size w w'->K w')
include hK
variable(hS:∀s:W,s.length<=1000000->Gd K 139 [.str s,.str [10]] (strs (spl s)))
include hS
def good6:Gd K 6 [] (.bool true):=by have g14:=QGf hK [[97,98],[99]] (by simp);have gB:=good15 hK hS exB (by decide) (cut_bound _ (by decide));have gC:=QGe hK hS exC (by decide) (cut_bound _ (by decide));have gD:=good15 hK hS exD (by decide) (cut_bound _ (by decide));have g16:=Qq4 hK [[97,98],[99]] [[97,98],[99]];have g22a:=Qw3 hK [0,1] [0,1];have g22b:=Qw3 hK [0] [0];have⟨ls,hc,hb⟩:=QAM;rw[hc] at gC;simp only[hb,QuM,QuO,QuN] at g14 gB gC gD;apply Qb hK c6_ok (by simp);simp at g14 gB gC gD g16 g22a g22b |-;simp only[exA,exB,exC,exD,QOa,QOg] at g14 gB gC gD;apply Qd g14 (by simp);simp;apply Qd gB (by simp);simp;apply Qd gC (by simp);simp;apply Qd gD (by simp);simp;apply Qd g16 (by simp);simp;apply Qd g22a (by simp);simp;apply Qd g22b (by simp);simp
end
end Go.Bk
namespace Go.Pf
open Go Go.Ev Go.Proofs Go.RowKit Go.Proofs.Tryz
set_option maxHeartbeats 1000000
noncomputable def Qi1(h:Qg)(R:List Txt×List Int×Int):List Txt×Qg×Int:=if R.2.2=0 then(Qtg h R.1,Qiu h R.1,QwE h R.1) else([],h0,R.2.2)
def QGh(h:Qg)(b:Txt)(hf:¬QoT h (Bk.readB b).1)(g15:Gd KW 15 [.str b] (Bk.readV (Bk.readB b))):Gd KW 10 [hoV h,.str b] (.xf [strs (Qi1 h (Bk.readB b)).1,hoV (Qi1 h (Bk.readB b)).2.1,.int .i64 (Qi1 h (Bk.readB b)).2.2]):=by
 apply Qb hKW QHl (by simp);have⟨hs,h45,hw,hfew⟩:=Qfu hf;have g25:=QGa h (Bk.readB b).1 hs (by omega) (λ_ _=>hw) (λho _ i hi _ _ _ _=>hfew ho i (by omega));unfold Qi1;generalize Bk.readB b=R at *;have⟨l,m,e⟩:=R;simp[Bk.readV] at g15 g25 |-;apply cK (by simpa using g15);by_cases he:e=0
 .simp[he];apply cK (by simpa using g25);simp
 simp[he,h0]
def QGg(h:Qg)(b:Txt)(hf:¬QoT h (Bk.readB b).1)(g7:Gd KW 7 [.str b] (Bk.readV (Bk.readB b))):Gd KW 11 [hoV h,.str b] (.xf [strs (Qi1 h (Bk.readB b)).1,hoV (Qi1 h (Bk.readB b)).2.1,.int .i64 (Qi1 h (Bk.readB b)).2.2]):=by
 apply Qb hKW QHk (by simp);have⟨hs,h45,hw,hfew⟩:=Qfu hf;have g26:=QF9 h (Bk.readB b).1 hs (by omega) (λ_ _=>hw) (λho _=>hfew ho);unfold Qi1;generalize Bk.readB b=R at *;have⟨l,m,e⟩:=R;simp[Bk.readV] at g7 g26 |-;apply cK (by simpa using g7);by_cases he:e=0
 .simp[he];apply cK (by simpa using g26);simp
 simp[he,h0]
def QIL(h:Qg)(b:Txt)(hb:b.length<=1000000000000000):Gd KW 3 [hoV h,.str b] (.bool true):=by
 apply Qb hKW QJn (by simp);have g4:=Bk.good4 hKW [b] (by simp[hb]);have g6:=Bk.good6 hKW hSB;simp at g4 |-;apply cK (by simpa using g4);cases hL:Bk.large [b] with
 |true=>simp;exact cK (by simpa using g6) (by simp)
 |false=>
  have hs5:b.length<=5000:=by simp[Bk.large,Bk.total] at hL;omega
  have g5:=Bk.good5 hKW b (by omega);simp;apply cK (by simpa using g5);cases hC:Bk.crowded b with
  |true=>simp;exact cK (by simpa using g6) (by simp)
  |false=>
   have hcb:=Bk.cut_bound b (by omega);have g7:Gd KW 7 [.str b] (Bk.readV (Bk.rrB b)):=Bk.good7 hKW b (by omega) hcb;rw[Bk.rrB_eq] at g7;have g15:=Bk.good15 hKW hSB b (by omega) hcb;have g8:=QIK h (Bk.readB b).1;by_cases hf:QoT h (Bk.readB b).1
   .generalize Bk.readB b=R at *
    have⟨l,m,e⟩:=R;simp[Bk.readV] at g7 g8 |-;apply cK (by simpa using g7);simp;apply cK (by simpa using g8);simp[hf];exact cK (by simpa using g6) (by simp)
   have hs:=(Qfu hf).1;have g10:=QGh h b hf g15;have g11:=QGg h b hf g7;have g9:=QyA hKW h hs;have g13h:=Qw4 hKW h h;have hl:(Qi1 h (Bk.readB b)).1.length<=1000000:=by
    have h1:=QtC h (Bk.readB b).1;have h2:=(Qfu hf).2.1;unfold Qi1;split
    .simp only
     omega
    simp
   have g12:=Qq4 hKW (Qi1 h (Bk.readB b)).1 (Qi1 h (Bk.readB b)).1 hl hl;have g13:=Qw4 hKW (Qi1 h (Bk.readB b)).2.1 (Qi1 h (Bk.readB b)).2.1;generalize Qi1 h (Bk.readB b)=V at *;generalize Bk.readB b=R at *;have⟨l,m,e⟩:=R;have⟨A,X,E⟩:=V;simp[Bk.readV] at g7 g8 g10 g11 g12 g13 g13h |-;apply cK (by simpa using g7);simp;apply cK (by simpa using g8);simp[hf];apply cK (by simpa using g9);simp;apply cK (by simpa using g10);simp;apply cK (by simpa using g11);simp;apply cK (by simpa using g12);simp;apply cK (by simpa using g13);simp;apply cK (by simpa using g13h);simp;exact cK (by simpa using g6) (by simp)
end Go.Pf
namespace Go.Pf
open Go Go.Ev Go.Proofs Go.RowKit Go.ChangeShapes Go.WideShapes Go.Proofs.YtpiohpigfaahcaaGreatDoor Go.Proofs.Tryz
def QhV{P:Program}(h:P.funcs.any Func.goes=false)(f:FuncId):P.goes f=false:=by
 unfold Program.goes;rw[h,Bool.and_false,Bool.or_false,QPt];intro g _;cases hg:P.funcs[g]? with
 |none=>simp
 |some fn=>have:=Array.any_eq_false'.1 h fn (Array.mem_of_getElem? hg);simpa using this
def Qj2{P:Program}(h:P.funcs.any Func.goes=false)(c:OpenClaim):false=c.goesBy P:=by
 have h1:∀o:Option FuncId,o.any P.goes=false:=λo=>by cases o<;>simp[QhV h]
 have h2:P.inits.toList.any P.goes=false:=by rw[QPt];intro f _;simp[QhV h]
 unfold OpenClaim.goesBy Program.goesAt Program.goesFrom;rw[h1,h2];cases c.start<;>rfl
def QIT:prog.funcs.any Func.goes=false:=by kernel_rfl
end Go.Pf
