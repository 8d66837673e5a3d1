/- The events of a loss: the walk. -/
import Derived.Test.YtenlhiebmnojhaaGreatDoorCabFive
import Derived.Test.YtenlhiebmnojhaaGreatDoorCabFour
import Derived.Shelf.SlicesE.Compact
import Derived.Test.YtenlhiebmnojhaaGreatDoorCabThree
import Derived.KernelRfl
set_option linter.all false
namespace Go.Pf
open Go Go.Ev Go.Proofs Go.RowKit Go.Proofs.Tryz
variable {K:World->Prop} (hK:∀ w w',K w->Below w.heap.size w w'->K w')
set_option maxRecDepth 8000
theorem QAM {l:List Int} (hne:l≠[]) {m:Int} (h:∀ x∈l,0<=x/\x<=m):0<=loD l/\loD l<=m:=by
 have h1:=QeD hne;have h2:0<(ZC l).length:=QJQ.2 h1;have h3:loD l=(ZC l)[0]:=by simp[loD,h2]
 rw[h3];exact h _ ((YW _ l).1 (QJo h2))
theorem Qu2 {c:Sea} (hc:QP c) {n:Int} (h0:c.yh<=n) (h1:n<=c.yi):QP (qo c n):=by
 have h2:=YC hc.z7;refine ⟨hc.thick,hc.str,hc.zh,hc.nw,?_,hc.waters,hc.nv,hc.voys,hc.ng,hc.gauges⟩;simp at h2;show XA (n,n)=false
 simp[XA,inR];omega
theorem Qo7 {c:Sea} (hc:QP c) (ht:tW c true=0) (k:Nat):0<=loD ((wTr c).map fun w=>Y7 c (Z6 c w k))/\loD ((wTr c).map fun w=>Y7 c (Z6 c w k))<=24975:=by
 obtain ⟨_,_,hne⟩:=QvM ht;refine QAM (by simpa using hne) fun x hx=>?_
 obtain ⟨w,hw,rfl⟩:=QJz.1 hx;exact Qcs hc (VF hc (Qf2 hw) k)
theorem Qmm (l:Zz):∀ (k:Nat) (c:Sea) (w:Nat),w+k=c.waters.length->QP c->∀ x∈Vz l k c w,0<=x/\x<=24975
 | 0,c,w,_,hc,x,hx=>by
   simp only[Vz,QJL] at hx;obtain ⟨n,hn,hx⟩:=hx;have h1:=WE hn;unfold Qe2 at hx;split at hx
   ·rename_i h2
    have:=Qo7 (Qu2 hc h1.1 h1.2) h2.1 (qo c n).voys.length;simp at hx;subst hx;exact this
   simp at hx
 | k+1,c,w,hw,hc,x,hx=>by
   have hw':w<c.waters.length:=by omega
   have hge:c.waters.getD w (0,0)=c.waters[w]:=by simp[hw']
   simp only[Vz,QJL] at hx;obtain ⟨n,hn,hx⟩:=hx;rw[hge] at hn;have h1:=WE hn;exact Qmm l k _ _ (by simp[Qij];omega) (Qlx hc hw' h1.1 h1.2) x hx
theorem QrL {l:Zz} (hc:QP l.sea) {x:Int} (hx:x∈UC l):0<=x/\x<=24975:=Qmm l _ _ _ (by omega) hc x hx
theorem QAI {c:Sea} (hc:QP c):QP (QlA c):=⟨hc.thick,hc.str,hc.zh,hc.nw,hc.z7,hc.waters,hc.nv,hc.voys,by simp[QlA],by simp[QlA]⟩
theorem QpJ {l:Zz} (hc:QP l.sea):0<=Zx l/\Zx l<=24975:=by
 unfold Zx;split
 ·exact Qo7 (QAI hc) (by assumption) 0
 omega
theorem Qk5 {a f:Int} (ha:0<=a/\a<=100000) (hf:0<=f/\f<=100):0<=JM a f/\JM a f<=100000:=by
 have h1:=QKi (a:=a) (b:=100-f) (by omega) (by omega)
 have h2:=QKo (a:=a) (b:=100-f) (c:=100000) (d:=100) (by omega) (by omega) (by omega) (by omega)
 have h3:(a*(100-f)).tdiv 100=a*(100-f) / 100:=QJS h1;unfold JM;omega
theorem Qs6 (l:List (Int × Nat)) (i:Nat):(J3 l)[i]?=(l[i]?).map fun p=>(.int .i64 p.1,.int .i64 (p.2:Nat)):=by simp[J3]
theorem Qv5 {n:Nat} {seen:List Nat} (h1:seen.Nodup) (h2:∀ i∈seen,i<n):seen.length<=n:=by
 have h:seen.Perm ((List.range n).filter fun i=>seen.contains i):=by
  rw[List.perm_iff_count];intro a;have hf:((List.range n).filter fun i=>seen.contains i).Nodup:=List.nodup_range.filter _
  rw[h1.count,hf.count];simp
  grind
 have h3:=QJI (fun i=>seen.contains i) (List.range n)
 rw[h.length_eq];simpa using h3
theorem Qb2 (e:Evt):(QiE e).length<=1:=by unfold QiE;split<;>simp
theorem Qvn (l:Zz) (fr h f:Int):(evF l fr h f).length<=3:=by
 unfold evF;rw[QJr,QJr];exact Nat.add_le_add (Nat.add_le_add (Qb2 _) (Qb2 _)) (Qb2 _)
theorem Qa9 {f:Int->List Evt} {m:Nat}:∀ l:List Int,(∀ x∈l,(f x).length<=m)->(l.flatMap f).length<=l.length*m
 | [],_=>by simp
 | a::r,h=>by
   have h1:=Qa9 r fun x hx=>h x (by simp[hx])
   have h2:=h a (by simp)
   rw[QJ8,QJr,QJy,QJY];omega
theorem Qvm {l:Zz} (hl:OkL l) (fr h:Int):(evH l fr h).length<=303:=by
 have h1:=Qa9 (f:=evF l fr h) (m:=3) (UN l.flo l.fhi) fun x _=>Qvn l fr h x
 have h2:=hl.flaw;simp only[Y1,inR] at h2;rw[Um] at h1;unfold evH;omega
theorem Qvl {l:Zz} (hl:OkL l):∀ seen:List Nat,(evS l seen).length<=seen.length*303
 | []=>by simp[evS]
 | i::r=>by
   have h1:=Qvl hl r;have h2:=Qvm hl (Zx l) ((XV l).getD i 0);rw[Qmb,QJr,QJy,QJY];omega
theorem Qws {l:Zz} (hc:QP l.sea) (i:Nat):0<=(XV l).getD i 0/\(XV l).getD i 0<=24975:=by
 by_cases h:i<(XV l).length
 ·have h1:(XV l).getD i 0∈XV l:=by simp[h]
  exact QrL hc ((Qfp _ _).1 h1)
 simp[h]
theorem QoQ {l:Zz} (hc:QP l.sea):(XV l).length<=100000:=by
 have h1:=W7 (UC l);have h2:=Qle hc;simp[XV];omega
theorem QC2 (es es2:List Evt) {args0:List AV} (o:Ql) (ha:args0.all (clA [0,1])=true) (h0:Qc o 3=some (.box [.yl 4000 es.length])) (h1:Qc o 4000=some (.arr 321 7 (emb (es.map evC)) 0)) :
  HOk [3,4000] args0 o (evO es) (evO es2):=by
 refine ⟨by decide,ha,fun q hq=>?_,fun i hi h=>?_,fun q hq=>⟨(Qmc es2 q hq).1,(Qmc es2 q hq).2.1⟩⟩
 ·have h3:=Qmc es q hq
  refine ⟨h3.1,?_,h3.2.2,h3.2.1⟩;simp only[evO,QJw,QJD,or_false] at hq;rcases hq with rfl | rfl
  ·exact h0
  rw[X4];exact h1
 simp at hi;have:i=0\/i=1:=by omega
 rcases this with rfl | rfl<;>simp[Qc] at h
include hK
theorem QsM (l:Zz):∃ fh ft:Int,Gd K 237 [Qn4 (QlA l.sea),.int .i64 0] (.xd [.agg [.int .i64 (Zx l),.int .i64 fh],.int .i64 ft]):=by
 have h:=Qpt hK (QlA l.sea) 0 (by omega)
 unfold Zx;split at h
 ·rename_i h1
  exact ⟨_,_,by simpa[h1] using h⟩
 rename_i h1;exact ⟨_,_,by simpa[h1] using h⟩
theorem Qys (l:Zz) (hl:OkL l):Gd K 144 [lsV l] (.bag 7 ((Xy l).map evC)):=by
 refine Qi3 hK (fk func144 QDm (by kernel_rfl)) (by simp) ?_
 generalize hG:Qvu QDm.res 7 ((Xy l).map evC)=G;obtain ⟨fh,ft,hg1⟩:=QsM hK l;have hg2:=QxL hK l hl.sea;have hfr:=QpJ hl.sea;simp;refine cK (by simpa[QlA] using hg1) ?_
 simp;refine cK (by simpa using hg2) ?_
 simp;have hnk:(ZE (UC l)).length=(XV l).length:=by simp[XV]
 have hkl:=QoQ hl.sea
 have key:∀ seen:List Nat,(seen.Nodup/\∀ i∈seen,i<(XV l).length)->Xo prog K (FnF G) QkL [1,3,4,6,26] [3,6,26,4000]
   [AI.inBlock 0,AI.code ((AC.ops [⟨some 123,none,.ldo 3 1 false (.t 3)⟩,⟨some 2,none,.xf (.t 123)⟩] false).seq AC.ret)]
   [(1,.iv (.ptr (lsC l))),(3,.loc 3 0),(4,.clo 235 [] [.loc 3 0]),(6,.loc 6 0),(26,.yk 26)]
   [(3,.box [.yl 4000 (evS l seen).length]),(6,.box [.iv (.int .i64 (Zx l)),.iv (.int .i64 fh)]),(26,.yq (J3 (ZE (UC l))) seen),(4000,.arr 321 7 (emb ((evS l seen).map evC)) 0)]:=by
  refine QgT (fun _=>[(1,.iv (.ptr (lsC l))),(3,.loc 3 0),(4,.clo 235 [] [.loc 3 0]),(6,.loc 6 0),(26,.yk 26)]) (fun seen=>[(3,.box [.yl 4000 (evS l seen).length]),(6,.box [.iv (.int .i64 (Zx l)),.iv (.int .i64 fh)]),(26,.yq (J3 (ZE (UC l))) seen),(4000,.arr 321 7 (emb ((evS l seen).map evC)) 0)]) (XV l).length _ ?_
  intro seen hI ih;rw[Qa QkL.eq_1];have hsl:=Qv5 hI.1 hI.2;have hel:=Qvl hl seen;have hlen:(J3 (ZE (UC l))).length=(XV l).length:=by simp[J3,XV]
  simp[hlen,Qs6];refine ⟨fun xc=>?_,fun i a b n m hq ha hb hns=>?_⟩
  ·rw[<- hG]
   refine ⟨(evS l seen).map evC,(Qs3 l hI.1 hI.2 xc).map evC,?_⟩;simp[QDm]
  subst ha hb;have hil:=(QJj.1 hq).1;have hk:n=(XV l).getD i 0:=by simp[XV,hq]
  have hbd:=Qws hl.sea i;rw[<- hk] at hbd
  have hih:=ih i (by omega) hns ⟨QKN.2 ⟨hns,hI.1⟩,fun j hj=>by
   rcases QJw.1 hj with rfl | hj
   ·omega
   exact hI.2 j hj⟩
  rw[Qmb,<- hk] at hih;clear ih;have hfl:=hl.flaw;simp only[Y1,inR] at hfl;have hpl:=hl.zq;simp only[Y1,inR] at hpl;have hrl:=hl.rated;simp only[Y1,inR] at hrl;have hrlen:=Um l.flo l.fhi;simp[hq]
  (repeat' first | omega | (with_reducible apply And.intro) | intro _)
  refine Zm (fun j=>[(1,.iv (.ptr (lsC l))),(3,.loc 3 0),(4,.clo 235 [] [.loc 3 0]),(6,.loc 6 0),(8,.iv (.int .i64 n)),(9,.iv (.int .i64 (l.flo+(j:Nat)))),(26,.yk 26)])
   (fun j=>[(3,.box [.yl 4000 (evS l seen++((UN l.flo l.fhi).take j).flatMap (evF l (Zx l) n)).length]),(6,.box [.iv (.int .i64 (Zx l)),.iv (.int .i64 fh)]),(26,.yq (J3 (ZE (UC l))) (i::seen)),(4000,.arr 321 7 (emb ((evS l seen++((UN l.flo l.fhi).take j).flatMap (evF l (Zx l) n)).map evC)) 0)])
   (UN l.flo l.fhi).length (fun _=>True) trivial ?_ ?_ (by simp) (by simp)
  ·intro _
   rw[Qa QkM.eq_1];have h1:¬ l.flo+((UN l.flo l.fhi).length:Int)<=l.fhi:=by omega
   simp[h1];simpa[evH] using hih
  intro j hj _ ih2;rw[Qa QkM.eq_1];have h1:l.flo+(j:Int)<=l.fhi:=by omega
  have e3:l.flo+((j+1:Nat):Int)=l.flo+j+1:=by omega
  rw[Qbv _ _ _ hj,QeI,e3,<- QJK] at ih2
  have hel2:(evS l seen++((UN l.flo l.fhi).take j).flatMap (evF l (Zx l) n)).length<=50000000:=by
   have:=Qa9 (f:=evF l (Zx l) n) (m:=3) ((UN l.flo l.fhi).take j) fun x _=>Qvn l (Zx l) n x
   rw[QJr];rw[QKT] at this;omega
  generalize evS l seen++((UN l.flo l.fhi).take j).flatMap (evF l (Zx l) n)=E at *;have hf1:0<=l.flo+(j:Int)/\l.flo+(j:Int)<=100:=by omega
  generalize hf:l.flo+(j:Int)=f at *;have g1:=Qps hK n f (by omega) hf1
  have g2:=Qps hK (Zx l) f (by omega) hf1
  have b1:=Qk5 (a:=n) (f:=f) (by omega) hf1
  have b2:=Qk5 (a:=Zx l) (f:=f) (by omega) hf1
  clear hih hq;unfold evF at ih2;generalize JM n f=held at *;generalize JM (Zx l) f=was at *;simp[h1];refine cK (by simpa using g1) ?_
  simp;refine cK (by simpa using g2) ?_
  simp;refine ⟨by omega,cK (by simpa using Vm hK (l.plo,l.phi) (held+1,99999)) ?_⟩
  have hp1 : -1<=(ZH (l.plo,l.phi) (held+1,99999)).2/\(ZH (l.plo,l.phi) (held+1,99999)).2<=99999:=by simp only[ZH];omega
  generalize ZH (l.plo,l.phi) (held+1,99999)=p1 at *;simp;refine ⟨by omega,cK (by simpa using Vm hK p1 (l.rlo+1,99999)) ?_⟩
  simp;refine ⟨by omega,cK (by simpa using Vm hK (l.rlo,l.rhi) (0,p1.2-1)) ?_⟩
  have gh1:Gh K 235 _ _ _ _ (evO (E++QiE ⟨1,f,held,ZH p1 (l.rlo+1,99999),ZH (l.rlo,l.rhi) (0,p1.2-1)⟩)):=Qa5 hK E ⟨1,f,held,ZH p1 (l.rlo+1,99999),ZH (l.rlo,l.rhi) (0,p1.2-1)⟩ (by omega)
  have hE1:=Qb2 ⟨1,f,held,ZH p1 (l.rlo+1,99999),ZH (l.rlo,l.rhi) (0,p1.2-1)⟩;rw[<- QJK,<- QJK] at ih2
  have hE1:(E++QiE ⟨1,f,held,ZH p1 (l.rlo+1,99999),ZH (l.rlo,l.rhi) (0,p1.2-1)⟩).length<=50000001:=by
   rw[QJr];omega
  generalize E++QiE _=E1 at *;simp;refine ⟨by kernel_rfl,QC gh1 (by simp[nth,rn]) (QC2 _ _ _ (by simp[clA]) (by simp[Qc]) (by simp[Qc])) ?_⟩
  simp[nth,rn];refine cK (by simpa using Vm hK p1 (0,l.rhi)) ?_
  generalize ZH p1 (0,l.rhi)=p2 at *;simp;refine cK (by simpa using Vm hK p2 (0,was)) ?_
  simp;refine ⟨by omega,cK (by simpa using Vm hK p2 (was+1,99999)) ?_⟩
  generalize ZH p2 (0,was)=q1 at *;generalize ZH p2 (was+1,99999)=q2 at *;simp;rw[Qa QcP.eq_1];simp;refine cK (by simpa using Vm hK (l.rlo,l.rhi) (q1.1,99999)) ?_
  generalize ZH (l.rlo,l.rhi) (q1.1,99999)=r2 at *;have gh2:Gh K 235 _ _ _ _ (evO (E1++QiE ⟨2,f,held,q1,r2⟩)):=Qa5 hK E1 ⟨2,f,held,q1,r2⟩ (by omega)
  have hE2:=Qb2 ⟨2,f,held,q1,r2⟩
  have hE2:(E1++QiE ⟨2,f,held,q1,r2⟩).length<=50000002:=by
   rw[QJr];omega
  generalize E1++QiE _=E2 at *;simp;refine ⟨by kernel_rfl,QC gh2 (by simp[nth,rn]) (QC2 _ _ _ (by simp[clA]) (by simp[Qc]) (by simp[Qc])) ?_⟩
  simp[nth,rn];rw[Qa QcP.eq_1];by_cases hpf:l.part<f
  ·rw[if_pos hpf] at ih2
   simp[hpf];refine cK (by simpa using Vm hK (l.rlo,l.rhi) (q2.1,99999)) ?_
   generalize ZH (l.rlo,l.rhi) (q2.1,99999)=r3 at *;have gh3:Gh K 235 _ _ _ _ (evO (E2++QiE ⟨3,f,held,q2,r3⟩)):=Qa5 hK E2 ⟨3,f,held,q2,r3⟩ (by omega)
   generalize E2++QiE _=E3 at *;simp;refine ⟨by kernel_rfl,QC gh3 (by simp[nth,rn]) (QC2 _ _ _ (by simp[clA]) (by simp[Qc]) (by simp[Qc])) ?_⟩
   simp[nth,rn];rw[Qa QcP.eq_1];simp;exact ⟨by omega,ih2 trivial⟩
  rw[if_neg hpf] at ih2;simp[hpf];refine cK (by simpa using Vm hK (l.rlo,l.rhi) (q2.1,99999)) ?_
  generalize ZH (l.rlo,l.rhi) (q2.1,99999)=r3 at *;have gh3:Gh K 235 _ _ _ _ (evO (E2++QiE ⟨4,f,held,q2,r3⟩)):=Qa5 hK E2 ⟨4,f,held,q2,r3⟩ (by omega)
  generalize E2++QiE _=E3 at *;simp;refine ⟨by kernel_rfl,QC gh3 (by simp[nth,rn]) (QC2 _ _ _ (by simp[clA]) (by simp[Qc]) (by simp[Qc])) ?_⟩
  simp[nth,rn];rw[Qa QcP.eq_1];simp;exact ⟨by omega,ih2 trivial⟩
 simpa[evS,emb] using key [] (by simp)
end Go.Pf
namespace Go.Ev
open Go Go.RowKit Go.Sort
section
variable {P:Program} {K:World->Prop}
theorem Q3.grow {Fr:Nat->Prop} {w w1:World} {os:Array Obj} (h:Q3 Fr w w1) (xa:∀ b,Fr b->b<w.heap.size):Q3 Fr w (grow w1 os) :=
 ⟨h.os,h.tape,h.output,by rw[size_grow];exact QJ7 h.size (by omega),fun k hk=>by
  have h1:=xa k hk;have h2:=h.size;show (w1.heap++os)[k]?=_
  rw[QKy,if_pos (by omega)]
  exact h.block k hk⟩
theorem QwF {w:World} {g:Nat} {o:Obj} (os:Array Obj) (h:w.heap[g]?=some o):(grow w os).heap[g]?=some o:=by
 have h1:=(QJt.1 h).1;show (w.heap++os)[g]?=_
 rw[QKy,if_pos h1];exact h
theorem QmS {f:FuncId}
  (he:∀ (a:Option Addr) (cap:Nat) (w:World),Calls P f #[.slice a 0 cap] w fun e w'=>e=.returned (.tuple #[])/\w'=w)
  (zs zt:List Int) (hzt:zt.length=zs.length) (hzl:zs.length<=1000000000) (hr:∀ (blk off cap:Nat) (w:World),Holds (Value.int .i64) w blk off zs.toArray->blk<w.heap.size->zs.length<=1000000000 ->
    Calls P f #[.slice (some ⟨blk,off,none⟩) zs.length cap] w fun e w'=>e=.returned (.tuple #[])/\∃ n os,w'=grow (putRow (Value.int .i64) (Sort.ahead w n) blk off zt.toArray) os)
  (mv:Nat):YA P K f [.yl 0 zs.length] [(0,Zk zs mv)] [0] (.iv (.xd [])) [(0,Zk zt zs.length)]:=by
 intro w ok L vs hK hnew hown hlaid hvl hvs
 obtain ⟨v0,rfl⟩:∃ v0,vs=[v0]:=by
  match vs,hvl with
  | [v],_=>exact ⟨v,rfl⟩
 have hob:=hlaid.y9 0 (Zk zs mv) rfl;obtain ⟨v,xs,hL,hrow⟩:=QdC hob;have hv:v0=v:=Qei (id:=0) (zs:=zs) (mv:=mv) rfl hL rfl (hvs 0 _ v0 rfl rfl);subst hv
 have fin:∀ (w':World) (xs':List Value),Q3 (FrO w (Qc [(0,Zk zs mv)]) L) w w'->YF (FrO w (Qc [(0,Zk zs mv)]) L) w' 3 1 v0 zs.length xs'->xs'=zt.map (.int .i64) ->
   ∃ v1 L',(Ending.returned (.tuple #[]):Ending)=.returned v1/\QkZ (FrO w (Qc [(0,Zk zs mv)]) L) ok w' (Qc [(0,Zk zt zs.length)]) L'/\Qv (okL ok (Qc [(0,Zk zt zs.length)]) L') w' (Qc [(0,Zk zt zs.length)]) L' (.iv (.xd [])) v1/\Q3 (FrO w (Qc [(0,Zk zs mv)]) L) w w' /\
    ∀ i∈[0],∀ o,Qc [(0,Zk zs mv)] i=some o->∃ o',Qc [(0,Zk zt zs.length)] i=some o'/\Jg o o' (L i) (L' i):=by
  intro w' xs' hk ho hx;refine ⟨.tuple #[],fun _=>.arr v0 xs',rfl,⟨fun id o hid=>?_,fun i j oi oj b hij hi hj=>?_⟩,.iv _ _ (.xd [] [] rfl (by simp)),hk,fun i hi o h=>?_⟩
  ·simp only[Qc] at hid
   split at hid
   ·injection hid with hid
    subst hid;refine ⟨by simpa[hzt] using ho,by simp;omega,by simp,fun u hu=>?_,fun i j c x u hi hj hu=>?_⟩
    ·rw[hx] at hu
     obtain ⟨z,_,rfl⟩:=QJz.1 hu;rfl
    rw[QJq,QJm] at hi;obtain ⟨z,hz,rfl⟩:=hi;cases j with
    | zero =>
      simp at hj;subst hj;rw[hx,QKG,QKx,QJq,hz] at hu;simp at hu;subst hu;exact .iv _ _ (.int _ _)
    | succ j=>simp at hj
   cases hid
  ·simp only[Qc] at hi hj
   grind
  simp at hi;subst hi;simp only[Qc,if_true] at h;injection h with h
  subst h;refine ⟨Zk zt zs.length,by simp[Qc],?_⟩
  rw[hL];simp[Jg,hzt]
 rcases hrow with ⟨rfl,rfl⟩ | ⟨g,cap,cur,hr1,hfr⟩
 ·refine (he none 0 w).mono fun e w' ⟨h1,h2⟩=>?_
  subst h1 h2;obtain rfl:zt=[]:=QJu (by simpa using hzt)
  exact fin w' [] (Q3.refl _ _) ⟨⟨by simp,.inl ⟨rfl,rfl⟩⟩,by simp[Value.ownBlock]⟩ (by simp)
 ·have hv:=hr1.v
  subst hv;have hgs:g<w.heap.size:=(QJt.1 hr1.at_).1;refine (hr g 0 cap w hr1.holds hgs hzl).mono fun e w' ⟨h1,n,os,h2⟩=>?_
  subst h1
  have hk:Q3 (FrO w (Qc [(0,Zk zs mv)]) L) w w':=by
   have h3:Q3 (FrO w (Qc [(0,Zk zs mv)]) L) (Sort.ahead w n) w':=by rw[h2];exact (XP (f:=putCells (Value.int .i64) 0 zt.toArray) hfr).grow fun b hb=>hb.1
   exact ⟨h3.os,h3.tape,h3.output,h3.size,h3.block⟩
  have hh:w'.heap[g]?=some (.cells (putCells (Value.int .i64) 0 zt.toArray cur) 3 (0,0)):=by
   rw[h2];exact QwF os (Qca (w:=Sort.ahead w n) hr1.at_)
  refine fin w' _ hk ⟨⟨?_,.inr ⟨g,cap,_,rfl,QKv _,hh,hr1.le,hr1.max,?_,rfl⟩⟩,fun b hb=>?_⟩ ?_
  ·simp[putCells,hr1.size,hr1.le]
  ·simp[putCells,hr1.size]
  ·simp[Value.ownBlock] at hb
   grind
  ·refine QKP fun i=>?_
   rw[QJ1];by_cases hi:i<zs.length
   ·have h1:=hr1.size
    have h2:=hr1.le;have h3:i<cur.size:=by omega
    rw[QKG,if_pos hi];simp only[putCells,QKZ,Array.getElem?_mapIdx,QJJ h3,QKg,QJq]
    grind
   grind
theorem Qfo {f:FuncId} (zs:List Int)
  (hd:∀ (blk off cap:Nat) (w:World),Holds (Value.int .i64) w blk off zs.toArray->zs.length<=9223372036854775807->zs.length<=cap ->
    Calls P f #[.slice (some ⟨blk,off,none⟩) zs.length cap] w fun e w'=>e=.returned (.slice (some ⟨blk,off,none⟩) (Lib.compact zs).length cap)/\∃ q,w'=putRow (Value.int .i64) (Sort.ahead w q) blk off (Lib.compact zs++List.replicate (zs.length-(Lib.compact zs).length) 0).toArray)
  (mv:Nat) (hne:zs≠[]):YA P K f [.yl 0 zs.length] [(0,Zk zs mv)] [] (.iv (QnL (Lib.compact zs))) []:=by
 intro w ok L vs hK hnew hown hlaid hvl hvs
 obtain ⟨v0,rfl⟩:∃ v0,vs=[v0]:=by
  match vs,hvl with
  | [v],_=>exact ⟨v,rfl⟩
 have hob:=hlaid.y9 0 (Zk zs mv) rfl;obtain ⟨v,xs,hL,hrow⟩:=QdC hob;have hv:v0=v:=Qei (id:=0) (zs:=zs) (mv:=mv) rfl hL rfl (hvs 0 _ v0 rfl rfl);subst hv;rcases hrow with ⟨rfl,rfl⟩ | ⟨g,cap,cur,hr1,hfr⟩
 ·simp at hne
 have hv:=hr1.v;subst hv;have hm:=hr1.max;have hle:=hr1.le
 have hcl:(Lib.compact zs).length<=zs.length:=by
  unfold Lib.compact Lib.compactUpTo;rw[QJA];exact QJ7 (QJI _ _) (by simp)
 refine (hd g 0 cap w hr1.holds (by unfold maxLen at *;omega) hle).mono fun e w' ⟨h1,q,h2⟩=>?_
 have hgo:ok g:=hown g ⟨0,Zk zs mv,rfl,by rw[hL];simp[Lay.has,Value.ownBlock]⟩
 have hk:Q3 (FrO w (Qc [(0,Zk zs mv)]) L) w w':=by
  have h3:Q3 (FrO w (Qc [(0,Zk zs mv)]) L) (Sort.ahead w q) w':=by rw[h2];exact XP hfr
  exact ⟨h3.os,h3.tape,h3.output,h3.size,h3.block⟩
 have hnew:Holds (Value.int .i64) w' g 0 (Lib.compact zs++List.replicate (zs.length-(Lib.compact zs).length) 0).toArray:=by
  have h3:=holds_putRow (Value.int .i64) (Sort.ahead w q) g 0 zs.toArray (Lib.compact zs++List.replicate (zs.length-(Lib.compact zs).length) 0).toArray (holds_ahead _ w q g 0 _ hr1.holds) (by simp;omega)
  grind
 subst h1;refine ⟨_,fun _=>.one 0,rfl,WQ,.iv _ _ ?_,hk,by simp⟩
 refine Uo _ _ _ (by omega) hm ⟨hgo,by simp[Qc]⟩ fun j z hj=>?_
 have hjl:=(QJj.1 hj).1;have h3:=(hnew j (by grind)).1
 grind
end
end Go.Ev
namespace Go.Proofs
open Go.Proofs.Tryz
open Go.Shelf Go.RowKit Go.Sort
def Tryz.comp123_ren:Go.Shelf.Ren:=⟨fun | 43=>146 | n=>n,fun | 22=>57 | 23=>3 | 3=>3 | 4=>4 | 0=>0 | n=>n,fun | n=>n⟩
theorem Tryz.comp123:Go.Proofs.SlLaysE.n43 prog Tryz.comp123_ren:={
 mixed:=by kernel_rfl
 f43:=⟨Tryz.f146.name,by decide,func146.trans (congrArg some (by kernel_rfl))⟩
 t0:=underlying0
 a0:=isAgg0
 z0:=sizeOf0
 v0:=zeroValue0
 t3:=underlying3
 a3:=isAgg3
 z3:=sizeOf3
 v3:=zeroValue3
 t4:=underlying4
 a4:=isAgg4
 z4:=sizeOf4
 v4:=zeroValue4
 t22:=underlying57
 a22:=isAgg57
 z22:=sizeOf57
 v22:=zeroValue57
 a23:=isAgg3
 z23:=sizeOf3 }
end Go.Proofs
namespace Go.Pf
open Go Go.Ev Go.Proofs Go.RowKit Go.Shelf Go.Proofs.Tryz
variable {K:World->Prop} (hK:∀ w w',K w->Below w.heap.size w w'->K w')
set_option maxRecDepth 8000
def U3 (l:List Int):List Int:=l.mergeSort fun x y=>decide (x<=y)
def QhC (l:List Int):List Int:=Lib.compact (U3 l)
theorem QmT {l r:List Int} (h:l.Perm r):U3 l=U3 r:=mergeSort_of_perm_i h
def Qo3 (l:List Int):List (List IV):=l.map fun n=>[.int .i64 n]
theorem Qsc (l:List Int) (x:Int):emb (Qo3 (l++[x]))=emb (Qo3 l)++[[AV.iv (.int .i64 x)]]:=by simp[Qo3,emb]
theorem Qsb (l:List Int):(emb (Qo3 l)).length=l.length:=by simp[Qo3,emb]
theorem Qo2 (l:List Int):(Qo3 l).length=l.length:=by simp[Qo3]
theorem QAV (l:List Int) (mv:Nat):AO.arr 3 1 (emb (Qo3 l)) mv=Zk l mv:=by simp[Qo3,emb,Function.comp_def]
theorem QFn {a n:Nat} {zs:List Int} {mv:Nat} {o o1:Ql} (ho:Qc o a=some (Zk zs mv)) (h1:o1.all (fun q=>decide (q.1<1)&&XN q.2)=true):HOk [a] [.yl 0 n] o [(0,Zk zs mv)] o1:=by
 refine ⟨by simp,by simp[clA],fun q hq=>?_,fun i hi h=>?_,fun q hq=>?_⟩
 ·simp only[QJw,QJD,or_false] at hq
  subst hq;refine ⟨by simp,?_,by simp[clO,clAL,clA],rfl⟩
  refine ho.trans ?_;simp[Zk,rnO,rnL,rn]
 ·simp at hi
  subst hi;simp[Qc] at h
 have:=QJX.1 h1 q hq;simpa using this
section
theorem Qss (zs:List Int) (mv:Nat) (hl:zs.length<=1000000000):Gh K 145 [.yl 0 zs.length] [(0,Zk zs mv)] [0] (.iv (.xd [])) [(0,Zk (U3 zs) zs.length)] :=
 QmS (fun a cap w=>AnyM.slices_Sort_int_none Tryz.sort145 a cap w) zs (U3 zs) (by simp[U3]) hl (fun blk off cap w hh hb hz=>AnyM.slices_Sort_int Tryz.sort145 blk off cap zs w hh hb (by omega)) mv
theorem Qsr (zs:List Int) (mv:Nat) (hne:zs≠[]):Gh K 146 [.yl 0 zs.length] [(0,Zk zs mv)] [] (.iv (QnL (Lib.compact zs))) [] :=
 Qfo zs (fun blk off cap w hh h1 h2=>by
  have h:=AnyE.slices_Compact Tryz.comp123 (Value.int .i64) (fun _=>rfl) (EqlAt.intD prog 3 .i64) (NeqAt.intD prog 3 .i64) 0 zeroValue3 blk off cap zs.toArray w hh (by simpa using h1) (by simpa using h2)
  have e:Tryz.comp123_ren.f 43=146:=rfl;rw[e] at h;simpa[Lib.compact] using h) mv hne
include hK
end
end Go.Pf
namespace Go.Pf
open Go Go.Ev Go.Proofs Go.RowKit Go.Proofs.Tryz
variable {K:World->Prop} (hK:∀ w w',K w->Below w.heap.size w w'->K w')
set_option maxRecDepth 8000
theorem QrX {α β:Type} (f:α->β) {a b:List β} (h:a.Perm b):∀ l:List α,b=l.map f->∃ k:List α,a=k.map f/\k.Perm l:=by
 induction h with
 | nil=>exact fun l hl=>⟨[],rfl,by simp_all⟩
 | cons x h ih =>
   intro l hl;cases l with
   | nil=>simp at hl
   | cons y r =>
     simp at hl;obtain ⟨k,h1,h2⟩:=ih r hl.2;exact ⟨y::k,by simp[hl.1,h1],h2.cons y⟩
 | swap x y r =>
   intro l hl
   match l with
   | [] | [_]=>simp at hl
   | u::v::q =>
     simp at hl;exact ⟨v::u::q,by simp[hl],List.Perm.swap u v q⟩
 | trans h1 h2 ih1 ih2 =>
   intro l hl;obtain ⟨k,h3,h4⟩:=ih2 l hl;obtain ⟨m,h5,h6⟩:=ih1 k h3;exact ⟨m,h5,h6.trans h4⟩
noncomputable def spN (l:Zz):List (Vx × Nat):=V9 (Jh l (QJ l.zc))
noncomputable def Qr2 (l:Zz):List IV:=lsC l++[.map (Ja spK (spN l)),.bag 7 ((Xy l).map evC)]
noncomputable def tLs (l:Zz) (is:Bool):Int:=if OkL l then (if is=true then (if spN l=[]\/Xy l=[] then 3 else 0) else 1) else 100
theorem Qnn {l:Zz} (hl:OkL l):(Xy l).length<=100000000:=by
 have h1:=Qa9 (f:=evH l (Zx l)) (m:=303) (XV l) fun x _=>Qvm hl (Zx l) x
 have h2:=QoQ hl.sea;unfold Xy;omega
theorem Qz7 {l:Zz} {is:Bool} (h:tLs l is=0):OkL l/\is=true/\spN l≠[]/\Xy l≠[]:=by
 unfold tLs at h
 grind
include hK
theorem QBb (l:Zz) (is:Bool) (hd:l.zc.za.length<=1000) (hs:l.zc.zg.length<=1000):Gd K 47 [lsV l,.bool is] (.xd [if tLs l is=0 then .ptr (Qr2 l) else .nilp,.int .i64 (tLs l is)]):=by
 refine Qb hK (fk func47 c47 (by kernel_rfl)) (by simp) ?_
 simp;refine cK (by simpa using Qyu hK l hd hs) ?_
 by_cases h1:OkL l;rotate_left
 ·simp[h1,tLs]
 cases is
 ·simp[h1,tLs]
 simp[h1];have g1:=Qyt hK l h1;have g2:=Qys hK l h1;refine cK (by simpa using g1) ?_
 simp;refine cK (by simpa using g2) ?_
 have hle:=Qnn h1;have e1:(Ja spK (V9 (Jh l (QJ l.zc)))=[])=(spN l=[]):=by simp[Ja,spN]
 have e2:tLs l true=if spN l=[]\/Xy l=[] then 3 else 0:=by simp[tLs,h1]
 simp;rw[e1,e2];by_cases h2:spN l=[]
 ·simp[h2]
 by_cases h3:Xy l=[]
 ·simp[h2,h3]
 simp[h3,Qr2,spN];exact fun h _=>h
omit hK
def spR (s:Vx):List IV:=[.int .i64 s.link,.int .i64 s.pos,.int .i64 s.z1,.bool s.pv]
def itS (s:Vx):List IV:=[.agg (spR s)]
def QCR:List IV->List IV
 | [.agg c]=>c
 | _=>[]
theorem QrR (l:List Vx):(l.map itS).map QCR=l.map spR:=by simp[itS,QCR,Function.comp_def]
def spD:Vx:=⟨0,0,0,false⟩
def QCI (l:List Vx) (L:List (List IV)):Prop:=∃ m:List Vx,m.Perm l/\L=m.map itS
def byI (l:List Vx) (s:List Nat):List Vx:=s.map fun i=>l.getD i spD
theorem Qmu (l:List Vx) {s:List Nat} (h1:s.Nodup) (h2:∀ i∈s,i<l.length) (h3:∀ i,i<l.length->i∈s):(byI l s).Perm l:=by
 have h4:l=byI l (List.range l.length):=by
  refine List.ext_getElem (by simp[byI]) fun i h _=>?_
  simp[byI,h]
 conv=>rhs;rw[h4]
 exact (QdH h1 h2 h3).map _
theorem Qzx (l:List Vx) {s:List Nat} (h1:s.Nodup) (h2:∀ i∈s,i<l.length):Beg (QCI l) ((byI l s).map itS):=by
 refine ⟨(byI l ((List.range l.length).filter fun i=>!s.contains i)).map itS,byI l (s++(List.range l.length).filter fun i=>!s.contains i),Qmu l ?_ ?_ ?_,by simp[byI]⟩
 ·refine List.nodup_append.2 ⟨h1,List.nodup_range.filter _,fun a ha b hb e=>?_⟩
  subst e;simp at hb;exact hb.2 ha
 ·intro i hi
  simp at hi;rcases hi with hi | hi
  ·exact h2 i hi
  exact hi.1
 intro i hi;simp;by_cases h:i∈s
 ·exact .inl h
 exact .inr ⟨hi,h⟩
section
variable {K:World->Prop}
theorem Qsa (l:List (Vx × Nat)) (hl:l.length<=1000000):Qrv prog K 244 [] [.ptr [.map (Ja spK l)]] (QCI (l.map (·.1))):=by
 refine QiV (fk func244 QHb (by kernel_rfl)) (by simp) fun st hst=>?_
 have hlen:(Ja spK l).length=l.length:=by simp[Ja]
 simp;refine QgT (fun _=>[(0,.cb 0),(5,.yk 5)]) (fun seen=>[(0,.ext (st ((byI (l.map (·.1)) seen.reverse).map itS))),(5,.yq (Ja spK l) seen)]) l.length (fun seen=>seen.Nodup/\∀ i∈seen,i<l.length) ?_ [] (by simp)
 intro seen hI ih;rw[Qa QqY.eq_1];simp[hlen];refine ⟨fun xc=>⟨_,⟨_,Qmu _ ((List.reverse_perm _).nodup_iff.2 hI.1) (by simpa using hI.2) (by simpa using xc),rfl⟩,rfl⟩,fun i a b hq hns=>?_⟩
 have hil:i<l.length:=by
  have:=(QJj.1 hq).1;simpa[Ja] using this
 obtain ⟨rfl,rfl⟩:spK l[i].1=a/\IV.int .i64 (l[i].2:Nat)=b:=by simpa[Ja,hil] using hq
 have hI':(i::seen).Nodup/\∀ j∈i::seen,j<l.length:=⟨QKN.2 ⟨hns,hI.1⟩,fun j hj=>by
  rcases QJw.1 hj with rfl | hj
  ·exact hil
  exact hI.2 j hj⟩
 have hih:=ih i hil hns hI';have e:byI (l.map (·.1)) (i::seen).reverse=byI (l.map (·.1)) seen.reverse++[l[i].1]:=by simp[byI,hil]
 have hg:=hst ((byI (l.map (·.1)) seen.reverse).map itS) (itS l[i].1) (by
  have h1:=Qzx (l.map (·.1)) ((List.reverse_perm _).nodup_iff.2 hI'.1) (fun j hj=>by simpa using hI'.2 j (List.mem_reverse.1 hj))
  rw[e] at h1;simpa using h1)
 rw[e,QJE,QJC,QKE] at hih;clear ih e;simp[hq,spK,KC.iv];refine QM (by simpa[itS,spR] using hg) rfl ?_
 simp;exact hih
end
include hK
theorem Qsq (l:List (Vx × Nat)) (hl:l.length<=1000000):Gh K 243 [.ym 4,.iv (.clo 244 [] [.ptr [.map (Ja spK l)]])] [] [] (.iv (.bag 4 ((l.map (·.1)).map spR))) []:=by
 refine Qhg [] [] [] [] (fk func243 QDl (by kernel_rfl)).p (by simp[QDl]) (by simp) ?_ ?_ ?_
 ·simp
 ·simp
 have hit:=Qsa (K:=K) l hl;have hlp:∀ m:List Vx,m.Perm (l.map (·.1))->m.length=l.length:=fun m h=>by simpa using h.length_eq
 generalize l.map (·.1)=B at *
 generalize hG:(fun e o2=>∃ y:AV,(∃ es':List (List IV),es'.Perm (B.map spR)/\y=.iv (.sl 4 es'))/\QhY QDl.res [] [] y [] e o2)=G
 simp;refine Qrr (fun p=>[(2,.box [.yl 3000 p.length]),(3000,.arr 121 4 (emb (p.map QCR)) 0)]) rfl (by kernel_rfl) hit (by simp[emb]) ?_ ?_
 ·rintro p x ⟨r,m,hm,hx⟩
  have hml:=hlp m hm
  have hpl:p.length<m.length:=by
   have:=congrArg List.length hx;simp at this;omega
  obtain ⟨s,rfl⟩:∃ s,x=itS s:=by
   have:x∈m.map itS:=by rw[<- hx];simp
   obtain ⟨s,_,h⟩:=QJz.1 this;exact ⟨s,h.symm⟩
  refine ⟨rfl,?_⟩;rw[QJE];simp[itS,spR,QCR,Qmq,QqZ];omega
 rintro L ⟨m,hm,rfl⟩
 rw[QrR,QJA];simp;rw[<- hG];refine ⟨_,⟨m.map spR,hm.map _,rfl⟩,⟨_,rfl,?_⟩,by simp,by simp⟩
 have h0:(fun i=>if ([]:List Nat).contains i then none else Qc [(2,AO.box [AV.yl 3000 m.length]),(3000,AO.arr 121 4 (emb (m.map spR)) 0)] i)=Qc [(2,AO.box [AV.yl 3000 m.length]),(3000,AO.arr 121 4 (emb (m.map spR)) 0)]:=rfl
 rw[Qoi,h0];simp[look,spR,QJp]
theorem Qyr (l:List (Vx × Nat)) (hl:l.length<=1000000):Gd K 147 [.clo 244 [] [.ptr [.map (Ja spK l)]]] (.bag 4 ((l.map (·.1)).map spR)):=by
 refine Qb hK (fk func147 QIq (by kernel_rfl)) (by simp) ?_
 simp only[List.map_map];simp;refine QC (by simpa using Qsq hK l hl) rfl ?_ ?_
 ·refine ⟨by simp,by simp[clA],by simp,by simp,by simp⟩
 simp
theorem Qyq (kvs:List (MK × IV)):Gd K 148 [.map kvs] (.clo 244 [] [.ptr [.map kvs]]):=by
 refine Qb hK (fk func148 QIp (by kernel_rfl)) (by simp) ?_
 simp
theorem QA8 (s:Vx):Gd K 51 [.agg (spR s)] (.int .i64 s.pos):=by
 refine Qb hK (fk func51 c51 (by kernel_rfl)) (by simp) ?_
 simp[spR]
theorem QwN (es:List Vx) (g:FuncId) (f:Vx->Int) (hg:∀ s,Gd K g [.agg (spR s)] (.int .i64 (f s))) (hc:callee prog g=true) (hne:es≠[]) (hl:es.length<=1000000):Gd K 48 [.sl 4 (es.map spR),.fn g] (Q6 (QhC (es.map f))):=by
 refine Qb hK (fk func48 c48 (by kernel_rfl)) (by simp) ?_
 simp
 (repeat' first | omega | (with_reducible apply And.intro) | intro _)
 refine Zm (fun i=>[(1,.iv (.fn g)),(5,.yl 5 i),(8,.iv (.sl 4 (es.map spR))),(9,.iv (.int .i64 es.length)),(10,.iv (.int .i64 (i:Nat)))]) (fun i=>[(5,.arr 3 1 (emb (Qo3 ((es.take i).map f))) 0)]) es.length (fun _=>True) trivial ?_ ?_ (by simp) (by simp[Qo3,emb])
 ·intro _
  rw[Qa QqL.eq_1];have h1:=Qss (K:=K) (es.map f) 0 (by simp;omega)
  have h2:=Qsr (K:=K) (U3 (es.map f)) es.length (fun h=>hne (by simpa[U3] using congrArg List.length h))
  have e1:(U3 (es.map f)).length=es.length:=by simp[U3]
  rw[e1] at h2;simp only[QJA] at h1;simp[QJp,QAV];refine QC h1 (by simp[nth,rn]) (QFn (by simp[Qc]) (by simp[XN])) ?_
  simp[nth,rn];refine QC h2 (by simp[nth,rn]) (QFn (by simp[Qc]) (by simp)) ?_
  simp[nth,rn];rfl
 intro i hi _ ih;rw[Qa QqL.eq_1];have hi':(i:Int)<(es.length:Int):=by omega
 have hg:=hg es[i];rw[QJk hi,QJE,QJC,QKE,Qsc] at ih;have hL:((es.take i).map f).length=i:=by simp;omega
 generalize (es.take i).map f=L at *;simp[hi,hi'] at ih |-;simp only[spR] at hg |-;simp;refine ⟨hc,cK (by simpa using hg) ?_⟩
 simp[Qsb,Qo2,hL];exact ⟨by omega,by omega,ih⟩
theorem QBa (es:List Vx) (g:FuncId) (f:Vx->Int) (hg:∀ s,Gd K g [.agg (spR s)] (.int .i64 (f s))) (hc:callee prog g=true) (hne:es≠[]) (hl:es.length<=1000000):Gd K 48 [.bag 4 (es.map spR),.fn g] (Q6 (QhC (es.map f))):=by
 refine QsI fun es' hp=>?_
 obtain ⟨k,rfl,h2⟩:=QrX spR hp es rfl;have h:=QwN hK k g f hg hc (fun e=>hne (by subst e;simpa using h2)) (by rw[h2.length_eq];exact hl)
 have e:QhC (k.map f)=QhC (es.map f):=congrArg Lib.compact (QmT (h2.map _));rw[e] at h;exact h
theorem QA9 (l:Zz) (hl:(spN l).length<=1000000):Gd K 49 [.ptr (Qr2 l)] (.bag 4 (((spN l).map (·.1)).map spR)):=by
 refine Qb hK (fk func49 c49 (by kernel_rfl)) (by simp) ?_
 simp only[List.map_map];simp[Qr2];refine cK (by simpa using Qyq hK _) ?_
 simp;refine cK (by simpa using Qyr hK (spN l) hl) ?_
 simp
omit hK
noncomputable def spL (l:Zz) (f:Vx->Int):List Int:=if tLs l true=0 then QhC (((spN l).map (·.1)).map f) else []
theorem QlQ {α:Type} [DecidableEq α] (x:α):∀ l,(qp l x).length<=l.length+1
 | []=>by simp[qp]
 | p::r=>by
   have:=QlQ x r;unfold qp;split<;>simp;omega
theorem QtP {α:Type} [DecidableEq α]:∀ l:List α,(V9 l).length<=l.length:=by
 refine ZM (by simp[V9]) fun l x ih=>?_
 rw[Yx];have:=QlQ x (V9 l);simp;omega
theorem QAy {l:Zz} (hl:OkL l):(spN l).length<=1000000:=by
 have h1:=ZV (fun c=>Ym l c (Qs c.za).toNat) 24 (QJ l.zc) (fun c' hc'=>by
  have h2:=qF hc';have h3:=h2.ok.za.cnt c'.za.length (QJn _) (QJn _);have h4:=Ww l c' (Qs c'.za).toNat;have h5:=h2.ok.len;unfold Qs at *;omega)
 have h2:=QtP (Jh l (QJ l.zc));have h3:=QdQ l.zc hl.zc.len;unfold spN;unfold Jh at h2 |-;omega
include hK
theorem QBn (l:Zz) (hd:l.zc.za.length<=1000) (hs:l.zc.zg.length<=1000):Gd K 17 [lsV l] (.xd [Q6 (spL l Vx.pos),.int .i64 (tLs l true)]):=by
 refine Qb hK (fk func17 c17 (by kernel_rfl)) (by simp) ?_
 simp;refine cK (by simpa using QBb hK l true hd hs) ?_
 by_cases h:tLs l true=0
 ·obtain ⟨h1,_,h3,_⟩:=Qz7 h
  have hle:=QAy h1;have g2:=QBa hK ((spN l).map (·.1)) 51 Vx.pos (QA8 hK) (by kernel_rfl) (by simpa using h3) (by simpa using hle)
  simp[h,spL];refine cK (by simpa using QA9 hK l hle) ?_
  simp;refine cK (by simpa using g2) ?_
  simp
 simp[h,spL]
end Go.Pf
namespace Go.Proofs
open Go.Shelf Go.RowKit Go.Lib
variable {P:Program} {ρ:Ren}
set_option maxHeartbeats 2000000 in
set_option maxRecDepth 100000 in
theorem QnF (L:SlLaysE0.n41 P ρ) (i0:TypeInfo) (z:Value) (size bytes:Nat) (hi:P.info? (ρ.t 23)=some i0) (hz0:i0.zero=some z) (hz1:i0.size=size) (hz2:i0.bytes=bytes) (hzs:z.cells.size=size) (hsz:0<size)
  (z23:∀ w,(Go.sizeOf (ρ.t 23)).run P w=.ok size w) (a:Addr) (c:Nat) (w:World) :
  Calls P (ρ.f 41) #[.slice (some a) 0 c] w fun e w'=>∃ v',e=.returned v'/\w'.ownsRow w.heap.size (ρ.t 23) size v' 0 []/\Below w.heap.size w w':=by
 have mixed:=L.mixed;have t4:=L.t4;have a4:=L.a4;have z4:=L.z4;have v4:=L.v4;have t22:=L.t22;have a22:=L.a22;have z22:=L.z22;have v22:=L.v22;have q22:∀ (w:World) (a:Option Addr) (n c n' c':Nat),(binOp .eql (ρ.t 22) (.slice a n c) (.slice none n' c')).run P w=.ok (.bool a.isNone) w:=fun w a n c n' c'=>Lib.run_eql_slice_nil w _ _ a n c n' c' L.t22
 have u22:∀ w,Sem.run P (underlying (ρ.t 22)) w=.ok (TypeDesc.slice (ρ.t 23)) w:=run_underlying t22
 obtain ⟨_,_,FG⟩:=L.f41
 go_enter FG,SlBodyN.n41_ntmps ρ
 go_wp2_with (at_builtin;refine wpList_append_own _ rfl _ _ (ρ.t 22) rfl w.heap.size (ρ.t 23) i0 z size bytes t22 hi hz0 hz1 hz2 hzs hsz _ _ _ rfl (World.ownsRow_made w #[] 0 (QJn _) (QKv _) (by simp)) a 0 c [] rfl ?qc1 ?qc2 ?qc3 ?qc4 ?qc5 ?qc6 ?_)
 case qc1=>simp
 case qc2=>grind
 case qc3=>grind
 case qc4=>simp
 case qc5=>simp
 case qc6=>simp
 intro v' w1 hown hgrow hnil
 go_wp2
 go_ret
 refine ⟨v',rfl,by simpa using hown,?_⟩
 exact ((Below.refl _ w).alloc (QJn _) _).grown hgrow (by simp) (by intro k hk;simp[Value.ownBlock] at hk;omega)
end Go.Proofs
namespace Go.Ev
open Go Go.RowKit
section
variable {P:Program} {K:World->Prop}
theorem Qqu {f:FuncId} {e:TypeId} {sz bytes:Nat}
  (hcl:∀ (b off n c:Nat) (news:List Value) (w:World),news.length=n*sz->n<=maxLen->n*bytes<=140737488355328->(∀ (j:Nat) (u:Value),news[j]?=some u->w.cell? ⟨b,off+j,none⟩=some u)->(∀ u∈news,u.oneCell'=true) ->
    Calls P f #[.slice (some ⟨b,off,none⟩) n c] w fun x w'=>∃ v',x=.returned v'/\w'.ownsRow w.heap.size e sz v' n news/\v'≠.slice none 0 0/\Below w.heap.size w w')
  (hnil:∀ w:World,Calls P f #[.slice none 0 0] w fun x w'=>x=.returned (.slice none 0 0)/\w'=w)
  (hzero:∀ (a:Addr) (w:World),Calls P f #[.slice (some a) 0 0] w fun x w'=>∃ v',x=.returned v'/\w'.ownsRow w.heap.size e sz v' 0 []/\Below w.heap.size w w')
  (rows:List (List IV)) (hb:rows.length*bytes<=140737488355328) (hsz:∀ c∈rows,c.length=sz):QhS P K f [.sl sz rows] (.yl 0 rows.length) e sz rows 0:=by
 by_cases hne:rows=[]
 ·subst hne
  intro w ok vs hk hnew hl hvs
  obtain ⟨v0,rfl⟩:∃ v0,vs=[v0]:=by
   match vs,hl with
   | [v],_=>exact ⟨v,rfl⟩
  have hrep:=hvs 0 _ v0 rfl rfl
  have fin:∀ (v':Value) (w':World),w'.ownsRow w.heap.size e sz v' 0 []->Below w.heap.size w w' ->
    ∃ v l,Ending.returned v'=.returned v/\QB (fun b=>b<w.heap.size) (okL ok (one (XC e sz [] 0)) (fun _=>l)) w' (one (XC e sz [] 0)) (fun _=>l) (XC e sz [] 0) l /\
     Qv (okL ok (one (XC e sz [] 0)) (fun _=>l)) w' (one (XC e sz [] 0)) (fun _=>l) (ren 0 (.yl 0 0)) v/\Below w.heap.size w w':=by
   intro v' w' hown hbel;have hsl:=Jk hown;have hge:∀ b,v'.ownBlock=some b->w.heap.size<=b:=fun b h=>(hown.lt b h).1
   have hown0:w'.ownsRow 0 e sz v' 0 []:=by
    obtain ⟨h1,h2⟩:=hown;refine ⟨h1,?_⟩
    grind
   refine ⟨v',.arr v' [],rfl,⟨⟨by simpa using hown0,fun b h1 h2=>by grind⟩,QKv _,by simp,by simp,by simp⟩,?_,hbel⟩
   exact Qv.yl (ok:=okL ok (one (XC e sz [] 0)) (fun _=>.arr v' [])) (w:=w') (lo:=one (XC e sz [] 0)) (L:=fun _=>.arr v' []) 0 e sz [] 0 v' [] (by simp[one,XC]) rfl hsl
  cases hrep with
  | nils _=>exact (hnil w).mono fun x w' ⟨h1,h2⟩=>by subst h1 h2;exact fin _ _ ⟨by simp,.inl ⟨rfl,rfl⟩⟩ (Below.refl _ _)
  | nilz _ a=>exact (hzero a w).mono fun x w' ⟨v',h1,h2,h3⟩=>by grind
  | sl _ _ b off cap u hlc hc hs hu hx=>exact (hcl b off 0 cap [] w (by simp) (by simp) (by simp) (by simp) (by simp)).mono fun x w' ⟨v',h1,h2,_,h3⟩=>by grind
 exact Vq hcl rows hb hsz hne
end
end Go.Ev
namespace Go.Pf
open Go Go.Ev Go.Proofs Go.RowKit Go.Shelf Go.Proofs.Tryz
set_option maxRecDepth 8000
noncomputable def Qi1 (t:TypeId) (h:(prog.info? t).isSome=true):TypeInfo:=(prog.info? t).get h
noncomputable def QvC (i:TypeInfo) (h:i.zero.isSome=true):Value:=i.zero.get h
section
variable {K:World->Prop}
theorem Qaz {f:FuncId} {ρ:Ren} {e:TypeId} (sz bytes:Nat) (L:SlLaysE0.n41 prog ρ) (hf:ρ.f 41=f) (he:ρ.t 23=e) (h1:(prog.info? e).isSome=true) (h2:(Qi1 e h1).zero.isSome=true) (h3:(Qi1 e h1).size=sz) (h4:(Qi1 e h1).bytes=bytes) (h5:(QvC (Qi1 e h1) h2).cells.size=sz) (h0:0<sz)
  (hz:∀ w,(Go.sizeOf e).run prog w=.ok sz w) (rows:List (List IV)) (hb:rows.length*bytes<=140737488355328) (hsz:∀ c∈rows,c.length=sz):Gp K f [.sl sz rows] (.yl 0 rows.length) e sz rows 0:=by
 subst hf he;have hi:prog.info? (ρ.t 23)=some (Qi1 _ h1):=by simp[Qi1]
 have hz0:(Qi1 _ h1).zero=some (QvC _ h2):=by simp[QvC]
 exact Qqu (fun b off n c news w g1 g2 g3 g4 g5=>AnyE.slices_Clone L _ _ sz bytes hi hz0 h3 h4 h5 h0 hz b off n c news w g1 g2 g3 g4 g5) (fun w=>AnyE.slices_Clone_nil L 0 0 w)
  (fun a w=>QnF L _ _ sz bytes hi hz0 h3 h4 h5 h0 hz a 0 w) rows hb hsz
theorem QBM (l:List Qu) (hl:l.length<=1000):Gp K 84 [QG l] (.yl 0 l.length) 91 5 (l.map dC) 0:=by
 have h:=Qaz (K:=K) (f:=84) (e:=91) 5 40 Tryz.clone84 rfl rfl (by kernel_rfl) (by kernel_rfl) (by kernel_rfl) (by kernel_rfl) (by kernel_rfl) (by decide) sizeOf91 (l.map dC) (by simp;omega) (by simp)
 simpa using h
theorem QBL (l:List Yz) (hl:l.length<=1000):Gp K 85 [QD l] (.yl 0 l.length) 160 5 (l.map sC) 0:=by
 have h:=Qaz (K:=K) (f:=85) (e:=160) 5 40 Tryz.clone85 rfl rfl (by kernel_rfl) (by kernel_rfl) (by kernel_rfl) (by kernel_rfl) (by kernel_rfl) (by decide) sizeOf160 (l.map sC) (by simp;omega) (by simp)
 simpa using h
theorem QBK (l:List Zy) (hl:l.length<=1000):Gp K 86 [ZD l] (.yl 0 l.length) 178 3 (l.map leC) 0:=by
 have h:=Qaz (K:=K) (f:=86) (e:=178) 3 24 Tryz.clone86 rfl rfl (by kernel_rfl) (by kernel_rfl) (by kernel_rfl) (by kernel_rfl) (by kernel_rfl) (by decide) sizeOf178 (l.map leC) (by simp;omega) (by simp)
 simpa using h
theorem QBJ (l:List ZF) (hl:l.length<=1000):Gp K 87 [Ud l] (.yl 0 l.length) 181 4 (l.map baC) 0:=by
 have h:=Qaz (K:=K) (f:=87) (e:=181) 4 32 Tryz.clone87 rfl rfl (by kernel_rfl) (by kernel_rfl) (by kernel_rfl) (by kernel_rfl) (by kernel_rfl) (by decide) sizeOf181 (l.map baC) (by simp;omega) (by simp)
 simpa using h
theorem QBI (l:List Rod) (hl:l.length<=1000):Gp K 88 [Qip l] (.yl 0 l.length) 169 3 (l.map roC) 0:=by
 have h:=Qaz (K:=K) (f:=88) (e:=169) 3 24 Tryz.clone88 rfl rfl (by kernel_rfl) (by kernel_rfl) (by kernel_rfl) (by kernel_rfl) (by kernel_rfl) (by decide) sizeOf169 (l.map roC) (by simp;omega) (by simp)
 simpa using h
theorem QBH (l:List Q1) (hl:l.length<=1000):Gp K 89 [Qam l] (.yl 0 l.length) 155 7 (l.map reC) 0:=by
 have h:=Qaz (K:=K) (f:=89) (e:=155) 7 56 Tryz.clone89 rfl rfl (by kernel_rfl) (by kernel_rfl) (by kernel_rfl) (by kernel_rfl) (by kernel_rfl) (by decide) sizeOf155 (l.map reC) (by simp;omega) (by simp)
 simpa using h
theorem QBG (l:List QcV) (hl:l.length<=1000):Gp K 90 [Jv l] (.yl 0 l.length) 60 3 (l.map trC) 0:=by
 have h:=Qaz (K:=K) (f:=90) (e:=60) 3 24 Tryz.clone90 rfl rfl (by kernel_rfl) (by kernel_rfl) (by kernel_rfl) (by kernel_rfl) (by kernel_rfl) (by decide) sizeOf60 (l.map trC) (by simp;omega) (by simp)
 simpa using h
end
end Go.Pf
namespace Go.Pf
open Go Go.Ev Go.Proofs Go.RowKit Go.Proofs.Tryz
variable {K:World->Prop} (hK:∀ w w',K w->Below w.heap.size w w'->K w')
set_option maxRecDepth 8000
structure Zf (h:Qi):Prop where
 ze:QzH h.ze
 zi:h.zq.zi.length<=1000
 zj:h.zq.zj.length<=1000
@[simp] def Qrz (k:Nat) (h:Qi):List AV:=[.yl k h.ze.zc.za.length,.yl (k+1) h.ze.zc.zg.length,.iv (.int .i64 h.ze.zc.zh),.yl (k+2) h.ze.zb.zd.length,.iv (.int .i64 h.ze.zb.zr),.iv (.int .i64 h.ze.zb.zu),.iv (.int .i64 h.ze.zb.zw),
 .yl (k+3) h.ze.zb.zk.length,.iv (.int .i64 h.ze.zb.zh),.yl (k+4) h.ze.zf.length,.iv (.int .i64 h.ze.zo),.iv (.int .i64 h.ze.z6),.iv (.int .i64 h.zq.yc),.iv (.int .i64 h.zq.z8),.iv (.int .i64 h.zq.z9),.yl (k+5) h.zq.zi.length,.yl (k+6) h.zq.zj.length,.iv (.int .i64 h.zq.zh)]
@[simp] def Xg (k:Nat) (h:Qi):Ql:=[(k,.arr 91 5 (emb (h.ze.zc.za.map dC)) 0),(k+1,.arr 160 5 (emb (h.ze.zc.zg.map sC)) 0),(k+2,.arr 178 3 (emb (h.ze.zb.zd.map leC)) 0),(k+3,.arr 181 4 (emb (h.ze.zb.zk.map baC)) 0),
 (k+4,.arr 60 3 (emb (h.ze.zf.map trC)) 0),(k+5,.arr 169 3 (emb (h.zq.zi.map roC)) 0),(k+6,.arr 155 7 (emb (h.zq.zj.map reC)) 0)]
include hK
theorem Qpg (h:Qi) (hs:Zf h):Gh K 43 [.iv (hoV h)] [] [] (.agg (Qrz 0 h)) (Xg 0 h):=by
 obtain ⟨⟨h1,h2,h3,h4,h5⟩,h6,h7⟩:=hs;refine Zj [17,22,33,38,62,49,54] [] [] [] (fk func43 c43 (by kernel_rfl)).p (by simp[c43]) (by simp) ?_ ?_ ?_ ?_
 ·intro q hq
  simp only[Xg,QJw,QJD,or_false] at hq;rcases hq with rfl | rfl | rfl | rfl | rfl | rfl | rfl<;>exact ⟨by simp,rfl,Vr _ _ _ _ _⟩
 ·simp[clA,clAL]
 ·simp
 generalize hG:QhY c43.res [17,22,33,38,62,49,54] [] (.agg (Qrz 0 h)) (Xg 0 h)=G;simp[c43];refine Z4 (QBM h.ze.zc.za h1) (by simp[Qc]) ?_
 simp;refine Z4 (QBL h.ze.zc.zg h2) (by simp[Qc]) ?_
 simp;refine Z4 (QBK h.ze.zb.zd h3) (by simp[Qc]) ?_
 simp;refine Z4 (QBJ h.ze.zb.zk h4) (by simp[Qc]) ?_
 simp;refine Z4 (QBI h.zq.zi h6) (by simp[Qc]) ?_
 simp;refine Z4 (QBH h.zq.zj h7) (by simp[Qc]) ?_
 simp;refine Z4 (QBG h.ze.zf h5) (by simp[Qc]) ?_
 simp;rw[<- hG];refine ⟨⟨_,rfl,rfl⟩,fun q hq=>?_,by simp⟩
 simp only[Xg,QJw,QJD,or_false] at hq;rcases hq with rfl | rfl | rfl | rfl | rfl | rfl | rfl<;>simp[rnO,nth,QAC,emb]
omit hK
@[reducible] def Qz (h:Qi):Ql:=[(0,.box ((hoC h).map AV.iv))]
def UX (r:Nat) (y:Txt) (h':Qi):Env->Ql->Prop:=QhY [QhU.tmp r] [0] [(0,0,0)] (.iv (.str y)) (Qz h')
theorem Js (h:Qi):∀ q∈Qz h,q.1<1/\XN q.2=true/\clO ((Qz h).map (·.1)) q.2=true:=by
 intro q hq;simp only[QJw,QJD,or_false] at hq;subst hq;exact ⟨by omega,rfl,Qjy _ _⟩
theorem QL {r:Nat} {y:Txt} {h':Qi} {e:Env} {o:Ql} (h1:Ev.look e r=.iv (.str y)) (h2:Ev.look e 0=.loc 0 0) (h3:Qc o 0=some (.box ((hoC h').map AV.iv))):UX r y h' e o:=by
 refine ⟨⟨.iv (.str y),?_,rfl⟩,fun q hq=>?_,fun q hq=>?_⟩
 ·simp[QuW,QrT,h1]
 ·simp only[QJw,QJD,or_false] at hq
  subst hq;refine h3.trans ?_;simp only[rnO,Qgx]
 grind
section
theorem Qm {f:FuncId} {A:AFn} {r:Nat} {args:List IV} {h h':Qi} {y:Txt} (hok:Zp prog f A [0]) (hres:A.res=[.tmp r]) (hlen:args.length<A.nt)
  (hrun:WpF prog K (FnF (UX r y h')) [.code A.code] (Yb 0 (.loc 0 0::args.map .iv)) (Qz h)):Gh K f (.loc 0 0::args.map .iv) (Qz h) [0] (.iv (.str y)) (Qz h'):=by
 refine Zj [0] [0] [0] [(0,0,0)] hok (by simp;omega) (by simp) (Js h') (by simp[clA]) ?_ (by rw[hres];exact hrun)
 simp[nth,Qc]
 grind
theorem Yi {args0:List IV} {o:Ql} {h h':Qi} {a:Nat} (ho:Qc o a=some (.box ((hoC h).map AV.iv))):HOk [a] (.loc 0 0::args0.map .iv) o (Qz h) (Qz h'):=by
 refine ⟨by simp,?_,fun q hq=>?_,fun i hi h1=>?_,fun q hq=>⟨(Js h' q hq).1,(Js h' q hq).2.1⟩⟩
 ·simp[clA]
 ·have h1:=Js h q hq
  refine ⟨h1.1,?_,h1.2.2,h1.2.1⟩;simp only[QJw,QJD,or_false] at hq;subst hq;refine ho.trans ?_;simp only[rnO,Qgx]
 ·simp at hi
  subst hi;simp[Qc] at h1
include hK
theorem Qvf (h:Qi) (hs:Zf h):Gd K 42 [hoV h] (.int .i64 (QC1 h)):=by
 refine Qb hK (fk func42 c42 (by kernel_rfl)) (by simp) ?_
 have g1:=Qu9 hK h.ze hs.ze;have g2:=Qu8 hK h.zq hs.zi hs.zj;simp;refine cK (by simpa using g1) ?_
 unfold QC1 okH;by_cases h1:OkP h.ze
 ·simp[h1]
  refine cK (by simpa using g2) ?_
  by_cases h2:OkU h.zq<;>simp[h2]
 ·simp[h1]
end
theorem QJb (h:Qi):imms (fun i=>if i=0 then none else Qc ((0,.box (Qrz 1 h))::Xg 1 h) i) 40 (Qrz 1 h)=some (hoC h):=by
 simp[imms,imm,immss,Qc,QJp]
def CH (K:World->Prop) (g:FuncId) (cs:List IV) (h h':Qi):Prop:=Gh K g (.loc 0 0::cs.map .iv) ((0,.box (Qrz 1 h))::Xg 1 h) [0] (.iv (.xd [])) (Qz h')
theorem Qvs (h:Qi):∀ q∈((0,AO.box (Qrz 1 h))::Xg 1 h),q.1<8/\XN q.2=true/\clO (((0,AO.box (Qrz 1 h))::Xg 1 h).map (·.1)) q.2=true:=by
 intro q hq;simp only[Xg,QJw,QJD,or_false] at hq;rcases hq with rfl | rfl | rfl | rfl | rfl | rfl | rfl | rfl
 ·exact ⟨by omega,rfl,by simp[clO,clAL,clA]⟩
 all_goals exact ⟨by show (_:Nat)<8;omega,rfl,Vr _ _ _ _ _⟩
def QzJ (h':Qi):Env->Ql->Prop:=QhY [] [0,1,2,3,4,5,6,7] [(0,0,0)] (.iv (.xd [])) ((0,.box (Qrz 1 h'))::Xg 1 h')
theorem QcD {h':Qi} {e:Env} {o:Ql} (h1:Ev.look e 0=.loc 0 0) (h2:∀ q∈((0,AO.box (Qrz 1 h'))::Xg 1 h'),Qc o q.1=some q.2):QzJ h' e o:=by
 refine ⟨⟨.iv (.xd []),rfl,rfl⟩,fun q hq=>?_,fun q hq=>?_⟩
 ·have h3:=h2 q hq
  simp only[Xg,QJw,QJD,or_false] at hq;rcases hq with rfl | rfl | rfl | rfl | rfl | rfl | rfl | rfl
  ·refine h3.trans ?_
   simp[rnO,rnL,rn,nth]
  all_goals
   refine h3.trans ?_;rw[X4]
 grind
section
variable {K:World->Prop}
theorem Ua {f:FuncId} {A:AFn} {cs:List IV} {h h':Qi} (hok:Zp prog f A [0]) (hres:A.res=[]) (hlen:cs.length<A.nt)
  (hrun:WpF prog K (FnF (QzJ h')) [.code A.code] (Yb 0 (.loc 0 0::cs.map .iv)) ((0,.box (Qrz 1 h))::Xg 1 h)):CH K f cs h h':=by
 refine YA.give (Zj [0,1,2,3,4,5,6,7] [0] [0] [(0,0,0)] hok (by simp;omega) (by decide) (Qvs h') (by simp[clA]) ?_ (by rw[hres];exact hrun)) (by simp) (QJb h')
 simp[nth,Qc]
 grind
theorem QtW:Zp prog 266 QB8 [0]:=⟨_,func266,by kernel_rfl⟩
theorem Qt3:Zp prog 179 QCf [0]:=⟨_,func179,by kernel_rfl⟩
theorem Qt2:Zp prog 180 Qzu [0]:=⟨_,func180,by kernel_rfl⟩
theorem Qt1:Zp prog 181 QCe [0]:=⟨_,func181,by kernel_rfl⟩
theorem Qt0:Zp prog 182 QCd [0]:=⟨_,func182,by kernel_rfl⟩
theorem QtZ:Zp prog 183 QCc [0]:=⟨_,func183,by kernel_rfl⟩
def Zd (h:Qi) (s:Yz):Qi:={ h with ze:={ h.ze with zc:={ h.ze.zc with zg:=h.ze.zc.zg++[s] } } }
def Yy (h:Qi) (b:ZF):Qi:={ h with ze:={ h.ze with zb:={ h.ze.zb with zk:=h.ze.zb.zk++[b] } } }
def ZX (h:Qi) (x:Q1):Qi:={ h with zq:={ h.zq with zj:=h.zq.zj++[x] } }
def Zr (h:Qi) (t:QcV):Qi:={ h with ze:={ h.ze with zc:={ h.ze.zc with za:=h.ze.zc.za++[⟨4,0,0,0,0⟩] },zf:=h.ze.zf++[t] } }
def Z5 (h:Qi):Qi:={ h with ze:={ h.ze with zc:={ h.ze.zc with za:=h.ze.zc.za.dropLast },zf:=if (h.ze.zc.za.getLast?.map (·.zp))=some 4 then h.ze.zf.dropLast else h.ze.zf } }
theorem QEj (h:Qi) (d:Qu) (hs:Zf h):CH K 266 [.ptr (dC d)] h (Qk h d):=by
 obtain ⟨⟨h1,h2,h3,h4,h5⟩,h6,h7⟩:=hs;refine Ua QtW rfl (by simp[QB8]) ?_
 generalize hG:QzJ (Qk h d)=G;simp[QB8];rw[<- hG]
 repeat' first | omega | exact QcD rfl (by
  intro q hq;simp only[Xg,QJw,QJD,or_false] at hq;rcases hq with rfl | rfl | rfl | rfl | rfl | rfl | rfl | rfl<;>simp[Qc,Qk]) | intro _ | apply And.intro
theorem QEo (h:Qi) (a b c:Int) (hs:Zf h):CH K 179 [.ptr [Q6 [a,b,c]]] h (Zr h ⟨a,b,c⟩):=by
 obtain ⟨⟨h1,h2,h3,h4,h5⟩,h6,h7⟩:=hs;refine Ua Qt3 rfl (by simp[QCf]) ?_
 generalize hG:QzJ (Zr h ⟨a,b,c⟩)=G;simp[QCf];rw[<- hG]
 repeat' first | omega | exact QcD rfl (by
  intro q hq;simp only[Xg,QJw,QJD,or_false] at hq;rcases hq with rfl | rfl | rfl | rfl | rfl | rfl | rfl | rfl<;>simp[Qc,Zr]) | intro _ | apply And.intro
theorem QEm (h:Qi) (a b c d e:Int) (hs:Zf h):CH K 181 [.ptr [Q6 [a,b,c,d,e]]] h (Zd h ⟨a,b,c,d,e⟩):=by
 obtain ⟨⟨h1,h2,h3,h4,h5⟩,h6,h7⟩:=hs;refine Ua Qt1 rfl (by simp[QCe]) ?_
 generalize hG:QzJ (Zd h ⟨a,b,c,d,e⟩)=G;simp[QCe];rw[<- hG]
 repeat' first | omega | exact QcD rfl (by
  intro q hq;simp only[Xg,QJw,QJD,or_false] at hq;rcases hq with rfl | rfl | rfl | rfl | rfl | rfl | rfl | rfl<;>simp[Qc,Zd]) | intro _ | apply And.intro
theorem QEl (h:Qi) (a b c d:Int) (hs:Zf h):CH K 182 [.ptr [Q6 [a,b,c,d]]] h (Yy h ⟨a,b,c,d⟩):=by
 obtain ⟨⟨h1,h2,h3,h4,h5⟩,h6,h7⟩:=hs;refine Ua Qt0 rfl (by simp[QCd]) ?_
 generalize hG:QzJ (Yy h ⟨a,b,c,d⟩)=G;simp[QCd];rw[<- hG]
 repeat' first | omega | exact QcD rfl (by
  intro q hq;simp only[Xg,QJw,QJD,or_false] at hq;rcases hq with rfl | rfl | rfl | rfl | rfl | rfl | rfl | rfl<;>simp[Qc,Yy]) | intro _ | apply And.intro
theorem QEk (h:Qi) (a b c d e f g:Int) (hs:Zf h):CH K 183 [.ptr [Q6 [a,b,c,d,e,f,g]]] h (ZX h ⟨a,b,c,d,e,f,g⟩):=by
 obtain ⟨⟨h1,h2,h3,h4,h5⟩,h6,h7⟩:=hs;refine Ua QtZ rfl (by simp[QCc]) ?_
 generalize hG:QzJ (ZX h ⟨a,b,c,d,e,f,g⟩)=G;simp[QCc];rw[<- hG]
 repeat' first | omega | exact QcD rfl (by
  intro q hq;simp only[Xg,QJw,QJD,or_false] at hq;rcases hq with rfl | rfl | rfl | rfl | rfl | rfl | rfl | rfl<;>simp[Qc,ZX,emb]) | intro _ | apply And.intro
theorem QEn (h:Qi) (hne:h.ze.zc.za≠[]) (ht:(h.ze.zc.za.getLast?.map (·.zp))=some 4->h.ze.zf≠[]) (hs:Zf h):CH K 180 [.ptr [.int .i64 ((h.ze.zc.za.length:Int)-1)]] h (Z5 h):=by
 obtain ⟨⟨h1,h2,h3,h4,h5⟩,h6,h7⟩:=hs;obtain ⟨D,d,hD⟩:∃ D d,h.ze.zc.za=D++[d]:=⟨_,_,(QKm hne).symm⟩
 have hr:Qzu.res=[]:=rfl;obtain ⟨⟨⟨za,zg,cw⟩,m,zf,zo,z6⟩,u⟩:=h;simp only at *;subst hD;refine Zj [0] [0] [0] [(0,0,0)] Qt2 (by simp[Qzu]) (by simp) (Js _) (by simp[clA]) ?_ ?_
 ·simp[nth,Qc]
  grind
 rw[hr]
 have fin:∀ (e:Env) (o:Ql) (h':Qi),Ev.look e 0=.loc 0 0->Qc o 0=some (.box ((hoC h').map AV.iv))->QhY [] [0] [(0,0,0)] (.iv (.xd [])) (Qz h') e o:=fun e o h' q1 q2=>by
  refine ⟨⟨.iv (.xd []),rfl,rfl⟩,fun q hq=>?_,fun q hq=>?_⟩
  ·simp only[QJw,QJD,or_false] at hq
   subst hq;refine q2.trans ?_;simp only[rnO,Qgx]
  grind
 generalize hG:QhY [] [0] [(0,0,0)] (.iv (.xd [])) (Qz (Z5 ⟨⟨⟨D++[d],zg,cw⟩,m,zf,zo,z6⟩,u⟩))=G;simp at ht h1
 have tk:∀ x:List IV,List.take D.length (List.take (D.length+1) (D.map dC++[x]))=D.map dC:=fun x=>by
  grind
 by_cases h4:d.zp=4
 ·have htl:1<=zf.length:=QJQ.2 (ht h4)
  have htn:((zf.length:Int)-1).toNat=zf.length-1:=by omega
  simp[Qzu,h4,htn];rw[<- hG]
  repeat' first | omega | exact fin _ _ _ rfl (by simp[Qc,Z5,h4,List.dropLast_eq_take,tk]) | intro _ | apply And.intro
 simp[Qzu,h4];rw[<- hG]
 repeat' first | omega | exact fin _ _ _ rfl (by simp[Qc,Z5,h4,tk]) | intro _ | apply And.intro
end
theorem Qt4:Zp prog 178 QCg [0]:=⟨_,func178,by kernel_rfl⟩
theorem Qt5:Zp prog 177 QCh [0]:=⟨_,func177,by kernel_rfl⟩
theorem Qzl:Zp prog 91 c91 [0]:=⟨_,func91,by kernel_rfl⟩
theorem Qzk:Zp prog 92 c92 [0]:=⟨_,func92,by kernel_rfl⟩
theorem Qzj:Zp prog 93 c93 [0]:=⟨_,func93,by kernel_rfl⟩
theorem Qzi:Zp prog 94 c94 [0]:=⟨_,func94,by kernel_rfl⟩
theorem Qzh:Zp prog 95 c95 [0]:=⟨_,func95,by kernel_rfl⟩
theorem Qzg:Zp prog 96 c96 [0]:=⟨_,func96,by kernel_rfl⟩
theorem Qzf:Zp prog 97 c97 [0]:=⟨_,func97,by kernel_rfl⟩
theorem Qze:Zp prog 98 c98 [0]:=⟨_,func98,by kernel_rfl⟩
noncomputable def chT (h':Qi):Txt:=if okH h' then QcZ else tNo
noncomputable def chH (h h':Qi):Qi:=if okH h' then h' else h
include hK
theorem Ux (h h':Qi) (g:FuncId) (cs:List IV) (hs:Zf h) (hs':Zf h') (hc:callee prog g=true) (hg:CH K g cs h h') :
  Gh K 178 (.loc 0 0::[IV.clo g [] cs].map .iv) (Qz h) [0] (.iv (.str (chT h'))) (Qz (chH h h')):=by
 refine Qm Qt4 rfl (by simp[QCg]) ?_
 generalize hG:UX 4 (chT h') (chH h h')=G;have g28:=Qpg hK h hs;have g9:=Qvf hK h' hs';simp[QCg];refine QC (ids:=[11000,11001,11003,11007,11009,11015,11016]) g28 rfl ?_ ?_
 ·refine ⟨by decide,by simp[clA],by simp,?_,?_⟩
  ·simp[Qc]
   intro i hi;have:i=0\/i=1\/i=2\/i=3\/i=4\/i=5\/i=6:=by omega
   rcases this with rfl | rfl | rfl | rfl | rfl | rfl | rfl<;>simp[nth]
  intro q hq;simp only[Xg,QJw,QJD,or_false] at hq;rcases hq with rfl | rfl | rfl | rfl | rfl | rfl | rfl<;>exact ⟨by show (_:Nat)<7;omega,rfl⟩
 ·simp[rn,rnL,nth,X4]
  refine ⟨hc,?_⟩;refine QC (ids:=[5,11000,11001,11003,11007,11009,11015,11016]) hg (by simp[nth,rn]) ?_ ?_
  ·refine ⟨by decide,by simp[clA],fun q hq=>?_,fun i hi h1=>?_,fun q hq=>?_⟩
   ·have h1:=Qvs h q hq
    refine ⟨h1.1,?_,h1.2.2,h1.2.1⟩;simp only[Xg,QJw,QJD,or_false] at hq;rcases hq with rfl | rfl | rfl | rfl | rfl | rfl | rfl | rfl
    ·simp[Qc,nth,rnO,rnL,rn]
    all_goals
     rw[X4];simp[Qc,nth]
   ·simp at hi
    have:i=0\/i=1\/i=2\/i=3\/i=4\/i=5\/i=6\/i=7:=by omega
    rcases this with rfl | rfl | rfl | rfl | rfl | rfl | rfl | rfl<;>simp[Qc] at h1
   have h1:=Js h' q hq
   grind
  ·simp[rn,nth]
   refine cK (by simpa using g9) ?_
   rw[<- hG];unfold QC1 chT chH;by_cases ho:okH h'
   ·simp[ho]
    exact QL rfl rfl (by simp[Qc])
   ·simp[ho]
    exact QL rfl rfl (by simp[Qc])
theorem Qe7 (h:Qi) (d:Qu) (hs:Zf h) (hs':Zf (Qk h d)):Gh K 177 (.loc 0 0::[IV.agg (dC d)].map .iv) (Qz h) [0] (.iv (.str (chT (Qk h d)))) (Qz (chH h (Qk h d))):=by
 refine Qm Qt5 rfl (by simp[QCh]) ?_
 generalize hG:UX 4 (chT (Qk h d)) (chH h (Qk h d))=G;have hg:=Ux hK h (Qk h d) 266 [.ptr (dC d)] hs hs' (by kernel_rfl) (QEj h d hs)
 simp[QCh];refine QC hg (by simp[nth,rn]) (Yi (by simp[Qc])) ?_
 simp[nth,rn];rw[<- hG];exact QL rfl rfl (by simp[Qc])
theorem Qpe (h:Qi) (a b c d:Int) (hs:Zf h) (hs':Zf (Qk h ⟨1,a,b,c,d⟩)):Gh K 91 (.loc 0 0::[Q6 [a,b,c,d]].map .iv) (Qz h) [0] (.iv (.str (chT (Qk h ⟨1,a,b,c,d⟩)))) (Qz (chH h (Qk h ⟨1,a,b,c,d⟩))):=by
 refine Qm Qzl rfl (by simp[c91]) ?_
 generalize hG:UX 4 (chT (Qk h ⟨1,a,b,c,d⟩)) (chH h (Qk h ⟨1,a,b,c,d⟩))=G;have hg:=Qe7 hK h ⟨1,a,b,c,d⟩ hs hs';simp[c91];refine QC hg (by simp[nth,rn]) (Yi (by simp[Qc])) ?_
 simp[nth,rn];rw[<- hG];exact QL rfl rfl (by simp[Qc])
theorem QwL (h:Qi) (a b:Int) (hs:Zf h) (hs':Zf (Qk h ⟨2,a,b,0,0⟩)):Gh K 92 (.loc 0 0::[Q6 [a,b]].map .iv) (Qz h) [0] (.iv (.str (chT (Qk h ⟨2,a,b,0,0⟩)))) (Qz (chH h (Qk h ⟨2,a,b,0,0⟩))):=by
 refine Qm Qzk rfl (by simp[c92]) ?_
 generalize hG:UX 4 (chT (Qk h ⟨2,a,b,0,0⟩)) (chH h (Qk h ⟨2,a,b,0,0⟩))=G;have hg:=Qe7 hK h ⟨2,a,b,0,0⟩ hs hs';simp[c92];refine QC hg (by simp[nth,rn]) (Yi (by simp[Qc])) ?_
 simp[nth,rn];rw[<- hG];exact QL rfl rfl (by simp[Qc])
theorem QwK (h:Qi) (hs:Zf h) (hs':Zf (Qk h ⟨3,0,0,0,0⟩)):Gh K 93 (.loc 0 0::[Q6 []].map .iv) (Qz h) [0] (.iv (.str (chT (Qk h ⟨3,0,0,0,0⟩)))) (Qz (chH h (Qk h ⟨3,0,0,0,0⟩))):=by
 refine Qm Qzj rfl (by simp[c93]) ?_
 generalize hG:UX 4 (chT (Qk h ⟨3,0,0,0,0⟩)) (chH h (Qk h ⟨3,0,0,0,0⟩))=G;have hg:=Qe7 hK h ⟨3,0,0,0,0⟩ hs hs';simp[c93];refine QC hg (by simp[nth,rn]) (Yi (by simp[Qc])) ?_
 simp[nth,rn];rw[<- hG];exact QL rfl rfl (by simp[Qc])
theorem QwJ (h:Qi) (a b c:Int) (hs:Zf h) (hs':Zf (Zr h ⟨a,b,c⟩)):Gh K 94 (.loc 0 0::[Q6 [a,b,c]].map .iv) (Qz h) [0] (.iv (.str (chT (Zr h ⟨a,b,c⟩)))) (Qz (chH h (Zr h ⟨a,b,c⟩))):=by
 refine Qm Qzi rfl (by simp[c94]) ?_
 generalize hG:UX 4 (chT (Zr h ⟨a,b,c⟩)) (chH h (Zr h ⟨a,b,c⟩))=G;have hg:=Ux hK h (Zr h ⟨a,b,c⟩) 179 [.ptr [Q6 [a,b,c]]] hs hs' (by kernel_rfl) (QEo h a b c hs)
 simp[c94];refine QC hg (by simp[nth,rn]) (Yi (by simp[Qc])) ?_
 simp[nth,rn];rw[<- hG];exact QL rfl rfl (by simp[Qc])
theorem Qpd (h:Qi) (a b c d e:Int) (hs:Zf h) (hs':Zf (Zd h ⟨a,b,c,d,e⟩)):Gh K 96 (.loc 0 0::[Q6 [a,b,c,d,e]].map .iv) (Qz h) [0] (.iv (.str (chT (Zd h ⟨a,b,c,d,e⟩)))) (Qz (chH h (Zd h ⟨a,b,c,d,e⟩))):=by
 refine Qm Qzg rfl (by simp[c96]) ?_
 generalize hG:UX 4 (chT (Zd h ⟨a,b,c,d,e⟩)) (chH h (Zd h ⟨a,b,c,d,e⟩))=G;have hg:=Ux hK h (Zd h ⟨a,b,c,d,e⟩) 181 [.ptr [Q6 [a,b,c,d,e]]] hs hs' (by kernel_rfl) (QEm h a b c d e hs)
 simp[c96];refine QC hg (by simp[nth,rn]) (Yi (by simp[Qc])) ?_
 simp[nth,rn];rw[<- hG];exact QL rfl rfl (by simp[Qc])
theorem QwH (h:Qi) (a b c d:Int) (hs:Zf h) (hs':Zf (Yy h ⟨a,b,c,d⟩)):Gh K 97 (.loc 0 0::[Q6 [a,b,c,d]].map .iv) (Qz h) [0] (.iv (.str (chT (Yy h ⟨a,b,c,d⟩)))) (Qz (chH h (Yy h ⟨a,b,c,d⟩))):=by
 refine Qm Qzf rfl (by simp[c97]) ?_
 generalize hG:UX 4 (chT (Yy h ⟨a,b,c,d⟩)) (chH h (Yy h ⟨a,b,c,d⟩))=G;have hg:=Ux hK h (Yy h ⟨a,b,c,d⟩) 182 [.ptr [Q6 [a,b,c,d]]] hs hs' (by kernel_rfl) (QEl h a b c d hs)
 simp[c97];refine QC hg (by simp[nth,rn]) (Yi (by simp[Qc])) ?_
 simp[nth,rn];rw[<- hG];exact QL rfl rfl (by simp[Qc])
theorem QwG (h:Qi) (a b c d e f g:Int) (hs:Zf h) (hs':Zf (ZX h ⟨a,b,c,d,e,f,g⟩)):Gh K 98 (.loc 0 0::[Q6 [a,b,c,d,e,f,g]].map .iv) (Qz h) [0] (.iv (.str (chT (ZX h ⟨a,b,c,d,e,f,g⟩)))) (Qz (chH h (ZX h ⟨a,b,c,d,e,f,g⟩))):=by
 refine Qm Qze rfl (by simp[c98]) ?_
 generalize hG:UX 4 (chT (ZX h ⟨a,b,c,d,e,f,g⟩)) (chH h (ZX h ⟨a,b,c,d,e,f,g⟩))=G;have hg:=Ux hK h (ZX h ⟨a,b,c,d,e,f,g⟩) 183 [.ptr [Q6 [a,b,c,d,e,f,g]]] hs hs' (by kernel_rfl) (QEk h a b c d e f g hs)
 simp[c98];refine QC hg (by simp[nth,rn]) (Yi (by simp[Qc])) ?_
 simp[nth,rn];rw[<- hG];exact QL rfl rfl (by simp[Qc])
theorem QwI (h:Qi) (ht:(h.ze.zc.za.getLast?.map (·.zp))=some 4->h.ze.zf≠[]) (hs:Zf h) (hs':Zf (Z5 h)):Gh K 95 (.loc 0 0::[Q6 []].map .iv) (Qz h) [0] (.iv (.str (if h.ze.zc.za=[] then tNo else chT (Z5 h)))) (Qz (if h.ze.zc.za=[] then h else chH h (Z5 h))):=by
 have hl:=hs.ze.za;refine Qm Qzh rfl (by simp[c95]) ?_
 by_cases hne:h.ze.zc.za=[]
 ·simp only[hne,if_true]
  generalize hG:UX 4 tNo h=G;simp[c95,hne];refine QhP _ _ _ _ _ _ _ _ ?_;simp;rw[<- hG];exact QL rfl rfl (by simp[Qc,hne])
 simp only[hne,if_false];generalize hG:UX 4 (chT (Z5 h)) (chH h (Z5 h))=G;have hlen:=QJQ.2 hne;have hg:=Ux hK h (Z5 h) 180 [.ptr [.int .i64 ((h.ze.zc.za.length:Int)-1)]] hs hs' (by kernel_rfl) (QEn h hne ht hs)
 have xa:¬ (h.ze.zc.za.length:Int)-1<0:=by omega
 simp[c95];intro _;refine ⟨by omega,?_⟩
 refine QhP _ _ _ _ _ _ _ _ ?_;simp[xa];refine QC (ids:=[0,5]) hg (by simp[nth,rn]) ?_ ?_
 ·refine ⟨by decide,by simp[clA],fun q hq=>?_,fun i hi h1=>?_,fun q hq=>?_⟩
  ·have h1:=Js h q hq
   refine ⟨by grind,?_,h1.2.2,h1.2.1⟩
   simp only[QJw,QJD,or_false] at hq;subst hq;simp[Qc,nth,rnO,rnL,rn]
  ·simp at hi
   have:i=0\/i=1:=by omega
   rcases this with rfl | rfl
   ·simp[Qc] at h1
   simp[Qc,nth]
  have h1:=Js (chH h (Z5 h)) q hq
  grind
 simp[nth,rn];rw[<- hG];exact QL rfl rfl (by simp[Qc])
omit hK
theorem Qe4:∀ l:List Txt,Lib.join l [32]=YH l
 | []=>rfl
 | [x]=>by simp[Lib.join,YH]
 | x::y::r=>by
   have:=Qe4 (y::r);simp only[YH];rw[<- this];simp[Lib.join]
theorem Qyv (w:Txt) (hw:w.length<=1000):∃ n,((QiH w).isSome=true->n=(QiH w).getD 0)/\Gd KW 138 [.str w] (.xd [.int .i64 n,.bool (QiH w).isSome]):=by
 have g1:=QxU w hw;have g3:=QxT w [45];cases hv:QiH w with
 | some v =>
   obtain ⟨h1,h2,h3⟩:=Qow hv;have hb:=Lib.atoiAll_bounds h3;have g2:=Qjb v hb;rw[h3] at g1;rw[h1] at g2;refine ⟨v,fun _=>rfl,Qb hKW QfI (by simp) ?_⟩
   have h2':((Lib.trimPrefix w [45]).length:Int)<=9:=by omega
   simp;refine cK (by simpa using g1) ?_
   simp;refine cK (by simpa using g2) ?_
   simp;refine cK (by simpa using g3) ?_
   simp[h2']
 | none =>
   cases ha:Lib.atoiAll w with
   | ok v =>
     have hb:=Lib.atoiAll_bounds ha;have g2:=Qjb v hb;rw[ha] at g1;refine ⟨v,fun h=>by simp at h,Qb hKW QfI (by simp) ?_⟩
     simp;refine cK (by simpa using g1) ?_
     simp;refine cK (by simpa using g2) ?_
     by_cases hi:Lib.itoa v=w
     ·have hl:¬ (Lib.trimPrefix w [45]).length<=9:=fun h=>by
       have:=QoU hi h
       grind
      have hl':¬ ((Lib.trimPrefix w [45]).length:Int)<=9:=by omega
      simp[hi];refine cK (by simpa using g3) ?_
      simp;omega
     simp[hi]
   | range =>
     rw[ha] at g1;refine ⟨Lib.atoiSat w,fun h=>by simp at h,Qb hKW QfI (by simp) ?_⟩
     simp;refine cK (by simpa using g1) ?_
     simp
   | _ =>
     rw[ha] at g1;refine ⟨0,fun h=>by simp at h,Qb hKW QfI (by simp) ?_⟩
     simp;refine cK (by simpa using g1) ?_
     simp
theorem Qfb (e:Int) (l:List Int) (h:e=0->Qbl l):Gd KW 184 [.int .i64 e,Q6 l] (.str (YE l e)):=by
 refine Qb hKW (fk func184 QH0 (by kernel_rfl)) (by simp) ?_
 unfold YE Jf;by_cases h0:e=0;rotate_left
 ·by_cases h3:e=3
  ·simp[h3,QnY]
  simp[h0,h3,tNo]
 ·subst h0
  have hl:=h rfl;have h1:=hl.1;by_cases hne:l=[]
  ·subst hne
   simp[QnY]
  ·have hpos:=QJQ.2 hne
   have hne':¬ (l.length:Int)=0:=by omega
   simp[hne,hne'];intro _;refine Qw (fun i=>[(5,AV.yl 5 i),(16,AV.iv (Q6 l)),(17,AV.iv (.int .i64 l.length)),(18,AV.iv (.int .i64 (i:Nat)))]) (fun i=>[(5,.arr 9 1 (emb (((l.take i).map Lib.itoa).map fun s=>[.str s])) 0)]) l.length (fun _=>True) trivial ?_ ?_
   ·intro _
    have hj:=QdR hl l.length;rw[QJF] at hj;have hg:=Qxy (l.map Lib.itoa) (by simpa using h1) (by rw[Qe4];omega)
    rw[Qe4] at hg;rw[Qa QkE.eq_1];simp[-List.map_map,QbY];rw[QJp (by simp)]
    refine YO (by simpa using hg) (.inr rfl) ?_
    simp
   ·intro i hi _ ih
    have hg:=Qjb l[i] (by have:=hl.2 l[i] (QJo hi);omega)
    have e3:List.take (i+1) (List.map ((fun s=>[IV.str s])∘Lib.itoa) l)=List.take i (List.map ((fun s=>[IV.str s])∘Lib.itoa) l)++[[.str (Lib.itoa l[i])]]:=by
     rw[QJk (by simpa using hi)]
     simp
    rw[Qa QkE.eq_1];simp[hi] at ih |-;rw[e3] at ih;refine cK (by simpa using hg) ?_
    simp
    grind
theorem qN (l:List Int) (e:Int) (h:e=0->Qbl l):Gd KW 100 [Q6 l,.int .i64 e] (.str (YE l e)):=by
 refine Qb hKW (fk func100 QIP (by kernel_rfl)) (by simp) ?_
 have hg:=Qfb e l h;simp;refine cK (by simpa using hg) ?_
 simp
theorem Qfg (n e:Int) (h:e=0->Qbl [n]):Gd KW 105 [.int .i64 n,.int .i64 e] (.str (YE [n] e)):=by
 refine Qb hKW (fk func105 QIM (by kernel_rfl)) (by simp) ?_
 have hg:=Qfb e [n] h;simp;refine cK (by simpa using hg) ?_
 simp
theorem Qff (a b e:Int) (h:e=0->Qbl [a,b]):Gd KW 108 [.agg [.int .i64 a,.int .i64 b],.int .i64 e] (.str (YE [a,b] e)):=by
 refine Qb hKW (fk func108 QIK (by kernel_rfl)) (by simp) ?_
 have hg:=Qfb e [a,b] h;simp;refine cK (by simpa using hg) ?_
 simp
theorem Qfe (n e:Int) (h:e=0->n=1\/n=2\/n=3):Gd KW 117 [.int .i64 n,.int .i64 e] (.str (QdP n e)):=by
 refine Qb hKW (fk func117 QIF (by kernel_rfl)) (by simp) ?_
 unfold QdP;by_cases h0:e=0
 ·rcases h h0 with rfl | rfl | rfl<;>simp[h0,QnX,QuK,Qk7]
 have hg:=Qfb e [] (fun h=>absurd h h0)
 simp[h0];refine cK (by simpa using hg) ?_
 simp
abbrev Sml (n:Int):Prop := -1000000000000000<=n/\n<=1000000000000000
theorem Ui {l:List Int} (h:∀ x∈l,Sml x):Sml (span l).1/\Sml (span l).2:=by
 by_cases hne:l=[]
 ·subst hne;simp[Sml]
 obtain ⟨h1,h2⟩:=QeB l hne
 grind
theorem Qf7 (l:List Int) (lo hi:Int) (h1 : -1000000<=lo) (h3:hi<=1000000) (h4:hi-lo<=999999):Qbl (Jw l lo hi):=by
 refine ⟨?_,fun n hn=>?_⟩
 ·have:=Qif l lo (hi+1-lo).toNat
  unfold Jw;omega
 have:=(U2 l lo hi n).1 hn;omega
theorem QmU (l:List Int):(ZC l).length<=l.length:=by
 unfold ZC;rw[List.length_mergeSort,QJA];exact W7 l
theorem Qm0 (c:Qg):(Qp c).length<=2 ^ Xr c.za:=by
 unfold Qp
 grind
theorem Qit {c:Qg} (hc:OkC c):(Qp c).length<=4096:=by
 have h1:=Qm0 c;have h2:=U0 c.za;have h3:=hc.len;have h4:2 ^ Xr c.za<=2 ^ 12:=QKD (by omega) (by omega)
 omega
theorem Qlb {c:Qg} (hc:OkC c) (f:Nat->Int) (h:∀ n,-1000<=f n/\f n<=1000):Qbl (ZC ((Qp c).map f)):=by
 refine ⟨?_,fun n hn=>?_⟩
 ·have h1:=QmU ((Qp c).map f)
  have h2:=Qit hc
  grind
 rw[YW] at hn
 grind
theorem Qzd {c:Qg} (hc:OkC c) (e:Nat->Int):∀ x∈cab c.za e c.za.length,x<12:=fun x hx=>by
 have h1:=W9 c.za e c.za.length x hx;have h2:=QmG c.za c.za.length;have h3:=hc.len;omega
theorem QqF {c:Qg} (hc:OkC c) (e:Nat->Int):(cab c.za e c.za.length).length<=12:=by
 have h1:=Xb e hc.za c.za.length (QJn _) (QJn _);have h2:=OkD.cnt hc.za c.za.length (QJn _) (QJn _);have h3:=hc.len;omega
theorem QuE {c:Qg} (hc:OkC c) (n:Int):Qbl (QnQ c n):=by
 unfold QnQ;split
 ·refine Qlb hc _ fun k=>?_
  unfold qr;have:=Qzd hc (Q2 c.za k);rw[List.getD_eq_getElem?_getD];cases h:(cab c.za (Q2 c.za k) c.za.length)[n.toNat]? with
  | none=>simp
  | some x =>
    have:=this x (QJx h);simp;omega
 exact QeV
theorem QvG {c:Qg} (hc:OkC c) (n:Int):Qbl (QnR c n):=by
 unfold QnR;split
 ·refine Qlb hc _ fun k=>?_
  unfold Qdp WJ fi;have h1:=QqF hc (Q2 c.za k)
  grind
 exact QeV
theorem QsT {c:Qg} (hc:OkC c):Qbl [(WG c).1]:=by
 have h1:=hc.slen;unfold WG;rw[if_pos hc];split
 ·rename_i n hn
  unfold Qd5 at hn;have:=List.mem_of_find?_eq_some hn;rw[QJN] at this;exact YG (by simp only;omega)
 exact YG (by simp)
theorem QoJ {m:Machine} (w mn:Int):Qbl [(JS m w mn).1,(JS m w mn).2]:=by
 have key:∀ s∈tL m (qh w mn 0),Sml (Qcb m w mn s)/\Sml (upS m w mn s):=fun s hs=>by
  obtain ⟨hm,ha,ho⟩:=QDt hs;have ha:=of_decide_eq_true ha;obtain ⟨n1,n2⟩:=hm.numB ho ha.1 ha.2.1;obtain ⟨d1,d2⟩:=hm.denB ho;unfold Qcb upS Sml;have q1:=QJS n1 (b:=den s);have q2:=QJS (show 0<=num m s w mn+den s-1 by omega) (b:=den s)
  rw[q1,q2];have a1:=Int.ediv_nonneg n1 (show 0<=den s by omega)
  have a2:=Int.ediv_le_self (den s) n1;have a3:=Int.ediv_nonneg (show 0<=num m s w mn+den s-1 by omega) (show 0<=den s by omega)
  have a4:=Int.ediv_le_self (den s) (show 0<=num m s w mn+den s-1 by omega)
  omega
 unfold JS;refine QeU (Ui fun x hx=>?_).1 (Ui fun x hx=>?_).2
 all_goals grind
theorem Qum (p:Qe) (n:Int):Qbl (Qap p n):=Qf7 _ 0 12 (by omega) (by omega) (by omega)
theorem Qr5 (p:Qe) (n:Int):Qbl [(VS p n).1,(VS p n).2]:=by
 unfold VS;split
 ·exact QoJ _ _
 exact QeU (by simp) (by simp)
theorem QyP {p:Qe} (hp:OkP p):Qbl [(rFail p).1,(rFail p).2]:=by
 have h1:p.zf.length<=12:=by
  rw[hp.many];exact QJ7 (QgD _) hp.zc.len
 have key:∀ x∈(kL p true).map (fun t=>(Xm p t:Int)),Sml x:=fun x hx=>by
  obtain ⟨t,_,rfl⟩:=QJz.1 hx;have:=Ql5 p t;omega
 exact QeU (Ui key).1 (Ui key).2
theorem QzC {α:Type} {pc:Nat->List α} {n:Nat} {x:α} (h:x∈acc pc n):∃ i<n,x∈pc i:=by
 unfold acc at h
 grind
theorem Qwf {p:Qe} (hp:OkP p):Qbl (QeO p):=by
 have h2:=OkD.cnt hp.zc.za p.zc.za.length (QJn _) (QJn _);have h3:=hp.zc.len;have h4:(Qs p.zc.za).toNat<=12:=by unfold Qs;omega
 unfold QeO;split
 ·refine ⟨?_,fun n hn=>?_⟩
  ·refine QJ7 (QfM _ 1 (fun i=>?_) _) (by omega)
   split<;>simp
  obtain ⟨i,hi,hx⟩:=QzC hn
  grind
 exact QeV
theorem QrE (p:Qe):Qbl [(Vv p).1]:=by
 have h:=Qom p;unfold Vv;split
 ·split
  ·exact YG (by simp)
  exact YG (by simp only;omega)
 exact YG (by simp)
theorem QrG (p:Qe):Qbl [(Jj p).1]:=by
 unfold Jj;split
 ·unfold JA
  split
  ·split
   ·exact YG (by simp)
   have:=(Qne p.zb (tL p.zb (qh 0 0 p.zo)) 0 p.zo).1;exact YG (by simp only;omega)
  exact YG (by simp)
 exact YG (by simp)
theorem QmN (u:Zl):Qbl [(span ((uL u true).map QaG)).1,(span ((uL u true).map QaG)).2]:=by
 have key:∀ x∈(uL u true).map QaG,Sml x:=fun x hx=>by
  obtain ⟨t,ht,rfl⟩:=QJz.1 hx;have:=Qz5 ht;unfold QaG Sml;omega
 exact QeU (Ui key).1 (Ui key).2
theorem Qzz (u:Zl):Qbl [(QeP u).1]:=by
 unfold QeP;split
 ·split
  ·rename_i n hn
   unfold QnD at hn;have:=List.mem_of_find?_eq_some hn;rw[QJN] at this;exact YG (by simp only;omega)
  exact YG (by simp)
 exact YG (by simp)
theorem Qv7 (u:Zl) (n:Int):Qbl (Qm3 u n):=by
 unfold Qm3;split
 ·rename_i h
  obtain ⟨hp,hb,_⟩:=Qes h;have hb:=of_decide_eq_true hb;simp only[inR] at hb;have xa:n.toNat<u.zi.length:=by omega
  have hr:=hp.zi _ (QJo xa);rw[List.getD_eq_getElem?_getD,QJi xa,QKj];simp only[WK,inR] at hr;exact Qf7 _ _ _ (by omega) (by omega) (by omega)
 exact QeV
theorem Qbt (a b:Int):XZ a b=1\/XZ a b=2\/XZ a b=3:=by
 unfold XZ;omega
theorem QtN {p:Qe} (h:kE p true=0):rCond p=1\/rCond p=2\/rCond p=3:=by
 unfold rCond;rw[if_pos h];exact Qbt _ _
theorem QsJ {p:Qe} (h:kE p true=0):rGood p=1\/rGood p=2\/rGood p=3:=by
 unfold rGood;rw[if_pos h];exact Qbt _ _
theorem Qm5 {p:Qe} {n:Int} (h:kE p (qD p n)=0):rProved p n=1\/rProved p n=2\/rProved p n=3:=by
 unfold rProved;rw[if_pos h];exact Qbt _ _
theorem Qo5 {u:Zl} {n:Int} (h:uE u (QeS n)=0):Qao u n=1\/Qao u n=2\/Qao u n=3:=by
 unfold Qao QdX;omega
theorem Qj {h:Qi} (ho:okH h):Zf h:=by
 have h1:=ho.1.zc.len;have h2:=ho.1.zc.slen;have h3:=ho.1.zb.len;have h4:=ho.1.zb.blen;have h5:=ho.1.many;have h6:=QgD h.ze.zc.za;have h7:=ho.2.rlen;have h8:=ho.2.xlen;exact ⟨⟨by omega,by omega,by omega,by omega,by omega⟩,by omega,by omega⟩
theorem QqH:Zp prog 99 c99 [0]:=⟨_,func99,by kernel_rfl⟩
theorem Qul:Zp prog 102 QCy [0]:=⟨_,func102,by kernel_rfl⟩
theorem Quk:Zp prog 104 QCx [0]:=⟨_,func104,by kernel_rfl⟩
theorem Quj:Zp prog 107 QCw [0]:=⟨_,func107,by kernel_rfl⟩
theorem Qui:Zp prog 110 QCu [0]:=⟨_,func110,by kernel_rfl⟩
theorem Quh:Zp prog 112 QCt [0]:=⟨_,func112,by kernel_rfl⟩
theorem Qug:Zp prog 114 QCs [0]:=⟨_,func114,by kernel_rfl⟩
theorem Quf:Zp prog 116 QCr [0]:=⟨_,func116,by kernel_rfl⟩
theorem Que:Zp prog 119 QCq [0]:=⟨_,func119,by kernel_rfl⟩
theorem Qud:Zp prog 121 QCp [0]:=⟨_,func121,by kernel_rfl⟩
theorem Quc:Zp prog 123 QCo [0]:=⟨_,func123,by kernel_rfl⟩
theorem Qub:Zp prog 125 QCn [0]:=⟨_,func125,by kernel_rfl⟩
theorem Qua:Zp prog 127 QCm [0]:=⟨_,func127,by kernel_rfl⟩
theorem Qt9:Zp prog 129 QCl [0]:=⟨_,func129,by kernel_rfl⟩
theorem Qt8:Zp prog 131 QCk [0]:=⟨_,func131,by kernel_rfl⟩
theorem Qt7:Zp prog 133 QCj [0]:=⟨_,func133,by kernel_rfl⟩
theorem Qt6:Zp prog 135 QCi [0]:=⟨_,func135,by kernel_rfl⟩
theorem Qpc (h:Qi) (a:Int) (ho:okH h) (hf:Qdk h):Gh KW 99 (.loc 0 0::[Q6 [a]].map .iv) (Qz h) [0] (.iv (.str (JK h .who [a]))) (Qz h):=by
 have hc:=ho.1.zc;obtain ⟨⟨h1,h2,h3,h4,h5⟩,h6,h7⟩:=Qj ho;refine Qm QqH rfl (by simp[c99]) ?_
 generalize hG:UX 4 (JK h .who [a]) h=G;have g1:=Qfh hKW h.ze.zc a h1 h2;have g2:=qN (QnQ h.ze.zc a) (Xn h.ze.zc (plB h.ze.zc a)) (fun _=>QuE hc a)
 have e1:(if Xn h.ze.zc (decide (inR a 0 (Qs h.ze.zc.za-1)))=0 then ZC ((Qp h.ze.zc).map (qr h.ze.zc a)) else [])=QnQ h.ze.zc a:=rfl
 have e2:Xn h.ze.zc (decide (inR a 0 (Qs h.ze.zc.za-1)))=Xn h.ze.zc (plB h.ze.zc a):=rfl;rw[e1,e2] at g1;simp[c99];refine cK (by simpa using g1) ?_
 simp;refine cK (by simpa using g2) ?_
 simp;rw[<- hG];exact QL rfl rfl (by simp[Qc])
theorem QsH (h:Qi) (a:Int) (ho:okH h) (hf:Qdk h):Gh KW 102 (.loc 0 0::[Q6 [a]].map .iv) (Qz h) [0] (.iv (.str (JK h .wher [a]))) (Qz h):=by
 have hc:=ho.1.zc;obtain ⟨⟨h1,h2,h3,h4,h5⟩,h6,h7⟩:=Qj ho;refine Qm Qul rfl (by simp[QCy]) ?_
 generalize hG:UX 4 (JK h .wher [a]) h=G;have g1:=QyL hKW h.ze.zc a h1 h2;have g2:=qN (QnR h.ze.zc a) (Xn h.ze.zc (Wf h.ze.zc a)) (fun _=>QvG hc a)
 have e1:(if Xn h.ze.zc (Wf h.ze.zc a)=0 then ZC ((Qp h.ze.zc).map (Qdp h.ze.zc a)) else [])=QnR h.ze.zc a:=rfl
 rw[e1] at g1;simp[QCy];refine cK (by simpa using g1) ?_
 simp;refine cK (by simpa using g2) ?_
 simp;rw[<- hG];exact QL rfl rfl (by simp[Qc])
theorem QsG (h:Qi) (ho:okH h) (hf:Qdk h):Gh KW 104 (.loc 0 0::[Q6 []].map .iv) (Qz h) [0] (.iv (.str (JK h .first []))) (Qz h):=by
 have hc:=ho.1.zc;obtain ⟨⟨h1,h2,h3,h4,h5⟩,h6,h7⟩:=Qj ho;refine Qm Quk rfl (by simp[QCx]) ?_
 generalize hG:UX 4 (JK h .first []) h=G;have g1:=QyK hKW h.ze.zc h1 h2;have g2:=Qfg (WG h.ze.zc).1 (WG h.ze.zc).2 (fun _=>QsT hc)
 simp[QCx];refine cK (by simpa using g1) ?_
 simp;refine cK (by simpa using g2) ?_
 simp;rw[<- hG];exact QL rfl rfl (by simp[Qc])
theorem QsF (h:Qi) (a b:Int) (ho:okH h) (hf:Qdk h):Gh KW 107 (.loc 0 0::[Q6 [a,b]].map .iv) (Qz h) [0] (.iv (.str (JK h .pulls [a,b]))) (Qz h):=by
 have hc:=ho.1.zc;obtain ⟨⟨h1,h2,h3,h4,h5⟩,h6,h7⟩:=Qj ho;refine Qm Quj rfl (by simp[QCw]) ?_
 generalize hG:UX 4 (JK h .pulls [a,b]) h=G;have g1:=QpG hKW h.ze.zb a b h3 h4;have g2:=Qff (JS h.ze.zb a b).1 (JS h.ze.zb a b).2 (tE h.ze.zb (qh a b 0)) (fun _=>QoJ a b)
 simp[QCw];refine cK (by simpa using g1) ?_
 simp;refine cK (by simpa using g2) ?_
 simp;rw[<- hG];exact QL rfl rfl (by simp[Qc])
theorem QsE (h:Qi) (a:Int) (ho:okH h) (hf:Qdk h):Gh KW 110 (.loc 0 0::[Q6 [a]].map .iv) (Qz h) [0] (.iv (.str (JK h .z5 [a]))) (Qz h):=by
 have hc:=ho.1.zc;obtain ⟨⟨h1,h2,h3,h4,h5⟩,h6,h7⟩:=Qj ho;refine Qm Qui rfl (by simp[QCu]) ?_
 generalize hG:UX 4 (JK h .z5 [a]) h=G;have g1:=QyJ hKW h.ze a hf.ze;have g2:=qN (Qap h.ze a) (kE h.ze (Xd h.ze a)) (fun _=>Qum h.ze a)
 simp[QCu];refine cK (by simpa using g1) ?_
 simp;refine cK (by simpa using g2) ?_
 simp;rw[<- hG];exact QL rfl rfl (by simp[Qc])
theorem QsD (h:Qi) (a:Int) (ho:okH h) (hf:Qdk h):Gh KW 112 (.loc 0 0::[Q6 [a]].map .iv) (Qz h) [0] (.iv (.str (JK h .loads [a]))) (Qz h):=by
 have hc:=ho.1.zc;obtain ⟨⟨h1,h2,h3,h4,h5⟩,h6,h7⟩:=Qj ho;refine Qm Quh rfl (by simp[QCt]) ?_
 generalize hG:UX 4 (JK h .loads [a]) h=G;have g1:=QyI hKW h.ze a hf.ze;have g2:=Qff (VS h.ze a).1 (VS h.ze a).2 (QiA h.ze a) (fun _=>Qr5 h.ze a)
 have e1:(if kE h.ze (Xd h.ze a)=0 then (JS h.ze.zb (tr h.ze a.toNat).zm (tr h.ze a.toNat).zn).1 else 0)=(VS h.ze a).1:=by unfold VS;split<;>rfl
 have e2:(if kE h.ze (Xd h.ze a)=0 then (JS h.ze.zb (tr h.ze a.toNat).zm (tr h.ze a.toNat).zn).2 else 0)=(VS h.ze a).2:=by unfold VS;split<;>rfl
 have e3:(if kE h.ze (Xd h.ze a)=0 then tE h.ze.zb (qh (tr h.ze a.toNat).zm (tr h.ze a.toNat).zn 0) else kE h.ze (Xd h.ze a))=QiA h.ze a:=rfl
 rw[e1,e2,e3] at g1;simp[QCt];refine cK (by simpa using g1) ?_
 simp;refine cK (by simpa using g2) ?_
 simp;rw[<- hG];exact QL rfl rfl (by simp[Qc])
theorem QsC (h:Qi) (ho:okH h) (hf:Qdk h):Gh KW 114 (.loc 0 0::[Q6 []].map .iv) (Qz h) [0] (.iv (.str (JK h .y7 []))) (Qz h):=by
 have hc:=ho.1.zc;obtain ⟨⟨h1,h2,h3,h4,h5⟩,h6,h7⟩:=Qj ho;refine Qm Qug rfl (by simp[QCs]) ?_
 generalize hG:UX 4 (JK h .y7 []) h=G;have g1:=QyH hKW h.ze hf.ze;have g2:=Qff (rFail h.ze).1 (rFail h.ze).2 (kE h.ze true) (fun _=>QyP ho.1)
 simp[QCs];refine cK (by simpa using g1) ?_
 simp;refine cK (by simpa using g2) ?_
 simp;rw[<- hG];exact QL rfl rfl (by simp[Qc])
theorem QsB (h:Qi) (ho:okH h) (hf:Qdk h):Gh KW 116 (.loc 0 0::[Q6 []].map .iv) (Qz h) [0] (.iv (.str (JK h .y6 []))) (Qz h):=by
 have hc:=ho.1.zc;obtain ⟨⟨h1,h2,h3,h4,h5⟩,h6,h7⟩:=Qj ho;refine Qm Quf rfl (by simp[QCr]) ?_
 generalize hG:UX 4 (JK h .y6 []) h=G;have g1:=QyG hKW h.ze hf.ze;have g2:=Qfe (rCond h.ze) (kE h.ze true) QtN;simp[QCr];refine cK (by simpa using g1) ?_
 simp;refine cK (by simpa using g2) ?_
 simp;rw[<- hG];exact QL rfl rfl (by simp[Qc])
theorem QsA (h:Qi) (a:Int) (ho:okH h) (hf:Qdk h):Gh KW 119 (.loc 0 0::[Q6 [a]].map .iv) (Qz h) [0] (.iv (.str (JK h .y8 [a]))) (Qz h):=by
 have hc:=ho.1.zc;obtain ⟨⟨h1,h2,h3,h4,h5⟩,h6,h7⟩:=Qj ho;refine Qm Que rfl (by simp[QCq]) ?_
 generalize hG:UX 4 (JK h .y8 [a]) h=G;have g1:=QyF hKW h.ze a hf.ze;have g2:=Qfe (rProved h.ze a) (kE h.ze (qD h.ze a)) Qm5;simp[QCq];refine cK (by simpa using g1) ?_
 simp;refine cK (by simpa using g2) ?_
 simp;rw[<- hG];exact QL rfl rfl (by simp[Qc])
theorem Qsz (h:Qi) (ho:okH h) (hf:Qdk h):Gh KW 121 (.loc 0 0::[Q6 []].map .iv) (Qz h) [0] (.iv (.str (JK h .opn []))) (Qz h):=by
 have hc:=ho.1.zc;obtain ⟨⟨h1,h2,h3,h4,h5⟩,h6,h7⟩:=Qj ho;refine Qm Qud rfl (by simp[QCp]) ?_
 generalize hG:UX 4 (JK h .opn []) h=G;have g1:=QyE hKW h.ze hf.ze;have g2:=qN (QeO h.ze) (kE h.ze true) (fun _=>Qwf ho.1)
 simp[QCp];refine cK (by simpa using g1) ?_
 simp;refine cK (by simpa using g2) ?_
 simp;rw[<- hG];exact QL rfl rfl (by simp[Qc])
theorem Qsy (h:Qi) (ho:okH h) (hf:Qdk h):Gh KW 123 (.loc 0 0::[Q6 []].map .iv) (Qz h) [0] (.iv (.str (JK h .good []))) (Qz h):=by
 have hc:=ho.1.zc;obtain ⟨⟨h1,h2,h3,h4,h5⟩,h6,h7⟩:=Qj ho;refine Qm Quc rfl (by simp[QCo]) ?_
 generalize hG:UX 4 (JK h .good []) h=G;have g1:=QyD hKW h.ze hf.ze;have g2:=Qfe (rGood h.ze) (kE h.ze true) QsJ;simp[QCo];refine cK (by simpa using g1) ?_
 simp;refine cK (by simpa using g2) ?_
 simp;rw[<- hG];exact QL rfl rfl (by simp[Qc])
theorem Qsx (h:Qi) (ho:okH h) (hf:Qdk h):Gh KW 125 (.loc 0 0::[Q6 []].map .iv) (Qz h) [0] (.iv (.str (JK h .worth []))) (Qz h):=by
 have hc:=ho.1.zc;obtain ⟨⟨h1,h2,h3,h4,h5⟩,h6,h7⟩:=Qj ho;refine Qm Qub rfl (by simp[QCn]) ?_
 generalize hG:UX 4 (JK h .worth []) h=G;have g1:=QyC hKW h.ze hf.ze;have g2:=Qfg (Vv h.ze).1 (Vv h.ze).2 (fun _=>QrE h.ze)
 simp[QCn];refine cK (by simpa using g1) ?_
 simp;refine cK (by simpa using g2) ?_
 simp;rw[<- hG];exact QL rfl rfl (by simp[Qc])
theorem QlU (h:Qi) (ho:okH h) (hf:Qdk h):Gh KW 127 (.loc 0 0::[Q6 []].map .iv) (Qz h) [0] (.iv (.str (JK h .zm []))) (Qz h):=by
 have hc:=ho.1.zc;obtain ⟨⟨h1,h2,h3,h4,h5⟩,h6,h7⟩:=Qj ho;refine Qm Qua rfl (by simp[QCm]) ?_
 generalize hG:UX 4 (JK h .zm []) h=G;have g1:=QyB hKW h.ze hf.ze;have g2:=Qfg (Jj h.ze).1 (Jj h.ze).2 (fun _=>QrG h.ze)
 have e1:(if kE h.ze true=0 then (JA h.ze.zb 0 h.ze.zo).1 else 0)=(Jj h.ze).1:=by unfold Jj;split<;>rfl
 have e2:(if kE h.ze true=0 then (JA h.ze.zb 0 h.ze.zo).2 else kE h.ze true)=(Jj h.ze).2:=by unfold Jj;split<;>rfl
 rw[e1,e2] at g1;simp[QCm];refine cK (by simpa using g1) ?_
 simp;refine cK (by simpa using g2) ?_
 simp;rw[<- hG];exact QL rfl rfl (by simp[Qc])
theorem Qsw (h:Qi) (ho:okH h) (hf:Qdk h):Gh KW 129 (.loc 0 0::[Q6 []].map .iv) (Qz h) [0] (.iv (.str (JK h .stretch []))) (Qz h):=by
 have hc:=ho.1.zc;obtain ⟨⟨h1,h2,h3,h4,h5⟩,h6,h7⟩:=Qj ho;refine Qm Qt9 rfl (by simp[QCl]) ?_
 generalize hG:UX 4 (JK h .stretch []) h=G;have g1:=QyA hKW h.zq h6 h7;have g2:=Qff (span ((uL h.zq true).map QaG)).1 (span ((uL h.zq true).map QaG)).2 (uE h.zq true) (fun _=>QmN h.zq)
 simp[QCl];refine cK (by simpa using g1) ?_
 simp;refine cK (by simpa using g2) ?_
 simp;rw[<- hG];exact QL rfl rfl (by simp[Qc])
theorem Qsv (h:Qi) (ho:okH h) (hf:Qdk h):Gh KW 131 (.loc 0 0::[Q6 []].map .iv) (Qz h) [0] (.iv (.str (JK h .best []))) (Qz h):=by
 have hc:=ho.1.zc;obtain ⟨⟨h1,h2,h3,h4,h5⟩,h6,h7⟩:=Qj ho;refine Qm Qt8 rfl (by simp[QCk]) ?_
 generalize hG:UX 4 (JK h .best []) h=G;have g1:=Qyz hKW h.zq h6 h7;have g2:=Qfg (QeP h.zq).1 (QeP h.zq).2 (fun _=>Qzz h.zq)
 simp[QCk];refine cK (by simpa using g1) ?_
 simp;refine cK (by simpa using g2) ?_
 simp;rw[<- hG];exact QL rfl rfl (by simp[Qc])
theorem Qsu (h:Qi) (a:Int) (ho:okH h) (hf:Qdk h):Gh KW 133 (.loc 0 0::[Q6 [a]].map .iv) (Qz h) [0] (.iv (.str (JK h .holds [a]))) (Qz h):=by
 have hc:=ho.1.zc;obtain ⟨⟨h1,h2,h3,h4,h5⟩,h6,h7⟩:=Qj ho;refine Qm Qt7 rfl (by simp[QCj]) ?_
 generalize hG:UX 4 (JK h .holds [a]) h=G;have g1:=Qyy hKW h.zq a h6 h7;have g2:=Qfe (Qao h.zq a) (uE h.zq (QeS a)) Qo5;simp[QCj];refine cK (by simpa using g1) ?_
 simp;refine cK (by simpa using g2) ?_
 simp;rw[<- hG];exact QL rfl rfl (by simp[Qc])
theorem Qst (h:Qi) (a:Int) (ho:okH h) (hf:Qdk h):Gh KW 135 (.loc 0 0::[Q6 [a]].map .iv) (Qz h) [0] (.iv (.str (JK h .zi [a]))) (Qz h):=by
 have hc:=ho.1.zc;obtain ⟨⟨h1,h2,h3,h4,h5⟩,h6,h7⟩:=Qj ho;refine Qm Qt6 rfl (by simp[QCi]) ?_
 generalize hG:UX 4 (JK h .zi [a]) h=G;have g1:=Qyx hKW h.zq a h6 h7;have g2:=qN (Qm3 h.zq a) (uE h.zq (QuS h.zq a)) (fun _=>Qv7 h.zq a)
 simp[QCi];refine cK (by simpa using g1) ?_
 simp;refine cK (by simpa using g2) ?_
 simp;rw[<- hG];exact QL rfl rfl (by simp[Qc])
def QBr:QfQ->FuncId
 | .weld=>91 | .cut=>92 | .turn=>93 | .prove=>94 | .undo=>95 | .see=>96 | .balance=>97 | .read=>98
 | .who=>99 | .wher=>102 | .first=>104 | .pulls=>107 | .z5=>110 | .loads=>112 | .y7=>114 | .y6=>116 | .y8=>119 | .opn=>121 | .good=>123 | .worth=>125 | .zm=>127 | .stretch=>129 | .best=>131 | .holds=>133 | .zi=>135
def QmL (p:Nat × QfQ):IV:=.agg [.int .i64 (p.1:Nat),.fn (QBr p.2)]
def Qbp:List (MK × IV):=UL.map fun p=>(.str p.1,QmL p.2)
theorem Qcm {k:MK} {y:IV} (h:k.kind=.str):∀ {l:List (MK × IV)},QK .str l->QK .str (zn k y l)
 | [],_=>⟨h,trivial⟩
 | p::r,hl=>by
   unfold zn;split
   ·exact ⟨h,hl.2⟩
   exact ⟨hl.1,Qcm h hl.2⟩
include hK
theorem QBc:Gd K 44 [] (.map Qbp):=by
 refine Qb hK (fk func44 c44 (by kernel_rfl)) (by simp) ?_
 simp
 repeat' first | exact trivial | apply And.intro | apply Qcm rfl | kernel_rfl
omit hK
def arV:QfQ->Nat
 | .weld=>4 | .cut=>2 | .turn=>0 | .prove=>3 | .undo=>0 | .see=>5 | .balance=>4 | .read=>7
 | .who=>1 | .wher=>1 | .first=>0 | .pulls=>2 | .z5=>1 | .loads=>1 | .y7=>0 | .y6=>0 | .y8=>1 | .opn=>0 | .good=>0 | .worth=>0 | .zm=>0 | .stretch=>0 | .best=>0 | .holds=>1 | .zi=>1
theorem Qre:∀ p∈UL,p.2.1=arV p.2.2:=by decide
theorem QnT {w:Txt} {n:Nat} {v:QfQ} (h:VE w=some (n,v)):n=arV v:=by
 rcases QmF w with ⟨p,hp,rfl⟩ | hn
 ·rw[QmK p hp] at h
  injection h with h
  have:=Qre p hp
  grind
 rw[Qh5 hn] at h;cases h
theorem QmJ (w:Txt):Qh (.str w) Qbp=(VE w).map QmL:=by
 have key:∀ l:List (Txt × Nat × QfQ),Qh (.str w) (l.map fun p=>(MK.str p.1,QmL p.2))=((l.find? fun p=>p.1==w).map (·.2)).map QmL:=by
  intro l
  induction l with
  | nil=>rfl
  | cons p r ih =>
    simp only[QJC,Qh,List.find?_cons]
    grind
 exact key UL
theorem Zq {h h':Qi} {v:QfQ} {l:List Int} (hv:Uw v=true) (hc:Qfs h v l=some h'):doV h v l=(chT h',chH h h'):=by
 unfold doV chT chH
 grind
theorem Q9 {h:Qi} {v:QfQ} {l:List Int} (hv:Uw v=false):doV h v l=(JK h v l,h):=by
 unfold doV;rw[hv];rfl
theorem XB {h h':Qi} (ho:okH h) (h1:h'.ze.zc.za.length<=h.ze.zc.za.length+1) (h2:h'.ze.zc.zg.length<=h.ze.zc.zg.length+1) (h3:h'.ze.zb.zd.length<=h.ze.zb.zd.length)
  (h4:h'.ze.zb.zk.length<=h.ze.zb.zk.length+1) (h5:h'.ze.zf.length<=h.ze.zf.length+1) (h6:h'.zq.zi.length<=h.zq.zi.length) (h7:h'.zq.zj.length<=h.zq.zj.length+1):Zf h':=by
 have q1:=ho.1.zc.len;have q2:=ho.1.zc.slen;have q3:=ho.1.zb.len;have q4:=ho.1.zb.blen;have q5:=ho.1.many;have q6:=QgD h.ze.zc.za;have q7:=ho.2.rlen;have q8:=ho.2.xlen;exact ⟨⟨by omega,by omega,by omega,by omega,by omega⟩,by omega,by omega⟩
theorem Qh6 {h:Qi} (ho:okH h) (hl:(h.ze.zc.za.getLast?.map (·.zp))=some 4):h.ze.zf≠[]:=by
 rw[QJm] at hl;obtain ⟨d,hd,h4⟩:=hl
 obtain ⟨D,hD⟩:∃ D,h.ze.zc.za=D++[d]:=by
  have hne:h.ze.zc.za≠[]:=fun e=>by grind
  refine ⟨h.ze.zc.za.dropLast,?_⟩;have:=List.getLast?_eq_some_getLast hne;rw[hd] at this;injection this with this
  rw[this];exact (QKm hne).symm
 have hm:=ho.1.many;intro e;rw[e,hD] at hm;unfold pv at hm;rw[Y6] at hm;simp[Yh,VZ,h4] at hm
theorem Qh7 (h:Qi):Qfs h .undo []=if h.ze.zc.za=[] then none else some (Z5 h):=by
 unfold Qfs Z5;cases hd:h.ze.zc.za.getLast? with
 | none =>
   have:h.ze.zc.za=[]:=by simpa using hd
   simp[this]
 | _=>grind
theorem Qse (h:Qi) (ho:okH h) (v:QfQ) (l:List Int) (hf:Uw v=false->Qdk h) (hl:l.length=arV v) :
  Gh KW (QBr v) (.loc 0 0::[Q6 l].map .iv) (Qz h) [0] (.iv (.str (doV h v l).1)) (Qz (doV h v l).2):=by
 have hs:=Qj ho;have l0:∀ l:List Int,l.length=0->l=[]:=fun l h=>QJu h
 have l1:∀ l:List Int,l.length=1->∃ a,l=[a]:=fun l h=>by
  match l,h with
  | [a],_=>exact ⟨a,rfl⟩
 have l2:∀ l:List Int,l.length=2->∃ a b,l=[a,b]:=fun l h=>by
  match l,h with
  | [a,b],_=>grind
 cases v with
 | weld =>
   match l,hl with
   | [a,b,c,d],_ =>
     rw[Zq (h':=Qk h ⟨1,a,b,c,d⟩) rfl rfl];exact Qpe hKW h a b c d hs (XB ho (by simp[Qk]) (by simp[Qk]) (by simp[Qk]) (by simp[Qk]) (by simp[Qk]) (by simp[Qk]) (by simp[Qk]))
 | cut =>
   match l,hl with
   | [a,b],_ =>
     rw[Zq (h':=Qk h ⟨2,a,b,0,0⟩) rfl rfl];exact QwL hKW h a b hs (XB ho (by simp[Qk]) (by simp[Qk]) (by simp[Qk]) (by simp[Qk]) (by simp[Qk]) (by simp[Qk]) (by simp[Qk]))
 | turn =>
   rw[l0 l hl,Zq (h':=Qk h ⟨3,0,0,0,0⟩) rfl rfl];exact QwK hKW h hs (XB ho (by simp[Qk]) (by simp[Qk]) (by simp[Qk]) (by simp[Qk]) (by simp[Qk]) (by simp[Qk]) (by simp[Qk]))
 | prove =>
   match l,hl with
   | [a,b,c],_ =>
     rw[Zq (h':=Zr h ⟨a,b,c⟩) rfl rfl];exact QwJ hKW h a b c hs (XB ho (by simp[Zr]) (by simp[Zr]) (by simp[Zr]) (by simp[Zr]) (by simp[Zr]) (by simp[Zr]) (by simp[Zr]))
 | undo =>
   rw[l0 l hl];have hu:=Qh7 h;have hs':Zf (Z5 h):=XB ho (by simp[Z5];omega) (by simp[Z5]) (by simp[Z5]) (by simp[Z5]) (by simp only[Z5];grind) (by simp[Z5]) (by simp[Z5])
   have hg:=QwI hKW h (Qh6 ho) hs hs';by_cases hne:h.ze.zc.za=[]
   ·rw[if_pos hne] at hu
    rw[if_pos hne,if_pos hne] at hg
    have e:doV h .undo []=(tNo,h):=by
     unfold doV;rw[hu];rfl
    rw[e];exact hg
   rw[if_neg hne] at hu;rw[if_neg hne,if_neg hne] at hg;rw[Zq (h':=Z5 h) rfl hu];exact hg
 | see =>
   match l,hl with
   | [a,b,c,d,e],_ =>
     rw[Zq (h':=Zd h ⟨a,b,c,d,e⟩) rfl rfl];exact Qpd hKW h a b c d e hs (XB ho (by simp[Zd]) (by simp[Zd]) (by simp[Zd]) (by simp[Zd]) (by simp[Zd]) (by simp[Zd]) (by simp[Zd]))
 | balance =>
   match l,hl with
   | [a,b,c,d],_ =>
     rw[Zq (h':=Yy h ⟨a,b,c,d⟩) rfl rfl];exact QwH hKW h a b c d hs (XB ho (by simp[Yy]) (by simp[Yy]) (by simp[Yy]) (by simp[Yy]) (by simp[Yy]) (by simp[Yy]) (by simp[Yy]))
 | read =>
   match l,hl with
   | [a,b,c,d,e,f,g],_ =>
     rw[Zq (h':=ZX h ⟨a,b,c,d,e,f,g⟩) rfl rfl];exact QwG hKW h a b c d e f g hs (XB ho (by simp[ZX]) (by simp[ZX]) (by simp[ZX]) (by simp[ZX]) (by simp[ZX]) (by simp[ZX]) (by simp[ZX]))
 | who=>obtain ⟨a,rfl⟩:=l1 l hl;rw[Q9 rfl];exact Qpc h a ho (hf rfl)
 | wher=>obtain ⟨a,rfl⟩:=l1 l hl;rw[Q9 rfl];exact QsH h a ho (hf rfl)
 | first=>rw[l0 l hl,Q9 rfl];exact QsG h ho (hf rfl)
 | pulls=>obtain ⟨a,b,rfl⟩:=l2 l hl;rw[Q9 rfl];exact QsF h a b ho (hf rfl)
 | z5=>obtain ⟨a,rfl⟩:=l1 l hl;rw[Q9 rfl];exact QsE h a ho (hf rfl)
 | loads=>obtain ⟨a,rfl⟩:=l1 l hl;rw[Q9 rfl];exact QsD h a ho (hf rfl)
 | y7=>rw[l0 l hl,Q9 rfl];exact QsC h ho (hf rfl)
 | y6=>rw[l0 l hl,Q9 rfl];exact QsB h ho (hf rfl)
 | y8=>obtain ⟨a,rfl⟩:=l1 l hl;rw[Q9 rfl];exact QsA h a ho (hf rfl)
 | opn=>rw[l0 l hl,Q9 rfl];exact Qsz h ho (hf rfl)
 | good=>rw[l0 l hl,Q9 rfl];exact Qsy h ho (hf rfl)
 | worth=>rw[l0 l hl,Q9 rfl];exact Qsx h ho (hf rfl)
 | zm=>rw[l0 l hl,Q9 rfl];exact QlU h ho (hf rfl)
 | stretch=>rw[l0 l hl,Q9 rfl];exact Qsw h ho (hf rfl)
 | best=>rw[l0 l hl,Q9 rfl];exact Qsv h ho (hf rfl)
 | holds=>obtain ⟨a,rfl⟩:=l1 l hl;rw[Q9 rfl];exact Qsu h a ho (hf rfl)
 | zi=>obtain ⟨a,rfl⟩:=l1 l hl;rw[Q9 rfl];exact Qst h a ho (hf rfl)
theorem Qzp:Zp prog 45 c45 [0]:=⟨_,func45,by kernel_rfl⟩
theorem Qqz:∀ v:QfQ,callee prog (QBr v)=true:=by
 intro v;cases v<;>kernel_rfl
theorem QiT:QK .str Qbp:=by
 have key:∀ l:List (Txt × Nat × QfQ),QK .str (l.map fun p=>(MK.str p.1,QmL p.2)):=by
  intro l
  induction l with
  | nil=>trivial
  | cons p r ih=>exact ⟨rfl,ih⟩
 exact key UL
theorem Vj (h:Qi) (t:Txt) (hdo:∀ v l,Xi t=some (v,l)->l.length=arV v->Gh KW (QBr v) (.loc 0 0::[Q6 l].map .iv) (Qz h) [0] (.iv (.str (doV h v l).1)) (Qz (doV h v l).2)) (ht:t.length<=1000) :
  Gh KW 45 (.loc 0 0::[.map Qbp,.str t].map .iv) (Qz h) [0] (.iv (.str (ZT h t).1)) (Qz (ZT h t).2):=by
 refine Qm Qzp rfl (by simp[c45]) ?_
 generalize hG:UX 6 (ZT h t).1 (ZT h t).2=G;have g1:=Qyw t ht;have hsl:=Qid t;have hwl:=Qf6 t;cases hs:spl t with
 | nil=>exact absurd hs (QuM t [])
 | cons w ws =>
   rw[hs] at g1 hsl hwl;simp at hsl;have hfd:=QmJ w;simp[c45];refine cK (by simpa using g1) ?_
   simp;refine ⟨QiT,?_⟩;cases hv:VE w with
   | none =>
     have hL:ZT h t=(Qh9,h):=by
      simp[ZT,Xi,hs,hv]
     rw[hv] at hfd;simp only[Option.map_none] at hfd;rw[hL] at hG;simp[hfd];rw[<- hG];exact QL (by simp[Ev.look,Qh9]) (by simp[Ev.look]) (by simp[Qc])
   | some p =>
     obtain ⟨n,v⟩:=p;rw[hv] at hfd;simp only[QKg] at hfd;have har:=QnT hv;simp[hfd,QmL];have h7:n<=7:=by rw[har];cases v<;>decide
     intro _;refine ⟨by omega,fun hq=>?_,fun hq=>?_⟩
     ·have hn:¬ ws.length=n:=fun e=>hq (by omega)
      have hL:ZT h t=(Qh9,h):=by
       simp[ZT,Xi,hs,hv,hn]
      rw[hL] at hG;rw[<- hG];exact QL (by simp[Ev.look,Qh9]) (by simp[Ev.look]) (by simp[Qc])
     have hn:ws.length=n:=by omega
     refine ⟨by omega,fun _ _=>?_⟩
     refine Qw (fun i=>[(0,AV.loc 0 0),(8,AV.loc 8 0),(10,AV.yl 10 ((JB (ws.take i)).getD []).length),(36,AV.iv (.sl 1 (ws.map fun s=>[IV.str s]))),(37,AV.iv (.int .i64 ws.length)),(38,AV.iv (.int .i64 (i:Nat)))])
      (fun i=>[(0,AO.box ((hoC h).map AV.iv)),(8,AO.box [AV.iv (.int .i64 n),AV.iv (.fn (QBr v))]),(10,AO.arr 3 1 (emb (((JB (ws.take i)).getD []).map fun n=>[.int .i64 n])) 0)]) ws.length (fun i=>(JB (ws.take i)).isSome=true) (by simp[JB]) ?_ ?_
     ·intro xc
      rw[QJF] at xc;obtain ⟨l,hl⟩:=QKa.1 xc;have hll:=Qb4 hl
      have hL:ZT h t=doV h v l:=by
       simp[ZT,Xi,hs,hv,hn,hl]
      rw[hL] at hG;have hd:=hdo v l (by simp[Xi,hs,hv,hn,hl]) (by omega)
      rw[Qa QqM.eq_1];simp[hl,QbY];refine ⟨Qqz v,QC hd (by simp[nth,rn]) (Yi (by simp[Qc])) ?_⟩
      simp[nth,rn];rw[<- hG];exact QL rfl rfl (by simp[Qc])
     intro i hi hQ ih;obtain ⟨l,hl⟩:=QKa.1 hQ;have hll:=Qb4 hl;rw[QKT] at hll;have hwi:=hwl ws[i] (by simp)
     obtain ⟨m,hm,hg⟩:=Qyv ws[i] (by omega)
     have hst:=QgN (ws.take i) ws[i];rw[<- QJk hi,hl] at hst;rw[Qa QqM.eq_1];cases hx:QiH ws[i] with
     | none =>
       have hno:JB ws=none:=by
        cases hq:JB ws with
        | none=>rfl
        | some l' =>
          have:=QgM hq ws[i] (by simp)
          grind
       have hL:ZT h t=(Qh9,h):=by
        simp[ZT,Xi,hs,hv,hn,hno]
       rw[hL] at hG;rw[hx] at hg;simp[hi,hl];refine cK (by simpa using hg) ?_
       simp;rw[<- hG];exact QL (by simp[Ev.look,Qh9]) (by simp[Ev.look]) (by simp[Qc])
     | some x =>
       rw[hx] at hg hst hm;have hmx:m=x:=by simpa using hm rfl
       subst hmx;simp only at hst;have ih:=ih (by rw[hst];rfl)
       rw[hst] at ih;simp[hi,hl] at ih |-;refine cK (by simpa using hg) ?_
       simp
       grind
theorem QwM (h:Qi) (ho:okH h) (t:Txt) (hf:∀ v l,Xi t=some (v,l)->Uw v=false->Qdk h) (ht:t.length<=1000) :
  Gh KW 45 (.loc 0 0::[.map Qbp,.str t].map .iv) (Qz h) [0] (.iv (.str (ZT h t).1)) (Qz (ZT h t).2) :=
 Vj h t (fun v l hp hl=>Qse h ho v l (hf v l hp) hl) ht
def h0:Qi:=⟨⟨⟨[],[],0⟩,⟨[],0,0,0,[],0⟩,[],0,0⟩,⟨0,0,0,[],[],0⟩⟩
noncomputable def Qob (h:Qi) (s:List Txt):List Txt:=if okH h then (if 40<s.length then [] else qY h s s.length) else []
noncomputable def QhV (h:Qi) (s:List Txt):Qi:=if okH h then (if 40<s.length then h0 else Xe h s s.length) else h0
theorem Qfd (h:Qi) (s:List Txt) (hs:Zf h) (hl:s.length<=100) (hq:okH h->s.length<=40->∀ i (hi:i<s.length),Gh KW 45 (.loc 0 0::[.map Qbp,.str s[i]].map .iv) (Qz (Xe h s i)) [0] (.iv (.str (ZT (Xe h s i) s[i]).1)) (Qz (ZT (Xe h s i) s[i]).2)) :
  Gd KW 14 [hoV h,strs s] (.xd [strs (Qob h s),hoV (QhV h s),.int .i64 (Qoa h s)]):=by
 refine Qb hKW (fk func14 c14 (by kernel_rfl)) (by simp) ?_
 have g9:=Qvf hKW h hs;unfold QC1 at g9;generalize hG:QuC c14.res (.xd [strs (Qob h s),hoV (QhV h s),.int .i64 (Qoa h s)])=G;unfold Qob QhV Qoa at hG;by_cases ho:okH h;rotate_left
 ·rw[if_neg ho] at g9 hG hG hG
  simp[c14];refine cK (by simpa using g9) ?_
  simp;rw[<- hG];simp[c14,h0]
 rw[if_pos ho] at g9 hG hG hG;simp[c14];refine cK (by simpa using g9) ?_
 by_cases h40:40<s.length
 ·have h40':(40:Int)<s.length:=by omega
  rw[if_pos h40] at hG hG hG;simp[h40'];rw[<- hG];intro _;simp[c14,h0]
 have h40':¬ (40:Int)<s.length:=by omega
 rw[if_neg h40] at hG hG hG;have g28:Gd KW 43 [hoV h] (.agg (hoC h)):=Vk (xs:=[hoV h]) hKW (Qpg hKW h hs) (by simp[Qc])
 have g29:=QBc hKW;simp[h40'];intro _;refine cK (by simpa using g28) ?_
 simp;refine cK (by simpa using g29) ?_
 simp;intro _;have hq:=hq ho (by omega)
 refine Qwo (fun i=>[(4,AV.yl 4 (qY h s i).length),(5,AV.loc 5 0),(8,AV.loc 25 0),(9,AV.iv (IV.map Qbp)),(27,AV.iv (strs s)),(28,AV.iv (.int .i64 s.length)),(29,AV.iv (.int .i64 (i:Nat)))])
  (fun i=>[(4,AO.arr 9 1 (emb ((qY h s i).map fun t=>[.str t])) 0),(5,AO.box ((hoC h0).map AV.iv)),(25,AO.box ((hoC (Xe h s i)).map AV.iv))]) s.length ?_ ?_
 ·rw[Qa Qq6.eq_1]
  simp;rw[<- hG];simp[c14]
 intro i hi ih;have hd:=hq i hi;rw[<- Xs h s i hi] at hd;have hst:=Yc h s i hi;rw[hst] at ih;rw[Qa Qq6.eq_1];simp[hi] at ih |-;refine QC hd (by simp[nth,rn]) (Yi (by simp[Qc])) ?_
 simp[nth,rn];have hal:(qY h s i).length=i:=by simp[qY]
 grind
theorem good14 (h:Qi) (s:List Txt) (hs:Zf h) (hl:s.length<=100) (hw:okH h->s.length<=40->∀ t∈s,t.length<=1000) (hf:okH h->s.length<=40->∀ i (hi:i<s.length) v l,Xi s[i]=some (v,l)->Uw v=false->Qdk (Xe h s i)) :
  Gd KW 14 [hoV h,strs s] (.xd [strs (Qob h s),hoV (QhV h s),.int .i64 (Qoa h s)]) :=
 Qfd h s hs hl fun ho h4 i hi=>QwM _ (Qbx ho i) _ (hf ho h4 i hi) (hw ho h4 _ (QJo hi))
theorem QlT (h:Qi) (a:Int) (ho:okH h):Gh KW 99 (.loc 0 0::[Q6 [a]].map .iv) (Qz h) [0] (.iv (.str (JK h .who [a]))) (Qz h):=by
 have hc:=ho.1.zc;obtain ⟨⟨h1,h2,h3,h4,h5⟩,h6,h7⟩:=Qj ho;refine Qm QqH rfl (by simp[c99]) ?_
 generalize hG:UX 4 (JK h .who [a]) h=G;have g1:=Qfh hKW h.ze.zc a h1 h2;have g2:=qN (QnQ h.ze.zc a) (Xn h.ze.zc (plB h.ze.zc a)) (fun _=>QuE hc a)
 have e1:(if Xn h.ze.zc (decide (inR a 0 (Qs h.ze.zc.za-1)))=0 then ZC ((Qp h.ze.zc).map (qr h.ze.zc a)) else [])=QnQ h.ze.zc a:=rfl
 have e2:Xn h.ze.zc (decide (inR a 0 (Qs h.ze.zc.za-1)))=Xn h.ze.zc (plB h.ze.zc a):=rfl;rw[e1,e2] at g1;simp[c99];refine cK (by simpa using g1) ?_
 simp;refine cK (by simpa using g2) ?_
 simp;rw[<- hG];exact QL rfl rfl (by simp[Qc])
def sgM (l:Zz) (at_:Int) (k:Nat):Yz:=⟨(l.zc.za.length:Nat),at_+(k:Nat),0,(l.marks.getD k (0,0)).1,(l.marks.getD k (0,0)).2⟩
def sgL (l:Zz) (at_:Int) (i:Nat):List Yz:=(List.range i).map (sgM l at_)
def Qc9 (l:Zz) (at_:Int) (i:Nat):Qi:=⟨⟨⟨l.zc.za,l.zc.zg++sgL l at_ i,l.zc.zh⟩,⟨[],0,0,0,[],0⟩,List.replicate (pv l.zc.za).length ⟨0,0,-1⟩,0,1⟩,⟨0,1,1,[],[],0⟩⟩
theorem Qhc (l:Zz) (at_:Int) (i:Nat):Zd (Qc9 l at_ i) (sgM l at_ i)=Qc9 l at_ (i+1):=by simp[Zd,Qc9,sgL,QJT]
def Qn3 (l:Zz) (at_:Int) (k:Nat):List Int:=[((l.zc.za.length:Nat):Int),at_+(k:Nat),0,(l.marks.getD k (0,0)).1,(l.marks.getD k (0,0)).2]
def QCP (l:Zz) (at_:Int) (i:Nat):List Txt:=(List.range i).map fun k=>[115,101,101,32]++Jf (Qn3 l at_ k)
def QCN (l:Zz) (at_:Int):Txt:=[119,104,111,32]++Lib.itoa (at_+l.z5)
def QfN (l:Zz) (at_:Int):List Txt:=QCP l at_ l.marks.length++[QCN l at_]
structure Qbm (l:Zz) (at_:Int):Prop where
 ok:OkL l
 first:inR at_ 0 (Qs l.zc.za-1)
 last:inR (at_+l.marks.length-1) 0 (Qs l.zc.za-1)
 many:l.zc.zg.length+l.marks.length<=8
 house:okH (Qc9 l at_ 0)
theorem QoM {l:Zz} (hl:OkL l):Qs l.zc.za<=12:=by
 have h1:=hl.zc.za.cnt l.zc.za.length (QJn _) (QJn _);have h2:=hl.zc.len;unfold Qs;omega
theorem Qv3 (l:Zz) (at_:Int) (i:Nat):(sgL l at_ i).length=i:=by simp[sgL]
theorem QoF {l:Zz} (hl:OkL l) (k:Nat):inR (l.marks.getD k (0,0)).1 (-1) 99/\inR (l.marks.getD k (0,0)).2 (-1) 99:=by
 by_cases hk:k<l.marks.length
 ·have h1:=hl.marks _ (QJo hk)
  have e:l.marks.getD k (0,0)=l.marks[k]:=by simp[hk]
  rw[e];simpa[QhL] using h1
 have e:l.marks.getD k (0,0)=(0,0):=by
  rw[List.getD_eq_getElem?_getD,QKY (by omega)]
  rfl
 rw[e];decide
variable {l:Zz} {at_:Int}
theorem Qbm.sight (h:Qbm l at_) {k:Nat} (hk:k<l.marks.length):Yg (sgM l at_ k) l.zc.za:=by
 have h1:=h.first;have h2:=h.last;have h3:=QoF h.ok k;simp only[inR] at h1 h2;refine ⟨?_,by simp[sgM,inR],?_,h3.1,h3.2⟩
 ·simp[sgM,inR]
 simp only[sgM,inR,Int.toNat_natCast];unfold Qs at h1 h2;omega
theorem Qbm.okC (h:Qbm l at_) {i:Nat} (hi:i<=l.marks.length):OkC (Qc9 l at_ i).ze.zc:=by
 have hc:=h.ok.zc;have hm:=h.many;refine ⟨hc.len,?_,hc.zh,hc.za,fun s hs=>?_⟩
 ·simp[Qc9,Qv3]
  omega
 rcases QJG.1 hs with hs | hs
 ·exact hc.zg s hs
 obtain ⟨k,hk,rfl⟩:=QJz.1 hs;exact h.sight (by have:=QJN.1 hk;omega)
theorem Qbm.okH (h:Qbm l at_) {i:Nat} (hi:i<=l.marks.length):Go.Pf.okH (Qc9 l at_ i) :=
 ⟨⟨h.okC hi,h.house.1.zb,h.house.1.zo,h.house.1.z6,h.house.1.many,h.house.1.zf⟩,h.house.2⟩
theorem Qbm.small (h:Qbm l at_) {k:Nat} (hk:k<l.marks.length):∀ n∈Qn3 l at_ k,Yo n:=fun n hn=>by
 have h1:=h.first;have h2:=h.last;have h3:=QoF h.ok k;have h4:=QoM h.ok;have h5:=h.ok.zc.len;simp only[inR] at h1 h2 h3;unfold Yo;simp only[Qn3,QJw,QJD,or_false] at hn;rcases hn with rfl | rfl | rfl | rfl | rfl<;>omega
theorem Qbm.see (h:Qbm l at_) {k:Nat} (hk:k<l.marks.length):Xi ([115,101,101,32]++Jf (Qn3 l at_ k))=some (.see,Qn3 l at_ k):=Qor _ rfl (h.small hk)
theorem Qbm.smallW (h:Qbm l at_):Yo (at_+l.z5):=by
 have h1:=h.first;have h2:=h.last;have h3:=h.ok.z5;have h4:=QoM h.ok;simp only[inR] at h1 h2 h3;unfold Yo;omega
theorem Qbm.who (h:Qbm l at_):Xi (QCN l at_)=some (.who,[at_+l.z5]):=Qb0 h.smallW
theorem Qbm.line (h:Qbm l at_) {k:Nat} (hk:k<l.marks.length):ZT (Qc9 l at_ k) ([115,101,101,32]++Jf (Qn3 l at_ k))=(QcZ,Qc9 l at_ (k+1)):=by
 have ho:=h.okH (i:=k+1) hk;unfold ZT;rw[h.see hk];simp only;rw[Zq (h':=Qc9 l at_ (k+1)) rfl (by rw[<- Qhc];rfl)]
 unfold chT chH;rw[if_pos ho,if_pos ho]
theorem Qik {k:Nat} (hk:k<l.marks.length) (h:k<(QfN l at_).length):(QfN l at_)[k]=[115,101,101,32]++Jf (Qn3 l at_ k):=by
 simp[QfN,QCP,List.getElem_append,hk]
theorem Jy:(QfN l at_).length=l.marks.length+1:=by simp[QfN,QCP]
theorem Qlg (h:l.marks.length<(QfN l at_).length):(QfN l at_)[l.marks.length]=QCN l at_:=by
 simp[QfN,QCP,List.getElem_append]
theorem Qbm.state (h:Qbm l at_):∀ i,i<=l.marks.length->Xe (Qc9 l at_ 0) (QfN l at_) i=Qc9 l at_ i
 | 0,_=>rfl
 | i+1,hi=>by
   have xa:i<(QfN l at_).length:=by rw[Jy];omega
   rw[Xs _ _ i xa,h.state i (by omega),Qik hi xa,h.line hi]
theorem Qbm.answ (h:Qbm l at_):∀ i,i<=l.marks.length->qY (Qc9 l at_ 0) (QfN l at_) i=List.replicate i QcZ
 | 0,_=>rfl
 | i+1,hi=>by
   have xa:i<(QfN l at_).length:=by rw[Jy];omega
   rw[Yc _ _ i xa,h.answ i (by omega),h.state i (by omega),Qik hi xa,h.line hi,List.replicate_succ']
noncomputable def QAz (l:Zz) (at_:Int):Txt:=JK (Qc9 l at_ l.marks.length) .who [at_+l.z5]
theorem Qbm.run (h:Qbm l at_):Qob (Qc9 l at_ 0) (QfN l at_)=List.replicate l.marks.length QcZ++[QAz l at_]/\Qoa (Qc9 l at_ 0) (QfN l at_)=0:=by
 have h8:=h.many;have xa:l.marks.length<(QfN l at_).length:=by rw[Jy];omega
 refine ⟨?_,?_⟩
 ·unfold Qob
  rw[if_pos h.house,if_neg (by rw[Jy];omega),Jy,Yc _ _ _ xa,h.answ _ (QJn _),h.state _ (QJn _),Qlg xa]
  congr 2
  unfold ZT;rw[h.who];simp only;rw[Q9 rfl];rfl
 unfold Qoa;rw[if_pos h.house,if_neg (by rw[Jy];omega)]
theorem Qbm.good14 (h:Qbm l at_):Gd KW 14 [hoV (Qc9 l at_ 0),strs (QfN l at_)] (.xd [strs (List.replicate l.marks.length QcZ++[QAz l at_]),hoV (QhV (Qc9 l at_ 0) (QfN l at_)),.int .i64 0]):=by
 have h8:=h.many
 have hg:=Qfd (Qc9 l at_ 0) (QfN l at_) (Qj h.house) (by rw[Jy];omega) fun _ _ i hi=>by
  rw[Jy] at hi;rw[h.state i (by omega)]
  by_cases hk:i<l.marks.length
  ·have ho:=h.okH (i:=i+1) hk
   have hlen:(Jf (Qn3 l at_ i)).length<=20:=by
    have:=Qa0 (Qn3 l at_ i) (h.small hk);rw[WP (by simp[Qn3])]
    simpa[Qn3] using this
   rw[Qik hk (by rw[Jy];omega)]
   refine Vj _ _ (fun v q hp _=>?_) (by simp;omega)
   rw[h.see hk] at hp;injection hp with hp
   injection hp with h1 h2
   subst h1 h2;rw[Zq (h':=Zd (Qc9 l at_ i) (sgM l at_ i)) rfl rfl]
   exact Qpd hKW (Qc9 l at_ i) _ _ _ _ _ (Qj (h.okH (by omega))) (by
    have:=Qj ho;rw[<- Qhc] at this;exact this)
  have e:i=l.marks.length:=by omega
  subst e;rw[Qlg (by rw[Jy];omega)]
  refine Vj _ _ (fun v q hp _=>?_) (by
   have:=(UO h.smallW).2.2;simp[QCN];omega)
  rw[h.who] at hp;injection hp with hp
  injection hp with h1 h2
  subst h1 h2;rw[Q9 rfl];exact QlT _ _ (h.okH (QJn _))
 rw[h.run.1,h.run.2] at hg;exact hg
def chB (first:List Int) (rest:List Qu):List (List Int):=(Zn rest).map (first++·)
include hK
omit hK
def teT (c:Qg) (i:Nat):List (List Int):=((Zn c.za).take i).filter fun e=>decide ((QY c.za c.zg (QR e):Int)<=c.zh)
theorem Qrc:∀ {a b:List Int},a.Pairwise (·<·)->b.Pairwise (·<·)->(∀ x,x∈a↔x∈b)->a=b
 | [],[],_,_,_=>rfl
 | [],y::b,_,_,h=>absurd ((h y).2 (by simp)) (by simp)
 | x::a,[],_,_,h=>absurd ((h x).1 (by simp)) (by simp)
 | x::a,y::b,ha,hb,h=>by
   have h1:=List.pairwise_cons.1 ha;have h2:=List.pairwise_cons.1 hb
   have hxy:x=y:=by
    have e1:=(h x).1 (by simp)
    have e2:=(h y).2 (by simp)
    rcases QJw.1 e1 with e1 | e1
    ·exact e1
    rcases QJw.1 e2 with e2 | e2
    ·exact e2.symm
    have:=h1.1 y e2;have:=h2.1 x e1;omega
   subst hxy;rw[Qrc h1.2 h2.2 fun z=>?_]
   have hz:=h z;constructor
   ·intro hm
    rcases QJw.1 (hz.1 (QK2 _ hm)) with e | e
    ·subst e;have:=h1.1 z hm;omega
    exact e
   intro hm;rcases QJw.1 (hz.2 (QK2 _ hm)) with e | e
   ·subst e;have:=h2.1 z hm;omega
   exact e
include hK
omit hK
def szO (o:Ord) (i:Nat):Int:=(o.stocks.getD i (0,0,0)).1
def wdL (o:Ord) (j i:Nat):List Int:=[(j:Int),0,szO o i,(i:Int)]
def wdD (o:Ord) (j i:Nat):Qu:=⟨1,(j:Int),0,szO o i,(i:Int)⟩
def YN (o:Ord) (S:List Nat):List Qu:=S.mapIdx (wdD o)
def Xp (o:Ord) (S:List Nat):Qi:=⟨⟨⟨YN o S,[],0⟩,⟨[],0,0,0,[],0⟩,[],0,1⟩,⟨0,1,1,[],[],0⟩⟩
def wdT (o:Ord) (j i:Nat):Txt:=[119,101,108,100,32]++Jf (wdL o j i)
def UZ (o:Ord) (S:List Nat):List Txt:=S.mapIdx (wdT o)
def Qk4 (k:Nat):Txt:=[119,104,111,32]++Lib.itoa (k:Int)
def Qc2 (o:Ord) (S:List Nat):List Txt:=UZ o S++(List.range S.length).map Qk4
def Qh4 (S:List Nat):List Txt:=List.replicate S.length QcZ++(List.range S.length).map fun k:Nat=>Lib.itoa (k:Int)
theorem V7 (o:Ord):YN o []=[]:=rfl
theorem Qnx (o:Ord) (S:List Nat) (i:Nat):YN o (S++[i])=YN o S++[wdD o S.length i]:=List.mapIdx_concat
theorem QmI (o:Ord) (S:List Nat) (i:Nat):UZ o (S++[i])=UZ o S++[wdT o S.length i]:=List.mapIdx_concat
theorem Yw (o:Ord) (S:List Nat):(YN o S).length=S.length:=List.length_mapIdx
theorem XH (o:Ord) (S:List Nat):(UZ o S).length=S.length:=List.length_mapIdx
theorem V8 (o:Ord) (S:List Nat) (i:Nat) (h:i<(YN o S).length) (h':i<S.length):(YN o S)[i]=wdD o i S[i]:=by simp[YN]
theorem Qhb (o:Ord) (S:List Nat) (i:Nat):Qk (Xp o S) (wdD o S.length i)=Xp o (S++[i]):=by simp[Qk,Xp,Qnx]
theorem QEi (o:Ord) (S:List Nat):∀ i,i<=S.length->cnt (YN o S) i=i
 | 0,_=>by simp
 | i+1,h=>by
   rw[W6 _ i (by rw[Yw];omega),QEi o S i (by omega),V8 o S i _ h]
   simp[wdD,grow]
theorem QAW (p:Qu->Bool):∀ (l:List Qu) (k:Nat),(∀ d∈l,p d=false)->Yh p l k=[]
 | [],_,_=>rfl
 | d::r,k,h=>by
   rw[Yh,h d (by simp)]
   exact QAW p r _ fun d hd=>h d (by simp[hd])
theorem QcF {o:Ord} {S:List Nat} {d:Qu} (h:d∈YN o S):∃ j i,i∈S/\d=wdD o j i:=by
 obtain ⟨j,hj,rfl⟩:=QJR h;have hj':j<S.length:=by rwa [Yw] at hj
 exact ⟨j,S[j],QJo hj',V8 o S j hj hj'⟩
structure Wd (o:Ord) (S:List Nat):Prop where
 ok:OkO o
 len:S.length<=7
 mem:∀ i∈S,i<o.stocks.length
theorem Wd.take {o:Ord} {S:List Nat} (h:Wd o S) (j:Nat):Wd o (S.take j) :=
 ⟨h.ok,by have:=h.len;simp;omega,fun i hi=>h.mem i (QJ3 hi)⟩
theorem Wd.size {o:Ord} {S:List Nat} (h:Wd o S) {i:Nat} (hi:i∈S):1<=szO o i/\szO o i<=99/\i<7:=by
 have h1:=h.mem i hi;have h2:=Qew (h.ok.stocks _ (QJo h1));have h3:=h.ok.nk;have e:o.stocks.getD i (0,0,0)=o.stocks[i]:=by simp[h1]
 unfold szO;rw[e];omega
theorem Wd.zc {o:Ord} {S:List Nat} (h:Wd o S):OkC (Xp o S).ze.zc:=by
 have hl:=h.len;refine ⟨by simp only[Xp,Yw];omega,by simp[Xp],by simp[Xp,inR],fun i hi _=>?_,by simp[Xp]⟩
 have hi':i<S.length:=by simpa[Xp,Yw] using hi
 have hs:=h.size (QJo hi');have e:(Xp o S).ze.zc.za[i]=wdD o i S[i]:=V8 o S i hi hi';rw[e];have e2:cnt (Xp o S).ze.zc.za i=i:=QEi o S i (by omega)
 rw[e2];refine .inl ⟨rfl,?_⟩;simp only[wdD,inR];omega
theorem Wd.house {o:Ord} {S:List Nat} (h:Wd o S):okH (Xp o S):=by
 have hp:pv (YN o S)=[]:=QAW _ _ _ fun d hd=>by
  obtain ⟨j,i,_,rfl⟩:=QcF hd;simp[VZ,wdD]
 refine ⟨⟨h.zc,⟨by simp[Xp],by simp[Xp],by simp[Xp,inR],by simp[Xp,inR],by simp[Xp],by simp[Xp],by simp[Xp],by simp[Xp,inR]⟩,by simp[Xp,inR],by simp[Xp,inR],by simp[Xp,hp],fun i hi hi'=>by simp[Xp] at hi'⟩,?_⟩
 show OkU ⟨0,1,1,[],[],0⟩
 decide
theorem Wd.small {o:Ord} {S:List Nat} (h:Wd o S) {j:Nat} (hj:j<S.length):∀ n∈wdL o j S[j],Yo n:=fun n hn=>by
 have h1:=h.size (QJo hj);have h2:=h.len;unfold Yo;simp only[wdL,QJw,QJD,or_false] at hn;rcases hn with rfl | rfl | rfl | rfl<;>omega
theorem QdI (l:List Int) (hl:l.length=4) (h:∀ n∈l,Yo n):Xi ([119,101,108,100,32]++Jf l)=some (.weld,l):=by
 have hne:l≠[]:=by
  intro e;subst e;simp at hl
 have e:([119,101,108,100,32]++Jf l:Txt)=[119,101,108,100]++32::Jf l:=rfl;unfold Xi;rw[e,VH,Uh [119,101,108,100] (by decide),WP hne,Qez l hne h]
 have hv:VE [119,101,108,100]=some (4,.weld):=by decide +kernel
 simp only[QJ2,QJ0,hv,QJA,hl,if_true,qz l h,QKg]
theorem Wd.line {o:Ord} {S:List Nat} (h:Wd o S) {j:Nat} (hj:j<S.length):ZT (Xp o (S.take j)) (wdT o j S[j])=(QcZ,Xp o (S.take (j+1))):=by
 have ho:=(h.take (j+1)).house;have e:S.take (j+1)=S.take j++[S[j]]:=QJk hj;have hl:(S.take j).length=j:=by simp;omega
 have e2:=Qhb o (S.take j) S[j];rw[<- e,hl] at e2;unfold ZT wdT;rw[QdI _ rfl (h.small hj)];simp only;rw[Zq (h':=Xp o (S.take (j+1))) rfl (by rw[<- e2];rfl)]
 unfold chT chH;rw[if_pos ho,if_pos ho]
theorem Wd.cab {o:Ord} {S:List Nat} (e:Nat->Int) (he:∀ i,e i=0):∀ i,i<=S.length->cab (YN o S) e i=List.range i/\wn (YN o S) i=i
 | 0,_=>⟨rfl,by simp[wn,Yh]⟩
 | i+1,h=>by
   have hi:i<(YN o S).length:=by rw[Yw];omega
   obtain ⟨ih1,ih2⟩:=Wd.cab (o:=o) (S:=S) e he i (by omega)
   have hd:=V8 o S i hi h;refine ⟨?_,?_⟩
   ·rw[Qbc _ _ _ hi,ih1,ih2,hd,he]
    simp[VG,wdD,plc,QJT,QJp]
   unfold wn at ih2 |-;rw[QJk hi,Y6,QJr,ih2,hd];simp[Yh,ZA,wdD]
theorem Wd.who {o:Ord} {S:List Nat} (h:Wd o S) {k:Nat} (hk:k<S.length):JK (Xp o S) .who [(k:Int)]=Lib.itoa (k:Int):=by
 have ht:Xr (YN o S)=0:=by
  unfold Xr;rw[QKR];intro d hd;obtain ⟨j,i,_,rfl⟩:=QcF hd;simp[wdD]
 have hr:Qp (Xp o S).ze.zc=[0]:=by
  unfold Qp;simp only[Xp,ht];simp[QY]
 have hp:plB (Xp o S).ze.zc (k:Int)=true:=by
  unfold plB Qs;simp only[Xp,Yw];rw[QEi o S _ (QJn _)];simp[inR];omega
 have ha:Xn (Xp o S).ze.zc true=0:=by
  unfold Xn;rw[if_pos h.zc,if_pos rfl,hr];rfl
 have hw:qr (Xp o S).ze.zc (k:Int) 0=k:=by
  unfold qr;simp only[Xp,Yw]
  rw[(Wd.cab (o:=o) (S:=S) (Q2 (YN o S) 0) (fun i=>by
   unfold Q2;cases hd:(YN o S)[i]? with
   | none=>rfl
   | some d =>
     obtain ⟨j,i,_,rfl⟩:=QcF (QJx hd);simp[wdD]) S.length (QJn _)).1]
  simp[hk]
 have hq:QnQ (Xp o S).ze.zc (k:Int)=[(k:Int)]:=by
  unfold QnQ;rw[hp,if_pos ha,hr,QJC,QKE,hw];exact Qrc (Uk _) (by simp) fun x=>by rw[YW]
 unfold JK;simp only[show nI [(k:Int)] 0=k from rfl,hq,hp,ha]
 simp[YE,Jf,YH]
theorem Qlc {k:Nat} (h:k<=99):Yo (k:Int):=by
 unfold Yo;omega
theorem Wd.lineK {o:Ord} {S:List Nat} (h:Wd o S) {k:Nat} (hk:k<S.length):ZT (Xp o S) (Qk4 k)=(Lib.itoa (k:Int),Xp o S):=by
 have hl:=h.len;unfold ZT Qk4;rw[Qb0 (Qlc (by omega))]
 simp only;rw[Q9 rfl,h.who hk]
theorem Ji (o:Ord) (S:List Nat):(Qc2 o S).length=S.length+S.length:=by simp[Qc2,XH]
theorem Qli (o:Ord) (S:List Nat) {j:Nat} (hj:j<S.length) (h:j<(Qc2 o S).length):(Qc2 o S)[j]=wdT o j S[j]:=by
 have:j<(UZ o S).length:=by rwa [XH]
 simp[Qc2,List.getElem_append,hj,UZ]
theorem Qlh (o:Ord) (S:List Nat) {k:Nat} (hk:k<S.length) (h:S.length+k<(Qc2 o S).length):(Qc2 o S)[S.length+k]=Qk4 k:=by
 simp[Qc2,List.getElem_append,XH]
theorem Wd.state {o:Ord} {S:List Nat} (h:Wd o S):∀ i,i<=S.length->Xe (Xp o []) (Qc2 o S) i=Xp o (S.take i)/\qY (Xp o []) (Qc2 o S) i=List.replicate i QcZ
 | 0,_=>⟨rfl,rfl⟩
 | i+1,hi=>by
   have xa:i<(Qc2 o S).length:=by rw[Ji];omega
   obtain ⟨ih1,ih2⟩:=h.state i (by omega)
   rw[Xs _ _ i xa,Yc _ _ i xa,ih1,ih2,Qli o S hi xa,h.line hi,List.replicate_succ'];exact ⟨rfl,rfl⟩
theorem Wd.stateK {o:Ord} {S:List Nat} (h:Wd o S):∀ k,k<=S.length->Xe (Xp o []) (Qc2 o S) (S.length+k)=Xp o S /\
  qY (Xp o []) (Qc2 o S) (S.length+k)=List.replicate S.length QcZ++(List.range k).map fun k:Nat=>Lib.itoa (k:Int)
 | 0,_=>by
   obtain ⟨h1,h2⟩:=h.state S.length (QJn _);rw[QJF] at h1;exact ⟨h1,by simpa using h2⟩
 | k+1,hk=>by
   have xa:S.length+k<(Qc2 o S).length:=by rw[Ji];omega
   obtain ⟨ih1,ih2⟩:=h.stateK k (by omega)
   rw[<- QKe,Xs _ _ _ xa,Yc _ _ _ xa,ih1,ih2,Qlh o S hk xa,h.lineK hk,QJT];simp
theorem Wd.run {o:Ord} {S:List Nat} (h:Wd o S):Qob (Xp o []) (Qc2 o S)=Qh4 S/\Qoa (Xp o []) (Qc2 o S)=0/\QhV (Xp o []) (Qc2 o S)=Xp o S:=by
 have hl:=h.len;have h0:okH (Xp o []):=(h.take 0).house;have h1:¬ 40<(Qc2 o S).length:=by rw[Ji];omega
 obtain ⟨k1,k2⟩:=h.stateK S.length (QJn _);unfold Qob Qoa QhV;rw[if_pos h0,if_neg h1,if_pos h0,if_neg h1,if_pos h0,if_neg h1,Ji,k1,k2];exact ⟨rfl,rfl,rfl⟩
theorem Wd.good14 {o:Ord} {S:List Nat} (h:Wd o S):Gd KW 14 [hoV (Xp o []),strs (Qc2 o S)] (.xd [strs (Qh4 S),hoV (Xp o S),.int .i64 0]):=by
 have hl:=h.len;have h0:okH (Xp o []):=(h.take 0).house
 have hg:=Qfd (Xp o []) (Qc2 o S) (Qj h0) (by rw[Ji];omega) fun _ _ i hi=>by
  rw[Ji] at hi;by_cases hk:i<S.length
  ·have hlen:(Jf (wdL o i S[i])).length<=20:=by
    have:=Qa0 (wdL o i S[i]) (h.small hk);rw[WP (by simp[wdL])]
    simp[wdL] at this |-;omega
   have e:S.take (i+1)=S.take i++[S[i]]:=QJk hk;have el:(S.take i).length=i:=by simp;omega
   have e2:=Qhb o (S.take i) S[i];rw[<- e,el] at e2;rw[(h.state i (by omega)).1,Qli o S hk (by rw[Ji];omega)]
   refine Vj _ _ (fun v q hp _=>?_) (by simp[wdT];omega)
   unfold wdT at hp;rw[QdI _ rfl (h.small hk)] at hp;injection hp with hp
   injection hp with h1 h2
   subst h1 h2;rw[Zq (h':=Xp o (S.take (i+1))) rfl (by rw[<- e2];rfl),<- e2]
   exact Qpe hKW (Xp o (S.take i)) _ _ _ _ (Qj (h.take i).house) (by
    have:=Qj (h.take (i+1)).house;rw[<- e2] at this;exact this)
  obtain ⟨k,rfl⟩:∃ k,i=S.length+k:=⟨i-S.length,by omega⟩
  have hk:k<S.length:=by omega
  rw[(h.stateK k (by omega)).1,Qlh o S hk (by rw[Ji];omega)]
  refine Vj _ _ (fun v q hp _=>?_) (by
   have:=(UO (Qlc (k:=k) (by omega))).2.2
   simp[Qk4];omega)
  unfold Qk4 at hp;rw[Qb0 (Qlc (by omega))] at hp
  injection hp with hp
  injection hp with h1 h2
  subst h1 h2;rw[Q9 rfl];exact QlT _ _ h.house
 rw[h.run.1,h.run.2.1,h.run.2.2] at hg;exact hg
def JU (rs:List (Int × Int × Int)) (n:Int):Int × Int:=rs.foldl (fun x r=>if r.1<=n then (r.2.1,r.2.2) else x) (0,0)
def QeE (o:Ord) (lo:Int) (i:Nat):List (Int × Int):=(List.range i).map fun k:Nat=>JU o.rates (lo+k)
def XW (o:Ord) (lo:Int):Nat->List (Int × Int)
 | 0=>[]
 | i+1=>if JU o.rates (lo+i)∈QeE o lo i then XW o lo i else XW o lo i++[JU o.rates (lo+i)]
def ZR (o:Ord) (s:Int × Int):List (Int × Int):=XW o s.1 (s.2+1-s.1).toNat
def ndK (x:Int × Int):MK:=.agg [.int .i64 x.1,.int .i64 x.2]
theorem QiI (x y:Int × Int) (h:ndK x=ndK y):x=y:=by
 cases x;cases y;simpa[ndK] using h
theorem QlC (x:Int × Int):(ndK x).kind=.agg [some .i64,some .i64]:=rfl
theorem Qgd (o:Ord) (lo:Int) (i:Nat):QeE o lo (i+1)=QeE o lo i++[JU o.rates (lo+i)]:=by simp[QeE,QJT]
theorem QrK (o:Ord) (lo:Int) (i:Nat):(QeE o lo i).length=i:=by simp[QeE]
theorem Ur (o:Ord) (lo:Int) (x:Int × Int):∀ i,x∈XW o lo i↔x∈QeE o lo i
 | 0=>by simp[XW,QeE]
 | i+1=>by
   rw[Qgd,XW];have ih:=Ur o lo x i;split
   ·rename_i h
    rw[QJG,QKb,ih];constructor
    ·exact .inl
    rintro (h1 | rfl)
    ·exact h1
    exact h
   rw[QJG,QJG,ih]
theorem Us (o:Ord) (lo:Int):∀ i,(XW o lo i).length<=i
 | 0=>by simp[XW]
 | i+1=>by
   have ih:=Us o lo i;rw[XW];split
   ·omega
   simp;omega
theorem Qcw {α:Type} [DecidableEq α] (x y:α):∀ l,Wj (qp l x) y=Wj l y+if x=y then 1 else 0
 | []=>by simp[qp,Wj]
 | p::r=>by
   have ih:=Qcw x y r;unfold qp;split
   ·simp only[Wj];grind
   simp only[Wj];grind
theorem QsQ {α:Type} [DecidableEq α] (y:α):∀ l:List α,Wj (V9 l) y=l.count y:=by
 refine ZM rfl fun l x ih=>?_
 rw[Yx,Qcw,ih,List.count_append,List.count_singleton]
 grind
theorem QsP {α:Type} [DecidableEq α] (y:α) (l:List α):y∈l↔0<Wj (V9 l) y:=by rw[QsQ,List.count_pos_iff]
theorem QlB {o:Ord} (h:OkO o) (n:Int):0<=(JU o.rates n).1/\(JU o.rates n).1<=99/\0<=(JU o.rates n).2/\(JU o.rates n).2<=999:=by
 have key:∀ (l:List (Int × Int × Int)) (x:Int × Int),(∀ r∈l,inR r.2.1 1 99/\inR r.2.2 0 999)->(0<=x.1/\x.1<=99/\0<=x.2/\x.2<=999) ->
   (fun y:Int × Int=>0<=y.1/\y.1<=99/\0<=y.2/\y.2<=999) (l.foldl (fun x r=>if r.1<=n then (r.2.1,r.2.2) else x) x):=by
  intro l
  induction l with
  | nil=>exact fun _ _ h=>h
  | cons a r ih =>
    intro x h1 h2;rw[QKd];refine ih _ (fun r hr=>h1 r (by simp[hr])) ?_
    have:=h1 a (by simp)
    simp only[inR] at this;split
    ·simp only
     omega
    exact h2
 exact key o.rates (0,0) (fun r hr=>(Qwd h hr).2) (by simp)
theorem Qm7 (rs:List (Int × Int × Int)) (n:Int) (i:Nat) (h:i<rs.length):JU (rs.take (i+1)) n=if rs[i].1<=n then (rs[i].2.1,rs[i].2.2) else JU (rs.take i) n:=by
 unfold JU;rw[QJk h,QKO];rfl
include hK
theorem Qyk (o:Ord) (s:Int × Int) (hl:o.rates.length<=6) (hs:0<=s.1/\s.1<=s.2/\s.2<=9999):Gd K 155 [orV o,.agg (spC s)] (.sl 2 ((ZR o s).map spC)):=by
 refine Qb hK (fk func155 QIi (by kernel_rfl)) (by simp) ?_
 obtain ⟨lo,hi⟩:=s;simp only at hs;have hnn:(((hi+1-lo).toNat:Nat):Int)=hi+1-lo:=by omega
 simp only[ZR];generalize hN:(hi+1-lo).toNat=N at *;simp
 refine Zm (fun i=>[(2,.iv (.ptr (orC o))),(3,.iv (.ptr [.int .i64 lo,.int .i64 hi])),(5,.yk 11),(6,.yl 6 (XW o lo i).length),(7,.iv (.int .i64 (lo+(i:Nat))))])
  (fun i=>[(6,.arr 144 2 (emb ((XW o lo i).map spC)) 0),(11,.xg (Ja ndK (V9 (QeE o lo i))))]) N (fun _=>True) trivial ?_ ?_ (by simp[XW]) (by simp[XW,QeE,V9,Ja,emb])
 ·intro _
  rw[Qa QkJ.eq_1];have h1:¬ lo+(N:Int)<=hi:=by omega
  generalize XW o lo N=L at *;simp[h1,QJp]
 intro i hi' _ ih;have h1:lo+(i:Int)<=hi:=by omega
 have e3:lo+((i+1:Nat):Int)=lo+i+1:=by omega
 have hsl:=QrK o lo i;have hnl:=Us o lo i;rw[Qgd,Yx,e3,XW] at ih;have hcl:=Qjp (JU o.rates (lo+i)) (QeE o lo i);have hmem:=QsP (JU o.rates (lo+i)) (QeE o lo i);have hg1:=Qcw (JU o.rates (lo+i)) (JU o.rates (lo+i)) (V9 (QeE o lo i));simp only[if_true] at hg1;rw[Qa QkJ.eq_1];simp[h1]
 (repeat' first | omega | (with_reducible apply And.intro) | intro _)
 refine Zm (fun j=>[(2,.iv (.ptr (orC o))),(3,.iv (.ptr [.int .i64 lo,.int .i64 hi])),(5,.yk 11),(6,.yl 6 (XW o lo i).length),(7,.iv (.int .i64 (lo+(i:Nat)))),(8,.loc 8 0),(22,.iv (ZL o.rates)),(23,.iv (.int .i64 o.rates.length)),(24,.iv (.int .i64 (j:Nat)))])
  (fun j=>[(6,.arr 144 2 (emb ((XW o lo i).map spC)) 0),(8,.box [.iv (.int .i64 (JU (o.rates.take j) (lo+i)).1),.iv (.int .i64 (JU (o.rates.take j) (lo+i)).2)]),(11,.xg (Ja ndK (V9 (QeE o lo i))))]) o.rates.length (fun _=>True) trivial ?_ ?_ (by simp) (by simp[JU])
 ·intro _
  rw[Qa QkK.eq_1];rw[QJF];generalize hx:JU o.rates (lo+i)=x at *;generalize V9 (QeE o lo i)=kv at *;have q1:(Qh (MK.agg [.int .i64 x.1,.int .i64 x.2]) (Ja ndK kv)).getD (.int .i64 0)=.int .i64 (Wj kv x:Nat):=V6 QiI x kv;have q2:zn (MK.agg [.int .i64 x.1,.int .i64 x.2]) (.int .i64 ((Wj kv x:Nat)+1)) (Ja ndK kv)=Ja ndK (qp kv x):=Qba QiI x kv;have q3:QK (.agg [some .i64,some .i64]) (Ja ndK kv):=J1 QlC kv;have q4:(Qh (MK.agg [.int .i64 x.1,.int .i64 x.2]) (Ja ndK (qp kv x))).getD (.int .i64 0)=.int .i64 (Wj (qp kv x) x:Nat):=V6 QiI x _;have q5:QK (.agg [some .i64,some .i64]) (Ja ndK (qp kv x)):=J1 QlC _;simp[Qg2,QAQ,KC.kind,q1,q3,WL,QeW,q2,q4,q5,hg1];by_cases hm:x∈QeE o lo i
  ·have h0:=hmem.1 hm
   have h0':¬ (Wj kv x:Int)+1=1:=by omega
   rw[if_pos hm] at ih;simp[h0'] at ih |-;exact ⟨by omega,by omega,ih⟩
  have h0:Wj kv x=0:=by
   have:=mt hmem.2 hm;omega
  rw[if_neg hm] at ih;simp[h0] at ih |-;exact ⟨by omega,by omega,ih⟩
 intro j hj _ ih2;have hjj:(j:Int)<o.rates.length:=by omega
 rw[Qm7 _ _ _ hj] at ih2;rw[Qa QkK.eq_1];by_cases hq:o.rates[j].1<=lo+i
 ·simp[hj,hjj,hq] at ih2 |-
  exact ⟨by omega,ih2⟩
 simp[hj,hjj,hq] at ih2 |-;exact ⟨by omega,ih2⟩
omit hK
noncomputable def QBv (o:Ord):Bool:=decide (40<o.rates.length)||decide (40<o.ships.length)||decide (40<o.stocks.length) ||
 (decide (OkO o)&&(o.ships.any (fun s=>decide (80<=s.2-s.1))||decide (260<(o.ships.length+1) ^ o.stocks.length)))
include hK
theorem WY (x a b:Int):Gd K 52 [.int .i64 x,.int .i64 a,.int .i64 b] (.bool (decide (inR x a b))):=by
 refine Qb hK (fk func52 c52 (by kernel_rfl)) (by simp) ?_
 simp;exact cK (QBh hK _ _ _) (by simp)
theorem Qve (a b lo hi:Int):Gd K 53 [.agg [.int .i64 a,.int .i64 b],.int .i64 lo,.int .i64 hi] (.bool (decide (Yn a b lo hi))):=by
 refine Qb hK (fk func53 c53 (by kernel_rfl)) (by simp) ?_
 by_cases h1:lo<=a
 ·by_cases h2:a<=b
  ·simp[h1,h2,Yn,inR]
  simp[h1,h2,Yn,inR]
 simp[h1,Yn,inR]
theorem Qvh (o:Ord) (hr:o.rates.length<=1000) (hs:o.ships.length<=1000) (hk:o.stocks.length<=1000):Gd K 21 [orV o] (.int .i64 (if OkO o then 0 else 80)):=by
 refine Qb hK (fk func21 c21 (by kernel_rfl)) (by simp) ?_
 have no:∀ q:Prop,(OkO o->q)->¬ q->¬ OkO o:=fun q h1 h2 h=>h2 (h1 h)
 by_cases h1:o.rates.length<=6
 case neg =>
  have h1':(6:Int)<o.rates.length:=by omega
  have:=no _ OkO.nr h1;simp[h1',this]
  try (intros;omega)
 have h1':¬ (6:Int)<o.rates.length:=by omega
 by_cases h2:o.ships.length<=3
 case neg =>
  have h2':(3:Int)<o.ships.length:=by omega
  have:=no _ OkO.ns h2;simp[h1',h2',this]
  try (intros;omega)
 have h2':¬ (3:Int)<o.ships.length:=by omega
 by_cases h3:o.stocks.length<=7
 case neg =>
  have h3':(7:Int)<o.stocks.length:=by omega
  have:=no _ OkO.nk h3;simp[h1',h2',h3',this]
  try (intros;omega)
 have h3':¬ (7:Int)<o.stocks.length:=by omega
 simp[h1',h2',h3']
 (repeat' first | omega | (with_reducible apply And.intro) | intro _)
 refine cK (WY hK _ _ _) ?_;by_cases h4:inR o.shk 0 9
 case neg =>
  have:=no _ OkO.shk h4;simp[h4,this]
 simp[h4];refine Zm (fun i=>[(1,.iv (.ptr (orC o))),(3,.iv (.int .i64 (i:Nat)))]) (fun _=>[]) o.rates.length (fun i=>∀ k (h:k<o.rates.length),k<i->qf o k o.rates[k]=false) (fun k h hk=>by omega) ?_ ?_ (by simp) (by simp)
 case refine_2 =>
  intro i hi h ih;have hn:qf o i o.rates[i]=true->¬ OkO o:=fun h1=>no _ (fun h2=>h2.rates i hi) (by simp[h1])
  have hy:qf o i o.rates[i]=false->∀ k (h:k<o.rates.length),k<i+1->qf o k o.rates[k]=false:=fun h1 k hk hki=>by
   rcases QKz.1 hki with h2 | h2
   ·exact h k hk h2
   subst h2;exact h1
  have hii:(i:Int)<o.rates.length:=by omega
  rw[Qa Qq2.eq_1];unfold qf at hn hy;generalize hr:o.rates[i]=r at *;simp[hi,hii,hr] at ih |-
  (repeat' first | omega | (with_reducible apply And.intro) | intro _)
  refine cK (WY hK _ _ _) ?_;by_cases h1:inR r.1 0 9999
  case neg =>
   have:=hn (by simp[h1])
   simp[h1,this]
  by_cases h4:0<i
  case neg =>
   have h0:i=0:=by omega
   have h4':¬ (0:Int)<i:=by omega
   simp[h1,h4,h4'];refine cK (WY hK _ _ _) ?_;by_cases h2:inR r.2.1 1 99
   case neg =>
    have:=hn (by simp[h2])
    simp[h2,this]
   simp[h2];refine cK (WY hK _ _ _) ?_;by_cases h3:inR r.2.2 0 999
   case neg =>
    have:=hn (by simp[h3])
    simp[h3,this]
   simp[h3];exact ⟨by omega,ih (hy (by simp[h1,h2,h3,h4]))⟩
  have h4':(0:Int)<i:=by omega
  have xa:i-1<o.rates.length:=by omega
  have e1:(i:Int)-1=((i-1:Nat):Int):=by omega
  have e2:o.rates.getD (i-1) (0,0,0)=o.rates[i-1]:=by simp[xa]
  rw[e2] at hn hy;by_cases h5:r.1<=o.rates[i-1].1
  ·have:=hn (by simp[h4,h5])
   simp[h1,h4,h4',e1,xa,h5,this]
   (repeat' first | omega | (with_reducible apply And.intro) | intro _)
  simp[h1,h4,h4',e1,xa,h5]
  (repeat' first | omega | (with_reducible apply And.intro) | intro _)
  refine cK (WY hK _ _ _) ?_;by_cases h2:inR r.2.1 1 99
  case neg =>
   have:=hn (by simp[h2])
   simp[h2,this]
  simp[h2];refine cK (WY hK _ _ _) ?_;by_cases h3:inR r.2.2 0 999
  case neg =>
   have:=hn (by simp[h3])
   simp[h3,this]
  simp[h3];exact ⟨by omega,ih (hy (by simp[h1,h2,h3,h5]))⟩
 intro q1;have q1:∀ i (h:i<o.rates.length),qf o i o.rates[i]=false:=fun i h=>q1 i h h
 rw[Qa Qq2.eq_1];simp
 (repeat' first | omega | (with_reducible apply And.intro) | intro _)
 refine Zm (fun i=>[(1,.iv (.ptr (orC o))),(5,.iv (.int .i64 (i:Nat)))]) (fun _=>[]) o.ships.length (fun i=>∀ s∈o.ships.take i,QaL s=false) (by simp) ?_ ?_ (by simp) (by simp)
 case refine_2 =>
  intro i hi h ih;have hii:(i:Int)<o.ships.length:=by omega
  have hn:QaL o.ships[i]=true->¬ OkO o:=fun h1=>no _ (fun h2=>h2.ships _ (QJo hi)) (by simp[h1])
  rw[QJk hi] at ih;rw[Qa Qq1.eq_1];unfold QaL at hn h ih;generalize hr:o.ships[i]=r at *;simp[hi,hii,hr] at ih |-
  (repeat' first | omega | (with_reducible apply And.intro) | intro _)
  refine cK (Qve hK _ _ _ _) ?_;by_cases h1:Yn r.1 r.2 0 9999
  case neg =>
   have:=hn (by simp[h1])
   simp[h1,this]
  simp[h1];exact ⟨by omega,ih (by grind)⟩
 intro q2;rw[QJF] at q2;rw[Qa Qq1.eq_1];simp
 (repeat' first | omega | (with_reducible apply And.intro) | intro _)
 refine Zm (fun i=>[(1,.iv (.ptr (orC o))),(6,.iv (.int .i64 (i:Nat)))]) (fun _=>[]) o.stocks.length (fun i=>∀ s∈o.stocks.take i,qX s=false) (by simp) ?_ ?_ (by simp) (by simp)
 case refine_2 =>
  intro i hi h ih;have hii:(i:Int)<o.stocks.length:=by omega
  have hn:qX o.stocks[i]=true->¬ OkO o:=fun h1=>no _ (fun h2=>h2.stocks _ (QJo hi)) (by simp[h1])
  rw[QJk hi] at ih;rw[Qa Qq0.eq_1];unfold qX at hn h ih;generalize hr:o.stocks[i]=r at *;simp[hi,hii,hr] at ih |-
  (repeat' first | omega | (with_reducible apply And.intro) | intro _)
  refine cK (WY hK _ _ _) ?_;by_cases h1:inR r.1 1 99
  case neg =>
   have:=hn (by simp[h1])
   simp[h1,this]
  simp[h1,hi,hii,hr]
  (repeat' first | omega | (with_reducible apply And.intro) | intro _)
  refine cK (Qve hK _ _ _ _) ?_;by_cases h2:Yn r.2.1 r.2.2 1 999
  case neg =>
   have:=hn (by simp[h2])
   simp[h2,this]
  simp[h2];exact ⟨by omega,ih (by grind)⟩
 intro q3;rw[QJF] at q3;have:OkO o:=⟨q1,h1,h2,h3,h4,q2,q3⟩;rw[Qa Qq0.eq_1];simp[this]
theorem QBl (o:Ord) (n:Int) (hs:o.ships.length<=1000):Gd K 22 [orV o,.int .i64 n] (.bool (decide (inR n 0 ((o.ships.length:Int)-1)))):=by
 refine Qb hK (fk func22 c22 (by kernel_rfl)) (by simp) ?_
 simp
 (repeat' first | omega | (with_reducible apply And.intro) | intro _)
 exact cK (WY hK _ _ _) (by simp)
theorem QBi (o:Ord) (p:List Int) (hs:o.ships.length<=1000) (hk:o.stocks.length<=1000) (h1:p.length=o.stocks.length) (h2:∀ x∈p,-1<=x/\x<o.ships.length):Gd K 25 [orV o,Q6 p] (.bool true):=by
 refine Qb hK (fk func25 c25 (by kernel_rfl)) (by simp) ?_
 simp[h1]
 (repeat' first | omega | (with_reducible apply And.intro) | intro _)
 refine Zm (fun i=>[(1,.iv (Q6 p)),(2,.iv (.ptr (orC o))),(5,.iv (.int .i64 (i:Nat)))]) (fun _=>[]) p.length (fun _=>True) trivial ?_ ?_ (by simp) (by simp)
 ·intro _
  rw[Qa QqW.eq_1];simp
 intro i hi _ ih;have hii:(i:Int)<p.length:=by omega
 have hb:=h2 _ (QJo hi)
 have hr:inR p[i] (-1) ((o.ships.length:Int)-1):=by
  unfold inR;omega
 rw[Qa QqW.eq_1];simp[hi,hii] at ih |-
 (repeat' first | omega | (with_reducible apply And.intro) | intro _)
 refine cK (WY hK _ _ _) ?_;simp[hr];exact ⟨by omega,ih⟩
theorem QBm (o:Ord):Gd K 20 [orV o] (.bool (QBv o)):=by
 refine Qb hK (fk func20 c20 (by kernel_rfl)) (by simp) ?_
 generalize hV:QBv o=V;unfold QBv at hV;by_cases h1:40<o.rates.length
 ·have h1':(40:Int)<o.rates.length:=by omega
  simp[h1] at hV;simp[h1',hV]
  (repeat' first | omega | (with_reducible apply And.intro) | intro _)
 have h1':¬ (40:Int)<o.rates.length:=by omega
 by_cases h2:40<o.ships.length
 ·have h2':(40:Int)<o.ships.length:=by omega
  simp[h2] at hV;simp[h1',h2',hV]
  (repeat' first | omega | (with_reducible apply And.intro) | intro _)
 have h2':¬ (40:Int)<o.ships.length:=by omega
 by_cases h3:40<o.stocks.length
 ·have h3':(40:Int)<o.stocks.length:=by omega
  simp[h3] at hV;simp[h1',h2',h3',hV]
  (repeat' first | omega | (with_reducible apply And.intro) | intro _)
 have h3':¬ (40:Int)<o.stocks.length:=by omega
 simp[h1',h2',h3']
 (repeat' first | omega | (with_reducible apply And.intro) | intro _)
 refine cK (by simpa using Qvh hK o (by omega) (by omega) (by omega)) ?_
 by_cases ho:OkO o
 case neg =>
  simp[h1,h2,h3,ho] at hV;simp[ho,hV]
 have hns:=ho.ns;have hnk:=ho.nk
 have hpow:∀ i,i<=o.stocks.length->(o.ships.length+1) ^ i<=16384:=fun i hi=>by
  have a1:=Nat.pow_le_pow_left (show o.ships.length+1<=4 by omega) i
  have a2:=QKD (show 0<4 by omega) (show i<=7 by omega)
  omega
 simp[ho];refine Zm (fun i=>[(1,.iv (.ptr (orC o))),(3,.iv (.int .i64 (((o.ships.length+1) ^ i:Nat):Int))),(4,.iv (.int .i64 (i:Nat)))]) (fun _=>[]) o.stocks.length (fun _=>True) trivial ?_ ?_ (by simp) (by simp)
 case refine_2 =>
  intro i hi _ ih;have hii:(i:Int)<o.stocks.length:=by omega
  have hp1:=hpow (i+1) (by omega)
  have e:(((o.ships.length+1) ^ (i+1):Nat):Int)=(((o.ships.length+1) ^ i:Nat):Int)*((o.ships.length:Int)+1):=by
   rw[Nat.pow_succ]
   push_cast
   rfl
  rw[e] at ih;have hb:0<=(((o.ships.length+1) ^ i:Nat):Int)*((o.ships.length:Int)+1)/\(((o.ships.length+1) ^ i:Nat):Int)*((o.ships.length:Int)+1)<=16384:=by omega
  generalize (((o.ships.length+1) ^ i:Nat):Int)=N at *;generalize hM:N*((o.ships.length:Int)+1)=M at *;rw[Qa Qq4.eq_1];simp[hii,hM] at ih |-
  (repeat' first | omega | (with_reducible apply And.intro) | intro _)
  try exact ih
 intro _;have hpn:=hpow _ (QJn _);rw[Qa Qq4.eq_1];simp[h1,h2,h3,ho] at hV;generalize hN:(o.ships.length+1) ^ o.stocks.length=N at *;simp
 (repeat' first | omega | (with_reducible apply And.intro) | intro _)
 refine Zm (fun i=>[(1,.iv (.ptr (orC o))),(3,.iv (.int .i64 (N:Int))),(5,.iv (.int .i64 (i:Nat)))]) (fun _=>[]) o.ships.length (fun i=>∀ s∈o.ships.take i,¬ 80<=s.2-s.1) (by simp) ?_ ?_ (by simp) (by simp)
 case refine_2 =>
  intro i hi h ih;have hii:(i:Int)<o.ships.length:=by omega
  have hs:=QbA (ho.ships _ (QJo hi));have hm:=QJo hi;rw[QJk hi] at ih;rw[Qa Qq3.eq_1];generalize hr:o.ships[i]=r at *;by_cases h80:80<=r.2-r.1
  ·have hV':V=true:=by
    rw[<- hV];simp;exact .inl ⟨r.1,r.2,hm,h80⟩
   simp[hi,hii,hr,h80,hV']
   (repeat' first | omega | (with_reducible apply And.intro) | intro _)
  simp[hi,hii,hr,h80] at ih |-
  (repeat' first | omega | (with_reducible apply And.intro) | intro _)
  exact ih (by grind)
 intro q;rw[QJF] at q;rw[Qa Qq3.eq_1]
 have hV':V=decide (260<N):=by
  rw[<- hV]
  have:o.ships.any (fun s=>decide (80<=s.2-s.1))=false:=by
   rw[List.any_eq_false];intro s hs;simpa using q s hs
  grind
 simp[hV']
 try omega
omit hK
def ZU (o:Ord):List (List (Int × Int)):=o.ships.map (ZR o)
@[simp] def QAX (o:Ord):IV:=.sl 1 ((ZU o).map fun l=>[.sl 2 (l.map spC)])
@[simp] def yaC (o:Ord):List IV:=[ZL o.rates,Z7 o.ships,ZL o.stocks,.int .i64 o.shk,QAX o]
@[simp] def yaV (o:Ord):IV:=.ptr (yaC o)
def Ju (p:List Int):Nat:=p.countP fun x=>decide (0<=x)
structure Cab where
 size:Int
 lo:Int
 hi:Int
 many:Nat
def QfP (o:Ord) (p:List Int) (ship:Int):Nat->Option Cab
 | 0=>some ⟨99,0,0,0⟩
 | i+1=>match QfP o p ship i with
   | none=>none
   | some c=>if p.getD i 0=ship then
     (if 0<c.many/\(o.stocks.getD i (0,0,0)).1≠c.size then none
     else some ⟨(o.stocks.getD i (0,0,0)).1,c.lo+(if 0<c.many then o.shk else 0)+(o.stocks.getD i (0,0,0)).2.1,c.hi+(if 0<c.many then o.shk else 0)+(o.stocks.getD i (0,0,0)).2.2,c.many+1⟩)
     else some c
def Qmo (o:Ord) (p:List Int) (ship:Int):Int × Int × Int:=match QfP o p ship o.stocks.length with
 | none=>(-1,0,0)
 | some c=>(c.size,c.lo,c.hi)
def Qc0 (c:Int × Int × Int) (l:List (Int × Int)):Bool:=l.all fun n=>decide (n.1<=c.1)&&decide (n.2<=c.2.1)
def Qu3 (c:Int × Int × Int) (l:List (Int × Int)):Bool:=l.all fun n=>decide (c.1<n.1)||decide (c.2.2<n.2)
def Yt (o:Ord) (p:List Int) (i:Nat):Int :=
 if Qc0 (Qmo o p i) ((ZU o).getD i []) then 1 else if Qu3 (Qmo o p i) ((ZU o).getD i []) then 2 else 3
def Jp (o:Ord) (p:List Int):Nat->Option Int
 | 0=>some 1
 | i+1=>match Jp o p i with
   | none=>none
   | some k=>if Yt o p i=2 then none else if Yt o p i=3 then some 3 else some k
def Jo (o:Ord) (p:List Int):Int:=(Jp o p o.ships.length).getD 2
theorem QqG {o:Ord} (h:OkO o) (p:List Int) (ship:Int):∀ i,i<=o.stocks.length->∀ c,QfP o p ship i=some c->0<=c.size/\c.size<=99/\0<=c.lo/\c.lo<=2000*i/\0<=c.hi/\c.hi<=2000*i/\c.many<=i
 | 0,_,c,hc=>by
   simp only[QfP,Option.some.injEq] at hc;subst hc;simp
 | i+1,hi,c,hc=>by
   have xa:i<o.stocks.length:=by omega
   have hs:=Qew (h.stocks _ (QJo xa));have hk:=h.shk;simp only[inR] at hk;have hg:o.stocks.getD i (0,0,0)=o.stocks[i]:=by simp[xa]
   simp only[QfP] at hc;cases hci:QfP o p ship i with
   | none=>rw[hci] at hc;cases hc
   | some d =>
     have ih:=QqG h p ship i (by omega) d hci
     rw[hci,hg] at hc;simp only at hc;split at hc
     ·split at hc
      ·cases hc
      simp only[Option.some.injEq] at hc;subst hc;simp only;split<;>omega
     simp only[Option.some.injEq] at hc;subst hc;omega
include hK
theorem QlV (p:List Int) (hl:p.length<=1000):Gd K 73 [Q6 p] (.int .i64 (Ju p:Nat)):=by
 refine Qb hK (fk func73 c73 (by kernel_rfl)) (by simp) ?_
 simp
 (repeat' first | omega | (with_reducible apply And.intro) | intro _)
 refine Zm (fun i=>[(3,.iv (.int .i64 (Ju (p.take i):Nat))),(6,.iv (Q6 p)),(7,.iv (.int .i64 p.length)),(8,.iv (.int .i64 (i:Nat)))]) (fun _=>[]) p.length (fun _=>True) trivial ?_ ?_ (by simp[Ju]) rfl
 ·intro _
  rw[Qa QqI.eq_1];simp
 intro i hi _ ih;have hii:(i:Int)<p.length:=by omega
 have hc:Ju (p.take i)<=i:=by
  have:=QJ4 (p:=fun x=>decide ((0:Int)<=x)) (l:=p.take i)
  rw[QKT] at this;unfold Ju;omega
 have hs:Ju (p.take (i+1))=Ju (p.take i)+if 0<=p[i] then 1 else 0:=by
  unfold Ju;rw[QJk hi,QKA,List.countP_singleton];simp
 rw[hs] at ih;rw[Qa QqI.eq_1];by_cases h0:0<=p[i]
 ·simp[hi,hii,h0] at ih |-
  exact ⟨by omega,by omega,ih⟩
 simp[hi,hii,h0] at ih |-;exact ⟨by omega,ih⟩
theorem QwV (o:Ord) (p:List Int) (ship:Int) (ho:OkO o) (hp:p.length=o.stocks.length):Gd K 376 [yaV o,Q6 p,.int .i64 ship] (.xd [.int .i64 (Qmo o p ship).1,.agg [.int .i64 (Qmo o p ship).2.1,.int .i64 (Qmo o p ship).2.2]]):=by
 refine Qb hK (fk func376 QFQ (by kernel_rfl)) (by simp) ?_
 have hn:=ho.nk;have hk:=ho.shk;simp only[inR] at hk;generalize hV:Qmo o p ship=V;simp
 (repeat' first | omega | (with_reducible apply And.intro) | intro _)
 refine Xj o.stocks.length (fun i e ob=>∃ c,QfP o p ship i=some c/\e=[(0,.iv (yaV o)),(1,.iv (Q6 p)),(2,.iv (.int .i64 ship)),(6,.iv (.int .i64 c.size)),(7,.loc 7 0),(8,.iv (.int .i64 (c.many:Nat))),(15,.iv (ZL o.stocks)),(16,.iv (.int .i64 o.stocks.length)),(17,.iv (.int .i64 (i:Nat)))] /\
  ob=[(7,.box [.iv (.int .i64 c.lo),.iv (.int .i64 c.hi)])]) ?_ ?_ _ _ ⟨⟨99,0,0,0⟩,rfl,by simp,by simp⟩
 ·rintro e ob ⟨c,hc,rfl,rfl⟩
  rw[Qa QjI.eq_1];have hv:V=(c.size,c.lo,c.hi):=by rw[<- hV];simp[Qmo,hc]
  simp[hv]
 rintro i e ob hi ⟨c,hc,rfl,rfl⟩ ih
 have hb:=QqG ho p ship i (by omega) c hc
 have hs:=Qew (ho.stocks _ (QJo hi));have hpi:i<p.length:=by omega
 have hii:(i:Int)<o.stocks.length:=by omega
 have hg:o.stocks.getD i (0,0,0)=o.stocks[i]:=by simp[hi]
 have hgp:p.getD i 0=p[i]:=by simp[hpi]
 have hsc:QfP o p ship (i+1)=if p[i]=ship then (if 0<c.many/\o.stocks[i].1≠c.size then none
   else some ⟨o.stocks[i].1,c.lo+(if 0<c.many then o.shk else 0)+o.stocks[i].2.1,c.hi+(if 0<c.many then o.shk else 0)+o.stocks[i].2.2,c.many+1⟩) else some c:=by simp only[QfP,hc,hg,hgp]
 have hnone:∀ n,i+1+n<=o.stocks.length->QfP o p ship (i+1)=none->QfP o p ship (i+1+n)=none:=fun n=>by
  induction n with
  | zero=>exact fun _ h=>h
  | succ n ih2 =>
    intro h1 h2;show QfP o p ship (i+1+n+1)=none
    simp only[QfP,ih2 (by omega) h2]
 rw[Qa QjI.eq_1];generalize hst:o.stocks[i]=st at *;generalize hpp:p[i]=pi at *;by_cases h1:pi=ship
 case neg =>
  rw[if_neg h1] at hsc;simp[hi,hii,hst,hpi,hpp,h1]
  (repeat' first | omega | (with_reducible apply And.intro) | intro _)
  exact ih _ _ ⟨c,hsc,by simp,by simp⟩
 by_cases h2:0<c.many
 case neg =>
  have h0:c.many=0:=by omega
  rw[if_pos h1,if_neg (by omega)] at hsc
  simp only[h0,Nat.lt_irrefl,if_false] at hsc;simp[hi,hii,hst,hpi,hpp,h1,h0]
  (repeat' first | omega | (with_reducible apply And.intro) | intro _)
  exact ih _ _ ⟨_,hsc,by simp,by simp⟩
 have h2':(0:Int)<(c.many:Nat):=by omega
 by_cases h3:st.1=c.size
 ·rw[if_pos h1,if_neg (by omega)] at hsc
  simp only[h2,if_true] at hsc;simp[hi,hii,hst,hpi,hpp,h1,h2,h2',h3]
  (repeat' first | omega | (with_reducible apply And.intro) | intro _)
  exact ih _ _ ⟨_,hsc,by simp[h3],by simp⟩
 rw[if_pos h1,if_pos ⟨h2,h3⟩] at hsc;have hfin:=hnone (o.stocks.length-(i+1)) (by omega) hsc
 have e1:i+1+(o.stocks.length-(i+1))=o.stocks.length:=by omega
 rw[e1] at hfin;have hv:V=(-1,0,0):=by rw[<- hV];simp[Qmo,hfin]
 simp[hi,hii,hst,hpi,hpp,h1,h2,h2',h3,hv]
theorem Qxc (o:Ord) (p:List Int) (i:Nat) (ho:OkO o) (hp:p.length=o.stocks.length) (hi:i<o.ships.length):Gd K 331 [yaV o,Q6 p,.int .i64 (i:Nat)] (.int .i64 (Yt o p i)):=by
 refine Qb hK (fk func331 QGd (by kernel_rfl)) (by simp) ?_
 have g:=QwV hK o p i ho hp;have hil:i<(ZU o).length:=by simpa[ZU] using hi
 have hge:(ZU o).getD i []=(ZU o)[i]:=by simp[hil]
 have hlen:(ZU o)[i].length<=10000:=by
  have h1:=QbA (ho.ships _ (QJo hi));have h2:=Us o o.ships[i].1 (o.ships[i].2+1-o.ships[i].1).toNat;simp only[ZU,List.getElem_map,ZR];omega
 unfold Yt;rw[hge];simp;refine cK (by simpa using g) ?_
 generalize Qmo o p i=c at *;simp[hil]
 (repeat' first | omega | (with_reducible apply And.intro) | intro _)
 generalize hl:(ZU o)[i]=l at *
 refine Zm (fun k=>[(7,.iv (.int .i64 c.1)),(8,.loc 8 0),(9,.iv (.bool (Qc0 c (l.take k)))),(10,.iv (.bool (Qu3 c (l.take k)))),(27,.iv (.sl 2 (l.map spC))),(28,.iv (.int .i64 l.length)),(29,.iv (.int .i64 (k:Nat)))])
  (fun _=>[(8,.box [.iv (.int .i64 c.2.1),.iv (.int .i64 c.2.2)])]) l.length (fun _=>True) trivial ?_ ?_ (by simp[Qc0,Qu3]) (by simp)
 ·intro _
  rw[Qa Qj3.eq_1];rw[QJF];cases h1:Qc0 c l
  ·cases h2:Qu3 c l
   ·simp
   simp
  simp
 intro k hk _ ih;have hkk:(k:Int)<l.length:=by omega
 have e1:Qc0 c (l.take (k+1))=(Qc0 c (l.take k)&&(decide (l[k].1<=c.1)&&decide (l[k].2<=c.2.1))):=by
  unfold Qc0;rw[QJk hk,List.all_append];simp
 have e2:Qu3 c (l.take (k+1))=(Qu3 c (l.take k)&&(decide (c.1<l[k].1)||decide (c.2.2<l[k].2))):=by
  unfold Qu3;rw[QJk hk,List.all_append];simp
 rw[e1,e2] at ih;rw[Qa Qj3.eq_1];generalize hn:l[k]=n at *;cases h1:Qc0 c (l.take k)<;>cases h2:Qu3 c (l.take k)<;>by_cases h3:n.1<=c.1<;>by_cases h4:n.2<=c.2.1<;>by_cases h5:c.2.2<n.2
 all_goals
  have h3':(c.1<n.1)↔¬ n.1<=c.1:=by omega
  simp[h1,h2,h3,h3',h4,h5] at ih;simp[hk,hkk,hn,h1,h2,h3,h3',h4,h5] at ih |-
  first | exact ⟨by omega,ih⟩ | ((repeat' first | omega | (with_reducible apply And.intro) | intro _);exact ih)
theorem QxK (o:Ord) (p:List Int) (ho:OkO o) (hp:p.length=o.stocks.length):Gd K 247 [yaV o,Q6 p] (.int .i64 (Jo o p)):=by
 refine Qb hK (fk func247 QG9 (by kernel_rfl)) (by simp) ?_
 have hn:=ho.ns;generalize hV:Jo o p=V;simp
 (repeat' first | omega | (with_reducible apply And.intro) | intro _)
 refine Xj o.ships.length (fun i e ob=>∃ k,Jp o p i=some k/\e=[(0,.iv (yaV o)),(1,.iv (Q6 p)),(5,.iv (.int .i64 k)),(12,.iv (.int .i64 o.ships.length)),(13,.iv (.int .i64 (i:Nat)))]/\ob=[]) ?_ ?_ _ _ ⟨1,rfl,by simp,by simp⟩
 ·rintro e ob ⟨k,hk,rfl,rfl⟩
  rw[Qa Qkn.eq_1];have hv:V=k:=by rw[<- hV];simp[Jo,hk]
  simp[hv]
 rintro i e ob hi ⟨k,hk,rfl,rfl⟩ ih
 have hii:(i:Int)<o.ships.length:=by omega
 have g:=Qxc hK o p i ho hp hi;have hsc:Jp o p (i+1)=if Yt o p i=2 then none else if Yt o p i=3 then some 3 else some k:=by simp only[Jp,hk]
 have hnone:∀ n,Jp o p (i+1)=none->Jp o p (i+1+n)=none:=fun n=>by
  induction n with
  | zero=>exact fun h=>h
  | succ n ih2 =>
    intro h2;show Jp o p (i+1+n+1)=none
    simp only[Jp,ih2 h2]
 have hm:Yt o p i=1\/Yt o p i=2\/Yt o p i=3:=by
  unfold Yt;split
  ·simp
  split<;>simp
 rw[Qa Qkn.eq_1];generalize Yt o p i=m at *;simp[hii];refine cK (by simpa using g) ?_
 rcases hm with rfl | rfl | rfl
 ·rw[if_neg (by omega),if_neg (by omega)] at hsc
  simp
  (repeat' first | omega | (with_reducible apply And.intro) | intro _)
  exact ih _ _ ⟨k,hsc,by simp,by simp⟩
 ·rw[if_pos rfl] at hsc
  have hfin:=hnone (o.ships.length-(i+1)) hsc;have e1:i+1+(o.ships.length-(i+1))=o.ships.length:=by omega
  rw[e1] at hfin;have hv:V=2:=by rw[<- hV];simp[Jo,hfin]
  simp[hv]
 rw[if_neg (by omega),if_pos rfl] at hsc
 simp
 (repeat' first | omega | (with_reducible apply And.intro) | intro _)
 exact ih _ _ ⟨3,hsc,by simp,by simp⟩
omit hK
def JT (m:Nat):Nat->List Int->List (List Int)
 | 0,first=>[first]
 | n+1,first=>acc (fun j:Nat=>JT m n (first++[(j:Int)-1])) (m+1)
def Qc6 (p:List Int):List IV:=[Q6 p]
theorem J9 (m:Nat):∀ (n:Nat) (first p:List Int),p∈JT m n first->p.length=first.length+n/\((∀ x∈first,-1<=x/\x<m)->∀ x∈p,-1<=x/\x<(m:Int))
 | 0,first,p,h=>by
   simp only[JT,QKb] at h;subst h;exact ⟨by omega,fun h=>h⟩
 | n+1,first,p,h=>by
   simp only[JT,acc,QJL,QJN] at h;obtain ⟨j,hj,h⟩:=h;obtain ⟨h1,h2⟩:=J9 m n _ p h;refine ⟨by simp at h1;omega,fun h3=>h2 fun x hx=>?_⟩
   rcases QJG.1 hx with h4 | h4
   ·exact h3 x h4
   simp only[QKb] at h4;omega
include hK
theorem QE9 (o:Ord) (hs:o.ships.length<=3) (hk:o.stocks.length<=7):∀ (n:Nat) (first:List Int),first.length+n=o.stocks.length->∀ (s s':Ext) (b:Bool),Q4 prog K ((JT o.ships.length n first).map Qc6) s b s' ->
  qm prog K 245 [yaV o,.lit s.v,Q6 first] s (.bool b) s'
 | 0,first,hn=>by
   intro s s' b hf;refine X8 QqX (by simp) hf.v rfl ?_
   have hlen:first.length=o.stocks.length:=by omega
   simp only[JT,QJC,QKE] at hf;simp[hlen]
   (repeat' first | omega | (with_reducible apply And.intro) | intro _)
   cases hf with
   | stop _ _ _ _ hg =>
     refine QcH (by simpa[Qc6] using hg) rfl ?_
     simp
   | next _ _ _ s1 _ _ hg hr =>
     cases hr;refine QcH (by simpa[Qc6] using hg) rfl ?_
     simp
 | n+1,first,hn=>by
   intro s s' b hf;have hne:¬ first.length=o.stocks.length:=by omega
   have hne':¬ (first.length:Int)=o.stocks.length:=by omega
   have ih2:∀ i:Nat,∀ (s s':Ext) (b:Bool),Q4 prog K (((fun j:Nat=>JT o.ships.length n (first++[(j:Int)-1])) i).map Qc6) s b s'->qm prog K 245 [yaV o,.lit s.v,Q6 (first++[(i:Int)-1])] s (.bool b) s':=fun i s s' b hf =>
    QE9 o hs hk n (first++[(i:Int)-1]) (by simp;omega) s s' b hf
   rw[JT] at hf;generalize (fun j:Nat=>JT o.ships.length n (first++[(j:Int)-1]))=pc at *
   refine X8 QqX (by simp) hf.v rfl ?_
   rw[Vt] at hf;simp[hne,hne']
   (repeat' first | omega | (with_reducible apply And.intro) | intro _)
   refine Xj (o.ships.length+1) (fun i e ob=>∃ si,si.v=s.v/\e=[(0,.iv (yaV o)),(1,.iv (.lit s.v)),(2,.iv (Q6 first)),(7,.iv (.int .i64 first.length)),(8,.iv (.int .i64 ((i:Nat)-1)))]/\ob=[(0,.ext si)] /\
    Q4 prog K ((Zo pc i (o.ships.length+1-i)).map Qc6) si b s') ?_ ?_ _ _ ⟨s,rfl,by simp,by simp,by simpa using hf⟩
   ·rintro e ob ⟨si,hv,rfl,rfl,hfd⟩
    rw[QKK] at hfd;cases hfd;have q2:¬ ((o.ships.length+1:Nat):Int)-1<o.ships.length:=by omega
    rw[Qa Qko.eq_1];simp[q2]
   rintro i e ob hi ⟨si,hv,rfl,rfl,hfd⟩ ih
   have q1:(i:Int)-1<o.ships.length:=by omega
   have q3:(i:Int)-1+1=((i+1:Nat):Int)-1:=by omega
   have e1:o.ships.length+1-i=(o.ships.length+1-(i+1))+1:=by omega
   rw[e1] at hfd;simp only[Zo,QJE] at hfd
   have hcase:(∃ s1 b1,Q4 prog K ((pc i).map Qc6) si b1 s1/\(b1=true->Q4 prog K ((Zo pc (i+1) (o.ships.length+1-(i+1))).map Qc6) s1 b s')/\(b1=false->b=false/\s1=s')):=by
    rcases Q4.append hfd with ⟨s1,h1,h2⟩ | ⟨h1,h2⟩
    all_goals grind
   obtain ⟨s1,b1,f1,f2,f3⟩:=hcase;have hgz:=ih2 i _ _ _ f1;have hv1:=f1.v.trans hv;rw[hv] at hgz;rw[Qa Qko.eq_1];simp[q1]
   (repeat' first | omega | (with_reducible apply And.intro) | intro _)
   refine Qjz (by simpa using hgz) rfl ?_
   cases b1
   ·obtain ⟨rfl,rfl⟩:=f3 rfl
    simp
   simp
   (repeat' first | omega | (with_reducible apply And.intro) | intro _)
   exact ih _ _ ⟨s1,hv1,by simp[q3],by simp,f2 rfl⟩
theorem Qwz (o:Ord) (hs:o.ships.length<=3) (hk:o.stocks.length<=7):qk prog K 245 [yaV o] [.sl 1 []] ((JT o.ships.length o.stocks.length []).map Qc6) (fun b=>.bool b):=by
 intro s b s' hf;refine Qd0 ?_;have h:=QE9 hK o hs hk o.stocks.length [] (by simp) s s' b hf
 simpa using h
end Go.Pf
namespace Go.Proofs
open Go.Proofs.Tryz
open Go.Shelf
def Tryz.clone248_ren:Go.Shelf.Ren:=⟨fun | 41=>248 | n=>n,fun | 22=>57 | 23=>3 | 4=>4 | n=>n,fun | n=>n⟩
theorem Tryz.clone248:Go.Proofs.SlLaysE0.n41 prog Tryz.clone248_ren:={
 mixed:=by kernel_rfl
 f41:=⟨Tryz.f248.name,by decide,func248.trans (congrArg some (by kernel_rfl))⟩
 t4:=underlying4
 a4:=isAgg4
 z4:=sizeOf4
 v4:=zeroValue4
 t22:=underlying57
 a22:=isAgg57
 z22:=sizeOf57
 v22:=zeroValue57 }
end Go.Proofs
namespace Go.Pf
open Go Go.Ev Go.Proofs Go.RowKit Go.Proofs.Tryz
variable {K:World->Prop} (hK:∀ w w',K w->Below w.heap.size w w'->K w')
set_option maxRecDepth 8000
def X0 (o:Ord) (en:Int->Bool) (st:Option (List Int)) (p:List Int):Option (List Int):=match st with
 | none=>if en (Jo o p) then some p else none
 | some q=>if Ju q<Ju p\/en (Jo o p)=false then some q else if Ju p<Ju q then some p else some q
def stO (st:Option (List Int)):Ql:=match st with
 | none=>[(0,.box [.iv (.bool false)]),(1,.box [.iv (.sl 1 []),.iv (.map [])])]
 | some q=>[(0,.box [.iv (.bool true)]),(1,.box [.iv (Q6 q),.yk 2]),(2,.mapz (.int .i64))]
theorem Qdr (st:Option (List Int)):∀ q∈stO st,q.1<3/\XN q.2=true/\clO ((stO st).map (·.1)) q.2=true:=by
 intro q hq;cases st with
 | none =>
   simp only[stO,QJw,QJD,or_false] at hq;rcases hq with rfl | rfl<;>exact ⟨by simp,rfl,by simp[stO,clO,clAL,clA]⟩
 | some p =>
   simp only[stO,QJw,QJD,or_false] at hq;rcases hq with rfl | rfl | rfl<;>exact ⟨by simp,rfl,by simp[stO,clO,clAL,clA]⟩
def QE6 (st:Option (List Int)):Env->Ql->Prop:=QhY [.tmp 6] [0,1,2] [(1,0,0),(2,1,0)] (.iv (.bool true)) (stO st)
theorem QyZ {st:Option (List Int)} {e:Env} {ob:Ql} (h0:Ev.look e 6=.iv (.bool true)) (h1:Ev.look e 1=.loc 0 0) (h2:Ev.look e 2=.loc 1 0) (h3:∀ q∈stO st,Qc ob q.1=some q.2):QE6 st e ob:=by
 refine ⟨⟨.iv (.bool true),by simp[QuW,h0],rfl⟩,fun q hq=>?_,fun q hq=>?_⟩
 ·have h4:=h3 q hq
  cases st with
  | none =>
    simp only[stO,QJw,QJD,or_false] at hq;rcases hq with rfl | rfl<;>simpa[nth,rnO,rnL,rn] using h4
  | some p =>
    simp only[stO,QJw,QJD,or_false] at hq;rcases hq with rfl | rfl | rfl<;>simpa[nth,rnO,rnL,rn] using h4
 simp only[QJw,QJD,or_false] at hq;rcases hq with rfl | rfl
 ·exact h1
 exact h2
theorem QtX:Zp prog 246 Qz0 [1,2]:=⟨_,func246,by kernel_rfl⟩
include hK
theorem QxJ (p:List Int) (hl:p.length<=1000):Gd K 248 [Q6 p] (Q6 p):=by
 have h:=Qaz (K:=K) (f:=248) (e:=3) 1 8 Tryz.clone248 rfl rfl (by kernel_rfl) (by kernel_rfl) (by kernel_rfl) (by kernel_rfl) (by kernel_rfl) (by decide) sizeOf3 (p.map fun x=>[.int .i64 x]) (by simp;omega) (by simp)
 refine Vk (xs:=[Q6 p]) hK (Qda (args:=[Q6 p].map .iv) (o:=[]) 0 h (by simp[imms,imm])) ?_
 simp[rn,XC,Qc,imm,QJp]
theorem Qso (o:Ord) (ho:OkO o) (p:List Int) (hp:p.length=o.stocks.length) (g:FuncId) (en:Int->Bool) (hg:∀ k,Gd K g [.int .i64 k] (.bool (en k))) (hc:callee prog g=true) (st:Option (List Int)) (hst:∀ q,st=some q->q.length<=7) :
  Gh K 246 [.iv (Q6 p),.loc 0 0,.loc 1 0,.iv (.ptr [.fn g]),.iv (.ptr [yaV o])] (stO st) [0,1] (.iv (.bool true)) (stO (X0 o en st p)):=by
 have hl:p.length<=7:=hp▸ho.nk;have hu:∀ q:List Int,Ju q<=q.length:=fun q=>QJ4
 have hup:=hu p;have g1:=QlV hK p (by omega)
 have g2:=QxK hK o p ho hp;have g3:=hg (Jo o p);have g4:=QxJ hK p (by omega)
 refine Zj [0,1,2] [0,1] [1,2] [(1,0,0),(2,1,0)] QtX (by simp[Qz0]) (by decide) (fun q hq=>by simpa using Qdr _ q hq) (by simp[clA]) (fun i hi=>?_) ?_
 ·have:i=0\/i=1:=by simpa using hi
  have hb:∀ s:Option (List Int),(∃ cs,Qc (stO s) 0=some (.box cs))/\∃ cs,Qc (stO s) 1=some (.box cs):=fun s=>by
   cases s<;>exact ⟨⟨_,rfl⟩,_,rfl⟩
  rcases this with rfl | rfl
  ·exact ⟨rfl,(hb _).1,(hb _).1,1,0,by simp,by simp,by simp⟩
  exact ⟨rfl,(hb _).2,(hb _).2,2,0,by simp,by simp,by simp⟩
 change WpF prog K (FnF (QE6 (X0 o en st p))) _ _ _;generalize hG:QE6 (X0 o en st p)=G
 have fin:∀ (q:Option (List Int)) (e:Env),X0 o en st p=q->Ev.look e 6=.iv (.bool true)->Ev.look e 1=.loc 0 0->Ev.look e 2=.loc 1 0->∀ ob,(∀ q'∈stO q,Qc ob q'.1=some q'.2)->G e ob:=fun q e h1 h2 h3 h4 ob h5=>by
  rw[<- hG,h1];exact QyZ h2 h3 h4 h5
 have tail:∀ q',X0 o en st p=some q'->Xo prog K (FnF G) QcN [1,2,54,55,56] [0,1,2] [AI.inBlock 2,AI.code ((AC.ops [{ d:=some 6,g:=none,op:=AOp.xf (Opd.bool true) }] false).seq AC.ret)]
   [(1,.loc 0 0),(2,.loc 1 0),(54,.iv (Q6 p)),(55,.iv (.int .i64 p.length)),(56,.iv (.int .i64 0))] (stO (some q')):=fun q' hq=>by
  refine Zm (fun i=>[(1,.loc 0 0),(2,.loc 1 0),(54,.iv (Q6 p)),(55,.iv (.int .i64 p.length)),(56,.iv (.int .i64 (i:Nat)))]) (fun _=>stO (some q')) p.length (fun _=>True) trivial ?_ ?_ (by simp) rfl
  ·intro _
   rw[Qa QcN.eq_1];simp[stO];exact fin _ _ hq rfl rfl rfl _ (by simp[stO,Qc])
  intro i hi _ ih;have hii:(i:Int)<p.length:=by omega
  simp only[stO] at ih |-;rw[Qa QcN.eq_1];by_cases h0:p[i]<0
  ·simp[hi,hii,h0,MK.kind] at ih |-
   exact ⟨by omega,ih⟩
  simp[hi,hii,h0] at ih |-;exact ⟨by omega,ih⟩
 have mid:X0 o en st p=some p->Xo prog K (FnF G) QfC [0,1,2,42,43,44] [0,1,2] [AI.inBlock 0,AI.code (((AC.ops [{ d:=some 54,g:=none,op:=AOp.xf (Opd.t 0) },{ d:=some 55,g:=none,op:=AOp.len (Opd.t 54) },{ d:=some 56,g:=none,op:=AOp.xf (Opd.int IntKind.i64 0) }] false).seq
   (AC.block 2 (QcN.loop [1,2,54,55,56] [0,1,2]))).seq ((AC.ops [{ d:=some 6,g:=none,op:=AOp.xf (Opd.bool true) }] false).seq AC.ret))]
   [(0,.iv (Q6 p)),(1,.loc 0 0),(2,.loc 1 0),(42,.iv (Q6 p)),(43,.iv (.int .i64 p.length)),(44,.iv (.int .i64 0))] (stO (some p)):=fun hq=>by
  refine Zm (fun i=>[(0,.iv (Q6 p)),(1,.loc 0 0),(2,.loc 1 0),(42,.iv (Q6 p)),(43,.iv (.int .i64 p.length)),(44,.iv (.int .i64 (i:Nat)))]) (fun _=>stO (some p)) p.length (fun _=>True) trivial ?_ ?_ (by simp) rfl
  ·intro _
   rw[Qa QfC.eq_1];simp[stO]
   (repeat' first | omega | (with_reducible apply And.intro) | intro _)
   exact tail p hq
  intro i hi _ ih;have hii:(i:Int)<p.length:=by omega
  simp only[stO] at ih |-;rw[Qa QfC.eq_1];simp[hi,hii,MK.kind] at ih |-;exact ⟨by omega,ih⟩
 cases st with
 | none =>
   simp[Qz0,stO];refine cK (by simpa using g2) ?_
   simp;refine ⟨hc,cK (by simpa using g3) ?_⟩
   cases he:en (Jo o p)
   ·have hs:X0 o en none p=none:=by simp[X0,he]
    simp;exact fin _ _ hs rfl rfl rfl _ (by simp[stO,Qc])
   have hs:X0 o en none p=some p:=by simp[X0,he]
   simp;refine cK (by simpa using g4) ?_
   simp
   (repeat' first | omega | (with_reducible apply And.intro) | intro _)
   exact mid hs
 | some q =>
   have hql:=hst q rfl;have g5:=QlV hK q (by omega)
   have huq:=hu q;simp[Qz0,stO];refine cK (by simpa using g1) ?_
   simp;refine cK (by simpa using g5) ?_
   by_cases h1:Ju q<Ju p
   ·have hs:X0 o en (some q) p=some q:=by simp[X0,h1]
    simp[h1];exact fin _ _ hs rfl rfl rfl _ (by simp[stO,Qc])
   simp[h1];refine cK (by simpa using g2) ?_
   simp;refine ⟨hc,cK (by simpa using g3) ?_⟩
   cases he:en (Jo o p)
   ·have hs:X0 o en (some q) p=some q:=by simp[X0,he]
    simp;exact fin _ _ hs rfl rfl rfl _ (by simp[stO,Qc])
   simp;refine cK (by simpa using g1) ?_
   simp;refine cK (by simpa using g5) ?_
   by_cases h2:Ju p<Ju q
   ·have hs:X0 o en (some q) p=some p:=by simp[X0,he,h1,h2]
    simp[h2];refine cK (by simpa using g4) ?_
    simp
    (repeat' first | omega | (with_reducible apply And.intro) | intro _)
    exact mid hs
   have hs:X0 o en (some q) p=some q:=by simp[X0,he,h1,h2]
   simp[h2]
   (repeat' first | omega | (with_reducible apply And.intro) | intro _)
   exact tail q hs
omit hK
def UK (o:Ord) (en:Int->Bool):Option (List Int):=(JT o.ships.length o.stocks.length []).foldl (X0 o en) none
theorem Qf5 (o:Ord) (en:Int->Bool) (st:Option (List Int)) (p:List Int) (hst:∀ q,st=some q->q.length<=7) (hp:p.length<=7):∀ q,X0 o en st p=some q->q.length<=7:=by
 intro q hq;cases st with
 | none =>
   simp only[X0] at hq;split at hq<;>cases hq;exact hp
 | some r =>
   have:=hst r rfl;simp only[X0] at hq;split at hq
   ·cases hq;exact this
   split at hq<;>cases hq<;>assumption
def QBt (st:Option (List Int)):IV:=match st with
 | none=>.xd [.agg [.sl 1 [],.map []],.bool false]
 | some q=>.xd [.agg [Q6 q,.any],.bool true]
include hK
theorem Qgw (o:Ord) (ho:OkO o) (g:FuncId) (en:Int->Bool) (hg:∀ k,Gd K g [.int .i64 k] (.bool (en k))) (hc:callee prog g=true):∀ (L:List (List Int)) (st:Option (List Int)),(∀ p∈L,p.length=o.stocks.length)->(∀ q,st=some q->q.length<=7) ->
  XT prog K 246 [] [.loc 0 0,.loc 1 0,.iv (.ptr [.fn g]),.iv (.ptr [yaV o])] [0,1] (L.map Qc6) (stO st) true (stO (L.foldl (X0 o en) st))
 | [],st,_,_=>by simpa using XT.nil _
 | p::L,st,hl,hst=>by
   have h1:=Qso hK o ho p (hl p (by simp)) g en hg hc st hst
   have hpl:p.length<=7:=hl p (by simp)▸ho.nk
   refine XT.next _ _ _ (stO (X0 o en st p)) _ _ (by simpa[Qc6] using h1) (fun q hq=>(Qdr _ q hq).2.1) ?_
   exact Qgw o ho g en hg hc L _ (fun p hp=>hl p (by simp[hp])) (Qf5 o en st p hst hpl)
theorem Qsp (o:Ord) (ho:OkO o) (g:FuncId) (en:Int->Bool) (hg:∀ k,Gd K g [.int .i64 k] (.bool (en k))) (hc:callee prog g=true) :
  Gh K 245 [.iv (yaV o),.clo 246 [] [.loc 0 0,.loc 1 0,.iv (.ptr [.fn g]),.iv (.ptr [yaV o])],.iv (.sl 1 [])] (stO none) [0,1] (.iv (.bool true)) (stO (UK o en)):=by
 have hit:=Qwz hK o ho.ns ho.nk;have hr:=Qgw hK o ho g en hg hc (JT o.ships.length o.stocks.length []) none (fun p hp=>by simpa using (J9 _ _ _ p hp).1) (by simp)
 have:=Vi hit (by kernel_rfl) (by simp[clAL,clA]) (by simp[clAL,clA]) (fun i hi=>by
  have:i=0\/i=1:=by simpa using hi
  rcases this with rfl | rfl<;>exact ⟨_,rfl⟩) (fun q hq=>(Qdr _ q hq).2.1) hr
 simpa[UK] using this
theorem Qyp (o:Ord) (ho:OkO o) (g:FuncId) (en:Int->Bool) (hg:∀ k,Gd K g [.int .i64 k] (.bool (en k))) (hc:callee prog g=true):Gd K 149 [yaV o,.fn g] (QBt (UK o en)):=by
 refine Qb hK (fk func149 QIo (by kernel_rfl)) (by simp) ?_
 have g1:=Qsp hK o ho g en hg hc;generalize UK o en=B at *;simp;refine QC g1 ?_ ?_ ?_
 ·simp[rn,rnL,nth]
 ·refine ⟨by decide,by simp[clA,clAL,stO],fun q hq=>?_,fun i hi h=>?_,fun q hq=>⟨by simpa using (Qdr _ q hq).1,(Qdr _ q hq).2.1⟩⟩
  ·have h1:=Qdr none q hq
   refine ⟨by simpa using h1.1,?_,h1.2.2,h1.2.1⟩
   simp only[stO,QJw,QJD,or_false] at hq;rcases hq with rfl | rfl<;>simp[Qc,nth,rnO,rnL,rn]
  simp at hi;have:i=0\/i=1\/i=2:=by omega
  rcases this with rfl | rfl | rfl<;>simp[Qc,stO,nth] at h |-
 cases B with
 | none =>
   simp[stO,QBt]
 | some q =>
   simp[stO,QBt]
omit hK
noncomputable def Qz1 (o:Ord) (en:Int->Bool):IV:=if OkO o then (match UK o en with
 | none=>.xd [.agg [.sl 1 [],.map []],.int .i64 3]
 | some q=>.xd [.agg [Q6 q,.any],.int .i64 0]) else .xd [.agg [.sl 1 [],.map []],.int .i64 80]
theorem Qhk (o:Ord) (en:Int->Bool):∀ (L:List (List Int)) (st:Option (List Int)),(∀ p∈L,p.length<=7)->(∀ q,st=some q->q.length<=7)->∀ q,L.foldl (X0 o en) st=some q->q.length<=7
 | [],_,_,h=>h
 | p::L,st,h1,h2=>Qhk o en L _ (fun p hp=>h1 p (by simp[hp])) (Qf5 o en st p h2 (h1 p (by simp)))
theorem Qra {o:Ord} (ho:OkO o) {en:Int->Bool} {q:List Int} (h:UK o en=some q):q.length<=7 :=
 Qhk o en _ none (fun p hp=>by
  have:=(J9 _ _ _ p hp).1;have:=ho.nk;simp at *;omega) (by simp) q h
include hK
theorem QA7 (k:Int):Gd K 55 [.int .i64 k] (.bool (decide (k=1))):=by
 refine Qb hK (fk func55 c55 (by kernel_rfl)) (by simp) ?_
 simp
theorem QA0 (k:Int):Gd K 72 [.int .i64 k] (.bool (!decide (k=2))):=by
 refine Qb hK (fk func72 c72 (by kernel_rfl)) (by simp) ?_
 simp
theorem Qvb (o:Ord) (ho:OkO o):Gd K 58 [orV o] (yaV o):=by
 refine Qb hK (fk func58 c58 (by kernel_rfl)) (by simp) ?_
 have hn:=ho.ns;have hnr:=ho.nr;have hL:(ZU o).length=o.ships.length:=by simp[ZU]
 simp
 (repeat' first | omega | (with_reducible apply And.intro) | intro _)
 refine Zm (fun i=>[(1,.iv (.ptr (orC o))),(3,.loc 8 0),(10,.iv (Z7 o.ships)),(11,.iv (.int .i64 o.ships.length)),(12,.iv (.int .i64 (i:Nat)))])
  (fun i=>[(8,.box [.iv (ZL o.rates),.iv (Z7 o.ships),.iv (ZL o.stocks),.iv (.int .i64 o.shk),.yl 9004 i]),(9004,.arr 136 1 (emb (((ZU o).take i).map fun l=>[.sl 2 (l.map spC)])) 0)]) o.ships.length (fun _=>True) trivial ?_ ?_ (by simp) (by simp[emb])
 ·intro _
  rw[Qa QqJ.eq_1];rw[<- hL,QJF];simp[QJp]
 intro i hi _ ih;have hii:(i:Int)<o.ships.length:=by omega
 have hs:=QbA (ho.ships _ (QJo hi));have g:=Qyk hK o o.ships[i] hnr hs;have hiL:i<(ZU o).length:=by omega
 have hg:(ZU o)[i]=ZR o o.ships[i]:=by simp[ZU]
 rw[QJk hiL,hg] at ih;rw[Qa QqJ.eq_1];simp[hi,hii] at ih |-;refine cK (by simpa using g) ?_
 simp;exact ⟨⟨by omega,by omega,by omega⟩,by omega,ih⟩
theorem Qvd (o:Ord) (hl:o.rates.length<=1000) (g:FuncId) (en:Int->Bool) (hg:∀ k,Gd K g [.int .i64 k] (.bool (en k))) (hc:callee prog g=true):Gd K 54 [orV o,.fn g] (Qz1 o en):=by
 refine Qb hK (fk func54 c54 (by kernel_rfl)) (by simp) ?_
 simp;refine cK (by simpa using Qvc hK o hl) ?_
 by_cases ho:OkO o
 ·have g2:=Qyp hK o ho g en hg hc
  simp[ho];refine cK (by simpa using Qvb hK o ho) ?_
  simp;refine cK (by simpa using g2) ?_
  cases hB:UK o en with
  | none=>simp[QBt,Qz1,hB,ho]
  | some q=>simp[QBt,Qz1,hB,ho]
 simp[ho,Qz1]
theorem QBe (o:Ord) (hl:o.rates.length<=1000):Gd K 38 [orV o] (if OkO o then (match UK o (fun k=>!decide (k=2)) with
 | none=>.xd [.int .i64 0,.int .i64 3]
 | some q=>.xd [.int .i64 (Ju q:Nat),.int .i64 0]) else .xd [.int .i64 0,.int .i64 80]):=by
 refine Qb hK (fk func38 c38 (by kernel_rfl)) (by simp) ?_
 simp;refine cK (by simpa using Qvd hK o hl 72 _ (QA0 hK) (by kernel_rfl)) ?_
 have g0:=QlV hK [] (by simp)
 unfold Qz1;by_cases ho:OkO o
 ·cases hB:UK o (fun k=>!decide (k=2)) with
  | none =>
    simp[ho];refine cK (by simpa using g0) ?_
    simp[Ju]
  | some q =>
    have g1:=QlV hK q (by have:=Qra ho hB;omega)
    simp[ho];refine cK (by simpa using g1) ?_
    simp
 simp[ho];refine cK (by simpa using g0) ?_
 simp[Ju]
theorem QBk (o:Ord) (hl:o.rates.length<=1000):Gd K 23 [orV o] (if OkO o then (match UK o (fun k=>decide (k=1)) with
 | none=>.xd [.sl 1 [],.int .i64 3]
 | some q=>.xd [Q6 q,.int .i64 0]) else .xd [.sl 1 [],.int .i64 80]):=by
 refine Qb hK (fk func23 c23 (by kernel_rfl)) (by simp) ?_
 simp;refine cK (by simpa using Qvd hK o hl 55 _ (QA7 hK) (by kernel_rfl)) ?_
 unfold Qz1;by_cases ho:OkO o
 ·cases hB:UK o (fun k=>decide (k=1)) with
  | none=>simp[ho]
  | some q=>simp[ho]
 simp[ho]
omit hK
def XY (p:List Int) (ship:Int) (i:Nat):List Nat:=(List.range i).filter fun k=>decide (p.getD k 0=ship)
theorem qt (p:List Int) (ship:Int) (i:Nat):XY p ship (i+1)=XY p ship i++(if p.getD i 0=ship then [i] else []):=by
 unfold XY;rw[QJT,QKW];by_cases h:p.getD i 0=ship
 ·rw[if_pos h]
  simp only[List.filter_cons,h,decide_true,if_true,List.filter_nil]
 rw[if_neg h];simp only[List.filter_cons,h,decide_false,List.filter_nil];rfl
theorem Qbq {p:List Int} {ship:Int} {i k:Nat} (h:k∈XY p ship i):k<i/\p.getD k 0=ship:=by
 simpa[XY] using h
theorem QnV (p:List Int) (ship:Int) (i:Nat):(XY p ship i).length<=i:=by
 have:=QJI (fun k=>decide (p.getD k 0=ship)) (List.range i)
 simpa[XY] using this
theorem QnE {o:Ord} {en:Int->Bool} {q:List Int} (h:UK o en=some q):en (Jo o q)=true/\q∈JT o.ships.length o.stocks.length []:=by
 have key:∀ (L:List (List Int)) (st:Option (List Int)) (M:List (List Int)),(∀ p∈L,p∈M)->(∀ r,st=some r->en (Jo o r)=true/\r∈M)->∀ r,L.foldl (X0 o en) st=some r->en (Jo o r)=true/\r∈M:=by
  intro L
  induction L with
  | nil=>exact fun _ _ _ h=>h
  | cons p L ih =>
    intro st M hL hst;rw[QKd];refine ih _ M (fun p hp=>hL p (by simp[hp])) fun r hr=>?_
    have hp:=hL p (by simp)
    unfold X0 at hr
    grind
 exact key _ none _ (fun _ h=>h) (by simp) q h
theorem Qck (o:Ord) (p:List Int):∀ i,Jp o p i=some 1->∀ k,k<i->Yt o p k=1
 | 0,_,k,hk=>by omega
 | i+1,h,k,hk=>by
   simp only[Jp] at h;cases hi:Jp o p i with
   | none=>rw[hi] at h;cases h
   | some m =>
     rw[hi] at h;simp only at h;split at h
     ·cases h
     split at h
     ·cases h
     cases h;rcases QKz.1 hk with h1 | rfl
     ·exact Qck o p i hi k h1
     have:Yt o p k=1\/Yt o p k=2\/Yt o p k=3:=by
      unfold Yt;split
      ·exact .inl rfl
      split
      ·exact .inr (.inl rfl)
      exact .inr (.inr rfl)
     omega
theorem QiS {o:Ord} {p:List Int} (h:Jo o p=1) {k:Nat} (hk:k<o.ships.length):Qc0 (Qmo o p k) ((ZU o).getD k [])=true:=by
 have h1:Jp o p o.ships.length=some 1:=by
  unfold Jo at h;cases hi:Jp o p o.ships.length with
  | none=>rw[hi] at h;simp at h
  | some m=>rw[hi] at h;simpa using h
 have h2:=Qck o p _ h1 k hk;unfold Yt at h2
 grind
theorem QhI (o:Ord) (p:List Int) (ship:Int):∀ i c,QfP o p ship i=some c->c.many=(XY p ship i).length/\∀ k∈XY p ship i,(o.stocks.getD k (0,0,0)).1=c.size
 | 0,c,h=>by
   simp only[QfP,Option.some.injEq] at h;subst h;simp[XY]
 | i+1,c,h=>by
   simp only[QfP] at h;cases hi:QfP o p ship i with
   | none=>rw[hi] at h;cases h
   | some d =>
     obtain ⟨ih1,ih2⟩:=QhI o p ship i d hi;rw[hi] at h;simp only at h;rw[qt];split at h
     ·rename_i hp
      split at h
      ·cases h
      rename_i hq;cases h;rw[if_pos hp];refine ⟨by simp[ih1],fun k hk=>?_⟩
      rcases QJG.1 hk with hk | hk
      ·have h1:=ih2 k hk
       have h2:0<d.many:=by
        rw[ih1];exact List.length_pos_of_mem hk
       simp only;rw[h1];by_cases hz:(o.stocks.getD i (0,0,0)).1=d.size
       ·exact hz.symm
       exact absurd ⟨h2,hz⟩ hq
      rw[QKb.1 hk]
     rename_i hp;cases h;rw[if_neg hp];simpa using ⟨ih1,ih2⟩
theorem QgO {o:Ord} {s:Int × Int} (h:s.1<=s.2):ZR o s≠[]:=by
 intro e
 have h1:JU o.rates s.1∈XW o s.1 (s.2+1-s.1).toNat:=by
  rw[Ur];unfold QeE;exact QJz.2 ⟨0,by simp;omega,by simp⟩
 unfold ZR at e;rw[e] at h1;simp at h1
theorem Qoq {o:Ord} (ho:OkO o) {p:List Int} (h:UK o (fun k=>decide (k=1))=some p) {ship:Nat} (hs:ship<o.ships.length) :
  p.length=o.stocks.length/\(∀ x∈p,-1<=x/\x<o.ships.length)/\∃ sz:Int,(∀ n∈ZR o o.ships[ship],n.1<=sz)/\∀ k∈XY p ship o.stocks.length,(o.stocks.getD k (0,0,0)).1=sz:=by
 obtain ⟨h1,h2⟩:=QnE h;obtain ⟨h3,h4⟩:=J9 _ _ _ _ h2;refine ⟨by simpa using h3,h4 (by simp),?_⟩
 have h5:=QiS (of_decide_eq_true h1) hs;have hg:(ZU o).getD ship []=ZR o o.ships[ship]:=by simp[ZU,hs]
 rw[hg] at h5;unfold Qc0 at h5;rw[QJX] at h5;have hne:=QgO (o:=o) (QbA (ho.ships _ (QJo hs))).2.1;cases hc:QfP o p ship o.stocks.length with
 | none =>
   have hv:Qmo o p ship=(-1,0,0):=by simp[Qmo,hc]
   obtain ⟨n,r,e⟩:=List.exists_cons_of_ne_nil hne;have h6:=h5 n (by simp[e])
   have hm:n∈ZR o o.ships[ship]:=by simp[e]
   unfold ZR at hm;rw[Ur] at hm;unfold QeE at hm;obtain ⟨k,_,rfl⟩:=QJz.1 hm;have h7:=QlB ho (o.ships[ship].1+(k:Nat));rw[hv] at h6;simp at h6;omega
 | some c =>
   have hv:Qmo o p ship=(c.size,c.lo,c.hi):=by simp[Qmo,hc]
   refine ⟨c.size,fun n hn=>?_,(QhI o p ship _ c hc).2⟩
   have h6:=h5 n hn;rw[hv] at h6;simp at h6;exact h6.1
def Qgf (c:Int->Bool) (f:Int × Int->Int) (l:List (Int × Int)):Nat->Int × Int
 | 0=>l.getD 0 (0,0)
 | i+1=>if c (f (l.getD (i+1) (0,0))-f (Qgf c f l i)) then l.getD (i+1) (0,0) else Qgf c f l i
theorem QaX (c:Int->Bool) (f:Int × Int->Int) (l:List (Int × Int)):∀ i,i<l.length->Qgf c f l i∈l
 | 0,h=>by
   unfold Qgf;rw[List.getD_eq_getElem?_getD,QJi h];exact QJo h
 | i+1,h=>by
   unfold Qgf;split
   ·rw[List.getD_eq_getElem?_getD,QJi h]
    exact QJo h
   exact QaX c f l i (by omega)
def Qwm (f:Int × Int->Int) (l:List (Int × Int)):Int × Int:=Qgf (fun k=>decide (k<0)) f l (l.length-1)
def Qu4 (f:Int × Int->Int) (l:List (Int × Int)):Int × Int:=Qgf (fun k=>decide (0<k)) f l (l.length-1)
include hK
theorem Qyi (x y:Int × Int) (g:FuncId) (f:Int × Int->Int) (hg:∀ x,Gd K g [.agg (spC x)] (.int .i64 (f x))) (hc:callee prog g=true) (hx:0<=f x/\f x<=1000) (hy:0<=f y/\f y<=1000) :
  Gd K 157 [.agg (spC x),.agg (spC y),.ptr [.fn g]] (.int .i64 (f x-f y)):=by
 refine Qb hK (fk func157 QIg (by kernel_rfl)) (by simp) ?_
 have g1:=hg x;have g2:=hg y;simp;refine ⟨hc,cK (by simpa using g1) ?_⟩
 simp;refine ⟨hc,cK (by simpa using g2) ?_⟩
 simp;omega
theorem Qyg (x y:Int × Int) (g:FuncId) (f:Int × Int->Int) (hg:∀ x,Gd K g [.agg (spC x)] (.int .i64 (f x))) (hc:callee prog g=true) (hx:0<=f x/\f x<=1000) (hy:0<=f y/\f y<=1000) :
  Gd K 159 [.agg (spC x),.agg (spC y),.ptr [.fn g]] (.int .i64 (f x-f y)):=by
 refine Qb hK (fk func159 QIe (by kernel_rfl)) (by simp) ?_
 have g1:=hg x;have g2:=hg y;simp;refine ⟨hc,cK (by simpa using g1) ?_⟩
 simp;refine ⟨hc,cK (by simpa using g2) ?_⟩
 simp;omega
theorem Qyj (l:List (Int × Int)) (hl:l.length<=100000) (hne:l≠[]) (g:FuncId) (f:Int × Int->Int) (hg:∀ x,Gd K g [.agg (spC x)] (.int .i64 (f x))) (hc:callee prog g=true) (hf:∀ x∈l,0<=f x/\f x<=1000) :
  Gd K 156 [.sl 2 (l.map spC),.clo 157 [] [.ptr [.fn g]]] (.agg (spC (Qwm f l))):=by
 refine Qb hK (fk func156 QIh (by kernel_rfl)) (by simp) ?_
 have h0:0<l.length:=QJQ.2 hne;have h0':¬ (l.length:Int)<1:=by omega
 have e0:l.getD 0 (0,0)=l[0]:=by simp[h0]
 simp[h0,h0']
 (repeat' first | omega | (with_reducible apply And.intro) | intro _)
 refine Zm (fun i=>[(0,.iv (.sl 2 (l.map spC))),(1,.iv (.clo 157 [] [.ptr [.fn g]])),(4,.loc 4 0),(5,.loc 5 0),(6,.iv (.int .i64 ((i:Nat)+1)))])
  (fun i=>[(4,.box [.iv (.int .i64 0),.iv (.int .i64 0)]),(5,.box ((spC (Qgf (fun k=>decide (k<0)) f l i)).map .iv))]) (l.length-1) (fun _=>True) trivial ?_ ?_ (by simp) (by simp[Qgf,h0])
 ·intro _
  have e1:((l.length-1:Nat):Int)+1=l.length:=by omega
  rw[Qa QkI.eq_1];simp[e1,Qwm]
 intro i hi _ ih;have xa:i+1<l.length:=by omega
 have hii:(i:Int)+1<l.length:=by omega
 have e1:(i:Int)+1=((i+1:Nat):Int):=by omega
 have e2:l.getD (i+1) (0,0)=l[i+1]:=by simp[xa]
 have hm:=QaX (fun k=>decide (k<0)) f l i (by omega)
 have b1:=hf _ hm;have b2:=hf _ (QJo xa);have hq:=Qyi hK l[i+1] (Qgf (fun k=>decide (k<0)) f l i) g f hg hc b2 b1
 simp only[Qgf,e2] at ih;generalize Qgf (fun k=>decide (k<0)) f l i=m at *
 rw[Qa QkI.eq_1];have hc7:callee prog 157=true:=by kernel_rfl
 by_cases hd:f l[i+1]-f m<0
 ·have hd':decide (f l[i+1]-f m<0)=true:=by simpa using hd
  rw[hd'] at ih;simp[hii,xa,hc7] at ih |-
  (repeat' first | omega | (with_reducible apply And.intro) | intro _)
  refine cK (by simpa using hq) ?_
  simp[hd,xa];exact ⟨by omega,by omega,ih⟩
 have hd':decide (f l[i+1]-f m<0)=false:=by simpa using hd
 rw[hd'] at ih;simp[hii,xa,hc7] at ih |-
 (repeat' first | omega | (with_reducible apply And.intro) | intro _)
 refine cK (by simpa using hq) ?_
 simp[hd];exact ⟨by omega,ih⟩
theorem Qyh (l:List (Int × Int)) (hl:l.length<=100000) (hne:l≠[]) (g:FuncId) (f:Int × Int->Int) (hg:∀ x,Gd K g [.agg (spC x)] (.int .i64 (f x))) (hc:callee prog g=true) (hf:∀ x∈l,0<=f x/\f x<=1000) :
  Gd K 158 [.sl 2 (l.map spC),.clo 159 [] [.ptr [.fn g]]] (.agg (spC (Qu4 f l))):=by
 refine Qb hK (fk func158 QIf (by kernel_rfl)) (by simp) ?_
 have h0:0<l.length:=QJQ.2 hne;have h0':¬ (l.length:Int)<1:=by omega
 have e0:l.getD 0 (0,0)=l[0]:=by simp[h0]
 simp[h0,h0']
 (repeat' first | omega | (with_reducible apply And.intro) | intro _)
 refine Zm (fun i=>[(0,.iv (.sl 2 (l.map spC))),(1,.iv (.clo 159 [] [.ptr [.fn g]])),(4,.loc 4 0),(5,.loc 5 0),(6,.iv (.int .i64 ((i:Nat)+1)))])
  (fun i=>[(4,.box [.iv (.int .i64 0),.iv (.int .i64 0)]),(5,.box ((spC (Qgf (fun k=>decide (0<k)) f l i)).map .iv))]) (l.length-1) (fun _=>True) trivial ?_ ?_ (by simp) (by simp[Qgf,h0])
 ·intro _
  have e1:((l.length-1:Nat):Int)+1=l.length:=by omega
  rw[Qa QkH.eq_1];simp[e1,Qu4]
 intro i hi _ ih;have xa:i+1<l.length:=by omega
 have hii:(i:Int)+1<l.length:=by omega
 have e1:(i:Int)+1=((i+1:Nat):Int):=by omega
 have e2:l.getD (i+1) (0,0)=l[i+1]:=by simp[xa]
 have hm:=QaX (fun k=>decide (0<k)) f l i (by omega)
 have b1:=hf _ hm;have b2:=hf _ (QJo xa);have hq:=Qyg hK l[i+1] (Qgf (fun k=>decide (0<k)) f l i) g f hg hc b2 b1
 simp only[Qgf,e2] at ih;generalize Qgf (fun k=>decide (0<k)) f l i=m at *
 rw[Qa QkH.eq_1];have hc7:callee prog 159=true:=by kernel_rfl
 by_cases hd:0<f l[i+1]-f m
 ·have hd':decide (0<f l[i+1]-f m)=true:=by simpa using hd
  have hd2:f m<f l[i+1]:=by omega
  have hd3:¬ f l[i+1]<=f m:=by omega
  rw[hd'] at ih;simp[hii,xa,hc7] at ih |-
  (repeat' first | omega | (with_reducible apply And.intro) | intro _)
  refine cK (by simpa using hq) ?_
  simp[hd2,hd3,xa];exact ⟨by omega,by omega,ih⟩
 have hd':decide (0<f l[i+1]-f m)=false:=by simpa using hd
 have hd2:¬ f m<f l[i+1]:=by omega
 have hd3:f l[i+1]<=f m:=by omega
 rw[hd'] at ih;simp[hii,xa,hc7] at ih |-
 (repeat' first | omega | (with_reducible apply And.intro) | intro _)
 refine cK (by simpa using hq) ?_
 simp[hd2,hd3];exact ⟨by omega,ih⟩
theorem QA6 (x:Int × Int):Gd K 60 [.agg (spC x)] (.int .i64 x.1):=by
 refine Qb hK (fk func60 c60 (by kernel_rfl)) (by simp) ?_
 simp
theorem QA5 (x:Int × Int):Gd K 61 [.agg (spC x)] (.int .i64 x.2):=by
 refine Qb hK (fk func61 c61 (by kernel_rfl)) (by simp) ?_
 simp
theorem Qva (l:List (Int × Int)) (hl:l.length<=100000) (hne:l≠[]) (g:FuncId) (f:Int × Int->Int) (hg:∀ x,Gd K g [.agg (spC x)] (.int .i64 (f x))) (hc:callee prog g=true) (hf:∀ x∈l,0<=f x/\f x<=1000) :
  Gd K 59 [.agg [.sl 2 (l.map spC)],.fn g] (.agg [.int .i64 (f (Qwm f l)),.int .i64 (f (Qu4 f l))]):=by
 refine Qb hK (fk func59 c59 (by kernel_rfl)) (by simp) ?_
 have g1:=Qyj hK l hl hne g f hg hc hf;have g2:=Qyh hK l hl hne g f hg hc hf;have g3:=hg (Qwm f l);have g4:=hg (Qu4 f l);generalize Qwm f l=m1 at *;generalize Qu4 f l=m2 at *;simp;refine cK (by simpa using g1) ?_
 simp;refine cK (by simpa using g2) ?_
 simp[hc];refine cK (by simpa using g3) ?_
 simp[hc];refine cK (by simpa using g4) ?_
 simp
theorem QBj (o:Ord) (ho:OkO o) (ship:Nat) (hs:ship<o.ships.length):∃ a b c d:Int,(∃ n∈ZR o o.ships[ship],n.1=b) /\
  Gd K 24 [orV o,.int .i64 (ship:Int)] (.xd [.agg [.int .i64 a,.int .i64 b],.agg [.int .i64 c,.int .i64 d],.int .i64 0]):=by
 have hsh:=QbA (ho.ships _ (QJo hs));have hne:=QgO (o:=o) hsh.2.1;have hnr:=ho.nr;have hns:=ho.ns
 have hlen:(ZR o o.ships[ship]).length<=100000:=by
  have:=Us o o.ships[ship].1 (o.ships[ship].2+1-o.ships[ship].1).toNat;unfold ZR;omega
 have hbd:∀ n∈ZR o o.ships[ship],(0<=n.1/\n.1<=1000)/\0<=n.2/\n.2<=1000:=fun n hn=>by
  unfold ZR at hn;rw[Ur] at hn;unfold QeE at hn;obtain ⟨k,_,rfl⟩:=QJz.1 hn;have:=QlB ho (o.ships[ship].1+(k:Nat));omega
 have hp:0<(ZR o o.ships[ship]).length:=QJQ.2 hne;have hL:(ZU o).length=o.ships.length:=by simp[ZU]
 have hg:(ZU o)[ship]'(by omega)=ZR o o.ships[ship]:=by simp[ZU]
 have g1:=Qva hK _ hlen hne 60 (·.1) (QA6 hK) (by kernel_rfl) fun n hn=>(hbd n hn).1
 have g2:=Qva hK _ hlen hne 61 (·.2) (QA5 hK) (by kernel_rfl) fun n hn=>(hbd n hn).2
 refine ⟨(Qwm (·.1) (ZR o o.ships[ship])).1,(Qu4 (·.1) (ZR o o.ships[ship])).1,(Qwm (·.2) (ZR o o.ships[ship])).2,(Qu4 (·.2) (ZR o o.ships[ship])).2,⟨Qu4 (·.1) (ZR o o.ships[ship]),QaX _ _ _ _ (by omega),rfl⟩,?_⟩
 refine Qb hK (fk func24 c24 (by kernel_rfl)) (by simp) ?_
 simp;refine cK (by simpa using Qvc hK o (by omega)) ?_
 simp[ho]
 (repeat' first | omega | (with_reducible apply And.intro) | intro _)
 refine cK (Qcu hK _ _ _) ?_
 have hin:inR (ship:Int) 0 ((o.ships.length:Int)-1):=by
  unfold inR;omega
 simp[hin];refine cK (by simpa using Qvb hK o ho) ?_
 simp[hg,hL,hs]
 (repeat' first | omega | (with_reducible apply And.intro) | intro _)
 refine cK (by simpa using g1) ?_
 simp;refine cK (by simpa using g2) ?_
 simp
omit hK
def exO:Ord:=⟨[(0,10,30),(200,12,50),(500,14,70)],[(150,210),(600,600)],[(12,30,31),(12,25,25),(14,40,42),(14,29,30),(14,10,10)],1⟩
theorem QBB:OkO exO:=by
 refine ⟨?_,by decide,by decide,by decide,by decide,by decide,by decide⟩
 intro i hi;have:i=0\/i=1\/i=2:=by simp[exO] at hi;omega
 rcases this with rfl | rfl | rfl<;>rfl
theorem Qs0:(UK exO fun k=>!decide (k=2)).map Ju=some 3:=by decide +kernel
include hK
theorem QBd:Gd K 39 [] (orV exO):=by
 refine Qb hK (fk func39 c39 (by kernel_rfl)) (by simp) ?_
 simp[exO]
theorem QwS:Gd K 38 [orV exO] (.xd [.int .i64 3,.int .i64 0]):=by
 have h:=QBe hK exO (by decide)
 have hb:=Qs0;cases hB:UK exO (fun k=>!decide (k=2)) with
 | none=>simp[hB] at hb
 | some q =>
   simp[hB] at hb;simpa[hB,QBB,hb] using h
omit hK
def Qhp:Qg:=⟨exD,[],0⟩
def QsZ:Sea:=⟨100,40,[(1,2),(0,1)],1,1,[(0,6),(1,10)],[(1,91,2)],0⟩
def exL:Zz:=⟨Qhp,QsZ,30,34,0,10,32,32,5,[(5,2),(-1,-1)],1,-1⟩
def QAP (l:Zz) (c:Sea) (n:Int):List Int:=if wTr (qo c n)≠[]/\¬ (0<=l.pth/\Qz6 (qo c n)≠l.pth) then [QAY (qo c n)] else []
def QBN (l:Zz):Nat->Sea->Nat->List Int
 | 0,c,_=>(UN c.yh c.yi).flatMap (QAP l c)
 | k+1,c,w=>(UN (c.waters.getD w (0,0)).1 (c.waters.getD w (0,0)).2).flatMap fun n=>QBN l k (Qij c w n) (w+1)
theorem QuJ {c:Sea} (hc:QP c):tW c true=0↔wTr c≠[]:=by
 unfold tW
 grind
theorem qQ {f g:Int->List Int}:∀ l:List Int,(∀ x∈l,f x=g x)->l.flatMap f=l.flatMap g
 | [],_=>rfl
 | a::r,h=>by
   rw[QJ8,QJ8,h a (by simp),qQ r fun x hx=>h x (by simp[hx])]
theorem Qml (l:Zz):∀ (k:Nat) (c:Sea) (w:Nat),w+k=c.waters.length->QP c->Vz l k c w=QBN l k c w
 | 0,c,w,_,hc=>qQ _ fun n hn=>by
   have h1:=WE hn;have h2:=QuJ (Qu2 hc h1.1 h1.2);unfold Qe2 QAP;simp only[h2]
 | k+1,c,w,hw,hc=>qQ _ fun n hn=>by
   have hw':w<c.waters.length:=by omega
   have hge:c.waters.getD w (0,0)=c.waters[w]:=by simp[hw']
   rw[hge] at hn;have h1:=WE hn;exact Qml l k _ _ (by simp[Qij];omega) (Qlx hc hw' h1.1 h1.2)
theorem QpI (l:Zz) (hc:QP l.sea):Zx l=if wTr (QlA l.sea)≠[] then loD ((wTr (QlA l.sea)).map fun w=>Y7 (QlA l.sea) (Z6 (QlA l.sea) w 0)) else 0:=by
 unfold Zx;simp only[QuJ (QAI hc)]
theorem Qfl:QP QsZ:=by
 refine ⟨by decide,by decide,by decide,by decide,by decide,by decide,by decide,by decide,by decide,by decide⟩
theorem QyX:OkC Qhp:=by
 refine ⟨by decide,by decide,by decide,fun i h _=>?_,fun s hs=>by simp[Qhp] at hs⟩
 have all:∀ i<6,ZK (Qhp.za.getD i d0) (cnt Qhp.za i):=by decide
 have:=all i h
 grind
theorem QBC:OkL exL:=⟨QyX,Qfl,by decide,by decide,by decide,by decide,by decide,by decide,by decide,by decide,by decide⟩
theorem QyT:UC exL=[33,26]:=by
 unfold UC;rw[Qml exL exL.sea.waters.length exL.sea 0 (by decide) Qfl]
 decide +kernel
theorem QsX:Zx exL=40:=by
 rw[QpI exL Qfl];decide +kernel
theorem QpT:(Xy exL).map (·.cause)=[1,1,1,1]++(List.replicate 18 [1,2]).flatten:=by
 unfold Xy XV;rw[QyT,QsX];decide +kernel
def Wl:Qg:={ Qhp with za:=Qhp.za.set 4 ⟨2,0,0,0,0⟩ }
theorem Qma:OkC Wl:=by
 refine ⟨by decide,by decide,by decide,fun i h _=>?_,fun s hs=>by simp[Wl,Qhp] at hs⟩
 have all:∀ i<6,ZK (Wl.za.getD i d0) (cnt Wl.za i):=by decide
 have:=all i h
 grind
theorem QpU:Wl∈QJ Qhp:=by
 unfold QJ;refine QJM.2 ⟨QJz.2 ⟨Wl.za,by decide +kernel,rfl⟩,decide_eq_true ?_⟩
 unfold Xn;have h:=qv Wl Qma (by decide) rfl
 simp[Qma,h]
theorem QwC {α:Type} [DecidableEq α] (l:List (α × Nat)) (x:α):qp l x≠[]:=by
 cases l with
 | nil=>simp[qp]
 | cons p r=>unfold qp;split<;>simp
theorem Qy7 {α:Type} [DecidableEq α] {l:List α} (h:l≠[]):V9 l≠[]:=by
 obtain ⟨L,b,rfl⟩:∃ L b,l=L++[b]:=⟨_,_,(QKm h).symm⟩
 rw[Yx];exact QwC _ _
theorem QyV:UH Wl exL.marks ((0:Nat):Int) 1:=fun i h=>by
 have all:∀ i:Nat,(h:i<exL.marks.length)->Qou Wl (((0:Nat):Int)+1*(i:Nat)) exL.marks[i]=true:=by decide +kernel
 exact all i h
theorem QsW:spN exL≠[]:=by
 refine Qy7 (List.ne_nil_of_mem (a:=J6 Wl (((0:Nat):Int)+1*exL.z5)) ?_);refine QJL.2 ⟨Wl,QpU,QJL.2 ⟨0,by decide +kernel,?_⟩⟩
 simp[Qc1,QaC,show UH Wl exL.marks 0 1 from QyV]
theorem Qjv:tLs exL true=0:=by
 have h:Xy exL≠[]:=fun e=>by
  have:=QpT;rw[e] at this;exact absurd this (by decide +kernel)
 simp[tLs,QBC,QsW,h]
include hK
theorem QA2:Gd K 70 [] (.xd [chV Qhp,.agg [.int .i64 6,.int .i64 1,.int .i64 0,.int .i64 6,.int .i64 (-1)],.agg [.int .i64 6,.int .i64 0,.int .i64 0,.int .i64 (-1),.int .i64 1]]) :=
 Vk (xs:=[]) hK (Qpf hK) (by simp[QpV,Qc,Qhp,QJp,imm,imms,exD,emb])
theorem QA1:Gd K 71 [] (Qn4 QsZ):=by
 refine Qb hK (fk func71 c71 (by kernel_rfl)) (by simp) ?_
 simp[QsZ]
theorem QBf:Gd K 37 [] (lsV exL):=by
 refine Qb hK (fk func37 c37 (by kernel_rfl)) (by simp) ?_
 simp;refine cK (by simpa using QA2 hK) ?_
 simp;refine cK (by simpa using QA1 hK) ?_
 simp[exL]
omit hK
theorem Jc (d:Array Int) (x:Int):∀ m,x∈Lib.compactUpTo d m↔∃ j,j<m/\(d[j]!)=x
 | 0=>by simp[Lib.compactUpTo]
 | m+1=>by
   rw[Lib.compactUpTo_succ,QJG,Jc d x m];constructor
   ·rintro (⟨j,h1,h2⟩ | h)
    ·exact ⟨j,by omega,h2⟩
    split at h
    ·simp only[QKb] at h
     exact ⟨m,by omega,h.symm⟩
    simp at h
   rintro ⟨j,h1,h2⟩
   by_cases hj:j<m
   ·exact .inl ⟨j,hj,h2⟩
   have hjm:j=m:=by omega
   subst hjm;by_cases hk:Lib.keeps d j=true
   ·simp[hk,h2]
   refine .inl ?_;unfold Lib.keeps at hk;simp at hk;exact ⟨j-1,by omega,by rw[<- h2];exact hk.2.symm⟩
theorem Qqt (x:Int) (l:List Int):x∈QhC l↔x∈l:=by
 unfold QhC Lib.compact;rw[Jc];have hp:x∈U3 l↔x∈l:=(List.mergeSort_perm l _).mem_iff;rw[<- hp];constructor
 ·rintro ⟨j,h1,h2⟩
  have:(U3 l)[j]=x:=by simpa[h1] using h2
  rw[<- this];exact QJo h1
 intro h;obtain ⟨j,h1,h2⟩:=QJR h;exact ⟨j,h1,by simpa[h1] using h2⟩
theorem UU (d:Array Int) (hs:∀ i j,i<=j->j<d.size->(d[i]!)<=(d[j]!)):∀ m,m<=d.size->(Lib.compactUpTo d m).Pairwise (·<·)
 | 0,_=>by simp[Lib.compactUpTo]
 | m+1,hm=>by
   rw[Lib.compactUpTo_succ];refine List.pairwise_append.2 ⟨UU d hs m (by omega),by split<;>simp,fun a ha b hb=>?_⟩
   obtain ⟨j,hj,rfl⟩:=(Jc d a m).1 ha;split at hb
   ·rename_i hk
    simp only[QKb] at hb;subst hb;unfold Lib.keeps at hk;simp at hk;have h1:=hs j (m-1) (by omega) (by omega)
    have h2:=hs (m-1) m (by omega) (by omega)
    have h3:(d[m]!)≠(d[m-1]!):=by
     rcases hk with h | h
     ·omega
     exact h
    omega
   simp at hb
theorem QtO (l:List Int):(QhC l).Pairwise (·<·):=by
 have h1:(U3 l).Pairwise (·<=·):=by
  have:=List.pairwise_mergeSort (le:=fun x y:Int=>decide (x<=y)) (fun a b c h1 h2=>by simp at *;omega) (fun a b=>by simp;omega) l
  exact this.imp (by simp)
 refine UU _ (fun i j hij hj=>?_) _ (by simp)
 have hj':j<(U3 l).length:=by simpa using hj
 have hi':i<(U3 l).length:=by omega
 simp only[List.getElem!_toArray,getElem!_pos,hi',hj'];rcases Nat.lt_or_eq_of_le hij with h | h
 ·exact QKh.1 h1 i j hi' hj' h
 subst h;omega
def Qnk (c:Qg) (ms:List (Int × Int)) (a w:Int):Bool:=(List.range ms.length).all fun i:Nat=>Qou c (a+w*i) (ms.getD i (0,0))
theorem Ql1 (c:Qg) (ms:List (Int × Int)) (a w:Int):Qnk c ms a w=true↔UH c ms a w:=by
 unfold Qnk UH;rw[QJX];constructor
 ·intro h i hi
  have:=h i (QJN.2 hi);simpa[hi] using this
 intro h i hi;have hi':=QJN.1 hi;have:=h i hi';simpa[hi'] using this
def QbX (l:Zz) (c:Qg):List Int:=(List.range (Qs c.za).toNat).flatMap fun a:Nat=>(if Qnk c l.marks (a:Nat) 1 then [(a:Int)+1*l.z5] else [])++(if Qnk c l.marks (a:Nat) (-1) then [(a:Int)+(-1)*l.z5] else [])
theorem QbW (l:Zz) (c:Qg):(Ym l c (Qs c.za).toNat).map (·.pos)=QbX l c:=by
 unfold Ym QbX;rw[QKS]
 congr 1
 funext a
 have key:∀ w:Int,(QaC l c (a:Nat) w).map (·.pos)=if Qnk c l.marks (a:Nat) w then [(a:Int)+w*l.z5] else []:=fun w=>by
  unfold QaC;by_cases h:UH c l.marks (a:Nat) w
  ·simp[h,(Ql1 c l.marks (a:Nat) w).2 h,J6]
  have h2:Qnk c l.marks (a:Nat) w=false:=by
   rw[<- Bool.not_eq_true,Ql1];exact h
  simp[h,h2]
 unfold Qc1;rw[QJE,key,key]
theorem Qwn (l:Zz) (f:Vx->Int) (x:Int) (h:tLs l true=0):x∈spL l f↔∃ c∈QJ l.zc,x∈(Ym l c (Qs c.za).toNat).map f:=by
 unfold spL spN;rw[if_pos h,Qqt];constructor
 ·intro h1
  obtain ⟨s,h2,rfl⟩:=QJz.1 h1;rw[Qmi] at h2;obtain ⟨c,h3,h4⟩:=QJL.1 h2;exact ⟨c,h3,List.mem_map_of_mem h4⟩
 rintro ⟨c,h3,h4⟩
 obtain ⟨s,h5,rfl⟩:=QJz.1 h4;exact List.mem_map_of_mem ((Qmi _ _).2 (QJL.2 ⟨c,h3,h5⟩))
def Qdd:Qg:={ Qhp with za:=Qhp.za.set 4 ⟨2,0,1,0,0⟩ }
theorem Ql9:OkC Qdd:=by
 refine ⟨by decide,by decide,by decide,fun i h _=>?_,fun s hs=>by simp[Qdd,Qhp] at hs⟩
 have all:∀ i<6,ZK (Qdd.za.getD i d0) (cnt Qdd.za i):=by decide
 have:=all i h
 grind
theorem QsY:Qdd∈QJ Qhp:=by
 unfold QJ;refine QJM.2 ⟨QJz.2 ⟨Qdd.za,by decide +kernel,rfl⟩,decide_eq_true ?_⟩
 unfold Xn;have h:=qv Qdd Ql9 (by decide) rfl
 simp[Ql9,h]
theorem QpQ:(spL exL Vx.pos).length=3:=by
 have hm:∀ x,x∈spL exL Vx.pos↔x∈([0,1,2]:List Int):=fun x=>by
  rw[Qwn _ _ _ Qjv];constructor
  ·rintro ⟨c,hc,hx⟩
   rw[QbW] at hx;obtain ⟨ds,hds,rfl⟩:=QJz.1 (QJM.1 hc).1;have all:∀ ds∈Je Qhp.za,∀ x∈QbX exL { Qhp with za:=ds },x∈([0,1,2]:List Int):=by decide +kernel
   exact all ds hds x hx
  intro hx;have h2:QbX exL Wl=[1]:=by decide +kernel
  have h3:QbX exL Qdd=[2,0]:=by decide +kernel
  have h:x∈QbX exL Wl\/x∈QbX exL Qdd:=by
   rw[h2,h3];simp at hx |-;omega
  rcases h with h | h
  ·exact ⟨Wl,QpU,by rw[QbW];exact h⟩
  exact ⟨Qdd,QsY,by rw[QbW];exact h⟩
 have hl:(spL exL Vx.pos).Pairwise (·<·):=by
  unfold spL;rw[if_pos Qjv];exact QtO _
 have hp:(spL exL Vx.pos).Perm [0,1,2]:=by
  rw[List.perm_iff_count];intro a;have hn:(spL exL Vx.pos).Nodup:=hl.imp fun h=>by omega
  rw[hn.count,(show ([0,1,2]:List Int).Nodup by decide).count]
  simp only[hm]
 simpa using hp.length_eq
include hK
theorem Qx9:∃ L:List Int,L.length=3/\Gd K 17 [lsV exL] (.xd [Q6 L,.int .i64 0]) :=
 ⟨_,QpQ,by simpa[Qjv] using QBn hK exL (by decide) (by decide)⟩
omit hK
set_option maxHeartbeats 1000000
def exU:Zl:=⟨12,9900,10200,[⟨1000,1,12⟩,⟨500,0,20⟩],[⟨1,0,10,0,2,0,0⟩,⟨2,0,10,30,2,0,0⟩],0⟩
def exH:Qi:=⟨exP,exU⟩
include hK
theorem QA4:Gd K 68 [] (.xd [puV exU,.agg (reC ⟨1,1,20,0,1,20,20⟩)]):=by
 refine Qb hK (fk func68 c68 (by kernel_rfl)) (by simp) ?_
 simp[exU]
theorem QBg:Gd K 36 [] (hoV exH):=by
 refine Qb hK (fk func36 c36 (by kernel_rfl)) (by simp) ?_
 have g38:=QA4 hK;have g39:=QA3 hK;simp;refine cK (by simpa using g38) ?_
 simp;refine cK (by simpa using g39) ?_
 simp[exH]
omit hK
theorem QBz:OkU exU:=by decide
theorem Qho:okH exH:=⟨Qd8,QBz⟩
theorem p1:Xi [119,104,111,32,48]=some (.who,[0]):=by decide +kernel
theorem Qvk:QnQ exC 0=[0,1]/\Xn exC (plB exC 0)=0:=by
 have e:(Qp exC).map (qr exC 0)=[1,0]:=by decide
 have hb:plB exC 0=true:=by decide
 have ha:Xn exC (plB exC 0)=0:=by
  unfold Xn;rw[if_pos Ql7,if_pos hb];decide
 refine ⟨?_,ha⟩;unfold QnQ;rw[if_pos ha,e]
 exact Qrc (Uk _) (by decide) fun x=>by
  rw[YW]
  grind
theorem QyW:QIR exU:=by
 refine ⟨by decide,by decide,fun _=>?_⟩
 have h1:(XU exU).length=301:=by decide +kernel
 have h2:(Xq exU.zi).length=2:=by decide
 have key:∀ l l':List Int,(l.flatMap fun b=>l'.flatMap fun a=>(Xq exU.zi).map fun w=>(⟨b,a,w⟩:TrU)).length<=l.length*(l'.length*2):=fun l l'=>by
  refine ZV _ _ l fun b _=>ZV _ _ l' fun a _=>?_
  grind
 have:=key (XU exU) (XU exU);rw[h1] at this;unfold Qz2;omega
theorem QpS:Qdk exH:=⟨QBA 1 (by decide),QyW⟩
def exQ:List Txt:=[[119,104,111,32,48],[119,101,105,103,104,116]]
theorem pQ:Xi [119,101,105,103,104,116]=some (.zm,[]):=by decide +kernel
def QC5:List Qd:=[⟨[10,5],1⟩,⟨[11,5],1⟩]
theorem Ql6:QX exM [] exM.zd=QC5:=by
 rw[Qii];decide
theorem QpP:∀ w∈List.range 32,(w=31↔∀ s∈QC5,4600*den s<=num exM s ((w:Nat):Int) 0):=by decide +kernel
theorem QsV:Jj exP=(31,0):=by
 have hk:kE exP true=0:=(QEg 1 (by decide)).2
 have hs:tL exM (qh 0 0 4600)=QC5:=by
  unfold tL;rw[if_pos ⟨QpR,by decide⟩,Ql6]
 have ht:tE exM (qh 0 0 4600)=0:=by
  unfold tE;rw[if_pos QpR,if_pos (by decide),Ql6]
  decide
 have hl:Vw exM QC5 0 4600=31:=by
  refine QgZ (by omega) (fun _=>?_) fun w h0 h1 h2=>?_
  ·exact (QpP 31 (by decide)).1 rfl
  have:=(QpP w.toNat (QJN.2 (by omega))).2 (by
   have e:((w.toNat:Nat):Int)=w:=by omega
   rw[e];exact h2)
  omega
 unfold Jj;rw[if_pos hk];unfold JA;show (if tE exM (qh 0 0 4600)=0 then _ else _)=_
 rw[if_pos ht];show (if 9999<Vw exM (tL exM (qh 0 0 4600)) 0 4600 then _ else _)=_
 rw[hs,hl,if_neg (by decide)]
 show (Vw exM (tL exM (qh 0 0 4600)) 0 4600,0)=_
 rw[hs,hl]
theorem Qyo:Gd KW 14 [hoV exH,strs exQ] (.xd [strs (Qob exH exQ),hoV (QhV exH exQ),.int .i64 (Qoa exH exQ)]) :=
 Qfd exH exQ (Qj Qho) (by decide) fun _ _ i hi=>by
  match i,hi with
  | 0,_ =>
    refine Vj _ _ (fun v l hp _=>?_) (by simp[exQ])
    have hp:Xi [119,104,111,32,48]=some (v,l):=hp;rw[p1] at hp;injection hp with hp
    injection hp with h1 h2
    subst h1 h2;rw[Q9 rfl];exact Qpc exH 0 Qho QpS
  | 1,_ =>
    refine Vj _ _ (fun v l hp _=>?_) (by simp[exQ])
    have hp:Xi [119,101,105,103,104,116]=some (v,l):=hp;rw[pQ] at hp;injection hp with hp
    injection hp with h1 h2
    subst h1 h2
    have e:Xe exH exQ 1=exH:=by
     rw[Xs exH exQ 0 (by decide)]
     show (ZT exH [119,104,111,32,48]).2=_
     unfold ZT;rw[p1];simp only;rw[Q9 rfl]
    rw[e,Q9 rfl];exact QlU exH Qho QpS
theorem lvQ:ZT exH [119,104,111,32,48]=([48,32,49],exH):=by
 unfold ZT;rw[p1];simp only;rw[Q9 rfl];unfold JK;rw[show exH.ze.zc=exC from rfl,show nI [0] 0=0 from rfl,Qvk.1,Qvk.2]
 show (YE [0,1] 0,exH)=_
 rw[show YE [0,1] 0=[48,32,49] by decide +kernel]
theorem lvW:ZT exH [119,101,105,103,104,116]=([51,49],exH):=by
 unfold ZT;rw[pQ];simp only;rw[Q9 rfl];unfold JK;show (YE [(Jj exP).1] (Jj exP).2,exH)=_
 rw[QsV];show (YE [31] 0,exH)=_
 rw[show YE [31] 0=[51,49] by decide +kernel]
theorem QAA:Qob exH exQ=[[48,32,49],[51,49]]/\Qoa exH exQ=0:=by
 have e:Xe exH exQ 1=exH:=by rw[Xs exH exQ 0 (by decide)];exact congrArg Prod.snd lvQ
 refine ⟨?_,?_⟩
 ·unfold Qob
  rw[if_pos Qho,if_neg (by decide)]
  show qY exH exQ 2=_
  rw[Yc exH exQ 1 (by decide),Yc exH exQ 0 (by decide),e]
  simp only[qY,List.range_zero,QKE,QJ0,exQ,QKJ,List.getElem_cons_succ];rw[show Xe exH _ 0=exH from rfl,lvQ,lvW]
  rfl
 unfold Qoa;rw[if_pos Qho,if_neg (by decide)]
noncomputable instance:DecidableEq Qi:=fun _ _=>Classical.propDecidable _
include hK
theorem Qvg (a b:List Txt) (ha:a.length<=1000000) (hb:b.length<=1000000):Gd K 26 [strs a,strs b] (.bool (decide (a=b))):=by
 refine Qb hK (fk func26 c26 (by kernel_rfl)) (by simp) ?_
 by_cases h4:a.length=b.length;rotate_left
 ·have h':¬ (a.length:Int)=b.length:=by omega
  have:a≠b:=fun e=>h4 (by rw[e])
  simp[h',this]
 simp[h4];intros;refine Qw (fun i=>[(0,AV.iv (strs a)),(1,AV.iv (strs b)),(5,AV.iv (IV.int IntKind.i64 (i:Nat)))]) (fun _=>[]) a.length (fun i=>a.take i=b.take i) (by simp) ?_ ?_
 ·intro h
  rw[h4,QJF,<- h4,QJF] at h;subst h;rw[Qa QqU.eq_1];simp
 intro i hi h ih;have hi':i<b.length:=by omega
 rw[Qa QqU.eq_1];by_cases e:a[i]=b[i]
 ·simp[hi,hi',e] at ih |-
  intros;refine ⟨by omega,ih ?_⟩
  rw[QJk hi,QJk hi',h,e]
 have hne:a≠b:=fun c=>by grind
 simp[hi,hi',hne,e]
omit hK
def wid (s:Int × Int):Int:=s.2-s.1+1
def QFc (c:Sea) (i:Nat):Int:=wid (c.yh,c.yi)*Q7 wid (c.waters.take i)
def QFo (c:Sea):Prop:=40<c.waters.length\/40<c.voys.length\/40<c.gauges.length\/(QP c/\100<QFc c c.waters.length)
noncomputable instance (c:Sea):Decidable (QFo c):=Classical.propDecidable _
def QI1 (l:Zz):Prop:=QDS l.zc\/QFo l.sea\/40<l.marks.length\/(OkL l/\(40<QFc l.sea l.sea.waters.length\/160<wid (l.plo,l.phi)\/160<wid (l.rlo,l.rhi)\/160<wid (l.plo,l.phi)*wid (l.flo,l.fhi)*wid (l.rlo,l.rhi)))
noncomputable instance (l:Zz):Decidable (QI1 l):=Classical.propDecidable _
include hK
omit hK
theorem QDM:Gd KW 8 [] (.bool true):=by
 refine Qb hKW (fk func8 c8 (by kernel_rfl)) (by simp) ?_
 have g36:=QBg hKW;have g14:=Qyo;obtain ⟨L,hL,g17⟩:=Qx9 hKW;have g26:=Qvg hKW [[48,32,49],[51,49]] [[48,32,49],[51,49]] (by decide) (by decide)
 rw[QAA.1,QAA.2] at g14;simp;refine cK (by simpa using g36) ?_
 simp;refine cK (by simpa[exQ] using g14) ?_
 simp;refine cK (by simpa using QBf hKW) ?_
 simp;refine cK (by simpa using g17) ?_
 simp;refine cK (by simpa using QBd hKW) ?_
 simp;refine cK (by simpa using QwS hKW) ?_
 simp[hL];refine cK (by simpa using g26) ?_
 simp
noncomputable def QFj (t:Txt):List Int × Bool :=
 if 200<t.length then ([],false) else if t=[110,111,110,101] then ([],true) else ((QuZ ([119,104,111,32]++t)).2.1,decide (0<(QuZ ([119,104,111,32]++t)).2.1.length))
include hK
omit hK
theorem cKt {P:Program} {K:World->Prop} {C d g l e o ys r} (hg:Ev.Good P K g ys r) (hs:QW r=true)
  (h:Qn P K C l (bnd d (.iv r) e) o):Qdf P K C d g true l e o (some ys):=⟨ys,r,rfl,hg,.inr hs,h⟩
def Qun (S:List Nat) (o:Ord):List AV:=(hoC (Xp o S)).map .iv
theorem QDN (o:Ord) (ship:Int):Gd KW 4 [orV o,.int .i64 ship] (.bool true):=by
 refine Qb hKW (fk func4 c4 (by kernel_rfl)) (by simp) ?_
 have g8:=QDM;simp;refine cK (by simpa using QBm hKW o) ?_
 by_cases hfar:QBv o=true
 ·simp[hfar]
  exact cK (by simpa using g8) (by simp)
 have hb:o.rates.length<=40/\o.ships.length<=40/\o.stocks.length<=40:=by
  unfold QBv at hfar;simp at hfar;omega
 obtain ⟨b1,b2,b3⟩:=hb;simp[hfar];refine cK (by simpa using Qvh hKW o (by omega) (by omega) (by omega)) ?_
 by_cases hok:OkO o
 case neg =>
  simp[hok];exact cK (by simpa using g8) (by simp)
 simp[hok];refine cK (by simpa using QBl hKW o ship (by omega)) ?_
 by_cases hsh:inR ship 0 ((o.ships.length:Int)-1)
 case neg =>
  simp[hsh];exact cK (by simpa using g8) (by simp)
 obtain ⟨sh,rfl⟩:∃ sh:Nat,ship=sh:=⟨ship.toNat,by unfold inR at hsh;omega⟩
 have hs:sh<o.ships.length:=by unfold inR at hsh;omega
 simp[hsh];have g23:=QBk hKW o (by omega)
 simp only[if_pos hok] at g23;cases hB:UK o (fun k=>decide (k=1)) with
 | none =>
   rw[hB] at g23;refine cK (by simpa using g23) ?_
   simp;exact cK (by simpa using g8) (by simp)
 | some p =>
   rw[hB] at g23;refine cK (by simpa using g23) ?_
   obtain ⟨hpl,hpr,sz,hsz,hus⟩:=Qoq hok hB hs;have hnk:=hok.nk;obtain ⟨a,b,c,d,hbn,g24⟩:=QBj hKW o hok sh hs
   have hbs:b<=sz:=by
    obtain ⟨n,hn,rfl⟩:=hbn;exact hsz n hn
   simp;refine cK (by simpa using g24) ?_
   have hp40:¬ (40:Int)<p.length:=by omega
   simp[hp40]
   (repeat' first | omega | (with_reducible apply And.intro) | intro _)
   refine cK (by simpa using QBi hKW o p (by omega) (by omega) hpl hpr) ?_
   simp
   have hW:∀ i,i<=o.stocks.length->(XY p sh i).length<=7:=fun i hi=>by
    have:=QnV p sh i;omega
   refine Zm (fun i=>[(1,.iv (.int .i64 (sh:Int))),(2,.iv (.ptr (orC o))),(5,.iv (Q6 p)),(7,.loc 7 0),(10,.loc 10 0),(11,.yl 11 (XY p sh i).length),(12,.yl 12 (XY p sh i).length),(13,.yl 13 (XY p sh i).length),(14,.iv (.int .i64 (i:Nat)))])
    (fun i=>[(7,.box [.iv (.int .i64 a),.iv (.int .i64 b)]),(10,.box (Qun [] o)),(11,.arr 9 1 (emb ((UZ o (XY p sh i)).map fun t=>[.str t])) 0),(12,.arr 9 1 (emb ((List.replicate (XY p sh i).length QcZ).map fun t=>[.str t])) 0),(13,.arr 3 1 (emb ((XY p sh i).map fun k:Nat=>[.int .i64 (k:Int)])) 0)])
    p.length (fun _=>True) trivial ?_ ?_ (by simp[XY]) (by simp[XY,Qun,Xp,YN,UZ,emb])
   case refine_2 =>
    intro i hi _ ih;have hii:(i:Int)<p.length:=by omega
    have his:i<o.stocks.length:=by omega
    have hpg:p.getD i 0=p[i]:=by simp[hi]
    rw[Qa Qzo.eq_1];by_cases hp:p[i]=(sh:Int)
    case neg =>
     rw[qt,hpg,if_neg hp,QKs] at ih;simp[hi,hii,hp] at ih |-
     (repeat' first | omega | (with_reducible apply And.intro) | intro _)
     exact ih
    have hwd:Wd o (XY p sh (i+1)):=⟨hok,hW _ (by omega),fun k hk=>by have:=(Qbq hk).1;omega⟩
    have hszk:∀ k∈XY p sh (i+1),szO o k=sz:=fun k hk=>hus k (by
     have h1:=Qbq hk;simp only[XY,QJM,QJN,decide_eq_true_eq];exact ⟨by omega,h1.2⟩)
    have xa:∀ k∈XY p sh (i+1),k<o.stocks.length:=hwd.mem
    rw[qt,hpg,if_pos hp] at ih hwd hszk xa;rw[QJr,List.length_singleton,List.replicate_succ'] at ih;generalize XY p sh i=S at *;have hs1:=hwd.len;have hs2:=hwd.small (j:=S.length) (by simp)
    have hs3:=hszk i (by simp)
    have hs4:o.stocks[i].1=sz:=by
     have:o.stocks.getD i (0,0,0)=o.stocks[i]:=by simp[his]
     rw[<- this];exact hs3
    simp only[QJr,List.length_singleton] at hs1;rw[List.getElem_concat_length rfl] at hs2
    have g12:=QBo hKW (wdL o S.length i) ⟨by simp[wdL],fun n hn=>by
     have:=hs2 n hn;unfold Yo at this;omega⟩
    have hl5:(Jf (wdL o S.length i)).length<=20:=by
     have:=Qa0 _ hs2;rw[WP (by simp[wdL])]
     simp[wdL] at this |-;omega
    rw[QmI] at ih;unfold wdT at ih;generalize hT:Jf (wdL o S.length i)=T at *;simp only[wdL,hs3] at g12;have hb2:¬ sz<b:=by omega
    cases S with
    | nil =>
      simp[hi,hii,hp,his,hs4,hb2,Qun,Xp,YN,QcZ,XH] at ih |-
      (repeat' first | omega | (with_reducible apply And.intro) | intro _)
      refine cK (by simpa using g12) ?_
      simp[XH]
      (repeat' first | omega | (with_reducible apply And.intro) | intro _)
    | cons s0 r =>
      have h0:s0<o.stocks.length:=xa s0 (by simp)
      simp only[QJy] at hs1
      have hs0:o.stocks[s0].1=sz:=by
       have:o.stocks.getD s0 (0,0,0)=o.stocks[s0]:=by simp[h0]
       rw[<- this];exact hszk s0 (by simp)
      simp[hi,hii,hp,his,hs4,hb2,h0,hs0,Qun,Xp,YN,QcZ,XH] at ih |-
      (repeat' first | omega | (with_reducible apply And.intro) | intro _)
      refine cK (by simpa using g12) ?_
      simp[XH]
      (repeat' first | omega | (with_reducible apply And.intro) | intro _)
   intro _;rw[Qa Qzo.eq_1];have hwd:Wd o (XY p sh p.length):=⟨hok,hW _ (by omega),fun k hk=>by have:=(Qbq hk).1;omega⟩
   generalize XY p sh p.length=S at *;have hs1:=hwd.len;clear g23 g24 hW;simp[Qun,Xp,V7]
   (repeat' first | omega | (with_reducible apply And.intro) | intro _)
   refine Zm (fun k=>[(2,.iv (.ptr (orC o))),(10,.loc 10 0),(11,.yl 11 (S.length+k)),(12,.yl 12 (S.length+k)),(13,.yl 13 S.length),(15,.iv (.int .i64 (k:Nat)))])
    (fun k=>[(10,.box (Qun [] o)),(11,.arr 9 1 (emb ((UZ o S++(List.range k).map Qk4).map fun t=>[.str t])) 0),(12,.arr 9 1 (emb ((List.replicate S.length QcZ++(List.range k).map fun k:Nat=>Lib.itoa (k:Int)).map fun t=>[.str t])) 0),(13,.arr 3 1 (emb (S.map fun k:Nat=>[.int .i64 (k:Int)])) 0)])
    S.length (fun _=>True) trivial ?_ ?_ (by simp) (by simp[Qun,Xp,V7,QcZ])
   case refine_2 =>
    intro k hk _ ih;have hkk:(k:Int)<S.length:=by omega
    have g13:=QpF hKW (k:Int) (by omega)
    have hi3:=(UO (Qlc (k:=k) (by omega))).2.2
    have e1:UZ o S++(List.range (k+1)).map Qk4=(UZ o S++(List.range k).map Qk4)++[[119,104,111,32]++Lib.itoa (k:Int)]:=by simp[QJT,Qk4]
    have e2:List.replicate S.length QcZ++(List.range (k+1)).map (fun k:Nat=>Lib.itoa (k:Int))=(List.replicate S.length QcZ++(List.range k).map fun k:Nat=>Lib.itoa (k:Int))++[Lib.itoa (k:Int)]:=by simp[QJT]
    have l1:(UZ o S++(List.range k).map Qk4).length=S.length+k:=by simp[XH]
    have l2:(List.replicate S.length QcZ++(List.range k).map fun k:Nat=>Lib.itoa (k:Int)).length=S.length+k:=by simp
    rw[e1,e2] at ih;generalize UZ o S++(List.range k).map Qk4=A at *;generalize (List.replicate S.length QcZ++(List.range k).map fun k:Nat=>Lib.itoa (k:Int))=B at *
    rw[Qa Qzn.eq_1];simp[hkk,Qun,Xp,V7] at ih |-
    (repeat' first | omega | (with_reducible apply And.intro) | intro _)
    refine cK (by simpa using g13) ?_
    simp[l1]
    (repeat' first | omega | (with_reducible apply And.intro) | intro _)
    refine cK (by simpa using g13) ?_
    simp[l1,l2]
    (repeat' first | omega | (with_reducible apply And.intro) | intro _)
   intro _;rw[Qa Qzn.eq_1];have g14:=hwd.good14;have g26:=Qvg hKW (Qh4 S) (Qh4 S) (by simp[Qh4];omega) (by simp[Qh4];omega)
   unfold Qc2 at g14;unfold Qh4 at g14 g26;have l1:(UZ o S++(List.range S.length).map Qk4).length=S.length+S.length:=by simp[XH]
   have l2:(List.replicate S.length QcZ++(List.range S.length).map fun k:Nat=>Lib.itoa (k:Int)).length=S.length+S.length:=by simp
   have hd1:=Yw o S
   have hd2:∀ i (h:i<S.length) (h':i<(YN o S).length),(YN o S)[i].z1=(S[i]:Nat)/\(YN o S)[i].bar=szO o S[i]:=fun i h h'=>by
    rw[V8 o S i h' h];exact ⟨rfl,rfl⟩
   have hmem:=hwd.mem;generalize UZ o S++(List.range S.length).map Qk4=A at *;generalize (List.replicate S.length QcZ++(List.range S.length).map fun k:Nat=>Lib.itoa (k:Int))=B at *
   simp only[Xp,V7] at g14;generalize YN o S=D at *;have l1':(A.map fun t=>[IV.str t]).take (S.length+S.length)=A.map fun t=>[IV.str t]:=QJp (by simp[l1])
   have l1c:S.length+S.length<=A.length:=by omega
   simp[Qun,Xp,V7,l1',l1c]
   (repeat' first | omega | (with_reducible apply And.intro) | intro _)
   refine cK (by simpa using g14) ?_
   have l2':(B.map fun t=>[IV.str t]).take (S.length+S.length)=B.map fun t=>[IV.str t]:=QJp (by simp[l2])
   have l2c:S.length+S.length<=B.length:=by omega
   clear g14;simp[l2',l2c,hd1]
   (repeat' first | omega | (with_reducible apply And.intro) | intro _)
   refine cKt (by simpa using g26) rfl ?_
   simp[hd1]
   (repeat' first | omega | (with_reducible apply And.intro) | intro _)
   refine Zm (fun i=>[(2,.iv (.ptr (orC o))),(13,.yl 13 S.length),(17,.loc 17 0),(19,.iv (.int .i64 (i:Nat)))])
    (fun _=>[(13,.arr 3 1 (emb (S.map fun k:Nat=>[.int .i64 (k:Int)])) 0),(17,.box [.iv (QG D),.iv (.sl 5 []),.iv (.int .i64 0),.iv (.sl 3 []),.iv (.int .i64 0),.iv (.int .i64 0),.iv (.int .i64 0),.iv (.sl 4 []),.iv (.int .i64 0),.iv (.sl 3 []),.iv (.int .i64 0),.iv (.int .i64 1),.iv (.int .i64 0),.iv (.int .i64 1),.iv (.int .i64 1),.iv (.sl 3 []),.iv (.sl 7 []),.iv (.int .i64 0)])])
    S.length (fun _=>True) trivial ?_ ?_ (by simp) (by simp)
   case refine_2 =>
    intro i hi _ ih;have hii:(i:Int)<S.length:=by omega
    have hiD:i<D.length:=by omega
    obtain ⟨q1,q2⟩:=hd2 i hi hiD;have hm:=hmem _ (QJo hi);have hz:o.stocks[S[i]].1=szO o S[i]:=by simp[szO,hm]
    rw[Qa Qzm.eq_1];simp[hi,hii,hiD,q1,q2,hm,hz] at ih |-;exact fun _=>⟨by omega,ih⟩
   intro _;rw[Qa Qzm.eq_1];simp
   (repeat' first | omega | (with_reducible apply And.intro) | intro _)
   exact cK (by simpa using g8) (by simp)
end Go.Pf
namespace Go.Pf
open Go Go.Ev Go.Proofs Go.RowKit Go.ChangeShapes Go.WideShapes Go.Proofs.YtenlhiebmnojhaaGreatDoor Go.Proofs.Tryz
set_option maxRecDepth 100000
theorem Qhh {P:Program} (h:P.funcs.any Func.goes=false) (f:FuncId):P.goes f=false:=by
 unfold Program.goes;rw[h,Bool.and_false,Bool.or_false,List.any_eq_false];intro g _;cases hg:P.funcs[g]? with
 | none=>simp
 | some fn =>
   have:=Array.any_eq_false'.1 h fn (Array.mem_of_getElem? hg);simpa using this
theorem Qjn {P:Program} (h:P.funcs.any Func.goes=false) (c:OpenClaim):false=c.goesBy P:=by
 have h1:∀ o:Option FuncId,o.any P.goes=false:=fun o=>by cases o<;>simp[Qhh h]
 have h2:P.inits.toList.any P.goes=false:=by
  rw[List.any_eq_false];intro f _;simp[Qhh h]
 unfold OpenClaim.goesBy Program.goesAt Program.goesFrom;rw[h1,h2];cases c.start<;>rfl
theorem QDW:prog.funcs.any Func.goes=false:=by kernel_rfl
end Go.Pf
