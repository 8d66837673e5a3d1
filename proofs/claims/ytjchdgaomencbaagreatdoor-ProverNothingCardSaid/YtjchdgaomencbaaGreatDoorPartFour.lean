/- The reference's truths: ends, settings, sights, balances. -/
import Derived.Test.YtjchdgaomencbaaGreatDoorPartThree
import Derived.Ground.SlgnProg
import Derived.Shelf.SlicesE.Clone
import Derived.Shelf.SlicesE.Reverse
import Derived.Shelf.SlicesE.Delete
import Derived.Lib.SliceRun
import Derived.Lib.JoinLaws
import Derived.Test.YtjchdgaomencbaaGreatDoorProg
import Derived.KernelRfl
import Derived.Shelf.Spec.SlicesInsertGrow
import Derived.Shelf.SlIterI.Nil
import Derived.Shelf.SortM.Plain
import Derived.Shelf.SortM.SortNone
import Derived.Ground.GgzProg
import Derived.Ground.SlgmProg
set_option linter.all false
namespace Go.Pf
open Go Go.Ev Go.Proofs Go.RowKit
variable {K:World->Prop} (hK:∀ w w',K w->Below w.heap.size w w'->K w')
set_option maxRecDepth 8000
def d0:Qs:=⟨0,0,0,0,0⟩
def YD (ds:List Qs):List Nat:=XH ZR ds 0
def Qac (ds:List Qs) (k:Nat):Qs:=ds.getD ((YD ds).getD k 0) d0
theorem Qjh {ds:List Qs} {j:Nat} (h:j∈YD ds):j<ds.length:=by
 have:=Jm ZR ds 0 j h;omega
theorem Qjg (ds:List Qs) (i:Nat):wn ds i<=(YD ds).length:=by
 unfold wn YD
 conv=>rhs;rw[<- QNj i ds,Z5]
 simp
def QfD (ds:List Qs) (s:Xq) (now:List Nat):Bool :=
 (decide (s.bar<0)||decide (s.bar=(Qac ds (now.getD (plc s.pos s.frm now.length) 0)).bar)) &&
 (decide (s.smith<0)||decide (s.smith=(Qac ds (now.getD (plc s.pos s.frm now.length) 0)).smith))
def We (ds:List Qs) (e:Nat->Int) (s:Xq):Bool:=QfD ds s (cab ds e s.after.toNat)
def QZ (ds:List Qs) (ss:List Xq) (e:Nat->Int):Nat:=ss.countP fun s=>!We ds e s
theorem QeW (ds:List Qs) (ss:List Xq) (e:Nat->Int) (i:Nat) (h:i<ss.length):QZ ds (ss.take (i+1)) e=QZ ds (ss.take i) e+if We ds e ss[i] then 0 else 1:=by
 unfold QZ;rw[QLM h,QMQ]
 grind
theorem QcE (ds:List Qs) (ss:List Xq) (e:Nat->Int):QZ ds ss e<=ss.length:=QMC
def QvL (ds:List Qs) (ends:List Int):Prop:=ends.length=ds.length/\∀ i (h:i<ds.length) (h':i<ends.length),inR ends[i] 0 1/\(ds[i].frm<2->ends[i]=ds[i].frm)
noncomputable instance (ds:List Qs) (ends:List Int):Decidable (QvL ds ends):=Classical.propDecidable _
def Qns (c:Qn) (ends:List Int):Prop:=QvL c.deeds ends/\(QZ c.deeds c.sights (QC ends):Int)<=c.wrong
noncomputable instance (c:Qn) (ends:List Int):Decidable (Qns c ends):=Classical.propDecidable _
structure Qk where
 shorts:List Int
 leak:Int
 deriving DecidableEq
structure Q7 where
 ends:List Int
 set:Qk
 deriving DecidableEq
@[simp] def seC (s:Qk):List IV:=[Zd s.shorts,.int .i64 s.leak]
@[simp] def tuC (t:Q7):List IV:=[Zd t.ends,Zd t.set.shorts,.int .i64 t.set.leak]
def okS (m:Machine) (s:Qk):Prop:=s.shorts.length=m.levers.length/\inR s.leak m.llo m.lhi/\∀ i (h:i<m.levers.length) (h':i<s.shorts.length),inR s.shorts[i] m.levers[i].lo m.levers[i].hi
noncomputable instance (m:Machine) (s:Qk):Decidable (okS m s):=Classical.propDecidable _
def UI (m:Machine) (leak w mn:Int):Int:=w+max 0 (m.water-mn*leak)
def Vs (m:Machine):Int:=Q8 (·.long) m.levers
def den (s:Qk):Int:=Q8 id s.shorts
def num (m:Machine) (s:Qk) (w mn:Int):Int:=UI m s.leak w mn*Vs m
theorem Qle {α:Type} (f:α->Int) (l:List α) (i:Nat) (h:i<l.length):Q8 f (l.take (i+1))=Q8 f (l.take i)*f l[i]:=by
 rw[QLM h,Qbo]
theorem QjG {α:Type} (f:α->Int):∀ (l:List α),(∀ a∈l,1<=f a/\f a<=1000)->1<=Q8 f l/\Q8 f l<=(1000 ^ l.length:Nat)
 | [],_=>by simp[Q8]
 | a::l,h=>by
   have h1:=h a (by simp)
   have h2:=QjG f l fun a ha=>h a (by simp[ha])
   have h3:=QMO h1.1 h2.1 (by omega) (by omega)
   have h4:=QMO h1.2 h2.2 (by omega) (by omega)
   simp only[Q8,QMa];omega
theorem Qvj {n:Nat} (h:n<=3):1000 ^ n<=1000000000:=by
 have:n=0\/n=1\/n=2\/n=3:=by omega
 grind
theorem Qbn {α:Type} (f:α->Int) (l:List α) (h:∀ a∈l,1<=f a/\f a<=1000) (hl:l.length<=3):1<=Q8 f l/\Q8 f l<=1000000000:=by
 have h1:=QjG f l h;have h2:=Qvj hl;omega
theorem OkM.lever {m:Machine} (h:OkM m) {l:ZC} (hl:l∈m.levers):(1<=l.long/\l.long<=1000)/\1<=l.lo/\l.lo<=l.hi/\l.hi<=1000:=by
 have:=h.levers l hl;simp[Zh] at this;simp only[inR] at this;omega
theorem OkM.bal {m:Machine} (h:OkM m) {b:Qy} (hl:b∈m.bals):inR b.weight 0 9999/\inR b.mins 0 99/\inR b.load 0 999999999/\inR b.off 0 999999999:=by
 have:=h.bals b hl;simp[XD] at this
 grind
theorem OkM.pull {m:Machine} (h:OkM m) {leak w mn:Int} (hl:inR leak m.llo m.lhi) (hw:inR w 0 9999) (hm:inR mn 0 99):(0<=mn*leak/\mn*leak<=1980)/\0<=UI m leak w mn/\UI m leak w mn<=19998:=by
 have h1:=h.leak;have h2:=h.lhi;have h3:=h.water;simp only[inR] at *;have h4:=QMN (a:=mn) (b:=leak) (by omega) (by omega)
 have h5:=QMO (show mn<=99 by omega) (show leak<=20 by omega) (by omega) (by omega)
 unfold UI;omega
theorem OkM.longs {m:Machine} (h:OkM m) (i:Nat):1<=Q8 (·.long) (m.levers.take i)/\Q8 (·.long) (m.levers.take i)<=1000000000 :=
 Qbn _ _ (fun a ha=>(h.lever (QMt ha)).1) (by have:=h.len;simp;omega)
theorem OkM.shorts {m:Machine} (h:OkM m) {s:Qk} (hs:okS m s) (i:Nat):1<=Q8 id (s.shorts.take i)/\Q8 id (s.shorts.take i)<=1000000000 :=
 Qbn _ _ (fun a ha=>by
  obtain ⟨k,hk,rfl⟩:=QMz (QMt ha);have h1:=hs.2.2 k (by rw[<- hs.1];exact hk) hk
  have h2:=h.lever (QLR (show k<m.levers.length by grind))
  simp only[inR,id] at *;omega) (by have:=h.len;have:=hs.1;simp;omega)
theorem OkM.aboveB {m:Machine} (h:OkM m):1<=Vs m/\Vs m<=1000000000:=by
 have:=h.longs m.levers.length
 rwa [QLU] at this
theorem OkM.denB {m:Machine} (h:OkM m) {s:Qk} (hs:okS m s):1<=den s/\den s<=1000000000:=by
 have:=h.shorts hs s.shorts.length
 rwa [QLU] at this
theorem OkM.numB {m:Machine} (h:OkM m) {s:Qk} (hs:okS m s) {w mn:Int} (hw:inR w 0 9999) (hm:inR mn 0 99):0<=num m s w mn/\num m s w mn<=19998000000000:=by
 have h1:=h.aboveB;have h2:=(h.pull hs.2.1 hw hm).2;have h3:=QMN (a:=UI m s.leak w mn) (b:=Vs m) (by omega) (by omega)
 have h4:=QMO h2.2 h1.2 (by omega) (by omega)
 unfold num;omega
def QcS (m:Machine) (s:Qk) (b:Qy):Bool :=
 decide (num m s b.weight b.mins-b.load*den s<=b.off*den s /\ -(num m s b.weight b.mins-b.load*den s)<=b.off*den s)
def ZQ (m:Machine) (bs:List Qy) (s:Qk):Nat:=bs.countP fun b=>!QcS m s b
theorem QeV (m:Machine) (bs:List Qy) (s:Qk) (i:Nat) (h:i<bs.length):ZQ m (bs.take (i+1)) s=ZQ m (bs.take i) s+if QcS m s bs[i] then 0 else 1:=by
 unfold ZQ;rw[QLM h,QMQ]
 grind
theorem QkK (m:Machine) (bs:List Qy) (s:Qk):ZQ m bs s<=bs.length:=QMC
def Vq (m:Machine) (s:Qk):Prop:=okS m s/\(ZQ m m.bals s:Int)<=m.wrong
noncomputable instance (m:Machine) (s:Qk):Decidable (Vq m s):=Classical.propDecidable _
def Qek (p:Qf) (t:Q7):Prop:=Qns p.chain t.ends/\Vq p.machine t.set
noncomputable instance (p:Qf) (t:Q7):Decidable (Qek p t):=Classical.propDecidable _
include hK
omit hK
def t0:Vt:=⟨0,0,0⟩
def tr (p:Qf) (i:Nat):Vt:=p.trials.getD i t0
theorem Qmo {p:Qf} {i:Nat} (h:i<p.trials.length):p.trials[i]=tr p i:=by simp[tr,List.getD_eq_getElem?_getD,h]
def Zy (p:Qf) (i:Nat) (e:Nat->Int):List Nat:=cab p.chain.deeds e ((pv p.chain.deeds).getD i 0)
def QF (p:Qf) (i:Nat) (e:Nat->Int):Int:=if 0<=(tr p i).broke then ((Zy p i e).getD (tr p i).broke.toNat 0:Nat) else -1
def J7 (p:Qf) (i:Nat) (s:Qk):Int:=num p.machine s (tr p i).weight (tr p i).mins
def ZX (p:Qf) (i:Nat) (t:Q7):Bool:=decide (0<=(tr p i).broke)&&decide (J7 p i t.set<=p.need*den t.set)
def ZZ (p:Qf) (t:Q7):Nat:=(List.range p.trials.length).countP fun i=>ZX p i t
def inN (l:List Nat) (n:Int):Bool:=decide (n∈l.map fun k:Nat=>(k:Int))
def Ua (p:Qf) (link:Int) (t:Q7) (i:Nat):Bool:=decide (p.need*den t.set<=J7 p i t.set)&&inN (Zy p i (QC t.ends)) link&&!decide (QF p i (QC t.ends)=link)
def Zj (p:Qf) (link:Int) (t:Q7):Bool:=(List.range p.trials.length).any (Ua p link t)
def Yh (p:Qf) (e:Nat->Int):List Nat:=cab p.chain.deeds e p.chain.deeds.length
def Vr (p:Qf) (t:Q7):Bool:=((Yh p (QC t.ends)).all fun (k:Nat)=>Zj p k t)&&decide ((ZZ p t:Int)<p.rule)
def Qs7 (p:Qf) (smith:Int) (t:Q7) (i:Nat):Bool:=ZX p i t&&decide ((Qac p.chain.deeds (QF p i (QC t.ends)).toNat).smith=smith)
def QzZ (p:Qf) (smith:Int) (t:Q7):Bool:=(List.range p.trials.length).any (Qs7 p smith t)
def XY (some many:Int):Int:=if some=many then 1 else if some=0 then 2 else 3
def Qa3 (l:List Int) (lo:Int) (i:Nat):List Int:=((List.range i).map fun j:Nat=>lo+j).filter fun n=>decide (n∈l)
def YF (l:List Int) (lo hi:Int):List Int:=Qa3 l lo (hi+1-lo).toNat
theorem JX (l:List Int) (lo:Int) (i:Nat):(Qa3 l lo i).length<=i:=QMe (QMg _ _) (by simp)
def Qm7 (p:Qf) (t:Q7) (k:Nat) (m:Int) (i:Nat):Int :=
 if inN (Zy p i (QC t.ends)) k=true/\¬ QF p i (QC t.ends)=k then max m ((J7 p i t.set).tdiv (den t.set)) else m
def Qhw (p:Qf) (t:Q7) (k:Nat) (n:Nat):Int:=(List.range n).foldl (Qm7 p t k) (-1)
def QD2 (p:Qf) (t:Q7) (now:List Nat):Int:=now.foldl (fun b k=>min b (Qhw p t k p.trials.length)) 999999999
def QbX (p:Qf) (t:Q7) (i n:Nat):Nat:=(List.range n).countP fun k=>decide (0<=(tr p k).broke)&&decide (J7 p k t.set<=J7 p i t.set)
def QpU (p:Qf) (t:Q7) (b:Int) (i:Nat):Int :=
 if 0<=(tr p i).broke/\p.rule<=(QbX p t i p.trials.length:Int) then min b ((J7 p i t.set+den t.set-1).tdiv (den t.set)-1) else b
def Qe0 (p:Qf) (t:Q7):Int:=(List.range p.trials.length).foldl (QpU p t) (QD2 p t (Yh p (QC t.ends)))
theorem Qln (p:Qf) (t:Q7) (k n:Nat):Qhw p t k (n+1)=Qm7 p t k (Qhw p t k n) n:=by simp[Qhw,QMn]
theorem QcX (a b:Int):(if b<a then b else a)=min a b:=by split<;>omega
theorem QcY (a b:Int):(if a<b then b else a)=max a b:=by split<;>omega
theorem QaZ {a b:Int} (h1:0<=a) (h2:1<=b):0<=a.tdiv b/\a.tdiv b<=a:=by
 rw[QMy h1];exact ⟨Int.ediv_nonneg h1 (by omega),Int.ediv_le_self _ h1⟩
structure Fit (p:Qf) (t:Q7):Prop where
 ends:p.chain.deeds.length<=t.ends.length
 set:okS p.machine t.set
theorem OkP.deedsLen {p:Qf} (h:OkP p):p.chain.deeds.length<=12:=h.chain.len
theorem OkP.trialsLen {p:Qf} (h:OkP p):p.trials.length<=12:=by
 have:=Qbl p.chain.deeds;have:=h.many;have:=h.deedsLen;omega
theorem OkP.trial {p:Qf} (h:OkP p) {i:Nat} (hi:i<p.trials.length):X0 (tr p i) (cnt p.chain.deeds ((pv p.chain.deeds).getD i 0)):=by
 have h1:i<(pv p.chain.deeds).length:=by rw[<- h.many];exact hi
 have:=h.trials i h1 hi;rw[Qmo hi] at this
 grind
theorem OkP.pvGet {p:Qf} (h:OkP p) {i:Nat} (hi:i<p.trials.length):(pv p.chain.deeds).getD i 0<p.chain.deeds.length:=by
 have h1:i<(pv p.chain.deeds).length:=by rw[<- h.many];exact hi
 have:=QfI h1
 grind
theorem OkP.thenLen {p:Qf} (h:OkP p) (e:Nat->Int) {i:Nat} (hi:i<p.trials.length):((Zy p i e).length:Int)=cnt p.chain.deeds ((pv p.chain.deeds).getD i 0):=by
 have:=h.pvGet hi;exact Xj e h.chain.deeds _ (by omega) (by omega)
theorem OkP.brokeIn {p:Qf} (h:OkP p) (e:Nat->Int) {i:Nat} (hi:i<p.trials.length) (hb:0<=(tr p i).broke):∃ hlt:(tr p i).broke.toNat<(Zy p i e).length,QF p i e=((Zy p i e)[(tr p i).broke.toNat]:Nat):=by
 have h1:=(h.trial hi).2.2;have h2:=h.thenLen e hi;simp only[inR] at h1;have hlt:(tr p i).broke.toNat<(Zy p i e).length:=by omega
 exact ⟨hlt,by simp[QF,hb,List.getD_eq_getElem?_getD,hlt]⟩
theorem OkP.thenLt {p:Qf} (e:Nat->Int) (i:Nat) {k:Nat} (hk:k∈Zy p i e):k<(YD p.chain.deeds).length :=
 QMv (qV _ _ _ k hk) (Qjg _ _)
theorem Qkj (p:Qf) (t:Q7):ZZ p t<=p.trials.length:=by
 have:=QMC (p:=fun i=>ZX p i t) (l:=List.range p.trials.length)
 simpa[ZZ] using this
theorem Qcz (n:Nat) (f:Nat->Bool):(List.range (n+1)).any f=((List.range n).any f||f n):=by grind
include hK
theorem QtV (p:Qf) (n:Int) (hs:p.trials.length<=1000):Ev.Good Tryz.prog K 62 [prV p,.int .i64 n] (.bool (decide (inR n 0 (p.trials.length-1)))):=by
 refine Qb hK QCJ (by simp) ?_
 simp
 (repeat' first | omega | (with_reducible apply And.intro) | intro _)
 exact cK (Ux hK _ _ _) (by simp)
omit hK
def Ur (d:Qs):List Int:=(if d.frm=0\/d.frm=2 then [0] else [])++(if d.frm=1\/d.frm=2 then [1] else [])
def QP:List Qs->List (List Int)
 | []=>[[]]
 | d::r=>(Ur d).flatMap fun e=>(QP r).map (e::·)
noncomputable def ZS (c:Qn) (first:List Int) (rest:List Qs):List (List Int):=((QP rest).map (first++·)).filter fun e=>decide (Qns c e)
theorem QlN (c:Qn) (first:List Int) (d:Qs) (r:List Qs):ZS c first (d::r)=(Ur d).flatMap fun e=>ZS c (first++[e]) r:=by
 simp only[ZS,QP,QNc,List.filter_flatMap,List.map_map]
 congr 1
 funext e
 congr 2
 grind
def acc {α:Type} (pc:Nat->List α) (i:Nat):List α:=(List.range i).flatMap pc
theorem Qtn {α:Type} (pc:Nat->List α):acc pc 0=[]:=rfl
theorem QaM {α:Type} (pc:Nat->List α) (i:Nat):acc pc (i+1)=acc pc i++pc i:=by simp[acc,QMn]
noncomputable def QH6 (c:Qn) (first:List Int) (d:Qs) (r:List Qs) (i:Nat):List (List Int):=if d.frm=i\/d.frm=2 then ZS c (first++[(i:Int)]) r else []
theorem Qoz (d:Qs):(Ur d).length<=2:=by unfold Ur;grind
theorem Xy {α β:Type} (f:α->List β) (n:Nat):∀ l:List α,(∀ a∈l,(f a).length<=n)->(l.flatMap f).length<=l.length*n
 | [],_=>by simp
 | a::l,h=>by
   have h1:=h a (by simp)
   have h2:=Xy f n l fun b hb=>h b (by simp[hb])
   simp only[QML,QL3,QMa,Nat.succ_mul];omega
theorem QeR {α:Type} (pc:Nat->List α) (n:Nat) (h:∀ i,(pc i).length<=n) (i:Nat):(acc pc i).length<=i*n:=by
 have:=Xy pc n (List.range i) fun a _=>h a
 simpa[acc] using this
theorem Qgy (c:Qn):∀ (rest:List Qs) (first:List Int),(ZS c first rest).length<=2 ^ rest.length
 | [],first=>by
   have:=QMg (fun e=>decide (Qns c e)) ([[]].map (first++·))
   simpa[ZS,QP] using this
 | d::r,first=>by
   rw[QlN];have h1:=Xy (fun e=>ZS c (first++[e]) r) (2 ^ r.length) (Ur d) fun e _=>Qgy c r (first++[e])
   have h2:=QMo (2 ^ r.length) (Qoz d)
   grind
theorem Wl {n:Nat} (h:n<=12):2 ^ n<=4096:=QMS (by omega) h
include hK
omit hK
def QV:List ZC->List (List Int)
 | []=>[[]]
 | l::r=>acc (fun i=>(QV r).map ((l.lo+(i:Nat))::·)) (l.hi+1-l.lo).toNat
def Zi (m:Machine) (first:List Int) (rest:List ZC):List Qk:=(QV rest).flatMap fun s=>(List.range (m.lhi+1-m.llo).toNat).map fun k:Nat=>⟨first++s,m.llo+k⟩
noncomputable def QW (m:Machine) (first:List Int) (rest:List ZC):List Qk:=(Zi m first rest).filter fun s=>decide (Vq m s)
theorem QcM (m:Machine) (first:List Int) (l:ZC) (r:List ZC):QW m first (l::r)=acc (fun i=>QW m (first++[l.lo+(i:Nat)]) r) (l.hi+1-l.lo).toNat:=by
 simp only[QW,Zi,QV,acc,List.flatMap_assoc,List.filter_flatMap]
 congr 1
 funext i
 simp[List.flatMap_map]
theorem Qfd (m:Machine):∀ (rest:List ZC) (first:List Int),(∀ l∈rest,1<=Z8 l)->1<=m.lhi-m.llo+1->((QW m first rest).length:Int)<=(m.lhi-m.llo+1)*Q8 Z8 rest
 | [],first,_,h=>by
   have:=QMg (fun s=>decide (Vq m s)) (Zi m first [])
   simp[Zi,QV] at this;simp only[QW,Q8];simp only[Zi,QV] at this |-
   grind
 | l::r,first,hs,h=>by
   rw[QcM];have ih:=fun e:Int=>Qfd m r (first++[e]) (fun l hl=>hs l (by simp[hl])) h
   have hl:=hs l (by simp)
   have hp:=VF Z8 r fun l hl=>hs l (by simp[hl])
   have hpp:=QMN (a:=m.lhi-m.llo+1) (b:=Q8 Z8 r) (by omega) (by omega)
   have h1:=QeR (fun i=>QW m (first++[l.lo+(i:Nat)]) r) ((m.lhi-m.llo+1)*Q8 Z8 r).toNat (fun i=>by grind) (l.hi+1-l.lo).toNat
   have e1:((l.hi+1-l.lo).toNat:Int)=Z8 l:=by unfold Z8 at *;omega
   have e2:(((m.lhi-m.llo+1)*Q8 Z8 r).toNat:Int)=(m.lhi-m.llo+1)*Q8 Z8 r:=by omega
   have h2:=Int.ofNat_le.2 h1;rw[Int.natCast_mul,e1,e2] at h2;simp only[Q8]
   grind
noncomputable def QH5 (m:Machine) (first:List Int) (k:Nat):List Qk:=if Vq m ⟨first,m.llo+k⟩ then [⟨first,m.llo+k⟩] else []
include hK
omit hK
noncomputable def Qr (p:Qf):List Q7:=(ZS p.chain [] p.chain.deeds).flatMap fun e=>(QW p.machine [] p.machine.levers).map fun s=>⟨e,s⟩
noncomputable def kL (p:Qf) (is:Bool):List Q7:=if OkP p/\is=true then Qr p else []
noncomputable def kE (p:Qf) (is:Bool):Int:=if OkP p then (if is=true then (if Qr p=[] then 3 else 0) else 1) else 60
theorem Qh7 {c:Qn} {e:List Int} (h:e∈ZS c [] c.deeds):Qns c e:=by
 simp only[ZS,QMr,decide_eq_true_eq] at h;exact h.2
theorem JZ {m:Machine} {s:Qk} (h:s∈QW m [] m.levers):Vq m s:=by
 simp only[QW,QMr,decide_eq_true_eq] at h;exact h.2
theorem QbG {p:Qf} {t:Q7} (h:t∈Qr p):Qek p t:=by
 simp only[Qr,QMl,QL5] at h;obtain ⟨e,he,s,hs,rfl⟩:=h;exact ⟨Qh7 he,JZ hs⟩
theorem Qek.fit {p:Qf} {t:Q7} (h:Qek p t):Fit p t:=⟨by rw[h.1.1.1];omega,h.2.1⟩
theorem Qnj {p:Qf} {t:Q7} (h:t∈Qr p):Fit p t:=(QbG h).fit
theorem YU {p:Qf} {is:Bool} (h:kE p is=0):OkP p/\is=true/\kL p is=Qr p/\Qr p≠[]:=by
 unfold kE at h;split at h
 ·rename_i h1
  split at h
  ·rename_i h2
   split at h
   ·cases h
   ·rename_i h3
    exact ⟨h1,h2,by simp[kL,h1,h2],h3⟩
  ·cases h
 ·cases h
theorem QrO {c:Qn} (h:OkC c):(ZS c [] c.deeds).length<=4096:=QMe (Qgy c _ _) (Wl h.len)
theorem Qar {m:Machine} (h:OkM m):((QW m [] m.levers).length:Int)<=sets m m.levers.length:=by
 have h1:=h.leak;simp only[inR] at h1;have:=Qfd m m.levers [] (fun l hl=>(h.span hl).1) (by omega)
 rwa [sets,QLU]
include hK
omit hK
structure QKZ (p:Qf):Prop where
 small:Ql8 p
 sets:OkP p->sets p.machine p.machine.levers.length<=1000000
def Wu (p:Qf) (link:Int):Bool:=decide (inR link 0 ((YD p.chain.deeds).length-1))
def Z0 (p:Qf) (n:Int):Bool:=decide (inR n 0 (p.trials.length-1))
noncomputable def rProved (p:Qf) (link:Int):Int:=if kE p (Wu p link)=0 then XY ((kL p (Wu p link)).countP (Zj p link)) (kL p (Wu p link)).length else 0
noncomputable def rCond (p:Qf):Int:=if kE p true=0 then XY ((kL p true).countP fun t=>decide (p.rule<=(ZZ p t:Int))) (kL p true).length else 0
noncomputable def rGood (p:Qf):Int:=if kE p true=0 then XY ((kL p true).countP (Vr p)) (kL p true).length else 0
noncomputable def JF (p:Qf):Int:=(kL p true).foldl (fun b t=>min b (Qe0 p t)) 999999999
noncomputable def Y8 (p:Qf):Int × Int:=if kE p true=0 then (if JF p<0 then (0,3) else (JF p,0)) else (0,kE p true)
def span (l:List Int):Int × Int:=match l with
 | []=>(0,0)
 | a::r=>(r.foldl min a,r.foldl max a)
theorem Qa2 (l:List Int) (a:Int):span (l++[a])=if l=[] then (a,a) else (min (span l).1 a,max (span l).2 a):=by
 cases l with
 | nil=>rfl
 | cons b r=>simp[span]
noncomputable def rFail (p:Qf):Int × Int:=span ((kL p true).map fun t=>(ZZ p t:Int))
noncomputable def QE9 (p:Qf):List Int:=if kE p true=0 then acc (fun s:Nat=>if (kL p true).all (QzZ p s) then [(s:Int)] else []) 100 else []
noncomputable def Wi (p:Qf):List Int:=if kE p true=0 then acc (fun at_:Nat=>if (kL p true).all (fun t=>Zj p ((Yh p (QC t.ends)).getD at_ 0) t) then [] else [(at_:Int)]) (Xw p.chain.deeds).toNat else []
noncomputable def Ut (p:Qf) (n:Int):List Int:=YF ((kL p (Z0 p n)).map fun t=>QF p n.toNat (QC t.ends)) 0 12
include hK
end Go.Pf
namespace Go.Ev
theorem QtL {P:Program} {K:World->Prop} {F:Way->Env->Qx->Prop} {c:AC} {ks ids:List Nat} {k:List AI} {S:Type} (st:S->Env) (so:S->Qx) (I:S->Prop) (μ:S->Nat)
  (h:∀ s,I s->(∀ s',I s'->μ s'<μ s->Y1 P K F c ks ids k (st s') (so s'))->Y1 P K F c ks ids k (st s) (so s)):∀ s,I s->Y1 P K F c ks ids k (st s) (so s):=by
 have:∀ n s,μ s<n->I s->Y1 P K F c ks ids k (st s) (so s):=by
  intro n
  induction n with
  | _=>grind
 grind
end Go.Ev
namespace Go.Pf
open Go Go.Ev Go.Proofs Go.RowKit
variable {K:World->Prop} (hK:∀ w w',K w->Below w.heap.size w w'->K w')
set_option maxRecDepth 8000
theorem Wa:∀ (r:List ZC) (s:List Int),s∈QV r->s.length=r.length
 | [],s,h=>by simp[QV] at h;simp[h]
 | l::r,s,h=>by
   simp only[QV,acc,QMl,QL5] at h;obtain ⟨i,_,x,hx,rfl⟩:=h;simp[Wa r x hx]
theorem qG:∀ (r:List ZC) (s:List Int),s∈QV r->∀ i (h:i<r.length) (h':i<s.length),inR s[i] r[i].lo r[i].hi
 | [],s,h,i,hi,_=>by simp at hi
 | l::r,s,h,i,hi,hi'=>by
   simp only[QV,acc,QMl,QL5,QMi] at h;obtain ⟨j,hj,x,hx,rfl⟩:=h;cases i with
   | zero=>simp only[QMW,inR];omega
   | succ i=>simp only[List.getElem_cons_succ];exact qG r x hx i (by simpa using hi) (by simpa using hi')
theorem Qk0 {m:Machine} {s:Qk} (h:s∈Zi m [] m.levers):okS m s:=by
 simp only[Zi,QMl,QL5,QMi,QL4] at h;obtain ⟨x,hx,k,hk,rfl⟩:=h;exact ⟨Wa _ _ hx,by simp only[inR];omega,qG _ _ hx⟩
theorem Qff (m:Machine) (first:List Int) (l:ZC) (r:List ZC):Zi m first (l::r)=acc (fun i=>Zi m (first++[l.lo+(i:Nat)]) r) (l.hi+1-l.lo).toNat:=by
 simp only[Zi,QV,acc,List.flatMap_assoc]
 congr 1
 funext i
 simp[List.flatMap_map]
def QmU (m:Machine) (first:List Int) (k:Nat):List Qk:=[⟨first,m.llo+k⟩]
theorem Qg9 (m:Machine) (first:List Int):Zi m first []=acc (QmU m first) (m.lhi+1-m.llo).toNat:=by
 simp only[Zi,QV,acc,QML,List.flatMap_nil,QL0];generalize (m.lhi+1-m.llo).toNat=n
 induction n with
 | zero=>rfl
 | succ n ih=>rw[QMn,QL8,ih,List.flatMap_append];rfl
noncomputable def tL (m:Machine) (is:Bool):List Qk:=if OkM m/\is=true then QW m [] m.levers else []
noncomputable def tE (m:Machine) (is:Bool):Int:=if OkM m then (if is=true then (if QW m [] m.levers=[] then 3 else 0) else 1) else 30
theorem QE1 {m:Machine} {is:Bool} {s:Qk} (h:s∈tL m is):OkM m/\is=true/\okS m s:=by
 unfold tL at h;split at h
 ·rename_i h1
  exact ⟨h1.1,h1.2,(JZ h).1⟩
 ·cases h
def W2 (w mn load:Int):Bool:=decide (inR w 0 9999/\inR mn 0 99/\inR load 0 999999999)
def QbA (m:Machine) (w mn:Int) (s:Qk):Int:=(num m s w mn).tdiv (den s)
def upS (m:Machine) (w mn:Int) (s:Qk):Int:=(num m s w mn+den s-1).tdiv (den s)
noncomputable def Yk (m:Machine) (w mn:Int):Int × Int:=((span ((tL m (W2 w mn 0)).map (QbA m w mn))).1,(span ((tL m (W2 w mn 0)).map (upS m w mn))).2)
include hK
def Xk (m:Machine) (l:List Qk) (w mn load:Int):Prop:=∀ s∈l,load*den s<=num m s w mn
omit hK
noncomputable def Ww (m:Machine) (l:List Qk) (mn load:Int):Int:=open Classical in ((List.range 10000).findIdx fun (n:Nat)=>decide (Xk m l n mn load):Nat)
theorem Qng {m:Machine} {l:List Qk} {mn load r:Int} (h0:0<=r/\r<=10000) (h1:r<=9999->Xk m l r mn load) (h2:∀ w,0<=w->w<r->¬ Xk m l w mn load):Ww m l mn load=r:=by
 classical
 unfold Ww
 have hp:∀ n:Nat,n<10000->((List.range 10000).findIdx fun (n:Nat)=>decide (Xk m l n mn load))<=n\/¬ Xk m l n mn load:=by
  intro n hn;by_cases h:Xk m l n mn load
  ·left
   apply QMK.1;intro hlt;have:=List.not_of_lt_findIdx hlt;simp[h] at this
  ·exact .inr h
 have hl:((List.range 10000).findIdx fun (n:Nat)=>decide (Xk m l n mn load))<=10000:=by
  have:=List.findIdx_le_length (p:=fun (n:Nat)=>decide (Xk m l n mn load)) (xs:=List.range 10000)
  simpa using this
 have hg:((List.range 10000).findIdx fun (n:Nat)=>decide (Xk m l n mn load))<10000->Xk m l (((List.range 10000).findIdx fun (n:Nat)=>decide (Xk m l n mn load)):Nat) mn load:=by
  intro hlt;have:=List.findIdx_getElem (p:=fun (n:Nat)=>decide (Xk m l n mn load)) (xs:=List.range 10000) (w:=by simpa using hlt)
  simpa using this
 generalize ((List.range 10000).findIdx fun (n:Nat)=>decide (Xk m l n mn load))=q at *
 rcases Int.lt_trichotomy (q:Int) r with h | h | h
 ·grind
 ·exact h
 ·have hr:=h1 (by omega)
  rcases hp r.toNat (by omega) with h3 | h3
  all_goals grind
noncomputable def Zz (m:Machine) (mn load:Int):Int × Int:=if tE m (W2 0 mn load)=0 then (if 9999<Ww m (tL m (W2 0 mn load)) mn load then (0,3) else (Ww m (tL m (W2 0 mn load)) mn load,0)) else (0,tE m (W2 0 mn load))
theorem QuP {m:Machine} {is:Bool} (h:tE m is=0):OkM m/\is=true/\tL m is=QW m [] m.levers/\QW m [] m.levers≠[]:=by
 unfold tE at h;split at h
 ·rename_i h1
  split at h
  ·rename_i h2
   split at h
   ·cases h
   ·rename_i h3
    exact ⟨h1,h2,by simp[tL,h1,h2],h3⟩
  ·cases h
 ·cases h
include hK
omit hK
@[simp] def stC (s:List Int) (leak below:Int):List IV:=[.int .i64 (s.getD 0 0),.int .i64 (s.getD 1 0),.int .i64 (s.getD 2 0),.int .i64 leak,.int .i64 below]
@[simp] def wkC (m:Machine):List IV:=[Q0 m.levers,.int .i64 m.water,.int .i64 m.llo,.int .i64 m.lhi,XS m.bals,.int .i64 m.wrong,.int .i64 (Vs m)]
def XU {α:Type} (pc:Nat->List α):Nat->Nat->List α
 | _,0=>[]
 | i,k+1=>pc i++XU pc (i+1) k
theorem Qcj {α:Type} (pc:Nat->List α):∀ k i,acc pc i++XU pc i k=acc pc (i+k)
 | 0,i=>by simp[XU]
 | k+1,i=>by
   have:=Qcj pc k (i+1);rw[QaM] at this;have e:i+(k+1)=i+1+k:=by omega
   rw[XU,<- QMY,this,e]
theorem QaN {α:Type} (pc:Nat->List α) (n:Nat):acc pc n=XU pc 0 n:=by
 have:=Qcj pc n 0;simp only[Qtn,QL4,QL9] at this;exact this.symm
def qo (m:Machine) (s:Qk):List IV:=[.agg (stC s.shorts s.leak (den s)),.int .i64 (ZQ m m.bals s)]
include hK
theorem QnK (m:Machine) (s:Qk) (w mn:Int) (hm:OkM m) (hl:inR s.leak m.llo m.lhi) (hw:inR w 0 9999) (hmn:inR mn 0 99):Ev.Good Tryz.prog K 60 [.ptr (wkC m),.agg (stC s.shorts s.leak (den s)),.int .i64 w,.int .i64 mn] (.int .i64 (UI m s.leak w mn)):=by
 refine Qb hK QCL (by simp) ?_
 have hp:=hm.pull hl hw hmn;have h3:=hm.water;simp only[inR] at h3 hw
 have e0:(w+if mn*s.leak<m.water then m.water-mn*s.leak else 0)=UI m s.leak w mn:=by
  simp only[UI];split<;>omega
 simp[e0];omega
theorem QwK (m:Machine) (hm:OkM m):Ev.Good Tryz.prog K 121 [maV m] (.ptr (wkC m)):=by
 refine Qb hK QzD (by simp) ?_
 have hl:=hm.len;simp
 (repeat' first | omega | (with_reducible apply And.intro) | intro _)
 refine Qj (fun i=>[(3,AV.loc 8 0),(10,AV.iv (Q0 m.levers)),(11,AV.iv (.int .i64 m.levers.length)),(12,AV.iv (IV.int IntKind.i64 (i:Nat)))])
  (fun i=>[(8,AO.box [.iv (Q0 m.levers),.iv (.int .i64 m.water),.iv (.int .i64 m.llo),.iv (.int .i64 m.lhi),.iv (XS m.bals),.iv (.int .i64 m.wrong),.iv (.int .i64 (Q8 (·.long) (m.levers.take i)))])]) m.levers.length (fun i=>True) trivial ?_ ?_
 ·intro _
  rw[Qa QiR.eq_1];rw[QLU];simp[Vs]
 ·intro i hi _ ih
  have l1:=hm.longs (i+1);rw[Qle _ _ _ hi] at ih l1;rw[Qa QiR.eq_1];simp[hi] at ih l1 |-
  grind
theorem Qv4 (m:Machine) (s:Qk) (b:Qy) (hm:OkM m) (hs:okS m s) (hb:b∈m.bals):Ev.Good Tryz.prog K 247 [.ptr (wkC m),.agg (stC s.shorts s.leak (den s)),.agg (baC b)] (.bool (QcS m s b)):=by
 refine Qb hK Qyw (by simp) ?_
 have h:=hm.bal hb;simp;refine cK (QnK hK m s b.weight b.mins hm hs.2.1 h.1 h.2.1) ?_;have h1:=hm.numB hs h.1 h.2.1;have h2:=hm.denB hs;have h3:=h.2.2;simp only[inR] at h3;have h4:=QMO h3.1.2 h2.2 (by omega) (by omega)
 have h5:=QMN h3.1.1 (Int.le_trans (by omega) h2.1)
 have hr:QcS m s b=decide (num m s b.weight b.mins-b.load*den s<=b.off*den s /\ -(num m s b.weight b.mins-b.load*den s)<=b.off*den s):=rfl;have hnum:UI m s.leak b.weight b.mins*Vs m=num m s b.weight b.mins:=rfl;rw[hr];simp[hnum]
 have key:∀ d:Int,0<=d->(d<=b.off*den s↔(d.tdiv (den s)<b.off\/(d.tdiv (den s)=b.off/\d.tmod (den s)=0))):=fun d hd=>by
  rw[QMy hd,QNm hd];have e1:=Int.emod_def d (den s);have e2:=Int.emod_nonneg d (b:=den s) (by omega)
  have e3:=Int.emod_lt_of_pos d (b:=den s) (by omega)
  constructor
  ·intro hle
   have h6:d / den s<=b.off:=by
    have:=Int.ediv_le_ediv (c:=den s) (by omega) hle
    rwa [Int.mul_ediv_cancel _ (by omega)] at this
   grind
  ·rintro (h7 | ⟨h7,h8⟩)
   ·have h9:(d / den s+1)*den s<=b.off*den s:=QMm (by omega) (by omega)
    grind
   grind
 have hd0:¬ den s=0:=by omega
 generalize num m s b.weight b.mins=N at *;generalize b.load*den s=L at *;have hD : -1000000000000000000<=N-L/\N-L<=1000000000000000000:=by omega
 generalize hDe:N-L=D at *;have hO:=QMN h3.2.1 (show 0<=den s by omega)
 by_cases hneg:D<0
 ·have hk:=key (-D) (by omega)
  have htd:=QaZ (a := -D) (b:=den s) (by omega) h2.1
  have ht2:=Int.tmod_nonneg (den s) (a := -D) (by omega)
  generalize b.off*den s=O at *;rw[Int.neg_tdiv] at htd hk;rw[Int.neg_tmod] at ht2 hk
  grind
 ·have hk:=key D (by omega)
  have htd:=QaZ (a:=D) (b:=den s) (by omega) h2.1
  grind
theorem Qf4 (m:Machine) (hm:OkM m) (first:List Int) (leak0:Int) (hlen:first.length=m.levers.length) (hr:∀ i (h:i<m.levers.length) (h':i<first.length),inR first[i] m.levers[i].lo m.levers[i].hi) :
  Qak Tryz.prog K 204 [.ptr (wkC m),.agg (stC first leak0 (Q8 id first)),.int .i64 first.length] [] ((Zi m first []).map (qo m)) (fun b=>.bool b):=by
 intro s b s' hf;refine QO QpK (by simp) hf.v rfl ?_
 rw[Qg9,QaN] at hf;have hlk:=hm.leak;have hlh:=hm.lhi;simp only[inR] at hlk;simp[hlen]
 (repeat' first | omega | (with_reducible apply And.intro) | intro _)
 have e0:AV.iv (IV.int .i64 m.llo)=AV.iv (.int .i64 (m.llo+((0:Nat):Int))):=by simp
 refine Yr (m.lhi+1-m.llo).toNat (fun i e o=>∃ si,e=[(0,AV.iv (.ptr (wkC m))),(3,AV.cb 0),(5,AV.loc 5 0)]/\o=[(0,.ext si),(5,.box [.iv (.int .i64 (first.getD 0 0)),.iv (.int .i64 (first.getD 1 0)),.iv (.int .i64 (first.getD 2 0)),.iv (.int .i64 (m.llo+(i:Nat))),.iv (.int .i64 (Q8 id first))])] /\
  ZT Tryz.prog K ((XU (QmU m first) i ((m.lhi+1-m.llo).toNat-i)).map (qo m)) si b s') ?_ ?_ _ _ ⟨s,rfl,by simp,by simpa using hf⟩
 ·rintro e o ⟨si,rfl,rfl,hfd⟩
  have q1:m.llo+((m.lhi+1-m.llo).toNat:Int)=m.lhi+1:=by omega
  have q2:¬ m.lhi+1<=m.lhi:=by omega
  rw[Nat.sub_self] at hfd;cases hfd;rw[q1,Qa QiD.eq_1];simp[q2]
 ·rintro i e o hi ⟨si,rfl,rfl,hfd⟩ ih
  have q1:m.llo+(i:Int)<=m.lhi:=by omega
  have q3:m.llo+((i:Int)+1)=m.llo+i+1:=by omega
  have hos:okS m ⟨first,m.llo+i⟩:=⟨hlen,by simp only[inR];omega,hr⟩
  have e1:(m.lhi+1-m.llo).toNat-i=((m.lhi+1-m.llo).toNat-(i+1))+1:=by omega
  rw[e1] at hfd;simp only[XU,QmU,QL8,QMb,List.map_nil,List.singleton_append] at hfd;have hbl:=hm.blen;rw[Qa QiD.eq_1];simp[q1]
  (repeat' first | omega | (with_reducible apply And.intro) | intro _)
  refine Qj (fun k=>[(0,AV.iv (.ptr (wkC m))),(3,AV.cb 0),(5,AV.loc 5 0),(11,AV.iv (IV.int IntKind.i64 (ZQ m (m.bals.take k) ⟨first,m.llo+i⟩:Nat))),(87,AV.iv (XS m.bals)),(88,AV.iv (.int .i64 m.bals.length)),(89,AV.iv (IV.int IntKind.i64 (k:Nat)))])
   (fun k=>[(0,.ext si),(5,.box [.iv (.int .i64 (first.getD 0 0)),.iv (.int .i64 (first.getD 1 0)),.iv (.int .i64 (first.getD 2 0)),.iv (.int .i64 (m.llo+(i:Nat))),.iv (.int .i64 (Q8 id first))])]) m.bals.length (fun i=>True) trivial ?_ ?_
  ·intro _
   rw[Qa QiE.eq_1];simp;have hit:qo m ⟨first,m.llo+i⟩=[.agg (stC first (m.llo+i) (Q8 id first)),.int .i64 (ZQ m m.bals ⟨first,m.llo+i⟩)]:=rfl
   rw[hit] at hfd;cases hfd with
   | stop _ _ _ _ hg =>
     refine Za (by simpa using hg) rfl ?_
     simp
   | next _ _ _ s1 _ _ hg hr2 =>
     refine Za (by simpa using hg) rfl ?_
     simp
     (repeat' first | omega | (with_reducible apply And.intro) | intro _)
     exact ih _ _ ⟨s1,rfl,by simp[q3],hr2⟩
  ·intro k hk _ ih2
   have hle:=QkK m (m.bals.take k) ⟨first,m.llo+i⟩
   simp at hle;rw[Qa QiE.eq_1];rw[QeV _ _ _ _ hk] at ih2;simp[hk] at ih2 |-;have hg:=Qv4 hK m ⟨first,m.llo+i⟩ m.bals[k] hm hos (QLR hk)
   refine cK (by simpa[den] using hg) ?_
   cases hrr:QcS m ⟨first,m.llo+i⟩ m.bals[k]
   ·simp[hrr] at ih2 |-
    grind
   ·simp[hrr] at ih2 |-
    grind
theorem Qnp (m:Machine) (hm:OkM m):∀ (n:Nat) (first:List Int),first.length+n=m.levers.length->(∀ i (h:i<m.levers.length) (h':i<first.length),inR first[i] m.levers[i].lo m.levers[i].hi) ->
  Qak Tryz.prog K 204 [.ptr (wkC m),.agg (stC first 0 (Q8 id first)),.int .i64 first.length] [] ((Zi m first (m.levers.drop first.length)).map (qo m)) (fun b=>.bool b)
 | 0,first,hn,hr=>by
   have e1:m.levers.drop first.length=[]:=QMA (by omega)
   rw[e1];exact Qf4 hK m hm first 0 (by omega) hr
 | n+1,first,hn,hr=>by
   have ihn:=Qnp m hm n;have hlt:first.length<m.levers.length:=by omega
   have hl3:=hm.len;have e1:m.levers.drop first.length=m.levers[first.length]::m.levers.drop (first.length+1):=QMq hlt
   have hlv:=hm.lever (QLR hlt);rw[e1,Qff]
   have hpb:∀ x:Int,inR x m.levers[first.length].lo m.levers[first.length].hi->1<=Q8 id (first++[x])/\Q8 id (first++[x])<=1000000000:=fun x hx=>by
    refine Qbn _ _ (fun a ha=>?_) (by simp;omega)
    simp only[inR] at hx;rcases QMc.1 ha with ha | ha
    ·obtain ⟨k,hk,rfl⟩:=QMz ha
     have h1:=hr k (by omega) hk
     have h2:=hm.lever (QLR (show k<m.levers.length by omega))
     simp only[inR,id] at *;omega
    grind
   have ih2:∀ i:Nat,m.levers[first.length].lo+(i:Int)<=m.levers[first.length].hi->Qak Tryz.prog K 204 [.ptr (wkC m),.agg (stC (first++[m.levers[first.length].lo+(i:Int)]) 0 (Q8 id (first++[m.levers[first.length].lo+(i:Int)]))),.int .i64 (first.length+1:Nat)] []
     (((fun i:Nat=>Zi m (first++[m.levers[first.length].lo+(i:Nat)]) (m.levers.drop (first.length+1))) i).map (qo m)) (fun b=>.bool b):=fun i hi=>by
    have:=ihn (first++[m.levers[first.length].lo+(i:Int)]) (by simp;omega) (fun k h h'=>by
     rcases QM0 k first.length with hk | hk
     ·grind
     ·have:k=first.length:=by simp at h';omega
      subst this;simp only[QNo (QLS _),Nat.sub_self,QMW,inR];omega)
    grind
   generalize (fun i:Nat=>Zi m (first++[m.levers[first.length].lo+(i:Nat)]) (m.levers.drop (first.length+1)))=pc at *
   intro s b s' hf;refine QO QpK (by simp) hf.v rfl ?_
   rw[QaN] at hf;have hlt':(first.length:Int)<m.levers.length:=by omega
   simp[hlt]
   (repeat' first | omega | (with_reducible apply And.intro) | intro _)
   refine Yr (m.levers[first.length].hi+1-m.levers[first.length].lo).toNat (fun i e o=>∃ si,e=[(0,AV.iv (.ptr (wkC m))),(2,AV.iv (IV.int IntKind.i64 (first.length:Nat))),(3,AV.cb 0),(5,AV.loc 5 0),(9,AV.iv (.int .i64 (m.levers[first.length].lo+(i:Nat))))] /\
    o=[(0,.ext si),(5,.box [.iv (.int .i64 (first.getD 0 0)),.iv (.int .i64 (first.getD 1 0)),.iv (.int .i64 (first.getD 2 0)),.iv (.int .i64 0),.iv (.int .i64 (Q8 id first))])] /\
    ZT Tryz.prog K ((XU pc i ((m.levers[first.length].hi+1-m.levers[first.length].lo).toNat-i)).map (qo m)) si b s') ?_ ?_ _ _ ⟨s,by simp,by simp,by simpa using hf⟩
   ·rintro e o ⟨si,rfl,rfl,hfd⟩
    have q1:m.levers[first.length].lo+((m.levers[first.length].hi+1-m.levers[first.length].lo).toNat:Int)=m.levers[first.length].hi+1:=by omega
    have q2:¬ m.levers[first.length].hi+1<=m.levers[first.length].hi:=by omega
    rw[Nat.sub_self] at hfd;cases hfd;rw[q1,Qa QiF.eq_1];simp[hlt,q2]
   ·rintro i e o hi ⟨si,rfl,rfl,hfd⟩ ih
    have q1:m.levers[first.length].lo+(i:Int)<=m.levers[first.length].hi:=by omega
    have q3:m.levers[first.length].lo+((i:Int)+1)=m.levers[first.length].lo+i+1:=by omega
    have e1:(m.levers[first.length].hi+1-m.levers[first.length].lo).toNat-i=((m.levers[first.length].hi+1-m.levers[first.length].lo).toNat-(i+1))+1:=by omega
    rw[e1] at hfd;simp only[XU,QL8] at hfd;have hg:=ih2 i q1;have hb:=hpb (m.levers[first.length].lo+(i:Int)) (by simp only[inR];omega)
    have hpr:Q8 id (first++[m.levers[first.length].lo+(i:Int)])=Q8 id first*(m.levers[first.length].lo+(i:Int)):=Qbo _ _ _
    rw[hpr] at hg hb;rw[Qa QiF.eq_1]
    have hcase:(∃ s1 b1,ZT Tryz.prog K ((pc i).map (qo m)) si b1 s1/\(b1=true->ZT Tryz.prog K ((XU pc (i+1) ((m.levers[first.length].hi+1-m.levers[first.length].lo).toNat-(i+1))).map (qo m)) s1 b s')/\(b1=false->b=false/\s1=s')):=by
     rcases ZT.append hfd with ⟨s1,h1,h2⟩ | ⟨h1,h2⟩
     all_goals grind
    obtain ⟨s1,b1,f1,f2,f3⟩:=hcase;have hgx:=hg _ _ _ f1
    have hfl:first=[]\/(∃ a,first=[a])\/∃ a c,first=[a,c]:=by
     match first,hlt,hl3 with
     | [],_,_=>exact .inl rfl
     | [a],_,_=>grind
     | [a,c],_,_=>grind
     | _::_::_::_,h,h'=>simp at h;omega
    rcases hfl with rfl | ⟨a,rfl⟩ | ⟨a,c,rfl⟩
    all_goals
     try simp only[QMs,QMa,QL9,Nat.reduceAdd] at hlt
     try simp only[QMs,QMa,QL9,Nat.reduceAdd] at q1
     try simp only[QMs,QMa,QL9,Nat.reduceAdd] at q3
     try simp only[QMs,QMa,QL9,Nat.reduceAdd] at hb
     try simp only[QMs,QMa,QL9,Nat.reduceAdd] at hgx
     try simp only[QMs,QMa,QL9,Nat.reduceAdd] at ih
     try simp only[QMs,QMa,QL9,Nat.reduceAdd] at f2
     try simp only[QMs,QMa,QL9,Nat.reduceAdd] at hlt'
     try simp only[QMs,QMa,QL9,Nat.reduceAdd] at hlv
     try simp only[QMs,QMa,QL9,Nat.reduceAdd]
     simp[q1,hlt]
     (repeat' first | omega | (with_reducible apply And.intro) | intro _)
     refine ZJ (by simpa using hgx) rfl ?_
     cases b1
     ·obtain ⟨rfl,rfl⟩:=f3 rfl
      simp
     ·simp
      (repeat' first | omega | (with_reducible apply And.intro) | intro _)
      exact ih _ _ ⟨s1,by simp[q3],by simp,f2 rfl⟩
omit hK
section
variable {K:World->Prop}
def stI (s:Qk):List IV:=[.agg (stC s.shorts s.leak (den s))]
theorem QdZ {m:Machine} {ks:Env} (hks:ZH [2,3] [0,3] ks=[(2,.iv (.ptr [.ptr (wkC m)])),(3,.loc 3 0)]) :
  ∀ (Ls:List Qk) (s:Ext) (b:Bool) (s':Ext),ZT Tryz.prog K ((Ls.filter fun t=>decide ((ZQ m m.bals t:Int)<=m.wrong)).map stI) s b s' ->
   ∃ wy,(wy=.fall\/wy=.ret)/\UC Tryz.prog K [8,9] Qb7 QgG [2,3] [0,3] (ZH [2,3] [0,3] ks) (Ls.map (qo m)) [(0,.ext s),(3,.box [.cb 0])] wy [(0,.ext s'),(3,.box [.cb 0])]
 | [],s,b,s',h=>by
   cases h;exact ⟨.fall,.inl rfl,.nil _⟩
 | t::Ls,s,b,s',h=>by
   by_cases ht:(ZQ m m.bals t:Int)<=m.wrong
   ·rw[QM6 (by simpa using ht)] at h
    cases h with
    | stop _ _ _ _ hg =>
      refine ⟨.ret,.inr rfl,.stop _ _ _ _ _ (by simp) ?_⟩
      rw[hks];refine ⟨rfl,?_⟩;simp[qo,Qb7,QgG,ht];refine Za (by simpa[stI] using hg) rfl ?_
      simp
    | next _ _ _ s1 _ _ hg hr =>
      obtain ⟨wy,h1,h2⟩:=QdZ hks Ls s1 b s' hr;refine ⟨wy,h1,.next _ _ _ _ _ _ ?_ h2⟩;rw[hks];refine ⟨rfl,?_⟩;simp[qo,Qb7,QgG,ht];refine Za (by simpa[stI] using hg) rfl ?_
      simp
   ·rw[QM7 (by simpa using ht)] at h
    obtain ⟨wy,h1,h2⟩:=QdZ hks Ls s b s' h;refine ⟨wy,h1,.next _ _ _ _ _ _ ?_ h2⟩;rw[hks];refine ⟨rfl,?_⟩;simp[qo,Qb7,QgG,ht]
theorem Qfe (m:Machine):QW m [] m.levers=(Zi m [] m.levers).filter fun t=>decide ((ZQ m m.bals t:Int)<=m.wrong):=by
 unfold QW;refine QNf fun s hs=>?_
 have:=Qk0 hs;simp[Vq,this]
end
include hK
theorem QvK (m:Machine) (hm:OkM m):Qal Tryz.prog K 123 [.ptr (wkC m)] [] ((Zi m [] m.levers).map (qo m)):=by
 intro s b s' hf;have h:=Qnp hK m hm m.levers.length [] (by simp) (fun i h h'=>by simp at h')
 simp only[QMs,List.drop_zero] at h;have hgx:=h _ _ _ hf;refine QO QzB (by simp) hf.v rfl ?_
 simp;refine ZJ (by simpa[Q8] using hgx) rfl ?_
 simp
theorem Qf3 (m:Machine) (hm:OkM m):Qal Tryz.prog K 59 [.ptr (wkC m)] [] ((QW m [] m.levers).map stI):=by
 intro s b s' hfd;refine QO QCM (by simp) hfd.v rfl ?_
 rw[Qfe] at hfd;obtain ⟨wy,h1,h2⟩:=QdZ (m:=m) (ks:=[(2,.iv (.ptr [.ptr (wkC m)])),(3,.loc 3 0)]) rfl (Zi m [] m.levers) s b s' hfd;simp;refine Zc (wy:=wy) (o':=[(0,.ext s'),(3,.box [.cb 0])]) rfl (by kernel_rfl) (QvK hK m hm) (by simpa using h2) ?_
 rcases h1 with rfl | rfl<;>simp
theorem QnM (m:Machine) (is:Bool) (hl:m.levers.length<=1000) (hb:m.bals.length<=1000):Ev.Good Tryz.prog K 57 [maV m,.bool is] (.tup [if tE m is=0 then .ptr (wkC m) else .nilp,.int .i64 (tE m is)]):=by
 refine Qb hK QCO (by simp) ?_
 simp;refine cK (Qn4 hK m hl hb) ?_;by_cases h1:OkM m
 ·cases is
  ·simp[h1,tE]
  ·simp[h1]
   refine cK (QwK hK m h1) ?_;simp;cases hL:QW m [] m.levers with
   | nil =>
     refine Zc (wy:=.fall) (o':=[(4,.box [.iv .nilp]),(5,.box [.iv (.int .i64 0)]),(7,.box [.iv (.ptr (wkC m))])]) rfl (by kernel_rfl) (Qf3 hK m h1) (by rw[hL];simpa using UC.nil _) ?_
     simp[tE,h1,hL]
   | cons a r =>
     refine Zc (wy:=.ret) (o':=[(4,.box [.iv (.ptr (wkC m))]),(5,.box [.iv (.int .i64 0)]),(7,.box [.iv (.ptr (wkC m))])]) rfl (by kernel_rfl) (Qf3 hK m h1) (by
      rw[hL];refine .stop _ _ _ _ _ (by simp) ?_
      refine ⟨rfl,?_⟩;simp[stI,Qph,Quq]) ?_
     simp[tE,h1,hL]
 ·simp[h1,tE]
theorem Qwm (m:Machine) (hl:m.levers.length<=1000) (hb:m.bals.length<=1000) (hs:OkM m->sets m m.levers.length<=1000000):Ev.Good Tryz.prog K 212 [maV m] (.tup [.int .i64 (tL m true).length,.int .i64 (tE m true)]):=by
 refine Qb hK QyQ (by simp) ?_
 simp;refine cK (QnM hK m true hl hb) ?_;by_cases he:tE m true=0
 ·obtain ⟨hm,_,htl,hne⟩:=QuP he
  have hln:=Qar hm;have hln2:=hs hm;simp[he,htl];refine Zc (wy:=.fall) (o':=[(2,.box [.iv (.int .i64 ((QW m [] m.levers).length:Nat))])]) rfl (by kernel_rfl) (Qf3 hK m hm) ?_ ?_
  ·have:=UC.all (P:=Tryz.prog) (K:=K) (ps:=[15]) (asn:=QeF) (body:=Qiz) (ks:=[2]) (ids:=[2]) (eK:=[(2,.loc 2 0)]) ((QW m [] m.levers).map stI) (fun i=>[(2,.box [.iv (.int .i64 (i:Int))])]) fun i x hi=>by
    simp only[QLW,QLT] at hi;obtain ⟨y,hy,rfl⟩:=hi;have hlt:=(QLO.1 hy).1;refine ⟨rfl,?_⟩;simp[stI,QeF,Qiz];omega
   simpa using this
  ·simp
 ·have:tL m true=[]:=by
   unfold tE at he;unfold tL
   grind
  simp[he,this]
omit hK
@[simp] theorem QEi:span []=(0,0):=rfl
theorem QAA {m:Machine} {is:Bool} (h:¬ tE m is=0):tL m is=[]:=by
 unfold tE at h;unfold tL
 grind
def QhG (m:Machine) (mn load:Int) (s:Qk):Int:=(load*den s+Vs m-1).tdiv (Vs m)-UI m s.leak 0 mn
def Uo (m:Machine) (mn load:Int) (l:List Qk):Int:=l.foldl (fun b s=>max b (QhG m mn load s)) 0
theorem QqT (m:Machine) (mn load:Int) (l:List Qk) (w:Int) (hw:0<=w):Uo m mn load l<=w↔∀ s∈l,QhG m mn load s<=w:=by
 have:∀ (l:List Qk) (b:Int),(l.foldl (fun b s=>max b (QhG m mn load s)) b<=w↔b<=w/\∀ s∈l,QhG m mn load s<=w):=by
  intro l
  induction l with
  | _=>grind
 have h:=this l 0;simpa[Uo,hw] using h
theorem qR (m:Machine) (mn load:Int) (l:List Qk):0<=Uo m mn load l:=by
 have:∀ (l:List Qk) (b:Int),b<=l.foldl (fun b s=>max b (QhG m mn load s)) b:=by
  intro l
  induction l with
  | _=>grind
 exact this l 0
theorem QjZ {m:Machine} (hm:OkM m) {s:Qk} (hs:okS m s) {mn load w:Int} (hmn:inR mn 0 99) (hld:inR load 0 999999999):QhG m mn load s<=w↔load*den s<=num m s w mn:=by
 have ha:=hm.aboveB;have hd:=hm.denB hs;simp only[inR] at hld;have hn:=QMN hld.1 (Int.le_trans (by omega) hd.1)
 have e1:num m s w mn=(w+UI m s.leak 0 mn)*Vs m:=by
  unfold num UI
  congr 1
  omega
 unfold QhG;rw[e1,QMy (by omega)]
 generalize UI m s.leak 0 mn=r;generalize load*den s=N at *;generalize Vs m=A at *;have e2:=Int.emod_def (N+A-1) A;have e3:=Int.emod_nonneg (N+A-1) (b:=A) (by omega)
 have e4:=Int.emod_lt_of_pos (N+A-1) (b:=A) (by omega)
 generalize (N+A-1) / A=Q at *;constructor
 ·intro h
  have h1:Q*A<=(w+r)*A:=QMm (by omega) (by omega)
  grind
 ·intro h
  apply Int.not_lt.1;intro hlt;have h1:(w+r+1)*A<=Q*A:=QMm (by omega) (by omega)
  grind
theorem Qhv {m:Machine} (hm:OkM m) {l:List Qk} (hs:∀ s∈l,okS m s) {mn load:Int} (hmn:inR mn 0 99) (hld:inR load 0 999999999):Ww m l mn load=min (Uo m mn load l) 10000:=by
 have h0:=qR m mn load l
 have hall:∀ w,0<=w->(Xk m l w mn load↔Uo m mn load l<=w):=fun w hw=>by
  rw[QqT m mn load l w hw];exact ⟨fun h s hsl=>(QjZ hm (hs s hsl) hmn hld).2 (h s hsl),fun h s hsl=>(QjZ hm (hs s hsl) hmn hld).1 (h s hsl)⟩
 refine Qng (by omega) (fun h=>(hall _ (by omega)).2 (by omega)) (fun w h1 h2=>fun c=>?_)
 grind
include hK
theorem QnV (m:Machine) (w mn:Int) (hl:m.levers.length<=1000) (hb:m.bals.length<=1000):Ev.Good Tryz.prog K 20 [maV m,.int .i64 w,.int .i64 mn] (.tup [.agg [.int .i64 (Yk m w mn).1,.int .i64 (Yk m w mn).2],.int .i64 (tE m (W2 w mn 0))]):=by
 refine Qb hK QDs (by simp) ?_
 simp;refine cK (QnL hK w mn 0) ?_;have hask:decide (inR w 0 9999/\inR mn 0 99/\inR 0 0 999999999)=W2 w mn 0:=rfl;rw[hask];simp;refine cK (QnM hK m (W2 w mn 0) hl hb) ?_;unfold Yk;by_cases he:tE m (W2 w mn 0)=0
 ·obtain ⟨hm,ha,htl,hne⟩:=QuP he
  have ha:=of_decide_eq_true ha;rw[htl];simp[he];refine Zc (wy:=.fall) (o':=[(6,.box [.iv (.int .i64 0),.iv (.int .i64 0)]),(8,.box [.iv (.ptr (wkC m))]),(10,.box [.iv (.int .i64 (span ((QW m [] m.levers).map (QbA m w mn))).1),.iv (.int .i64 (span ((QW m [] m.levers).map (upS m w mn))).2)]),(11,.box [.iv (.bool (decide ((QW m [] m.levers).length=0)))])]) rfl (by kernel_rfl) (Qf3 hK m hm) ?_ ?_
  ·have hok:∀ s∈QW m [] m.levers,okS m s:=fun s h=>(JZ h).1
   generalize QW m [] m.levers=l at *
   have:=UC.all (P:=Tryz.prog) (K:=K) (ps:=[30]) (asn:=QeH) (body:=Qkw) (ks:=[4,5,6,8,10,11]) (ids:=[6,8,10,11]) (eK:=[(4,.iv (.ptr [.int .i64 w])),(5,.iv (.ptr [.int .i64 mn])),(6,.loc 6 0),(8,.loc 8 0),(10,.loc 10 0),(11,.loc 11 0)]) (l.map stI)
    (fun i=>[(6,.box [.iv (.int .i64 0),.iv (.int .i64 0)]),(8,.box [.iv (.ptr (wkC m))]),(10,.box [.iv (.int .i64 (span ((l.take i).map (QbA m w mn))).1),.iv (.int .i64 (span ((l.take i).map (upS m w mn))).2)]),(11,.box [.iv (.bool (decide (i=0)))])]) fun i x hi=>by
    simp only[QLW,QLT] at hi;obtain ⟨y,hy,rfl⟩:=hi;obtain ⟨hlt,rfl⟩:=QLO.1 hy;have hsi:=hok _ (QLR hlt);have hn:=hm.numB hsi ha.1 ha.2.1;have hd:=hm.denB hsi;have td1:=QaZ hn.1 hd.1;have td2:=QaZ (a:=num m l[i] w mn+den l[i]-1) (b:=den l[i]) (by omega) (by omega)
    have hd0:¬ den l[i]=0:=by omega
    have hlow:QbA m w mn l[i]=(num m l[i] w mn).tdiv (den l[i]):=rfl;have hup:upS m w mn l[i]=(num m l[i] w mn+den l[i]-1).tdiv (den l[i]):=rfl;have hnum:UI m l[i].leak w mn*Vs m=num m l[i] w mn:=rfl;rw[QLM hlt,QL8,QM2,Qa2,QL8,QM2,Qa2];refine ⟨rfl,?_⟩;have hg:=QnK hK m l[i] w mn hm hsi.2.1 ha.1 ha.2.1;by_cases h0:i=0
    ·subst h0
     simp[stI,QeH,Qkw];refine cK (by simpa using hg) ?_
     simp[hnum,hd0,hlow,hup];omega
    ·have hne1:¬ (l.take i).map (QbA m w mn)=[]:=by
      intro c;have hli:((l.take i).map (QbA m w mn)).length=i:=by simp;omega
      grind
     have hne2:¬ (l.take i).map (upS m w mn)=[]:=by
      intro c;have hli:((l.take i).map (upS m w mn)).length=i:=by simp;omega
      grind
     rw[if_neg hne1,if_neg hne2];generalize span ((l.take i).map (QbA m w mn))=A at *;generalize span ((l.take i).map (upS m w mn))=B at *;simp[stI,QeH,Qkw,h0];refine cK (by simpa using hg) ?_
     simp[hnum,hd0,hlow,hup,QcX,QcY];omega
   simpa using this
  ·simp
 ·have:=QAA he
  simp[he,this]
theorem QBx (m:Machine) (mn load:Int) (hl:m.levers.length<=1000) (hb:m.bals.length<=1000):Ev.Good Tryz.prog K 74 [maV m,.int .i64 mn,.int .i64 load] (.tup [.int .i64 (Zz m mn load).1,.int .i64 (Zz m mn load).2]):=by
 refine Qb hK QCx (by simp) ?_
 simp;refine cK (QnL hK 0 mn load) ?_;have hask:decide (inR 0 0 9999/\inR mn 0 99/\inR load 0 999999999)=W2 0 mn load:=rfl;rw[hask];simp;refine cK (QnM hK m (W2 0 mn load) hl hb) ?_;unfold Zz;by_cases he:tE m (W2 0 mn load)=0
 ·obtain ⟨hm,ha,htl,hne⟩:=QuP he
  have ha:=of_decide_eq_true ha;have hok:∀ s∈QW m [] m.levers,okS m s:=fun s h=>(JZ h).1
  have hml:=Qhv hm hok ha.2.1 ha.2.2;have hmn:=qR m mn load (QW m [] m.levers);rw[htl,hml];simp[he];refine Zc (wy:=.fall) (o':=[(8,.box [.iv (.ptr (wkC m))]),(10,.box [.iv (.int .i64 (Uo m mn load (QW m [] m.levers)))])]) rfl (by kernel_rfl) (Qf3 hK m hm) ?_ ?_
  ·clear hml hmn hne htl
   generalize QW m [] m.levers=l at *
   have:=UC.all (P:=Tryz.prog) (K:=K) (ps:=[26]) (asn:=Qid) (body:=Qo7) (ks:=[4,5,8,10]) (ids:=[8,10]) (eK:=[(4,.iv (.ptr [.int .i64 mn])),(5,.iv (.ptr [.int .i64 load])),(8,.loc 8 0),(10,.loc 10 0)]) (l.map stI)
    (fun i=>[(8,.box [.iv (.ptr (wkC m))]),(10,.box [.iv (.int .i64 (Uo m mn load (l.take i)))])]) fun i x hi=>by
    simp only[QLW,QLT] at hi;obtain ⟨y,hy,rfl⟩:=hi;obtain ⟨hlt,rfl⟩:=QLO.1 hy;have hsi:=hok _ (QLR hlt);have hd:=hm.denB hsi;have hab:=hm.aboveB;have hld:=ha.2.2;simp only[inR] at hld;have h4:=QMO hld.2 hd.2 (by omega) (by omega)
    have h5:=QMN hld.1 (Int.le_trans (by omega) hd.1)
    have td:=QaZ (a:=load*den l[i]+Vs m-1) (b:=Vs m) (by omega) (by omega)
    have ha0:¬ Vs m=0:=by omega
    have hp:=(hm.pull (w:=0) hsi.2.1 (by simp[inR]) ha.2.1).2
    have hst:Uo m mn load (l.take (i+1))=max (Uo m mn load (l.take i)) ((load*den l[i]+Vs m-1).tdiv (Vs m)-UI m l[i].leak 0 mn):=by
     unfold Uo;rw[QLM hlt,QNe];rfl
    rw[hst];refine ⟨rfl,?_⟩;have hg:=QnK hK m l[i] 0 mn hm hsi.2.1 (by simp[inR]) ha.2.1
    generalize Uo m mn load (l.take i)=A at *;simp[stI,Qid,Qo7,ha0]
    (repeat' first | omega | (with_reducible apply And.intro) | intro _)
    refine cK (by simpa using hg) ?_
    simp[QcY];omega
   simpa[Uo] using this
  ·by_cases h9:9999<Uo m mn load (QW m [] m.levers)
   ·have:9999<min (Uo m mn load (QW m [] m.levers)) 10000:=by omega
    simp[h9,this]
   ·have:min (Uo m mn load (QW m [] m.levers)) 10000=Uo m mn load (QW m [] m.levers):=by omega
    simp[h9,this]
 ·simp[he]
omit hK
def XW (ds:List Qs):List Qs:=ds.filter ZR
@[simp] def lkC (d:Qs):List IV:=[.int .i64 d.bar,.int .i64 d.smith]
@[simp] def Vo (ds:List Qs) (e:Nat->Int) (pm:IV):List IV:=[Qxm (Qib ds e ds.length),.sl 2 ((XW ds).map lkC),pm]
theorem QbN (p:Qs->Bool):∀ (l:List Qs) (i k:Nat),(l.filter p)[k]?=((XH p l i)[k]?).bind fun j=>l[j-i]?
 | [],i,k=>by simp[XH]
 | d::l,i,k=>by
   have ih:=QbN p l (i+1);have hge:∀ j∈XH p l (i+1),i+1<=j:=fun j hj=>(Jm p l (i+1) j hj).1
   have sh:∀ k:Nat,((XH p l (i+1))[k]?).bind (fun j=>l[j-(i+1)]?)=((XH p l (i+1))[k]?).bind (fun j=>(d::l)[j-i]?):=fun k=>by
    cases hk:(XH p l (i+1))[k]? with
    | none=>rfl
    | some j =>
      have:=hge j (QL2 hk)
      grind
   by_cases hp:p d=true
   ·simp only[QM6 hp,XH,hp,if_true]
    grind
   ·simp only[QM7 hp,XH,hp]
    grind
theorem Yw (ds:List Qs):(XW ds).length=(YD ds).length:=by
 have:∀ (l:List Qs) (i:Nat),(l.filter ZR).length=(XH ZR l i).length:=by
  intro l
  induction l with
  | nil=>intro i;rfl
  | cons d l ih =>
    intro i;by_cases hp:ZR d=true
    ·simp only[QM6 hp,XH,hp,if_true,QMa,ih (i+1)]
    ·simp only[QM7 hp,XH,hp,ih (i+1)]
     simp
 exact this ds 0
theorem Qlr (ds:List Qs) (k:Nat) (h:k<(XW ds).length):(XW ds)[k]=Qac ds k:=by
 have h':k<(YD ds).length:=by rw[<- Yw];exact h
 have h1:=QbN ZR ds 0 k;have h2:(YD ds)[k]<ds.length:=Qjh (QLR h');have e:(XH ZR ds 0)[k]?=some (YD ds)[k]:=QLN h';rw[e] at h1;simp only[Option.bind_some,Nat.sub_zero,QLN h2] at h1;have h3:(XW ds)[k]?=some ds[(YD ds)[k]]:=h1;rw[QLN h] at h3;injection h3 with h3
 rw[h3];simp[Qac,List.getD_eq_getElem?_getD,h',h2]
include hK
theorem Qwd (ds:List Qs) (e:Nat->Int) (pm:IV) (s:Xq) (hc:OkD ds ds.length) (hl:ds.length<=1000) (hs:ZI s ds):Ev.Good Tryz.prog K 223 [.agg (Vo ds e pm),.agg (sC s)] (.bool (We ds e s)):=by
 refine Qb hK QyF (by simp) ?_
 obtain ⟨s1,s2,s3,s4,s5⟩:=hs;simp only[inR] at s1 s2 s3;have hlt:s.after.toNat<ds.length+1:=by omega
 have hcl:=Xj e hc s.after.toNat (by omega) (by omega)
 have hcg:=QaF ds e ds.length s.after.toNat (by omega)
 have hcb:=hc.cnt s.after.toNat (by omega) (by omega)
 have hclt:=qV ds e s.after.toNat;have hww:=Qjg ds s.after.toNat
 have hp:(if s.frm=1 then ((cab ds e s.after.toNat).length:Int)-1-s.pos else s.pos)=(plc s.pos s.frm (cab ds e s.after.toNat).length:Nat):=by
  unfold plc;split<;>omega
 have hpl:plc s.pos s.frm (cab ds e s.after.toNat).length<(cab ds e s.after.toNat).length:=QjJ (by omega)
 simp[hlt,hcg]
 (repeat' first | omega | (with_reducible apply And.intro) | intro _)
 refine cK (QhT hK s.pos s.frm (cab ds e s.after.toNat).length (by omega) (by omega)) ?_
 rw[hp];have hr:We ds e s=QfD ds s (cab ds e s.after.toNat):=rfl;rw[hr];unfold QfD;generalize plc s.pos s.frm (cab ds e s.after.toNat).length=at_ at *;generalize cab ds e s.after.toNat=now at *
 have h1:now[at_]<(XW ds).length:=by
  have:=hclt now[at_] (QLR hpl);rw[Yw];omega
 have hm:Qac ds (now.getD at_ 0)=(XW ds)[now[at_]]:=by
  rw[Qlr ds _ h1]
  grind
 rw[hm];simp[hpl,h1]
 grind
theorem QnZ (ds:List Qs) (e:Nat->Int) (pm:IV) (ss:List Xq) (hc:OkD ds ds.length) (hl:ds.length<=1000) (hs:∀ s∈ss,ZI s ds) (hsl:ss.length<=1000):Ev.Good Tryz.prog K 139 [.agg (Vo ds e pm),Qz ss] (.int .i64 (QZ ds ss e)):=by
 refine Qb hK Qzp (by simp) ?_
 simp;intro _;refine Qj (fun i=>[(2,AV.iv (.ptr (Vo ds e pm))),(5,AV.iv (IV.int IntKind.i64 (QZ ds (ss.take i) e:Nat))),(8,AV.iv (Qz ss)),(9,AV.iv (.int .i64 ss.length)),(10,AV.iv (IV.int IntKind.i64 (i:Nat)))]) (fun _=>[]) ss.length (fun i=>True) trivial ?_ ?_
 ·intro _
  rw[Qa QiJ.eq_1];simp
 ·intro i hi _ ih
  have hle:=QcE ds (ss.take i) e;simp at hle;rw[Qa QiJ.eq_1];rw[QeW _ _ _ _ hi] at ih;simp[hi] at ih |-;have hg:=Qwd hK ds e pm ss[i] hc hl (hs _ (QLR hi));refine cK (by simpa using hg) ?_
  cases hr:We ds e ss[i]
  ·simp[hr] at ih |-
   grind
  ·simp[hr] at ih |-
   grind
theorem QtP (ds:List Qs) (e:Nat->Int) (pm:IV) (hl:ds.length<=1000):Ev.Good Tryz.prog K 80 [.agg (Vo ds e pm)] (Xm (cab ds e ds.length)):=by
 refine Qb hK QCr (by simp) ?_
 have hcg:=QaF ds e ds.length ds.length (by omega)
 simp[hcg];omega
theorem QwB (left all n:Int) (h : -1000000<=left/\left<=1000000):Ev.Good Tryz.prog K 146 [.int .i64 left,.int .i64 all,.ptr [.int .i64 n]] (.bool (decide (inR n 0 (left-1)))):=by
 refine Qb hK Qzj (by simp) ?_
 simp
 (repeat' first | omega | (with_reducible apply And.intro) | intro _)
 exact cK (Yn hK _ _ _) (by simp)
theorem QBw (n:Int):Ev.Good Tryz.prog K 78 [.int .i64 n] (.clo 146 [] [.ptr [.int .i64 n]]):=by
 refine Qb hK QCt (by simp) ?_
 simp
theorem Qv3 (a b:Int):Ev.Good Tryz.prog K 249 [.int .i64 a,.int .i64 b] (.bool true):=by
 refine Qb hK Qyu (by simp) ?_
 simp
theorem QBv (ds:List Qs) (e:Nat->Int) (pm:IV) (hl:ds.length<=1000) (n:Nat) (hn:n<(cab ds e ds.length).length):Ev.Good Tryz.prog K 79 [.agg (Vo ds e pm),.ptr [.int .i64 n]] (.int .i64 ((cab ds e ds.length)[n]:Nat)):=by
 refine Qb hK QCs (by simp) ?_
 simp;have hg:=QtP hK ds e pm hl;refine cK (by simpa using hg) ?_
 simp[hn]
omit hK
def ZY (d:Qs):Bool:=decide (d.frm=2)
def Qcb:List Nat->Nat->List (MK × IV)
 | [],_=>[]
 | j::t,r=>(.int .i64 (j:Nat),.int .i64 (r:Nat))::Qcb t (r+1)
theorem QkB (j:Nat):∀ (l:List Nat) (r:Nat),Qcb (l++[j]) r=Qcb l r++[(.int .i64 (j:Nat),.int .i64 ((r+l.length:Nat):Int))]
 | [],r=>by simp[Qcb]
 | a::l,r=>by
   have e:r+1+l.length=r+(l.length+1):=by omega
   simp only[QL1,Qcb,QkB j l (r+1),QMa,e]
@[simp] theorem QkA:∀ (l:List Nat) (r:Nat),(Qcb l r).length=l.length
 | [],_=>rfl
 | _::l,r=>by simp[Qcb,QkA l (r+1)]
theorem Qdt (j:Nat):∀ (l:List Nat) (r:Nat),j ∉ l->∀ y:IV,mins (.int .i64 (j:Nat)) y (Qcb l r)=Qcb l r++[(.int .i64 (j:Nat),y)]
 | [],_,_,y=>rfl
 | a::l,r,h,y=>by
   have h1:¬ a=j:=fun c=>h (by simp[c])
   have h2:=Qdt j l (r+1) (fun c=>h (by simp[c])) y
   have h3:¬ (MK.int .i64 (a:Nat)=MK.int .i64 (j:Nat)):=by simp;omega
   simp only[Qcb,mins,h3,if_false,h2,QL1]
theorem QgI (j:Nat):∀ (l:List Nat) (r:Nat),j∈l->Qw (.int .i64 (j:Nat)) (Qcb l r)=some (.int .i64 ((r+l.idxOf j:Nat):Int))
 | a::l,r,h=>by
   by_cases h1:a=j
   ·subst h1;simp[Qcb,Qw]
   ·have h2:j∈l:=by
     grind
    have h3:¬ (MK.int .i64 (a:Nat)=MK.int .i64 (j:Nat)):=by simp;omega
    have e:r+1+l.idxOf j=r+(l.idxOf j+1):=by omega
    have hi:(a::l).idxOf j=l.idxOf j+1:=by
     grind
    simp only[Qcb,Qw,h3,if_false,QgI j l (r+1) h2,hi,e]
theorem qw:∀ (l:List Nat) (r:Nat),ZE (some .i64) (Qcb l r)
 | [],_=>trivial
 | _::l,r=>⟨rfl,qw l (r+1)⟩
def Us (ds:List Qs):List Nat:=XH ZY ds 0
theorem Qdo (ds:List Qs):(Us ds).length=ZB ds:=by
 have:∀ (l:List Qs) (i:Nat),(XH ZY l i).length=ZB l:=by
  intro l
  induction l with
  | nil=>intro i;rfl
  | cons d l ih =>
    intro i;by_cases h:d.frm=2
    ·simp[XH,ZY,h,ih,ZB,QNq]
    ·simp[XH,ZY,h,ih,ZB,QNq]
 exact this ds 0
@[simp] def VX (c:Qn):List IV:=[QA c.deeds,Qz c.sights,.int .i64 c.wrong,.map (Qcb (Us c.deeds) 0)]
include hK
theorem QnI (c:Qn) (hl:c.deeds.length<=1000):Ev.Good Tryz.prog K 68 [chV c] (.agg (VX c)):=by
 refine Qb hK QCD (by simp) ?_
 simp;intro _
 refine Qj (fun i=>[(2,AV.loc 2 0),(3,AV.loc 3 0),(10,AV.iv (QA c.deeds)),(11,AV.iv (.int .i64 c.deeds.length)),(12,AV.iv (IV.int IntKind.i64 (i:Nat)))])
  (fun i=>[(2,.box [.iv (.sl 5 []),.iv (.sl 5 []),.iv (.int .i64 0),.iv (.map [])]),(3,.box [.iv (QA c.deeds),.iv (Qz c.sights),.iv (.int .i64 c.wrong),.oref 7]),(7,.mapd (Qcb (XH ZY (c.deeds.take i) 0) 0))]) c.deeds.length (fun i=>True) trivial ?_ ?_
 ·intro _
  rw[Qa Qpa.eq_1];simp[Us]
 ·intro i hi _ ih
  rw[QbM _ _ _ hi] at ih;rw[Qa Qpa.eq_1]
  have hnm:i ∉ XH ZY (c.deeds.take i) 0:=fun h=>by
   have:=Jm ZY (c.deeds.take i) 0 i h
   grind
  have hfr:=Qdt i (XH ZY (c.deeds.take i) 0) 0 hnm;by_cases hw:c.deeds[i].frm=2
  ·rw[if_pos (by simp[ZY,hw]),QkB] at ih
   simp[hi,hw] at ih |-;rw[hfr];have hkd:=qw (XH ZY (c.deeds.take i) 0) 0
   grind
  ·simp[hi,ZY,hw] at ih |-
   grind
end Go.Pf
namespace Go.Ev
open Go Go.RowKit
section
variable {P:Program} {K:World->Prop}
theorem UT {f:FuncId} {e:TypeId} {sz bytes:Nat}
  (hcl:∀ (b off n c:Nat) (news:List Value) (w:World),news.length=n*sz->n<=maxLen->n*bytes<=140737488355328->(∀ (j:Nat) (u:Value),news[j]?=some u->w.cell? ⟨b,off+j,none⟩=some u)->(∀ u∈news,u.oneCell'=true) ->
    Calls P f #[.slice (some ⟨b,off,none⟩) n c] w fun x w'=>∃ v',x=.returned v'/\w'.ownsRow w.heap.size e sz v' n news/\v'≠.slice none 0 0/\Below w.heap.size w w')
  (rows:List (List IV)) (hb:rows.length*bytes<=140737488355328) (hsz:∀ c∈rows,c.length=sz) (hne:rows≠[]):VZ P K f [.sl sz rows] (.aref 0 rows.length) e sz rows 0:=by
 intro w ok vs hk hnew hl hvs
 obtain ⟨v0,rfl⟩:∃ v0,vs=[v0]:=by
  match vs,hl with
  | [v],_=>exact ⟨v,rfl⟩
 have hrep:=hvs 0 _ v0 rfl rfl
 have fin:∀ (v':Value) (w':World) (news:List Value),w'.ownsRow w.heap.size e sz v' rows.length news->Below w.heap.size w w'->(∀ u∈news,u.oneCell'=true) ->
   (∀ (i j:Nat) (c:List IV) (x:IV) (u:Value),rows[i]?=some c->c[j]?=some x->news[i*sz+j]?=some u->QY ok w x u) ->
   ∃ v l,Ending.returned v'=.returned v/\QG (fun b=>b<w.heap.size) (okL ok (one (Yj e sz rows 0)) (fun _=>l)) w' (one (Yj e sz rows 0)) (fun _=>l) (Yj e sz rows 0) l /\
    QB (okL ok (one (Yj e sz rows 0)) (fun _=>l)) w' (one (Yj e sz rows 0)) (fun _=>l) (ren 0 (.aref 0 rows.length)) v/\Below w.heap.size w w':=by
  intro v' w' news hown hbel hone hcx;have hsl:=Y9 hown;have hge:∀ b,v'.ownBlock=some b->w.heap.size<=b:=fun b h=>(hown.lt b h).1
  have hown0:w'.ownsRow 0 e sz v' rows.length news:=by
   obtain ⟨h1,h2⟩:=hown;refine ⟨h1,?_⟩
   grind
  refine ⟨v',.arr v' news,rfl,⟨⟨by grind,fun b h1 h2=>by grind⟩,QMX _,fun c hc=>?_,hone,fun i j c x u hi hj hu=>?_⟩,?_,hbel⟩
  ·grind
  ·rw[QLW,QLT] at hi
   obtain ⟨d,hd,rfl⟩:=hi;rw[QLW,QLT] at hj;obtain ⟨y,hy,rfl⟩:=hj;refine .iv _ _ ((hcx i j d y u hd hy hu).mono fun b hb hlt=>⟨⟨hb,fun id o _ hh=>?_⟩,hbel.block b hlt⟩)
   grind
  ·have:=QB.aref (ok:=okL ok (one (Yj e sz rows 0)) (fun _=>.arr v' news)) (w:=w') (lo:=one (Yj e sz rows 0)) (L:=fun _=>.arr v' news) 0 e sz (rows.map (List.map AV.iv)) 0 v' news (by simp[one,Yj]) rfl hsl
   rw[QL6] at this;exact this
 cases hrep with
 | sl _ _ b off cap u hlc hc hs hu hx =>
   refine (hcl b off rows.length cap ((List.range (rows.length*sz)).map u) w (by simp) (by omega) hb (fun j v hj=>?_) (fun v hv=>?_)).mono fun x w' ⟨v',hx',hown,_,hbel⟩=>?_
   all_goals grind
 | _=>grind
end
end Go.Ev
namespace Go.Pf
open Go Go.Ev Go.Proofs Go.RowKit Go.Shelf
set_option maxRecDepth 8000
noncomputable def QFQ:TypeInfo:=(Tryz.prog.info? 162).get (by kernel_rfl)
noncomputable def QtM:TypeInfo:=(Tryz.prog.info? 191).get (by kernel_rfl)
noncomputable def QBb:Value:=QtM.zero.get (by kernel_rfl)
section
variable {K:World->Prop}
theorem clone155 (l:List Qs) (hl:l.length<=1000) (hne:l≠[]):VZ Tryz.prog K 155 [QA l] (.aref 0 l.length) 162 5 (l.map dC) 0:=by
 have h:=UT (P:=Tryz.prog) (K:=K) (f:=155) (e:=162) (sz:=5) (bytes:=40) (AnyE.slices_Clone Tryz.clone155 QFQ (.agg #[.int .i64 0,.int .i64 0,.int .i64 0,.int .i64 0,.int .i64 0]) 5 40 (by kernel_rfl) (by kernel_rfl) (by kernel_rfl) (by kernel_rfl) rfl (by decide) Tryz.sizeOf162) (l.map dC) (by simp;omega) (by simp) (by simpa using hne)
 simpa using h
theorem clone157 (l:List ZC) (hl:l.length<=1000) (hne:l≠[]):VZ Tryz.prog K 157 [Q0 l] (.aref 0 l.length) 191 3 (l.map leC) 0:=by
 have h:=UT (P:=Tryz.prog) (K:=K) (f:=157) (e:=191) (sz:=3) (bytes:=24) (AnyE.slices_Clone Tryz.clone157 QtM QBb 3 24 (by kernel_rfl) (by kernel_rfl) (by kernel_rfl) (by kernel_rfl) (by kernel_rfl) (by decide) Tryz.sizeOf191) (l.map leC) (by simp;omega) (by simp) (by simpa using hne)
 simpa using h
end
end Go.Pf
namespace Go.Pf
open Go Go.Ev Go.Proofs Go.RowKit
variable {K:World->Prop} (hK:∀ w w',K w->Below w.heap.size w w'->K w')
set_option maxRecDepth 8000
def ZD (ds:List Qs) (n:Nat) (i:Nat):Int:=match ds[i]? with
 | some d=>if d.frm=2 then ((n.testBit ((Us ds).idxOf i)).toNat:Int) else d.frm
 | none=>0
theorem Qko (ds:List Qs) (n i:Nat) (h:i<ds.length):ZD ds n i=if ds[i].frm=2 then ((n.testBit ((Us ds).idxOf i)).toNat:Int) else ds[i].frm:=by
 simp[ZD,h]
theorem QoB (ds:List Qs) (i:Nat) (h:i<ds.length) (h2:ds[i].frm=2):i∈Us ds:=by
 have:∀ (l:List Qs) (k i:Nat) (h:i<l.length),l[i].frm=2->k+i∈XH ZY l k:=by
  intro l
  induction l with
  | cons d l ih =>
    intro k i h h2;cases i with
    | zero =>
      have h3:d.frm=2:=h2;simp[XH,ZY,h3]
    | succ i =>
      have:=ih (k+1) i (by simpa using h) (by simpa using h2)
      have e:k+1+i=k+(i+1):=by omega
      rw[e] at this;simp only[XH]
      grind
  | _=>grind
 simpa[Us] using this ds 0 i h h2
include hK
theorem Qwe (c:Qn) (n i:Nat) (hn:n<2 ^ 63) (hi:i<c.deeds.length) (h2:c.deeds[i].frm=2):Ev.Good Tryz.prog K 222 [.int .i64 i,.ptr [.int .i64 n],.ptr (VX c)] (.int .i64 (ZD c.deeds n i)):=by
 refine Qb hK QyG (by simp) ?_
 have hf:=QgI i (Us c.deeds) 0 (QoB c.deeds i hi h2);have hkk:=qw (Us c.deeds) 0;rw[Qko _ _ _ hi,if_pos h2];simp only[QL9] at hf;simp[hkk,hf];exact Qz0 n _ hn
omit hK
def XK (ds:List Qs) (pm:Nat->IV) (n:Nat):List IV:=[.agg (Vo ds (ZD ds n) (pm n))]
theorem Qu3 {n:Nat} (h:n<=12):Qu4 IntKind.i64 1 (n:Int)=((2 ^ n:Nat):Int):=by
 have:n=0\/n=1\/n=2\/n=3\/n=4\/n=5\/n=6\/n=7\/n=8\/n=9\/n=10\/n=11\/n=12:=by omega
 rcases this with rfl | rfl | rfl | rfl | rfl | rfl | rfl | rfl | rfl | rfl | rfl | rfl | rfl<;>decide
include hK
theorem Qnq (c:Qn) (pm:Nat->IV) (ht:ZB c.deeds<=12) (h201:∀ n:Nat,n<2 ^ ZB c.deeds->Ev.Good Tryz.prog K 221 [QA c.deeds,.clo 222 [] [.ptr [.int .i64 n],.ptr (VX c)]] (.agg (Vo c.deeds (ZD c.deeds n) (pm n)))) :
  Qal Tryz.prog K 138 [.agg (VX c)] [] ((List.range (2 ^ ZB c.deeds)).map (XK c.deeds pm)):=by
 intro s b s' hf;have hp:=Wl ht;refine QO Qzq (by simp) hf.v rfl ?_
 have hlen:(Qcb (Us c.deeds) 0).length=ZB c.deeds:=by rw[QkA,Qdo]
 simp[Qdo,Qu3 ht];have hN:0<2 ^ ZB c.deeds:=Nat.pos_of_ne_zero (by simp)
 have hcast:((2:Int) ^ ZB c.deeds)=((2 ^ ZB c.deeds:Nat):Int):=by push_cast;rfl
 rw[hcast];generalize 2 ^ ZB c.deeds=N at *
 refine Yr N (fun i e o=>∃ si,e=[(1,AV.cb 0),(2,AV.iv (.ptr (VX c))),(8,AV.iv (.int .i64 (N:Nat))),(9,AV.iv (.int .i64 (i:Nat)))]/\o=[(0,.ext si)] /\
  ZT Tryz.prog K (((List.range N).drop i).map (XK c.deeds pm)) si b s') ?_ ?_ _ _ ⟨s,rfl,rfl,by simpa using hf⟩
 ·rintro e o ⟨si,rfl,rfl,hfd⟩
  rw[QMA (by simp)] at hfd
  cases hfd;rw[Qa QiK.eq_1];simp
 ·rintro i e o hi ⟨si,rfl,rfl,hfd⟩ ih
  rw[QMq (by simpa using hi)] at hfd
  simp only[List.getElem_range,QMb] at hfd;have hg:=h201 i hi;rw[Qa QiK.eq_1];simp[hi];refine QgQ _ _ _ _ _ _ _ _ ?_;simp;refine cK (by simpa using hg) ?_
  have hst:XK c.deeds pm i=[.agg (Vo c.deeds (ZD c.deeds i) (pm i))]:=rfl;rw[hst] at hfd;simp;cases hfd with
  | stop _ _ _ _ hg =>
    refine Za (by simpa using hg) rfl ?_
    simp
  | next _ _ _ s1 _ _ hg hr =>
    refine Za (by simpa using hg) rfl ?_
    simp
    (repeat' first | omega | (with_reducible apply And.intro) | intro _)
    exact ih _ _ ⟨s1,by simp,rfl,hr⟩
omit hK
section
variable {K:World->Prop}
def QX (c:Qn):List Nat:=(List.range (2 ^ ZB c.deeds)).filter fun n=>decide ((QZ c.deeds c.sights (ZD c.deeds n):Int)<=c.wrong)
theorem Qbc (hK:∀ w w',K w->Below w.heap.size w w'->K w') {c:Qn} (hc:OkC c) {pm:Nat->IV} {ks:Env} (hks:ZH [2,3] [0,3] ks=[(2,.iv (.ptr (VX c))),(3,.loc 3 0)]) :
  ∀ (Ls:List Nat) (s:Ext) (b:Bool) (s':Ext),ZT Tryz.prog K ((Ls.filter fun n=>decide ((QZ c.deeds c.sights (ZD c.deeds n):Int)<=c.wrong)).map (XK c.deeds pm)) s b s' ->
   ∃ wy,(wy=.fall\/wy=.ret)/\UC Tryz.prog K [7] WU Qb8 [2,3] [0,3] (ZH [2,3] [0,3] ks) (Ls.map (XK c.deeds pm)) [(0,.ext s),(3,.box [.cb 0])] wy [(0,.ext s'),(3,.box [.cb 0])]
 | [],s,b,s',h=>by
   cases h;exact ⟨.fall,.inl rfl,.nil _⟩
 | t::Ls,s,b,s',h=>by
   have hl:=hc.len;have hsl:=hc.slen;have hw:=QnZ hK c.deeds (ZD c.deeds t) (pm t) c.sights hc.deeds (by omega) hc.sights (by omega)
   by_cases ht:(QZ c.deeds c.sights (ZD c.deeds t):Int)<=c.wrong
   ·rw[QM6 (by simpa using ht)] at h
    cases h with
    | stop _ _ _ _ hg =>
      refine ⟨.ret,.inr rfl,.stop _ _ _ _ _ (by simp) ?_⟩
      rw[hks];refine ⟨rfl,?_⟩;simp[XK,WU,Qb8];refine cK (by simpa using hw) ?_
      simp[ht];refine Za (by simpa[XK] using hg) rfl ?_
      simp
    | next _ _ _ s1 _ _ hg hr =>
      obtain ⟨wy,h1,h2⟩:=Qbc hK hc hks Ls s1 b s' hr;refine ⟨wy,h1,.next _ _ _ _ _ _ ?_ h2⟩;rw[hks];refine ⟨rfl,?_⟩;simp[XK,WU,Qb8];refine cK (by simpa using hw) ?_
      simp[ht];refine Za (by simpa[XK] using hg) rfl ?_
      simp
   ·rw[QM7 (by simpa using ht)] at h
    obtain ⟨wy,h1,h2⟩:=Qbc hK hc hks Ls s b s' h;refine ⟨wy,h1,.next _ _ _ _ _ _ ?_ h2⟩;rw[hks];refine ⟨rfl,?_⟩;simp[XK,WU,Qb8];refine cK (by simpa using hw) ?_
    simp[ht]
end
def QgR (K:World->Prop) (c:Qn) (pm:Nat->IV):Prop:=∀ n:Nat,n<2 ^ ZB c.deeds->Ev.Good Tryz.prog K 221 [QA c.deeds,.clo 222 [] [.ptr [.int .i64 n],.ptr (VX c)]] (.agg (Vo c.deeds (ZD c.deeds n) (pm n)))
theorem W9 (ds:List Qs):ZB ds<=ds.length:=QMC
include hK
theorem qn (c:Qn) (hc:OkC c) (pm:Nat->IV) (ht:QgR K c pm):Qal Tryz.prog K 145 [.agg (VX c)] [] ((QX c).map (XK c.deeds pm)):=by
 intro s b s' hfd;have h12:=hc.len;have htw:=W9 c.deeds;refine QO Qzk (by simp) hfd.v rfl ?_
 obtain ⟨wy,h1,h2⟩:=Qbc (pm:=pm) hK hc (ks:=[(2,.iv (.ptr (VX c))),(3,.loc 3 0)]) rfl (List.range (2 ^ ZB c.deeds)) s b s' hfd;simp;refine Zc (wy:=wy) (o':=[(0,.ext s'),(3,.box [.cb 0])]) rfl (by kernel_rfl) (Qnq hK c pm (by omega) ht) (by simpa using h2) ?_
 rcases h1 with rfl | rfl<;>simp
noncomputable def Yo (c:Qn) (is:Bool):Int:=if OkC c then (if is=true then (if QX c=[] then 3 else 0) else 1) else 20
theorem QwC (c:Qn) (pm:Nat->IV) (ht:OkC c->QgR K c pm) (g:FuncId) (fs cs:List IV) (is:Bool) (hg:OkC c->Ev.Good Tryz.prog K g (fs++[.int .i64 (Xw c.deeds),.int .i64 (Ql1 c.deeds)]++cs) (.bool is)) (hcg:callee Tryz.prog g=true) (hl:c.deeds.length<=1000) (hs:c.sights.length<=1000) :
  Ev.Good Tryz.prog K 144 [chV c,.clo g fs cs] (.tup [if OkC c/\is=true then .agg (VX c) else .agg [.sl 5 [],.sl 5 [],.int .i64 0,.map []],.int .i64 (Yo c is)]):=by
 refine Qb hK QpN (by simp) ?_
 simp;refine cK (Qge hK c hl hs) ?_;by_cases h1:OkC c
 ·simp[h1]
  refine cK (QhX hK c hl) ?_;simp;refine ⟨hcg,cK (by simpa using hg h1) ?_⟩
  cases is
  ·simp[Yo,h1]
  ·simp
   refine cK (by simpa using QnI hK c hl) ?_
   simp;cases hR:QX c with
   | nil =>
     refine Zc (wy:=.fall) (o':=[(4,.box [.iv (.sl 5 []),.iv (.sl 5 []),.iv (.int .i64 0),.iv (.map [])]),(5,.box [.iv (.int .i64 0)]),(7,.box [.iv (QA c.deeds),.iv (Qz c.sights),.iv (.int .i64 c.wrong),.iv (.map (Qcb (Us c.deeds) 0))])]) rfl (by kernel_rfl) (qn hK c h1 pm (ht h1)) (by rw[hR];simpa using UC.nil _) ?_
     simp[Yo,h1,hR]
   | cons a r =>
     refine Zc (wy:=.ret) (o':=[(4,.box [.iv (QA c.deeds),.iv (Qz c.sights),.iv (.int .i64 c.wrong),.iv (.map (Qcb (Us c.deeds) 0))]),(5,.box [.iv (.int .i64 0)]),(7,.box [.iv (QA c.deeds),.iv (Qz c.sights),.iv (.int .i64 c.wrong),.iv (.map (Qcb (Us c.deeds) 0))])]) rfl (by kernel_rfl) (qn hK c h1 pm (ht h1)) (by
      rw[hR];refine .stop _ _ _ _ _ (by simp) ?_
      refine ⟨rfl,?_⟩;simp[XK,QeJ,QiH]) ?_
     simp[Yo,h1,hR]
 ·simp[h1,Yo]
theorem QrD (c:Qn) (pm:Nat->IV) (ht:OkC c->QgR K c pm) (g:FuncId) (is:Bool) (hg:OkC c->Ev.Good Tryz.prog K g [.int .i64 (Xw c.deeds),.int .i64 (Ql1 c.deeds)] (.bool is)) (hcg:callee Tryz.prog g=true) (hl:c.deeds.length<=1000) (hs:c.sights.length<=1000) :
  Ev.Good Tryz.prog K 144 [chV c,.fn g] (.tup [if OkC c/\is=true then .agg (VX c) else .agg [.sl 5 [],.sl 5 [],.int .i64 0,.map []],.int .i64 (Yo c is)]):=by
 refine Qb hK QpN (by simp) ?_
 simp;refine cK (Qge hK c hl hs) ?_;by_cases h1:OkC c
 ·simp[h1]
  refine cK (QhX hK c hl) ?_;simp;refine ⟨hcg,cK (by simpa using hg h1) ?_⟩
  cases is
  ·simp[Yo,h1]
  ·simp
   refine cK (by simpa using QnI hK c hl) ?_
   simp;cases hR:QX c with
   | nil =>
     refine Zc (wy:=.fall) (o':=[(4,.box [.iv (.sl 5 []),.iv (.sl 5 []),.iv (.int .i64 0),.iv (.map [])]),(5,.box [.iv (.int .i64 0)]),(7,.box [.iv (QA c.deeds),.iv (Qz c.sights),.iv (.int .i64 c.wrong),.iv (.map (Qcb (Us c.deeds) 0))])]) rfl (by kernel_rfl) (qn hK c h1 pm (ht h1)) (by rw[hR];simpa using UC.nil _) ?_
     simp[Yo,h1,hR]
   | cons a r =>
     refine Zc (wy:=.ret) (o':=[(4,.box [.iv (QA c.deeds),.iv (Qz c.sights),.iv (.int .i64 c.wrong),.iv (.map (Qcb (Us c.deeds) 0))]),(5,.box [.iv (.int .i64 0)]),(7,.box [.iv (QA c.deeds),.iv (Qz c.sights),.iv (.int .i64 c.wrong),.iv (.map (Qcb (Us c.deeds) 0))])]) rfl (by kernel_rfl) (qn hK c h1 pm (ht h1)) (by
      rw[hR];refine .stop _ _ _ _ _ (by simp) ?_
      refine ⟨rfl,?_⟩;simp[XK,QeJ,QiH]) ?_
     simp[Yo,h1,hR]
 ·simp[h1,Yo]
theorem Qwo (c:Qn) (pm:Nat->IV) (ht:OkC c->QgR K c pm) (hl:c.deeds.length<=1000) (hs:c.sights.length<=1000):Ev.Good Tryz.prog K 210 [chV c] (.tup [.int .i64 (if Yo c true=0 then (QX c).length else 0),.int .i64 (Yo c true)]):=by
 refine Qb hK QyS (by simp) ?_
 simp;refine cK (QrD hK c pm ht 249 true (fun _=>Qv3 hK _ _) (by kernel_rfl) hl hs) ?_
 by_cases he:Yo c true=0
 ·have h1:OkC c:=by
   unfold Yo at he
   grind
  have hlen:(QX c).length<=4096:=by
   have h1':=QMg (fun n=>decide ((QZ c.deeds c.sights (ZD c.deeds n):Int)<=c.wrong)) (List.range (2 ^ ZB c.deeds))
   have h2':=Wl (n:=ZB c.deeds) (by have:=W9 c.deeds;have:=h1.len;omega)
   simp at h1';unfold QX;omega
  simp[he,h1];refine Zc (wy:=.fall) (o':=[(6,.box [.iv (.int .i64 ((QX c).length:Nat))])]) rfl (by kernel_rfl) (qn hK c h1 pm (ht h1)) ?_ ?_
  ·have:=UC.all (P:=Tryz.prog) (K:=K) (ps:=[17]) (asn:=QeG) (body:=QiB) (ks:=[6]) (ids:=[6]) (eK:=[(6,.loc 6 0)]) ((QX c).map (XK c.deeds pm)) (fun i=>[(6,.box [.iv (.int .i64 (i:Int))])]) fun i x hi=>by
    simp only[QLW,QLT] at hi;obtain ⟨y,hy,rfl⟩:=hi;have hlt:=(QLO.1 hy).1;refine ⟨rfl,?_⟩;simp[XK,QeG,QiB];omega
   simpa using this
  ·simp
 ·by_cases h1:OkC c<;>simp[he,h1]
theorem QnS (d:Qs):Ev.Good Tryz.prog K 209 [.agg (dC d)] (.bool (ZY d)):=by
 refine Qb hK QyT (by simp) ?_
 simp[ZY]
omit hK
def XP (m:Machine) (n:Int):Machine:={ m with llo:=n,lhi:=n }
noncomputable def qN (m:Machine) (k:Nat):List Machine:=if tE (XP m (m.llo+k)) true=0 then [XP m (m.llo+k)] else []
def Qf7 (m:Machine):List IV:=[maV m]
include hK
theorem Qf5 (m:Machine) (hl:m.levers.length<=1000) (hb:m.bals.length<=1000) (hr:inR m.llo 0 m.lhi) (hr2:m.lhi<=20) (hs:∀ n,OkM (XP m n)->sets (XP m n) m.levers.length<=1000000) :
  Qak Tryz.prog K 128 [maV m,.int .i64 m.levers.length] [] ((acc (qN m) (m.lhi+1-m.llo).toNat).map Qf7) (fun b=>.bool b):=by
 intro s b s' hf;refine QO QpP (by simp) hf.v rfl ?_
 rw[QaN] at hf;simp only[inR] at hr;simp;intro _
 refine Yr (m.lhi+1-m.llo).toNat (fun i e o=>∃ si x y,e=[(2,AV.cb 0),(3,AV.iv (.ptr [Q0 m.levers,.int .i64 m.water,.int .i64 m.llo,.int .i64 m.lhi,XS m.bals,.int .i64 m.wrong])),(7,AV.loc 7 0),(8,AV.iv (.int .i64 (m.llo+(i:Nat))))] /\
  o=[(0,.ext si),(7,.box [.iv (Q0 m.levers),.iv (.int .i64 m.water),.iv (.int .i64 x),.iv (.int .i64 y),.iv (XS m.bals),.iv (.int .i64 m.wrong)])] /\
  ZT Tryz.prog K ((XU (qN m) i ((m.lhi+1-m.llo).toNat-i)).map Qf7) si b s') ?_ ?_ _ _ ⟨s,m.llo,m.lhi,by simp,by simp,by simpa using hf⟩
 ·rintro e o ⟨si,x,y,rfl,rfl,hfd⟩
  have q1:m.llo+((m.lhi+1-m.llo).toNat:Int)=m.lhi+1:=by omega
  have q2:¬ m.lhi+1<=m.lhi:=by omega
  rw[Nat.sub_self] at hfd;cases hfd;rw[q1,Qa QiN.eq_1];simp[q2]
 ·rintro i e o hi ⟨si,x,y,rfl,rfl,hfd⟩ ih
  have q1:m.llo+(i:Int)<=m.lhi:=by omega
  have q3:m.llo+((i:Int)+1)=m.llo+i+1:=by omega
  have e1:(m.lhi+1-m.llo).toNat-i=((m.lhi+1-m.llo).toNat-(i+1))+1:=by omega
  rw[e1] at hfd;simp only[XU,QL8] at hfd;have hg:=Qwm hK (XP m (m.llo+i)) hl hb (hs _);rw[Qa QiN.eq_1];simp[q1];refine Jf (by simpa[XP] using hg) (.inr rfl) ?_
  by_cases he:tE (XP m (m.llo+i)) true=0
  ·have hp:qN m i=[XP m (m.llo+i)]:=by simp[qN,he]
   rw[hp] at hfd;simp only[QMb,List.map_nil,List.singleton_append] at hfd;have he':=he;simp only[XP] at he';simp[he'];cases hfd with
   | stop _ _ _ _ hg =>
     refine Za (by simpa[Qf7,XP] using hg) rfl ?_
     simp
   | next _ _ _ s1 _ _ hg hr2 =>
     refine Za (by simpa[Qf7,XP] using hg) rfl ?_
     simp
     (repeat' first | omega | (with_reducible apply And.intro) | intro _)
     exact ih _ _ ⟨s1,m.llo+i,m.llo+i,by simp[q3],by simp,hr2⟩
  ·have hp:qN m i=[]:=by simp[qN,he]
   rw[hp] at hfd;simp only[List.map_nil,QL4] at hfd;have he':=he;simp only[XP] at he';simp[he']
   (repeat' first | omega | (with_reducible apply And.intro) | intro _)
   exact ih _ _ ⟨si,m.llo+i,m.llo+i,by simp[q3],by simp,hfd⟩
end Go.Pf
namespace Go.Ev
open Go Go.RowKit Go.Sort
section
variable {P:Program} {K:World->Prop}
@[reducible] def Xl (zs:List Int) (mv:Nat):AO:=.arr 3 1 (zs.map fun z=>[AV.iv (.int .i64 z)]) mv
@[reducible] def Qqn (zs:List Int):IV:=.sl 1 (zs.map fun z=>[IV.int .i64 z])
theorem QhA {w:World} {g:Nat} {f:Array Value->Array Value} {c:Array Value} {e:TypeId} {fr:Nat × Nat} (h:w.heap[g]?=some (.cells c e fr)):(mapBlock w g f).heap[g]?=some (.cells (f c) e fr):=by
 simp only[mapBlock,Array.getElem?_modify,if_true,h,QNi,onCells]
theorem Qhz {w:World} {g k:Nat} {f:Array Value->Array Value} (h:k≠g):(mapBlock w g f).heap[k]?=w.heap[k]?:=by
 simp only[mapBlock,Array.getElem?_modify,if_neg (Ne.symm h)]
theorem Qed {w:World} {g:Nat} {f:Array Value->Array Value}:(mapBlock w g f).heap.size=w.heap.size:=by
 simp only[mapBlock,Array.size_modify]
theorem J5 {Fr:Nat->Prop} {w:World} {g:Nat} {f:Array Value->Array Value} (h:¬ Fr g):Zx Fr w (mapBlock w g f) :=
 ⟨rfl,rfl,rfl,by rw[Qed];omega,fun k hk=>Qhz fun e=>h (e▸hk)⟩
theorem Z9 {Fr:Nat->Prop} {g:Nat} (h:¬ Fr g):∀ (vs:List Value) (o:Nat) (w:World),Zx Fr w (w.setCells g o vs)
 | [],_,w=>Zx.refl _ _
 | v::r,o,w=>by
   rw[World.setCells];have h1:Zx Fr w (w.setCell ⟨g,o,none⟩ v):=by rw[setCell_eq];exact J5 h
   have h2:=Z9 h r (o+1) (w.setCell ⟨g,o,none⟩ v);exact ⟨h2.os.trans h1.os,h2.tape.trans h1.tape,h2.output.trans h1.output,QMe h1.size h2.size,fun k hk=>(h2.block k hk).trans (h1.block k hk)⟩
theorem Qdv (w:World) (o:Obj):Zx (fun b=>b<w.heap.size) w (w.alloc o) :=
 ⟨rfl,rfl,rfl,by show _<=(w.heap.push o).size;grind,fun k hk=>by
  show (w.heap.push o)[k]?=_
  grind⟩
structure QcB (w:World) (v:Value) (zs:List Int) (g cap:Nat) (cur:Array Value):Prop where
 v:v=.slice (some ⟨g,0,none⟩) zs.length cap
 at_:w.heap[g]?=some (.cells cur 3 (0,0))
 le:zs.length<=cap
 max:cap<=maxLen
 size:cur.size=cap
 take:cur.toList.take zs.length=zs.map (.int .i64)
theorem QcB.cell {w:World} {v:Value} {zs:List Int} {g cap:Nat} {cur:Array Value} (h:QcB w v zs g cap cur) (j:Nat):w.cell? ⟨g,j,none⟩=cur[j]?:=by
 simp[World.cell?,h.at_]
theorem QcB.frozen {w:World} {v:Value} {zs:List Int} {g cap:Nat} {cur:Array Value} (h:QcB w v zs g cap cur) (j:Nat):w.frozen? ⟨g,j,none⟩=false:=by
 simp[World.frozen?,h.at_]
theorem QcB.get {w:World} {v:Value} {zs:List Int} {g cap:Nat} {cur:Array Value} (h:QcB w v zs g cap cur) (j:Nat) (hj:j<zs.length):cur[j]?=some (.int .i64 zs[j]):=by
 have h1:(cur.toList.take zs.length)[j]?=some (.int .i64 zs[j]):=by rw[h.take];simp[hj]
 grind
theorem QcB.holds {w:World} {v:Value} {zs:List Int} {g cap:Nat} {cur:Array Value} (h:QcB w v zs g cap cur):Holds (Value.int .i64) w g 0 zs.toArray:=by
 intro j hj;have hj':j<zs.length:=by simpa using hj
 refine ⟨?_,by rw[QL9];exact h.frozen j⟩
 rw[QL9,h.cell,h.get j hj',getElem!_pos _ j hj];simp
theorem QjB {Fr ok:Nat->Prop} {w:World} {lo:Nat->Option AO} {L:Nat->Lay} {zs:List Int} {mv:Nat} {l:Lay} (h:QG Fr ok w lo L (Xl zs mv) l) :
  ∃ v xs,l=.arr v xs/\((v=.slice none 0 0/\zs=[])\/∃ g cap cur,QcB w v zs g cap cur/\¬ Fr g):=by
 cases l with
 | arr v xs =>
   obtain ⟨⟨⟨h1,h2⟩,h3⟩,h4,h5,h6,h7⟩:=h;refine ⟨v,xs,rfl,?_⟩;simp only[QL6] at h1 h2;rcases h2 with ⟨h2,h8⟩ | ⟨g,cap,cur,h8,h9,h10,h11,h12,h13,h14⟩
   ·grind
   ·refine .inr ⟨g,cap,cur,⟨h8,h10,h11,h12,by omega,?_⟩,h3 g (by simp[h8,Value.ownBlock])⟩
    rw[QNr] at h14;rw[h14];refine List.ext_getElem? fun i=>?_
    by_cases hi:i<zs.length
    ·have hx:i<xs.length:=by omega
     rw[QLN hx];have:=h7 i 0 [AV.iv (.int .i64 zs[i])] (.iv (.int .i64 zs[i])) xs[i] (by simp[hi]) (by simp) (by simp[hx])
     cases this with
     | iv _ _ r => 
       generalize hz:xs[i]=z at r;cases r;simp[hi,hz]
    grind
 | _=>exact absurd h (by simp[QG])
theorem QkF {ok:Nat->Prop} {w:World} {lo:Nat->Option AO} {L:Nat->Lay} {zs:List Int} {mv id n:Nat} {v u:Value} {xs:List Value} (hid:lo id=some (Xl zs mv)) (hL:L id=.arr v xs) (hn:n=zs.length) (h:QB ok w lo L (.aref id n) u):u=v:=by
 grind
theorem Wg {ok:Nat->Prop} {w:World} (zs:List Int) (b cap:Nat) (hcap:zs.length<=cap) (hmax:cap<=maxLen) (hb:ok b) (hc:∀ j z,zs[j]?=some z->w.cell? ⟨b,j,none⟩=some (.int .i64 z)) :
  QY ok w (Qqn zs) (.slice (some ⟨b,0,none⟩) zs.length cap):=by
 have h:=QY.sl (ok:=ok) (w:=w) 1 (zs.map fun z=>[IV.int .i64 z]) b 0 cap (fun k=>.int .i64 (zs.getD k 0)) (by simpa using hcap) hmax (by simp) (fun k hk=>?_) (fun i j c x hi hj=>?_)
 ·simpa using h
 ·simp only[QL6,QNr] at hk
  refine ⟨hb,?_,rfl⟩
  grind
 ·rw[QLW,QLT] at hi
  obtain ⟨z,hz,rfl⟩:=hi;cases j with
  | zero =>
    simp at hj;subst hj;rw[QNr,QMV,List.getD_eq_getElem?_getD,hz];exact .int _ _
  | succ j=>simp at hj
theorem QbF {Fr ok:Nat->Prop} {w:World} {L:Nat->Lay}:Qmb Fr ok w (Qc []) L:=⟨by simp[Qc],by simp[Qc]⟩
theorem Qd0 {f:FuncId}
  (he:∀ (a:Option Addr) (cap:Nat) (w:World),Calls P f #[.slice a 0 cap] w fun e w'=>e=.returned (.tuple #[])/\w'=w)
  (hr:∀ (blk off cap:Nat) (zs:List Int) (w:World),Holds (Value.int .i64) w blk off zs.toArray->zs.length<=9223372036854775807 ->
    Calls P f #[.slice (some ⟨blk,off,none⟩) zs.length cap] w fun e w'=>e=.returned (.tuple #[])/\∃ n,w'=putRow (Value.int .i64) (Sort.ahead w n) blk off zs.reverse.toArray)
  (zs:List Int) (mv:Nat):QQ P K f [.aref 0 zs.length] [(0,Xl zs mv)] [0] (.iv (.tup [])) [(0,Xl zs.reverse zs.length)]:=by
 intro w ok L vs hK hnew hown hlaid hvl hvs
 obtain ⟨v0,rfl⟩:∃ v0,vs=[v0]:=by
  match vs,hvl with
  | [v],_=>exact ⟨v,rfl⟩
 have hob:=hlaid.objs 0 (Xl zs mv) rfl;obtain ⟨v,xs,hL,hrow⟩:=QjB hob;have hv:v0=v:=QkF (id:=0) (zs:=zs) (mv:=mv) rfl hL rfl (hvs 0 _ v0 rfl rfl);subst hv
 have fin:∀ (w':World) (xs':List Value),Zx (FrO w (Qc [(0,Xl zs mv)]) L) w w'->YL (FrO w (Qc [(0,Xl zs mv)]) L) w' 3 1 v0 zs.length xs'->xs'=zs.reverse.map (.int .i64) ->
   ∃ v1 L',(Ending.returned (.tuple #[]):Ending)=.returned v1/\Qmb (FrO w (Qc [(0,Xl zs mv)]) L) ok w' (Qc [(0,Xl zs.reverse zs.length)]) L'/\QB (okL ok (Qc [(0,Xl zs.reverse zs.length)]) L') w' (Qc [(0,Xl zs.reverse zs.length)]) L' (.iv (.tup [])) v1/\Zx (FrO w (Qc [(0,Xl zs mv)]) L) w w' /\
    ∀ i∈[0],∀ o,Qc [(0,Xl zs mv)] i=some o->∃ o',Qc [(0,Xl zs.reverse zs.length)] i=some o'/\Vl o o' (L i) (L' i):=by
  intro w' xs' hk ho hx;refine ⟨.tuple #[],fun _=>.arr v0 xs',rfl,⟨fun id o hid=>?_,fun i j oi oj b hij hi hj=>?_⟩,.iv _ _ (.tup [] [] rfl (by simp)),hk,fun i hi o h=>?_⟩
  ·simp only[Qc] at hid
   split at hid
   ·injection hid with hid
    subst hid;refine ⟨by simpa using ho,by simp,by simp,fun u hu=>?_,fun i j c x u hi hj hu=>?_⟩
    ·rw[hx] at hu
     obtain ⟨z,_,rfl⟩:=QL5.1 hu;rfl
    ·rw[QLW,QLT] at hi
     obtain ⟨z,hz,rfl⟩:=hi;cases j with
     | zero =>
       simp at hj;subst hj;rw[hx,QNr,QMV,QLW,hz] at hu;simp at hu;subst hu;exact .iv _ _ (.int _ _)
     | succ j=>simp at hj
   ·cases hid
  ·simp only[Qc] at hi hj
   grind
  ·simp at hi
   subst hi;simp only[Qc,if_true] at h;injection h with h
   subst h;refine ⟨Xl zs.reverse zs.length,by simp[Qc],?_⟩
   rw[hL];simp[Vl]
 rcases hrow with ⟨rfl,rfl⟩ | ⟨g,cap,cur,hr1,hfr⟩
 ·refine (he none 0 w).mono fun e w' ⟨h1,h2⟩=>?_
  subst h1 h2;exact fin w' [] (Zx.refl _ _) ⟨⟨by simp,.inl ⟨rfl,rfl⟩⟩,by simp[Value.ownBlock]⟩ (by simp)
 ·have hv:=hr1.v
  subst hv;refine (hr g 0 cap zs w hr1.holds (by have:=hr1.max;have:=hr1.le;unfold maxLen at *;omega)).mono fun e w' ⟨h1,n,h2⟩=>?_
  subst h1
  have hk:Zx (FrO w (Qc [(0,Xl zs mv)]) L) w w':=by
   have h3:Zx (FrO w (Qc [(0,Xl zs mv)]) L) (Sort.ahead w n) w':=by rw[h2];exact J5 hfr
   exact ⟨h3.os,h3.tape,h3.output,h3.size,h3.block⟩
  have hh:w'.heap[g]?=some (.cells (putCells (Value.int .i64) 0 zs.reverse.toArray cur) 3 (0,0)):=by
   rw[h2];exact QhA (w:=Sort.ahead w n) hr1.at_
  refine fin w' _ hk ⟨⟨?_,.inr ⟨g,cap,_,rfl,QMX _,hh,hr1.le,hr1.max,?_,rfl⟩⟩,fun b hb=>?_⟩ ?_
  ·simp[putCells,hr1.size,hr1.le]
  ·simp[putCells,hr1.size]
  ·simp[Value.ownBlock] at hb
   grind
  ·refine List.ext_getElem? fun i=>?_
   rw[QMw];by_cases hi:i<zs.length
   ·have h1:=hr1.size
    have h2:=hr1.le;have h3:i<cur.size:=by omega
    rw[QNr,if_pos hi];simp only[putCells,Array.getElem?_toList,Array.getElem?_mapIdx,QMu h3,QNi,QLW]
    grind
   grind
theorem QgA {f:FuncId} 
  (hd:∀ (blk off cap i j:Nat) (d:Array Int) (w:World),Holds (Value.int .i64) w blk off d->d.size<=cap->cap<=9223372036854775807->i<=j->j<=d.size ->
    Calls P f #[.slice (some ⟨blk,off,none⟩) d.size cap,.int .i64 i,.int .i64 j] w fun e w'=>e=.returned (.slice (some ⟨blk,off,none⟩) (d.size-(j-i)) cap)/\∃ q,w'=putRow (Value.int .i64) (Sort.ahead w q) blk off (d.toList.take i++d.toList.drop j++List.replicate (j-i) 0).toArray)
  (zs:List Int) (mv:Nat) (i:Nat) (hi:i<zs.length):QQ P K f [.aref 0 zs.length,.iv (.int .i64 (i:Nat)),.iv (.int .i64 ((i+1:Nat):Int))] [(0,Xl zs mv)] [] (.iv (Qqn (zs.eraseIdx i))) []:=by
 intro w ok L vs hK hnew hown hlaid hvl hvs
 obtain ⟨v0,v1,v2,rfl⟩:∃ v0 v1 v2,vs=[v0,v1,v2]:=by
  match vs,hvl with
  | [v,u,z],_=>grind
 have hob:=hlaid.objs 0 (Xl zs mv) rfl;obtain ⟨v,xs,hL,hrow⟩:=QjB hob;have hv:v0=v:=QkF (id:=0) (zs:=zs) (mv:=mv) rfl hL rfl (hvs 0 _ v0 rfl rfl);subst hv
 have e1:v1=.int .i64 (i:Nat):=by
  have:=hvs 1 _ v1 rfl rfl;cases this with
  | iv _ _ r=>cases r;rfl
 have e2:v2=.int .i64 ((i+1:Nat):Int):=by
  have:=hvs 2 _ v2 rfl rfl;cases this with
  | iv _ _ r=>cases r;rfl
 subst e1 e2;rcases hrow with ⟨rfl,rfl⟩ | ⟨g,cap,cur,hr1,hfr⟩
 ·simp at hi
 ·have hv:=hr1.v
  subst hv;have hm:=hr1.max;have hle:=hr1.le;have:=hd g 0 cap i (i+1) zs.toArray w hr1.holds (by simpa using hle) (by unfold maxLen at *;omega) (by omega) (by simp;omega)
  have es:zs.toArray.size=zs.length:=by simp
  rw[es] at this;refine this.mono fun e w' ⟨h1,q,h2⟩=>?_
  have hgo:ok g:=hown g ⟨0,Xl zs mv,rfl,by rw[hL];simp[Lay.has,Value.ownBlock]⟩
  have hk:Zx (FrO w (Qc [(0,Xl zs mv)]) L) w w':=by
   have h3:Zx (FrO w (Qc [(0,Xl zs mv)]) L) (Sort.ahead w q) w':=by rw[h2];exact J5 hfr
   exact ⟨h3.os,h3.tape,h3.output,h3.size,h3.block⟩
  have hnew:Holds (Value.int .i64) w' g 0 (zs.take i++zs.drop (i+1)++List.replicate (i+1-i) 0).toArray:=by
   have h3:=holds_putRow (Value.int .i64) (Sort.ahead w q) g 0 zs.toArray (zs.take i++zs.drop (i+1)++List.replicate (i+1-i) 0).toArray (holds_ahead _ w q g 0 _ hr1.holds) (by simp;omega)
   grind
  have hlen:(zs.eraseIdx i).length=zs.length-(i+1-i):=by grind
  subst h1;refine ⟨_,fun _=>.one 0,rfl,QbF,.iv _ _ ?_,hk,by simp⟩
  rw[<- hlen];refine Wg _ _ _ (by omega) hm ⟨hgo,by simp[Qc]⟩ fun j z hj=>?_
  rw[List.eraseIdx_eq_take_drop_succ] at hj;have hjl:=(QLO.1 hj).1;have h3:=(hnew j (by grind)).1
  grind
theorem Qga {f:FuncId}
  (hshift:∀ (b n c i vb vc:Nat) (cs:List Value) (x:Value) (w:World),i<n->n+1<=c->c<=9223372036854775807->vb≠b->cs.length=n ->
    (∀ j v,cs[j]?=some v->w.cell? ⟨b,0+j,none⟩=some v)->(∀ j,j<n+1->(w.cell? ⟨b,0+j,none⟩).isSome=true)->(∀ j,j<n+1->w.frozen? ⟨b,0+j,none⟩=false) ->
    (∀ j v,[x][j]?=some v->w.cell? ⟨vb,0+j,none⟩=some v)->(∀ v∈cs,v.oneCell'=true)->(∀ v∈[x],v.oneCell'=true) ->
    ∀ (tA tB:TypeId) (kA kB:Nat),w.shape? vb=some (tA,kA)->w.shape? b=some (tB,kB)->kB≠0->w.frozen? ⟨vb,0,none⟩=false->w.frozen? ⟨vb,kA,none⟩=false ->
    Calls P f #[.slice (some ⟨b,0,none⟩) n c,.int .i64 i,.slice (some ⟨vb,0,none⟩) 1 vc] w fun e w' =>
     e=.returned (.slice (some ⟨b,0,none⟩) (n+1) c)/\w'=(w.drew.setCells b (0+(i+1)) (cs.drop i)).setCells b (0+i) [x])
  (hroom:∀ (b n c vb vc:Nat) (x:Value) (w:World),n+1<=c->c<=9223372036854775807->(∀ j,j<1->(w.cell? ⟨b,0+n+j,none⟩).isSome=true)->(∀ j,j<1->w.frozen? ⟨b,0+n+j,none⟩=false) ->
    (∀ j v,[x][j]?=some v->w.cell? ⟨vb,0+j,none⟩=some v)->(∀ v∈[x],v.oneCell'=true) ->
    Calls P f #[.slice (some ⟨b,0,none⟩) n c,.int .i64 n,.slice (some ⟨vb,0,none⟩) 1 vc] w fun e w' =>
     e=.returned (.slice (some ⟨b,0,none⟩) (n+1) c)/\w'=w.setCells b (0+n) [x])
  (hend:∀ (base:Option Addr) (n c vb vc:Nat) (cs:List Value) (x:Value) (w:World),n<=c->c<n+1->(n+1)*8<=140737488355328->cs.length=n->(base=none->n=0) ->
    (∀ a,base=some a->∀ j v,cs[j]?=some v->w.cell? (a.add j)=some v)->(∀ j v,[x][j]?=some v->w.cell? ⟨vb,0+j,none⟩=some v)->(∀ v∈[x],v.oneCell'=true) ->
    Calls P f #[.slice base n c,.int .i64 n,.slice (some ⟨vb,0,none⟩) 1 vc] w fun e w' =>
     e=.returned (.slice (some ⟨w.heap.size,0,none⟩) (n+1) (grownCap w (n+1) c 3)) /\
     w'=w.drew.alloc (.cells ((cs++[x]).toArray++Builtin.zeroCells (Value.int .i64 0).cells (grownCap w (n+1) c 3-(n+1))) 3))
  (hgrow:∀ (b n c i vb vc:Nat) (cs:List Value) (x:Value) (w:World),i<n->n<=c->c<n+1->(n+1)*8<=140737488355328->cs.length=n ->
    (∀ j v,cs[j]?=some v->w.cell? ⟨b,0+j,none⟩=some v)->(∀ j v,[x][j]?=some v->w.cell? ⟨vb,0+j,none⟩=some v)->(∀ v∈cs,v.oneCell'=true)->(∀ v∈[x],v.oneCell'=true) ->
    Calls P f #[.slice (some ⟨b,0,none⟩) n c,.int .i64 i,.slice (some ⟨vb,0,none⟩) 1 vc] w fun e w' =>
     e=.returned (.slice (some ⟨w.heap.size,0,none⟩) (n+1) (grownCap w (n+1) c 3)) /\
     w'=(((w.alloc (.cells ((cs.take i).toArray++Builtin.zeroCells (Value.int .i64 0).cells (n+1-i)++Builtin.zeroCells (Value.int .i64 0).cells (grownCap w (n+1) c 3-(n+1))) 3)).drew.setCells w.heap.size i [x]).drew).setCells w.heap.size (i+1) (cs.drop i))
  (zs:List Int) (mv:Nat) (i:Nat) (hi:i<=zs.length) (x:Int) (mv':Nat) (hlen:zs.length<=1000000):QQ P K f [.aref 0 zs.length,.iv (.int .i64 (i:Nat)),.aref 1 1] [(0,Xl zs mv),(1,Xl [x] mv')] [] (.iv (Qqn (zs.take i++x::zs.drop i))) []:=by
 intro w ok L vs hK hnew hown hlaid hvl hvs
 obtain ⟨v0,v1,v2,rfl⟩:∃ v0 v1 v2,vs=[v0,v1,v2]:=by
  match vs,hvl with
  | [v,u,z],_=>grind
 obtain ⟨v,xs,hL,hrow⟩:=QjB (hlaid.objs 0 (Xl zs mv) rfl);obtain ⟨v',xs',hL',hrow'⟩:=QjB (zs:=[x]) (hlaid.objs 1 (Xl [x] mv') rfl);have hv:v0=v:=QkF (id:=0) (zs:=zs) (mv:=mv) rfl hL rfl (hvs 0 _ v0 rfl rfl);have hv':v2=v':=QkF (id:=1) (zs:=[x]) (mv:=mv') rfl hL' rfl (hvs 2 _ v2 rfl rfl)
 have e1:v1=.int .i64 (i:Nat):=by
  have:=hvs 1 _ v1 rfl rfl;cases this with
  | iv _ _ r=>cases r;rfl
 subst hv hv' e1;have hmax:maxLen=1099511627775\/2000000<=maxLen/\maxLen<=9223372036854775807:=by unfold maxLen;omega
 rcases hrow' with ⟨_,h⟩ | ⟨vb,vc,cur',hr2,hfr2⟩
 ·cases h
 have hv2:=hr2.v;subst hv2
 have hx:∀ j v,[Value.int .i64 x][j]?=some v->w.cell? ⟨vb,0+j,none⟩=some v:=fun j v hj=>by
  cases j with
  | zero =>
    simp at hj;subst hj;rw[hr2.cell,hr2.get 0 (by simp)]
    simp
  | succ j=>simp at hj
 have hone:∀ v∈[Value.int .i64 x],v.oneCell'=true:=by simp[Value.oneCell']
 have hvw:vb<w.heap.size:=(QLY.1 hr2.at_).1;have hlen':(zs.take i++x::zs.drop i).length=zs.length+1:=by simp;omega
 have fresh:∀ (w':World) (cap:Nat),Zx (fun b=>b<w.heap.size) w w'->zs.length+1<=cap->cap<=maxLen->(∀ j z,(zs.take i++x::zs.drop i)[j]?=some z->w'.cell? ⟨w.heap.size,j,none⟩=some (.int .i64 z)) ->
   ∃ v1 L',(Ending.returned (.slice (some ⟨w.heap.size,0,none⟩) (zs.length+1) cap):Ending)=.returned v1/\Qmb (FrO w (Qc [(0,Xl zs mv),(1,Xl [x] mv')]) L) ok w' (Qc []) L'/\QB (okL ok (Qc []) L') w' (Qc []) L' (.iv (Qqn (zs.take i++x::zs.drop i))) v1/\Zx (FrO w (Qc [(0,Xl zs mv),(1,Xl [x] mv')]) L) w w' /\
    ∀ i∈([]:List Nat),∀ o,Qc [(0,Xl zs mv),(1,Xl [x] mv')] i=some o->∃ o',Qc [] i=some o'/\Vl o o' (L i) (L' i):=fun w' cap hk h1 h2 h3=>by
  refine ⟨_,fun _=>.one 0,rfl,QbF,.iv _ _ ?_,⟨hk.os,hk.tape,hk.output,hk.size,fun k hkk=>hk.block k hkk.1⟩,by simp⟩
  rw[<- hlen'] at h1 |-;exact Wg _ _ _ h1 h2 ⟨hnew _ (QLS _),by simp[Qc]⟩ h3
 have inplace:∀ (g cap:Nat) (cur:Array Value) (w':World),QcB w v0 zs g cap cur->¬ FrO w (Qc [(0,Xl zs mv),(1,Xl [x] mv')]) L g->Zx (FrO w (Qc [(0,Xl zs mv),(1,Xl [x] mv')]) L) w w'->zs.length+1<=cap->(∀ j z,(zs.take i++x::zs.drop i)[j]?=some z->w'.cell? ⟨g,j,none⟩=some (.int .i64 z)) ->
   ∃ v1 L',(Ending.returned (.slice (some ⟨g,0,none⟩) (zs.length+1) cap):Ending)=.returned v1/\Qmb (FrO w (Qc [(0,Xl zs mv),(1,Xl [x] mv')]) L) ok w' (Qc []) L'/\QB (okL ok (Qc []) L') w' (Qc []) L' (.iv (Qqn (zs.take i++x::zs.drop i))) v1/\Zx (FrO w (Qc [(0,Xl zs mv),(1,Xl [x] mv')]) L) w w' /\
    ∀ i∈([]:List Nat),∀ o,Qc [(0,Xl zs mv),(1,Xl [x] mv')] i=some o->∃ o',Qc [] i=some o'/\Vl o o' (L i) (L' i):=fun g cap cur w' hr1 _ hk h1 h3=>by
  have hgo:ok g:=hown g ⟨0,Xl zs mv,rfl,by rw[hL,hr1.v];simp[Lay.has,Value.ownBlock]⟩
  refine ⟨_,fun _=>.one 0,rfl,QbF,.iv _ _ ?_,hk,by simp⟩
  have h2:=hr1.max;rw[<- hlen'] at h1 |-;exact Wg _ _ _ h1 h2 ⟨hgo,by simp[Qc]⟩ h3
 have hcs:∀ j,j<zs.length->(zs.map (Value.int .i64))[j]?=some (.int .i64 zs[j]!):=fun j hj=>by simp[hj]
 have onev:∀ v∈zs.map (Value.int .i64),v.oneCell'=true:=fun v hv=>by
  obtain ⟨z,_,rfl⟩:=QL5.1 hv;rfl
 rcases QM0 i zs.length with hlt | hge
 ·
  rcases hrow with ⟨_,h⟩ | ⟨g,cap,cur,hr1,hfr⟩
  ·grind
  have hv:=hr1.v;have hm:=hr1.max;have hle:=hr1.le;have hgw:g<w.heap.size:=(QLY.1 hr1.at_).1;have hne:vb≠g:=fun e=>hlaid.apart 0 1 (Xl zs mv) (Xl [x] mv') g (by simp) rfl rfl (by rw[hL,hv];simp[Lay.has,Value.ownBlock]) (by rw[hL',e];simp[Lay.has,Value.ownBlock])
  have hc:∀ j v,(zs.map (Value.int .i64))[j]?=some v->w.cell? ⟨g,0+j,none⟩=some v:=fun j v hj=>by
   rw[QLW,QLT] at hj;obtain ⟨z,hz,rfl⟩:=hj;obtain ⟨h1,h2⟩:=QLO.1 hz;rw[QL9,hr1.cell,hr1.get j h1,h2]
  have hmid:∀ j z,(zs.take i++x::zs.drop i)[j]?=some z->(j<i/\zs[j]?=some z)\/(j=i/\z=x)\/(i+1<=j/\(zs.drop i)[j-(i+1)]?=some z):=fun j z hj=>by
   rcases Nat.lt_trichotomy j i with h | h | h
   ·rw[QMd (by simp;omega),QMw,if_pos h] at hj
    grind
   ·subst h
    rw[QL7 (by simp;omega),QM4,Nat.min_eq_left (by omega),Nat.sub_self] at hj
    grind
   ·rw[QL7 (by simp;omega),QM4,Nat.min_eq_left (by omega)] at hj
    obtain ⟨k,rfl⟩:∃ k,j=i+1+k:=⟨j-(i+1),by omega⟩
    rw[show i+1+k-i=k+1 by omega,List.getElem?_cons_succ] at hj
    exact .inr (.inr ⟨by omega,by rw[show i+1+k-(i+1)=k by omega];exact hj⟩)
  rcases QM0 zs.length cap with hcap | hcap
  ·
   have hsome:∀ j,j<zs.length+1->(w.cell? ⟨g,0+j,none⟩).isSome=true:=fun j hj=>by
    rw[QL9,hr1.cell,QMu (by have:=hr1.size;omega)];rfl
   have h0:=hshift g zs.length cap i vb vc (zs.map (.int .i64)) (.int .i64 x) w hlt (by omega) (by omega) hne (by simp) hc hsome (fun j _=>hr1.frozen _) hx onev hone 3 3 cur'.size cur.size
    (by simp[World.shape?,hr2.at_]) (by simp[World.shape?,hr1.at_]) (by have:=hr1.size;omega) (hr2.frozen _) (hr2.frozen _)
   rw[<- hv] at h0;refine h0.mono fun e w' ⟨h1,h2⟩=>?_
   subst h1
   have hk:Zx (FrO w (Qc [(0,Xl zs mv),(1,Xl [x] mv')]) L) w w':=by
    have k1:=Z9 (Fr:=FrO w (Qc [(0,Xl zs mv),(1,Xl [x] mv')]) L) hfr ((zs.map (Value.int .i64)).drop i) (0+(i+1)) w.drew;have k2:=Z9 (Fr:=FrO w (Qc [(0,Xl zs mv),(1,Xl [x] mv')]) L) hfr [Value.int .i64 x] (0+i) (w.drew.setCells g (0+(i+1)) ((zs.map (Value.int .i64)).drop i));rw[h2];exact ⟨k2.os.trans k1.os,k2.tape.trans k1.tape,k2.output.trans k1.output,QMe k1.size k2.size,fun k hk=>(k2.block k hk).trans (k1.block k hk)⟩
   refine inplace g cap cur w' hr1 hfr hk (by omega) fun j z hj=>?_
   have in1:∀ k,k<((zs.map (Value.int .i64)).drop i).length->(w.drew.cell? ⟨g,0+(i+1)+k,none⟩).isSome=true:=fun k hk=>by
    have:=hsome (i+1+k) (by simp at hk;omega)
    rw[show 0+(i+1)+k=0+(i+1+k) by omega]
    exact this
   have sm1:∀ k,(w.cell? ⟨g,k,none⟩).isSome=true->((w.drew.setCells g (0+(i+1)) ((zs.map (Value.int .i64)).drop i)).cell? ⟨g,k,none⟩).isSome=true:=fun k hk=>by
    by_cases hin:0+(i+1)<=k/\k<0+(i+1)+((zs.map (Value.int .i64)).drop i).length
    ·have:=World.cell?_setCells_in g _ (0+(i+1)) w.drew in1 (k-(0+(i+1))) (by omega)
     rw[show 0+(i+1)+(k-(0+(i+1)))=k by omega] at this
     rw[this];rfl
    ·rw[World.cell?_setCells_out g _ (0+(i+1)) w.drew ⟨g,k,none⟩ (fun _ _=>by grind)]
     exact hk
   rw[h2];rcases hmid j z hj with ⟨h3,h4⟩ | ⟨h3,h4⟩ | ⟨h3,h4⟩
   ·rw[World.cell?_setCells_out g [_] (0+i) _ ⟨g,j,none⟩ (fun _ _=>by grind),World.cell?_setCells_out g _ (0+(i+1)) w.drew ⟨g,j,none⟩ (fun _ _=>by grind)]
    have:=hc j (.int .i64 z) (by simp[h4])
    rw[QL9] at this;exact this
   ·subst h3 h4
    have:=World.cell?_setCells_in g [Value.int .i64 z] (0+j) (w.drew.setCells g (0+(j+1)) ((zs.map (Value.int .i64)).drop j)) (fun k hk=>sm1 _ (by
     have:=hsome j (by omega)
     simp at hk;subst hk;simpa using this)) 0 (by simp)
    simpa using this
   ·obtain ⟨k,rfl⟩:∃ k,j=i+1+k:=⟨j-(i+1),by omega⟩
    rw[show i+1+k-(i+1)=k by omega] at h4
    have hkl:=(QLO.1 h4).1;rw[World.cell?_setCells_out g [_] (0+i) _ ⟨g,i+1+k,none⟩ (fun _ _=>by show i+1+k<_\/_<=i+1+k;simp)]
    have:=World.cell?_setCells_in g ((zs.map (Value.int .i64)).drop i) (0+(i+1)) w.drew in1 k (by simpa using hkl)
    rw[QL9] at this;rw[QL9,this]
    have h5:(List.drop i (zs.map (Value.int .i64)))[k]?=some (.int .i64 z):=by
     rw[<- List.map_drop,QLW,h4];rfl
    rw[QLN (by simpa using hkl)] at h5
    exact h5
  ·
   have hcap':cap=zs.length:=by omega
   have h0:=hgrow g zs.length cap i vb vc (zs.map (.int .i64)) (.int .i64 x) w hlt (by omega) (by omega) (by omega) (by simp) hc hx onev hone
   rw[<- hv] at h0;have hgc1:=grownCap_ge w (zs.length+1) cap 3;have hgc2:=grownCap_le_maxLen w (zs.length+1) cap 3 (by omega)
   generalize grownCap w (zs.length+1) cap 3=G at *;refine h0.mono fun e w' ⟨h1,h2⟩=>?_
   subst h1;obtain ⟨ROW,hROW⟩:∃ ROW:Array Value,ROW=((zs.map (Value.int .i64)).take i).toArray++Builtin.zeroCells (Value.int .i64 0).cells (zs.length+1-i)++Builtin.zeroCells (Value.int .i64 0).cells (G-(zs.length+1)):=⟨_,rfl⟩
   rw[<- hROW] at h2
   have hRs:zs.length+1<=ROW.size:=by
    rw[hROW];simp[Builtin.zeroCells,Value.cells];omega
   have hRt:∀ j z,j<i->zs[j]?=some z->ROW[j]?=some (.int .i64 z):=fun j z hj hz=>by
    rw[hROW,Array.append_assoc,Array.getElem?_append_left (by simp;omega)]
    simp[QMw,hj,hz]
   have hN:∀ j,j<zs.length+1->((w.alloc (.cells ROW 3)).cell? ⟨w.heap.size,j,none⟩).isSome=true:=fun j hj=>by
    rw[World.cell?_alloc_at (w:=w) ROW _ w.heap.size j rfl,QMu (by omega)];rfl
   obtain ⟨W1,hW1⟩:∃ W1,W1=(w.alloc (.cells ROW 3)).drew.setCells w.heap.size i [Value.int .i64 x]:=⟨_,rfl⟩
   rw[<- hW1] at h2;have hkA:Zx (fun b=>b<w.heap.size) w (w.alloc (.cells ROW 3)):=Qdv w _
   have hk1:Zx (fun b=>b<w.heap.size) w W1:=by
    have k2:=Z9 (Fr:=fun b=>b<w.heap.size) (g:=w.heap.size) (by simp) [Value.int .i64 x] i (w.alloc (.cells ROW 3)).drew
    rw[hW1];exact ⟨k2.os.trans hkA.os,k2.tape.trans hkA.tape,k2.output.trans hkA.output,QMe hkA.size k2.size,fun k hk=>(k2.block k hk).trans (hkA.block k hk)⟩
   have hk2:Zx (fun b=>b<w.heap.size) w w':=by
    have k2:=Z9 (Fr:=fun b=>b<w.heap.size) (g:=w.heap.size) (by simp) ((zs.map (Value.int .i64)).drop i) (i+1) W1.drew
    rw[h2];exact ⟨k2.os.trans hk1.os,k2.tape.trans hk1.tape,k2.output.trans hk1.output,QMe hk1.size k2.size,fun k hk=>(k2.block k hk).trans (hk1.block k hk)⟩
   have sm1:∀ k,k<zs.length+1->(W1.cell? ⟨w.heap.size,k,none⟩).isSome=true:=fun k hk=>by
    rw[hW1];by_cases hin:k=i
    ·subst hin
     have:=World.cell?_setCells_in w.heap.size [Value.int .i64 x] k (w.alloc (.cells ROW 3)).drew (fun t ht=>by simp at ht;subst ht;exact hN k hk) 0 (by simp)
     rw[QMV] at this;rw[this];rfl
    ·rw[World.cell?_setCells_out w.heap.size [_] i _ ⟨w.heap.size,k,none⟩ (fun _ _=>by show k<_\/_<=k;simp;omega)]
     exact hN k hk
   refine fresh w' G hk2 hgc1 hgc2 fun j z hj=>?_
   have in2:∀ k,k<((zs.map (Value.int .i64)).drop i).length->(W1.drew.cell? ⟨w.heap.size,i+1+k,none⟩).isSome=true:=fun k hk=>sm1 _ (by simp at hk;omega)
   rw[h2];rcases hmid j z hj with ⟨h3,h4⟩ | ⟨h3,h4⟩ | ⟨h3,h4⟩
   ·rw[World.cell?_setCells_out w.heap.size _ (i+1) W1.drew ⟨w.heap.size,j,none⟩ (fun _ _=>by grind)]
    show W1.cell? _=_
    rw[hW1,World.cell?_setCells_out w.heap.size [_] i _ ⟨w.heap.size,j,none⟩ (fun _ _=>by grind)]
    show (w.alloc (.cells ROW 3)).cell? _=_
    rw[World.cell?_alloc_at (w:=w) ROW _ w.heap.size j rfl];exact hRt j z h3 h4
   ·subst h3 h4
    rw[World.cell?_setCells_out w.heap.size _ (j+1) W1.drew ⟨w.heap.size,j,none⟩ (fun _ _=>by grind)]
    show W1.cell? _=_
    rw[hW1];have:=World.cell?_setCells_in w.heap.size [Value.int .i64 z] j (w.alloc (.cells ROW 3)).drew (fun t ht=>by simp at ht;subst ht;exact hN j (by omega)) 0 (by simp)
    simpa using this
   ·obtain ⟨k,rfl⟩:∃ k,j=i+1+k:=⟨j-(i+1),by omega⟩
    rw[show i+1+k-(i+1)=k by omega] at h4
    have hkl:=(QLO.1 h4).1;have:=World.cell?_setCells_in w.heap.size ((zs.map (Value.int .i64)).drop i) (i+1) W1.drew in2 k (by simpa using hkl)
    rw[this]
    have h5:(List.drop i (zs.map (Value.int .i64)))[k]?=some (.int .i64 z):=by
     rw[<- List.map_drop,QLW,h4];rfl
    rw[QLN (by simpa using hkl)] at h5
    exact h5
 ·
  have hie:i=zs.length:=by omega
  subst hie;have hsame:zs.take zs.length++x::zs.drop zs.length=zs++[x]:=by simp
  have grow:∀ (base:Option Addr) (c:Nat),v0=.slice base zs.length c->zs.length<=c->c<zs.length+1->(base=none->zs.length=0)->(∀ a,base=some a->∀ j v,(zs.map (Value.int .i64))[j]?=some v->w.cell? (a.add j)=some v) ->
    Calls P f [v0,Value.int .i64 (zs.length:Nat),Value.slice (some ⟨vb,0,none⟩) [x].length vc].toArray w (fun e w'=>∃ v1 L',e=.returned v1/\Qmb (FrO w (Qc [(0,Xl zs mv),(1,Xl [x] mv')]) L) ok w' (Qc []) L'/\QB (okL ok (Qc []) L') w' (Qc []) L' (.iv (Qqn (zs.take zs.length++x::zs.drop zs.length))) v1/\Zx (FrO w (Qc [(0,Xl zs mv),(1,Xl [x] mv')]) L) w w' /\
     ∀ i∈([]:List Nat),∀ o,Qc [(0,Xl zs mv),(1,Xl [x] mv')] i=some o->∃ o',Qc [] i=some o'/\Vl o o' (L i) (L' i)):=fun base c hv h1 h2 h3 h4=>by
   have h0:=hend base zs.length c vb vc (zs.map (.int .i64)) (.int .i64 x) w h1 h2 (by omega) (by simp) h3 h4 hx hone
   rw[<- hv] at h0;have hgc1:=grownCap_ge w (zs.length+1) c 3;have hgc2:=grownCap_le_maxLen w (zs.length+1) c 3 (by omega)
   generalize grownCap w (zs.length+1) c 3=G at *;refine h0.mono fun e w' ⟨h5,h6⟩=>?_
   subst h5;obtain ⟨ROW,hROW⟩:∃ ROW:Array Value,ROW=(zs.map (Value.int .i64)++[Value.int .i64 x]).toArray++Builtin.zeroCells (Value.int .i64 0).cells (G-(zs.length+1)):=⟨_,rfl⟩
   rw[<- hROW] at h6;refine fresh w' G ?_ hgc1 hgc2 fun j z hj=>?_
   ·rw[h6]
    have:=Qdv w.drew (.cells ROW 3);exact ⟨this.os,this.tape,this.output,this.size,this.block⟩
   ·rw[h6,World.cell?_alloc_at (w:=w.drew) ROW _ w.heap.size j rfl,hROW]
    rw[hsame] at hj;have hjl:=(QLO.1 hj).1;simp at hjl;rw[Array.getElem?_append_left (by simp;omega)]
    have:(zs.map (Value.int .i64)++[Value.int .i64 x])=(zs++[x]).map (.int .i64):=by simp
    rw[this,List.getElem?_toArray,QLW,hj];rfl
  rcases hrow with ⟨h1,h2⟩ | ⟨g,cap,cur,hr1,hfr⟩
  ·subst h2
   grind
  have hv:=hr1.v;have hm:=hr1.max;have hle:=hr1.le;rcases QM0 zs.length cap with hcap | hcap
  ·have h0:=hroom g zs.length cap vb vc (.int .i64 x) w (by omega) (by omega) (fun j hj=>by
    rw[hr1.cell,QMu (by have:=hr1.size;omega)];rfl) (fun j _=>hr1.frozen _) hx hone
   rw[<- hv] at h0;refine h0.mono fun e w' ⟨h1,h2⟩=>?_
   subst h1
   have hk:Zx (FrO w (Qc [(0,Xl zs mv),(1,Xl [x] mv')]) L) w w':=by
    rw[h2];exact Z9 hfr _ _ _
   refine inplace g cap cur w' hr1 hfr hk (by omega) fun j z hj=>?_
   rw[hsame] at hj;rw[h2];rcases QM0 j zs.length with h | h
   ·rw[QMd h] at hj
    rw[World.cell?_setCells_out g [_] (0+zs.length) _ ⟨g,j,none⟩ (fun _ _=>by grind),hr1.cell,hr1.get j h]
    obtain ⟨h3,h4⟩:=QLO.1 hj;rw[h4]
   ·have hj':j=zs.length:=by have:=(QLO.1 hj).1;grind
    subst hj';simp at hj;subst hj
    have:=World.cell?_setCells_in g [Value.int .i64 x] (0+zs.length) w (fun k hk=>by
     simp at hk;subst hk;rw[hr1.cell,QMu (by have:=hr1.size;omega)];rfl) 0 (by simp)
    simpa using this
  ·refine grow (some ⟨g,0,none⟩) cap hv hle (by omega) (by simp) (fun a ha j v hj=>?_)
   injection ha with ha
   subst ha;rw[QLW,QLT] at hj;obtain ⟨z,hz,rfl⟩:=hj;obtain ⟨h1,h2⟩:=QLO.1 hz;rw[Addr.add_lit,QL9,hr1.cell,hr1.get j h1,h2]
end
end Go.Ev
set_option linter.unusedVariables false
set_option linter.unusedSimpArgs false
namespace Go.Pf
open Go Go.Proofs Go.Shelf Go.RowKit Go.Lib
theorem i3z:(Tryz.prog.info? 3).map (fun i=>(i.zero,i.size,i.bytes))=some (some (Value.int IntKind.i64 0),1,8):=by kernel_rfl
theorem QjS:Tryz.prog.follows .mixedOrders=true:=by kernel_rfl
set_option maxHeartbeats 4000000 in
set_option maxRecDepth 100000 in
theorem QbK (b off n c i vb voff m vc:Nat) (cs vs:List Value) (w:World) (hi:i<n) (hm:0<m) (hroom:n+m<=c) (hc63:c<=9223372036854775807) (hvb:vb≠b)
  (hcl:cs.length=n) (hvl:vs.length=m)
  (hcs:∀ j v,cs[j]?=some v->w.cell? ⟨b,off+j,none⟩=some v) (hsp:∀ j,j<n+m->(w.cell? ⟨b,off+j,none⟩).isSome=true) (hfz:∀ j,j<n+m->w.frozen? ⟨b,off+j,none⟩=false)
  (hvs:∀ j v,vs[j]?=some v->w.cell? ⟨vb,voff+j,none⟩=some v) (h1c:∀ v∈cs,v.oneCell'=true) (h1v:∀ v∈vs,v.oneCell'=true)
  (tA tB:TypeId) (kA kB:Nat) (hsa:w.shape? vb=some (tA,kA)) (hsb:w.shape? b=some (tB,kB)) (hkB:kB≠0) (hfa:w.frozen? ⟨vb,voff,none⟩=false) (hfe:w.frozen? ⟨vb,kA,none⟩=false) :
  Calls Tryz.prog 256 #[.slice (some ⟨b,off,none⟩) n c,.int .i64 i,.slice (some ⟨vb,voff,none⟩) m vc] w fun e w' =>
   e=.returned (.slice (some ⟨b,off,none⟩) (n+m) c)/\w'=(w.drew.setCells b (off+(i+m)) (cs.drop i)).setCells b (off+i) vs:=by
 have t0:=Tryz.underlying0;have a0:=Tryz.isAgg0;have z0:=Tryz.sizeOf0;have v0:=Tryz.zeroValue0;have t3:=Tryz.underlying3;have a3:=Tryz.isAgg3;have z3:=Tryz.sizeOf3;have v3:=Tryz.zeroValue3;have t4:=Tryz.underlying4;have a4:=Tryz.isAgg4;have z4:=Tryz.sizeOf4;have v4:=Tryz.zeroValue4;have t186:=Tryz.underlying147;have a186:=Tryz.isAgg147;have z186:=Tryz.sizeOf147;have v186:=Tryz.zeroValue147;have t74:=Tryz.underlying47;have a74:=Tryz.isAgg47;have z74:=Tryz.sizeOf47;have v74:=Tryz.zeroValue47;have u0:=run_underlying t0;have u3:=run_underlying t3;have u4:=run_underlying t4;have u186:=run_underlying t186;have u74:=run_underlying t74;have hz1:¬ ((m:Int)=0):=by omega
 have hz2:¬ ((i:Int)=(n:Int)):=by omega
 have hsz:(Tryz.prog.info? 3).map (·.size)=some 1:=by
  obtain ⟨i0,hi0,h0,h1,h2⟩:=info_parts i3z
  grind
 have hov:∀ lb cb,(callFunc 304 #[.slice (some ⟨vb,voff,none⟩) m vc,.slice (some ⟨b,off+(i+m),none⟩) lb cb]).run Tryz.prog w=.ok (.value (.bool false)) w:=fun lb cb=>by
  rw[run_callFunc_extern Tryz.func304 (by kernel_rfl) (by kernel_rfl) (by kernel_rfl) (e:=Extern.SlicesOverlaps.overlaps #[47,47] #[4]) (by kernel_rfl),
   Lib.run_overlaps_apart w 47 4 3 t74 1 z3 ⟨vb,voff,none⟩ ⟨b,off+(i+m),none⟩ m vc lb cb hvb tA tB kA kB hsa hsb hkB hfa hfe]
  rfl
 have hdl:(cs.drop i).length=n-i:=by grind
 have mixed:=QjS;have hw1:IntKind.i64.wrap ((i:Int)+(m:Int))=(i:Int)+(m:Int):=by rw[IntKind.wrap_i64];omega
 have hb1:(0:Int)<=(i:Int)+(m:Int):=by omega
 have hin:i<=n:=by omega
 have htn:((i:Int)+(m:Int)).toNat=i+m:=by omega
 have hb2:¬ (c=i+m):=by omega
 have hb3:(i:Int)<=(n:Int)+(m:Int):=by omega
 have hb4:¬ (c=i):=by omega
 have hcp1:∀ ty dc sc,(Builtin.copy_ #[147,147] ty #[.slice (some ⟨b,off+(i+m),none⟩) (n+m-(i+m)) dc,.slice (some ⟨b,off+i,none⟩) (n+m-i) sc]).run Tryz.prog w.drew=.ok (goInt (cs.drop i).length) (w.drew.setCells b (off+(i+m)) (cs.drop i)):=fun ty dc sc =>
  run_copy_cells w.drew _ _ ty 3 b (off+(i+m)) (n+m-(i+m)) dc ⟨b,off+i,none⟩ (n+m-i) sc (cs.drop i) t186 hsz (by grind)
   (fun j v hj=>by rw[Addr.add_lit,QMI];exact hcs (i+j) v (by grind))
   (fun j hj=>by rw[QMI];exact hsp _ (by omega)) (fun j hj=>by rw[QMI];exact hfz _ (by omega)) (fun v hv=>h1c v (QMT hv))
 obtain ⟨W1,hW1⟩:∃ W1,W1=w.drew.setCells b (off+(i+m)) (cs.drop i):=⟨_,rfl⟩
 have hsp1:∀ k,k<n+m->(W1.cell? ⟨b,off+k,none⟩).isSome=true:=fun k hk=>by
  rw[hW1];exact isSome_setCells b _ _ _ (fun j hj=>by rw[QMI];exact hsp _ (by omega)) _ (hsp k hk)
 have hcp2:∀ (W:World),(∀ x,W.cell? x=W1.cell? x)->(∀ x,W.frozen? x=W1.frozen? x)->∀ ty dc,(Builtin.copy_ #[147,47] ty #[.slice (some ⟨b,off+i,none⟩) (n+m-i) dc,.slice (some ⟨vb,voff,none⟩) m vc]).run Tryz.prog W=.ok (goInt vs.length) (W.setCells b (off+i) vs):=fun W hWc hWf ty dc =>
  run_copy_cells W _ _ ty 3 b (off+i) (n+m-i) dc ⟨vb,voff,none⟩ m vc vs t186 hsz (by grind)
   (fun j v hj=>by
     rw[Addr.add_lit,hWc,hW1,World.cell?_setCells_out b _ _ _ _ (fun h _=>absurd h hvb)]
     exact hvs j v hj)
   (fun j hj=>by rw[hWc,QMI];exact hsp1 _ (by omega)) (fun j hj=>by rw[hWf,hW1,World.frozen?_setCells,QMI];exact hfz _ (by omega)) h1v
 rw[<- hW1] at hcp1
 go_enter Tryz.func256,Tryz.ntmps256
 go_wp2_with (simp only[hov])
 go_region_law_o (refine step_copy_runI rfl _ _ 147 147 rfl _ _ (by simp[Act.eval,Act.put]) (by simp[Act.eval,Act.put]) (hcp1 _ _ _) ?_)
 go_wp2_with (at_builtin;refine wpList_copy_runI _ rfl _ _ 147 47 rfl _ _ rfl rfl (hcp2 _ (fun _=>rfl) (fun _=>rfl) _ _) ?_)
 go_ret
 first | exact ⟨rfl,rfl⟩ | exact ⟨rfl,by rw[hW1]⟩
set_option maxHeartbeats 4000000 in
set_option maxRecDepth 100000 in
theorem WC (b off n c vb voff m vc:Nat) (vs:List Value) (w:World) (hm:0<m) (hroom:n+m<=c) (hc63:c<=9223372036854775807)
  (hvl:vs.length=m) (hsp:∀ j,j<m->(w.cell? ⟨b,off+n+j,none⟩).isSome=true) (hfz:∀ j,j<m->w.frozen? ⟨b,off+n+j,none⟩=false)
  (hvs:∀ j v,vs[j]?=some v->w.cell? ⟨vb,voff+j,none⟩=some v) (h1v:∀ v∈vs,v.oneCell'=true) :
  Calls Tryz.prog 256 #[.slice (some ⟨b,off,none⟩) n c,.int .i64 n,.slice (some ⟨vb,voff,none⟩) m vc] w fun e w' =>
   e=.returned (.slice (some ⟨b,off,none⟩) (n+m) c)/\w'=w.setCells b (off+n) vs:=by
 have t0:=Tryz.underlying0;have a0:=Tryz.isAgg0;have z0:=Tryz.sizeOf0;have v0:=Tryz.zeroValue0;have t3:=Tryz.underlying3;have a3:=Tryz.isAgg3;have z3:=Tryz.sizeOf3;have v3:=Tryz.zeroValue3;have t4:=Tryz.underlying4;have a4:=Tryz.isAgg4;have z4:=Tryz.sizeOf4;have v4:=Tryz.zeroValue4;have t186:=Tryz.underlying147;have a186:=Tryz.isAgg147;have z186:=Tryz.sizeOf147;have v186:=Tryz.zeroValue147;have t74:=Tryz.underlying47;have a74:=Tryz.isAgg47;have z74:=Tryz.sizeOf47;have v74:=Tryz.zeroValue47;have u0:=run_underlying t0;have u3:=run_underlying t3;have u4:=run_underlying t4;have u186:=run_underlying t186;have u74:=run_underlying t74;have mixed:=QjS;have hz1:¬ ((m:Int)=0):=by omega
 have hsrc:Src Tryz.prog 1 47 (.slice (some ⟨vb,voff,none⟩) m vc) m vs w:=Src.ofSlice w t74 ⟨vb,voff,none⟩ m vc vs (by omega) (fun j u hj=>by rw[Addr.add_lit];exact hvs j u hj) h1v
 go_enter Tryz.func256,Tryz.ntmps256
 go_wp2_with (at_builtin;refine wpList_append_room1 _ rfl _ _ 147 47 rfl 3 _ _ t186 i3z b off n c rfl _ rfl m vs hsrc hroom (by grind) (by grind) ?_)
 go_ret
 exact ⟨rfl,rfl⟩
set_option maxHeartbeats 4000000 in
set_option maxRecDepth 100000 in
theorem WD (base:Option Addr) (n c vb voff m vc:Nat) (cs vs:List Value) (w:World) (hm:0<m) (hnc:n<=c) (hroom:c<n+m) (hbig:(n+m)*8<=140737488355328)
  (hcl:cs.length=n) (hvl:vs.length=m) (hnil:base=none->n=0)
  (hcs:∀ a,base=some a->∀ j v,cs[j]?=some v->w.cell? (a.add j)=some v)
  (hvs:∀ j v,vs[j]?=some v->w.cell? ⟨vb,voff+j,none⟩=some v) (h1v:∀ v∈vs,v.oneCell'=true) :
  Calls Tryz.prog 256 #[.slice base n c,.int .i64 n,.slice (some ⟨vb,voff,none⟩) m vc] w fun e w' =>
   e=.returned (.slice (some ⟨w.heap.size,0,none⟩) (n+m) (grownCap w (n+m) c 3)) /\
   w'=w.drew.alloc (.cells ((cs++vs).toArray++Builtin.zeroCells (Value.int .i64 0).cells (grownCap w (n+m) c 3-(n+m))) 3):=by
 have t0:=Tryz.underlying0;have a0:=Tryz.isAgg0;have z0:=Tryz.sizeOf0;have v0:=Tryz.zeroValue0;have t3:=Tryz.underlying3;have a3:=Tryz.isAgg3;have z3:=Tryz.sizeOf3;have v3:=Tryz.zeroValue3;have t4:=Tryz.underlying4;have a4:=Tryz.isAgg4;have z4:=Tryz.sizeOf4;have v4:=Tryz.zeroValue4;have t186:=Tryz.underlying147;have a186:=Tryz.isAgg147;have z186:=Tryz.sizeOf147;have v186:=Tryz.zeroValue147;have t74:=Tryz.underlying47;have a74:=Tryz.isAgg47;have z74:=Tryz.sizeOf47;have v74:=Tryz.zeroValue47;have u0:=run_underlying t0;have u3:=run_underlying t3;have u4:=run_underlying t4;have u186:=run_underlying t186;have u74:=run_underlying t74;have mixed:=QjS;obtain ⟨i0,hi0,hz0,hzs,hzb⟩:=info_parts i3z;have hz1:¬ ((m:Int)=0):=by omega
 have hsrc:Src Tryz.prog i0.size 47 (.slice (some ⟨vb,voff,none⟩) m vc) m vs w:=by
  rw[hzs];exact Src.ofSlice w t74 ⟨vb,voff,none⟩ m vc vs (by omega) (fun j u hj=>by rw[Addr.add_lit];exact hvs j u hj) h1v
 have hold:(Builtin.firstCells i0.size n (.slice base n c)).run Tryz.prog w.drew=.ok cs.toArray w.drew:=by
  rw[hzs];cases base with
  | none =>
    have h0:=hnil rfl;subst h0;rw[List.length_eq_zero_iff.1 hcl];exact run_firstCells_none w.drew 1 0 0 c
  | some a=>exact run_firstCells_some w.drew 1 n a n c cs (by omega) (fun j v hj=>hcs a rfl j v hj)
 have hrun:∀ ty,(Builtin.append_ #[147,47] ty #[.slice base n c,.slice (some ⟨vb,voff,none⟩) m vc]).run Tryz.prog w=_:=fun ty =>
  run_append_grow_src w 147 47 ty 3 i0 _ t186 hi0 hz0 base n c cs hold _ m vs hsrc hroom (by omega) (by rw[hzb];exact growslice_fits hroom hbig)
 go_enter Tryz.func256,Tryz.ntmps256
 cases base with
 | none =>
   have h0:=hnil rfl;subst h0
   go_wp2_with (at_builtin;refine Lib.wpList_append_run _ rfl _ _ _ _ rfl _ _ rfl rfl _ _ (hrun _) ?_)
   go_ret
   exact ⟨rfl,rfl⟩
 | some a =>
   obtain ⟨ab,ao,asp⟩:=a
   go_wp2_with (at_builtin;refine Lib.wpList_append_run _ rfl _ _ _ _ rfl _ _ rfl rfl _ _ (hrun _) ?_)
   all_goals (go_ret;exact ⟨rfl,rfl⟩)
set_option maxHeartbeats 4000000 in
set_option maxRecDepth 100000 in
theorem Qcu (b off n c i vb voff m vc:Nat) (cs vs:List Value) (w:World) (hi:i<n) (hm:0<m) (hnc:n<=c) (hroom:c<n+m) (hbig:(n+m)*8<=140737488355328)
  (hcl:cs.length=n) (hvl:vs.length=m)
  (hcs:∀ j v,cs[j]?=some v->w.cell? ⟨b,off+j,none⟩=some v)
  (hvs:∀ j v,vs[j]?=some v->w.cell? ⟨vb,voff+j,none⟩=some v) (h1c:∀ v∈cs,v.oneCell'=true) (h1v:∀ v∈vs,v.oneCell'=true) :
  Calls Tryz.prog 256 #[.slice (some ⟨b,off,none⟩) n c,.int .i64 i,.slice (some ⟨vb,voff,none⟩) m vc] w fun e w' =>
   e=.returned (.slice (some ⟨w.heap.size,0,none⟩) (n+m) (grownCap w (n+m) c 3)) /\
   w'=(((w.alloc (.cells ((cs.take i).toArray++Builtin.zeroCells (Value.int .i64 0).cells (n+m-i)++Builtin.zeroCells (Value.int .i64 0).cells (grownCap w (n+m) c 3-(n+m))) 3)).drew.setCells w.heap.size i vs).drew).setCells w.heap.size (i+m) (cs.drop i):=by
 have t0:=Tryz.underlying0;have a0:=Tryz.isAgg0;have z0:=Tryz.sizeOf0;have v0:=Tryz.zeroValue0;have t3:=Tryz.underlying3;have a3:=Tryz.isAgg3;have z3:=Tryz.sizeOf3;have v3:=Tryz.zeroValue3;have t4:=Tryz.underlying4;have a4:=Tryz.isAgg4;have z4:=Tryz.sizeOf4;have v4:=Tryz.zeroValue4;have t186:=Tryz.underlying147;have a186:=Tryz.isAgg147;have z186:=Tryz.sizeOf147;have v186:=Tryz.zeroValue147;have t74:=Tryz.underlying47;have a74:=Tryz.isAgg47;have z74:=Tryz.sizeOf47;have v74:=Tryz.zeroValue47;have u0:=run_underlying t0;have u3:=run_underlying t3;have u4:=run_underlying t4;have u186:=run_underlying t186;have u74:=run_underlying t74;have mixed:=QjS;obtain ⟨i0,hi0,hz0,hzs,hzb⟩:=info_parts i3z;have hz1:¬ ((m:Int)=0):=by omega
 have hz2:¬ ((i:Int)=(n:Int)):=by omega
 have hz3:(c:Int)<(n:Int)+(m:Int):=by omega
 have hsz:(Tryz.prog.info? 3).map (·.size)=some 1:=by grind
 have hbw:b<w.heap.size:=block_lt_of_cell (hcs 0 _ (QLN (by omega)))
 have hvw:vb<w.heap.size:=block_lt_of_cell (hvs 0 _ (QLN (by omega)))
 have hkk:(n:Int)+(m:Int)-(i:Int)=((n+m-i:Nat):Int):=by omega
 have hik:i+(n+m-i)=n+m:=by omega
 have hold:(Builtin.firstCells i0.size i (.slice (some ⟨b,off,none⟩) i c)).run Tryz.prog w.drew=.ok (cs.take i).toArray w.drew:=by
  rw[hzs]
  exact run_firstCells_some w.drew 1 i ⟨b,off,none⟩ i c (cs.take i) (by grind) (fun j v hj=>by
   rw[Addr.add_lit];rw[QMw] at hj;split at hj
   ·exact hcs j v hj
   ·cases hj)
 have hrz:∀ ty,(Builtin.append_ #[147,3] ty #[.slice (some ⟨b,off,none⟩) i c,.int .i64 ((n:Int)+(m:Int)-(i:Int))]).run Tryz.prog w =
   .ok (.slice (some ⟨w.heap.size,0,none⟩) (n+m) (grownCap w (n+m) c 3)) (w.drew.alloc (.cells ((cs.take i).toArray++Builtin.zeroCells (Value.int .i64 0).cells (n+m-i)++Builtin.zeroCells (Value.int .i64 0).cells (grownCap w (n+m) c 3-(n+m))) 3)):=fun ty=>by
  have h:=Lib.run_append_grow_zeros w 147 3 ty 3 i0 _ .i64 .i64 t186 t3 hi0 hz0 (some ⟨b,off,none⟩) i c (cs.take i) hold (n+m-i) (by omega) (by omega) (by omega) (by omega) (by rw[hzb];omega) (by rw[hzb,hik];exact growslice_fits hroom hbig)
  grind
 obtain ⟨G,hG⟩:∃ G,G=grownCap w (n+m) c 3:=⟨_,rfl⟩
 obtain ⟨ROW,hROW⟩:∃ ROW:Array Value,ROW=(cs.take i).toArray++Builtin.zeroCells (Value.int .i64 0).cells (n+m-i)++Builtin.zeroCells (Value.int .i64 0).cells (G-(n+m)):=⟨_,rfl⟩
 rw[<- hG] at hrz |-;rw[<- hROW] at hrz |-
 have hRl:n+m<=ROW.size:=by
  rw[hROW];simp[Builtin.zeroCells,Value.cells];omega
 obtain ⟨W1,hW1⟩:∃ W1,W1=w.drew.alloc (.cells ROW 3):=⟨_,rfl⟩
 rw[<- hW1] at hrz
 have hN:∀ j,j<n+m->(W1.cell? ⟨w.heap.size,j,none⟩).isSome=true:=fun j hj=>by
  rw[hW1,World.cell?_alloc_at (w:=w.drew) ROW _ w.heap.size j rfl,QMu (by omega)];rfl
 have hNf:∀ j,W1.frozen? ⟨w.heap.size,j,none⟩=false:=fun j=>by rw[hW1];exact World.frozen?_alloc_at (w:=w.drew) ROW _ w.heap.size j rfl
 have hOb:∀ j v,w.cell? ⟨b,j,none⟩=some v->W1.cell? ⟨b,j,none⟩=some v:=fun j v h=>by rw[hW1,World.cell?_alloc_past (w:=w.drew) _ b j hbw];exact h
 have hOv:∀ j v,w.cell? ⟨vb,j,none⟩=some v->W1.cell? ⟨vb,j,none⟩=some v:=fun j v h=>by rw[hW1,World.cell?_alloc_past (w:=w.drew) _ vb j hvw];exact h
 have hcpA:∀ (W:World),(∀ x,W.cell? x=W1.cell? x)->(∀ x,W.frozen? x=W1.frozen? x)->∀ ty dc,(Builtin.copy_ #[147,47] ty #[.slice (some ⟨w.heap.size,i,none⟩) (n+m-i) dc,.slice (some ⟨vb,voff,none⟩) m vc]).run Tryz.prog W=.ok (goInt vs.length) (W.setCells w.heap.size i vs):=fun W hWc hWf ty dc =>
  run_copy_cells W _ _ ty 3 w.heap.size i (n+m-i) dc ⟨vb,voff,none⟩ m vc vs t186 hsz (by grind)
   (fun j v hj=>by rw[Addr.add_lit,hWc];grind)
   (fun j hj=>by grind) (fun j hj=>by grind) h1v
 have hGn:n+m<=G:=by rw[hG];exact grownCap_ge w _ _ _
 have hG63:G<=9223372036854775807:=by
  have:=grownCap_le_maxLen w (n+m) c 3 (by unfold maxLen;omega)
  rw[<- hG] at this;unfold maxLen at this;omega
 have hGi:¬ (G=i):=by omega
 have hGim:¬ (G=i+m):=by omega
 have hci:¬ (c=i):=by omega
 have hbN:b≠w.heap.size:=by omega
 have hdl:(cs.drop i).length=n-i:=by grind
 have hcpB:∀ (W:World),(∀ x,W.cell? x=(W1.setCells w.heap.size i vs).cell? x)->(∀ x,W.frozen? x=(W1.setCells w.heap.size i vs).frozen? x)->∀ ty dc sc,(Builtin.copy_ #[147,147] ty #[.slice (some ⟨w.heap.size,i+m,none⟩) (n+m-(i+m)) dc,.slice (some ⟨b,off+i,none⟩) (n-i) sc]).run Tryz.prog W=.ok (goInt (cs.drop i).length) (W.setCells w.heap.size (i+m) (cs.drop i)):=fun W hWc hWf ty dc sc =>
  run_copy_cells W _ _ ty 3 w.heap.size (i+m) (n+m-(i+m)) dc ⟨b,off+i,none⟩ (n-i) sc (cs.drop i) t186 hsz (by grind)
   (fun j v hj=>by
     rw[Addr.add_lit,hWc,World.cell?_setCells_out _ _ _ _ _ (fun h _=>absurd h hbN),QMI]
     grind)
   (fun j hj=>by rw[hWc];exact isSome_setCells _ _ _ _ (fun t ht=>hN _ (by omega)) _ (hN _ (by omega)))
   (fun j hj=>by rw[hWf,World.frozen?_setCells];exact hNf _) (fun v hv=>h1c v (QMT hv))
 subst hW1;have hE1:∀ x,((w.alloc (.cells ROW 3)).drew).cell? x=(w.drew.alloc (.cells ROW 3)).cell? x:=fun x=>rfl
 have hE2:∀ x,((w.alloc (.cells ROW 3)).drew).frozen? x=(w.drew.alloc (.cells ROW 3)).frozen? x:=fun x=>rfl
 have hF1:∀ x,(((w.alloc (.cells ROW 3)).drew.setCells w.heap.size i vs).drew).cell? x=((w.drew.alloc (.cells ROW 3)).setCells w.heap.size i vs).cell? x:=fun x=>rfl
 have hF2:∀ x,(((w.alloc (.cells ROW 3)).drew.setCells w.heap.size i vs).drew).frozen? x=((w.drew.alloc (.cells ROW 3)).setCells w.heap.size i vs).frozen? x:=fun x=>rfl
 have hw1:IntKind.i64.wrap ((i:Int)+(m:Int))=(i:Int)+(m:Int):=by rw[IntKind.wrap_i64];omega
 have hb1:(0:Int)<=(i:Int)+(m:Int):=by omega
 have hin:i<=n:=by omega
 have htn:((i:Int)+(m:Int)).toNat=i+m:=by omega
 have hb3:(i:Int)<=(n:Int):=by omega
 clear hkk hik hold hROW hG hRl
 go_enter Tryz.func256,Tryz.ntmps256
 go_wp2_with (first
  | (at_builtin;refine Lib.wpList_append_run _ rfl _ _ _ _ rfl _ _ rfl rfl _ _ (hrz _) ?_)
  | (at_builtin;refine wpList_copy_runI _ rfl _ _ 147 47 rfl _ _ rfl rfl (hcpA _ hE1 hE2 _ _) ?_)
  | (at_builtin;refine wpList_copy_runI _ rfl _ _ 147 147 rfl _ _ rfl rfl (hcpB _ (fun _=>rfl) (fun _=>rfl) _ _ _) ?_))
 go_region_law_o (refine step_copy_runI rfl _ _ 147 147 rfl (.slice (some ⟨w.heap.size,i+m,none⟩) (n+m-(i+m)) (G-(i+m))) (.slice (some ⟨b,off+i,none⟩) (n-i) (c-i)) (by simp[Act.eval,Act.put]) (by simp[Act.eval,Act.put]) (hcpB _ hF1 hF2 3 (G-(i+m)) (c-i)) ?_)
 go_wp2
 go_ret
 exact ⟨rfl,rfl⟩
end Go.Pf
namespace Go.Pf
open Go Go.Ev Go.Proofs Go.RowKit Go.Shelf
set_option maxRecDepth 8000
noncomputable def QFi:TypeInfo:=(Tryz.prog.info? 3).get (by kernel_rfl)
section
variable {K:World->Prop}
theorem Qq0 (zs:List Int) (mv:Nat):QQ Tryz.prog K 259 [.aref 0 zs.length] [(0,Xl zs mv)] [0] (.iv (.tup [])) [(0,Xl zs.reverse zs.length)] :=
 Qd0 (fun a cap w=>AnyE.slices_Reverse_empty Tryz.rev259 a cap w) (fun blk off cap zs w hh hl=>AnyE.slices_Reverse Tryz.rev259 (Value.int .i64) (fun _=>rfl) blk off cap zs w hh hl) zs mv
theorem Qq1 (zs:List Int) (mv i:Nat) (hi:i<zs.length):QQ Tryz.prog K 258 [.aref 0 zs.length,.iv (.int .i64 (i:Nat)),.iv (.int .i64 ((i+1:Nat):Int))] [(0,Xl zs mv)] [] (.iv (Qqn (zs.eraseIdx i))) [] :=
 QgA (fun blk off cap i j d w hh h1 h2 h3 h4=>AnyE.slices_Delete Tryz.del258 (Value.int .i64) (fun _=>rfl) 0 Tryz.zeroValue3 QFi (by kernel_rfl) (by kernel_rfl) blk off cap i j d w hh h1 h2 h3 h4) zs mv i hi
theorem Qq2 (zs:List Int) (mv i:Nat) (hi:i<=zs.length) (x:Int) (mv':Nat) (hlen:zs.length<=1000000):QQ Tryz.prog K 256 [.aref 0 zs.length,.iv (.int .i64 (i:Nat)),.aref 1 1] [(0,Xl zs mv),(1,Xl [x] mv')] [] (.iv (Qqn (zs.take i++x::zs.drop i))) [] :=
 Qga
  (fun b n c i vb vc cs x w h1 h2 h3 h4 h5 h6 h7 h8 h9 h10 h11 tA tB kA kB h12 h13 h14 h15 h16=>QbK b 0 n c i vb 0 1 vc cs [x] w h1 (by omega) h2 h3 h4 h5 rfl h6 h7 h8 h9 h10 h11 tA tB kA kB h12 h13 h14 h15 h16)
  (fun b n c vb vc x w h1 h2 h3 h4 h5 h6=>WC b 0 n c vb 0 1 vc [x] w (by omega) h1 h2 rfl h3 h4 h5 h6)
  (fun base n c vb vc cs x w h1 h2 h3 h4 h5 h6 h7 h8=>WD base n c vb 0 1 vc cs [x] w (by omega) h1 h2 h3 h4 rfl h5 h6 h7 h8)
  (fun b n c i vb vc cs x w h1 h2 h3 h4 h5 h6 h7 h8 h9=>Qcu b 0 n c i vb 0 1 vc cs [x] w h1 (by omega) h2 h3 h4 h5 rfl h6 h7 h8 h9)
  zs mv i hi x mv' hlen
end
end Go.Pf
namespace Go.Pf
open Go Go.Ev Go.Proofs Go.RowKit
variable {K:World->Prop} (hK:∀ w w',K w->Below w.heap.size w w'->K w')
set_option maxRecDepth 8000
def Qtl (i:Nat) (kvs:List (MK × List (List IV))) (n:Nat):List (MK × List (List IV)):=mins (.int .i64 (n:Int)) (((Qw (.int .i64 (n:Int)) kvs).getD [])++[[.int .i64 (i:Nat)]]) kvs
def prf (ds:List Qs) (e:Nat->Int):Nat->List (MK × List (List IV))
 | 0=>[]
 | i+1=>match ds[i]? with
   | some d=>if d.what=4 then (cab ds e i).foldl (Qtl i) (prf ds e i) else prf ds e i
   | none=>prf ds e i
theorem QjH (ds:List Qs) (e:Nat->Int) (i:Nat) (h:i<ds.length):prf ds e (i+1)=if ds[i].what=4 then (cab ds e i).foldl (Qtl i) (prf ds e i) else prf ds e i:=by
 simp only[prf,QLN h]
theorem JI (n:Int) (y:List (List IV)):∀ kvs:List (MK × List (List IV)),ZE (some .i64) kvs->ZE (some .i64) (mins (.int .i64 n) y kvs)
 | [],_=>⟨rfl,trivial⟩
 | p::r,h=>by
   unfold mins;split
   ·exact ⟨rfl,h.2⟩
   ·exact ⟨h.1,JI n y r h.2⟩
theorem VQ (k j:MK) (y:List (List IV)):∀ kvs:List (MK × List (List IV)),Qw j (mins k y kvs)=if k=j then some y else Qw j kvs
 | []=>by simp[mins,Qw]
 | p::r=>by
   unfold mins;split
   ·rename_i h
    simp only[Qw]
    grind
   ·rename_i h
    simp only[Qw,VQ k j y r]
    grind
def Low (m:Nat) (kvs:List (MK × List (List IV))):Prop:=ZE (some .i64) kvs/\∀ k rows,Qw k kvs=some rows->rows.length<=m
theorem Low.add {m i:Nat} {kvs:List (MK × List (List IV))} (h:Low m kvs) (n:Nat):Low (m+1) (Qtl i kvs n):=by
 refine ⟨JI _ _ _ h.1,fun k rows hk=>?_⟩
 unfold Qtl at hk;rw[VQ] at hk;split at hk
 ·injection hk with hk
  subst hk;cases hf:Qw (.int .i64 (n:Int)) kvs with
  | none=>simp
  | some r=>have:=h.2 _ _ hf;simp;omega
 ·have:=h.2 _ _ hk;omega
theorem Low.fold {i:Nat}:∀ (l:List Nat) {m:Nat} {kvs:List (MK × List (List IV))},Low m kvs->Low (m+l.length) (l.foldl (Qtl i) kvs)
 | [],m,kvs,h=>h
 | n::l,m,kvs,h=>by
   have:=Low.fold (i:=i) l (h.add (i:=i) n)
   grind
theorem Low.mono {m m':Nat} {kvs:List (MK × List (List IV))} (h:Low m kvs) (hm:m<=m'):Low m' kvs:=⟨h.1,fun k rows hk=>QMe (h.2 k rows hk) hm⟩
theorem QmR (ds:List Qs) (e:Nat->Int) (hc:OkD ds ds.length):∀ i,i<=ds.length->Low (i*ds.length) (prf ds e i)
 | 0,_=>⟨trivial,fun k rows h=>by simp[prf,Qw] at h⟩
 | i+1,h=>by
   have ih:=QmR ds e hc i (by omega)
   rw[QjH ds e i (by omega)]
   have e1:(i+1)*ds.length=i*ds.length+ds.length:=by grind
   rw[e1];split
   ·have hcl:=Xj e hc i (by omega) (by omega)
    have hcb:=hc.cnt i (by omega) (by omega)
    exact (ih.fold _).mono (by omega)
   ·exact ih.mono (by omega)
theorem Low.len {m:Nat} {kvs:List (MK × List (List IV))} (h:Low m kvs) (k:MK):((Qw k kvs).getD []).length<=m:=by
 cases hf:Qw k kvs with
 | none=>simp
 | some r=>exact h.2 _ _ hf
theorem QhE (ds:List Qs) (i:Nat) (h:i<ds.length):XW (ds.take (i+1))=if ds[i].what=1 then XW (ds.take i)++[ds[i]] else XW (ds.take i):=by
 rw[QLM h];unfold XW;rw[QNu];generalize List.filter ZR (List.take i ds)=l;by_cases hw:ds[i].what=1<;>simp[ZR,hw]
theorem Qne (ds:List Qs) (i:Nat):(XW (ds.take i)).length=wn ds i:=by rw[Yw];rfl
@[simp] def QH4 (kvs:List (MK × List (List IV))):IV:=.map (kvs.map fun p=>(p.1,.sl 1 p.2))
theorem QqX (n:Nat) (z:IV):Qf1 (List.replicate n [AV.iv z])=some (List.replicate n [z]):=by
 have:=Ql (List.replicate n [z]);simpa[emb] using this
theorem Qay (l:List Nat) (mv:Nat):Xl (l.map fun (n:Nat)=>(n:Int)) mv=AO.arr 3 1 (emb (l.map fun (n:Nat)=>[IV.int .i64 (n:Int)])) mv:=by simp[Xl,emb]
theorem Qf9 (l:List Nat):Qqn (l.map fun (n:Nat)=>(n:Int))=Xm l:=by simp[Qqn]
section
variable {K:World->Prop} {C:Env->Qx->Prop}
theorem YI (m:Nat->Nat) (e:TypeId) (sz:Nat) (xs:List (List IV)) (mv:Nat):rnO m (.arr e sz (emb xs) mv)=.arr e sz (emb xs) mv:=QmI m e sz xs mv
theorem Xz (dom:List Nat) (e:TypeId) (sz:Nat) (xs:List (List IV)) (mv:Nat):clO dom (.arr e sz (emb xs) mv)=true:=QoT dom e sz xs mv
theorem QlS {id n mv:Nat} {d:Option Nat} {e:Env} {o:Qx} (l:List Nat) (hid:Qc o id=some (.arr 3 1 (emb (l.map fun (n:Nat)=>[IV.int .i64 (n:Int)])) mv)) (hn:n=l.length)
  (h:C (bnd d (.iv (.tup [])) (QqB (YS [id] [0] o) e)) (Qvu [id] (YS [id] [0] o) o [(0,.arr 3 1 (emb (l.reverse.map fun (n:Nat)=>[IV.int .i64 (n:Int)])) n)])):HK Tryz.prog K 259 [id] d C e o [.aref id n]:=by
 have hg:=Qq0 (K:=K) (l.map fun (n:Nat)=>(n:Int)) mv
 rw[<- List.map_reverse,Qay,Qay,QL6] at hg;subst hn;refine Qi hg (by simp[rn,nth]) ?_ ?_
 ·refine ⟨by simp,by simp[clA],?_,?_,by simp[Zr]⟩
  ·intro p hp
   simp only[QMB] at hp;subst hp;exact ⟨by simp,by rw[YI];simpa[nth] using hid,Xz _ _ _ _ _,rfl⟩
  ·intro i hi h
   simp at hi;subst hi;simp[Qc] at h
 ·simpa[rn] using h
theorem Qdq {id n mv:Nat} {d:Option Nat} {e:Env} {o:Qx} (l:List Nat) (i:Nat) (hi:i<l.length) (hid:Qc o id=some (.arr 3 1 (emb (l.map fun (n:Nat)=>[IV.int .i64 (n:Int)])) mv)) (hn:n=l.length) {avs:List AV} (ha:avs=[.aref id n,.iv (.int .i64 (i:Nat)),.iv (.int .i64 ((i+1:Nat):Int))])
  (h:C (bnd d (.iv (Xm (l.eraseIdx i))) (QqB (YS [id] [] o) e)) (Qvu [id] (YS [id] [] o) o [])):HK Tryz.prog K 258 [id] d C e o avs:=by
 have hg:=Qq1 (K:=K) (l.map fun (n:Nat)=>(n:Int)) mv i (by simpa using hi)
 have e1:(l.map fun (n:Nat)=>(n:Int)).eraseIdx i=(l.eraseIdx i).map fun (n:Nat)=>(n:Int):=by simp[List.eraseIdx_eq_take_drop_succ]
 rw[e1,Qay,Qf9,QL6] at hg;subst hn;refine Qi hg (by rw[ha];simp[rn,nth]) ?_ ?_
 ·refine ⟨by simp,by simp[clA],?_,?_,by simp⟩
  ·intro p hp
   simp only[QMB] at hp;subst hp;exact ⟨by simp,by rw[YI];simpa[nth] using hid,Xz _ _ _ _ _,rfl⟩
  ·intro i hi h
   simp at hi;subst hi;simp[Qc] at h
 ·simpa[rn] using h
theorem Qdp {id id' n mv mv':Nat} {d:Option Nat} {e:Env} {o:Qx} (l:List Nat) (i:Nat) (hi:i<=l.length) (x:Nat) (hlen:l.length<=1000000) (hne:id≠id') (hid:Qc o id=some (.arr 3 1 (emb (l.map fun (n:Nat)=>[IV.int .i64 (n:Int)])) mv)) (hid':Qc o id'=some (.arr 3 1 [[.iv (.int .i64 (x:Nat))]] mv')) (hn:n=l.length)
  (h:C (bnd d (.iv (Xm (l.take i++x::l.drop i))) (QqB (YS [id,id'] [] o) e)) (Qvu [id,id'] (YS [id,id'] [] o) o [])):HK Tryz.prog K 256 [id,id'] d C e o [.aref id n,.iv (.int .i64 (i:Nat)),.aref id' 1]:=by
 have hg:=Qq2 (K:=K) (l.map fun (n:Nat)=>(n:Int)) mv i (by simpa using hi) x mv' (by simpa using hlen)
 have e1:(l.map fun (n:Nat)=>(n:Int)).take i++(x:Int)::(l.map fun (n:Nat)=>(n:Int)).drop i=(l.take i++x::l.drop i).map fun (n:Nat)=>(n:Int):=by simp
 rw[e1,Qay,Qf9,QL6] at hg;subst hn;refine Qi hg (by simp[rn,nth]) ?_ ?_
 ·refine ⟨by simpa using hne,by simp[clA],?_,?_,by simp⟩
  ·intro p hp
   simp only[QLX,QLZ,or_false] at hp;rcases hp with rfl | rfl
   ·exact ⟨by simp,by rw[YI];simpa[nth] using hid,Xz _ _ _ _ _,rfl⟩
   ·exact ⟨by simp,by simpa[nth,rnO,rnL,rn] using hid',by simp[clO,clAL,clA],rfl⟩
  ·intro i hi h
   simp at hi;have:i=0\/i=1:=by omega
   rcases this with rfl | rfl<;>simp[Qc] at h
 ·simpa[rn] using h
end
include hK
theorem Qwf (c:Qn) (n:Nat) (hn:n<2 ^ 63) (hc:OkD c.deeds c.deeds.length) (hl:c.deeds.length<=100) :
  Ev.Good Tryz.prog K 221 [QA c.deeds,.clo 222 [] [.ptr [.int .i64 n],.ptr (VX c)]] (.agg (Vo c.deeds (ZD c.deeds n) (QH4 (prf c.deeds (ZD c.deeds n) c.deeds.length)))):=by
 refine Qb hK QyH (by simp) ?_
 simp;intros
 refine Qj (fun i=>[(1,AV.iv (.clo 222 [] [.ptr [.int .i64 n],.ptr (VX c)])),(4,.loc 4 0),(5,.loc 5 0),(16,AV.iv (QA c.deeds)),(17,AV.iv (.int .i64 c.deeds.length)),(18,AV.iv (IV.int IntKind.i64 (i:Nat)))])
  (fun i=>[(4,AO.box [.iv (.sl 1 []),.iv (.sl 2 []),.iv (.map [])]),(5,AO.box [.aref 13 (i+1),.aref 6001 (XW (c.deeds.take i)).length,.oref 14]),(13,AO.arr 147 1 (emb ((Qib c.deeds (ZD c.deeds n) i).map fun c=>[Xm c])) 0),
    (14,.mapr 3 1 (prf c.deeds (ZD c.deeds n) i) none),(6001,.arr 298 2 (emb ((XW (c.deeds.take i)).map lkC)) 0)]) c.deeds.length (fun i=>True) trivial ?_ ?_
 ·intro _
  rw[Qa Qiu.eq_1];simp[-List.map_map,Qu,QM,QE,Ql,QLQ]
 ·intro i hi _ ih
  have hcl:=Xj (ZD c.deeds n) hc i (by omega) (by omega)
  have hcb:=hc.cnt i (by omega) (by omega)
  have hd:=hc i hi hi;have hw:=Qg0 c.deeds i;have hlw:=Qne c.deeds i;have hlo:=QmR c.deeds (ZD c.deeds n) hc i (by omega)
  have hg202:=Qwe hK c n i hn hi;have hei:=Qko c.deeds n i hi;have hii:i*c.deeds.length<=100*100:=Nat.mul_le_mul (by omega) (by omega)
  rw[QgD,QhE _ _ hi,Vh _ _ _ hi,QjH _ _ _ hi] at ih;rw[Qa Qiu.eq_1]
  have hcg:(Qib c.deeds (ZD c.deeds n) i)[i]?=some (cab c.deeds (ZD c.deeds n) i):=by
   rw[QLN (by simp),QaF _ _ _ _ (by omega)]
  have hcl2:=Qsw c.deeds (ZD c.deeds n) i;generalize ZD c.deeds n i=ei at *;generalize Qib c.deeds (ZD c.deeds n) i=cs at *;generalize prf c.deeds (ZD c.deeds n) i=kvs at *;generalize XW (c.deeds.take i)=lk at *;generalize cab c.deeds (ZD c.deeds n) i=now at *
  have hcg2:cs[i]'(by omega)=now:=by
   grind
  have hnl:now.length<=100:=by omega
  simp[hi,hcl2,hcg2,-List.map_map,Qu,QM,QE,Ql];intro _;refine ⟨by omega,?_⟩
  refine Qxg (rows:=List.replicate now.length [IV.int .i64 0]) (QqX _ _) (by simp) (by simp) ?_
  rcases hd with ⟨h1,h2,h3,h4⟩ | ⟨h1,h2,h3,h4⟩ | ⟨h1,h4⟩
  ·simp only[inR] at h3 h2
   have hp:(if ei=1 then (now.length:Int)+1-1-c.deeds[i].pos else c.deeds[i].pos)=(plc c.deeds[i].pos ei (now.length+1):Nat):=by
    unfold plc;omega
   have hpl:plc c.deeds[i].pos ei (now.length+1)<=now.length:=QmT (by omega)
   have hg214:=QhT hK c.deeds[i].pos ei (now.length+1) (by omega) (by omega)
   rw[hp] at hg214;simp[Jj,h1,<- hlw] at ih;generalize plc c.deeds[i].pos ei (now.length+1)=at_ at *;by_cases hf:c.deeds[i].frm=2
   ·have hg:=hg202 hf
    simp[hi,hf,h1,-List.map_map,Qu,QM,QE,Ql];refine ⟨by kernel_rfl,cK (by simpa using hg) ?_⟩
    simp[hi,hf,h1,-List.map_map,Qu,QM,QE,Ql];intro _;refine ⟨by omega,cK hg214 ?_⟩
    simp[hi,hf,h1,-List.map_map,Qu,QM,QE,Ql];intro _;refine Qdp (mv:=now.length) (mv':=0) now at_ hpl lk.length (by omega) (by simp) (by simp[emb,-List.map_map]) (by simp) rfl ?_
    simp[hi,hf,h1,-List.map_map,Qu,QM,QE,Ql]
    grind
   ·rw[if_neg hf] at hei
    simp[hi,hf,h1,-List.map_map,Qu,QM,QE,Ql];rw[<- hei];intro _;refine ⟨by omega,cK hg214 ?_⟩
    simp[hi,hf,h1,-List.map_map,Qu,QM,QE,Ql];intro _;refine Qdp (mv:=now.length) (mv':=0) now at_ hpl lk.length (by omega) (by simp) (by simp[emb,-List.map_map]) (by simp) rfl ?_
    simp[hi,hf,h1,-List.map_map,Qu,QM,QE,Ql]
    grind
  ·have h11:¬ c.deeds[i].what=1:=by omega
   simp only[inR] at h3 h2
   have hp:(if ei=1 then (now.length:Int)-1-c.deeds[i].pos else c.deeds[i].pos)=(plc c.deeds[i].pos ei now.length:Nat):=by
    unfold plc;split<;>omega
   have hpl:plc c.deeds[i].pos ei now.length<now.length:=QjJ (by omega)
   have hg214:=QhT hK c.deeds[i].pos ei now.length (by omega) (by omega)
   rw[hp] at hg214;simp[Jj,h1] at ih;generalize plc c.deeds[i].pos ei now.length=at_ at *;have he:now.take at_++now.drop (at_+1)=now.eraseIdx at_:=by grind
   rw[<- QNt,<- List.map_drop,<- QL8,he] at ih;by_cases hf:c.deeds[i].frm=2
   ·have hg:=hg202 hf
    simp[hi,hf,h1,-List.map_map,Qu,QM,QE,Ql];refine ⟨by kernel_rfl,cK (by simpa using hg) ?_⟩
    simp[hi,hf,h1,-List.map_map,Qu,QM,QE,Ql];intro _;refine cK hg214 ?_;simp[hi,hf,h1,-List.map_map,Qu,QM,QE,Ql];refine ⟨by omega,?_⟩
    refine Qdq (mv:=now.length) now at_ hpl (by simp[emb,-List.map_map]) rfl (by simp) ?_
    simp[hi,hf,h1,-List.map_map,Qu,QM,QE,Ql]
    grind
   ·rw[if_neg hf] at hei
    simp[hi,hf,h1,-List.map_map,Qu,QM,QE,Ql];rw[<- hei];intro _;refine cK hg214 ?_;simp[hi,hf,h1,-List.map_map,Qu,QM,QE,Ql];refine ⟨by omega,?_⟩
    refine Qdq (mv:=now.length) now at_ hpl (by simp[emb,-List.map_map]) rfl (by simp) ?_
    simp[hi,hf,h1,-List.map_map,Qu,QM,QE,Ql]
    grind
  ·have hf:¬ c.deeds[i].frm=2:=by omega
   rcases h1 with h1 | h1
   ·simp[Jj,h1] at ih
    simp[hi,hf,h1,-List.map_map,Qu,QM,QE,Ql];refine QlS (mv:=now.length) now (by simp[emb,-List.map_map]) rfl ?_
    simp[hi,hf,h1,-List.map_map,Qu,QM,QE,Ql,QLQ]
    grind
   ·simp[Jj,h1] at ih
    simp[hi,hf,h1,-List.map_map,Qu,QM,QE,Ql];intro _
    refine Qj (fun k=>[(1,AV.iv (.clo 222 [] [.ptr [.int .i64 n],.ptr (VX c)])),(4,.loc 4 0),(5,.loc 5 0),(6,AV.iv (IV.int IntKind.i64 (i:Nat))),(8,AV.aref 29 now.length),(16,AV.iv (QA c.deeds)),(17,AV.iv (.int .i64 c.deeds.length)),(18,AV.iv (IV.int IntKind.i64 (i:Nat))),(90,AV.aref 29 now.length),(91,AV.iv (.int .i64 now.length)),(92,AV.iv (.int .i64 (k:Nat)))])
     (fun k=>[(4,AO.box [.iv (.sl 1 []),.iv (.sl 2 []),.iv (.map [])]),(5,AO.box [.aref 13 (i+1),.aref 6001 lk.length,.oref 14]),(13,AO.arr 147 1 (emb (cs.map fun c=>[Xm c])) 0),
       (14,.mapr 3 1 ((now.take k).foldl (Qtl i) kvs) none),(29,AO.arr 3 1 (emb (now.map fun (n:Nat)=>[.int .i64 (n:Int)])) now.length),(6001,AO.arr 298 2 (emb (lk.map lkC)) 0)]) now.length (fun _=>True) trivial ?_ ?_
    ·intro _
     rw[Qa Qiv.eq_1];simp[-List.map_map,Qu,QM,QE,Ql,QLQ]
     grind
    ·intro k hk _ ih2
     rw[Qa Qiv.eq_1];have hlk:Low (i*c.deeds.length+(now.take k).length) ((now.take k).foldl (Qtl i) kvs):=hlo.fold _;rw[QLM hk,QNe] at ih2;generalize (now.take k).foldl (Qtl i) kvs=kv at *;have hkl:(List.take k now).length<=100:=by simp;omega
     have hle:=hlk.len (.int .i64 (now[k]:Nat));have hkk:=hlk.1;have hkk2:=JI (now[k]:Nat) (((Qw (.int .i64 ((now[k]:Nat):Int)) kv).getD [])++[[.int .i64 (i:Nat)]]) kv hkk;have hfm:=VQ (.int .i64 ((now[k]:Nat):Int)) (.int .i64 ((now[k]:Nat):Int)) (((Qw (.int .i64 ((now[k]:Nat):Int)) kv).getD [])++[[.int .i64 (i:Nat)]]) kv;rw[if_pos rfl] at hfm;simp[Qtl] at ih2;simp[hk,hkk,hkk2,hfm,-List.map_map,Qu,QM,QE,Ql]
     grind
def pmC (c:Qn) (n:Nat):IV:=QH4 (prf c.deeds (ZD c.deeds n) c.deeds.length)
theorem Qjk (c:Qn) (hc:OkC c):QgR K c (pmC c):=fun n hn=>by
 have h:=hc.len;have h2:=W9 c.deeds;have h3:=Wl (show ZB c.deeds<=12 by omega)
 exact Qwf hK c n (by omega) hc.deeds (by omega)
end Go.Pf
namespace Go.Pf
open Go Go.Proofs Go.RowKit Go.Maps Go.Sort Go.Shelf
variable {P:Program} {ρ:Ren}
set_option maxRecDepth 100000 in
set_option maxHeartbeats 1000000 in
theorem QeO (L:SlLaysZI.n10 P ρ) {H:Type} (F:Fence) (n:Nat) (h10:F.fn (ρ.f 10)) (hro:F.round=none) (hn:1<=n) (l Bm om b nn:Nat) (D0:DataW H) {R:Value->Option (DataW H × List MemPlace)} (J:List Int->World->Prop)
  (hY:∀ pre x W,J pre W->pre.length<Maps.size D0->YieldAt F (n-1) P l #[encZ x] W fun e W'=>e=.returned (.bool true)/\J (pre++[x]) W'/\KeepsWalks W W')
  (W:World) (hJ:AbidesFrom W.heap.size J) (hm:W.cell? ⟨Bm,om,none⟩=some (.map (some b))) (hown:W.ownsMap P (ρ.t 26) R b nn D0) (h0:J [] W) :
  CallsIn F n P (ρ.f 10) #[.func (.yield l) #[] #[],.pointer (some ⟨Bm,om,none⟩)] W fun e W'=>(∃ v,e=.returned v)/\∃ ss:List Int,ss.Perm (intKeys D0)/\J ss W':=by
 have mixed:=L.mixed;have t0:=L.t0;have a0:=L.a0;have z0:=L.z0;have v0:=L.v0;have t4:=L.t4;have a4:=L.a4;have z4:=L.z4;have v4:=L.v4;have t23:=L.t23;have a23:=L.a23;have z23:=L.z23;have v23:=L.v23;have t26:=L.t26;have a26:=L.a26;have z26:=L.z26;have v26:=L.v26;have t33:=L.t33;have a33:=L.a33;have z33:=L.z33;have v33:=L.v33;have u0:=run_underlying L.t0;have u4:=run_underlying L.t4;have u23:=run_underlying L.t23;have u26:=run_underlying L.t26;have u33:=run_underlying L.t33;obtain ⟨_,_,FG⟩:=L.f10;refine callsIn_of_wp FG rfl h10 ?_ hro;simp only[SlBodyZ.n10_ntmps ρ,QM9,QMa,QMs,Nat.reduceAdd,Nat.reduceSub,Array.replicate_succ,Array.replicate_zero,List.push_toArray,List.append_toArray,QL4,QL1]
 gi_wp2_with (first
  | (gi_at_range;refine wpListIn_range_own _ rfl _ (ρ.t 23) rfl (ρ.t 26) (ρ.t 3) (int_keyed L.t26) L.t23 _ b nn _ rfl hown ?_;intro w0 hrg0 hg0 hs0)
  | gi_in)
 go_frame
 gi_loopw [3] (fun _ wr=>∃ (left:Lit->Bool) (cnt:Nat) (ss:List Int),wr.ranges P (ρ.t 26) R b W.heap.size nn D0 left cnt/\ss.length+cnt<=Maps.size D0/\CollectedI D0 left ss/\J ss wr)
  (fun _ wr=>wr.rangeLeft b W.heap.size)
 case atStart =>
  exact ⟨_,_,[],hrg0,by simp,CollectedI.start D0,hJ [] W w0 none h0 hg0 (fun r e=>by cases e)⟩
 case round =>
  obtain ⟨left,cnt,ss,hrg,hcs,hC,hJs⟩:=hrel
  gi_wp2_with (first
   | (gi_at_next;refine wpListIn_next_ranges _ rfl _ rfl (ρ.t 26) (int_keyed L.t26) R encZ id (fun key kl hk=>by obtain ⟨x,hx,_⟩:=Maps.keyOf_i64 L.t26 hk;exact ⟨x,hx⟩) (fun v _ _=>⟨v,rfl⟩) b W.heap.size nn _ _ _ rfl hrg ?_ ?_)
   | gi_in)
  ·
   intro hc0 hl0
   gi_wp2
   go_end0
   exact ⟨⟨_,rfl⟩,ss,hC.perm hown (int_keyed L.t26) L.t26 hl0,hJs⟩
  ·
   intro x c kl yd yp w2 cnt2 hkey hlk hv hat hrg2 hlt hg2 hs2 hen;obtain ⟨x',ex,rfl,_⟩:=Maps.keyOf_i64 L.t26 hkey;obtain rfl:x=x':=encZ_inj ex;have hJ2:J ss w2:=hJ ss wr w2 (some W.heap.size) hJs hg2 (fun r e=>by cases e;exact ⟨QLS _,hrg.iter_walk⟩)
   obtain ⟨fn,tmps,assign,body,hy,hR⟩:=hY ss x w2 hJ2 (by omega)
   clear hs2
   gi_wp2
   refine hR.mono ?_
   rintro e W3 ⟨rfl,hJ3,hk3⟩
   gi_wp2
   have hrg3:=hrg2.of_walks hk3
   go_roundw
   case rel=>exact ⟨_,cnt2,ss++[x],hrg3,by simp;omega,hC.step hlk hat,hJ3⟩
   case measure=>rw[hrg3.left_eq,hrg.left_eq];exact hlt
set_option maxRecDepth 100000 in
set_option maxHeartbeats 1000000 in
theorem UB (L:SlLaysZI.n10 P ρ) {H:Type} (F:Fence) (n:Nat) (h10:F.fn (ρ.f 10)) (hro:F.round=none) (hn:1<=n) (Bm om b nn:Nat) (D0:DataW H) {R:Value->Option (DataW H × List MemPlace)} (w:World) (hBm:Bm<w.heap.size)
  (hm:w.cell? ⟨Bm,om,none⟩=some (.map (some b))) (hown:w.ownsMap P (ρ.t 26) R b nn D0) :
  SeqGives F n P (ρ.f 10) #[.pointer (some ⟨Bm,om,none⟩)] encZ (fun ss=>ss.Perm (intKeys D0)) (Maps.size D0) w:=fun l J W hW hJ hY h0=>by
 have hown':W.ownsMap P (ρ.t 26) R b nn D0:=by
  have hbl:=hown.lt;obtain ⟨es,clock,hb,Ft,hs,hD⟩:=hown;exact ⟨es,clock,(hW.block b hbl).trans hb,Ft,hs,hD⟩
 exact QeO { L with } F n h10 hro hn l Bm om b nn D0 J hY W hJ ((hW.cell (p:=⟨Bm,om,none⟩) hBm).trans hm) hown' h0
set_option maxRecDepth 100000 in
set_option maxHeartbeats 1000000 in
theorem Qah (L:SlLaysZI.n10 P ρ) (F:Fence) (n:Nat) (h10:F.fn (ρ.f 10)) (hro:F.round=none) (l Bm om:Nat) (J:List Int->World->Prop) (W:World) (hJ:AbidesFrom W.heap.size J)
  (hm:W.cell? ⟨Bm,om,none⟩=some (.map none)) (h0:J [] W) :
  CallsIn F n P (ρ.f 10) #[.func (.yield l) #[] #[],.pointer (some ⟨Bm,om,none⟩)] W fun e W'=>(∃ v,e=.returned v)/\∃ ss:List Int,ss=[]/\J ss W':=by
 have mixed:=L.mixed;have t0:=L.t0;have a0:=L.a0;have z0:=L.z0;have v0:=L.v0;have t4:=L.t4;have a4:=L.a4;have z4:=L.z4;have v4:=L.v4;have t23:=L.t23;have a23:=L.a23;have z23:=L.z23;have v23:=L.v23;have t26:=L.t26;have a26:=L.a26;have z26:=L.z26;have v26:=L.v26;have t33:=L.t33;have a33:=L.a33;have z33:=L.z33;have v33:=L.v33;have u0:=run_underlying L.t0;have u4:=run_underlying L.t4;have u23:=run_underlying L.t23;have u26:=run_underlying L.t26;have u33:=run_underlying L.t33;obtain ⟨_,_,FG⟩:=L.f10;refine callsIn_of_wp FG rfl h10 ?_ hro;simp only[SlBodyZ.n10_ntmps ρ,QM9,QMa,QMs,Nat.reduceAdd,Nat.reduceSub,Array.replicate_succ,Array.replicate_zero,List.push_toArray,List.append_toArray,QL4,QL1];have hrg:=run_range_nilMap (P:=P) W (ρ.t 23) (ρ.t 26) (ρ.t 3) L.t23;have hnx:∀ ty,(Instr.next (.pointer (some ⟨W.heap.size,0,none⟩)) false ty).run P (W.alloc (.mapIter none 0 #[] 0))=_:=fun ty=>run_next_nilMap _ ty 0 0 #[]
 gi_wp2
 refine wpIn_loop_rounds 1 ?_;rw[roundsIn_succ]
 gi_wp2
 go_end0
 exact ⟨⟨_,rfl⟩,[],rfl,hJ [] W _ none h0 (World.grownBy_alloc W _ none) (fun r e=>by cases e)⟩
set_option maxRecDepth 100000 in
set_option maxHeartbeats 1000000 in
theorem Jh (L:SlLaysZI.n10 P ρ) (F:Fence) (n:Nat) (h10:F.fn (ρ.f 10)) (hro:F.round=none) (Bm om:Nat) (w:World) (hBm:Bm<w.heap.size) (hm:w.cell? ⟨Bm,om,none⟩=some (.map none)) :
  SeqGives F n P (ρ.f 10) #[.pointer (some ⟨Bm,om,none⟩)] encZ (fun ss:List Int=>ss=[]) 0 w:=fun l J W hW hJ _ h0 =>
 Qah { L with } F n h10 hro l Bm om J W hJ ((hW.cell (p:=⟨Bm,om,none⟩) hBm).trans hm) h0
end Go.Pf
namespace Go.Proofs
open Go.Shelf Go.RowKit Go.Maps Go.Sort
theorem Tryz.sorts149 (m:Nat):AnyZI.SortsIn Tryz.prog Tryz.sorted84_ren Fence.wide m :=
 ⟨fun blk off cap ss W hH hblk hsz=>callsIn_wide.2 (AnyM.slices_Sort_int Tryz.sort149 blk off cap ss W hH hblk hsz),
  fun p cap W=>callsIn_wide.2 (AnyM.slices_Sort_int_none Tryz.sort149 p cap W)⟩
end Go.Proofs
namespace Go.Pf
open Go Go.Ev Go.Proofs Go.RowKit Go.Shelf
set_option maxRecDepth 8000
theorem qE (lb:Array Value) (S:List Int->Prop) (N:Nat) (hN:N<=1000000) (w:World) (hseq:SeqGives Fence.wide 2 Tryz.prog 150 lb encZ S N w) :
  Calls Tryz.prog 84 #[.func (.func 150) #[] lb] w fun e w'=>∃ (v:Value) (ss:List Int),e=.returned v/\S ss /\
   w'.ownsRow w.heap.size 3 1 v ss.length ((ss.mergeSort (fun x y=>decide (x<=y))).map encZ)/\(v=.slice none 0 0↔ss=[])/\Below w.heap.size w w':=by
 refine (callsIn_wide (n:=5)).1 ?_;exact AnyZI.sorted_in Tryz.sorted84 Fence.wide 5 trivial trivial trivial trivial rfl (by omega) (Tryz.sorts149 _) (enters_of Tryz.func149 (by kernel_rfl) rfl) 150 lb trivial (enters_of Tryz.func150 (by kernel_rfl) rfl) S N (by unfold maxLen;omega) (by omega) w hseq
theorem insert_perm {H:Type} (x:Lit × DataW H):∀ l:List (Lit × DataW H),(DataW.insert x l).Perm (x::l)
 | []=>List.Perm.refl _
 | y::r=>by
   unfold DataW.insert;split
   ·exact List.Perm.refl _
   ·exact ((insert_perm x r).cons y).trans (List.Perm.swap x y r)
theorem sorted_perm {H:Type}:∀ l:List (Lit × DataW H),(l.foldr DataW.insert []).Perm l
 | []=>List.Perm.refl _
 | x::r=>by
   rw[List.foldr_cons];exact (insert_perm x _).trans ((sorted_perm r).cons x)
def QgW:Value->Option (DataW Nat × List MemPlace):=fun _=>some (.nil,[])
theorem QtJ {x:MapEntry} {n:Int} (h:x.key=.int .i64 n) (hn : -9223372036854775808<=n/\n<9223372036854775808):WideElems.rd Tryz.prog 3 QgW x=some (.int .i64 n,.nil):=by
 have hw:(Lit.int .i64 n).wf=true:=by
  have h1:=hn.1;have h2:=hn.2;simp[Lit.wf,IntKind.inR,IntKind.min,IntKind.max,IntKind.bits,IntKind.signed];omega
 simp[WideElems.rd,h,QgW,keyOf,Tryz.underlying3,mapKey,hw]
section
variable {K:World->Prop}
theorem QBr (kvs:List (MK × IV)) (ks:List Int) (hk:kvs.map (·.1)=ks.map (fun x=>MK.int .i64 x)) (hwf:∀ x∈ks,-9223372036854775808<=x/\x<9223372036854775808) (hlen:ks.length<=1000000) :
  Ev.Good Tryz.prog K 84 [.clo 150 [] [.ptr [.map kvs]]] (Zd (ks.mergeSort fun x y=>decide (x<=y))):=by
 intro w ok vs hK hnew hl hvs
 obtain ⟨v0,rfl⟩:∃ v0,vs=[v0]:=by
  match vs,hl with
  | [v],_=>exact ⟨v,rfl⟩
 have hrep:=hvs 0 _ v0 rfl rfl
 have fin:∀ (v:Value) (w':World) (ss:List Int),ss.Perm ks->w'.ownsRow w.heap.size 3 1 v ss.length ((ss.mergeSort (fun x y=>decide (x<=y))).map encZ)->Below w.heap.size w w' ->
   ∃ v1,Ending.returned v=.returned v1/\QY ok w' (Zd (ks.mergeSort fun x y=>decide (x<=y))) v1/\Below w.heap.size w w':=fun v w' ss hp ho hb=>by
  refine ⟨v,rfl,?_,hb⟩;have e1:ss.mergeSort (fun x y=>decide (x<=y))=ks.mergeSort fun x y=>decide (x<=y):=mergeSort_of_perm_i hp
  rw[e1] at ho;have hl2:ss.length=ks.length:=hp.length_eq;have e3:(ks.mergeSort fun x y=>decide (x<=y)).length=ss.length:=by simp[hl2]
  generalize (ks.mergeSort fun x y=>decide (x<=y))=zs at *
  obtain ⟨h1,h2 | ⟨g,cap,cur,h2,h3,h4,h5,h6,h7,h8⟩⟩:=ho
  ·obtain ⟨rfl,h2⟩:=h2
   have:zs=[]:=QLV (by omega)
   subst this;exact .nils _
  ·subst h2
   rw[<- e3];refine Wg zs g cap (by omega) h6 (hnew g h3) fun j z hj=>?_
   have hjl:=(QLO.1 hj).1;have:(cur.toList.take (ss.length*1))[j]?=some (.int .i64 z):=by grind
   rw[QMw,if_pos (by omega)] at this
   simp only[World.cell?,h4];simpa using this
 cases hrep with
 | clo _ _ _ us vs' h1 h2 hf hc =>
   obtain rfl:us=[]:=QLV h1
   obtain ⟨p,rfl⟩:∃ p,vs'=[p]:=by
    match vs',h2 with
    | [v],_=>exact ⟨v,rfl⟩
   have hp:=hc 0 _ p rfl rfl;cases hp with
   | ptr _ b off u hu hx =>
     have hcell:=(hu 0 (by simp)).2.1
     rw[QMV] at hcell;have hbw:b<w.heap.size:=QMD w ⟨b,off,none⟩ hcell;have hm:=hx 0 _ rfl;generalize u 0=u0 at hcell hm;cases hm with
     | mapn =>
       have hk0:ks=[]:=by simpa using hk.symm
       subst hk0;refine (qE _ _ 0 (by omega) w (Jh (ρ:=Tryz.keys85_ren) { Tryz.keys85 with } Fence.wide 2 trivial rfl b off w hbw hcell)).mono ?_
       grind
     | map _ r es clock hok hr hmr hd hxx =>
       have hks:kvs.length=ks.length:=by simpa using congrArg List.length hk
       have hkey:∀ (i:Nat) (x:MapEntry),es[i]?=some x->∃ n:Int,ks[i]?=some n/\x.key=.int .i64 n:=fun i x hx=>by
        obtain ⟨k,h3,h4⟩:=hmr.keys i x hx;rw[<- QLW,hk,QLW,QLT] at h3;obtain ⟨n,h5,rfl⟩:=h3;exact ⟨n,h5,h4⟩
       have hrd:∀ (i:Nat) (x:MapEntry),es[i]?=some x->∃ n:Int,ks[i]?=some n/\x.key=.int .i64 n/\WideElems.rd Tryz.prog 3 QgW x=some (.int .i64 n,.nil):=fun i x hx=>by
        obtain ⟨n,h3,h4⟩:=hkey i x hx;exact ⟨n,h3,h4,QtJ h4 (hwf n (QL2 h3))⟩
       have hlist:es.toList.map (fun x=>intOf (WideElems.rg Tryz.prog 3 QgW x).1)=ks:=by
        refine List.ext_getElem? fun i=>?_
        rw[QLW];cases hx:es[i]? with
        | none =>
          have:es.size<=i:=by
           grind
          have hz:=hmr.size
          grind
        | some x =>
          obtain ⟨n,h3,h4,h5⟩:=hrd i x hx;rw[Array.getElem?_toList,hx,h3];simp[WideElems.rg,h5,intOf]
       have hown:w.ownsMap Tryz.prog 3 QgW r ks.length (DataW.map ((es.toList.map (WideElems.rg Tryz.prog 3 QgW)).foldr DataW.insert [])):=by
        refine ⟨es,clock,hr,⟨by have:=hmr.size;unfold maxLen;omega,⟨fun x hx=>?_,?_,?_⟩,fun x hx=>?_⟩,by grind,rfl⟩
        ·obtain ⟨i,hi⟩:=QMp hx
         exact hmr.born i x (by simpa using hi)
        ·rw[List.nodup_iff_pairwise_ne] at *
         refine QMZ.2 fun i j hi hj hij heq=>?_
         simp at hi hj heq;have:=hmr.apart i j es[i] es[j] (by simp[hi]) (by simp[hj]) heq
         omega
        ·refine QMZ.2 fun i j hi hj hij heq=>?_
         simp at hi hj heq;obtain ⟨k1,h3,h4⟩:=hmr.keys i es[i] (by simp[hi])
         obtain ⟨k2,h5,h6⟩:=hmr.keys j es[j] (by simp[hj])
         rw[QLT] at h3 h5;obtain ⟨p,h7,rfl⟩:=h3;obtain ⟨q,h8,rfl⟩:=h5;rw[h4,h6] at heq
         have:p.1=q.1:=by
          cases hp1:p.1<;>cases hq1:q.1<;>rw[hp1,hq1] at heq<;>simp[MK.val] at heq |-<;>simp_all
         grind
        ·obtain ⟨i,hi⟩:=QMp hx
         grind
       have hperm:(intKeys (DataW.map ((es.toList.map (WideElems.rg Tryz.prog 3 QgW)).foldr DataW.insert []))).Perm ks:=by
        have:=(sorted_perm (es.toList.map (WideElems.rg Tryz.prog 3 QgW))).map fun p=>intOf p.1
        rw[List.map_map] at this;refine this.trans ?_;rw[show es.toList.map ((fun p=>intOf p.1)∘WideElems.rg Tryz.prog 3 QgW)=ks from hlist]
       have hsz:=hown.size_le;refine (qE _ _ _ (by omega) w (UB (ρ:=Tryz.keys85_ren) { Tryz.keys85 with } Fence.wide 2 trivial rfl (by omega) b off r _ _ w hbw hcell hown)).mono ?_
       grind
end
end Go.Pf
namespace Go.Pf
open Go Go.Ev Go.Proofs Go.RowKit
variable {K:World->Prop} (hK:∀ w w',K w->Below w.heap.size w w'->K w')
set_option maxRecDepth 8000
theorem X7 {α:Type} {p:List α->Prop} (h0:p []) (h1:∀ l x,p l->p (l++[x])) (l:List α):p l:=by
 have:∀ r:List α,p r.reverse:=by
  intro r
  induction r with
  | _=>grind
 have h:=this l.reverse
 grind
def QbL:List (Int × Nat)->Int->List (Int × Nat)
 | [],x=>[(x,1)]
 | p::r,x=>if p.1=x then (x,p.2+1)::r else p::QbL r x
def QbU:List (Int × Nat)->Int->Nat
 | [],_=>0
 | p::r,x=>if p.1=x then p.2 else QbU r x
def Qaf (l:List (Int × Nat)):List (MK × IV):=l.map fun p=>(.int .i64 p.1,.int .i64 (p.2:Nat))
theorem JN (x:Int):∀ l,(Qw (.int .i64 x) (Qaf l)).getD (.int .i64 0)=.int .i64 (QbU l x:Nat)
 | []=>rfl
 | p::r=>by
   by_cases h:p.1=x
   ·simp[Qaf,Qw,QbU,h]
   ·have:=JN x r
    simp[Qaf,Qw,QbU,h] at this |-;exact this
theorem WL (x:Int):∀ l,mins (.int .i64 x) (.int .i64 ((QbU l x:Nat)+1)) (Qaf l)=Qaf (QbL l x)
 | []=>by simp[Qaf,mins,QbU,QbL]
 | p::r=>by
   by_cases h:p.1=x
   ·simp[Qaf,mins,QbU,QbL,h]
   ·have:=WL x r
    simp[Qaf,mins,QbU,QbL,h] at this |-;exact this
theorem Yz:∀ l,ZE (some .i64) (Qaf l)
 | []=>trivial
 | _::r=>⟨rfl,Yz r⟩
theorem Qka (x y:Int):∀ l,QbU (QbL l x) y<=QbU l y+1
 | []=>by simp[QbL,QbU];split<;>omega
 | p::r=>by
   unfold QbL;split
   ·simp only[QbU];grind
   ·simp only[QbU]
    split
    ·omega
    ·exact Qka x y r
def XX (l:List Int):List (Int × Nat):=l.foldl QbL []
theorem XR (l:List Int) (x:Int):XX (l++[x])=QbL (XX l) x:=by simp[XX]
theorem Qev (y:Int):∀ l:List Int,QbU (XX l) y<=l.length:=by
 refine X7 (by simp[XX,QbU]) fun l x ih=>?_
 rw[XR];have:=Qka x y (XX l);simp;omega
def YG (l:List Int):List Int:=((XX l).map (·.1)).mergeSort fun x y=>decide (x<=y)
theorem Qel (x y:Int):∀ l,y∈(QbL l x).map (·.1)↔y∈l.map (·.1)\/y=x
 | []=>by simp[QbL]
 | p::r=>by
   unfold QbL;split
   ·grind
   ·have:=Qel x y r
    grind
theorem Qc7 (x:Int):∀ l,(l.map (·.1)).Nodup->((QbL l x).map (·.1)).Nodup
 | [],_=>by simp[QbL]
 | p::r,h=>by
   rw[QMb,QNs] at h;unfold QbL;split
   ·grind
   ·rename_i hp
    rw[QMb,QNs];refine ⟨fun hb=>?_,Qc7 x r h.2⟩
    rcases (Qel x p.1 r).1 hb with hb | hb
    all_goals grind
theorem Qkt (y:Int):∀ l:List Int,y∈(XX l).map (·.1)↔y∈l:=by
 refine X7 (by simp[XX]) fun l x ih=>?_
 rw[XR,Qel,ih];simp
theorem QlQ:∀ l:List Int,((XX l).map (·.1)).Nodup:=by
 refine X7 (by simp[XX]) fun l x ih=>?_
 rw[XR];exact Qc7 x _ ih
theorem Qj0 (x:Int):∀ k,(QbL k x).length<=k.length+1
 | []=>by simp[QbL]
 | p::r=>by
   have:=Qj0 x r;unfold QbL
   grind
theorem Qku:∀ l:List Int,(XX l).length<=l.length:=by
 refine X7 (by simp[XX]) fun l x ih=>?_
 rw[XR];have:=Qj0 x (XX l);simp;omega
theorem Jy (y:Int) (l:List Int):y∈YG l↔y∈l:=by
 unfold YG;rw[List.mem_mergeSort,Qkt]
theorem Jx (l:List Int):(YG l).Pairwise (·<·):=by
 have h1:=List.pairwise_mergeSort (le:=fun x y:Int=>decide (x<=y)) (fun a b c h1 h2=>by simp at *;omega) (fun a b=>by simp;omega) ((XX l).map (·.1))
 have h2:(((XX l).map (·.1)).mergeSort (fun x y:Int=>decide (x<=y))).Nodup:=(List.mergeSort_perm ((XX l).map (·.1)) (fun x y:Int=>decide (x<=y))).nodup_iff.2 (QlQ l)
 have h3:=h1.and h2;refine h3.imp fun {a b} h=>?_
 grind
theorem Qhr:∀ {l l':List Int},l.Pairwise (·<·)->l'.Pairwise (·<·)->(∀ x,x∈l↔x∈l')->l=l'
 | [],[],_,_,_=>rfl
 | [],b::l',_,_,h=>absurd ((h b).2 (by simp)) (by simp)
 | a::l,[],_,_,h=>absurd ((h a).1 (by simp)) (by simp)
 | a::l,b::l',h1,h2,h=>by
   rw[List.pairwise_cons] at h1 h2
   have hab:a=b:=by
    have p1:=(h a).1 (by simp)
    have p2:=(h b).2 (by simp)
    grind
   subst hab;refine congrArg (a::·) (Qhr h1.2 h2.2 fun x=>?_)
   grind
include hK
theorem QnG (kvs:List (MK × IV)):Ev.Good Tryz.prog K 85 [.map kvs] (.clo 150 [] [.ptr [.map kvs]]):=by
 refine Qb hK QCn (by simp) ?_
 simp
omit hK in
theorem qq (l:List Int) (hw:∀ x∈l,-1000000<=x/\x<=1000000) (hl:l.length<=1000000):Ev.Good Tryz.prog K 84 [.clo 150 [] [.ptr [.map (Qaf (XX l))]]] (Zd (YG l)):=by
 have hlen:(XX l).length<=l.length:=by
  exact Qku l
 refine QBr (K:=K) (Qaf (XX l)) ((XX l).map (·.1)) (by simp[Qaf]) (fun x hx=>?_) (by simp;omega)
 have:=hw x ((Qkt x l).1 hx);omega
theorem QtQ (c:Qn) (hl:c.deeds.length<=1000) (hs:c.sights.length<=1000) (g1:FuncId) (cs1:List IV) (is:Bool) (hg1:OkC c->Ev.Good Tryz.prog K g1 ([.int .i64 (Xw c.deeds),.int .i64 (Ql1 c.deeds)]++cs1) (.bool is)) (hc1:callee Tryz.prog g1=true)
  (g2:FuncId) (cs2:List IV) (v:Nat->Int) (hg2:OkC c->is=true->∀ n∈QX c,Ev.Good Tryz.prog K g2 ([.agg (Vo c.deeds (ZD c.deeds n) (pmC c n))]++cs2) (.int .i64 (v n))) (hc2:callee Tryz.prog g2=true) (hv:OkC c->is=true->∀ n∈QX c,-1000000<=v n/\v n<=1000000) :
  Ev.Good Tryz.prog K 77 [chV c,.clo g1 [] cs1,.clo g2 [] cs2] (.tup [Zd (if Yo c is=0 then YG ((QX c).map v) else []),.int .i64 (Yo c is)]):=by
 refine Qb hK QCu (by simp) ?_
 simp;refine cK (by simpa using QwC hK c (pmC c) (Qjk hK c) g1 [] cs1 is (fun h=>by simpa using hg1 h) hc1 hl hs) ?_
 by_cases he:Yo c is=0
 ·have h1:OkC c:=by
   unfold Yo at he
   grind
  have h2:is=true:=by
   unfold Yo at he
   grind
  have hlen:(QX c).length<=4096:=by
   have h1':=QMg (fun n=>decide ((QZ c.deeds c.sights (ZD c.deeds n):Int)<=c.wrong)) (List.range (2 ^ ZB c.deeds))
   have h2':=Wl (n:=ZB c.deeds) (by have:=W9 c.deeds;have:=h1.len;omega)
   simp at h1';unfold QX;omega
  have hG:=hg2 h1 h2;have hV:=hv h1 h2;clear hg2 hv hg1;subst h2;simp[he,h1];refine Zc (wy:=.fall) (o':=[(10,.box [.oref 21]),(21,.mapd (Qaf (XX ((QX c).map v))))]) rfl (by kernel_rfl) (qn hK c h1 (pmC c) (Qjk hK c h1)) ?_ ?_
  ·have:=UC.all (P:=Tryz.prog) (K:=K) (ps:=[24]) (asn:=Qic) (body:=Qo5) (ks:=[5,10]) (ids:=[10,21]) (eK:=[(5,.iv (.ptr [.clo g2 [] cs2])),(10,.loc 10 0)]) ((QX c).map (XK c.deeds (pmC c)))
    (fun i=>[(10,.box [.oref 21]),(21,.mapd (Qaf (XX (((QX c).map v).take i))))]) fun i x hi=>by
    simp only[QLW,QLT] at hi;obtain ⟨y,hy,rfl⟩:=hi;have hlt:=(QLO.1 hy).1
    have hyv:((QX c).map v)[i]'(by simpa using hlt)=v y:=by
     grind
    have hg:=hG y (QL2 hy);refine ⟨rfl,?_⟩;rw[QLM (by simpa using hlt),XR,hyv]
    have hle:=Qev (v y) (((QX c).map v).take i);have hkk:=Yz (XX (((QX c).map v).take i));have hf:=JN (v y) (XX (((QX c).map v).take i));have hi:=WL (v y) (XX (((QX c).map v).take i));have hle2:(((QX c).map v).take i).length<=4096:=by simp;omega
    generalize XX (((QX c).map v).take i)=kv at *;simp[XK,Qic,Qo5];refine ⟨hc2,cK (by simpa using hg) ?_⟩
    simp[hkk,hf,hi];omega
   simpa[XX,Qaf,QLQ] using this
  ·simp
   refine cK (by simpa using QnG hK (Qaf (XX ((QX c).map v)))) ?_
   simp;refine cK (qq ((QX c).map v) (fun x hx=>?_) (by simp;omega)) ?_
   ·grind
   ·simp
 ·by_cases h1:OkC c<;>cases is<;>simp[he,h1]
def Qmf (c:Qn) (pos:Int) (n:Nat):Int:=((cab c.deeds (ZD c.deeds n) c.deeds.length).getD pos.toNat 0:Nat)
theorem QnQ (c:Qn) (pos:Int) (hl:c.deeds.length<=1000) (hs:c.sights.length<=1000) :
  Ev.Good Tryz.prog K 29 [chV c,.int .i64 pos] (.tup [Zd (if Yo c (decide (inR pos 0 (Xw c.deeds-1)))=0 then YG ((QX c).map (Qmf c pos)) else []),.int .i64 (Yo c (decide (inR pos 0 (Xw c.deeds-1))))]):=by
 refine Qb hK QDe (by simp) ?_
 simp;refine cK (by simpa using QBw hK pos) ?_
 simp
 have hcl:∀ n,OkC c->((cab c.deeds (ZD c.deeds n) c.deeds.length).length:Int)=Xw c.deeds:=fun n h=>by
  rw[Xj _ h.deeds _ (QLS _) (QLS _)];rfl
 have hg:=QtQ hK c hl hs 146 [.ptr [.int .i64 pos]] (decide (inR pos 0 (Xw c.deeds-1))) (fun h=>by
   have:=hcl 0 h;have h2:=h.deeds.cnt c.deeds.length (QLS _) (QLS _);have h3:=Xj (ZD c.deeds 0) h.deeds c.deeds.length (QLS _) (QLS _);simpa using QwB hK (Xw c.deeds) (Ql1 c.deeds) pos (by omega)) (by kernel_rfl) 79 [.ptr [.int .i64 pos]] (Qmf c pos) (fun h hi n _=>by
   have h3:=hcl n h;have hi:=of_decide_eq_true hi;simp only[inR] at hi;have h4:pos=((pos.toNat:Nat):Int):=by omega
   have h5:pos.toNat<(cab c.deeds (ZD c.deeds n) c.deeds.length).length:=by omega
   have h6:=QBv hK c.deeds (ZD c.deeds n) (pmC c n) hl pos.toNat h5;rw[<- h4] at h6;have h7:(cab c.deeds (ZD c.deeds n) c.deeds.length).getD pos.toNat 0=(cab c.deeds (ZD c.deeds n) c.deeds.length)[pos.toNat]:=by grind
   unfold Qmf
   grind) (by kernel_rfl) (fun h hi n _=>by
   have h3:=hcl n h;have hi:=of_decide_eq_true hi;simp only[inR] at hi;have h5:pos.toNat<(cab c.deeds (ZD c.deeds n) c.deeds.length).length:=by omega
   have h7:(cab c.deeds (ZD c.deeds n) c.deeds.length).getD pos.toNat 0=(cab c.deeds (ZD c.deeds n) c.deeds.length)[pos.toNat]:=by grind
   have h8:=qV c.deeds (ZD c.deeds n) c.deeds.length _ (QLR h5);have h9:=Qg0 c.deeds c.deeds.length;unfold Qmf;omega)
 refine cK (by simpa using hg) ?_
 simp
omit hK in
theorem Qmw (x:Int):YG [x]=[x]:=by simp[YG,XX,QbL]
omit hK in
theorem Qk6 (c:Qn) (hc:OkC c) (h2:ZB c.deeds=0) (hs:c.sights=[]):QX c=[0]:=by
 have:=hc.wrong;simp only[inR] at this;simp[QX,h2,hs,QZ,this]
theorem Qwn (c:Qn) (hc:OkC c) (h2:ZB c.deeds=0) (hs:c.sights=[]):Ev.Good Tryz.prog K 211 [chV c] (Xm (cab c.deeds (ZD c.deeds 0) c.deeds.length)):=by
 have hl:=hc.len;have hr:=Qk6 c hc h2 hs;have hcl:=Xj (ZD c.deeds 0) hc.deeds c.deeds.length (QLS _) (QLS _);have hcb:=hc.deeds.cnt c.deeds.length (QLS _) (QLS _);have hcl2:Xw c.deeds=((cab c.deeds (ZD c.deeds 0) c.deeds.length).length:Int):=hcl.symm
 have hw:∀ i:Nat,i<(cab c.deeds (ZD c.deeds 0) c.deeds.length).length->Ev.Good Tryz.prog K 29 [chV c,.int .i64 i] (.tup [Zd [((cab c.deeds (ZD c.deeds 0) c.deeds.length).getD i 0:Nat)],.int .i64 0]):=fun i hi=>by
  have:=QnQ hK c i (by omega) (by simp[hs])
  have h3:inR (i:Int) 0 (Xw c.deeds-1):=by simp only[inR];omega
  have h4:Yo c true=0:=by simp[Yo,hc,hr]
  rw[decide_eq_true h3,h4,hr] at this;simpa[Qmw,Qmf] using this
 refine Qb hK QyR (by simp) ?_
 have hg83:=QhY hK c (by omega) (by simp[hs])
 simp[hc] at hg83;simp;refine cK hg83 ?_;rw[hcl2];generalize cab c.deeds (ZD c.deeds 0) c.deeds.length=now at *;simp
 refine Qj (fun i=>[(1,AV.iv (.ptr [QA c.deeds,Qz c.sights,.int .i64 c.wrong])),(5,AV.aref 5 i),(14,AV.iv (.int .i64 now.length)),(15,AV.iv (IV.int IntKind.i64 (i:Nat)))])
  (fun i=>[(5,AO.arr 3 1 (emb ((now.take i).map fun (n:Nat)=>[.int .i64 (n:Int)])) 0)]) now.length (fun i=>True) trivial ?_ ?_
 ·intro _
  rw[Qa QiA.eq_1];simp[QLQ]
 ·intro i hi _ ih
  rw[Qa QiA.eq_1];rw[QLM hi,QL8] at ih;have hg:=hw i hi;have h7:now.getD i 0=now[i]:=by grind
  rw[h7] at hg;simp[hi] at ih |-;refine cK (by simpa using hg) ?_
  simp
  grind
omit hK
def qZ (d:Qs) (x:Int):Qs:={ d with frm:=x }
def UH:List Qs->List (List Qs)
 | []=>[[]]
 | d::r=>if d.frm=2 then (UH r).map (qZ d 0::·)++(UH r).map (qZ d 1::·) else (UH r).map (d::·)
theorem Qvt (ds:List Qs) (h:ZB ds=0):∀ x∈ds,ZY x=false:=by
 intro x hx;have:=QNg.1 h x hx;simpa[ZY] using this
theorem QcN:∀ ds:List Qs,ZB ds=0->UH ds=[ds]
 | [],_=>rfl
 | d::r,h=>by
   by_cases hd:d.frm=2
   ·simp[ZB,QNq,hd] at h
   ·have:=QcN r (by simpa[ZB,QNq,hd] using h)
    simp[UH,hd,this]
theorem Qob:∀ ds:List Qs,ZB ds≠0->∃ i:Nat,(∀ x∈ds.take i,ZY x=false)/\∃ h:i<ds.length,ds[i].frm=2/\UH ds=UH (ds.set i (qZ ds[i] 0))++UH (ds.set i (qZ ds[i] 1))/\∀ x:Int,x≠2->ZB (ds.set i (qZ ds[i] x))+1=ZB ds
 | [],h=>absurd rfl h
 | d::r,h=>by
   by_cases hd:d.frm=2
   ·refine ⟨0,by simp,by simp,hd,?_,fun x hx=>?_⟩
    ·simp[UH,hd,qZ]
    ·simp[ZB,QNq,qZ,hx,hd]
   ·have h':ZB r≠0:=by simpa[ZB,QNq,hd] using h
    obtain ⟨i,h1,h2,h3,h4,h5⟩:=Qob r h';refine ⟨i+1,?_,by simpa using h2,by simpa using h3,?_,fun x hx=>?_⟩
    ·intro x hx
     rw[List.take_succ_cons,QLX] at hx;rcases hx with rfl | hx
     ·simp[ZY,hd]
     ·exact h1 x hx
    ·simp only[List.set_cons_succ,List.getElem_cons_succ,UH,hd,if_false]
     grind
    ·have:=h5 x hx
     simp only[List.set_cons_succ,List.getElem_cons_succ];simp[ZB,hd] at this |-;omega
noncomputable def YR (c:Qn):List Qn:=((UH c.deeds).map fun ds=>{ c with deeds:=ds }).filter fun c'=>decide (Yo c' true=0)
def QhN (c:Qn):List IV:=[chV c]
theorem QhH (c:Qn) (h:ZB c.deeds=0):YR c=if Yo c true=0 then [c] else []:=by
 unfold YR;rw[QcN _ h];by_cases h1:Yo c true=0<;>simp[h1]
include hK
theorem QhM:∀ (n:Nat) (c:Qn),ZB c.deeds=n->c.deeds.length<=1000->c.sights.length<=1000->Qak Tryz.prog K 125 [chV c] [] ((YR c).map QhN) (fun b=>.bool b)
 | 0,c,hn,hl,hs=>by
   intro s b s' hf;refine QO QpQ (by simp) hf.v rfl ?_
   have hfi:=UQ ZY c.deeds (Qvt _ hn);have hg:=QnT hK c.deeds 209 ZY (QnS hK) (by kernel_rfl) hl
   rw[hfi] at hg;rw[QhH c hn] at hf;simp;refine cK (by simpa using hg) ?_
   simp;refine cK (Qwo hK c (pmC c) (Qjk hK c) hl hs) ?_;by_cases h1:Yo c true=0
   ·simp[h1] at hf |-
    cases hf with
    | stop _ _ _ _ hg =>
      refine Za (by simpa[QhN] using hg) rfl ?_
      simp
    | next _ _ _ s1 _ _ hg hr =>
      cases hr;refine Za (by simpa[QhN] using hg) rfl ?_
      simp
   ·simp[h1] at hf |-
    cases hf
    grind
 | n+1,c,hn,hl,hs=>by
   intro s b s' hf;refine QO QpQ (by simp) hf.v rfl ?_
   obtain ⟨i,h1,h2,h3,h4,h5⟩:=Qob c.deeds (by omega)
   have hg:=QnT hK c.deeds 209 ZY (QnS hK) (by kernel_rfl) hl
   rw[Qh5 ZY c.deeds i h2 (by simp[ZY,h3]) h1] at hg
   have hne:c.deeds≠[]:=fun e=>by grind
   have hgc:=clone155 (K:=K) c.deeds hl hne;have ih0:=QhM n { c with deeds:=c.deeds.set i (qZ c.deeds[i] 0) } (by grind) (by simpa using hl) hs
   have ih1:=QhM n { c with deeds:=c.deeds.set i (qZ c.deeds[i] 1) } (by grind) (by simpa using hl) hs
   have hkn:YR c=YR { c with deeds:=c.deeds.set i (qZ c.deeds[i] 0) }++YR { c with deeds:=c.deeds.set i (qZ c.deeds[i] 1) }:=by
    unfold YR
    grind
   rw[hkn,QL8] at hf;generalize hL0:YR { c with deeds:=c.deeds.set i (qZ c.deeds[i] 0) }=L0 at *
   generalize hL1:YR { c with deeds:=c.deeds.set i (qZ c.deeds[i] 1) }=L1 at *
   simp;refine cK hg ?_;simp
   refine Yr 2 (fun k e o=>∃ si,e=[(1,AV.cb 0),(2,AV.iv (.ptr [QA c.deeds,Qz c.sights,.int .i64 c.wrong])),(5,AV.iv (.int .i64 (i:Nat))),(25,AV.iv (.int .i64 (k:Nat)))]/\o=[(0,.ext si)] /\
    ZT Tryz.prog K (if k=0 then L0.map QhN++L1.map QhN else if k=1 then L1.map QhN else []) si b s') ?_ ?_ _ _ ⟨s,by simp,by simp,by simpa using hf⟩
   ·rintro e o ⟨si,rfl,rfl,hfd⟩
    cases hfd;rw[Qa QiQ.eq_1];simp
   ·rintro k e o hk ⟨si,rfl,rfl,hfd⟩ ih
    have hk2:k=0\/k=1:=by omega
    rw[Qa QiQ.eq_1]
    have hset:∀ x:Int,(List.map (List.map AV.iv∘dC) c.deeds).set i [AV.iv (.int .i64 c.deeds[i].what),AV.iv (.int .i64 c.deeds[i].pos),AV.iv (.int .i64 x),AV.iv (.int .i64 c.deeds[i].bar),AV.iv (.int .i64 c.deeds[i].smith)]=emb ((c.deeds.set i (qZ c.deeds[i] x)).map dC):=fun x=>by
     simp[emb,List.map_set,qZ]
    rcases hk2 with rfl | rfl
    ·simp only[if_true] at hfd
     simp;refine Yc hgc (by simp) ?_
     simp[h2,hset,QLQ];rcases hfd.append with ⟨s1,hf1,hf2⟩ | ⟨rfl,hf1⟩
     ·refine ZJ (by simpa[QLQ] using ih0 _ _ _ hf1) rfl ?_
      simp;exact ih _ _ ⟨s1,by simp,by simp,by simpa using hf2⟩
     ·refine ZJ (by simpa[QLQ] using ih0 _ _ _ hf1) rfl ?_
      simp
    ·simp only[if_true] at hfd
     simp at hfd;simp;refine Yc hgc (by simp) ?_
     simp[h2,hset,QLQ];refine ZJ (by simpa[QLQ] using ih1 _ _ _ hfd) rfl ?_
     cases b
     ·simp
     ·simp
      exact ih _ _ ⟨s',by simp,by simp,by simpa using ZT.nil _⟩
omit hK
theorem QfJ {α:Type} (f:α->Int):∀ (l:List α) (k:Nat) (a:α),(∀ x∈l,1<=f x)->(∀ h:k<l.length,1<=f a/\f a<=f l[k])->Q8 f (l.set k a)<=Q8 f l
 | [],k,a,_,_=>by simp[Q8]
 | b::l,0,a,h,ha=>by
   have h1:=ha (by simp)
   have h2:=VF f l fun x hx=>h x (by simp[hx])
   simp only[List.set_cons_zero,Q8];exact QMm h1.2 (by omega)
 | b::l,k+1,a,h,ha=>by
   have ih:=QfJ f l k a (fun x hx=>h x (by simp[hx])) (fun hk=>ha (by simpa using hk))
   have h1:=h b (by simp)
   simp only[List.set_cons_succ,Q8];exact QME ih (by omega)
def QcO (l:ZC) (n:Int):ZC:={ l with lo:=n,hi:=n }
def YX (m:Machine) (k:Nat) (l:ZC) (n:Int):Machine:={ m with levers:=m.levers.set k (QcO l n) }
noncomputable def Uy:Nat->Machine->Nat->List Machine
 | 0,m,_=>acc (qN m) (m.lhi+1-m.llo).toNat
 | r+1,m,k=>match m.levers[k]? with
   | some l=>acc (fun i=>Uy r (YX m k l (l.lo+(i:Nat))) (k+1)) (l.hi+1-l.lo).toNat
   | none=>[]
structure QD9 (m:Machine):Prop where
 len:m.levers.length<=3
 blen:m.bals.length<=6
 leak:inR m.llo 0 m.lhi
 lhi:m.lhi<=20
 span:∀ l∈m.levers,1<=Z8 l
 lo:∀ l∈m.levers,0<=l.lo/\l.hi<=100000
 sets:sets m m.levers.length<=1000000
theorem QD9.fix {m:Machine} (h:QD9 m) {k:Nat} (hk:k<m.levers.length) {n:Int} (hn:m.levers[k].lo<=n/\n<=m.levers[k].hi):QD9 (YX m k m.levers[k] n):=by
 have hs:=h.span _ (QLR hk);have hl:=h.lo _ (QLR hk);refine ⟨by simpa[YX] using h.len,h.blen,h.leak,h.lhi,fun l hl=>?_,fun l hl'=>?_,?_⟩
 ·rcases List.mem_or_eq_of_mem_set hl with h1 | h1
  ·exact h.span l h1
  ·rw[h1];simp[Z8,QcO]
 ·rcases List.mem_or_eq_of_mem_set hl' with h1 | h1
  ·exact h.lo l h1
  ·rw[h1];simp only[QcO];omega
 ·refine Int.le_trans ?_ h.sets
  have e1:(YX m k m.levers[k] n).levers.length=m.levers.length:=by simp[YX]
  have h2:=h.leak;simp only[inR] at h2;unfold Pf.sets;rw[e1,QLQ (QLS _),QLQ (by omega)]
  refine QME (QfJ Z8 _ _ _ h.span fun hk'=>?_) (by simp only[YX];omega)
  have:Z8 (QcO m.levers[k] n)=1:=by simp[Z8,QcO]
  omega
include hK
theorem Qnr:∀ (r:Nat) (m:Machine) (k:Nat),k+r=m.levers.length->QD9 m->Qak Tryz.prog K 128 [maV m,.int .i64 k] [] ((Uy r m k).map Qf7) (fun b=>.bool b)
 | 0,m,k,hk,ht=>by
   have:k=m.levers.length:=by omega
   subst this;have h1:=ht.len;have h2:=ht.blen;refine Qf5 hK m (by omega) (by omega) ht.leak ht.lhi (fun n _=>?_)
   have h3:=ht.sets;have h4:=ht.leak;have h5:=VF Z8 m.levers ht.span;simp only[inR] at h4;unfold Pf.sets at h3 |-;simp only[XP] at h3 |-;rw[QLQ (QLS _)] at h3 |-;have h6:(m.lhi-m.llo+1)*Q8 Z8 m.levers≥1*Q8 Z8 m.levers:=QMm (by omega) (by omega)
   omega
 | r+1,m,k,hk,ht=>by
   have hlt:k<m.levers.length:=by omega
   have ih:=Qnr r;intro s b s' hf;refine QO QpP (by simp) hf.v rfl ?_
   simp only[Uy,QLN hlt] at hf;rw[QaN] at hf;have hne:¬ (k:Int)=m.levers.length:=by omega
   have hlo:=ht.lo _ (QLR hlt);have hln:=ht.len;have hnn:m.levers≠[]:=fun e=>by grind
   have hgc:=clone157 (K:=K) m.levers (by omega) hnn
   have hsp:=ht.span _ (QLR hlt);simp only[Z8] at hsp
   have hit:∀ i:Nat,i<(m.levers[k].hi+1-m.levers[k].lo).toNat->Qak Tryz.prog K 128 [maV (YX m k m.levers[k] (m.levers[k].lo+i)),.int .i64 ((k+1:Nat):Int)] [] ((Uy r (YX m k m.levers[k] (m.levers[k].lo+i)) (k+1)).map Qf7) (fun b=>.bool b):=fun i hi =>
    ih _ _ (by simp[YX];omega) (ht.fix hlt (by omega))
   generalize hpc:(fun i:Nat=>Uy r (YX m k m.levers[k] (m.levers[k].lo+i)) (k+1))=pc at hf
   have hpc':∀ i:Nat,Uy r (YX m k m.levers[k] (m.levers[k].lo+i)) (k+1)=pc i:=fun i=>by rw[<- hpc]
   simp only[hpc'] at hit;simp[hne,hlt];intros
   refine Yr (m.levers[k].hi+1-m.levers[k].lo).toNat (fun i e o=>∃ si ls,e=[(1,AV.iv (.int .i64 (k:Nat))),(2,AV.cb 0),(3,AV.iv (.ptr [Q0 m.levers,.int .i64 m.water,.int .i64 m.llo,.int .i64 m.lhi,XS m.bals,.int .i64 m.wrong])),(7,AV.loc 7 0),(11,AV.iv (.int .i64 (m.levers[k].lo+(i:Nat))))] /\
    o=[(0,.ext si),(7,.box [.iv (Q0 ls),.iv (.int .i64 m.water),.iv (.int .i64 m.llo),.iv (.int .i64 m.lhi),.iv (XS m.bals),.iv (.int .i64 m.wrong)])] /\
    ZT Tryz.prog K ((XU pc i ((m.levers[k].hi+1-m.levers[k].lo).toNat-i)).map Qf7) si b s') ?_ ?_ _ _ ⟨s,m.levers,by simp,by simp,by simpa using hf⟩
   ·rintro e o ⟨si,ls,rfl,rfl,hfd⟩
    rw[Nat.sub_self] at hfd;cases hfd;have q1:m.levers[k].lo+((m.levers[k].hi+1-m.levers[k].lo).toNat:Int)=m.levers[k].hi+1:=by omega
    have q2:¬ m.levers[k].hi+1<=m.levers[k].hi:=by omega
    rw[q1,Qa QiM.eq_1];simp[q2,hlt]
   ·rintro i e o hi ⟨si,ls,rfl,rfl,hfd⟩ ihl
    have q1:m.levers[k].lo+(i:Int)<=m.levers[k].hi:=by omega
    have q3:m.levers[k].lo+((i:Int)+1)=m.levers[k].lo+i+1:=by omega
    have e1:(m.levers[k].hi+1-m.levers[k].lo).toNat-i=((m.levers[k].hi+1-m.levers[k].lo).toNat-(i+1))+1:=by omega
    rw[e1] at hfd;simp only[XU,QL8] at hfd
    have hset:(List.map (List.map AV.iv∘leC) m.levers).set k [AV.iv (.int .i64 m.levers[k].long),AV.iv (.int .i64 (m.levers[k].lo+i)),AV.iv (.int .i64 (m.levers[k].lo+i))]=emb ((m.levers.set k (QcO m.levers[k] (m.levers[k].lo+i))).map leC):=by
     simp[emb,List.map_set,QcO]
    rw[Qa QiM.eq_1];simp[q1,hlt];refine Yc hgc (by simp) ?_
    simp[hlt,hset,QLQ];refine ⟨by omega,?_⟩
    have hiti:=hit i hi;rcases hfd.append with ⟨s1,hf1,hf2⟩ | ⟨rfl,hf1⟩
    ·refine ZJ (by simpa[YX] using hiti _ _ _ hf1) rfl ?_
     simp
     (repeat' first | omega | (with_reducible apply And.intro) | intro _)
     exact ihl _ _ ⟨s1,m.levers.set k (QcO m.levers[k] (m.levers[k].lo+i)),by simp[q3],by simp,hf2⟩
    ·refine ZJ (by simpa[YX] using hiti _ _ _ hf1) rfl ?_
     simp
omit hK
theorem Jt (a:Nat) (h:a<2 ^ 64):(BitVec.ofInt 64 (a:Int)).toNat=a:=by
 grind
theorem U1 (a:Nat) (h:a<2 ^ 64):IntKind.wrap .u64 (a:Int)=(a:Int):=by
 have h':a<18446744073709551616:=h;simp only[IntKind.wrap,IntKind.bits,IntKind.signed];simp;omega
theorem QjM (a b:Nat) (ha:a<2 ^ 64) (hb:b<2 ^ 64):qv .or .u64 (a:Int) (b:Int)=((a ||| b:Nat):Int):=by
 show IntKind.wrap .u64 (((BitVec.ofInt 64 (a:Int)) ||| (BitVec.ofInt 64 (b:Int))).toNat:Int)=_
 rw[BitVec.toNat_or,Jt a ha,Jt b hb,U1 _ (QNl ha hb)]
theorem Qp7 (a b:Nat) (ha:a<2 ^ 64) (hb:b<2 ^ 64):qv .and .u64 (a:Int) (b:Int)=((a &&& b:Nat):Int):=by
 show IntKind.wrap .u64 (((BitVec.ofInt 64 (a:Int)) &&& (BitVec.ofInt 64 (b:Int))).toNat:Int)=_
 rw[BitVec.toNat_and,Jt a ha,Jt b hb,U1 _ (Nat.and_lt_two_pow _ hb)]
def Quw (a b:Nat):Nat:=a &&& (2 ^ 64-1-b)
theorem Qp8 {a b:Nat} (ha:a<2 ^ 64):Quw a b<2 ^ 64:=QNd Nat.and_le_left ha
theorem Ql0 (a b:Nat) (ha:a<2 ^ 64) (hb:b<2 ^ 64):qv .andNot .u64 (a:Int) (b:Int)=(Quw a b:Int):=by
 show IntKind.wrap .u64 (((BitVec.ofInt 64 (a:Int)) &&& ~~~(BitVec.ofInt 64 (b:Int))).toNat:Int)=_
 rw[BitVec.toNat_and,BitVec.toNat_not,Jt a ha,Jt b hb];exact U1 _ (Qp8 ha)
theorem Qtj {a b i:Nat} (hb:b<2 ^ 64) (hi:i<64):(Quw a b).testBit i=(a.testBit i&&!b.testBit i):=by
 unfold Quw;rw[Nat.testBit_and,show 2 ^ 64-1-b=2 ^ 64-(b+1) by omega,Nat.testBit_two_pow_sub_succ hb]
 simp[hi]
theorem Qg8 {n:Nat} (h:n<64):Qu4 .u64 1 (n:Int)=((2 ^ n:Nat):Int):=by
 have h2:(2:Nat) ^ n<2 ^ 64:=QNn (by decide) h
 unfold Qu4;rw[show min ((n:Int)).toNat IntKind.u64.bits=n by simp[IntKind.bits];omega,Int.one_mul]
 have:((2:Int) ^ n)=((2 ^ n:Nat):Int):=by push_cast;rfl
 rw[this];exact U1 _ h2
theorem Qu1 (a n:Nat) (h:n<64):QtB .u64 (a:Int) (n:Int)=((a >>> n:Nat):Int):=by
 unfold QtB;rw[show min ((n:Int)).toNat IntKind.u64.bits=n by simp[IntKind.bits];omega,Nat.shiftRight_eq_div_pow]
 grind
theorem QvP (a n:Nat) (h:n<64) (ha:a<2 ^ 64):qv .and .u64 (QtB .u64 (a:Int) (n:Int)) 1=if a.testBit n then 1 else 0:=by
 rw[Qu1 a n h];have h1:a >>> n<2 ^ 64:=QNd (Nat.shiftRight_le _ _) ha;have:=Qp7 (a >>> n) 1 h1 (by decide)
 rw[show ((1:Nat):Int)=1 from rfl] at this
 rw[this]
 have e:a.testBit n=(decide ((a >>> n) &&& 1=1)):=by
  rw[Nat.testBit,Nat.and_comm]
  grind
 grind
def Xv (l:List Nat):Nat:=l.foldl (fun m n=>m ||| 2 ^ n) 0
theorem qk (l:List Nat) (n:Nat):Xv (l++[n])=Xv l ||| 2 ^ n:=by simp[Xv]
theorem QfR (i:Nat):∀ l:List Nat,(Xv l).testBit i=decide (i∈l):=by
 refine X7 (by simp[Xv]) fun l n ih=>?_
 rw[qk,Nat.testBit_or,ih,Nat.testBit_two_pow]
 grind
theorem QjU (k:Nat):∀ l:List Nat,(∀ n∈l,n<k)->Xv l<2 ^ k:=by
 refine X7 (fun _=>by simp[Xv];grind) fun l n ih h=>?_
 rw[qk];exact QNl (ih fun m hm=>h m (by simp[hm])) (QNn (by decide) (h n (by simp)))
theorem QgF (ds:List Qs) {e e':Nat->Int}:∀ k,(∀ i<k,e i=e' i)->cab ds e k=cab ds e' k
 | 0,_=>rfl
 | k+1,h=>by
   have ih:=QgF ds k fun i hi=>h i (by omega)
   have hk:=h k (by omega)
   simp only[cab,ih,hk]
theorem QuE (ds:List Qs) (k:Nat) {j:Nat} (h:j<=k):wn (ds.take k) j=wn ds j:=by
 unfold wn
 grind
theorem Qkv (ds:List Qs) (e:Nat->Int) (k:Nat):∀ j,j<=k->cab (ds.take k) e j=cab ds e j
 | 0,_=>rfl
 | j+1,h=>by
   have ih:=Qkv ds e k j (by omega)
   have hj:(ds.take k)[j]?=ds[j]?:=by grind
   simp only[cab,hj,ih,QuE ds k (show j<=k by omega)]
theorem QoC (ds:List Qs) (k i:Nat) (h:i<k):ZD (ds.take k) 0 i=ZD ds 0 i:=by
 have hj:(ds.take k)[i]?=ds[i]?:=by grind
 unfold ZD
 grind
theorem QlT (ds:List Qs) (k:Nat):cab (ds.take k) (ZD (ds.take k) 0) k=cab ds (ZD ds 0) k:=by
 rw[Qkv ds _ k k (QLS _)];exact QgF ds k fun i hi=>QoC ds k i hi
theorem Qco (ds:List Qs) (k:Nat) (h:ZB ds=0):ZB (ds.take k)=0:=by
 rw[ZB,QNg] at *
 grind
def Z1 (p:Qf) (e:Nat->Int):List IV :=
 [.sl 1 ((List.range p.trials.length).map fun i=>[.int .u64 (Xv (Zy p i e):Nat)]),.sl 1 ((List.range p.trials.length).map fun i=>[.int .i64 (QF p i e)]),Xm (Yh p e)]
include hK
theorem Qfy (c:Qn) (hc:OkD c.deeds c.deeds.length) (hl:c.deeds.length<=12) (h2:ZB c.deeds=0) (k:Nat) (hk:k<=c.deeds.length):Ev.Good Tryz.prog K 211 [chV (ZG c k)] (Xm (cab c.deeds (ZD c.deeds 0) k)):=by
 have hC:OkC (ZG c k):=qh hc hl hk;have:=Qwn hK (ZG c k) hC (Qco _ _ h2) rfl;have e:(ZG c k).deeds=c.deeds.take k:=rfl;have e2:(c.deeds.take k).length=k:=by simp;omega
 rw[e,e2,QlT] at this;exact this
theorem QwJ (p:Qf) (hp:OkP p) (h2:ZB p.chain.deeds=0):Ev.Good Tryz.prog K 127 [chV p.chain,Xr p.trials] (.agg (Z1 p (ZD p.chain.deeds 0))):=by
 have hl:=hp.deedsLen;have htl:=hp.trialsLen;have hd:=hp.chain.deeds;refine Qb hK Qzz (by simp) ?_
 simp;intro _;refine cK (by simpa using Qep hK p.chain p.chain.deeds.length (QLS _)) ?_
 simp;refine cK (by simpa using Qfy hK p.chain hd hl h2 p.chain.deeds.length (QLS _)) ?_
 simp;refine cK (by simpa using QnU hK p.chain) ?_
 simp
 refine Zc (wy:=.fall) (o':=[(4,.box [.iv (.sl 1 []),.iv (.sl 1 []),.iv (.sl 1 [])]),(5,.box [.aref 6000 p.trials.length,.aref 6001 p.trials.length,.iv (Xm (Yh p (ZD p.chain.deeds 0)))]),
  (6000,.arr 158 1 (emb ((List.range p.trials.length).map fun i=>[.int .u64 (Xv (Zy p i (ZD p.chain.deeds 0)):Nat)])) 0),(6001,.arr 3 1 (emb ((List.range p.trials.length).map fun i=>[.int .i64 (QF p i (ZD p.chain.deeds 0))])) 0)]) rfl (by kernel_rfl) (QhL p.chain (by omega)) ?_ ?_
 ·have htrs:(trs (pv p.chain.deeds) 0).length=p.trials.length:=by
   have:∀ (l:List Nat) (t:Nat),(trs l t).length=l.length:=by
    intro l
    induction l with
    | nil=>intro t;rfl
    | cons a l ih=>intro t;simp[trs,ih]
   rw[this,hp.many]
  have:=UC.all (P:=Tryz.prog) (K:=K) (ps:=[22,23]) (asn:=QeK) (body:=QiO) (ks:=[2,3,4,5]) (ids:=[4,5,6000,6001]) (eK:=[(2,.iv (.ptr [QA p.chain.deeds,Qz p.chain.sights,.int .i64 p.chain.wrong])),(3,.iv (.ptr [Xr p.trials])),(4,.loc 4 0),(5,.loc 5 0)]) (trs (pv p.chain.deeds) 0)
   (fun i=>[(4,.box [.iv (.sl 1 []),.iv (.sl 1 []),.iv (.sl 1 [])]),(5,.box [.aref 6000 i,.aref 6001 i,.iv (Xm (Yh p (ZD p.chain.deeds 0)))]),
     (6000,.arr 158 1 (emb ((List.range i).map fun i=>[.int .u64 (Xv (Zy p i (ZD p.chain.deeds 0)):Nat)])) 0),(6001,.arr 3 1 (emb ((List.range i).map fun i=>[.int .i64 (QF p i (ZD p.chain.deeds 0))])) 0)]) fun i x hx=>by
   obtain ⟨hi,rfl⟩:=QdG _ _ _ _ hx;have hit:i<p.trials.length:=by grind
   have hlt:=QfI hi;have hthen:Zy p i (ZD p.chain.deeds 0)=cab p.chain.deeds (ZD p.chain.deeds 0) (pv p.chain.deeds)[i]:=by simp[Zy,List.getD_eq_getElem?_getD,hi]
   have hrow:=Qfy hK p.chain hd hl h2 (pv p.chain.deeds)[i] (by omega)
   rw[<- hthen] at hrow;have htr:=Qmo hit;have hok:=hp.trial hit;have hbr:QF p i (ZD p.chain.deeds 0)=if 0<=(tr p i).broke then (((Zy p i (ZD p.chain.deeds 0)).getD (tr p i).broke.toNat 0:Nat):Int) else -1:=rfl
   have hcl:((Zy p i (ZD p.chain.deeds 0)).length:Int)=cnt p.chain.deeds (pv p.chain.deeds)[i]:=by rw[hthen];exact Xj _ hd _ (by omega) (by omega)
   have hcb:=hd.cnt (pv p.chain.deeds)[i] (by omega) (by omega)
   have hmem:∀ n∈Zy p i (ZD p.chain.deeds 0),n<12:=fun n hn=>by
    rw[hthen] at hn;have:=qV _ _ _ n hn;have:=Qg0 p.chain.deeds (pv p.chain.deeds)[i];omega
   have hpd:(pv p.chain.deeds).getD i 0=(pv p.chain.deeds)[i]:=by grind
   rw[hpd] at hok;rw[QMn,QL8,QL8];refine ⟨rfl,?_⟩;generalize hnow:Zy p i (ZD p.chain.deeds 0)=now at *;simp[QeK,QiO,-List.map_map,Qu,QM,QE,Ql];refine cK (by simpa using Qep hK p.chain (pv p.chain.deeds)[i] (by omega)) ?_
   simp;refine cK (by simpa using hrow) ?_
   simp;intro _
   refine Qj (fun k=>[(2,.iv (.ptr [QA p.chain.deeds,Qz p.chain.sights,.int .i64 p.chain.wrong])),(3,.iv (.ptr [Xr p.trials])),(4,.loc 4 0),(5,.loc 5 0),(6,.iv (.int .i64 (i:Nat))),(8,.iv (Xm now)),(9,.iv (.int .u64 (Xv (now.take k):Nat))),(28,.iv (Xm now)),(29,.iv (.int .i64 now.length)),(30,.iv (.int .i64 (k:Nat)))])
    (fun _=>[(4,.box [.iv (.sl 1 []),.iv (.sl 1 []),.iv (.sl 1 [])]),(5,.box [.aref 6000 i,.aref 6001 i,.iv (Xm (Yh p (ZD p.chain.deeds 0)))]),
    (6000,.arr 158 1 (emb ((List.range i).map fun i=>[.int .u64 (Xv (Zy p i (ZD p.chain.deeds 0)):Nat)])) 0),(6001,.arr 3 1 (emb ((List.range i).map fun i=>[.int .i64 (QF p i (ZD p.chain.deeds 0))])) 0)]) now.length (fun _=>True) trivial ?_ ?_
   ·intro _
    rw[Qa QiP.eq_1];by_cases hb:0<=(tr p i).broke
    ·have hb2:(tr p i).broke.toNat<now.length:=by
      have:=hok.2.2;simp only[inR] at this;omega
     have hgd:now.getD (tr p i).broke.toNat 0=now[(tr p i).broke.toNat]:=by grind
     rw[if_pos hb,hgd] at hbr;simp[hit,htr,hb,hb2,hbr,hnow,-List.map_map,Qu,QM,QE,Ql,QLQ];omega
    ·rw[if_neg hb] at hbr
     simp[hit,htr,hb,hbr,hnow,-List.map_map,Qu,QM,QE,Ql,QLQ];omega
   ·intro k hk _ ih
    rw[Qa QiP.eq_1];have hn:=hmem now[k] (QLR hk);have hm1:Xv (now.take k)<2 ^ 12:=QjU 12 _ fun n hn=>hmem n (QMt hn)
    have hm2:(2:Nat) ^ now[k]<2 ^ 12:=QNn (by decide) hn
    have hor:=QjM (Xv (now.take k)) (2 ^ now[k]) (by omega) (by omega)
    rw[<- Qg8 (n:=now[k]) (by omega)] at hor
    rw[QLM hk,qk] at ih;simp at ih;simp[hk,hor]
    grind
  rw[htrs] at this;simpa[emb,Yh] using this
 ·simp[Z1,QLQ]
  trace_state
omit hK
def Zs (p:Qf) (s:Qk):List (List IV):=(List.range p.trials.length).map fun i=>[.int .i64 (QbA p.machine (tr p i).weight (tr p i).mins s),.int .i64 (upS p.machine (tr p i).weight (tr p i).mins s)]
def ZK (p:Qf) (t:Q7):List IV:=Z1 p (QC t.ends)++[.sl 2 (Zs p t.set)]
def nd (p:Qf) (need:Int):Qf:={ p with need:=need }
theorem UF {a b c:Int} (ha:0<=a) (hb:1<=b):(a+b-1).tdiv b<=c↔a<=c*b:=by
 rw[QMy (by omega)]
 constructor
 ·intro h
  have h1:=Int.mul_ediv_add_emod (a+b-1) b;have h2:=Int.emod_lt_of_pos (a+b-1) (show 0<b by omega)
  have h3:b*((a+b-1) / b)<=b*c:=QME h (by omega)
  grind
 ·intro h
  have:(a+b-1) / b<c+1:=by
   rw[Int.ediv_lt_iff_lt_mul (by omega),Int.add_mul]
   omega
  omega
theorem UK {a b c:Int} (ha:0<=a) (hb:1<=b):c<=a.tdiv b↔c*b<=a:=by
 rw[QMy ha];exact Int.le_ediv_iff_mul_le (by omega)
include hK
theorem QwI (p:Qf) (t:Q7) (need:Int) (hp:OkP p) (hs:okS p.machine t.set) (i:Nat) (hi:i<p.trials.length):Ev.Good Tryz.prog K 130 [.agg (ZK p t),.int .i64 i,.int .i64 need] (.bool (ZX (nd p need) i t)):=by
 refine Qb hK Qzy (by simp) ?_
 have hbr:QF p i (QC t.ends)=if 0<=(tr p i).broke then (((Zy p i (QC t.ends)).getD (tr p i).broke.toNat 0:Nat):Int) else -1:=rfl
 have hfd:ZX (nd p need) i t=(decide (0<=(tr p i).broke)&&decide (num p.machine t.set (tr p i).weight (tr p i).mins<=need*den t.set)):=rfl;have hnum:0<=num p.machine t.set (tr p i).weight (tr p i).mins:=(hp.machine.numB hs (hp.trial hi).1 (hp.trial hi).2.1).1;have hden:1<=den t.set:=(hp.machine.denB hs).1;have hup:=UF (c:=need) hnum hden;rw[hfd];by_cases hb:0<=(tr p i).broke
 ·rw[if_pos hb] at hbr
  by_cases h2:num p.machine t.set (tr p i).weight (tr p i).mins<=need*den t.set
  ·have h3:=hup.2 h2
   simp[ZK,Z1,Zs,hi,hbr,hb,upS,h2,h3]
  ·have h3:=fun h=>h2 (hup.1 h)
   simp[ZK,Z1,Zs,hi,hbr,hb,upS,h2,h3];omega
 ·rw[if_neg hb] at hbr
  simp[ZK,Z1,Zs,hi,hbr,hb]
omit hK in
theorem Qly (p:Qf) (t:Q7) (n:Nat):(List.range (n+1)).countP (fun i=>ZX p i t)=(List.range n).countP (fun i=>ZX p i t)+if ZX p n t then 1 else 0:=by
 rw[QMn,QMQ]
 grind
theorem QnJ (p:Qf) (t:Q7) (need:Int) (hp:OkP p) (hs:okS p.machine t.set):Ev.Good Tryz.prog K 64 [.agg (ZK p t),.int .i64 need] (.int .i64 (ZZ (nd p need) t:Nat)):=by
 refine Qb hK QCH (by simp) ?_
 have htl:=hp.trialsLen;have hll:(Zs p t.set).length=p.trials.length:=by simp[Zs]
 have hf:ZZ (nd p need) t=(List.range p.trials.length).countP (fun i=>ZX (nd p need) i t):=rfl
 have hsv:ZK p t=[.sl 1 ((List.range p.trials.length).map fun i=>[.int .u64 (Xv (Zy p i (QC t.ends)):Nat)]),.sl 1 ((List.range p.trials.length).map fun i=>[.int .i64 (QF p i (QC t.ends))]),Xm (Yh p (QC t.ends)),.sl 2 (Zs p t.set)]:=rfl
 rw[hsv];have hg:=fun i hi=>QwI hK p t need hp hs i hi
 rw[hsv] at hg;simp[hll];intro _
 refine Qj (fun i=>[(1,AV.iv (.int .i64 need)),(2,.iv (.ptr [.sl 1 ((List.range p.trials.length).map fun i=>[.int .u64 (Xv (Zy p i (QC t.ends)):Nat)]),.sl 1 ((List.range p.trials.length).map fun i=>[.int .i64 (QF p i (QC t.ends))]),Xm (Yh p (QC t.ends)),.sl 2 (Zs p t.set)])),
   (5,.iv (.int .i64 ((List.range i).countP (fun i=>ZX (nd p need) i t):Nat))),(9,.iv (.int .i64 p.trials.length)),(10,.iv (.int .i64 (i:Nat)))]) (fun _=>[]) p.trials.length (fun _=>True) trivial ?_ ?_
 ·intro _
  rw[Qa Qpe.eq_1];simp[hf]
 ·intro i hi _ ih
  have hle:(List.range i).countP (fun i=>ZX (nd p need) i t)<=i:=by
   have:=QMC (p:=fun i=>ZX (nd p need) i t) (l:=List.range i)
   simpa using this
  rw[Qa Qpe.eq_1];rw[Qly] at ih;simp[hi] at ih |-;refine cK (by simpa using hg i hi) ?_
  cases hb:ZX (nd p need) i t
  ·simp[hb] at ih |-
   grind
  ·simp[hb] at ih |-
   grind
omit hK in
theorem QjV {p:Qf} (hp:OkP p) (i:Nat) (e:Nat->Int):Xv (Zy p i e)<2 ^ 12:=QjU 12 _ fun n hn=>by
 have h1:=OkP.thenLt (p:=p) e i hn;have h2:=Yw p.chain.deeds;have h3:(XW p.chain.deeds).length<=p.chain.deeds.length:=QMg _ _;have:=hp.deedsLen;omega
def QqM (p:Qf) (t:Q7) (m i:Nat):Nat :=
 if p.need<=QbA p.machine (tr p i).weight (tr p i).mins t.set then m ||| (if 0<=QF p i (QC t.ends) then Quw (Xv (Zy p i (QC t.ends))) (2 ^ (QF p i (QC t.ends)).toNat) else Xv (Zy p i (QC t.ends))) else m
def pmN (p:Qf) (t:Q7) (n:Nat):Nat:=(List.range n).foldl (QqM p t) 0
omit hK in
theorem Wm (p:Qf) (t:Q7) (n:Nat):pmN p t (n+1)=QqM p t (pmN p t n) n:=by simp[pmN,QMn]
omit hK in
theorem QaI {p:Qf} (hp:OkP p) (e:Nat->Int) {i:Nat} (hi:i<p.trials.length) : -1<=QF p i e/\QF p i e<12:=by
 by_cases hb:0<=(tr p i).broke
 ·obtain ⟨h1,h2⟩:=hp.brokeIn e hi hb
  have h3:=OkP.thenLt (p:=p) e i (QLR h1);have h4:=Yw p.chain.deeds;have h5:(XW p.chain.deeds).length<=p.chain.deeds.length:=QMg _ _;have:=hp.deedsLen;omega
 ·simp[QF,hb]
omit hK in
theorem QmS {p:Qf} (hp:OkP p) {t:Q7} (hs:okS p.machine t.set) (need:Int) (m:Nat) {i:Nat} (hi:i<p.trials.length) {k:Nat} (hk:k<64):(QqM (nd p need) t m i).testBit k=(m.testBit k||Ua (nd p need) k t i):=by
 have hnum:=(hp.machine.numB hs (hp.trial hi).1 (hp.trial hi).2.1).1;have hden:=(hp.machine.denB hs).1;have hbb:=QaI hp (QC t.ends) hi;have hiff:=UK (c:=need) hnum hden
 have hin:inN (Zy p i (QC t.ends)) k=decide (k∈Zy p i (QC t.ends)):=by
  unfold inN
  grind
 have e1:Ua (nd p need) k t i=(decide (need*den t.set<=num p.machine t.set (tr p i).weight (tr p i).mins)&&inN (Zy p i (QC t.ends)) k&&!decide (QF p i (QC t.ends)=k)):=rfl;have e2:QqM (nd p need) t m i=if need<=QbA p.machine (tr p i).weight (tr p i).mins t.set then m ||| (if 0<=QF p i (QC t.ends) then Quw (Xv (Zy p i (QC t.ends))) (2 ^ (QF p i (QC t.ends)).toNat) else Xv (Zy p i (QC t.ends))) else m:=rfl
 rw[e1,e2,hin];by_cases h1:need<=QbA p.machine (tr p i).weight (tr p i).mins t.set
 ·have h2:need*den t.set<=num p.machine t.set (tr p i).weight (tr p i).mins:=hiff.1 h1
  rw[if_pos h1,Nat.testBit_or];by_cases h3:0<=QF p i (QC t.ends)
  ·rw[if_pos h3,Qtj (QNn (by decide) (by omega)) hk,QfR,Nat.testBit_two_pow]
   grind
  ·rw[if_neg h3,QfR]
   grind
 ·have h2:¬ need*den t.set<=num p.machine t.set (tr p i).weight (tr p i).mins:=fun h=>h1 (hiff.2 h)
  grind
omit hK in
theorem Qd6 {p:Qf} (hp:OkP p) {t:Q7} (hs:okS p.machine t.set) {need:Int} {k:Nat} (hk:k<64):(pmN (nd p need) t p.trials.length).testBit k=Zj (nd p need) k t:=by
 have hat:∀ (m:Nat) {i:Nat},i<p.trials.length->(QqM (nd p need) t m i).testBit k=(m.testBit k||Ua (nd p need) k t i):=fun m i hi=>QmS hp hs need m hi hk
 have:∀ n,n<=p.trials.length->(pmN (nd p need) t n).testBit k=(List.range n).any (Ua (nd p need) k t):=by
  intro n
  induction n with
  | zero=>intro _;simp[pmN]
  | succ n ih=>intro h;rw[Wm,hat _ (by omega),ih (by omega),Qcz]
 exact this _ (QLS _)
omit hK in
theorem QjI {p:Qf} (hp:OkP p) (t:Q7) {need:Int} (n:Nat):pmN (nd p need) t n<2 ^ 64:=by
 have:∀ n,pmN (nd p need) t n<2 ^ 12:=fun n=>by
  induction n with
  | zero=>simp[pmN]
  | succ n ih =>
    rw[Wm];have h:=QjV hp n (QC t.ends);unfold QqM;split
    ·refine QNl ih ?_
     split
     ·exact QNd Nat.and_le_left h
     ·exact h
    ·exact ih
 grind
theorem QnE (p:Qf) (t:Q7) (need:Int) (hp:OkP p):Ev.Good Tryz.prog K 91 [.agg (ZK p t),.int .i64 need] (.int .u64 (pmN (nd p need) t p.trials.length:Nat)):=by
 refine Qb hK QCh (by simp) ?_
 have htl:=hp.trialsLen
 have hpl:∀ i,pmN (nd p need) t i<2 ^ 12:=fun i=>by
  have:∀ n,pmN (nd p need) t n<2 ^ 12:=fun n=>by
   induction n with
   | zero=>simp[pmN]
   | succ n ih =>
     rw[Wm];have h:=QjV hp n (QC t.ends);unfold QqM;split
     ·refine QNl ih ?_
      split
      ·exact QNd Nat.and_le_left h
      ·exact h
     ·exact ih
  exact this i
 have hsv:ZK p t=[.sl 1 ((List.range p.trials.length).map fun i=>[.int .u64 (Xv (Zy p i (QC t.ends)):Nat)]),.sl 1 ((List.range p.trials.length).map fun i=>[.int .i64 (QF p i (QC t.ends))]),Xm (Yh p (QC t.ends)),.sl 2 (Zs p t.set)]:=rfl
 rw[hsv];simp;intros
 refine Qj (fun i=>[(1,AV.iv (.int .i64 need)),(2,.iv (.ptr [.sl 1 ((List.range p.trials.length).map fun i=>[.int .u64 (Xv (Zy p i (QC t.ends)):Nat)]),.sl 1 ((List.range p.trials.length).map fun i=>[.int .i64 (QF p i (QC t.ends))]),Xm (Yh p (QC t.ends)),.sl 2 (Zs p t.set)])),
   (5,.iv (.int .u64 (pmN (nd p need) t i:Nat))),(11,.iv (.sl 1 ((List.range p.trials.length).map fun i=>[.int .u64 (Xv (Zy p i (QC t.ends)):Nat)]))),(12,.iv (.int .i64 p.trials.length)),(13,.iv (.int .i64 (i:Nat)))]) (fun _=>[]) p.trials.length (fun _=>True) trivial ?_ ?_
 ·intro _
  rw[Qa Qo2.eq_1];simp
 ·intro i hi _ ih
  have hm:=QjV hp i (QC t.ends);have hbb:=QaI hp (QC t.ends) hi;have hpi:=hpl i;rw[Qa Qo2.eq_1];rw[Wm] at ih;have hat:∀ m,QqM (nd p need) t m i=if need<=QbA p.machine (tr p i).weight (tr p i).mins t.set then m ||| (if 0<=QF p i (QC t.ends) then Quw (Xv (Zy p i (QC t.ends))) (2 ^ (QF p i (QC t.ends)).toNat) else Xv (Zy p i (QC t.ends))) else m:=fun m=>rfl
  rw[hat] at ih;have hld:(Zs p t.set)[i]?=some [.int .i64 (QbA p.machine (tr p i).weight (tr p i).mins t.set),.int .i64 (upS p.machine (tr p i).weight (tr p i).mins t.set)]:=by simp[Zs,hi]
  have hll:(Zs p t.set).length=p.trials.length:=by simp[Zs]
  generalize QbA p.machine (tr p i).weight (tr p i).mins t.set=lo at *;generalize upS p.machine (tr p i).weight (tr p i).mins t.set=up at *;generalize pmN (nd p need) t i=m at *
  have hld2:(Zs p t.set)[i]'(by omega)=[.int .i64 lo,.int .i64 up]:=by
   grind
  by_cases h1:need<=lo
  ·have h1':¬ lo<need:=by omega
   by_cases h3:0<=QF p i (QC t.ends)
   ·obtain ⟨b,hb⟩:∃ b:Nat,QF p i (QC t.ends)=b:=⟨(QF p i (QC t.ends)).toNat,by omega⟩
    have hb12:b<12:=by omega
    have h2b:(2:Nat) ^ b<2 ^ 12:=QNn (by decide) hb12
    have q1:=Ql0 (Xv (Zy p i (QC t.ends))) (2 ^ b) (by omega) (by omega)
    rw[<- Qg8 (n:=b) (by omega)] at q1
    have q2:=QjM m (Quw (Xv (Zy p i (QC t.ends))) (2 ^ b)) (by omega) (Qp8 (by omega))
    simp[h1,hb] at ih;simp[hi,hll,hld2,h1',hb,q1,q2]
    grind
   ·have q2:=QjM m (Xv (Zy p i (QC t.ends))) (by omega) (by omega)
    simp[h1,h3] at ih;simp[hi,hll,hld2,h1',h3,q2]
    grind
  ·have h1':lo<need:=by omega
   simp[h1] at ih;simp[hi,hll,hld2,h1']
   grind
theorem QnD (s k:Nat) (hs:s<2 ^ 64) (hk:k<64):Ev.Good Tryz.prog K 92 [.int .u64 s,.int .i64 k] (.bool (s.testBit k)):=by
 refine Qb hK QCg (by simp) ?_
 have:=QvP s k hk hs;cases hb:s.testBit k<;>simp[hb] at this<;>simp[this]
theorem QwF (s k:Nat) (hs:s<2 ^ 64) (hk:k<64):Ev.Good Tryz.prog K 140 [.int .i64 k,.ptr [.int .u64 s]] (.bool (!s.testBit k)):=by
 refine Qb hK Qzo (by simp) ?_
 simp;refine cK (QnD hK s k hs hk) ?_;simp
theorem QtT (p:Qf) (t:Q7) (need:Int) (hp:OkP p) (hs:okS p.machine t.set):Ev.Good Tryz.prog K 73 [.agg (ZK p t),.int .i64 need,.int .i64 p.rule] (.bool (Vr (nd p need) t)):=by
 refine Qb hK QCy (by simp) ?_
 have hl:=hp.deedsLen;have hsv:ZK p t=[.sl 1 ((List.range p.trials.length).map fun i=>[.int .u64 (Xv (Zy p i (QC t.ends)):Nat)]),.sl 1 ((List.range p.trials.length).map fun i=>[.int .i64 (QF p i (QC t.ends))]),Xm (Yh p (QC t.ends)),.sl 2 (Zs p t.set)]:=rfl
 have hg70:=QnE hK p t need hp;have hg65:=QnJ hK p t need hp hs;rw[hsv] at hg70 hg65 |-
 have hlt:∀ n,pmN (nd p need) t n<2 ^ 12:=fun n=>by
  induction n with
  | zero=>simp[pmN]
  | succ n ih =>
    rw[Wm];have h:=QjV hp n (QC t.ends);unfold QqM;split
    ·refine QNl ih ?_
     split
     ·exact QNd Nat.and_le_left h
     ·exact h
    ·exact ih
 have hpm:=hlt p.trials.length
 have hnow:∀ n∈Yh p (QC t.ends),n<12:=fun n hn=>by
  have:=qV _ _ _ n hn;have:=Qg0 p.chain.deeds p.chain.deeds.length;omega
 have hbit:∀ n∈Yh p (QC t.ends),(pmN (nd p need) t p.trials.length).testBit n=Zj (nd p need) n t:=fun n hn=>Qd6 hp hs (by grind)
 have hnl:(Yh p (QC t.ends)).length<=1000:=by
  have h1:=Xj (QC t.ends) hp.chain.deeds p.chain.deeds.length (QLS _) (QLS _);have h2:=hp.chain.deeds.cnt p.chain.deeds.length (QLS _) (QLS _);show (cab p.chain.deeds (QC t.ends) p.chain.deeds.length).length<=1000
  omega
 have hgood:Vr (nd p need) t=(((Yh p (QC t.ends)).all fun (k:Nat)=>Zj (nd p need) k t)&&decide ((ZZ (nd p need) t:Int)<p.rule)):=rfl
 have hall:((Yh p (QC t.ends)).all fun (k:Nat)=>Zj (nd p need) k t)=!(((Yh p (QC t.ends)).map fun (n:Nat)=>(n:Int)).any fun x=>!(pmN (nd p need) t p.trials.length).testBit x.toNat):=by
  rw[Bool.eq_iff_iff];simp only[QMf,QMk,List.any_eq_false,QL5];constructor
  ·rintro h x ⟨n,hn,rfl⟩
   have h1:=h n hn;rw[<- hbit n hn] at h1;simp[h1]
  ·intro h n hn
   have:=h n ⟨n,hn,rfl⟩
   grind
 have hg129:=QwE hK ((Yh p (QC t.ends)).map fun (n:Nat)=>(n:Int)) 140 [] [.ptr [.int .u64 (pmN (nd p need) t p.trials.length)]] (fun x=>!(pmN (nd p need) t p.trials.length).testBit x.toNat) (fun x hx=>by
  obtain ⟨n,hn,rfl⟩:=QL5.1 hx;have:=hnow n hn;simpa using QwF hK (pmN (nd p need) t p.trials.length) n (by omega) (by omega)) (by kernel_rfl) (by simpa using hnl)
 rw[hgood,hall];clear hall hgood;generalize ((Yh p (QC t.ends)).map fun (n:Nat)=>(n:Int)).any (fun x=>!(pmN (nd p need) t p.trials.length).testBit x.toNat)=A at *
 simp;refine cK (by simpa using hg70) ?_
 simp;refine cK (by simpa using hg65) ?_
 by_cases h1:(ZZ (nd p need) t:Int)<p.rule
 ·simp[h1]
  refine Jf (by simpa[Function.comp_def] using hg129) (.inr rfl) ?_
  simp
 ·simp[h1]
omit hK
noncomputable def Q4 (p:Qf):List (List IV):=(ZS p.chain [] p.chain.deeds).map fun e=>Z1 p (QC e)
noncomputable def XO (p:Qf):List (List IV):=(QW p.machine [] p.machine.levers).map fun s=>[.sl 2 (Zs p s)]
def prC (p:Qf):List IV:=[QA p.chain.deeds,Qz p.chain.sights,.int .i64 p.chain.wrong,Q0 p.machine.levers,.int .i64 p.machine.water,.int .i64 p.machine.llo,.int .i64 p.machine.lhi,XS p.machine.bals,.int .i64 p.machine.wrong,
 Xr p.trials,.int .i64 p.need,.int .i64 p.rule]
noncomputable def Uq (p:Qf):List IV:=prC p++[.sl 3 (Q4 p),.sl 1 (XO p)]
def Qcs (p:Qf) (t:Q7):List IV:=[.agg (ZK p t)]
include hK
theorem QtN (p:Qf) (hE:(ZS p.chain [] p.chain.deeds).length<=1000000) (hS:(QW p.machine [] p.machine.levers).length<=1000000):Qal Tryz.prog K 63 [.ptr (Uq p)] [] ((Qr p).map (Qcs p)):=by
 intro s b s' hf;refine QO QCI (by simp) hf.v rfl ?_
 unfold Qr at hf;have hfile:Uq p=prC p++[.sl 3 ((ZS p.chain [] p.chain.deeds).map fun e=>Z1 p (QC e)),.sl 1 ((QW p.machine [] p.machine.levers).map fun s=>[.sl 2 (Zs p s)])]:=rfl
 rw[hfile];generalize ZS p.chain [] p.chain.deeds=E at *;generalize QW p.machine [] p.machine.levers=S at *;obtain ⟨c0,c1,c2,c3,c4,c5,c6,c44,c10,QzY,c43,c19,hpr⟩:∃ c0 c1 c2 c3 c4 c5 c6 c44 c10 QzY c43 c19,prC p=[c0,c1,c2,c3,c4,c5,c6,c44,c10,QzY,c43,c19]:=⟨_,_,_,_,_,_,_,_,_,_,_,_,rfl⟩
 rw[hpr];rw[QNc] at hf;simp only[List.map_map] at hf;simp;intro _
 refine Yr E.length (fun i e o=>∃ si,e=[(0,AV.iv (.ptr [c0,c1,c2,c3,c4,c5,c6,c44,c10,QzY,c43,c19,.sl 3 (E.map fun e=>Z1 p (QC e)),.sl 1 (S.map fun s=>[.sl 2 (Zs p s)])])),(1,AV.cb 0),(11,.iv (.sl 3 (E.map fun e=>Z1 p (QC e)))),(12,.iv (.int .i64 E.length)),(13,.iv (.int .i64 (i:Nat)))]/\o=[(0,.ext si)] /\
  ZT Tryz.prog K ((E.drop i).flatMap fun e=>S.map (Qcs p∘fun s=>⟨e,s⟩)) si b s') ?_ ?_ _ _ ⟨s,by simp,by simp,by simpa using hf⟩
 ·rintro e o ⟨si,rfl,rfl,hfd⟩
  rw[QMA (QLS _)] at hfd;cases hfd;rw[Qa Qpf.eq_1];simp
 ·rintro i e o hi ⟨si,rfl,rfl,hfd⟩ ih
  rw[QMq hi,QML] at hfd;have hst:∃ s0 s1 s2,Z1 p (QC E[i])=[s0,s1,s2]:=⟨_,_,_,rfl⟩
  obtain ⟨s0,s1,s2,hst⟩:=hst;rw[Qa Qpf.eq_1];simp[hi,hst];intros
  refine Yr S.length (fun j e o=>∃ sj,e=[(0,AV.iv (.ptr [c0,c1,c2,c3,c4,c5,c6,c44,c10,QzY,c43,c19,.sl 3 (E.map fun e=>Z1 p (QC e)),.sl 1 (S.map fun s=>[.sl 2 (Zs p s)])])),(1,AV.cb 0),(5,.loc 5 0),(11,.iv (.sl 3 (E.map fun e=>Z1 p (QC e)))),(12,.iv (.int .i64 E.length)),(13,.iv (.int .i64 (i:Nat))),
    (20,.iv (.sl 1 (S.map fun s=>[.sl 2 (Zs p s)]))),(21,.iv (.int .i64 S.length)),(22,.iv (.int .i64 (j:Nat)))]/\o=[(0,.ext sj),(5,.box [.iv s0,.iv s1,.iv s2])] /\
   ZT Tryz.prog K ((S.drop j).map (Qcs p∘fun s=>⟨E[i],s⟩)++(E.drop (i+1)).flatMap fun e=>S.map (Qcs p∘fun s=>⟨e,s⟩)) sj b s') ?_ ?_ _ _ ⟨si,by simp,by simp,by simpa using hfd⟩
  ·rintro e o ⟨sj,rfl,rfl,hfj⟩
   rw[QMA (QLS _)] at hfj;rw[Qa Qpg.eq_1];simp
   grind
  ·rintro j e o hj ⟨sj,rfl,rfl,hfj⟩ ihj
   rw[QMq hj,QMb,QL1] at hfj
   have hitem:(Qcs p∘fun s=>(⟨E[i],s⟩:Q7)) S[j]=[.agg [s0,s1,s2,.sl 2 (Zs p S[j])]]:=by
    simp[Qcs,ZK,hst]
   rw[hitem] at hfj;rw[Qa Qpg.eq_1];simp[hj];cases hfj with
   | stop _ _ _ _ hg =>
     refine Za (by simpa using hg) rfl ?_
     simp
   | next _ _ _ s3 _ _ hg hr =>
     refine Za (by simpa using hg) rfl ?_
     simp
     (repeat' first | omega | (with_reducible apply And.intro) | intro _)
     exact ihj _ _ ⟨s3,by simp,by simp,hr⟩
theorem QnH (p:Qf) (hE:(ZS p.chain [] p.chain.deeds).length<=1000000) (hS:(QW p.machine [] p.machine.levers).length<=1000000) (hT:(Qr p).length<=1000000000)
  (g:FuncId) (fs cs:List IV) (B:Q7->Bool) (hg:∀ t∈Qr p,Ev.Good Tryz.prog K g (fs++[.agg (ZK p t)]++cs) (.bool (B t))) (hc:callee Tryz.prog g=true) :
  Ev.Good Tryz.prog K 71 [.ptr (Uq p),.clo g fs cs] (.int .i64 (XY ((Qr p).countP B) (Qr p).length)):=by
 refine Qb hK QCA (by simp) ?_
 have hit:=QtN hK p hE hS;generalize Uq p=F at *;generalize Qr p=T at *;simp;refine Zc (wy:=.fall) (o':=[(5,.box [.iv (.int .i64 (T.countP B:Nat))]),(6,.box [.iv (.int .i64 (T.countP (fun t=>!B t):Nat))])]) rfl (by kernel_rfl) hit ?_ ?_
 ·have:=UC.all (P:=Tryz.prog) (K:=K) (ps:=[10]) (asn:=Qie) (body:=Qo8) (ks:=[3,5,6]) (ids:=[5,6]) (eK:=[(3,.iv (.ptr [.clo g fs cs])),(5,.loc 5 0),(6,.loc 6 0)]) (T.map (Qcs p))
   (fun i=>[(5,.box [.iv (.int .i64 ((T.take i).countP B:Nat))]),(6,.box [.iv (.int .i64 ((T.take i).countP (fun t=>!B t):Nat))])]) fun i x hx=>by
   simp only[QLW,QLT] at hx;obtain ⟨t,ht,rfl⟩:=hx;obtain ⟨hlt,hget⟩:=QLO.1 ht;have hgt:=hg t (QL2 ht);have hl1:(T.take i).countP B<=1000000000:=QMe QMC (by simp;omega)
   have hl2:(T.take i).countP (fun t=>!B t)<=1000000000:=QMe QMC (by simp;omega)
   refine ⟨rfl,?_⟩;rw[QLM hlt,QMQ,QMQ,hget];obtain ⟨v0,v1,v2,v3,hv⟩:∃ v0 v1 v2 v3,ZK p t=[v0,v1,v2,v3]:=⟨_,_,_,_,rfl⟩
   rw[hv] at hgt;simp[Qcs,hv,Qie,Qo8];refine ⟨hc,cK (by simpa using hgt) ?_⟩
   cases hb:B t
   ·simp[hb]
    omega
   ·simp[hb]
    omega
  simpa using this
 ·have hsum:T.countP B+T.countP (fun t=>!B t)=T.length:=by
   have:=List.length_eq_countP_add_countP B (l:=T)
   grind
  have htold:XY (T.countP B:Nat) T.length=if T.countP (fun t=>!B t)=0 then 1 else if T.countP B=0 then 2 else 3:=by
   unfold XY;omega
  rw[htold];clear htold hg hit;generalize T.countP B=a at *;generalize T.countP (fun t=>!B t)=d at *
  by_cases h1:d=0
  ·simp[h1]
  ·by_cases h2:a=0
   ·simp[h1,h2]
   ·simp[h1,h2]
omit hK
def Qkr (d:Qs):Qs:=qZ d 0
theorem WF (p:Qs->Bool) (hp:∀ d,p (Qkr d)=p d):∀ (ds:List Qs) (i:Nat),XH p (ds.map Qkr) i=XH p ds i
 | [],_=>rfl
 | d::r,i=>by simp only[QMb,XH,hp,WF p hp r]
theorem QuF (ds:List Qs) (i:Nat):wn (ds.map Qkr) i=wn ds i:=by
 unfold wn;rw[<- QNt,WF ZR fun d=>rfl]
theorem QmQ (ds:List Qs):pv (ds.map Qkr)=pv ds:=WF Q1 (fun _=>rfl) ds 0
theorem QkN (ds:List Qs):YD (ds.map Qkr)=YD ds:=WF ZR (fun _=>rfl) ds 0
theorem Qks (ds:List Qs) (i:Nat):cnt (ds.map Qkr) i=cnt ds i:=by
 unfold cnt;rw[<- QNt,List.map_map];rfl
theorem QaG (ds:List Qs) (e:Nat->Int):∀ i,cab (ds.map Qkr) e i=cab ds e i
 | 0=>rfl
 | i+1=>by
   have ih:=QaG ds e i;simp only[cab,QLW,ih,QuF];cases ds[i]?<;>rfl
theorem Qlp (ds:List Qs) (k:Nat):Qac (ds.map Qkr) k=Qkr (Qac ds k):=by
 unfold Qac;rw[QkN];simp only[List.getD_eq_getElem?_getD,QLW];cases ds[(YD ds)[k]?.getD 0]?<;>rfl
theorem qz (ds:List Qs) (ss:List Xq) (e:Nat->Int):QZ (ds.map Qkr) ss e=QZ ds ss e:=by
 unfold QZ
 congr 1
 funext s
 simp only[We,QaG,QfD,Qlp];rfl
section
variable {ds ds':List Qs} (h:ds'.map Qkr=ds.map Qkr)
include h
theorem Qjx:ds'.length=ds.length:=by simpa using congrArg List.length h
theorem QdX:pv ds'=pv ds:=by rw[<- QmQ ds',h,QmQ]
theorem QdY (i:Nat):cnt ds' i=cnt ds i:=by rw[<- Qks ds',h,Qks]
theorem Qjy (e:Nat->Int) (i:Nat):cab ds' e i=cab ds e i:=by rw[<- QaG ds',h,QaG]
theorem Qha (ss:List Xq) (e:Nat->Int):QZ ds' ss e=QZ ds ss e:=by rw[<- qz ds',h,qz]
theorem Qk1 (p:Qf) (hp:p.chain.deeds=ds) (c:Qn) (hc:c.deeds=ds') (e:Nat->Int):Z1 { p with chain:=c } e=Z1 p e:=by
 have h1:∀ i,Zy { p with chain:=c } i e=Zy p i e:=fun i=>by
  show cab c.deeds e ((pv c.deeds).getD i 0)=cab p.chain.deeds e ((pv p.chain.deeds).getD i 0)
  rw[hc,hp,QdX h,Qjy h]
 have h2:Yh { p with chain:=c } e=Yh p e:=by
  show cab c.deeds e c.deeds.length=cab p.chain.deeds e p.chain.deeds.length
  rw[hc,hp,Qjx h,Qjy h]
 have h3:∀ i,QF { p with chain:=c } i e=QF p i e:=fun i=>by
  unfold QF;rw[h1];rfl
 simp only[Z1,h1,h2,h3]
end
def Qdx:List Qs->List Int->List Qs
 | d::r,x::e=>qZ d x::Qdx r e
 | _,_=>[]
theorem YB:∀ {ds:List Qs} {e:List Int},e.length=ds.length->(Qdx ds e).map Qkr=ds.map Qkr
 | [],[],_=>rfl
 | d::r,x::e,h=>by
   have:=YB (ds:=r) (e:=e) (by simpa using h)
   simp only[Qdx,QMb,this];rfl
theorem Qje:∀ {ds:List Qs} {e:List Int} (hl:e.length=ds.length) (i:Nat) (h:i<ds.length),(Qdx ds e)[i]?=some (qZ ds[i] (e[i]'(by omega)))
 | d::r,x::e,hl,0,_=>rfl
 | d::r,x::e,hl,i+1,h=>by
   have:=Qje (ds:=r) (e:=e) (by simpa using hl) i (by simpa using h)
   simpa[Qdx] using this
theorem Zl:∀ {ds:List Qs} {e:List Int},e∈QP ds->e.length=ds.length/\∀ i (h:i<ds.length) (h':i<e.length),e[i]∈Ur ds[i]
 | [],e,h=>by simp[QP] at h;subst h;simp
 | d::r,e,h=>by
   simp only[QP,QMl,QL5] at h;obtain ⟨x,hx,e',he',rfl⟩:=h;obtain ⟨h1,h2⟩:=Zl he'
   grind
theorem Wb:∀ {ds:List Qs},(∀ d∈ds,d.frm=0\/d.frm=1\/d.frm=2)->UH ds=(QP ds).map (Qdx ds)
 | [],_=>rfl
 | d::r,h=>by
   have ih:=Wb (ds:=r) fun d hd=>h d (by simp[hd])
   have hd:=h d (by simp)
   have hself:∀ x,d.frm=x->qZ d x=d:=fun x hx=>by subst hx;rfl
   rcases hd with hd | hd | hd
   ·simp[UH,QP,Ur,hd,ih,Qdx,hself 0 hd,List.map_map,Function.comp_def]
   ·simp[UH,QP,Ur,hd,ih,Qdx,hself 1 hd,List.map_map,Function.comp_def]
   ·simp[UH,QP,Ur,hd,ih,Qdx,List.map_map,Function.comp_def]
theorem QbZ {d:Qs} {x:Int} (h:x∈Ur d):(x=0\/x=1)/\(d.frm=2\/x=d.frm):=by
 unfold Ur at h
 grind
theorem OkD.frm {ds:List Qs} {n:Nat} (h:OkD ds n) (hn:ds.length<=n):∀ d∈ds,d.frm=0\/d.frm=1\/d.frm=2:=by
 intro d hd;obtain ⟨i,hi,rfl⟩:=QMz hd;have:=h i hi (by omega)
 rcases this with ⟨_,h2,_⟩ | ⟨_,h2,_⟩ | ⟨_,_,h2,_⟩
 ·simp only[inR] at h2;omega
 ·simp only[inR] at h2;omega
 ·omega
section
variable {c:Qn} (hc:OkC c) {e:List Int} (he:e∈QP c.deeds)
include hc he
theorem Qdw:(Qdx c.deeds e).length=c.deeds.length:=Qjx (YB (Zl he).1)
theorem QgX (i:Nat) (h:i<c.deeds.length):∃ x,(Qdx c.deeds e)[i]?=some (qZ c.deeds[i] x)/\(x=0\/x=1)/\(c.deeds[i].frm=2\/x=c.deeds[i].frm)/\QC e i=x:=by
 obtain ⟨h1,h2⟩:=Zl he;have h3:=QbZ (h2 i h (by omega))
 refine ⟨e[i]'(by omega),Qje h1 i h,h3.1,h3.2,?_⟩
 simp[QC,List.getD_eq_getElem?_getD,QLN (show i<e.length by omega)]
theorem QuA:OkD (Qdx c.deeds e) (Qdx c.deeds e).length:=by
 intro i h _;have hlen:=Qdw hc he;have hi:i<c.deeds.length:=by omega
 obtain ⟨x,h1,h2,h3,_⟩:=QgX hc he i hi;rw[QLN h] at h1;injection h1 with h1
 rw[h1,QdY (YB (Zl he).1)];rcases hc.deeds i hi hi with ⟨a1,a2,a3⟩ | ⟨a1,a2,a3⟩ | ⟨a1,a2,a3,a4⟩
 ·exact .inl ⟨a1,by simp only[inR,qZ];omega,a3⟩
 ·exact .inr (.inl ⟨a1,by simp only[inR,qZ];omega,a3⟩)
 ·exact .inr (.inr ⟨a1,a2,by simp only[qZ];omega,a4⟩)
theorem Qmc:OkC { c with deeds:=Qdx c.deeds e }:=by
 have hlen:=Qdw hc he;refine ⟨by simp only[hlen];exact hc.len,hc.slen,hc.wrong,QuA hc he,fun s hs=>?_⟩
 have:=hc.sights s hs;unfold ZI at *;simp only[hlen,QdY (YB (Zl he).1)];exact this
theorem Qjc:ZB (Qdx c.deeds e)=0:=by
 rw[ZB,QNg];intro d hd;obtain ⟨i,hi,rfl⟩:=QMz hd;have hlen:=Qdw hc he;obtain ⟨x,h1,h2,_⟩:=QgX hc he i (by omega)
 rw[QLN hi] at h1;injection h1 with h1
 have h3:¬ x=2:=by omega
 rw[h1];simp[qZ,h3]
theorem Qan:ZD (Qdx c.deeds e) 0=QC e:=by
 funext i
 have hlen:=Qdw hc he;unfold ZD;rcases QM0 i c.deeds.length with h | h
 ·obtain ⟨x,h1,h2,_,h4⟩:=QgX hc he i h
  have h5:¬ (qZ c.deeds[i] x).frm=2:=by show ¬ x=2;omega
  rw[h1,h4];simp only;rw[if_neg h5];rfl
 ·rw[List.getElem?_eq_none (by omega)]
  have:=(Zl he).1;simp[QC,List.getD_eq_getElem?_getD,List.getElem?_eq_none (show e.length<=i by omega)]
theorem Qjd:QvL c.deeds e:=by
 obtain ⟨h1,h2⟩:=Zl he;refine ⟨h1,fun i h h'=>?_⟩
 have h3:=QbZ (h2 i h h');simp only[inR];omega
theorem QuB:Yo { c with deeds:=Qdx c.deeds e } true=0↔Qns c e:=by
 have h1:=Qmc hc he
 have h2:QX { c with deeds:=Qdx c.deeds e }=if (QZ c.deeds c.sights (QC e):Int)<=c.wrong then [0] else []:=by
  have hw:=Qha (YB (Zl he).1) c.sights (QC e);unfold QX;simp only[Qjc hc he,Qan hc he,Nat.pow_zero];rw[show List.range 1=[0] from rfl]
  by_cases h:(QZ c.deeds c.sights (QC e):Int)<=c.wrong
  ·rw[if_pos h,QM6 (by simpa[Qan hc he,hw] using h)];rfl
  ·rw[if_neg h,QM7 (by simpa[Qan hc he,hw] using h)];rfl
 unfold Yo Qns;rw[if_pos h1,if_pos rfl,h2];have:=Qjd hc he
 grind
end
theorem qm (c:Qn) (hc:OkC c):YR c=(ZS c [] c.deeds).map fun e=>{ c with deeds:=Qdx c.deeds e }:=by
 unfold YR ZS;rw[Wb (hc.deeds.frm (QLS _)),List.map_map,List.filter_map];have e1:((QP c.deeds).map fun x=>[]++x)=QP c.deeds:=by simp
 rw[e1]
 congr 1
 refine QNf fun e he=>?_
 simp only[Function.comp_apply];rw[Bool.eq_iff_iff];simpa using QuB hc he
theorem Qei (p:Qf) (hc:OkC p.chain):(YR p.chain).map (fun c'=>Z1 { p with chain:=c' } (ZD c'.deeds 0))=Q4 p:=by
 unfold Q4;rw[qm _ hc,List.map_map];refine QMG fun e he=>?_
 have he':e∈QP p.chain.deeds:=by
  simp only[ZS,QMr] at he;simpa using he.1
 simp only[Function.comp_apply];rw[Qan hc he'];exact Qk1 (YB (Zl he').1) p rfl _ rfl _
def Qao:List ZC->List Int->List ZC
 | l::r,x::e=>QcO l x::Qao r e
 | l,[]=>l
 | [],_=>[]
theorem Qdy (ls:List ZC):Qao ls []=ls:=by cases ls<;>rfl
theorem UY:∀ (ls:List ZC) (e:List Int),(Qao ls e).length=ls.length
 | [],[]=>rfl
 | [],_::_=>rfl
 | _::_,[]=>rfl
 | l::r,x::e=>by simp[Qao,UY r e]
theorem QeT:∀ (ls:List ZC) (e:List Int) (n:Int) (h:e.length<ls.length),Qao ls (e++[n])=(Qao ls e).set e.length (QcO ls[e.length] n)
 | l::r,[],n,_=>by simp[Qao,Qdy]
 | l::r,x::e,n,h=>by
   have:=QeT r e n (by simpa using h)
   simp[Qao,this]
theorem QcD:∀ (ls:List ZC) (e:List Int) (h:e.length<ls.length),(Qao ls e)[e.length]?=some ls[e.length]
 | l::r,[],_=>by simp[Qdy]
 | l::r,x::e,h=>by
   have:=QcD r e (by simpa using h)
   simpa[Qao] using this
def Xb (m:Machine) (s:Qk):Machine:={ m with levers:=Qao m.levers s.shorts,llo:=s.leak,lhi:=s.leak }
def Qee (m:Machine) (first:List Int):Machine:={ m with levers:=Qao m.levers first }
theorem QgP:∀ (ls:List ZC) (e:List Int),Q8 (·.long) (Qao ls e)=Q8 (·.long) ls
 | [],[]=>rfl
 | [],_::_=>rfl
 | _::_,[]=>rfl
 | l::r,x::e=>by simp only[Qao,Q8,QgP r e];rfl
theorem QjQ (m:Machine) (s s':Qk) (w mn:Int):num (Xb m s) s' w mn=num m s' w mn:=by
 unfold num Vs;rw[show (Xb m s).levers=Qao m.levers s.shorts from rfl,QgP]
 rfl
theorem QgY (m:Machine) (s s':Qk):ZQ (Xb m s) m.bals s'=ZQ m m.bals s':=by
 unfold ZQ
 congr 1
 funext b
 simp only[QcS,QjQ]
theorem U7:∀ (ls:List ZC) (e:List Int),e.length=ls.length->QV (Qao ls e)=[e]
 | [],[],_=>rfl
 | l::r,x::e,h=>by
   have ih:=U7 r e (by simpa using h)
   have h1:(QcO l x).hi+1-(QcO l x).lo=1:=by simp only[QcO];omega
   simp only[Qao,QV,ih,h1];simp[acc,QcO]
theorem QmZ {m:Machine} {s:Qk} (h:okS m s) (i:Nat) (hi:i<m.levers.length):(Qao m.levers s.shorts)[i]?=some (QcO m.levers[i] (s.shorts[i]'(by rw[h.1];exact hi))):=by
 have:∀ (ls:List ZC) (e:List Int) (i:Nat) (h1:e.length=ls.length) (hi:i<ls.length),(Qao ls e)[i]?=some (QcO ls[i] (e[i]'(by omega))):=by
  intro ls
  induction ls with
  | cons l r ih =>
    intro e i h1 hi;cases e with
    | nil=>simp at h1
    | cons x e =>
      cases i with
      | zero=>simp[Qao]
      | succ i=>simpa[Qao] using ih e i (by simpa using h1) (by simpa using hi)
  | _=>grind
 exact this _ _ i h.1 hi
theorem QqQ {m:Machine} {s:Qk} (h:okS m s):okS (Xb m s) s:=by
 refine ⟨by simp only[Xb,UY];exact h.1,by simp[Xb,inR],fun i h1 h2=>?_⟩
 have hi:i<m.levers.length:=by simpa[Xb,UY] using h1
 have:=QmZ h i hi
 have h3:(Xb m s).levers[i]=QcO m.levers[i] (s.shorts[i]'(by rw[h.1];exact hi)):=by
  rw[show (Xb m s).levers=Qao m.levers s.shorts from rfl] at h1
  rw[QLN h1] at this;injection this
 rw[h3];simp[QcO,inR]
theorem qW (l:ZC):Zh l=false↔inR l.long 1 1000/\inR l.lo 1 l.hi/\l.hi<=1000:=by
 unfold Zh
 grind
theorem Qd7 {m:Machine} (hm:OkM m) {s:Qk} (h:okS m s):OkM (Xb m s):=by
 have h2:=h.2.1;have h3:=hm.leak;have h4:=hm.lhi;simp only[inR] at h2 h3;refine ⟨by simp only[Xb,UY];exact hm.len,fun l hl=>?_,hm.water,by simp only[Xb,inR];omega,by simp only[Xb];omega,hm.blen,hm.bals,hm.wrong⟩
 obtain ⟨i,hi,rfl⟩:=QMz hl;have hi':i<m.levers.length:=by simpa[Xb,UY] using hi
 have h5:=QmZ h i hi'
 have h6:(Xb m s).levers[i]=QcO m.levers[i] (s.shorts[i]'(by grind)):=by
  rw[show (Xb m s).levers=Qao m.levers s.shorts from rfl] at hi
  rw[QLN hi] at h5;injection h5
 have h7:=h.2.2 i hi' (by grind)
 have h8:=hm.levers _ (QLR hi');rw[h6];rw[qW] at h8 |-;simp only[inR,QcO] at h7 h8 |-;omega
theorem QcL {m:Machine} {s:Qk} (h:okS m s):QW (Xb m s) [] (Xb m s).levers=if (ZQ m m.bals s:Int)<=m.wrong then [s] else []:=by
 have h1:Zi (Xb m s) [] (Xb m s).levers=[s]:=by
  unfold Zi;rw[show (Xb m s).levers=Qao m.levers s.shorts from rfl,U7 _ _ h.1]
  have:((Xb m s).lhi+1-(Xb m s).llo).toNat=1:=by simp only[Xb];omega
  rw[this];simp[Xb]
 unfold QW;rw[h1]
 have h2:Vq (Xb m s) s↔(ZQ m m.bals s:Int)<=m.wrong:=by
  unfold Vq;rw[show (Xb m s).bals=m.bals from rfl,QgY]
  exact ⟨fun h=>h.2,fun h'=>⟨QqQ h,h'⟩⟩
 grind
theorem QuQ {m:Machine} (hm:OkM m) {s:Qk} (h:okS m s):tE (Xb m s) true=0↔Vq m s:=by
 unfold tE;rw[if_pos (Qd7 hm h),if_pos rfl,QcL h];unfold Vq
 grind
theorem Qqe {α β:Type} (f:α->β) (pc:Nat->List α) (n:Nat):(acc pc n).map f=acc (fun i=>(pc i).map f) n:=by simp[acc,QNc]
theorem QgO {α:Type} {pc pc':Nat->List α} {n:Nat} (h:∀ i<n,pc i=pc' i):acc pc n=acc pc' n:=by
 induction n with
 | zero=>rfl
 | succ n ih=>rw[QaM,QaM,ih fun i hi=>h i (by omega),h n (by omega)]
theorem Qdk {m:Machine} (hm:OkM m):∀ (r k:Nat) (first:List Int),k+r=m.levers.length->first.length=k->(∀ i (h:i<m.levers.length) (h':i<first.length),inR first[i] m.levers[i].lo m.levers[i].hi) ->
  Uy r (Qee m first) k=(QW m first (m.levers.drop k)).map (Xb m)
 | 0,k,first,hk,hf,hr=>by
   have hd:m.levers.drop k=[]:=QMA (by omega)
   have h1:QW m first (m.levers.drop k)=acc (fun i=>if Vq m ⟨first,m.llo+(i:Nat)⟩ then [⟨first,m.llo+(i:Nat)⟩] else []) (m.lhi+1-m.llo).toNat:=by
    rw[hd];simp only[QW,Zi,QV,QML,List.flatMap_nil,QL0,acc];generalize (m.lhi+1-m.llo).toNat=n;generalize List.range n=L
    induction L with
    | _=>grind
   rw[h1,Qqe];simp only[Uy];refine QgO fun i hi=>?_
   have hleak:inR (m.llo+(i:Nat)) m.llo m.lhi:=by
    have hi':i<(m.lhi+1-m.llo).toNat:=hi;simp only[inR];omega
   have hok:okS m ⟨first,m.llo+(i:Nat)⟩:=⟨by simp only;omega,hleak,hr⟩
   have hmach:XP (Qee m first) ((Qee m first).llo+(i:Nat))=Xb m ⟨first,m.llo+(i:Nat)⟩:=rfl
   unfold qN;rw[hmach];have:=QuQ hm hok
   grind
 | r+1,k,first,hk,hf,hr=>by
   have hlt:k<m.levers.length:=by omega
   have hget:(Qee m first).levers[k]?=some m.levers[k]:=by
    have:=QcD m.levers first (by omega)
    simp only[hf] at this;exact this
   rw[QMq hlt,QcM,Qqe];simp only[Uy,hget];refine QgO fun i hi=>?_
   have hfix:YX (Qee m first) k m.levers[k] (m.levers[k].lo+(i:Nat))=Qee m (first++[m.levers[k].lo+(i:Nat)]):=by
    unfold YX Qee;rw[QeT m.levers first _ (by omega)]
    simp only[hf]
   rw[hfix];refine Qdk hm r (k+1) (first++[m.levers[k].lo+(i:Nat)]) (by omega) (by simp[hf]) fun j h h'=>?_
   rcases QM0 j first.length with hj | hj
   ·grind
   ·have hjk:j=k:=by simp at h';omega
    subst hjk;rw[QNo hj];simp only[hf,Nat.sub_self,QMW,inR];omega
theorem Qoh {m:Machine} (hm:OkM m):Uy m.levers.length m 0=(QW m [] m.levers).map (Xb m):=by
 have:=Qdk hm m.levers.length 0 [] (by omega) rfl (by simp)
 have e:Qee m []=m:=by unfold Qee;rw[Qdy]
 grind
theorem Qla {m:Machine} (hm:OkM m) {s:Qk} (h:Vq m s) {w mn:Int} (ha:W2 w mn 0=true):Yk (Xb m s) w mn=(QbA m w mn s,upS m w mn s):=by
 unfold Yk tL;rw[ha,if_pos ⟨Qd7 hm h.1,rfl⟩,QcL h.1,if_pos h.2];simp only[QMb,List.map_nil,span,List.foldl_nil,QbA,upS,QjQ]
theorem QuO {m:Machine} (hm:OkM m) (hs:sets m m.levers.length<=1000000):QD9 m:=by
 have hl:∀ l∈m.levers,1<=l.lo/\l.lo<=l.hi/\l.hi<=1000:=fun l hl=>by
  have:=(qW l).1 (hm.levers l hl);simp only[inR] at this;omega
 exact ⟨hm.len,hm.blen,hm.leak,hm.lhi,fun l h=>by have:=hl l h;simp only[Z8];omega,fun l h=>by grind,hs⟩
@[reducible] def Jn (p:Qf) (SS LL:List (List IV)):Qx :=
 [(0,.box [.loc 1 0]),(1,.box ((prC p).map AV.iv++[.aref 2 SS.length,.aref 3 LL.length])),(2,.arr 118 3 (emb SS) 0),(3,.arr 110 1 (emb LL) 0)]
def QHZ (pe:List (Nat × Nat × Nat)) (o1:Qx):Env->Qx->Prop:=QgS [QeS.tmp 4] [0,1,2,3] pe (.iv (.bool true)) o1
theorem QoA (p:Qf) (SS LL:List (List IV)) {s:Nat} {e:Env} {o:Qx} (h1:Ev.look e 4=.iv (.bool true)) (h2:Ev.look e s=.loc 0 0) (h3:∀ q∈Jn p SS LL,Qc o q.1=some q.2):QHZ [(s,0,0)] (Jn p SS LL) e o:=by
 refine ⟨⟨.iv (.bool true),?_,rfl⟩,fun q hq=>?_,fun q hq=>?_⟩
 ·simp[Qvf,QqJ,h1]
 ·have:=h3 q hq
  simp only[QLX,QLZ,or_false] at hq;rcases hq with rfl | rfl | rfl | rfl
  ·exact this
  ·refine this.trans ?_
   simp[rnO,rnL,rn,prC,nth]
  ·rw[YI];exact this
  ·rw[YI];exact this
 grind
theorem Ys (p:Qf) (SS LL:List (List IV)):∀ q∈Jn p SS LL,q.1<4/\Zr q.2=true/\clO ((Jn p SS LL).map (·.1)) q.2=true:=by
 intro q hq;simp only[QLX,QLZ,or_false] at hq;rcases hq with rfl | rfl | rfl | rfl
 ·exact ⟨by omega,rfl,by simp[clO,clAL,clA]⟩
 ·exact ⟨by omega,rfl,by simp[clO,clAL,clA,prC]⟩
 ·exact ⟨by omega,rfl,Xz _ _ _ _ _⟩
 ·exact ⟨by omega,rfl,Xz _ _ _ _ _⟩
include hK
omit hK in
theorem Qs5:ZO Tryz.prog 126 QEP [1]:=⟨_,Tryz.func126,by kernel_rfl⟩
omit hK in
theorem Qs4:ZO Tryz.prog 129 QEO [2]:=⟨_,Tryz.func129,by kernel_rfl⟩
theorem Qry (p:Qf) (c:Qn) (s0 s1 s2:IV) (SS LL:List (List IV)) (hn:SS.length<=1000000) (hg:Ev.Good Tryz.prog K 127 [chV c,Xr p.trials] (.agg [s0,s1,s2])) :
  QQ Tryz.prog K 126 [.iv (chV c),.loc 0 0,.iv (.ptr (prC p))] (Jn p SS LL) [0] (.iv (.bool true)) (Jn p (SS++[[s0,s1,s2]]) LL):=by
 refine Q2 [0,1,2,3] [0] [1] [(1,0,0)] Qs5 (by simp[QEP]) (by simp) ?_ ?_ ?_ ?_
 ·exact Ys p _ _
 ·simp[clA]
 ·simp[nth,Qc]
  grind
 ·show WpF _ _ (FnF (QHZ [(1,0,0)] (Jn p (SS++[[s0,s1,s2]]) LL))) _ _ _
  simp[prC];refine cK (by simpa using hg) ?_
  simp[prC,-List.map_map,Qu,QM,QE,Ql];refine ⟨by omega,QoA p _ _ rfl rfl fun q hq=>?_⟩
  simp only[QLX,QLZ,or_false] at hq;rcases hq with rfl | rfl | rfl | rfl<;>simp[Qc,prC]
def QAZ (p:Qf) (lo up:Nat->Int):List IV:=[.sl 2 ((List.range p.trials.length).map fun i=>[.int .i64 (lo i),.int .i64 (up i)])]
theorem Qrw (p:Qf) (m:Machine) (hl:m.levers.length<=1000) (hb:m.bals.length<=1000) (ht:p.trials.length<=1000) (lo up:Nat->Int) (hr:∀ i,i<p.trials.length->Yk m (tr p i).weight (tr p i).mins=(lo i,up i)) (SS LL:List (List IV)) (hn:LL.length<=1000000) :
  QQ Tryz.prog K 129 [.iv (maV m),.iv (.ptr (prC p)),.loc 0 0] (Jn p SS LL) [0] (.iv (.bool true)) (Jn p SS (LL++[QAZ p lo up])):=by
 refine Q2 [0,1,2,3] [0] [2] [(2,0,0)] Qs4 (by simp[QEO]) (by simp) ?_ ?_ ?_ ?_
 ·exact Ys p _ _
 ·simp[clA]
 ·simp[nth,Qc]
  grind
 ·show WpF _ _ (FnF (QHZ [(2,0,0)] (Jn p SS (LL++[QAZ p lo up])))) _ _ _
  generalize hG:Jn p SS (LL++[QAZ p lo up])=G;simp[prC];intro _
  refine Qj (fun i=>[(2,AV.loc 0 0),(3,.iv (.ptr [Q0 m.levers,.int .i64 m.water,.int .i64 m.llo,.int .i64 m.lhi,XS m.bals,.int .i64 m.wrong])),(5,.aref 5 i),(11,.iv (Xr p.trials)),(12,.iv (.int .i64 p.trials.length)),(13,.iv (.int .i64 (i:Nat)))])
   (fun i=>[(0,.box [.loc 1 0]),(1,.box ((prC p).map AV.iv++[.aref 2 SS.length,.aref 3 LL.length])),(2,.arr 118 3 (emb SS) 0),(3,.arr 110 1 (emb LL) 0),(5,.arr 28 2 (emb ((List.range i).map fun i=>[.int .i64 (lo i),.int .i64 (up i)])) 0)]) p.trials.length (fun _=>True) trivial ?_ ?_
  ·intro _
   rw[Qa QiL.eq_1];simp[prC,-List.map_map,Qu,QM,QE,Ql,QLQ];rw[<- hG];refine ⟨by omega,QoA p _ _ rfl rfl fun q hq=>?_⟩
   simp only[QLX,QLZ,or_false] at hq;rcases hq with rfl | rfl | rfl | rfl<;>simp[Qc,prC,QAZ]
  ·intro i hi _ ih
   have hg:=QnV hK m (tr p i).weight (tr p i).mins hl hb;rw[hr i hi] at hg;have htr:=Qmo hi;rw[Qa QiL.eq_1];rw[QMn,QL8] at ih;simp at ih;simp[hi,htr,-List.map_map,Qu,QM,QE,Ql];refine cK (by simpa using hg) ?_
   have hsc:scrL [0,1,2,3,5] ((prC p).map AV.iv++[.aref 2 SS.length,.aref 3 LL.length])=(prC p).map AV.iv++[.aref 2 SS.length,.aref 3 LL.length]:=by simp[prC,scrL,scr]
   simp[hsc,-List.map_map,Qu,QM,QE,Ql]
   grind
omit hK in
theorem Qvr {p:Qf} (hp:OkP p) {c:Qn} (hc:c∈YR p.chain):OkP { p with chain:=c }/\ZB c.deeds=0:=by
 rw[qm _ hp.chain] at hc;obtain ⟨e,he,rfl⟩:=QL5.1 hc
 have he':e∈QP p.chain.deeds:=by
  simp only[ZS,QMr] at he;simpa using he.1
 have hcore:=YB (Zl he').1;refine ⟨⟨Qmc hp.chain he',hp.machine,hp.need,hp.rule,?_,fun i h h'=>?_⟩,Qjc hp.chain he'⟩
 ·simp only[QdX hcore];exact hp.many
 ·simp only[QdX hcore] at h
  have:=hp.trials i h h';simp only[QdX hcore,QdY hcore];exact this
theorem QfB (p:Qf) (hp:OkP p):∀ (L:List Qn) (SS LL:List (List IV)),(∀ c∈L,c∈YR p.chain)->SS.length+L.length<=1000000 ->
  Y2 Tryz.prog K 126 [] [.loc 0 0,.iv (.ptr (prC p))] [0] (L.map QhN) (Jn p SS LL) true (Jn p (SS++L.map fun c'=>Z1 { p with chain:=c' } (ZD c'.deeds 0)) LL)
 | [],SS,LL,_,_=>by simpa using Y2.nil _
 | c::L,SS,LL,h,hn=>by
   have hc:=Qvr hp (h c (by simp))
   have hg:=QwJ hK { p with chain:=c } hc.1 hc.2
   have ih:=QfB p hp L (SS++[Z1 { p with chain:=c } (ZD c.deeds 0)]) LL (fun c' hc'=>h c' (by simp[hc'])) (by grind)
   refine .next _ _ _ _ _ _ (Qry hK p c _ _ _ SS LL (by simp at hn;omega) hg) (fun q hq=>(Ys p _ _ q hq).2.1) ?_
   simpa[Z1] using ih
theorem QfA (p:Qf) (hp:OkP p) (SS:List (List IV)):∀ (L:List Qk) (LL:List (List IV)),(∀ s∈L,Vq p.machine s)->LL.length+L.length<=1000000 ->
  Y2 Tryz.prog K 129 [] [.iv (.ptr (prC p)),.loc 0 0] [0] ((L.map (Xb p.machine)).map Qf7) (Jn p SS LL) true (Jn p SS (LL++L.map fun s=>[.sl 2 (Zs p s)]))
 | [],LL,_,_=>by simpa using Y2.nil _
 | s::L,LL,h,hn=>by
   have hs:=h s (by simp)
   have hm:=Qd7 hp.machine hs.1;have ih:=QfA p hp SS L (LL++[[.sl 2 (Zs p s)]]) (fun c' hc'=>h c' (by simp[hc'])) (by grind)
   have htl:=hp.trialsLen;have h1:=hm.len;have h2:=hm.blen
   have hg:=Qrw hK p (Xb p.machine s) (by omega) (by omega) (by omega) (fun i=>QbA p.machine (tr p i).weight (tr p i).mins s) (fun i=>upS p.machine (tr p i).weight (tr p i).mins s) (fun i hi=>by
    have ht:=hp.trial hi;refine Qla hp.machine hs ?_;simp only[W2,inR];have a1:=ht.1;have a2:=ht.2.1;simp only[inR] at a1 a2;simp;omega) SS LL (by simp at hn;omega)
   refine .next _ _ _ _ _ _ hg (fun q hq=>(Ys p _ _ q hq).2.1) ?_
   simpa[QAZ,Zs] using ih
theorem Qrz (p:Qf) (hp:OkP p):QQ Tryz.prog K 125 [.iv (chV p.chain),.clo 126 [] [.loc 0 0,.iv (.ptr (prC p))]] (Jn p [] []) [0] (.iv (.bool true)) (Jn p (Q4 p) []):=by
 have hl:=hp.deedsLen;have hs:=hp.chain.slen;have hit:=QhM hK (ZB p.chain.deeds) p.chain rfl (by omega) (by omega)
 have hr:=QfB hK p hp (YR p.chain) [] [] (fun c hc=>hc) (by
  rw[qm _ hp.chain,QL6];have:=QrO hp.chain;simp;omega)
 rw[QL4,Qei p hp.chain] at hr
 have:=WH hit (by kernel_rfl) (by simp[clAL]) (by simp[clAL,clA]) (fun i hi=>by
  simp at hi;subst hi;exact ⟨_,rfl⟩) (fun q hq=>(Ys p _ _ q hq).2.1) hr
 simpa using this
theorem Qrx (p:Qf) (hp:OkP p) (hs:sets p.machine p.machine.levers.length<=1000000) (SS:List (List IV)):QQ Tryz.prog K 128 [.iv (maV p.machine),.iv (.int .i64 0),.clo 129 [] [.iv (.ptr (prC p)),.loc 0 0]] (Jn p SS []) [0] (.iv (.bool true)) (Jn p SS (XO p)):=by
 have hit:=Qnr hK p.machine.levers.length p.machine 0 (by omega) (QuO hp.machine hs)
 rw[Qoh hp.machine] at hit
 have hr:=QfA hK p hp SS (QW p.machine [] p.machine.levers) [] (fun s h=>by
  simp only[QW,QMr,decide_eq_true_eq] at h;exact h.2) (by
  have:=Qar hp.machine;simp;omega)
 rw[QL4] at hr
 have:=WH hit (by kernel_rfl) (by simp[clAL]) (by simp[clAL,clA]) (fun i hi=>by
  simp at hi;subst hi;exact ⟨_,rfl⟩) (fun q hq=>(Ys p _ _ q hq).2.1) hr
 simpa[XO] using this
omit hK in
theorem Qkg (p:Qf) (SS LL SS' LL':List (List IV)) (args0:List AV) (ha:args0.all (clA [0,1,2,3])=true) (o:Qx) (h7:Qc o 7=some (.box [.loc 17 0])) (h17:Qc o 17=some (.box ((prC p).map AV.iv++[.aref 18012 SS.length,.aref 18013 LL.length])))
  (h12:Qc o 18012=some (.arr 118 3 (emb SS) 0)) (h13:Qc o 18013=some (.arr 110 1 (emb LL) 0)):HOk [7,17,18012,18013] args0 o (Jn p SS LL) (Jn p SS' LL'):=by
 refine ⟨by decide,ha,fun q hq=>?_,fun i hi h=>?_,fun q hq=>⟨(Ys p _ _ q hq).1,(Ys p _ _ q hq).2.1⟩⟩
 ·have h1:=Ys p _ _ q hq
  refine ⟨h1.1,?_,h1.2.2,h1.2.1⟩;simp only[QLX,QLZ,or_false] at hq;rcases hq with rfl | rfl | rfl | rfl
  ·exact h7
  ·refine h17.trans ?_
   simp[rnO,rnL,rn,prC,nth]
  ·rw[YI];exact h12
  ·rw[YI];exact h13
 ·simp at hi
  have:i=0\/i=1\/i=2\/i=3:=by omega
  rcases this with rfl | rfl | rfl | rfl<;>simp[Qc] at h
theorem QbQ (p:Qf) (is:Bool) (hf:QKZ p):Ev.Good Tryz.prog K 61 [prV p,.bool is] (.tup [if kE p is=0 then .ptr (Uq p) else .nilp,.int .i64 (kE p is)]):=by
 refine Qb hK QCK (by simp) ?_
 simp;refine cK (by simpa using Qn3 hK p hf.small) ?_
 by_cases hp:OkP p
 ·cases is
  ·simp[hp,kE]
  ·have hg1:=Qrz hK p hp
   have hg2:=Qrx hK p hp (hf.sets hp) (Q4 p);simp[hp];refine Qi hg1 ?_ ?_ ?_
   ·simp[rn,rnL,nth,prC]
   ·exact Qkg p [] [] _ _ _ (by simp[clA,clAL]) _ (by simp[Qc]) (by simp[Qc,prC]) (by simp[Qc,emb]) (by simp[Qc,emb])
   ·have hrn:rnL (nth [7,17,18012,18013]) ((prC p).map AV.iv++[.aref 2 (Q4 p).length,.aref 3 0])=(prC p).map AV.iv++[.aref 18012 (Q4 p).length,.aref 18013 0]:=by simp[rnL,rn,prC,nth]
    simp[hrn];refine Qi hg2 ?_ ?_ ?_
    ·simp[rn,rnL,nth,prC]
    ·exact Qkg p _ [] _ _ _ (by simp[clA,clAL]) _ (by simp[Qc]) (by simp[Qc,prC]) (by simp[Qc,emb]) (by simp[Qc,emb])
    ·have hrn2:rnL (nth [7,17,18012,18013]) ((prC p).map AV.iv++[.aref 2 (Q4 p).length,.aref 3 (XO p).length])=(prC p).map AV.iv++[.aref 18012 (Q4 p).length,.aref 18013 (XO p).length]:=by simp[rnL,rn,prC,nth]
     have hE1:Qr p=[]↔Q4 p=[]\/XO p=[]:=by
      unfold Qr Q4 XO;rw[List.flatMap_eq_nil_iff];simp only[List.map_eq_nil_iff];constructor
      ·intro h
       cases hE:ZS p.chain [] p.chain.deeds with
       | nil=>exact .inl rfl
       | cons a r=>exact .inr (h a (by rw[hE];simp))
      grind
     have hk:kE p true=if Q4 p=[]\/XO p=[] then 3 else 0:=by
      unfold kE
      grind
     have hfile:Uq p=prC p++[.sl 3 (Q4 p),.sl 1 (XO p)]:=rfl;rw[hk,hfile];generalize Q4 p=SS at *;generalize XO p=LL at *;simp[hrn2];cases SS with
     | nil=>simp[prC]
     | cons a r =>
       cases LL with
       | nil=>simp[prC]
       | cons a2 r2 =>
         simp[prC];omega
 ·simp[hp,kE]
omit hK
theorem Yf {p:Qf} {t:Q7} (h:t∈Qr p):okS p.machine t.set:=(Qnj h).set
theorem UG (p:Qf):(Q4 p).length=(ZS p.chain [] p.chain.deeds).length:=by simp[Q4]
theorem Wt (p:Qf):(XO p).length=(QW p.machine [] p.machine.levers).length:=by simp[XO]
theorem Wx (p:Qf):(Qr p).length=(Q4 p).length*(XO p).length:=by
 rw[UG,Wt];unfold Qr;generalize ZS p.chain [] p.chain.deeds=E;generalize QW p.machine [] p.machine.levers=S
 induction E with
 | _=>grind
theorem Qnk {p:Qf} {is:Bool} (he:¬ kE p is=0):kL p is=[]:=by
 unfold kL kE at *
 grind
structure Few (p:Qf):Prop where
 fine:QKZ p
 ends:OkP p->(ZS p.chain [] p.chain.deeds).length<=1000000
 sets:OkP p->(QW p.machine [] p.machine.levers).length<=1000000
 all:OkP p->(Qr p).length<=100000
include hK
theorem QnF (p:Qf) (is:Bool) (hf:Few p) (g:FuncId) (fs cs:List IV) (B:Q7->Bool) (hg:kE p is=0->∀ t∈Qr p,Ev.Good Tryz.prog K g (fs++[.agg (ZK p t)]++cs) (.bool (B t))) (hc:callee Tryz.prog g=true) :
  Ev.Good Tryz.prog K 86 [prV p,.bool is,.clo g fs cs] (.tup [.int .i64 (if kE p is=0 then XY ((kL p is).countP B) (kL p is).length else 0),.int .i64 (kE p is)]):=by
 refine Qb hK QCm (by simp) ?_
 have hg63:=QbQ hK p is hf.fine;simp;refine cK (by simpa using hg63) ?_
 by_cases he:kE p is=0
 ·obtain ⟨hp,_,hk,_⟩:=YU he
  have hg75:=QnH hK p (hf.ends hp) (hf.sets hp) (by have:=hf.all hp;omega) g fs cs B (hg he) hc
  rw[hk];generalize Uq p=F at *;simp[he];refine cK (by simpa using hg75) ?_
  simp
 ·simp[he]
theorem QBq (p:Qf) (t:Q7) (hp:OkP p) (hs:okS p.machine t.set):Ev.Good Tryz.prog K 87 [.agg (ZK p t),.ptr (prC p)] (.bool (decide (p.rule<=(ZZ p t:Int)))):=by
 refine Qb hK QCl (by simp) ?_
 have hg:=QnJ hK p t p.need hp hs;obtain ⟨v0,v1,v2,v3,hv⟩:∃ v0 v1 v2 v3,ZK p t=[v0,v1,v2,v3]:=⟨_,_,_,_,rfl⟩
 rw[hv] at hg |-;simp[prC];refine cK (by simpa using hg) ?_
 have hnd:nd p p.need=p:=rfl;simp[hnd]
theorem QBm (p:Qf) (t:Q7) (hp:OkP p) (hs:okS p.machine t.set):Ev.Good Tryz.prog K 94 [.agg (ZK p t),.ptr (prC p)] (.bool (Vr p t)):=by
 refine Qb hK QCe (by simp) ?_
 have hg:=QtT hK p t p.need hp hs;obtain ⟨v0,v1,v2,v3,hv⟩:∃ v0 v1 v2 v3,ZK p t=[v0,v1,v2,v3]:=⟨_,_,_,_,rfl⟩
 rw[hv] at hg |-;simp[prC];refine cK (by simpa using hg) ?_
 have hnd:nd p p.need=p:=rfl;simp[hnd]
theorem QBo (p:Qf) (t:Q7) (k:Nat) (hk:k<64) (hp:OkP p) (hs:okS p.machine t.set):Ev.Good Tryz.prog K 90 [.agg (ZK p t),.ptr (prC p),.ptr [.int .i64 k]] (.bool (Zj p k t)):=by
 refine Qb hK QCi (by simp) ?_
 have hg:=QnE hK p t p.need hp;have hb:=Qd6 hp hs (need:=p.need) hk;have hlt:∀ n,pmN (nd p p.need) t n<2 ^ 64:=fun n=>QjI hp t n
 have hg2:=QnD hK (pmN (nd p p.need) t p.trials.length) k (hlt _) hk;have hnd:nd p p.need=p:=rfl;rw[hb,hnd] at hg2;rw[hnd] at hg;obtain ⟨v0,v1,v2,v3,hv⟩:∃ v0 v1 v2 v3,ZK p t=[v0,v1,v2,v3]:=⟨_,_,_,_,rfl⟩
 rw[hv] at hg |-;simp[prC];refine cK (by simpa using hg) ?_
 simp;refine cK (by simpa using hg2) ?_
 simp
theorem Qt5 (p:Qf) (hf:Few p):Ev.Good Tryz.prog K 33 [prV p] (.tup [.int .i64 (rCond p),.int .i64 (kE p true)]):=by
 refine Qb hK QDa (by simp) ?_
 have hg:=QnF hK p true hf 87 [] [.ptr (prC p)] (fun t=>decide (p.rule<=(ZZ p t:Int))) (fun he t ht=>by
  have hp:=(YU he).1;simpa using QBq hK p t hp (Yf ht)) (by kernel_rfl)
 simp;refine cK (by simpa[prC] using hg) ?_
 simp[rCond]
theorem Qt2 (p:Qf) (hf:Few p):Ev.Good Tryz.prog K 36 [prV p] (.tup [.int .i64 (rGood p),.int .i64 (kE p true)]):=by
 refine Qb hK QC7 (by simp) ?_
 have hg:=QnF hK p true hf 94 [] [.ptr (prC p)] (Vr p) (fun he t ht=>by
  have hp:=(YU he).1;simpa using QBm hK p t hp (Yf ht)) (by kernel_rfl)
 simp;refine cK (by simpa[prC] using hg) ?_
 simp[rGood]
theorem Qt9 (p:Qf) (hf:Few p):Ev.Good Tryz.prog K 26 [prV p] (.tup [.int .i64 (if kE p true=0 then (Zz p.machine 0 p.need).1 else 0),.int .i64 (if kE p true=0 then (Zz p.machine 0 p.need).2 else kE p true)]):=by
 refine Qb hK QDi (by simp) ?_
 have hg:=QbQ hK p true hf.fine;have hg2:=QBx hK p.machine 0 p.need hf.fine.small.levers hf.fine.small.bals;generalize Uq p=F at *;simp;refine cK (by simpa using hg) ?_
 by_cases he:kE p true=0
 ·simp[he]
  refine cK (by simpa using hg2) ?_
  simp
 ·simp[he]
omit hK
theorem Qcv (l:List Int) (n0:Int) (hne:l≠[]) (h:∀ x∈l,x<=n0):l.foldl min n0=(span l).1:=by
 cases l with
 | cons a r =>
   have:=h a (by simp)
   show r.foldl min (min n0 a)=r.foldl min a
   grind
 | _=>grind
theorem Qcw (l:List Int) (n0:Int) (hne:l≠[]) (h:∀ x∈l,n0<=x):l.foldl max n0=(span l).2:=by
 cases l with
 | cons a r =>
   have:=h a (by simp)
   show r.foldl max (max n0 a)=r.foldl max a
   grind
 | _=>grind
theorem Ui {α β:Type} (f:β->α->β) (b:β) (l:List α) (i:Nat) (h:i<l.length):(l.take (i+1)).foldl f b=f ((l.take i).foldl f b) l[i]:=by
 rw[QLM h,QNe];rfl
include hK
theorem Qt4 (p:Qf) (link:Int) (hf:Few p):Ev.Good Tryz.prog K 34 [prV p,.int .i64 link] (.tup [.int .i64 (rProved p link),.int .i64 (kE p (Wu p link))]):=by
 refine Qb hK QC9 (by simp) ?_
 have hd:=hf.fine.small.deeds
 have hsl:(Yi p.chain.deeds).length=(YD p.chain.deeds).length:=by
  rw[<- Yw];simp[Yi,XW]
 have hwl:(YD p.chain.deeds).length<=p.chain.deeds.length:=WE ZR p.chain.deeds 0
 have hg:=QnF hK p (Wu p link) hf 90 [] [.ptr (prC p),.ptr [.int .i64 link]] (Zj p link) (fun he t ht=>by
  obtain ⟨hp,his,_⟩:=YU he;have his:=of_decide_eq_true his;simp only[inR] at his;have:=hp.deedsLen;have h1:link=((link.toNat:Nat):Int):=by omega
  rw[h1];simpa using QBo hK p t link.toNat (by omega) hp (Yf ht)) (by kernel_rfl)
 have hg67:=Ux hK link 0 ((YD p.chain.deeds).length-1);simp;refine cK (by simpa using QBp hK p.chain hd) ?_
 have hsl2:=hsl;generalize Yi p.chain.deeds=S at *;simp[hsl]
 (repeat' first | omega | (with_reducible apply And.intro) | intro _)
 refine cK (by simpa using hg67) ?_
 simp;refine cK (by simpa[prC,Wu] using hg) ?_
 simp[rProved,Wu]
theorem Qud (p:Qf) (hf:Few p):Ev.Good Tryz.prog K 22 [prV p] (.tup [.agg [.int .i64 (rFail p).1,.int .i64 (rFail p).2],.int .i64 (kE p true)]):=by
 refine Qb hK QDq (by simp) ?_
 have hg:=QbQ hK p true hf.fine;have htl:=hf.fine.small.trials;simp;refine cK (by simpa using hg) ?_
 by_cases he:kE p true=0
 ·obtain ⟨hp,_,hk,hne⟩:=YU he
  have hit:=QtN hK p (hf.ends hp) (hf.sets hp);have hset:∀ t∈Qr p,okS p.machine t.set:=fun t ht=>Yf ht
  have hg65:∀ t∈Qr p,Ev.Good Tryz.prog K 64 [.agg (ZK p t),.int .i64 p.need] (.int .i64 (ZZ p t:Nat)):=fun t ht=>QnJ hK p t p.need hp (hset t ht)
  have hmin:=Qcv ((Qr p).map fun t=>(ZZ p t:Int)) p.trials.length (by simpa using hne) (fun x hx=>by
   obtain ⟨t,_,rfl⟩:=QL5.1 hx;have:=Qkj p t;omega)
  have hmax:=Qcw ((Qr p).map fun t=>(ZZ p t:Int)) 0 (by simpa using hne) (fun x hx=>by
   grind)
  have hr:rFail p=span ((Qr p).map fun t=>(ZZ p t:Int)):=by unfold rFail;rw[hk]
  rw[hr,<- hmin,<- hmax];generalize Uq p=F at *;generalize Qr p=T at *;simp[he];intro _;refine Zc (wy:=.fall) (o':=[(2,.box [.iv (.int .i64 0),.iv (.int .i64 0)]),(6,.box [.iv (.int .i64 ((T.map fun t=>(ZZ p t:Int)).foldl min p.trials.length)),.iv (.int .i64 ((T.map fun t=>(ZZ p t:Int)).foldl max 0))])]) rfl (by kernel_rfl) hit ?_ ?_
  ·have:=UC.all (P:=Tryz.prog) (K:=K) (ps:=[24]) (asn:=Qir) (body:=QpI) (ks:=[1,2,6]) (ids:=[2,6]) (eK:=[(1,.iv (.ptr (prC p))),(2,.loc 2 0),(6,.loc 6 0)]) (T.map (Qcs p))
    (fun i=>[(2,.box [.iv (.int .i64 0),.iv (.int .i64 0)]),(6,.box [.iv (.int .i64 (((T.map fun t=>(ZZ p t:Int)).take i).foldl min p.trials.length)),.iv (.int .i64 (((T.map fun t=>(ZZ p t:Int)).take i).foldl max 0))])]) fun i x hx=>by
    simp only[QLW,QLT] at hx;obtain ⟨t,ht,rfl⟩:=hx;obtain ⟨hlt,hget⟩:=QLO.1 ht;have hgt:=hg65 t (QL2 ht);refine ⟨rfl,?_⟩;rw[Ui _ _ _ i (by simpa using hlt),Ui _ _ _ i (by simpa using hlt)]
    obtain ⟨v0,v1,v2,v3,hv⟩:∃ v0 v1 v2 v3,ZK p t=[v0,v1,v2,v3]:=⟨_,_,_,_,rfl⟩
    rw[hv] at hgt;simp[Qcs,hv,Qir,QpI,prC];refine cK (by simpa using hgt) ?_
    simp[hget,QcX,QcY]
   simpa[prC] using this
  ·simp
 ·have hk:kL p true=[]:=Qnk he
  simp[he,rFail,hk,span]
omit hK
theorem Vz (l:List Int) (lo hi:Int):(YF l lo hi).Pairwise (·<·):=by
 unfold YF Qa3;refine List.Pairwise.filter _ ?_;rw[List.pairwise_map];exact List.pairwise_lt_range.imp fun {a b} h=>by omega
theorem JY (l:List Int) (lo hi x:Int):x∈YF l lo hi↔lo<=x/\x<=hi/\x∈l:=by
 unfold YF Qa3;simp only[QMr,QL5,QMi,decide_eq_true_eq];constructor
 ·grind
 ·rintro ⟨h1,h2,h3⟩
  exact ⟨⟨(x-lo).toNat,by omega,by omega⟩,h3⟩
include hK
theorem Qt6 (p:Qf) (n:Int) (hf:Few p):Ev.Good Tryz.prog K 31 [prV p,.int .i64 n] (.tup [Zd (Ut p n),.int .i64 (kE p (Z0 p n))]):=by
 refine Qb hK QDc (by simp) ?_
 have hg:=QbQ hK p (Z0 p n) hf.fine;have hg93:Ev.Good Tryz.prog K 62 [prV p,.int .i64 n] (.bool (Z0 p n)):=QtV hK p n hf.fine.small.trials;simp;refine cK (by simpa using hg93) ?_
 simp;refine cK (by simpa using hg) ?_
 by_cases he:kE p (Z0 p n)=0
 ·obtain ⟨hp,hn,hk,hne⟩:=YU he
  have hn':=of_decide_eq_true hn;simp only[inR] at hn';have hE:=hf.ends hp;have htl:=hp.trialsLen;obtain ⟨i,rfl⟩:∃ i:Nat,n=i:=⟨n.toNat,by omega⟩
  have hi:i<p.trials.length:=by omega
  have hbr:Ut p i=YG (((ZS p.chain [] p.chain.deeds).map fun e=>QF p i (QC e)).filter fun x=>decide (0<=x)):=by
   refine Qhr (Vz _ _ _) (Jx _) fun x=>?_
   unfold Ut;rw[JY,Jy,hk];simp only[Int.toNat_natCast,QL5,QMr,decide_eq_true_eq]
   have hS:QW p.machine [] p.machine.levers≠[]:=fun c=>by
    have h1:=Wx p;rw[Wt,c] at h1;exact hne (QLV (by simpa using h1))
   constructor
   ·rintro ⟨h1,h2,t,ht,rfl⟩
    simp only[Qr,QMl,QL5] at ht
    grind
   ·rintro ⟨⟨e,he,rfl⟩,h1⟩
    have h2:=QaI hp (QC e) hi;refine ⟨h1,by omega,?_⟩
    obtain ⟨s,hs⟩:=QMF _ hS;exact ⟨⟨e,s⟩,by simp only[Qr,QMl,QL5];grind,rfl⟩
  rw[hbr];have hfile:Uq p=prC p++[.sl 3 (Q4 p),.sl 1 (XO p)]:=rfl;have hst:Q4 p=(ZS p.chain [] p.chain.deeds).map fun e=>Z1 p (QC e):=rfl
  rw[hfile,hst];generalize XO p=LL at *;generalize ZS p.chain [] p.chain.deeds=E at *;simp[he,prC];intro _
  refine Qj (fun j=>[(1,AV.iv (.int .i64 (i:Nat))),(8,.oref 22),(26,.iv (.sl 3 (E.map fun e=>Z1 p (QC e)))),(27,.iv (.int .i64 E.length)),(28,.iv (.int .i64 (j:Nat)))])
   (fun j=>[(22,.mapd (Qaf (XX (((E.take j).map fun e=>QF p i (QC e)).filter fun x=>decide (0<=x)))))]) E.length (fun _=>True) trivial ?_ ?_
  ·intro _
   rw[Qa QpD.eq_1];simp;refine cK (by simpa using QnG hK (Qaf (XX ((E.map fun e=>QF p i (QC e)).filter fun x=>decide (0<=x))))) ?_
   simp;refine cK (qq ((E.map fun e=>QF p i (QC e)).filter fun x=>decide (0<=x)) (fun x hx=>?_) ?_) ?_
   ·simp only[QMr,QL5] at hx
    obtain ⟨⟨e,_,rfl⟩,_⟩:=hx;have:=QaI hp (QC e) hi;omega
   ·grind
   ·simp
  ·intro j hj _ ih
   have hst:Z1 p (QC E[j])=[.sl 1 ((List.range p.trials.length).map fun i=>[.int .u64 (Xv (Zy p i (QC E[j])):Nat)]),.sl 1 ((List.range p.trials.length).map fun i=>[.int .i64 (QF p i (QC E[j]))]),Xm (Yh p (QC E[j]))]:=rfl
   rw[Qa QpD.eq_1];rw[QLM hj,QL8,QNu] at ih;by_cases hb:0<=QF p i (QC E[j])
   ·have hfc:(List.map (fun e=>QF p i (QC e)) [E[j]]).filter (fun x=>decide (0<=x))=[QF p i (QC E[j])]:=by simp[hb]
    rw[hfc,XR] at ih;generalize hl:((E.take j).map fun e=>QF p i (QC e)).filter (fun x=>decide (0<=x))=l at *
    have hll:l.length<=1000000:=by
     grind
    have hle:=Qev (QF p i (QC E[j])) l;have hkk:=Yz (XX l);have hff:=JN (QF p i (QC E[j])) (XX l);have hii:=WL (QF p i (QC E[j])) (XX l);generalize XX l=kv at *;simp[hj,hst,hi,hb,hkk,hff,hii] at ih |-
    grind
   ·have hfc:(List.map (fun e=>QF p i (QC e)) [E[j]]).filter (fun x=>decide (0<=x))=[]:=by simp[hb]
    rw[hfc,QL0] at ih;simp[hj,hst,hi,hb] at ih |-
    grind
 ·have hk:=Qnk he
  have hr:Ut p n=[]:=by unfold Ut;rw[hk];simp[YF,Qa3]
  simp[he,hr]
theorem Que (p:Qf) (n:Int) (hf:Few p):Ev.Good Tryz.prog K 21 [prV p,.int .i64 n] (.tup [.agg [.int .i64 (if kE p (Z0 p n)=0 then (Yk p.machine (tr p n.toNat).weight (tr p n.toNat).mins).1 else 0),.int .i64 (if kE p (Z0 p n)=0 then (Yk p.machine (tr p n.toNat).weight (tr p n.toNat).mins).2 else 0)],
   .int .i64 (if kE p (Z0 p n)=0 then tE p.machine (W2 (tr p n.toNat).weight (tr p n.toNat).mins 0) else kE p (Z0 p n))]):=by
 refine Qb hK QDr (by simp) ?_
 have hg:=QbQ hK p (Z0 p n) hf.fine;have hg93:Ev.Good Tryz.prog K 62 [prV p,.int .i64 n] (.bool (Z0 p n)):=QtV hK p n hf.fine.small.trials;simp;refine cK (by simpa using hg93) ?_
 simp;refine cK (by simpa using hg) ?_
 by_cases he:kE p (Z0 p n)=0
 ·obtain ⟨hp,hn,hk,hne⟩:=YU he
  have hn':=of_decide_eq_true hn;simp only[inR] at hn';have hS:=hf.sets hp;have htl:=hp.trialsLen;obtain ⟨i,rfl⟩:∃ i:Nat,n=i:=⟨n.toNat,by omega⟩
  have hi:i<p.trials.length:=by omega
  have hSne:QW p.machine [] p.machine.levers≠[]:=fun c=>by
   have h1:=Wx p;rw[Wt,c] at h1;exact hne (QLV (by simpa using h1))
  have ha:W2 (tr p i).weight (tr p i).mins 0=true:=by
   have a1:=(hp.trial hi).1;have a2:=(hp.trial hi).2.1;simp only[W2,inR] at a1 a2 |-;simp;omega
  have htE:tE p.machine true=0:=by
   unfold tE;rw[if_pos hp.machine,if_pos rfl,if_neg hSne]
  have hrl:Yk p.machine (tr p i).weight (tr p i).mins=((span ((QW p.machine [] p.machine.levers).map (QbA p.machine (tr p i).weight (tr p i).mins))).1,(span ((QW p.machine [] p.machine.levers).map (upS p.machine (tr p i).weight (tr p i).mins))).2):=by
   unfold Yk tL;rw[ha,if_pos ⟨hp.machine,rfl⟩]
  rw[Int.toNat_natCast,ha,htE,hrl];have hfile:Uq p=prC p++[.sl 3 (Q4 p),.sl 1 (XO p)]:=rfl;have hlv:XO p=(QW p.machine [] p.machine.levers).map fun s=>[.sl 2 (Zs p s)]:=rfl
  rw[hfile,hlv];have hld:∀ s,(Zs p s)[i]?=some [.int .i64 (QbA p.machine (tr p i).weight (tr p i).mins s),.int .i64 (upS p.machine (tr p i).weight (tr p i).mins s)]:=fun s=>by simp[Zs,hi]
  have hll:∀ s,(Zs p s).length=p.trials.length:=fun s=>by simp[Zs]
  have hld2:∀ s (h:i<(Zs p s).length),(Zs p s)[i]'h=[.int .i64 (QbA p.machine (tr p i).weight (tr p i).mins s),.int .i64 (upS p.machine (tr p i).weight (tr p i).mins s)]:=fun s h=>by
   grind
  generalize Q4 p=SS at *;generalize QW p.machine [] p.machine.levers=S at *;have hpos:0<S.length:=QMJ.2 hSne;obtain ⟨s0,hs0⟩:∃ s0,S[0]=s0:=⟨_,rfl⟩
  have hcons:∃ S',S=s0::S':=by
   cases S with
   | _=>grind
  generalize QbA p.machine (tr p i).weight (tr p i).mins=lo at *;generalize upS p.machine (tr p i).weight (tr p i).mins=up at *
  have hmin:(span (S.map lo)).1=(S.map lo).foldl min (lo s0):=by
   obtain ⟨S',rfl⟩:=hcons;show (S'.map lo).foldl min (lo s0)=(S'.map lo).foldl min (min (lo s0) (lo s0))
   grind
  have hmax:(span (S.map up)).2=(S.map up).foldl max (up s0):=by
   obtain ⟨S',rfl⟩:=hcons;show (S'.map up).foldl max (up s0)=(S'.map up).foldl max (max (up s0) (up s0))
   grind
  clear hcons;rw[hmin,hmax];simp[he,prC,hi,hll,hld2,hpos,hs0];intro _
  refine Qj (fun j=>[(1,AV.iv (.int .i64 (i:Nat))),(4,.loc 4 0),(8,.loc 8 0),(35,.iv (.sl 1 (S.map fun s=>[.sl 2 (Zs p s)]))),(36,.iv (.int .i64 (S.length:Nat))),(37,.iv (.int .i64 (j:Nat)))])
   (fun j=>[(4,.box [.iv (.int .i64 0),.iv (.int .i64 0)]),(8,.box [.iv (.int .i64 (((S.map lo).take j).foldl min (lo s0))),.iv (.int .i64 (((S.map up).take j).foldl max (up s0)))])]) S.length (fun _=>True) trivial ?_ ?_
  ·intro _
   rw[Qa QpJ.eq_1];simp[QLQ]
  ·intro j hj _ ih
   rw[Qa QpJ.eq_1];rw[Ui _ _ _ j (by simpa using hj),Ui _ _ _ j (by simpa using hj)] at ih
   simp[hj,hi,hll,hld2,QcX,QcY] at ih |-
   grind
 ·simp[he]
omit hK
theorem Qe4 (T:List Q7) (B:Q7->Bool) (hne:T≠[]):(XY (T.countP B) T.length=1)↔T.all B=true:=by
 have h1:0<T.length:=QMJ.2 hne
 have h2:T.countP B=T.length↔T.all B=true:=by
  rw[List.countP_eq_length,QMf]
 unfold XY
 grind
include hK
theorem QBn (p:Qf) (t:Q7) (k:Nat) (hk:k<(Yh p (QC t.ends)).length) (hp:OkP p) (hs:okS p.machine t.set):Ev.Good Tryz.prog K 93 [.agg (ZK p t),.ptr (prC p),.ptr [.int .i64 k]] (.bool (Zj p ((Yh p (QC t.ends)).getD k 0:Nat) t)):=by
 refine Qb hK QCf (by simp) ?_
 have hl:=hp.deedsLen;have hgd:(Yh p (QC t.ends)).getD k 0=(Yh p (QC t.ends))[k]:=by grind
 have hlt12:(Yh p (QC t.ends))[k]<12:=by
  have:=qV _ _ _ _ (QLR hk);have:=Qg0 p.chain.deeds p.chain.deeds.length;omega
 have hg:=QnE hK p t p.need hp;have hb:=Qd6 hp hs (need:=p.need) (k:=(Yh p (QC t.ends))[k]) (by omega)
 have hlt:∀ n,pmN (nd p p.need) t n<2 ^ 64:=fun n=>QjI hp t n
 have hg2:=QnD hK (pmN (nd p p.need) t p.trials.length) (Yh p (QC t.ends))[k] (hlt _) (by omega)
 have hnd:nd p p.need=p:=rfl;rw[hb,hnd] at hg2;rw[hnd] at hg;rw[hgd];obtain ⟨v0,v1,v3,hv⟩:∃ v0 v1 v3,ZK p t=[v0,v1,Xm (Yh p (QC t.ends)),v3]:=⟨_,_,_,rfl⟩
 rw[hv] at hg |-;generalize Yh p (QC t.ends)=now at *;simp[prC];refine cK (by simpa using hg) ?_
 simp[hk];refine cK (by simpa using hg2) ?_
 simp
theorem Qt3 (p:Qf) (hf:Few p):Ev.Good Tryz.prog K 35 [prV p] (.tup [Zd (Wi p),.int .i64 (kE p true)]):=by
 refine Qb hK QC8 (by simp) ?_
 have hg:=QbQ hK p true hf.fine;simp;refine cK (by simpa using hg) ?_
 by_cases he:kE p true=0
 ·obtain ⟨hp,_,hk,hne⟩:=YU he
  have hdl:=hp.deedsLen;have hnl:∀ e,((Yh p e).length:Int)=Xw p.chain.deeds:=fun e=>Xj e hp.chain.deeds p.chain.deeds.length (QLS _) (QLS _)
  have hcb:=hp.chain.deeds.cnt p.chain.deeds.length (QLS _) (QLS _);have hnl2:∀ e,(Yh p e).length=(Xw p.chain.deeds).toNat:=fun e=>by grind
  have hNb:(Xw p.chain.deeds).toNat<=12:=by show (cnt p.chain.deeds p.chain.deeds.length).toNat<=12;omega
  have hg75:∀ s:Nat,s<(Xw p.chain.deeds).toNat->Ev.Good Tryz.prog K 71 [.ptr (Uq p),.clo 93 [] [.ptr (prC p),.ptr [.int .i64 s]]] (.int .i64 (XY ((Qr p).countP (fun t=>Zj p ((Yh p (QC t.ends)).getD s 0:Nat) t)) (Qr p).length)):=fun s hs =>
   QnH hK p (hf.ends hp) (hf.sets hp) (by have:=hf.all hp;omega) 93 [] _ _ (fun t ht=>by simpa using QBn hK p t s (by grind) hp (Yf ht)) (by kernel_rfl)
  have hr:Wi p=acc (fun s:Nat=>if (Qr p).all (fun t=>Zj p ((Yh p (QC t.ends)).getD s 0:Nat) t) then [] else [(s:Int)]) (Xw p.chain.deeds).toNat:=by unfold Wi;rw[if_pos he,hk]
  have hts:∀ s:Nat,(XY ((Qr p).countP (fun t=>Zj p ((Yh p (QC t.ends)).getD s 0:Nat) t)) (Qr p).length=1)↔(Qr p).all (fun t=>Zj p ((Yh p (QC t.ends)).getD s 0:Nat) t)=true:=fun s=>Qe4 _ _ hne
  have hE:ZS p.chain [] p.chain.deeds≠[]:=fun c=>by
   have h1:=Wx p;rw[UG,c] at h1;exact hne (QLV (by simpa using h1))
  have hst:∃ s0 s1 now rest,Q4 p=[s0,s1,Xm now]::rest/\now.length=(Xw p.chain.deeds).toNat:=by
   unfold Q4;cases hEE:ZS p.chain [] p.chain.deeds with
   | cons e r=>exact ⟨_,_,Yh p (QC e),_,rfl,hnl2 _⟩
   | _=>grind
  obtain ⟨s0,s1,now,rest,hst,hnow⟩:=hst;rw[hr];have hfile:Uq p=prC p++[.sl 3 (Q4 p),.sl 1 (XO p)]:=rfl;rw[hfile,hst] at hg75 |-;clear hg hr hfile hst hE;generalize Qr p=T at *;generalize XO p=LL at *;generalize (Xw p.chain.deeds).toNat=N at *;obtain ⟨tv,htv⟩:∃ tv:Nat->Int,∀ s,tv s=XY (T.countP (fun t=>Zj p ((Yh p (QC t.ends)).getD s 0:Nat) t)) T.length:=⟨_,fun _=>rfl⟩
  obtain ⟨all,hall⟩:∃ all:Nat->Bool,∀ s,all s=T.all (fun t=>Zj p ((Yh p (QC t.ends)).getD s 0:Nat) t):=⟨_,fun _=>rfl⟩
  simp only[<- htv,<- hall] at hg75 hts |-;obtain ⟨pc,hpc⟩:∃ pc:Nat->List Int,pc=fun s:Nat=>if all s=true then [] else [(s:Int)]:=⟨_,rfl⟩
  rw[<- hpc];have hpc2:∀ s:Nat,pc s=if all s=true then [] else [(s:Int)]:=fun s=>by rw[hpc]
  clear hpc htv hall;simp[he,prC];intro _;rw[hnow]
  refine Qj (fun i=>[(1,AV.iv (.ptr (prC p))),(4,.iv (.ptr (prC p++[.sl 3 ([s0,s1,Xm now]::rest),.sl 1 LL]))),(6,.aref 6 (acc pc i).length),(23,.iv (.int .i64 (N:Nat))),(24,.iv (.int .i64 (i:Nat)))])
   (fun i=>[(6,.arr 3 1 (emb ((acc pc i).map fun n=>[.int .i64 n])) 0)]) N (fun _=>True) trivial ?_ ?_
  ·intro _
   rw[Qa QpC.eq_1];simp[QLQ]
  ·intro i hi _ ih
   have hlen:(acc pc i).length<=i*1:=QeR pc 1 (fun s=>by grind) i
   rw[Qa QpC.eq_1];rw[QaM pc i,hpc2 i] at ih;have hgi:=hg75 i hi;have htsi:=hts i;generalize tv i=tvi at *;generalize acc pc i=A at *;have hi':(i:Int)<N:=by omega
   simp[hi,hi'];refine Jf (by simpa using hgi) (.inr rfl) ?_
   by_cases hal:all i=true
   ·have h1:=htsi.2 hal
    rw[if_pos hal] at ih;simp[h1] at ih |-
    grind
   ·have h1:¬ tvi=1:=fun c=>hal (htsi.1 c)
    rw[if_neg hal] at ih;simp[h1] at ih |-
    grind
 ·have hr:Wi p=[]:=by unfold Wi;rw[if_neg he]
  simp[he,hr]
omit hK
theorem J8 {α:Type} (f:α->Int) (n:Int):∀ (l:List α) (b:Int),n<=l.foldl (fun b k=>min b (f k)) b↔n<=b/\∀ k∈l,n<=f k
 | [],b=>by simp
 | a::l,b=>by
   rw[QMH,J8 f n l]
   grind
theorem Qnh (p:Qf) (t:Q7) (k:Nat) (n:Int) (hn:0<=n):∀ N:Nat,n<=Qhw p t k N↔∃ i<N,inN (Zy p i (QC t.ends)) k=true/\¬ QF p i (QC t.ends)=k/\n<=(J7 p i t.set).tdiv (den t.set)
 | 0=>by
   have:Qhw p t k 0 = -1:=rfl;omega
 | N+1=>by
   rw[Qln];have ih:=Qnh p t k n hn N;unfold Qm7;split
   ·rename_i h
    constructor
    all_goals grind
   grind
theorem QfX (p:Qf) (t:Q7) (n:Int):∀ (l:List Nat) (b:Int),n<=l.foldl (QpU p t) b↔n<=b/\∀ i∈l,0<=(tr p i).broke->p.rule<=(QbX p t i p.trials.length:Int)->n<=(J7 p i t.set+den t.set-1).tdiv (den t.set)-1
 | [],b=>by simp
 | a::l,b=>by
   rw[QMH,QfX p t n l];simp only[QLX,forall_eq_or_imp];unfold QpU
   grind
theorem Qny (f:Nat->Int):∀ l:List Nat,l≠[]->∃ a∈l,∀ b∈l,f b<=f a
 | [],h=>absurd rfl h
 | [a],_=>⟨a,by simp,by simp⟩
 | a::b::l,_=>by
   obtain ⟨c,h1,h2⟩:=Qny f (b::l) (by simp)
   grind
theorem Qoe {p:Qf} (hp:OkP p) (t:Q7) (n:Int):(ZZ (nd p n) t:Int)<p.rule↔∀ i<p.trials.length,0<=(tr p i).broke->p.rule<=(QbX p t i p.trials.length:Int)->¬ J7 p i t.set<=n*den t.set:=by
 have hrule:=hp.rule;simp only[inR] at hrule;have hf:ZZ (nd p n) t=(List.range p.trials.length).countP fun i=>decide (0<=(tr p i).broke)&&decide (J7 p i t.set<=n*den t.set):=rfl
 rw[hf];constructor
 ·intro h i hi h1 h2 h3
  have:QbX p t i p.trials.length<=(List.range p.trials.length).countP fun i=>decide (0<=(tr p i).broke)&&decide (J7 p i t.set<=n*den t.set):=by
   unfold QbX;refine List.countP_mono_left fun k _ hk=>?_
   grind
  omega
 ·intro h
  refine Classical.byContradiction fun hc=>?_
  have hpos:0<(List.range p.trials.length).countP fun i=>decide (0<=(tr p i).broke)&&decide (J7 p i t.set<=n*den t.set):=by omega
  rw[List.countP_eq_length_filter] at hpos hc;obtain ⟨a,ha,hmax⟩:=Qny (fun i=>J7 p i t.set) _ (QMJ.1 hpos)
  simp only[QMr,QMi,QLP,decide_eq_true_eq] at ha;refine h a ha.1 ha.2.1 ?_ ha.2.2
  have:((List.range p.trials.length).filter fun i=>decide (0<=(tr p i).broke)&&decide (J7 p i t.set<=n*den t.set)).length<=QbX p t a p.trials.length:=by
   rw[<- List.countP_eq_length_filter];unfold QbX;refine List.countP_mono_left fun k hk1 hk=>?_
   grind
  omega
theorem Qdc {p:Qf} (hp:OkP p) {t:Q7} (hs:okS p.machine t.set) {n:Int} (h0:0<=n) (h1:n<=999999999):Vr (nd p n) t=true↔n<=Qe0 p t:=by
 have hden:=(hp.machine.denB hs).1;have hld:∀ i<p.trials.length,0<=J7 p i t.set:=fun i hi=>(hp.machine.numB hs (hp.trial hi).1 (hp.trial hi).2.1).1
 have hg:Vr (nd p n) t=(((Yh p (QC t.ends)).all fun (k:Nat)=>Zj (nd p n) k t)&&decide ((ZZ (nd p n) t:Int)<p.rule)):=rfl
 rw[hg,QLP,decide_eq_true_eq,QMf,Qoe hp];unfold Qe0;rw[QfX];unfold QD2;rw[J8]
 have hprov:∀ k:Nat,Zj (nd p n) k t=true↔n<=Qhw p t k p.trials.length:=fun k=>by
  rw[Qnh p t k n h0];have hpb:Zj (nd p n) k t=(List.range p.trials.length).any fun i=>decide (n*den t.set<=J7 p i t.set)&&inN (Zy p i (QC t.ends)) k&&!decide (QF p i (QC t.ends)=k):=rfl
  rw[hpb,List.any_eq_true];constructor
  ·rintro ⟨i,hi,h2⟩
   have hi:=QMi.1 hi;simp at h2;exact ⟨i,hi,h2.1.2,h2.2,(UK (hld i hi) hden).2 h2.1.1⟩
  ·rintro ⟨i,hi,h2,h3,h4⟩
   have h5:=(UK (hld i hi) hden).1 h4
   grind
 constructor
 ·rintro ⟨h2,h3⟩
  refine ⟨⟨h1,fun k hk=>(hprov k).1 (h2 k hk)⟩,fun i hi h4 h5=>?_⟩
  have hi:=QMi.1 hi;have h6:=h3 i hi h4 h5;have h7:¬ (J7 p i t.set+den t.set-1).tdiv (den t.set)<=n:=fun c=>h6 ((UF (hld i hi) hden).1 c)
  omega
 ·rintro ⟨⟨_,h2⟩,h3⟩
  refine ⟨fun k hk=>(hprov k).2 (h2 k hk),fun i hi h4 h5 h6=>?_⟩
  have h7:=h3 i (QMi.2 hi) h4 h5;have h8:=(UF (c:=n) (hld i hi) hden).2 h6;omega
theorem QkT {p:Qf} (hp:OkP p) (he:kE p true=0) {n:Int} (h0:0<=n) (h1:n<=999999999):(Qr p).all (Vr (nd p n))=true↔n<=JF p:=by
 unfold JF;rw[(YU he).2.2.1,J8,QMf];constructor
 ·exact fun h=>⟨h1,fun t ht=>(Qdc hp (Yf ht) h0 h1).1 (h t ht)⟩
 ·exact fun h t ht=>(Qdc hp (Yf ht) h0 h1).2 (h.2 t ht)
include hK
theorem QBy (p:Qf) (t:Q7) (n:Int) (hp:OkP p) (hs:okS p.machine t.set):Ev.Good Tryz.prog K 72 [.agg (ZK p t),.ptr [.int .i64 n],.ptr (prC p)] (.bool (Vr (nd p n) t)):=by
 refine Qb hK QCz (by simp) ?_
 have hg:=QtT hK p t n hp hs;obtain ⟨v0,v1,v2,v3,hv⟩:∃ v0 v1 v2 v3,ZK p t=[v0,v1,v2,v3]:=⟨_,_,_,_,rfl⟩
 rw[hv] at hg |-;simp[prC];refine cK (by simpa using hg) ?_
 simp
theorem QBz (p:Qf) (n:Int) (hf:Few p) (he:kE p true=0) (h0:0<=n) (h1:n<=999999999):Ev.Good Tryz.prog K 70 [.int .i64 n,.ptr [.ptr (Uq p)],.ptr (prC p)] (.bool (decide (n<=JF p))):=by
 refine Qb hK QCB (by simp) ?_
 obtain ⟨hp,_,hk,hne⟩:=YU he;have hg:=QnH hK p (hf.ends hp) (hf.sets hp) (by have:=hf.all hp;omega) 72 [] [.ptr [.int .i64 n],.ptr (prC p)] (Vr (nd p n)) (fun t ht=>by simpa using QBy hK p t n hp (Yf ht)) (by kernel_rfl)
 have hs:=Qe4 (Qr p) (Vr (nd p n)) hne;rw[QkT hp he h0 h1] at hs;generalize XY ((Qr p).countP (Vr (nd p n))) (Qr p).length=tv at *;generalize Uq p=F at *;simp;refine cK (by simpa using hg) ?_
 by_cases h:n<=JF p
 ·have:=hs.2 h
  simp[h,this]
 ·have:¬ tv=1:=fun c=>h (hs.1 c)
  simp[h,this]
theorem Qua (p:Qf) (hf:Few p):Ev.Good Tryz.prog K 25 [prV p] (.tup [.int .i64 (Y8 p).1,.int .i64 (Y8 p).2]):=by
 refine Qb hK QDj (by simp) ?_
 have hg:=QbQ hK p true hf.fine;simp;refine cK (by simpa using hg) ?_
 by_cases he:kE p true=0
 ·obtain ⟨hp,_,hk,hne⟩:=YU he
  have hg74:=fun n h0 h1=>QBz hK p n hf he h0 h1
  have hw:JF p<=999999999:=(J8 (Qe0 p) (JF p) (kL p true) 999999999).1 (Int.le_refl _) |>.1
  have hr:Y8 p=if JF p<0 then (0,3) else (JF p,0):=by unfold Y8;rw[if_pos he]
  rw[hr];generalize JF p=W at *;generalize Uq p=F at *;simp[he,prC];refine QgQ _ _ _ _ _ _ _ _ ?_;simp;refine ⟨by kernel_rfl,cK (by simpa[prC] using hg74 0 (by omega) (by omega)) ?_⟩
  by_cases hneg:W<0
  ·have h2:¬ 0<=W:=by omega
   simp[hneg,h2]
  ·have h2:0<=W:=by omega
   simp[hneg,h2];refine QtL (S:=Int × Int) (fun s=>[(6,.iv (.clo 70 [] [.ptr [.ptr F],.ptr (prC p)])),(7,.iv (.int .i64 s.1)),(8,.iv (.int .i64 s.2))]) (fun _=>[]) (fun s=>0<=s.1/\s.1<=W/\W<=s.2/\s.2<=999999999) (fun s=>(s.2-s.1).toNat) ?_ (0,999999999) ⟨by omega,h2,hw,by omega⟩
   rintro ⟨low,high⟩ ⟨i1,i2,i3,i4⟩ ih
   simp only at i1 i2 i3 i4 ih |-;rw[Qa Quu.eq_1];by_cases hlt:low<high
   ·have hmid:(low+high+1).tdiv 2=(low+high+1) / 2:=QMy (by omega)
    have hm1:low<(low+high+1) / 2:=by omega
    have hm2:(low+high+1) / 2<=high:=by omega
    have hgm:=hg74 ((low+high+1) / 2) (by omega) (by omega)
    simp[hlt,hmid];generalize (low+high+1) / 2=mid at *
    (repeat' first | omega | (with_reducible apply And.intro) | intro _)
    ·kernel_rfl
    refine cK (by omega) ?_
    by_cases hmw:mid<=W
    ·simp[hmw]
     exact ih (mid,high) ⟨by simp only;omega,hmw,i3,i4⟩ (by simp only;omega)
    ·simp[hmw]
     (repeat' first | omega | (with_reducible apply And.intro) | intro _)
     exact ih (low,mid-1) ⟨i1,i2,by simp only;omega,by simp only;omega⟩ (by simp only;omega)
   ·have:low=W:=by omega
    subst this;simp[hlt]
 ·have hr:Y8 p=(0,kE p true):=by unfold Y8;rw[if_neg he]
  rw[hr];simp[he];refine QgQ _ _ _ _ _ _ _ _ ?_;simp[he]
omit hK
def exD:List Qs:=[⟨1,0,0,5,1⟩,⟨1,1,0,5,2⟩,⟨1,2,0,6,1⟩,⟨4,0,0,0,0⟩,⟨2,0,2,0,0⟩,⟨1,0,1,7,2⟩]
def exC:Qn:=⟨exD++[⟨4,0,0,0,0⟩],[],0⟩
def exM:Machine:=⟨[⟨100,10,11⟩,⟨50,5,5⟩],20,1,2,[⟨10,5,2500,250⟩],0⟩
def exP:Qf:=⟨exC,exM,[⟨30,0,0⟩,⟨31,0,-1⟩],4600,1⟩
include hK
theorem Qwv:Ev.Good Tryz.prog K 194 [] (maV exM):=by
 refine Qb hK Qy7 (by simp) ?_
 simp[exM]
def QrK:AV:=.tup [.agg [.aref 0 6,.iv (.sl 5 []),.iv (.int .i64 0)],.iv (.agg [.int .i64 6,.int .i64 1,.int .i64 0,.int .i64 6,.int .i64 (-1)]),.iv (.agg [.int .i64 6,.int .i64 0,.int .i64 0,.int .i64 (-1),.int .i64 1])]
theorem Qq4:QQ Tryz.prog K 193 [] [] [] QrK [(0,.arr 162 5 (emb (exD.map dC)) 0)]:=by
 refine Q2 [9] [] [] [] Qy8.p (by simp[QEK]) (by simp) ?_ ?_ ?_ ?_
 ·intro q hq
  simp only[QMB] at hq;subst hq;exact ⟨by simp,rfl,Xz _ _ _ _ _⟩
 ·simp[clA,clAL,QrK]
 ·simp
 ·generalize hG:QgS QEK.res [9] [] QrK [(0,.arr 162 5 (emb (exD.map dC)) 0)]=G
  simp;rw[<- hG];refine ⟨⟨_,rfl,rfl⟩,fun q hq=>?_,by simp⟩
  simp only[QMB] at hq;subst hq;rfl
theorem QwU:Ev.Good Tryz.prog K 105 [] (prV exP):=by
 refine Qb hK QzT (by simp) ?_
 simp;refine Qi (Qq4 hK) rfl ?_ ?_
 ·refine ⟨by simp,by simp,by simp,by simp[Qc],?_⟩
  simp[Zr]
 ·simp[QrK,rn,rnL,nth,YI]
  refine ⟨⟨rfl,by decide,by decide⟩,cK (by simpa using Qwv hK) ?_⟩
  simp[exP,exC,exM,exD,emb]
omit hK
theorem Qgr:OkC exC:=by
 refine ⟨by decide,by decide,by decide,fun i h _=>?_,fun s hs=>by simp[exC] at hs⟩
 have all:∀ i<7,Zu (exC.deeds.getD i d0) (cnt exC.deeds i):=by decide
 have:=all i h
 grind
theorem Quj:OkM exM:=by
 refine ⟨by decide,?_,by decide,by decide,by decide,by decide,?_,by decide⟩
 ·intro l hl;simp[exM] at hl;rcases hl with rfl | rfl<;>decide
 ·intro l hl;simp[exM] at hl;subst hl;decide
theorem Qgq:OkP exP:=by
 refine ⟨Qgr,Quj,by decide,by decide,by decide,fun i h h'=>?_⟩
 have all:∀ i<2,X0 (exP.trials.getD i t0) (cnt exP.chain.deeds ((pv exP.chain.deeds).getD i 0)):=by decide
 have:=all i h'
 grind
theorem Qgx {c:Qn} (hc:OkC c) (hs:c.sights=[]):ZS c [] c.deeds=QP c.deeds:=by
 have hw:=hc.wrong;simp only[inR] at hw;unfold ZS;have e1:((QP c.deeds).map fun x=>[]++x)=QP c.deeds:=by simp
 rw[e1,List.filter_eq_self];intro e he;have h1:=Qjd hc he;have h2:(QZ c.deeds c.sights (QC e):Int)<=c.wrong:=by rw[hs];simpa[QZ] using hw.1
 simpa using ⟨h1,h2⟩
theorem QcK:∀ {ls:List ZC} {e:List Int},e∈QV ls->e.length=ls.length/\∀ i (h:i<ls.length) (h':i<e.length),inR e[i] ls[i].lo ls[i].hi
 | [],e,h=>by simp[QV] at h;subst h;simp
 | l::r,e,h=>by
   simp only[QV,acc,QMl,QL5,QMi] at h;obtain ⟨i,hi,e',he',rfl⟩:=h;obtain ⟨h1,h2⟩:=QcK he';refine ⟨by simp[h1],fun j h h'=>?_⟩
   cases j with
   | zero=>simp only[QMW,inR];omega
   | _=>grind
theorem Qu5 {m:Machine} {s:Qk} (h:s∈Zi m [] m.levers):okS m s:=by
 simp only[Zi,QMl,QL5,QMi] at h;obtain ⟨e,he,k,hk,rfl⟩:=h;obtain ⟨h1,h2⟩:=QcK he;exact ⟨by simpa using h1,by simp only[inR];omega,by simpa using h2⟩
theorem QdU (m:Machine):QW m [] m.levers=(Zi m [] m.levers).filter fun s=>decide ((ZQ m m.bals s:Int)<=m.wrong):=by
 unfold QW;refine QNf fun s hs=>?_
 rw[Bool.eq_iff_iff];simp only[decide_eq_true_eq];exact ⟨fun h=>h.2,fun h=>⟨Qu5 hs,h⟩⟩
def exT:List Q7:=[⟨[0,0,0,0,0,1,0],⟨[10,5],1⟩⟩,⟨[0,0,0,0,0,1,0],⟨[11,5],1⟩⟩,⟨[0,0,0,0,1,1,0],⟨[10,5],1⟩⟩,⟨[0,0,0,0,1,1,0],⟨[11,5],1⟩⟩]
theorem QrI:Qr exP=exT:=by
 unfold Qr;rw[show exP.chain=exC from rfl,show exP.machine=exM from rfl,Qgx Qgr rfl,QdU]
 decide
theorem QBT (r:Int) (hr:inR r 1 12):Few { exP with rule:=r }:=by
 have h2:Qr { exP with rule:=r }=exT:=QrI
 refine ⟨⟨⟨show exP.chain.deeds.length<=1000 by decide,show exP.chain.sights.length<=1000 by decide,show exP.machine.levers.length<=1000 by decide,show exP.machine.bals.length<=1000 by decide,show exP.trials.length<=1000 by decide⟩,fun _=>show sets exP.machine exP.machine.levers.length<=1000000 by decide⟩,fun _=>?_,fun _=>?_,fun _=>by rw[h2];decide⟩
 ·rw[show ({ exP with rule:=r }:Qf).chain=exC from rfl,Qgx Qgr rfl];decide
 ·rw[show ({ exP with rule:=r }:Qf).machine=exM from rfl,QdU]
  exact QMe (QMg _ _) (by decide)
include hK
end Go.Pf
