/- The reference's truths: ends, settings, sights, balances. -/
import Derived.Test.YtanjbjjkofhanaaGreatDoorPartThree
import Derived.Ground.SlgnProg
import Derived.Shelf.SlicesE.Clone
import Derived.Shelf.SlicesE.Reverse
import Derived.Shelf.SlicesE.Delete
import Derived.Lib.SliceRun
import Derived.Lib.JoinLaws
import Derived.Test.YtanjbjjkofhanaaGreatDoorProg
import Derived.KernelRfl
import Derived.Shelf.Spec.SlicesInsertGrow
import Derived.Shelf.SlIterI.Nil
import Derived.Shelf.SortM.Plain
import Derived.Shelf.SortM.SortNone
import Derived.Ground.GgzProg
import Derived.Ground.SlgmProg
set_option linter.all false
namespace Go.Pf
open Go Go.Ev Go.Proofs Go.RowKit
variable {K:World->Prop} (hK:∀ w w',K w->Below w.heap.size w w'->K w')
set_option maxRecDepth 8000
def d0:Qx:=⟨0,0,0,0,0⟩
def Ji (ds:List Qx):List Nat:=Xr Q5 ds 0
def Qbq (ds:List Qx) (k:Nat):Qx:=ds.getD ((Ji ds).getD k 0) d0
theorem Qkq {ds:List Qx} {j:Nat} (h:j∈Ji ds):j<ds.length:=by
 have:=qk Q5 ds 0 j h;omega
theorem Qdx (ds:List Qx) (i:Nat):wn ds i<=(Ji ds).length:=by
 unfold wn Ji
 conv=>rhs;rw[<- List.take_append_drop i ds,J6]
 simp
def QcP (ds:List Qx) (s:Xo) (now:List Nat):Bool :=
 (decide (s.bar<0)||decide (s.bar=(Qbq ds (now.getD (plc s.pos s.frm now.length) 0)).bar)) &&
 (decide (s.smith<0)||decide (s.smith=(Qbq ds (now.getD (plc s.pos s.frm now.length) 0)).smith))
def Ul (ds:List Qx) (e:Nat->Int) (s:Xo):Bool:=QcP ds s (cab ds e s.after.toNat)
def QL (ds:List Qx) (ss:List Xo) (e:Nat->Int):Nat:=ss.countP fun s=>!Ul ds e s
theorem qx (ds:List Qx) (ss:List Xo) (e:Nat->Int) (i:Nat) (h:i<ss.length):QL ds (ss.take (i+1)) e=QL ds (ss.take i) e+if Ul ds e ss[i] then 0 else 1:=by
 unfold QL;rw[QKf h,QKV]
 grind
theorem W2 (ds:List Qx) (ss:List Xo) (e:Nat->Int):QL ds ss e<=ss.length:=QKI
def QqZ (ds:List Qx) (ends:List Int):Prop:=ends.length=ds.length/\∀ i (h:i<ds.length) (h':i<ends.length),inR ends[i] 0 1/\(ds[i].frm<2->ends[i]=ds[i].frm)
noncomputable instance (ds:List Qx) (ends:List Int):Decidable (QqZ ds ends):=Classical.propDecidable _
def Qml (c:Qk) (ends:List Int):Prop:=QqZ c.deeds ends/\(QL c.deeds c.sights (Qr ends):Int)<=c.wrong
noncomputable instance (c:Qk) (ends:List Int):Decidable (Qml c ends):=Classical.propDecidable _
structure Qm where
 shorts:List Int
 leak:Int
 deriving DecidableEq
structure QI where
 ends:List Int
 set:Qm
 deriving DecidableEq
@[simp] def seC (s:Qm):List IV:=[Qt s.shorts,.int .i64 s.leak]
@[simp] def tuC (t:QI):List IV:=[Qt t.ends,Qt t.set.shorts,.int .i64 t.set.leak]
def okS (m:Machine) (s:Qm):Prop:=s.shorts.length=m.levers.length/\inR s.leak m.llo m.lhi/\∀ i (h:i<m.levers.length) (h':i<s.shorts.length),inR s.shorts[i] m.levers[i].lo m.levers[i].hi
noncomputable instance (m:Machine) (s:Qm):Decidable (okS m s):=Classical.propDecidable _
def Y2 (m:Machine) (leak w mn:Int):Int:=w+max 0 (m.water-mn*leak)
def Vj (m:Machine):Int:=QG (·.long) m.levers
def den (s:Qm):Int:=QG id s.shorts
def num (m:Machine) (s:Qm) (w mn:Int):Int:=Y2 m s.leak w mn*Vj m
theorem qa {α:Type} (f:α->Int) (l:List α) (i:Nat) (h:i<l.length):QG f (l.take (i+1))=QG f (l.take i)*f l[i]:=by
 rw[QKf h,Qbf]
theorem QkK {α:Type} (f:α->Int):∀ (l:List α),(∀ a∈l,1<=f a/\f a<=1000)->1<=QG f l/\QG f l<=(1000 ^ l.length:Nat)
 | [],_=>by simp[QG]
 | a::l,h=>by
   have h1:=h a (by simp)
   have h2:=QkK f l fun a ha=>h a (by simp[ha])
   have h3:=QLa h1.1 h2.1 (by omega) (by omega)
   have h4:=QLa h1.2 h2.2 (by omega) (by omega)
   simp only[QG,QKB];omega
theorem Quf {n:Nat} (h:n<=3):1000 ^ n<=1000000000:=by
 have:n=0\/n=1\/n=2\/n=3:=by omega
 grind
theorem Qbe {α:Type} (f:α->Int) (l:List α) (h:∀ a∈l,1<=f a/\f a<=1000) (hl:l.length<=3):1<=QG f l/\QG f l<=1000000000:=by
 have h1:=QkK f l h;have h2:=Quf hl;omega
theorem OkM.lever {m:Machine} (h:OkM m) {l:ZE} (hl:l∈m.levers):(1<=l.long/\l.long<=1000)/\1<=l.lo/\l.lo<=l.hi/\l.hi<=1000:=by
 have:=h.levers l hl;simp[Zg] at this;simp only[inR] at this;omega
theorem OkM.bal {m:Machine} (h:OkM m) {b:Zw} (hl:b∈m.bals):inR b.weight 0 9999/\inR b.mins 0 99/\inR b.load 0 999999999/\inR b.off 0 999999999:=by
 have:=h.bals b hl;simp[YU] at this
 grind
theorem OkM.pull {m:Machine} (h:OkM m) {leak w mn:Int} (hl:inR leak m.llo m.lhi) (hw:inR w 0 9999) (hm:inR mn 0 99):(0<=mn*leak/\mn*leak<=1980)/\0<=Y2 m leak w mn/\Y2 m leak w mn<=19998:=by
 have h1:=h.leak;have h2:=h.lhi;have h3:=h.water;simp only[inR] at *;have h4:=QK8 (a:=mn) (b:=leak) (by omega) (by omega)
 have h5:=QLa (show mn<=99 by omega) (show leak<=20 by omega) (by omega) (by omega)
 unfold Y2;omega
theorem OkM.longs {m:Machine} (h:OkM m) (i:Nat):1<=QG (·.long) (m.levers.take i)/\QG (·.long) (m.levers.take i)<=1000000000 :=
 Qbe _ _ (fun a ha=>(h.lever (QKS ha)).1) (by have:=h.len;simp;omega)
theorem OkM.shorts {m:Machine} (h:OkM m) {s:Qm} (hs:okS m s) (i:Nat):1<=QG id (s.shorts.take i)/\QG id (s.shorts.take i)<=1000000000 :=
 Qbe _ _ (fun a ha=>by
  obtain ⟨k,hk,rfl⟩:=QK0 (QKS ha);have h1:=hs.2.2 k (by rw[<- hs.1];exact hk) hk
  have h2:=h.lever (QKj (show k<m.levers.length by grind))
  simp only[inR,id] at *;omega) (by have:=h.len;have:=hs.1;simp;omega)
theorem OkM.aboveB {m:Machine} (h:OkM m):1<=Vj m/\Vj m<=1000000000:=by
 have:=h.longs m.levers.length
 rwa [QKn] at this
theorem OkM.denB {m:Machine} (h:OkM m) {s:Qm} (hs:okS m s):1<=den s/\den s<=1000000000:=by
 have:=h.shorts hs s.shorts.length
 rwa [QKn] at this
theorem OkM.numB {m:Machine} (h:OkM m) {s:Qm} (hs:okS m s) {w mn:Int} (hw:inR w 0 9999) (hm:inR mn 0 99):0<=num m s w mn/\num m s w mn<=19998000000000:=by
 have h1:=h.aboveB;have h2:=(h.pull hs.2.1 hw hm).2;have h3:=QK8 (a:=Y2 m s.leak w mn) (b:=Vj m) (by omega) (by omega)
 have h4:=QLa h2.2 h1.2 (by omega) (by omega)
 unfold num;omega
def Wb (m:Machine) (s:Qm) (b:Zw):Bool :=
 decide (num m s b.weight b.mins-b.load*den s<=b.off*den s /\ -(num m s b.weight b.mins-b.load*den s)<=b.off*den s)
def ZL (m:Machine) (bs:List Zw) (s:Qm):Nat:=bs.countP fun b=>!Wb m s b
theorem qw (m:Machine) (bs:List Zw) (s:Qm) (i:Nat) (h:i<bs.length):ZL m (bs.take (i+1)) s=ZL m (bs.take i) s+if Wb m s bs[i] then 0 else 1:=by
 unfold ZL;rw[QKf h,QKV]
 grind
theorem W0 (m:Machine) (bs:List Zw) (s:Qm):ZL m bs s<=bs.length:=QKI
def X6 (m:Machine) (s:Qm):Prop:=okS m s/\(ZL m m.bals s:Int)<=m.wrong
noncomputable instance (m:Machine) (s:Qm):Decidable (X6 m s):=Classical.propDecidable _
def Qec (p:Qd) (t:QI):Prop:=Qml p.chain t.ends/\X6 p.machine t.set
noncomputable instance (p:Qd) (t:QI):Decidable (Qec p t):=Classical.propDecidable _
include hK
theorem Qu0 (c:Qk) (ends:List Int):Ev.Good Tryz.prog K 390 [chV c,Qt ends] (.bool (decide (QqZ c.deeds ends))):=by
 refine Qb hK QxF (by simp) ?_
 have no:∀ q:Prop,(QqZ c.deeds ends->q)->¬ q->¬ QqZ c.deeds ends:=fun q h1 h2 h=>h2 (h1 h)
 by_cases h1:ends.length=c.deeds.length
 ·simp[h1]
  intros;refine Qe (fun i=>[(1,AV.iv (Qt ends)),(2,AV.iv (.ptr [Qp c.deeds,Qh c.sights,.int .i64 c.wrong])),(5,AV.iv (IV.int IntKind.i64 (i:Nat)))]) (fun _=>[]) ends.length (fun i=>∀ k (h:k<c.deeds.length) (h':k<ends.length),k<i->inR ends[k] 0 1/\(c.deeds[k].frm<2->ends[k]=c.deeds[k].frm)) (by simp) ?_ ?_
  ·intro h
   have:QqZ c.deeds ends:=⟨h1,fun k hk hk'=>h k hk hk' hk'⟩
   rw[Qa Qiw.eq_1];simp[this]
  ·intro i hi h ih
   have hi':i<c.deeds.length:=by omega
   rw[Qa Qiw.eq_1];simp[hi,hi'] at ih |-;intros;refine cK (Z3 hK _ _ _) ?_;by_cases k1:inR ends[i] 0 1
   ·by_cases k2:c.deeds[i].frm<2
    ·by_cases k3:ends[i]=c.deeds[i].frm
     ·have k1':=k1
      rw[k3] at k1';simp[k1',k2,k3,hi,hi'];refine ⟨by omega,ih fun k hk hk' hlt=>?_⟩
      grind
     ·have:=no _ (fun hh=>(hh.2 i hi' hi).2 k2) k3
      simp[k1,k2,k3,hi,hi',this]
    ·simp[k1,k2,hi,hi']
     refine ⟨by omega,ih fun k hk hk' hlt=>?_⟩
     grind
   ·have:=no _ (fun hh=>(hh.2 i hi' hi).1) k1
    simp[k1,this]
 ·have h1':¬ (ends.length:Int)=c.deeds.length:=by omega
  have:=no _ (fun hh=>hh.1) h1
  simp[h1',this]
theorem Qu8 (c:Qk) (s:Xo) (ends:List Int) (hc:OkD c.deeds c.deeds.length) (hl:c.deeds.length<=1000) (he:c.deeds.length<=ends.length) (hs:ZV s c.deeds):Ev.Good Tryz.prog K 362 [chV c,.agg (sC s),Qt ends] (.bool (Ul c.deeds (Qr ends) s)):=by
 refine Qb hK QxN (by simp) ?_
 obtain ⟨s1,s2,s3,s4,s5⟩:=hs;simp only[inR] at s1 s2 s3;have hlt:s.after.toNat<c.deeds.length+1:=by omega
 have hcl:=ZP (Qr ends) hc s.after.toNat (by omega) (by omega)
 have hcg:=Vh c.deeds (Qr ends) c.deeds.length s.after.toNat (by omega)
 have hcb:=hc.cnt s.after.toNat (by omega) (by omega)
 have hclt:=Ux c.deeds (Qr ends) s.after.toNat;have hww:=Qdx c.deeds s.after.toNat;simp;refine cK (Qla hK c ends hc hl he) ?_;simp[hlt,hcg];refine ⟨by omega,cK (Qn8 hK c hl) ?_⟩
 simp;intros;refine cK (Qid hK s.pos s.frm (cab c.deeds (Qr ends) s.after.toNat).length (by omega) (by omega)) ?_
 have hp:(if s.frm=1 then ((cab c.deeds (Qr ends) s.after.toNat).length:Int)-1-s.pos else s.pos)=(plc s.pos s.frm (cab c.deeds (Qr ends) s.after.toNat).length:Nat):=by
  unfold plc;split<;>omega
 have hpl:plc s.pos s.frm (cab c.deeds (Qr ends) s.after.toNat).length<(cab c.deeds (Qr ends) s.after.toNat).length:=QfO (by omega)
 have hwe:Xr Q5 c.deeds 0=Ji c.deeds:=rfl;rw[hp,hwe];have hr:Ul c.deeds (Qr ends) s=QcP c.deeds s (cab c.deeds (Qr ends) s.after.toNat):=rfl;rw[hr];unfold QcP;generalize plc s.pos s.frm (cab c.deeds (Qr ends) s.after.toNat).length=at_ at *;generalize cab c.deeds (Qr ends) s.after.toNat=now at *
 have h1:now[at_]<(Ji c.deeds).length:=by
  have:=hclt now[at_] (QKj hpl);omega
 have h2:(Ji c.deeds)[now[at_]]<c.deeds.length:=Qkq (QKj h1)
 have hm:Qbq c.deeds (now.getD at_ 0)=c.deeds[(Ji c.deeds)[now[at_]]]:=by
  simp[Qbq,List.getD_eq_getElem?_getD,hpl,h1,h2]
 rw[hm];simp[hpl,h1,h2]
 grind
theorem QhV (c:Qk) (ends:List Int) (hc:OkC c) (he:c.deeds.length<=ends.length):Ev.Good Tryz.prog K 314 [chV c,Qt ends] (.int .i64 (QL c.deeds c.sights (Qr ends))):=by
 refine Qb hK Qx4 (by simp) ?_
 have hl:=hc.len;simp;refine Qe (fun i=>[(1,AV.iv (Qt ends)),(2,AV.iv (.ptr [Qp c.deeds,Qh c.sights,.int .i64 c.wrong])),(5,AV.iv (IV.int IntKind.i64 (QL c.deeds (c.sights.take i) (Qr ends):Nat))),(6,AV.iv (IV.int IntKind.i64 (i:Nat)))]) (fun _=>[]) c.sights.length (fun i=>True) trivial ?_ ?_
 ·intro _
  rw[Qa QiR.eq_1];simp
 ·intro i hi _ ih
  have hle:=W2 c.deeds (c.sights.take i) (Qr ends);have hsl:=hc.slen;simp at hle;rw[Qa QiR.eq_1];rw[qx _ _ _ _ hi] at ih;simp[hi] at ih |-;intros;refine cK (Qu8 hK c c.sights[i] ends hc.deeds (by omega) he (hc.sights _ (QKj hi))) ?_
  cases hr:Ul c.deeds (Qr ends) c.sights[i]
  ·simp[hr] at ih |-
   grind
  ·simp[hr] at ih |-
   grind
theorem Qu6 (c:Qk) (ends:List Int) (hc:OkC c):Ev.Good Tryz.prog K 364 [chV c,Qt ends] (.bool (decide (Qml c ends))):=by
 refine Qb hK QxL (by simp) ?_
 simp;refine cK (Qu0 hK c ends) ?_;by_cases h1:QqZ c.deeds ends
 ·simp[h1]
  refine cK (QhV hK c ends hc (by rw[h1.1];omega)) ?_
  simp[Qml,h1]
 ·simp[h1,Qml]
theorem QbI (m:Machine) (s:Qm) (w mn:Int) (hm:OkM m) (hs:okS m s) (hw:inR w 0 9999) (hmn:inR mn 0 99):Ev.Good Tryz.prog K 266 [maV m,.agg (seC s),.int .i64 w,.int .i64 mn] (.tup [.int .i64 (num m s w mn),.int .i64 (den s)]):=by
 refine Qb hK Qyx (by simp) ?_
 have hp:=hm.pull hs.2.1 hw hmn;have h3:=hm.water;simp only[inR] at h3 hw;simp
 (repeat' first | omega | (with_reducible apply And.intro) | intro _)
 have e0:(w+if mn*s.leak<m.water then m.water-mn*s.leak else 0)=Y2 m s.leak w mn*QG (·.long) (m.levers.take 0):=by
  simp only[Y2,QG,List.take_zero,Int.mul_one];split<;>omega
 have hsl:=hs.1;rw[e0];refine Qe (fun i=>[(4,AV.iv (.ptr [Qq m.levers,.int .i64 m.water,.int .i64 m.llo,.int .i64 m.lhi,Ze m.bals,.int .i64 m.wrong])),(5,AV.iv (.ptr [Qt s.shorts,.int .i64 s.leak])),(8,AV.iv (IV.int IntKind.i64 (Y2 m s.leak w mn*QG (·.long) (m.levers.take i)))),(9,AV.iv (IV.int IntKind.i64 (QG id (s.shorts.take i)))),(10,AV.iv (IV.int IntKind.i64 (i:Nat)))]) (fun _=>[]) m.levers.length (fun i=>True) trivial ?_ ?_
 ·intro _
  rw[Qa Qjj.eq_1];have e2:s.shorts.take m.levers.length=s.shorts:=by grind
  rw[QKn,e2];simp[num,den,Vj]
 ·intro i hi _ ih
  have hi':i<s.shorts.length:=by omega
  have l1:=hm.longs i;have l2:=hm.longs (i+1);have k1:=hm.shorts hs i;have k2:=hm.shorts hs (i+1);have b1:=QLa hp.2.2 l2.2 (by omega) (by omega)
  have b2:=QK8 hp.2.1 (QLL (by omega) l2.1)
  rw[qa _ _ _ hi] at ih b1 b2;rw[qa _ _ _ hi'] at ih k2;rw[<- Int.mul_assoc] at ih b1 b2;rw[Qa Qjj.eq_1];generalize Y2 m s.leak w mn*QG (fun x=>x.long) (m.levers.take i)=A at *
  generalize QG id (s.shorts.take i)=B at *;simp[hi,hi'] at ih b1 b2 k2 |-
  grind
theorem Qu7 (m:Machine) (s:Qm) (b:Zw) (hm:OkM m) (hs:okS m s) (hb:b∈m.bals):Ev.Good Tryz.prog K 363 [maV m,.agg (seC s),.agg (baC b)] (.bool (Wb m s b)):=by
 refine Qb hK QxM (by simp) ?_
 have h:=hm.bal hb;simp;refine cK (QbI hK m s b.weight b.mins hm hs h.1 h.2.1) ?_;have h1:=hm.numB hs h.1 h.2.1;have h2:=hm.denB hs;have h3:=h.2.2;simp only[inR] at h3;have h4:=QLa h3.1.2 h2.2 (by omega) (by omega)
 have h5:=QK8 h3.1.1 (QLL (by omega) h2.1)
 have h6:=QLa h3.2.2 h2.2 (by omega) (by omega)
 have h7:=QK8 h3.2.1 (QLL (by omega) h2.1)
 simp;unfold Wb
 grind
theorem QhT (m:Machine) (s:Qm) (hm:OkM m) (hs:okS m s):Ev.Good Tryz.prog K 318 [maV m,.agg (seC s)] (.int .i64 (ZL m m.bals s)):=by
 refine Qb hK Qx1 (by simp) ?_
 have hl:=hm.blen;simp;refine Qe (fun i=>[(2,AV.iv (.ptr [Qq m.levers,.int .i64 m.water,.int .i64 m.llo,.int .i64 m.lhi,Ze m.bals,.int .i64 m.wrong])),(3,AV.iv (.ptr [Qt s.shorts,.int .i64 s.leak])),(5,AV.iv (IV.int IntKind.i64 (ZL m (m.bals.take i) s:Nat))),(6,AV.iv (IV.int IntKind.i64 (i:Nat)))]) (fun _=>[]) m.bals.length (fun i=>True) trivial ?_ ?_
 ·intro _
  rw[Qa QiM.eq_1];simp
 ·intro i hi _ ih
  have hle:=W0 m (m.bals.take i) s;simp at hle;rw[Qa QiM.eq_1];rw[qw _ _ _ _ hi] at ih;simp[hi] at ih |-;intros;refine cK (Qu7 hK m s m.bals[i] hm hs (QKj hi)) ?_;cases hr:Wb m s m.bals[i]
  ·simp[hr] at ih |-
   grind
  ·simp[hr] at ih |-
   grind
theorem Qu5 (m:Machine) (s:Qm) (hm:OkM m):Ev.Good Tryz.prog K 365 [maV m,.agg (seC s)] (.bool (decide (X6 m s))):=by
 refine Qb hK QxK (by simp) ?_
 have no:∀ q:Prop,(okS m s->q)->¬ q->¬ X6 m s:=fun q h1 h2 h=>h2 (h1 h.1)
 by_cases h1:s.shorts.length=m.levers.length
 ·simp[h1]
  intros;refine cK (YP hK _ _ _) ?_;by_cases h2:inR s.leak m.llo m.lhi
  ·simp[h2]
   refine Qe (fun i=>[(2,AV.iv (.ptr [Qq m.levers,.int .i64 m.water,.int .i64 m.llo,.int .i64 m.lhi,Ze m.bals,.int .i64 m.wrong])),(3,AV.iv (.ptr [Qt s.shorts,.int .i64 s.leak])),(5,AV.iv (IV.int IntKind.i64 (i:Nat)))]) (fun _=>[]) s.shorts.length (fun i=>∀ k (h:k<m.levers.length) (h':k<s.shorts.length),k<i->inR s.shorts[k] m.levers[k].lo m.levers[k].hi) (by simp) ?_ ?_
   ·intro h
    have hs:okS m s:=⟨h1,h2,fun k hk hk'=>h k hk hk' hk'⟩
    rw[Qa QiA.eq_1];simp;intros;refine cK (QhT hK m s hm hs) ?_;simp[X6,hs]
   ·intro i hi h ih
    have hi':i<m.levers.length:=by omega
    rw[Qa QiA.eq_1];simp[hi,hi'] at ih |-;intros;refine cK (YP hK _ _ _) ?_;by_cases k1:inR s.shorts[i] m.levers[i].lo m.levers[i].hi
    ·have ih:=ih fun k hk hk' hlt=>by
      grind
     simp[k1]
     grind
    ·have:=no _ (fun hh=>hh.2.2 i hi' hi) k1
     simp[k1,this]
  ·have:=no _ (fun hh=>hh.2.1) h2
   simp[h2,this]
 ·have h1':¬ (s.shorts.length:Int)=m.levers.length:=by omega
  have:=no _ (fun hh=>hh.1) h1
  simp[h1',this]
omit hK
def t0:U0:=⟨0,0,0⟩
def tr (p:Qd) (i:Nat):U0:=p.trials.getD i t0
theorem YF {p:Qd} {i:Nat} (h:i<p.trials.length):p.trials[i]=tr p i:=by simp[tr,List.getD_eq_getElem?_getD,h]
def Zn (p:Qd) (i:Nat) (e:Nat->Int):List Nat:=cab p.chain.deeds e ((pv p.chain.deeds).getD i 0)
def QF (p:Qd) (i:Nat) (e:Nat->Int):Int:=if 0<=(tr p i).broke then ((Zn p i e).getD (tr p i).broke.toNat 0:Nat) else -1
def XG (p:Qd) (i:Nat) (s:Qm):Int:=num p.machine s (tr p i).weight (tr p i).mins
def ZW (p:Qd) (i:Nat) (t:QI):Bool:=decide (0<=(tr p i).broke)&&decide (XG p i t.set<=p.need*den t.set)
def ZI (p:Qd) (t:QI):Nat:=(List.range p.trials.length).countP fun i=>ZW p i t
def inN (l:List Nat) (n:Int):Bool:=decide (n∈l.map fun k:Nat=>(k:Int))
def Xf (p:Qd) (link:Int) (t:QI) (i:Nat):Bool:=decide (p.need*den t.set<=XG p i t.set)&&inN (Zn p i (Qr t.ends)) link&&!decide (QF p i (Qr t.ends)=link)
def QC (p:Qd) (link:Int) (t:QI):Bool:=(List.range p.trials.length).any (Xf p link t)
def XB (p:Qd) (e:Nat->Int):List Nat:=cab p.chain.deeds e p.chain.deeds.length
def Y3 (p:Qd) (t:QI):Bool:=((XB p (Qr t.ends)).all fun (k:Nat)=>QC p k t)&&decide ((ZI p t:Int)<p.rule)
def QsG (p:Qd) (smith:Int) (t:QI) (i:Nat):Bool:=ZW p i t&&decide ((Qbq p.chain.deeds (QF p i (Qr t.ends)).toNat).smith=smith)
def QAA (p:Qd) (smith:Int) (t:QI):Bool:=(List.range p.trials.length).any (QsG p smith t)
def Xq (some many:Int):Int:=if some=many then 1 else if some=0 then 2 else 3
def XZ (l:List Int) (lo:Int) (i:Nat):List Int:=((List.range i).map fun j:Nat=>lo+j).filter fun n=>decide (n∈l)
def Z1 (l:List Int) (lo hi:Int):List Int:=XZ l lo (hi+1-lo).toNat
theorem qD (l:List Int) (lo:Int) (i:Nat):XZ l lo (i+1)=if (lo+i)∈l then XZ l lo i++[lo+i] else XZ l lo i:=by
 unfold XZ;rw[QKU,QKy,QLj]
 grind
theorem UH (l:List Int) (lo:Int) (i:Nat):(XZ l lo i).length<=i:=QKK (QKD _ _) (by simp)
def QcY (p:Qd) (t:QI) (k:Nat) (m:Int) (i:Nat):Int :=
 if inN (Zn p i (Qr t.ends)) k=true/\¬ QF p i (Qr t.ends)=k then max m ((XG p i t.set).tdiv (den t.set)) else m
def Qci (p:Qd) (t:QI) (k:Nat) (n:Nat):Int:=(List.range n).foldl (QcY p t k) (-1)
def QeV (p:Qd) (t:QI) (now:List Nat):Int:=now.foldl (fun b k=>min b (Qci p t k p.trials.length)) 999999999
def Jd (p:Qd) (t:QI) (i n:Nat):Nat:=(List.range n).countP fun k=>decide (0<=(tr p k).broke)&&decide (XG p k t.set<=XG p i t.set)
def qU (p:Qd) (t:QI) (b:Int) (i:Nat):Int :=
 if 0<=(tr p i).broke/\p.rule<=(Jd p t i p.trials.length:Int) then min b ((XG p i t.set+den t.set-1).tdiv (den t.set)-1) else b
def Uk (p:Qd) (t:QI):Int:=(List.range p.trials.length).foldl (qU p t) (QeV p t (XB p (Qr t.ends)))
theorem QcX (p:Qd) (t:QI) (k n:Nat):Qci p t k (n+1)=QcY p t k (Qci p t k n) n:=by simp[Qci,QKU]
theorem Qiq (p:Qd) (t:QI) (i n:Nat):Jd p t i (n+1)=Jd p t i n+if 0<=(tr p n).broke/\XG p n t.set<=XG p i t.set then 1 else 0:=by
 unfold Jd;rw[QKU,QKV]
 grind
theorem QoE (p:Qd) (t:QI) (i n:Nat):Jd p t i n<=n:=by
 have:=QKI (p:=fun k=>decide (0<=(tr p k).broke)&&decide (XG p k t.set<=XG p i t.set)) (l:=List.range n)
 simpa[Jd] using this
theorem Vo (a b:Int):(if b<a then b else a)=min a b:=by split<;>omega
theorem Un (a b:Int):(if a<b then b else a)=max a b:=by split<;>omega
theorem Jj {a b:Int} (h1:0<=a) (h2:1<=b):0<=a.tdiv b/\a.tdiv b<=a:=by
 rw[QK1 h1];exact ⟨Int.ediv_nonneg h1 (by omega),Int.ediv_le_self _ h1⟩
structure Fit (p:Qd) (t:QI):Prop where
 ends:p.chain.deeds.length<=t.ends.length
 set:okS p.machine t.set
theorem OkP.deedsLen {p:Qd} (h:OkP p):p.chain.deeds.length<=12:=h.chain.len
theorem OkP.trialsLen {p:Qd} (h:OkP p):p.trials.length<=12:=by
 have:=QcS p.chain.deeds;have:=h.many;have:=h.deedsLen;omega
theorem OkP.trial {p:Qd} (h:OkP p) {i:Nat} (hi:i<p.trials.length):JY (tr p i) (cnt p.chain.deeds ((pv p.chain.deeds).getD i 0)):=by
 have h1:i<(pv p.chain.deeds).length:=by rw[<- h.many];exact hi
 have:=h.trials i h1 hi;rw[YF hi] at this
 grind
theorem OkP.pvGet {p:Qd} (h:OkP p) {i:Nat} (hi:i<p.trials.length):(pv p.chain.deeds).getD i 0<p.chain.deeds.length:=by
 have h1:i<(pv p.chain.deeds).length:=by rw[<- h.many];exact hi
 have:=QcT h1
 grind
theorem OkP.thenLen {p:Qd} (h:OkP p) (e:Nat->Int) {i:Nat} (hi:i<p.trials.length):((Zn p i e).length:Int)=cnt p.chain.deeds ((pv p.chain.deeds).getD i 0):=by
 have:=h.pvGet hi;exact ZP e h.chain.deeds _ (by omega) (by omega)
theorem OkP.brokeIn {p:Qd} (h:OkP p) (e:Nat->Int) {i:Nat} (hi:i<p.trials.length) (hb:0<=(tr p i).broke):∃ hlt:(tr p i).broke.toNat<(Zn p i e).length,QF p i e=((Zn p i e)[(tr p i).broke.toNat]:Nat):=by
 have h1:=(h.trial hi).2.2;have h2:=h.thenLen e hi;simp only[inR] at h1;have hlt:(tr p i).broke.toNat<(Zn p i e).length:=by omega
 exact ⟨hlt,by simp[QF,hb,List.getD_eq_getElem?_getD,hlt]⟩
theorem OkP.thenLt {p:Qd} (e:Nat->Int) (i:Nat) {k:Nat} (hk:k∈Zn p i e):k<(Ji p.chain.deeds).length :=
 QK4 (Ux _ _ _ k hk) (Qdx _ _)
theorem OkP.needB {p:Qd} (h:OkP p) {t:QI} (ht:Fit p t):0<=p.need*den t.set/\p.need*den t.set<=999999999000000000:=by
 have h1:=h.need;simp only[inR] at h1;have h2:=h.machine.denB ht.set;have h3:=QLa h1.2 h2.2 (by omega) (by omega)
 have h4:=QK8 h1.1 (QLL (by omega) h2.1)
 omega
theorem Qez (p:Qd) (t:QI):ZI p t<=p.trials.length:=by
 have:=QKI (p:=fun i=>ZW p i t) (l:=List.range p.trials.length)
 simpa[ZI] using this
theorem Qcu (n:Nat) (f:Nat->Bool):(List.range (n+1)).any f=((List.range n).any f||f n):=by grind
theorem Qcw {n:Nat} {f:Nat->Bool} (h:∀ i,i<n->f i=false):(List.range n).any f=false:=by
 grind
theorem Qcv {n:Nat} {f:Nat->Bool} (i:Nat) (hi:i<n) (h:f i=true):(List.range n).any f=true:=QLF.2 ⟨i,QKO.2 hi,h⟩
include hK
theorem QbJ (c:Qk) (ends:List Int) (hc:OkD c.deeds c.deeds.length) (hl:c.deeds.length<=1000) (he:c.deeds.length<=ends.length):Ev.Good Tryz.prog K 260 [chV c,Qt ends] (ZG (cab c.deeds (Qr ends) c.deeds.length)):=by
 refine Qb hK QyC (by simp) ?_
 have hcg:=Vh c.deeds (Qr ends) c.deeds.length c.deeds.length (by omega)
 simp;refine cK (Qla hK c ends hc hl he) ?_;simp[hcg]
theorem QhS (p:Qd) (i:Nat) (ends:List Int) (hp:OkP p) (hi:i<p.trials.length) (he:p.chain.deeds.length<=ends.length):Ev.Good Tryz.prog K 321 [prV p,.int .i64 i,Qt ends] (ZG (Zn p i (Qr ends))):=by
 refine Qb hK Qx0 (by simp) ?_
 have hl:=hp.deedsLen;simp;refine cK (Qla hK p.chain ends hp.chain.deeds (by omega) he) ?_
 simp;refine cK (Qtd hK p.chain (by omega)) ?_
 have h1:i<(pv p.chain.deeds).length:=by rw[<- hp.many];exact hi
 have h2:(pv p.chain.deeds)[i]<p.chain.deeds.length+1:=by have:=QcT h1;omega
 have hcg:=Vh p.chain.deeds (Qr ends) p.chain.deeds.length (pv p.chain.deeds)[i] h2;have hpv:Xr Xx p.chain.deeds 0=pv p.chain.deeds:=rfl;have ht:Zn p i (Qr ends)=cab p.chain.deeds (Qr ends) (pv p.chain.deeds)[i]:=by simp[Zn,List.getD_eq_getElem?_getD,h1]
 rw[hpv,ht];simp[h1,h2,hcg]
theorem QhZ (p:Qd) (i:Nat) (ends:List Int) (hp:OkP p) (hi:i<p.trials.length) (he:p.chain.deeds.length<=ends.length):Ev.Good Tryz.prog K 270 [prV p,.int .i64 i,Qt ends] (.int .i64 (QF p i (Qr ends))):=by
 refine Qb hK Qyt (by simp) ?_
 by_cases hb:0<=(tr p i).broke
 ·obtain ⟨h1,h2⟩:=hp.brokeIn (Qr ends) hi hb
  have hb':(((tr p i).broke.toNat:Nat):Int)=(tr p i).broke:=by omega
  rw[h2];simp[hi,YF hi,hb];refine cK (QhS hK p i ends hp hi he) ?_;simp[h1];omega
 ·have hb':(tr p i).broke<0:=by omega
  simp[hi,YF hi,hb',hb,QF]
theorem Qof (p:Qd) (n:Int) (hs:p.trials.length<=1000):Ev.Good Tryz.prog K 269 [prV p,.int .i64 n] (.bool (decide (inR n 0 (p.trials.length-1)))):=by
 refine Qb hK Qyu (by simp) ?_
 simp
 (repeat' first | omega | (with_reducible apply And.intro) | intro _)
 exact cK (Qgk hK _ _ _) (by simp)
theorem Qoq (p:Qd) (n:Int) (hs:p.trials.length<=1000):Ev.Good Tryz.prog K 172 [prV p,.int .i64 n] (.bool (decide (inR n 0 (p.trials.length-1)))):=by
 refine Qb hK QzH (by simp) ?_
 simp
 (repeat' first | omega | (with_reducible apply And.intro) | intro _)
 exact cK (Us hK _ _ _) (by simp)
theorem QbH (p:Qd) (i:Nat) (t:QI) (hp:OkP p) (hi:i<p.trials.length) (ht:Fit p t):Ev.Good Tryz.prog K 323 [prV p,.int .i64 i,.agg (tuC t)] (.tup [.int .i64 (XG p i t.set),.int .i64 (den t.set)]):=by
 refine Qb hK QxY (by simp) ?_
 have h1:=hp.trial hi;simp[hi,YF hi];refine cK (QbI hK p.machine t.set (tr p i).weight (tr p i).mins hp.machine ht.set h1.1 h1.2.1) ?_;simp[XG]
theorem Qvg (p:Qd) (i:Nat) (t:QI) (hp:OkP p) (hi:i<p.trials.length) (ht:Fit p t):Ev.Good Tryz.prog K 322 [prV p,.int .i64 i,.agg (tuC t)] (.bool (ZW p i t)):=by
 refine Qb hK QxZ (by simp) ?_
 have hn:=hp.needB ht;simp;refine cK (QbH hK p i t hp hi ht) ?_;by_cases hb:0<=(tr p i).broke
 ·simp[hi,YF hi,hb,ZW]
  omega
 ·have hb':(tr p i).broke<0:=by omega
  simp[hi,YF hi,hb',hb,ZW]
theorem Qei (p:Qd) (t:QI) (hp:OkP p) (ht:Fit p t):Ev.Good Tryz.prog K 271 [prV p,.agg (tuC t)] (.int .i64 (ZI p t)):=by
 refine Qb hK Qys (by simp) ?_
 have hl:=hp.trialsLen;simp;refine Qe (fun i=>[(2,AV.iv (.ptr [Qp p.chain.deeds,Qh p.chain.sights,.int .i64 p.chain.wrong,Qq p.machine.levers,.int .i64 p.machine.water,.int .i64 p.machine.llo,.int .i64 p.machine.lhi,Ze p.machine.bals,.int .i64 p.machine.wrong,Q4 p.trials,.int .i64 p.need,.int .i64 p.rule])),(3,AV.iv (.ptr [Qt t.ends,Qt t.set.shorts,.int .i64 t.set.leak])),(5,AV.iv (IV.int IntKind.i64 ((List.range i).countP fun i=>ZW p i t:Nat))),(6,AV.iv (IV.int IntKind.i64 (i:Nat)))]) (fun _=>[]) p.trials.length (fun i=>True) trivial ?_ ?_
 ·intro _
  rw[Qa Qjg.eq_1];simp[ZI]
 ·intro i hi _ ih
  have hle:=QKI (p:=fun i=>ZW p i t) (l:=List.range i)
  simp at hle;rw[QKU,QKV] at ih;rw[Qa Qjg.eq_1];simp[hi] at ih |-;intros;refine cK (Qvg hK p i t hp hi ht) ?_;cases hr:ZW p i t
  ·simp[hr] at ih |-
   grind
  ·simp[hr] at ih |-
   grind
theorem Qlc (l:List Nat) (n:Int):Ev.Good Tryz.prog K 315 [ZG l,.int .i64 n] (.bool (inN l n)):=by
 have:=QhU hK (l.map fun k:Nat=>(k:Int)) n
 simpa only[Qt,ZG,List.map_map,inN,Function.comp_def] using this
theorem QhX (p:Qd) (link:Int) (t:QI) (hp:OkP p) (ht:Fit p t):Ev.Good Tryz.prog K 273 [prV p,.int .i64 link,.agg (tuC t)] (.bool (QC p link t)):=by
 refine Qb hK Qyq (by simp) ?_
 have hl:=hp.trialsLen;have hn:=hp.needB ht;simp;refine Qe (fun i=>[(1,AV.iv (IV.int IntKind.i64 link)),(3,AV.iv (.ptr [Qp p.chain.deeds,Qh p.chain.sights,.int .i64 p.chain.wrong,Qq p.machine.levers,.int .i64 p.machine.water,.int .i64 p.machine.llo,.int .i64 p.machine.lhi,Ze p.machine.bals,.int .i64 p.machine.wrong,Q4 p.trials,.int .i64 p.need,.int .i64 p.rule])),(5,AV.iv (.ptr [Qt t.ends,Qt t.set.shorts,.int .i64 t.set.leak])),(7,AV.iv (IV.int IntKind.i64 (i:Nat)))]) (fun _=>[]) p.trials.length (fun i=>∀ k,k<i->Xf p link t k=false) (by simp) ?_ ?_
 ·intro h
  rw[Qa Qjf.eq_1];have:QC p link t=false:=Qcw h;simp[this]
 ·intro i hi h ih
  have hno:∀ (hh:Xf p link t i=false),∀ k,k<i+1->Xf p link t k=false:=fun hh k hk=>by
   grind
  have hyes:Xf p link t i=true->QC p link t=true:=fun hh=>Qcv i hi hh
  rw[Qa Qjf.eq_1];simp[hi] at ih |-;intros;refine cK (QbH hK p i t hp hi ht) ?_;by_cases k1:p.need*den t.set<=XG p i t.set
  ·simp[k1]
   (repeat' first | omega | (with_reducible apply And.intro) | intro _)
   refine cK (QhS hK p i t.ends hp hi ht.ends) ?_;simp;refine cK (Qlc hK (Zn p i (Qr t.ends)) link) ?_;cases k2:inN (Zn p i (Qr t.ends)) link
   ·have:=ih (hno (by simp[Xf,k2]))
    simp
    grind
   ·simp
    refine cK (QhZ hK p i t.ends hp hi ht.ends) ?_;by_cases k3:QF p i (Qr t.ends)=link
    ·have:=ih (hno (by simp[Xf,k3]))
     simp[k3]
     grind
    ·have:=hyes (by simp[Xf,k1,k2,k3])
     simp[k3,this]
  ·have:=ih (hno (by simp[Xf,k1]))
   simp[k1]
   grind
theorem Qvf (p:Qd) (t:QI) (hp:OkP p) (ht:Fit p t):Ev.Good Tryz.prog K 324 [prV p,.agg (tuC t)] (.bool (Y3 p t)):=by
 refine Qb hK QxX (by simp) ?_
 have hl:=hp.deedsLen;simp;refine cK (QbJ hK p.chain t.ends hp.chain.deeds (by omega) ht.ends) ?_
 simp;have hnow:XB p (Qr t.ends)=cab p.chain.deeds (Qr t.ends) p.chain.deeds.length:=rfl;rw[<- hnow];unfold Y3;generalize XB p (Qr t.ends)=now;refine Qe (fun i=>[(2,AV.iv (.ptr [Qp p.chain.deeds,Qh p.chain.sights,.int .i64 p.chain.wrong,Qq p.machine.levers,.int .i64 p.machine.water,.int .i64 p.machine.llo,.int .i64 p.machine.lhi,Ze p.machine.bals,.int .i64 p.machine.wrong,Q4 p.trials,.int .i64 p.need,.int .i64 p.rule])),(3,AV.iv (.ptr [Qt t.ends,Qt t.set.shorts,.int .i64 t.set.leak])),(5,AV.iv (ZG now)),(6,AV.iv (IV.int IntKind.i64 (i:Nat)))]) (fun _=>[]) now.length (fun i=>∀ k∈now.take i,QC p (k:Nat) t=true) (by simp) ?_ ?_
 ·intro h
  rw[QKn] at h;rw[Qa QiI.eq_1];have:(now.all fun (k:Nat)=>QC p k t)=true:=QKH.2 h
  simp;intros;refine cK (Qei hK p t hp ht) ?_;simp[this]
 ·intro i hi h ih
  rw[Qa QiI.eq_1];simp[hi] at ih |-;intros;refine cK (QhX hK p now[i] t hp ht) ?_;cases hr:QC p now[i] t
  ·have:(now.all fun (k:Nat)=>QC p k t)=false:=List.all_eq_false.2 ⟨now[i],QKj hi,by simp[hr]⟩
   simp[this]
  ·have:=ih (by
    rw[QKf hi]
    grind)
   simp
   grind
theorem QhY (a b:Int):Ev.Good Tryz.prog K 272 [.int .i64 a,.int .i64 b] (.int .i64 (Xq a b)):=by
 refine Qb hK Qyr (by simp) ?_
 by_cases h1:a=b
 ·simp[h1,Xq]
 ·by_cases h2:a=0
  ·have:¬ 0=b:=by omega
   simp[h2,Xq,this]
  ·simp[h1,h2,Xq]
theorem Qh1 (l:List Int) (lo hi:Int) (h1 : -1000<=lo) (h2:lo<=hi) (h3:hi<=1000):Ev.Good Tryz.prog K 261 [Qt l,.int .i64 lo,.int .i64 hi] (Qt (Z1 l lo hi)):=by
 refine Qb hK QpU (by simp) ?_
 simp;have e0:lo=lo+((0:Nat):Int):=by simp
 conv=>arg 8;rw[e0]
 refine Qe (fun i=>[(0,AV.iv (Qt l)),(2,AV.iv (IV.int IntKind.i64 hi)),(7,AV.aref 7 (XZ l lo i).length),(8,AV.iv (IV.int IntKind.i64 (lo+(i:Nat))))])
  (fun i=>[(7,AO.arr 3 1 (emb ((XZ l lo i).map fun n=>[.int .i64 n])) 0)]) (hi+1-lo).toNat (fun i=>True) trivial ?_ ?_
 ·intro _
  have e1:lo+((hi+1-lo).toNat:Int)=hi+1:=by omega
  have e2:¬ hi+1<=hi:=by omega
  rw[e1,Qa Qb1.eq_1];simp[e2,Z1]
 ·intro i hi' _ ih
  have hln:=UH l lo i;have e1:lo+(i:Int)<=hi:=by omega
  rw[qD] at ih;rw[Qa Qb1.eq_1];simp[e1];refine cK (QhU hK l (lo+i)) ?_;have e3:lo+((i:Int)+1)=lo+i+1:=by omega
  by_cases hm:(lo+(i:Int))∈l
  ·simp[hm,e3] at ih |-
   grind
  ·simp[hm,e3] at ih |-
   grind
theorem Qvs (p:Qd) (t:QI) (hp:OkP p) (ht:Fit p t):Ev.Good Tryz.prog K 275 [prV p,.agg (tuC t)] (.int .i64 (Uk p t)):=by
 refine Qb hK Qyo (by simp) ?_
 have hl:=hp.trialsLen;have hdl:=hp.deedsLen;have hd:=hp.machine.denB ht.set;have hload:∀ i,i<p.trials.length->0<=XG p i t.set/\XG p i t.set<=19998000000000:=fun i hi=>hp.machine.numB ht.set (hp.trial hi).1 (hp.trial hi).2.1
 simp;refine cK (QbJ hK p.chain t.ends hp.chain.deeds (by omega) ht.ends) ?_
 simp;have hnow:XB p (Qr t.ends)=cab p.chain.deeds (Qr t.ends) p.chain.deeds.length:=rfl;rw[<- hnow];unfold Uk;generalize XB p (Qr t.ends)=now;refine Qe (fun i=>[(2,AV.iv (.ptr [Qp p.chain.deeds,Qh p.chain.sights,.int .i64 p.chain.wrong,Qq p.machine.levers,.int .i64 p.machine.water,.int .i64 p.machine.llo,.int .i64 p.machine.lhi,Ze p.machine.bals,.int .i64 p.machine.wrong,Q4 p.trials,.int .i64 p.need,.int .i64 p.rule])),(3,AV.iv (.ptr [Qt t.ends,Qt t.set.shorts,.int .i64 t.set.leak])),(5,AV.iv (.int .i64 (QeV p t (now.take i)))),(6,AV.iv (ZG now)),(7,AV.iv (IV.int IntKind.i64 (i:Nat)))]) (fun _=>[]) now.length (fun i=>True) trivial ?_ ?_
 ·intro _
  rw[Qa Qjc.eq_1];rw[QKn];simp;intros;refine Qe (fun i=>[(2,AV.iv (.ptr [Qp p.chain.deeds,Qh p.chain.sights,.int .i64 p.chain.wrong,Qq p.machine.levers,.int .i64 p.machine.water,.int .i64 p.machine.llo,.int .i64 p.machine.lhi,Ze p.machine.bals,.int .i64 p.machine.wrong,Q4 p.trials,.int .i64 p.need,.int .i64 p.rule])),(3,AV.iv (.ptr [Qt t.ends,Qt t.set.shorts,.int .i64 t.set.leak])),(5,AV.iv (.int .i64 ((List.range i).foldl (qU p t) (QeV p t now)))),(12,AV.iv (IV.int IntKind.i64 (i:Nat)))]) (fun _=>[]) p.trials.length (fun i=>True) trivial ?_ ?_
  ·intro _
   rw[Qa Qja.eq_1];simp
  ·intro i hi _ ih
   rw[QKU,QLh] at ih;rw[Qa Qja.eq_1];have hli:=hload i hi;have htd:=Jj (a:=XG p i t.set+den t.set-1) (b:=den t.set) (by omega) (by omega)
   generalize (List.range i).foldl (qU p t) (QeV p t now)=B at *;simp[hi] at ih |-;intros;refine cK (QbH hK p i t hp hi ht) ?_;simp;refine Qe (fun k=>[(2,AV.iv (.ptr [Qp p.chain.deeds,Qh p.chain.sights,.int .i64 p.chain.wrong,Qq p.machine.levers,.int .i64 p.machine.water,.int .i64 p.machine.llo,.int .i64 p.machine.lhi,Ze p.machine.bals,.int .i64 p.machine.wrong,Q4 p.trials,.int .i64 p.need,.int .i64 p.rule])),(3,AV.iv (.ptr [Qt t.ends,Qt t.set.shorts,.int .i64 t.set.leak])),(5,AV.iv (.int .i64 B)),(12,AV.iv (IV.int IntKind.i64 (i:Nat))),(13,AV.iv (.int .i64 (XG p i t.set))),(14,AV.iv (.int .i64 (den t.set))),(15,AV.iv (IV.int IntKind.i64 (Jd p t i k:Nat))),(16,AV.iv (IV.int IntKind.i64 (k:Nat)))]) (fun _=>[]) p.trials.length (fun i=>True) trivial ?_ ?_
   ·intro _
    rw[Qa Qjb.eq_1];simp[hi];intros;by_cases k1:0<=(tr p i).broke
    ·by_cases k2:p.rule<=(Jd p t i p.trials.length:Int)
     ·simp[hi,YF hi,qU,k1,k2,Vo] at ih |-
      grind
     ·simp[hi,YF hi,qU,k1,k2] at ih |-
      grind
    ·have k1':(tr p i).broke<0:=by omega
     simp[hi,YF hi,qU,k1,k1'] at ih |-
     grind
   ·intro k hk _ ih
    have hle:=QoE p t i k;rw[Qiq] at ih;rw[Qa Qjb.eq_1];simp[hk] at ih |-;intros;refine cK (QbH hK p k t hp hk ht) ?_;by_cases k1:0<=(tr p k).broke
    ·by_cases k2:XG p k t.set<=XG p i t.set
     ·simp[hk,YF hk,k1,k2] at ih |-
      grind
     ·simp[hk,YF hk,k1,k2] at ih |-
      grind
    ·have k1':(tr p k).broke<0:=by omega
     simp[hk,YF hk,k1,k1'] at ih |-
     grind
 ·intro i hi _ ih
  rw[Qa Qjc.eq_1]
  have hs:QeV p t (now.take (i+1))=min (QeV p t (now.take i)) (Qci p t now[i] p.trials.length):=by
   unfold QeV;rw[QKf hi,QLh];rfl
  rw[hs] at ih;generalize QeV p t (now.take i)=B at *;simp[hi] at ih |-;intros;refine Qe (fun k=>[(2,AV.iv (.ptr [Qp p.chain.deeds,Qh p.chain.sights,.int .i64 p.chain.wrong,Qq p.machine.levers,.int .i64 p.machine.water,.int .i64 p.machine.llo,.int .i64 p.machine.lhi,Ze p.machine.bals,.int .i64 p.machine.wrong,Q4 p.trials,.int .i64 p.need,.int .i64 p.rule])),(3,AV.iv (.ptr [Qt t.ends,Qt t.set.shorts,.int .i64 t.set.leak])),(5,AV.iv (.int .i64 B)),(6,AV.iv (ZG now)),(7,AV.iv (IV.int IntKind.i64 (i:Nat))),(8,AV.iv (.int .i64 (Qci p t now[i] k))),(9,AV.iv (IV.int IntKind.i64 (k:Nat)))]) (fun _=>[]) p.trials.length (fun i=>True) trivial ?_ ?_
  ·intro _
   rw[Qa Qjd.eq_1];simp[Vo]
   grind
  ·intro k hk _ ih
   rw[QcX] at ih;rw[Qa Qjd.eq_1];have hlk:=hload k hk;have htd:=Jj hlk.1 hd.1;generalize Qci p t now[i] k=M at *;simp[hk] at ih |-;intros;refine cK (QbH hK p k t hp hk ht) ?_;simp;refine cK (QhS hK p k t.ends hp hk ht.ends) ?_;simp[hi];refine cK (Qlc hK (Zn p k (Qr t.ends)) now[i]) ?_;cases k2:inN (Zn p k (Qr t.ends)) now[i]
   ·simp[QcY,k2] at ih |-
    grind
   ·simp
    refine cK (QhZ hK p k t.ends hp hk ht.ends) ?_;by_cases k3:QF p k (Qr t.ends)=now[i]
    ·simp[hi,QcY,k2,k3] at ih |-
     grind
    ·simp[hi,QcY,k2,k3,Un] at ih |-
     grind
theorem Qvt (p:Qd) (l:List QI) (hp:OkP p) (hl:∀ t∈l,Fit p t) (hn:l.length<=100000):Ev.Good Tryz.prog K 274 [prV p,.sl 3 (l.map tuC)] (.int .i64 (Xq (l.countP (Y3 p)) l.length)):=by
 refine Qb hK Qyp (by simp) ?_
 simp
 refine Qe (fun i=>[(1,AV.iv (.sl 3 (l.map tuC))),(2,AV.iv (.ptr [Qp p.chain.deeds,Qh p.chain.sights,.int .i64 p.chain.wrong,Qq p.machine.levers,.int .i64 p.machine.water,.int .i64 p.machine.llo,.int .i64 p.machine.lhi,Ze p.machine.bals,.int .i64 p.machine.wrong,Q4 p.trials,.int .i64 p.need,.int .i64 p.rule])),(5,AV.iv (IV.int IntKind.i64 ((l.take i).countP (Y3 p):Nat))),(6,AV.iv (IV.int IntKind.i64 (i:Nat)))])
  (fun _=>[]) l.length (fun i=>True) trivial ?_ ?_
 ·intro _
  rw[Qa Qje.eq_1];simp;intros;refine cK (QhY hK _ _) ?_;simp
 ·intro i hi _ ih
  have hle:=QKI (p:=Y3 p) (l:=l.take i);simp at hle;rw[QKf hi,QKV] at ih;rw[Qa Qje.eq_1];simp[hi] at ih |-;intros;refine cK (Qvf hK p l[i] hp (hl _ (QKj hi))) ?_;cases hr:Y3 p l[i]
  ·simp[hr] at ih |-
   grind
  ·simp[hr] at ih |-
   grind
omit hK
def Vb (d:Qx):List Int:=(if d.frm=0\/d.frm=2 then [0] else [])++(if d.frm=1\/d.frm=2 then [1] else [])
def Qo:List Qx->List (List Int)
 | []=>[[]]
 | d::r=>(Vb d).flatMap fun e=>(Qo r).map (e::·)
noncomputable def Zm (c:Qk) (first:List Int) (rest:List Qx):List (List Int):=((Qo rest).map (first++·)).filter fun e=>decide (Qml c e)
theorem Qdj (c:Qk) (first:List Int) (d:Qx) (r:List Qx):Zm c first (d::r)=(Vb d).flatMap fun e=>Zm c (first++[e]) r:=by
 simp only[Zm,Qo,QLS,List.filter_flatMap,List.map_map]
 congr 1
 funext e
 congr 2
 grind
def acc {α:Type} (pc:Nat->List α) (i:Nat):List α:=(List.range i).flatMap pc
theorem QsP {α:Type} (pc:Nat->List α):acc pc 0=[]:=rfl
theorem ZK {α:Type} (pc:Nat->List α) (i:Nat):acc pc (i+1)=acc pc i++pc i:=by simp[acc,QKU]
noncomputable def Wh (c:Qk) (first:List Int) (d:Qx) (r:List Qx) (i:Nat):List (List Int):=if d.frm=i\/d.frm=2 then Zm c (first++[(i:Int)]) r else []
theorem QgL (c:Qk) (first:List Int) (d:Qx) (r:List Qx):Zm c first (d::r)=acc (Wh c first d r) 2:=by
 rw[Qdj];unfold acc;have:List.range 2=[0,1]:=rfl;rw[this];unfold Vb Wh;by_cases h0:d.frm=0
 all_goals grind
theorem QoZ (d:Qx):(Vb d).length<=2:=by unfold Vb;grind
theorem Xa {α β:Type} (f:α->List β) (n:Nat):∀ l:List α,(∀ a∈l,(f a).length<=n)->(l.flatMap f).length<=l.length*n
 | [],_=>by simp
 | a::l,h=>by
   have h1:=h a (by simp)
   have h2:=Xa f n l fun b hb=>h b (by simp[hb])
   simp only[QLi,QKA,QKB,Nat.succ_mul];omega
theorem Yo {α:Type} (pc:Nat->List α) (n:Nat) (h:∀ i,(pc i).length<=n) (i:Nat):(acc pc i).length<=i*n:=by
 have:=Xa pc n (List.range i) fun a _=>h a
 simpa[acc] using this
theorem QbS (c:Qk):∀ (rest:List Qx) (first:List Int),(Zm c first rest).length<=2 ^ rest.length
 | [],first=>by
   have:=QKD (fun e=>decide (Qml c e)) ([[]].map (first++·))
   simpa[Zm,Qo] using this
 | d::r,first=>by
   rw[Qdj];have h1:=Xa (fun e=>Zm c (first++[e]) r) (2 ^ r.length) (Vb d) fun e _=>QbS c r (first++[e])
   have h2:=QKX (2 ^ r.length) (QoZ d)
   grind
theorem V5 {n:Nat} (h:n<=12):2 ^ n<=4096:=QK7 (by omega) h
include hK
theorem Qn6 (c:Qk) (hc:OkC c):∀ (n:Nat) (first:List Int),first.length+n=c.deeds.length->Ev.Good Tryz.prog K 319 [chV c,Qt first] (.sl 1 ((Zm c first (c.deeds.drop first.length)).map fun e=>[Qt e]))
 | 0,first,hn=>by
   refine Qb hK QpK (by simp) ?_
   have e1:c.deeds.drop first.length=[]:=QKM (by omega)
   have e2:first.length=c.deeds.length:=by omega
   rw[e1];simp[e2];intros;refine cK (Qu6 hK c first hc) ?_
   by_cases h:Qml c first
   ·simp[h,Zm,Qo]
   ·simp[h,Zm,Qo]
 | n+1,first,hn=>by
   have ih:=Qn6 c hc n;refine Qb hK QpK (by simp) ?_
   have hlt:first.length<c.deeds.length:=by omega
   have hne:¬ (first.length:Int)=c.deeds.length:=by omega
   have hne':¬ first.length=c.deeds.length:=by omega
   have hl:=hc.len;have e1:c.deeds.drop first.length=c.deeds[first.length]::c.deeds.drop (first.length+1):=QKG hlt
   rw[e1,QgL]
   have hb:∀ i,(Wh c first c.deeds[first.length] (c.deeds.drop (first.length+1)) i).length<=4096:=fun i=>by
    unfold Wh;split
    ·exact QKK (QbS c _ _) (V5 (by simp;omega))
    ·simp
   have ih1:∀ i:Nat,c.deeds[first.length].frm=i\/c.deeds[first.length].frm=2->Ev.Good Tryz.prog K 319 [chV c,Qt (first++[(i:Int)])] (.sl 1 ((Wh c first c.deeds[first.length] (c.deeds.drop (first.length+1)) i).map fun e=>[Qt e])):=fun i hi=>by
    have:=ih (first++[(i:Int)]) (by simp;omega)
    simp only[QKA,QKB,QKR,QKE] at this
    rwa [Wh,if_pos hi]
   have hno:∀ i:Nat,¬ (c.deeds[first.length].frm=i\/c.deeds[first.length].frm=2)->Wh c first c.deeds[first.length] (c.deeds.drop (first.length+1)) i=[]:=fun i hi=>by
    rw[Wh,if_neg hi]
   generalize Wh c first c.deeds[first.length] (c.deeds.drop (first.length+1))=pc at *
   simp[hne,hne']
   (repeat' first | omega | (with_reducible apply And.intro) | intro _)
   refine Qe (fun i=>[(1,AV.iv (Qt first)),(2,AV.iv (.ptr [Qp c.deeds,Qh c.sights,.int .i64 c.wrong])),(5,AV.aref 5 (acc pc i).length),(6,AV.iv (IV.int IntKind.i64 (i:Nat)))])
    (fun i=>[(5,AO.arr 74 1 (emb ((acc pc i).map fun e=>[Qt e])) 0)]) 2 (fun i=>True) trivial ?_ ?_
   ·intro _
    rw[Qa QiL.eq_1];simp
   ·intro i hi _ hh
    have hlen:=Yo pc 4096 hb i;have hbi:=hb i;rw[ZK pc i] at hh;rw[Qa QiL.eq_1];have hi2:(i:Int)<2:=by omega
    by_cases hq:c.deeds[first.length].frm=i\/c.deeds[first.length].frm=2
    ·have hg:=ih1 i hq
     by_cases q1:c.deeds[first.length].frm=i
     ·have q2:∀ A:Prop,(¬ c.deeds[first.length].frm=i->A):=fun A h=>absurd q1 h
      simp[hi2,hlt] at hh |-;simp[q1]
      (repeat' first | omega | (with_reducible apply And.intro) | intro _)
      refine Vg [some (chV c),none] (by simp) (rows:=(first++[(i:Int)]).map fun n=>[.int .i64 n]) (n:=first.length+1) (sz:=1) (et:=3) (mv:=0) (r:=.sl 1 ((pc i).map fun e=>[Qt e])) ?_ (by simp) (by simp[Qc]) (by simp) (by simp) ?_
      ·have:((first++[(i:Int)]).map fun n=>[IV.int IntKind.i64 n]).take (first.length+1)=(first++[(i:Int)]).map fun n=>[IV.int IntKind.i64 n]:=QKi (by simp)
       rw[this];exact hg
      ·simp[-List.map_map,Qu,QE,QB,Ql]
       (repeat' first | omega | (with_reducible apply And.intro) | intro _)
     ·have q2:c.deeds[first.length].frm=2:=by omega
      simp[hi2,hlt,q1,q2] at hh |-
      (repeat' first | omega | (with_reducible apply And.intro) | intro _)
      refine Vg [some (chV c),none] (by simp) (rows:=(first++[(i:Int)]).map fun n=>[.int .i64 n]) (n:=first.length+1) (sz:=1) (et:=3) (mv:=0) (r:=.sl 1 ((pc i).map fun e=>[Qt e])) ?_ (by simp) (by simp[Qc]) (by simp) (by simp) ?_
      ·have:((first++[(i:Int)]).map fun n=>[IV.int IntKind.i64 n]).take (first.length+1)=(first++[(i:Int)]).map fun n=>[IV.int IntKind.i64 n]:=QKi (by simp)
       rw[this];exact hg
      ·simp[-List.map_map,Qu,QE,QB,Ql]
       (repeat' first | omega | (with_reducible apply And.intro) | intro _)
    ·have hq1:¬ c.deeds[first.length].frm=i:=fun h=>hq (.inl h)
     have hq2:¬ c.deeds[first.length].frm=2:=fun h=>hq (.inr h)
     simp[hno i hq,hi2,hlt,hq1,hq2] at hh |-
     grind
theorem Qrm (c:Qk) (hc:OkC c):Ev.Good Tryz.prog K 319 [chV c,.sl 1 []] (.sl 1 ((Zm c [] c.deeds).map fun e=>[Qt e])):=by
 have:=Qn6 hK c hc c.deeds.length [] (by simp)
 simpa using this
omit hK
def Q2:List ZE->List (List Int)
 | []=>[[]]
 | l::r=>acc (fun i=>(Q2 r).map ((l.lo+(i:Nat))::·)) (l.hi+1-l.lo).toNat
def QM (m:Machine) (first:List Int) (rest:List ZE):List Qm:=(Q2 rest).flatMap fun s=>(List.range (m.lhi+1-m.llo).toNat).map fun k:Nat=>⟨first++s,m.llo+k⟩
noncomputable def QO (m:Machine) (first:List Int) (rest:List ZE):List Qm:=(QM m first rest).filter fun s=>decide (X6 m s)
theorem W7 (m:Machine) (first:List Int) (l:ZE) (r:List ZE):QO m first (l::r)=acc (fun i=>QO m (first++[l.lo+(i:Nat)]) r) (l.hi+1-l.lo).toNat:=by
 simp only[QO,QM,Q2,acc,List.flatMap_assoc,List.filter_flatMap]
 congr 1
 funext i
 simp[List.flatMap_map]
theorem QaS (m:Machine):∀ (rest:List ZE) (first:List Int),(∀ l∈rest,1<=Zo l)->1<=m.lhi-m.llo+1->((QO m first rest).length:Int)<=(m.lhi-m.llo+1)*QG Zo rest
 | [],first,_,h=>by
   have:=QKD (fun s=>decide (X6 m s)) (QM m first [])
   simp[QM,Q2] at this;simp only[QO,QG];simp only[QM,Q2] at this |-
   grind
 | l::r,first,hs,h=>by
   rw[W7];have ih:=fun e:Int=>QaS m r (first++[e]) (fun l hl=>hs l (by simp[hl])) h
   have hl:=hs l (by simp)
   have hp:=Yg Zo r fun l hl=>hs l (by simp[hl])
   have hpp:=QK8 (a:=m.lhi-m.llo+1) (b:=QG Zo r) (by omega) (by omega)
   have h1:=Yo (fun i=>QO m (first++[l.lo+(i:Nat)]) r) ((m.lhi-m.llo+1)*QG Zo r).toNat (fun i=>by grind) (l.hi+1-l.lo).toNat
   have e1:((l.hi+1-l.lo).toNat:Int)=Zo l:=by unfold Zo at *;omega
   have e2:(((m.lhi-m.llo+1)*QG Zo r).toNat:Int)=(m.lhi-m.llo+1)*QG Zo r:=by omega
   have h2:=Int.ofNat_le.2 h1;rw[Int.natCast_mul,e1,e2] at h2;simp only[QG]
   grind
theorem qN {α:Type} (f:α->Int):∀ l r:List α,QG f (l++r)=QG f l*QG f r
 | [],r=>by simp[QG]
 | a::l,r=>by simp[QG,qN f l r,Int.mul_assoc]
theorem Qfj {m:Machine} (h:OkM m) (k:Nat):(m.lhi-m.llo+1)*QG Zo (m.levers.drop k)<=sets m m.levers.length:=by
 have h1:=h.leak;simp only[inR] at h1;have e:QG Zo m.levers=QG Zo (m.levers.take k)*QG Zo (m.levers.drop k):=by rw[<- qN,List.take_append_drop]
 have h2:=Yg Zo (m.levers.take k) fun a ha=>(h.span (QKS ha)).1
 have h3:=Yg Zo (m.levers.drop k) fun a ha=>(h.span (QK2 ha)).1
 have h4:=QKL h2 (show 0<=QG Zo (m.levers.drop k) by omega)
 rw[Int.one_mul] at h4;unfold sets;rw[QKn,e];exact QK9 h4 (by omega)
noncomputable def Um (m:Machine) (first:List Int) (k:Nat):List Qm:=if X6 m ⟨first,m.llo+k⟩ then [⟨first,m.llo+k⟩] else []
theorem Qm6 (m:Machine) (first:List Int):QO m first []=acc (Um m first) (m.lhi+1-m.llo).toNat:=by
 simp only[QO,QM,Q2,acc,QLi,List.flatMap_nil,QKv];generalize (m.lhi+1-m.llo).toNat=n
 induction n with
 | zero=>rfl
 | succ n ih =>
   rw[QKU,QKy,QLj,ih,QLU]
   congr 1
   by_cases h:X6 m ⟨first,m.llo+n⟩<;>simp[Um,h]
include hK
theorem Qn5 (m:Machine) (hm:OkM m) (hs:sets m m.levers.length<=1000000):∀ (n:Nat) (first:List Int),first.length+n=m.levers.length->Ev.Good Tryz.prog K 320 [maV m,Qt first] (.sl 2 ((QO m first (m.levers.drop first.length)).map seC))
 | 0,first,hn=>by
   refine Qb hK QpJ (by simp) ?_
   have e1:m.levers.drop first.length=[]:=QKM (by omega)
   have e2:first.length=m.levers.length:=by omega
   have hlk:=hm.leak;have hlh:=hm.lhi;simp only[inR] at hlk;rw[e1,Qm6];simp[e2]
   (repeat' first | omega | (with_reducible apply And.intro) | intro _)
   have e0:AV.iv (IV.int .i64 m.llo)=AV.iv (.int .i64 (m.llo+((0:Nat):Int))):=by simp
   rw[e0]
   refine Qe (fun i=>[(1,AV.iv (Qt first)),(2,AV.iv (.ptr [Qq m.levers,.int .i64 m.water,.int .i64 m.llo,.int .i64 m.lhi,Ze m.bals,.int .i64 m.wrong])),(5,AV.aref 5 (acc (Um m first) i).length),(6,AV.iv (IV.int IntKind.i64 (m.llo+(i:Nat))))])
    (fun i=>[(5,AO.arr 287 2 (emb ((acc (Um m first) i).map seC)) 0)]) (m.lhi+1-m.llo).toNat (fun i=>True) trivial ?_ ?_
   ·intro _
    have q1:m.llo+((m.lhi+1-m.llo).toNat:Int)=m.lhi+1:=by omega
    have q2:¬ m.lhi+1<=m.lhi:=by omega
    rw[q1,Qa QiK.eq_1];simp[q2]
   ·intro i hi _ hh
    have q1:m.llo+(i:Int)<=m.lhi:=by omega
    have q3:m.llo+((i:Int)+1)=m.llo+i+1:=by omega
    have hlen:=Yo (Um m first) 1 (fun k=>by unfold Um;split<;>simp) i
    rw[ZK _ i] at hh;rw[Qa QiK.eq_1];simp[q1];refine cK (Qu5 hK m ⟨first,m.llo+i⟩ hm) ?_
    by_cases k:X6 m ⟨first,m.llo+i⟩
    ·have hp:Um m first i=[⟨first,m.llo+i⟩]:=by simp[Um,k]
     rw[hp] at hh;simp[k,q3] at hh |-
     grind
    ·have hp:Um m first i=[]:=by simp[Um,k]
     rw[hp] at hh;simp[k,q3] at hh |-
     grind
 | n+1,first,hn=>by
   have ih:=Qn5 m hm hs n;refine Qb hK QpJ (by simp) ?_
   have hlt:first.length<m.levers.length:=by omega
   have hne:¬ (first.length:Int)=m.levers.length:=by omega
   have hl:=hm.len;have e1:m.levers.drop first.length=m.levers[first.length]::m.levers.drop (first.length+1):=QKG hlt
   have hlv:=hm.lever (QKj hlt);have hspan:=(hm.span (QKj hlt));rw[e1,W7];have hbI:=Qfj hm (first.length+1)
   have hlk:=hm.leak;simp only[inR] at hlk
   have hb:∀ i:Nat,(QO m (first++[m.levers[first.length].lo+(i:Nat)]) (m.levers.drop (first.length+1))).length<=1000000:=fun i=>by
    have:=QaS m (m.levers.drop (first.length+1)) (first++[m.levers[first.length].lo+(i:Nat)]) (fun l hl=>(hm.span (QK2 hl)).1) (by omega)
    omega
   have ih1:∀ i:Nat,Ev.Good Tryz.prog K 320 [maV m,Qt (first++[m.levers[first.length].lo+(i:Int)])] (.sl 2 ((QO m (first++[m.levers[first.length].lo+(i:Nat)]) (m.levers.drop (first.length+1))).map seC)):=fun i=>by
    grind
   have hbs:∀ i,((fun i:Nat=>QO m (first++[m.levers[first.length].lo+(i:Nat)]) (m.levers.drop (first.length+1))) i).length<=1000000:=hb
   have ih2:∀ i:Nat,Ev.Good Tryz.prog K 320 [maV m,Qt (first++[m.levers[first.length].lo+(i:Int)])] (.sl 2 (((fun i:Nat=>QO m (first++[m.levers[first.length].lo+(i:Nat)]) (m.levers.drop (first.length+1))) i).map seC)):=ih1
   clear hb ih1;generalize (fun i:Nat=>QO m (first++[m.levers[first.length].lo+(i:Nat)]) (m.levers.drop (first.length+1)))=pc at *
   simp[hne,hlt]
   (repeat' first | omega | (with_reducible apply And.intro) | intro _)
   have e0:AV.iv (IV.int .i64 m.levers[first.length].lo)=AV.iv (.int .i64 (m.levers[first.length].lo+((0:Nat):Int))):=by simp
   rw[e0]
   refine Qe (fun i=>[(1,AV.iv (Qt first)),(2,AV.iv (.ptr [Qq m.levers,.int .i64 m.water,.int .i64 m.llo,.int .i64 m.lhi,Ze m.bals,.int .i64 m.wrong])),(5,AV.aref 5 (acc pc i).length),(8,AV.loc 8 0),(9,AV.iv (IV.int IntKind.i64 (m.levers[first.length].lo+(i:Nat))))])
    (fun i=>[(5,AO.arr 287 2 (emb ((acc pc i).map seC)) 0),(8,AO.box [.iv (.int .i64 (m.levers[first.length].lo+((0:Nat):Int))),.iv (.int .i64 m.levers[first.length].hi)])]) (m.levers[first.length].hi+1-m.levers[first.length].lo).toNat (fun i=>True) trivial ?_ ?_
   ·intro _
    have q1:m.levers[first.length].lo+((m.levers[first.length].hi+1-m.levers[first.length].lo).toNat:Int)=m.levers[first.length].hi+1:=by omega
    have q2:¬ m.levers[first.length].hi+1<=m.levers[first.length].hi:=by omega
    rw[q1,Qa QiJ.eq_1];simp[q2]
   ·intro i hi _ hh
    have q1:m.levers[first.length].lo+(i:Int)<=m.levers[first.length].hi:=by omega
    have q3:m.levers[first.length].lo+((i:Int)+1)=m.levers[first.length].lo+i+1:=by omega
    have hlen:=Yo pc 1000000 hbs i;have hbi:=hbs i;have hg:=ih2 i;rw[ZK pc i] at hh;rw[Qa QiJ.eq_1];simp[q1,q3] at hh |-
    (repeat' first | omega | (with_reducible apply And.intro) | intro _)
    refine Vg [some (maV m),none] (by simp) (rows:=(first++[m.levers[first.length].lo+(i:Int)]).map fun n=>[.int .i64 n]) (n:=first.length+1) (sz:=1) (et:=3) (mv:=0) (r:=.sl 2 ((pc i).map seC)) ?_ (by simp) (by simp[Qc]) (by simp) (by simp) ?_
    ·have:((first++[m.levers[first.length].lo+(i:Int)]).map fun n=>[IV.int IntKind.i64 n]).take (first.length+1)=(first++[m.levers[first.length].lo+(i:Int)]).map fun n=>[IV.int IntKind.i64 n]:=QKi (by simp)
     rw[this];exact hg
    ·simp[-List.map_map,Qu,QE,QB,Ql]
     grind
omit hK
theorem QsQ {α β:Type} (f:α->List β) (d:α) (l:List α):acc (fun a=>f (l.getD a d)) l.length=l.flatMap f:=by
 have:∀ n,n<=l.length->acc (fun a=>f (l.getD a d)) n=(l.take n).flatMap f:=by
  intro n
  induction n with
  | zero=>intro _;simp[acc]
  | succ n ih =>
    intro h;have hn:n<l.length:=by omega
    rw[ZK,ih (by omega),QKf hn,QLU]
    grind
 grind
theorem QdY {α β:Type} (f:α->β) (l:List α):∃ P:Nat->List β,P 0=[]/\(∀ k (h:k<l.length),P (k+1)=P k++[f l[k]])/\P l.length=l.map f/\∀ k,k<=l.length->(P k).length=k :=
 ⟨fun k=>(l.take k).map f,by simp,fun k h=>by show (l.take (k+1)).map f=_;rw[QKf h,QKy];rfl,by simp,fun k h=>by simp;omega⟩
noncomputable def QD (p:Qd):List QI:=(Zm p.chain [] p.chain.deeds).flatMap fun e=>(QO p.machine [] p.machine.levers).map fun s=>⟨e,s⟩
noncomputable def kL (p:Qd) (is:Bool):List QI:=if OkP p/\is=true then QD p else []
noncomputable def kE (p:Qd) (is:Bool):Int:=if OkP p then (if is=true then (if QD p=[] then 3 else 0) else 1) else 60
theorem QbR {c:Qk} {e:List Int} (h:e∈Zm c [] c.deeds):Qml c e:=by
 simp only[Zm,QKJ,decide_eq_true_eq] at h;exact h.2
theorem JT {m:Machine} {s:Qm} (h:s∈QO m [] m.levers):X6 m s:=by
 simp only[QO,QKJ,decide_eq_true_eq] at h;exact h.2
theorem QhE {p:Qd} {t:QI} (h:t∈QD p):Qec p t:=by
 simp only[QD,QKY,QKt] at h;obtain ⟨e,he,s,hs,rfl⟩:=h;exact ⟨QbR he,JT hs⟩
theorem Qec.fit {p:Qd} {t:QI} (h:Qec p t):Fit p t:=⟨by rw[h.1.1.1];omega,h.2.1⟩
theorem Qf3 {p:Qd} {t:QI} (h:t∈QD p):Fit p t:=(QhE h).fit
theorem Qby {p:Qd} {is:Bool}:∀ t∈kL p is,Fit p t:=fun t h=>by
 unfold kL at h;split at h
 ·exact Qf3 h
 ·cases h
theorem X5 {p:Qd} {is:Bool} (h:kE p is=0):OkP p/\is=true/\kL p is=QD p/\QD p≠[]:=by
 unfold kE at h;split at h
 ·rename_i h1
  split at h
  ·rename_i h2
   split at h
   ·cases h
   ·rename_i h3
    exact ⟨h1,h2,by simp[kL,h1,h2],h3⟩
  ·cases h
 ·cases h
theorem QeE {c:Qk} (h:OkC c):(Zm c [] c.deeds).length<=4096:=QKK (QbS c _ _) (V5 h.len)
theorem JU {m:Machine} (h:OkM m):((QO m [] m.levers).length:Int)<=sets m m.levers.length:=by
 have h1:=h.leak;simp only[inR] at h1;have:=QaS m m.levers [] (fun l hl=>(h.span hl).1) (by omega)
 rwa [sets,QKn]
include hK
theorem Qrl (m:Machine) (hm:OkM m) (hs:sets m m.levers.length<=1000000):Ev.Good Tryz.prog K 320 [maV m,.sl 1 []] (.sl 2 ((QO m [] m.levers).map seC)):=by
 have:=Qn5 hK m hm hs m.levers.length [] (by simp)
 simpa using this
theorem J9 (p:Qd) (is:Bool) (hsm:Qkj p) (hs:OkP p->sets p.machine p.machine.levers.length<=1000000) :
  Ev.Good Tryz.prog K 268 [prV p,.bool is] (.tup [.sl 3 ((kL p is).map tuC),.int .i64 (kE p is)]):=by
 refine Qb hK Qyv (by simp) ?_
 simp;refine cK (Qoi hK p hsm) ?_;by_cases h1:OkP p
 ·cases is
  ·simp[h1,kL,kE]
  ·simp[h1]
   refine cK (Qrm hK p.chain h1.chain) ?_;simp;refine cK (Qrl hK p.machine h1.machine (hs h1)) ?_;simp;have hE:=QeE h1.chain;have hS:=JU h1.machine;have hS2:=hs h1;have hkE:kE p true=if QD p=[] then 3 else 0:=by simp[kE,h1]
   have hkL:kL p true=QD p:=by simp[kL,h1]
   have hk:=QsQ (fun e=>(QO p.machine [] p.machine.levers).map fun s=>(⟨e,s⟩:QI)) [] (Zm p.chain [] p.chain.deeds)
   have hk2:QD p=acc (fun a=>(QO p.machine [] p.machine.levers).map fun s=>(⟨(Zm p.chain [] p.chain.deeds).getD a [],s⟩:QI)) (Zm p.chain [] p.chain.deeds).length:=hk.symm
   rw[hkE,hkL,hk2];clear hk hk2 hkE hkL;generalize Zm p.chain [] p.chain.deeds=E at *;generalize QO p.machine [] p.machine.levers=S at *;have hpl:∀ i,((fun a:Nat=>S.map fun s=>(⟨E.getD a [],s⟩:QI)) i).length<=S.length:=fun i=>by simp
   refine Qe (fun i=>[(7,AV.aref 7 (acc (fun a=>S.map fun s=>(⟨E.getD a [],s⟩:QI)) i).length),(8,AV.iv (.sl 1 (E.map fun e=>[Qt e]))),(9,AV.iv (.sl 2 (S.map seC))),(10,AV.iv (IV.int IntKind.i64 (i:Nat)))])
    (fun i=>[(7,AO.arr 294 3 (emb ((acc (fun a=>S.map fun s=>(⟨E.getD a [],s⟩:QI)) i).map tuC)) 0)]) E.length (fun i=>True) trivial ?_ ?_
   ·intro _
    rw[Qa Qjh.eq_1];generalize acc (fun a:Nat=>S.map fun s=>(⟨E.getD a [],s⟩:QI)) E.length=T
    by_cases hT:T=[]
    ·simp[hT]
    ·have hT':¬ T.length=0:=by simpa using hT
     simp[hT,hT']
   ·intro i hi _ ih
    have hlen:=Yo (fun a:Nat=>S.map fun s=>(⟨E.getD a [],s⟩:QI)) S.length hpl i
    have hlen2:i*S.length<=4096*1000000:=Nat.mul_le_mul (by omega) (by omega)
    have hgi:E.getD i []=E[i]:=by grind
    rw[ZK _ i] at ih;rw[Qa Qjh.eq_1];simp only[hgi] at ih;generalize acc (fun a:Nat=>S.map fun s=>(⟨E.getD a [],s⟩:QI)) i=T at *
    simp[hi] at ih |-
    (repeat' first | omega | (with_reducible apply And.intro) | intro _)
    obtain ⟨Pf,hP0,hPs,hPn,hPl⟩:=QdY (fun s=>(⟨E[i],s⟩:QI)) S
    have hPm:(Pf S.length).map tuC=S.map (tuC∘fun s=>(⟨E[i],s⟩:QI)):=by grind
    have e0:T=T++Pf 0:=by grind
    rw[e0]
    refine Qe (fun k=>[(7,AV.aref 7 (T++Pf k).length),(8,AV.iv (.sl 1 (E.map fun e=>[Qt e]))),(9,AV.iv (.sl 2 (S.map seC))),(10,AV.iv (IV.int IntKind.i64 (i:Nat))),(11,AV.iv (IV.int IntKind.i64 (k:Nat)))])
     (fun k=>[(7,AO.arr 294 3 (emb ((T++Pf k).map tuC)) 0)]) S.length (fun i=>True) trivial ?_ ?_
    ·intro _
     have hl:=hPl S.length (QKl _);rw[Qa Qji.eq_1];simp[hl,hPm]
     grind
    ·intro k hk _ ih
     have hl:=hPl k (by omega)
     rw[hPs k hk] at ih;rw[Qa Qji.eq_1];simp[hi,hk,hl] at ih |-
     grind
 ·simp[h1,kL,kE]
omit hK
structure QmO (p:Qd):Prop where
 small:Qkj p
 sets:OkP p->sets p.machine p.machine.levers.length<=1000000
theorem Qc2 {p:Qd} (hf:QmO p) (is:Bool):(kL p is).length<=4096000000:=by
 unfold kL;split
 ·rename_i h
  have h1:=Xa (fun e=>(QO p.machine [] p.machine.levers).map fun s=>(⟨e,s⟩:QI)) 1000000 (Zm p.chain [] p.chain.deeds) fun e _=>by
   have:=JU h.1.machine;have:=hf.sets h.1;simp;omega
  have h2:=QeE h.1.chain;have:(QD p).length<=(Zm p.chain [] p.chain.deeds).length*1000000:=h1;omega
 ·simp
def Jm (p:Qd) (link:Int):Bool:=decide (inR link 0 ((Ji p.chain.deeds).length-1))
def Q0 (p:Qd) (n:Int):Bool:=decide (inR n 0 (p.trials.length-1))
noncomputable def rProved (p:Qd) (link:Int):Int:=if kE p (Jm p link)=0 then Xq ((kL p (Jm p link)).countP (QC p link)) (kL p (Jm p link)).length else 0
noncomputable def rCond (p:Qd):Int:=if kE p true=0 then Xq ((kL p true).countP fun t=>decide (p.rule<=(ZI p t:Int))) (kL p true).length else 0
noncomputable def rGood (p:Qd):Int:=if kE p true=0 then Xq ((kL p true).countP (Y3 p)) (kL p true).length else 0
noncomputable def Y7 (p:Qd):Int:=(kL p true).foldl (fun b t=>min b (Uk p t)) 999999999
noncomputable def Ye (p:Qd):Int × Int:=if kE p true=0 then (if Y7 p<0 then (0,3) else (Y7 p,0)) else (0,kE p true)
def span (l:List Int):Int × Int:=match l with
 | []=>(0,0)
 | a::r=>(r.foldl min a,r.foldl max a)
theorem Jy (l:List Int) (a:Int):span (l++[a])=if l=[] then (a,a) else (min (span l).1 a,max (span l).2 a):=by
 cases l with
 | nil=>rfl
 | cons b r=>simp[span]
noncomputable def rFail (p:Qd):Int × Int:=span ((kL p true).map fun t=>(ZI p t:Int))
noncomputable def QEE (p:Qd):List Int:=if kE p true=0 then acc (fun s:Nat=>if (kL p true).all (QAA p s) then [(s:Int)] else []) 100 else []
noncomputable def qZ (p:Qd):List Int:=if kE p true=0 then acc (fun at_:Nat=>if (kL p true).all (fun t=>QC p ((XB p (Qr t.ends)).getD at_ 0) t) then [] else [(at_:Int)]) (ZO p.chain.deeds).toNat else []
noncomputable def VG (p:Qd) (n:Int):List Int:=Z1 ((kL p (Q0 p n)).map fun t=>QF p n.toNat (Qr t.ends)) 0 12
theorem QBE {p:Qd} {is:Bool} {t:QI} (h:t∈kL p is):OkP p/\is=true:=by
 unfold kL at h
 grind
include hK
theorem QvW (p:Qd) (link:Int) (hf:QmO p):Ev.Good Tryz.prog K 210 [prV p,.int .i64 link] (.tup [.int .i64 (rProved p link),.int .i64 (kE p (Jm p link))]):=by
 refine Qb hK Qza (by simp) ?_
 simp;refine cK (Qoh hK p.chain link hf.small.deeds) ?_;have hl:decide (inR link 0 ((Xr Q5 p.chain.deeds 0).length-1))=Jm p link:=rfl;rw[hl];simp;refine cK (J9 hK p (Jm p link) hf.small hf.sets) ?_;have hn:=Qc2 hf (Jm p link);unfold rProved;by_cases he:kE p (Jm p link)=0
 ·have hp:=(X5 he).1
  have hft:∀ t∈kL p (Jm p link),Fit p t:=Qby
  generalize kL p (Jm p link)=l at *;simp[he]
  refine Qe (fun i=>[(1,AV.iv (.int .i64 link)),(2,AV.iv (.ptr [Qp p.chain.deeds,Qh p.chain.sights,.int .i64 p.chain.wrong,Qq p.machine.levers,.int .i64 p.machine.water,.int .i64 p.machine.llo,.int .i64 p.machine.lhi,Ze p.machine.bals,.int .i64 p.machine.wrong,Q4 p.trials,.int .i64 p.need,.int .i64 p.rule])),(6,AV.iv (.sl 3 (l.map tuC))),(8,AV.iv (IV.int IntKind.i64 ((l.take i).countP (QC p link):Nat))),(9,AV.iv (IV.int IntKind.i64 (i:Nat)))])
   (fun _=>[]) l.length (fun i=>True) trivial ?_ ?_
  ·intro _
   rw[Qa QjH.eq_1];simp;intros;refine cK (QhY hK _ _) ?_;simp
  ·intro i hi _ ih
   have hle:=QKI (p:=QC p link) (l:=l.take i);simp at hle;rw[QKf hi,QKV] at ih;rw[Qa QjH.eq_1];simp[hi] at ih |-;intros;refine cK (QhX hK p link l[i] hp (hft _ (QKj hi))) ?_;cases hr:QC p link l[i]
   ·simp[hr] at ih |-
    grind
   ·simp[hr] at ih |-
    grind
 ·simp[he]
theorem QvX (p:Qd) (hf:QmO p):Ev.Good Tryz.prog K 209 [prV p] (.tup [.int .i64 (rCond p),.int .i64 (kE p true)]):=by
 refine Qb hK Qzb (by simp) ?_
 simp;refine cK (J9 hK p true hf.small hf.sets) ?_;have hn:=Qc2 hf true;unfold rCond;by_cases he:kE p true=0
 ·have hp:=(X5 he).1
  have hft:∀ t∈kL p true,Fit p t:=Qby
  generalize kL p true=l at *;simp[he]
  refine Qe (fun i=>[(1,AV.iv (.ptr [Qp p.chain.deeds,Qh p.chain.sights,.int .i64 p.chain.wrong,Qq p.machine.levers,.int .i64 p.machine.water,.int .i64 p.machine.llo,.int .i64 p.machine.lhi,Ze p.machine.bals,.int .i64 p.machine.wrong,Q4 p.trials,.int .i64 p.need,.int .i64 p.rule])),(4,AV.iv (.sl 3 (l.map tuC))),(6,AV.iv (IV.int IntKind.i64 ((l.take i).countP (fun t=>decide (p.rule<=(ZI p t:Int))):Nat))),(7,AV.iv (IV.int IntKind.i64 (i:Nat)))])
   (fun _=>[]) l.length (fun i=>True) trivial ?_ ?_
  ·intro _
   rw[Qa QjI.eq_1];simp;intros;refine cK (QhY hK _ _) ?_;simp
  ·intro i hi _ ih
   have hle:=QKI (p:=fun t=>decide (p.rule<=(ZI p t:Int))) (l:=l.take i)
   simp at hle;rw[QKf hi,QKV] at ih;rw[Qa QjI.eq_1];simp[hi] at ih |-;intros;refine cK (Qei hK p l[i] hp (hft _ (QKj hi))) ?_;by_cases hr:p.rule<=(ZI p l[i]:Int)
   ·simp[hr] at ih |-
    grind
   ·simp[hr] at ih |-
    grind
 ·simp[he]
theorem QvU (p:Qd) (hf:QmO p) (hn:(kL p true).length<=100000):Ev.Good Tryz.prog K 212 [prV p] (.tup [.int .i64 (rGood p),.int .i64 (kE p true)]):=by
 refine Qb hK Qy8 (by simp) ?_
 simp;refine cK (J9 hK p true hf.small hf.sets) ?_;unfold rGood;by_cases he:kE p true=0
 ·have hp:=(X5 he).1
  simp[he];refine cK (Qvt hK p (kL p true) hp Qby hn) ?_;simp
 ·simp[he]
theorem QvT (p:Qd) (hf:QmO p):Ev.Good Tryz.prog K 213 [prV p] (.tup [.int .i64 (Ye p).1,.int .i64 (Ye p).2]):=by
 refine Qb hK Qy7 (by simp) ?_
 simp;refine cK (J9 hK p true hf.small hf.sets) ?_;have hn:=Qc2 hf true;unfold Ye Y7;by_cases he:kE p true=0
 ·have hp:=(X5 he).1
  have hft:∀ t∈kL p true,Fit p t:=Qby
  generalize kL p true=l at *;simp[he]
  refine Qe (fun i=>[(1,AV.iv (.ptr [Qp p.chain.deeds,Qh p.chain.sights,.int .i64 p.chain.wrong,Qq p.machine.levers,.int .i64 p.machine.water,.int .i64 p.machine.llo,.int .i64 p.machine.lhi,Ze p.machine.bals,.int .i64 p.machine.wrong,Q4 p.trials,.int .i64 p.need,.int .i64 p.rule])),(4,AV.iv (.sl 3 (l.map tuC))),(6,AV.iv (IV.int IntKind.i64 ((l.take i).foldl (fun b t=>min b (Uk p t)) 999999999))),(7,AV.iv (IV.int IntKind.i64 (i:Nat)))])
   (fun _=>[]) l.length (fun i=>True) trivial ?_ ?_
  ·intro _
   rw[Qa QjE.eq_1];rw[QKn];generalize l.foldl (fun b t=>min b (Uk p t)) 999999999=W
   by_cases hw:W<0
   ·simp[hw]
   ·simp[hw]
  ·intro i hi _ ih
   rw[QKf hi,QLh] at ih;rw[Qa QjE.eq_1];generalize (l.take i).foldl (fun b t=>min b (Uk p t)) 999999999=W at *
   simp[hi] at ih |-;intros;refine cK (Qvs hK p l[i] hp (hft _ (QKj hi))) ?_;simp[Vo]
   grind
 ·simp[he]
theorem QvY (p:Qd) (hf:QmO p):Ev.Good Tryz.prog K 207 [prV p] (.tup [.agg [.int .i64 (rFail p).1,.int .i64 (rFail p).2],.int .i64 (kE p true)]):=by
 refine Qb hK Qzd (by simp) ?_
 simp;refine cK (J9 hK p true hf.small hf.sets) ?_;have hn:=Qc2 hf true;have hft:∀ t∈kL p true,Fit p t:=Qby
 have hok:∀ t∈kL p true,OkP p:=fun t h=>(QBE h).1
 unfold rFail;generalize kL p true=l at *;simp
 refine Qe (fun i=>[(1,AV.iv (.ptr [Qp p.chain.deeds,Qh p.chain.sights,.int .i64 p.chain.wrong,Qq p.machine.levers,.int .i64 p.machine.water,.int .i64 p.machine.llo,.int .i64 p.machine.lhi,Ze p.machine.bals,.int .i64 p.machine.wrong,Q4 p.trials,.int .i64 p.need,.int .i64 p.rule])),(2,AV.loc 2 0),(4,AV.iv (.sl 3 (l.map tuC))),(5,AV.iv (.int .i64 (kE p true))),(6,AV.loc 6 0),(7,AV.iv (IV.int IntKind.i64 (i:Nat)))])
  (fun i=>[(2,AO.box [.iv (.int .i64 0),.iv (.int .i64 0)]),(6,AO.box [.iv (.int .i64 (span ((l.take i).map fun t=>(ZI p t:Int))).1),.iv (.int .i64 (span ((l.take i).map fun t=>(ZI p t:Int))).2)])]) l.length (fun i=>True) trivial ?_ ?_
 ·intro _
  rw[Qa QjJ.eq_1];simp
 ·intro i hi _ ih
  have hp:=hok _ (QKj hi);have hle:=Qez p l[i];have hle2:=hp.trialsLen;rw[QKf hi,QKy,QLf,Jy] at ih;rw[Qa QjJ.eq_1];by_cases h0:i=0
  ·subst h0
   simp[hi] at ih |-
   (repeat' first | omega | (with_reducible apply And.intro) | intro _)
   refine cK (Qei hK p l[0] hp (hft _ (QKj hi))) ?_;simp;omega
  ·have hne:¬ (l.take i).map (fun t=>(ZI p t:Int))=[]:=by
    intro c;have hli:((l.take i).map fun t=>(ZI p t:Int)).length=i:=by simp;omega
    grind
   have h0':¬ (i:Int)=0:=by omega
   rw[if_neg hne] at ih;generalize span ((l.take i).map fun t=>(ZI p t:Int))=S at *
   simp[hi] at ih |-
   (repeat' first | omega | (with_reducible apply And.intro) | intro _)
   refine cK (Qei hK p l[i] hp (hft _ (QKj hi))) ?_;simp[h0,h0',Vo,Un]
   grind
theorem QvV (p:Qd) (hf:QmO p):Ev.Good Tryz.prog K 211 [prV p] (.tup [Qt (qZ p),.int .i64 (kE p true)]):=by
 refine Qb hK Qy9 (by simp) ?_
 simp;refine cK (J9 hK p true hf.small hf.sets) ?_;have hn:=Qc2 hf true;unfold qZ;by_cases he:kE p true=0
 ·have hp:=(X5 he).1
  have hdl:=hp.deedsLen;have hft:∀ t∈kL p true,Fit p t:=Qby
  generalize kL p true=l at *;have hpl:∀ s:Nat,((fun at_:Nat=>if l.all (fun t=>QC p ((XB p (Qr t.ends)).getD at_ 0) t) then [] else [(at_:Int)]) s).length<=1:=fun s=>by grind
  have hcn:=hp.chain.deeds.cnt p.chain.deeds.length (QKl _) (QKl _);have hleft:ZO p.chain.deeds=cnt p.chain.deeds p.chain.deeds.length:=rfl;have hlt:ZO p.chain.deeds<=12/\0<=ZO p.chain.deeds:=by omega
  have hnl:∀ e,((XB p e).length:Int)=ZO p.chain.deeds:=fun e=>ZP e hp.chain.deeds _ (QKl _) (QKl _)
  obtain ⟨pc,hpc⟩:∃ pc:Nat->List Int,pc=fun at_:Nat=>if l.all (fun t=>QC p ((XB p (Qr t.ends)).getD at_ 0) t) then [] else [(at_:Int)]:=⟨_,rfl⟩
  rw[<- hpc] at hpl |-;simp[he]
  refine Qe (fun i=>[(1,AV.iv (.ptr [Qp p.chain.deeds,Qh p.chain.sights,.int .i64 p.chain.wrong,Qq p.machine.levers,.int .i64 p.machine.water,.int .i64 p.machine.llo,.int .i64 p.machine.lhi,Ze p.machine.bals,.int .i64 p.machine.wrong,Q4 p.trials,.int .i64 p.need,.int .i64 p.rule])),(4,AV.iv (.sl 3 (l.map tuC))),(6,AV.aref 6 (acc pc i).length),(7,AV.iv (IV.int IntKind.i64 (i:Nat)))])
   (fun i=>[(6,AO.arr 3 1 (emb ((acc pc i).map fun n=>[.int .i64 n])) 0)]) (ZO p.chain.deeds).toNat (fun i=>True) trivial ?_ ?_
  ·intro _
   rw[Qa QjF.eq_1];simp;refine cK (Qh2 hK p.chain _ hp.chain.deeds (by omega)) ?_
   have:¬ inR (max (ZO p.chain.deeds) 0) 0 (ZO p.chain.deeds-1):=by simp only[inR];omega
   simp[this]
  ·intro i hi _ ih
   have hlen:=Yo pc 1 hpl i;have hi':inR (i:Int) 0 (ZO p.chain.deeds-1):=by simp only[inR];omega
   rw[ZK pc i] at ih;rw[Qa QjF.eq_1];generalize acc pc i=T at *;simp;refine cK (Qh2 hK p.chain i hp.chain.deeds (by omega)) ?_
   simp[hi']
   refine Qe (fun k=>[(1,AV.iv (.ptr [Qp p.chain.deeds,Qh p.chain.sights,.int .i64 p.chain.wrong,Qq p.machine.levers,.int .i64 p.machine.water,.int .i64 p.machine.llo,.int .i64 p.machine.lhi,Ze p.machine.bals,.int .i64 p.machine.wrong,Q4 p.trials,.int .i64 p.need,.int .i64 p.rule])),(4,AV.iv (.sl 3 (l.map tuC))),(6,AV.aref 6 T.length),(7,AV.iv (IV.int IntKind.i64 (i:Nat))),(8,AV.iv (.bool ((l.take k).all fun t=>QC p ((XB p (Qr t.ends)).getD i 0) t))),(9,AV.iv (IV.int IntKind.i64 (k:Nat)))])
    (fun k=>[(6,AO.arr 3 1 (emb (T.map fun n=>[.int .i64 n])) 0)]) l.length (fun i=>True) trivial ?_ ?_
   ·intro _
    rw[Qa QjG.eq_1];rw[QKn];have hpi:pc i=if l.all (fun t=>QC p ((XB p (Qr t.ends)).getD i 0) t) then [] else [(i:Int)]:=by rw[hpc]
    rw[hpi] at ih;generalize l.all (fun t=>QC p ((XB p (Qr t.ends)).getD i 0) t)=hal at *
    cases hal
    ·simp at ih |-
     grind
    ·simp at ih |-
     grind
   ·intro k hk _ ih
    have hs:((l.take (k+1)).all fun t=>QC p ((XB p (Qr t.ends)).getD i 0) t)=(((l.take k).all fun t=>QC p ((XB p (Qr t.ends)).getD i 0) t)&&QC p ((XB p (Qr l[k].ends)).getD i 0) l[k]):=by
     rw[QKf hk,List.all_append];simp
    rw[hs] at ih;rw[Qa QjG.eq_1];generalize ((l.take k).all fun t=>QC p ((XB p (Qr t.ends)).getD i 0) t)=hal at *
    have hnk:=hnl (Qr l[k].ends);have hik:i<(XB p (Qr l[k].ends)).length:=by omega
    have hgk:(XB p (Qr l[k].ends)).getD i 0=(XB p (Qr l[k].ends))[i]:=by grind
    rw[hgk] at ih;have hnow:XB p (Qr l[k].ends)=cab p.chain.deeds (Qr l[k].ends) p.chain.deeds.length:=rfl;cases hal
    ·simp[hk] at ih |-
     grind
    ·simp[hk] at ih |-
     (repeat' first | omega | (with_reducible apply And.intro) | intro _)
     refine cK (QbJ hK p.chain l[k].ends hp.chain.deeds (by omega) (hft _ (QKj hk)).ends) ?_
     rw[<- hnow];simp[hik,hk];refine cK (QhX hK p (XB p (Qr l[k].ends))[i] l[k] hp (hft _ (QKj hk))) ?_;simp
     grind
 ·simp[he]
theorem Qv0 (p:Qd) (n:Int) (hf:QmO p):Ev.Good Tryz.prog K 205 [prV p,.int .i64 n] (.tup [Qt (VG p n),.int .i64 (kE p (Q0 p n))]):=by
 refine Qb hK Qzf (by simp) ?_
 simp;refine cK (Qof hK p n hf.small.trials) ?_;have htb:decide (inR n 0 (p.trials.length-1))=Q0 p n:=rfl;rw[htb];simp;refine cK (J9 hK p (Q0 p n) hf.small hf.sets) ?_;have hn:=Qc2 hf (Q0 p n);have hft:∀ t∈kL p (Q0 p n),Fit p t:=Qby
 have hok:∀ t∈kL p (Q0 p n),OkP p/\Q0 p n=true:=fun t h=>QBE h
 unfold VG;generalize kL p (Q0 p n)=l at *;generalize kE p (Q0 p n)=er at *;obtain ⟨Pf,hP0,hPs,hPn,hPl⟩:=QdY (fun t=>QF p n.toNat (Qr t.ends)) l
 rw[<- hPn];simp;have e0:AO.arr 3 1 [] 0=AO.arr 3 1 (emb ((Pf 0).map fun n=>[.int .i64 n])) 0:=by rw[hP0];rfl
 rw[e0]
 refine Qe (fun i=>[(1,AV.iv (.int .i64 n)),(2,AV.iv (.ptr [Qp p.chain.deeds,Qh p.chain.sights,.int .i64 p.chain.wrong,Qq p.machine.levers,.int .i64 p.machine.water,.int .i64 p.machine.llo,.int .i64 p.machine.lhi,Ze p.machine.bals,.int .i64 p.machine.wrong,Q4 p.trials,.int .i64 p.need,.int .i64 p.rule])),(6,AV.iv (.sl 3 (l.map tuC))),(7,AV.iv (.int .i64 er)),(8,AV.aref 8 i),(9,AV.iv (IV.int IntKind.i64 (i:Nat)))])
  (fun i=>[(8,AO.arr 3 1 (emb ((Pf i).map fun n=>[.int .i64 n])) 0)]) l.length (fun i=>True) trivial ?_ ?_
 ·intro _
  have hl:=hPl l.length (QKl _);rw[Qa QjK.eq_1];have htk:((Pf l.length).map fun n=>[IV.int IntKind.i64 n]).take l.length=(Pf l.length).map fun n=>[IV.int IntKind.i64 n]:=QKi (by simp[hl])
  simp[hl,htk]
  (repeat' first | omega | (with_reducible apply And.intro) | intro _)
  refine cK (Qh1 hK (Pf l.length) 0 12 (by omega) (by omega) (by omega)) ?_
  simp
 ·intro i hi _ ih
  have hok1:=hok _ (QKj hi);have hl:=hPl i (by omega)
  have hnr:=of_decide_eq_true hok1.2;simp only[inR] at hnr;have hnt:((n.toNat:Nat):Int)=n:=by omega
  rw[hPs i hi] at ih;rw[Qa QjK.eq_1];simp[hi,hl] at ih |-
  (repeat' first | omega | (with_reducible apply And.intro) | intro _)
  have hg:=QhZ hK p n.toNat l[i].ends hok1.1 (by omega) (hft _ (QKj hi)).ends
  rw[hnt] at hg;refine cK hg ?_;simp[hl]
  grind
end Go.Pf
namespace Go.Ev
theorem QnB {P:Program} {K:World->Prop} {F:Way->Env->Qw->Prop} {c:AC} {ks ids:List Nat} {k:List AI} {S:Type} (st:S->Env) (so:S->Qw) (I:S->Prop) (μ:S->Nat)
  (h:∀ s,I s->(∀ s',I s'->μ s'<μ s->Yx P K F c ks ids k (st s') (so s'))->Yx P K F c ks ids k (st s) (so s)):∀ s,I s->Yx P K F c ks ids k (st s) (so s):=by
 have:∀ n s,μ s<n->I s->Yx P K F c ks ids k (st s) (so s):=by
  intro n
  induction n with
  | _=>grind
 grind
end Go.Ev
namespace Go.Pf
open Go Go.Ev Go.Proofs Go.RowKit
variable {K:World->Prop} (hK:∀ w w',K w->Below w.heap.size w w'->K w')
set_option maxRecDepth 8000
theorem U7:∀ (r:List ZE) (s:List Int),s∈Q2 r->s.length=r.length
 | [],s,h=>by simp[Q2] at h;simp[h]
 | l::r,s,h=>by
   simp only[Q2,acc,QKY,QKt] at h;obtain ⟨i,_,x,hx,rfl⟩:=h;simp[U7 r x hx]
theorem qG:∀ (r:List ZE) (s:List Int),s∈Q2 r->∀ i (h:i<r.length) (h':i<s.length),inR s[i] r[i].lo r[i].hi
 | [],s,h,i,hi,_=>by simp at hi
 | l::r,s,h,i,hi,hi'=>by
   simp only[Q2,acc,QKY,QKt,QKO] at h;obtain ⟨j,hj,x,hx,rfl⟩:=h;cases i with
   | zero=>simp only[QLr,inR];omega
   | succ i=>simp only[List.getElem_cons_succ];exact qG r x hx i (by simpa using hi) (by simpa using hi')
theorem QcK {m:Machine} {s:Qm} (h:s∈QM m [] m.levers):okS m s:=by
 simp only[QM,QKY,QKt,QKO,QKx] at h;obtain ⟨x,hx,k,hk,rfl⟩:=h;exact ⟨U7 _ _ hx,by simp only[inR];omega,qG _ _ hx⟩
theorem Vz (m:Machine) (first:List Int) (l:ZE) (r:List ZE):QM m first (l::r)=acc (fun i=>QM m (first++[l.lo+(i:Nat)]) r) (l.hi+1-l.lo).toNat:=by
 simp only[QM,Q2,acc,List.flatMap_assoc]
 congr 1
 funext i
 simp[List.flatMap_map]
def qQ (m:Machine) (first:List Int) (k:Nat):List Qm:=[⟨first,m.llo+k⟩]
theorem QaT (m:Machine) (first:List Int):QM m first []=acc (qQ m first) (m.lhi+1-m.llo).toNat:=by
 simp only[QM,Q2,acc,QLi,List.flatMap_nil,QKv];generalize (m.lhi+1-m.llo).toNat=n
 induction n with
 | zero=>rfl
 | succ n ih=>rw[QKU,QKy,ih,QLU];rfl
theorem UJ (m:Machine):∀ (rest:List ZE) (first:List Int),(∀ l∈rest,1<=Zo l)->1<=m.lhi-m.llo+1->((QM m first rest).length:Int)<=(m.lhi-m.llo+1)*QG Zo rest
 | [],first,_,h=>by
   simp[QM,Q2,QG];omega
 | l::r,first,hs,h=>by
   rw[Vz];have ih:=fun e:Int=>UJ m r (first++[e]) (fun l hl=>hs l (by simp[hl])) h
   have hl:=hs l (by simp)
   have hp:=Yg Zo r fun l hl=>hs l (by simp[hl])
   have hpp:=QK8 (a:=m.lhi-m.llo+1) (b:=QG Zo r) (by omega) (by omega)
   have h1:=Yo (fun i=>QM m (first++[l.lo+(i:Nat)]) r) ((m.lhi-m.llo+1)*QG Zo r).toNat (fun i=>by grind) (l.hi+1-l.lo).toNat
   have e1:((l.hi+1-l.lo).toNat:Int)=Zo l:=by unfold Zo at *;omega
   have e2:(((m.lhi-m.llo+1)*QG Zo r).toNat:Int)=(m.lhi-m.llo+1)*QG Zo r:=by omega
   have h2:=Int.ofNat_le.2 h1;rw[Int.natCast_mul,e1,e2] at h2;simp only[QG]
   grind
noncomputable def tL (m:Machine) (is:Bool):List Qm:=if OkM m/\is=true then QO m [] m.levers else []
noncomputable def tE (m:Machine) (is:Bool):Int:=if OkM m then (if is=true then (if QO m [] m.levers=[] then 3 else 0) else 1) else 30
theorem QtP {m:Machine} {is:Bool} {s:Qm} (h:s∈tL m is):OkM m/\is=true/\okS m s:=by
 unfold tL at h;split at h
 ·rename_i h1
  exact ⟨h1.1,h1.2,(JT h).1⟩
 ·cases h
def JN (w mn load:Int):Bool:=decide (inR w 0 9999/\inR mn 0 99/\inR load 0 999999999)
def Wm (m:Machine) (w mn:Int) (s:Qm):Int:=(num m s w mn).tdiv (den s)
def upS (m:Machine) (w mn:Int) (s:Qm):Int:=(num m s w mn+den s-1).tdiv (den s)
noncomputable def XM (m:Machine) (w mn:Int):Int × Int:=((span ((tL m (JN w mn 0)).map (Wm m w mn))).1,(span ((tL m (JN w mn 0)).map (upS m w mn))).2)
include hK
theorem Qn7 (m:Machine) (hm:OkM m) (hs:sets m m.levers.length<=1000000):∀ (n:Nat) (first:List Int),first.length+n=m.levers.length->Ev.Good Tryz.prog K 317 [maV m,Qt first] (.sl 2 ((QM m first (m.levers.drop first.length)).map seC))
 | 0,first,hn=>by
   refine Qb hK QpL (by simp) ?_
   have e1:m.levers.drop first.length=[]:=QKM (by omega)
   have e2:first.length=m.levers.length:=by omega
   have hlk:=hm.leak;have hlh:=hm.lhi;simp only[inR] at hlk;rw[e1,QaT];simp[e2]
   (repeat' first | omega | (with_reducible apply And.intro) | intro _)
   have e0:AV.iv (IV.int .i64 m.llo)=AV.iv (.int .i64 (m.llo+((0:Nat):Int))):=by simp
   rw[e0]
   refine Qe (fun i=>[(1,AV.iv (Qt first)),(2,AV.iv (.ptr [Qq m.levers,.int .i64 m.water,.int .i64 m.llo,.int .i64 m.lhi,Ze m.bals,.int .i64 m.wrong])),(5,AV.aref 5 (acc (qQ m first) i).length),(6,AV.iv (IV.int IntKind.i64 (m.llo+(i:Nat))))])
    (fun i=>[(5,AO.arr 287 2 (emb ((acc (qQ m first) i).map seC)) 0)]) (m.lhi+1-m.llo).toNat (fun i=>True) trivial ?_ ?_
   ·intro _
    have q1:m.llo+((m.lhi+1-m.llo).toNat:Int)=m.lhi+1:=by omega
    have q2:¬ m.lhi+1<=m.lhi:=by omega
    rw[q1,Qa QiO.eq_1];simp[q2]
   ·intro i hi _ hh
    have q1:m.llo+(i:Int)<=m.lhi:=by omega
    have q3:m.llo+((i:Int)+1)=m.llo+i+1:=by omega
    have hlen:=Yo (qQ m first) 1 (fun k=>by simp[qQ]) i
    rw[ZK _ i] at hh;rw[Qa QiO.eq_1];have hp:qQ m first i=[⟨first,m.llo+i⟩]:=rfl
    rw[hp] at hh;simp[q1,q3] at hh |-
    grind
 | n+1,first,hn=>by
   have ih:=Qn7 m hm hs n;refine Qb hK QpL (by simp) ?_
   have hlt:first.length<m.levers.length:=by omega
   have hne:¬ (first.length:Int)=m.levers.length:=by omega
   have hl:=hm.len;have e1:m.levers.drop first.length=m.levers[first.length]::m.levers.drop (first.length+1):=QKG hlt
   have hlv:=hm.lever (QKj hlt);rw[e1,Vz];have hbI:=Qfj hm (first.length+1)
   have hlk:=hm.leak;simp only[inR] at hlk
   have hbs:∀ i:Nat,((fun i:Nat=>QM m (first++[m.levers[first.length].lo+(i:Nat)]) (m.levers.drop (first.length+1))) i).length<=1000000:=fun i=>by
    have:=UJ m (m.levers.drop (first.length+1)) (first++[m.levers[first.length].lo+(i:Nat)]) (fun l hl=>(hm.span (QK2 hl)).1) (by omega)
    grind
   have ih2:∀ i:Nat,Ev.Good Tryz.prog K 317 [maV m,Qt (first++[m.levers[first.length].lo+(i:Int)])] (.sl 2 (((fun i:Nat=>QM m (first++[m.levers[first.length].lo+(i:Nat)]) (m.levers.drop (first.length+1))) i).map seC)):=fun i=>by
    grind
   generalize (fun i:Nat=>QM m (first++[m.levers[first.length].lo+(i:Nat)]) (m.levers.drop (first.length+1)))=pc at *
   simp[hne,hlt]
   (repeat' first | omega | (with_reducible apply And.intro) | intro _)
   have e0:AV.iv (IV.int .i64 m.levers[first.length].lo)=AV.iv (.int .i64 (m.levers[first.length].lo+((0:Nat):Int))):=by simp
   rw[e0]
   refine Qe (fun i=>[(1,AV.iv (Qt first)),(2,AV.iv (.ptr [Qq m.levers,.int .i64 m.water,.int .i64 m.llo,.int .i64 m.lhi,Ze m.bals,.int .i64 m.wrong])),(5,AV.aref 5 (acc pc i).length),(7,AV.loc 7 0),(8,AV.iv (IV.int IntKind.i64 (m.levers[first.length].lo+(i:Nat))))])
    (fun i=>[(5,AO.arr 287 2 (emb ((acc pc i).map seC)) 0),(7,AO.box [.iv (.int .i64 (m.levers[first.length].lo+((0:Nat):Int))),.iv (.int .i64 m.levers[first.length].hi)])]) (m.levers[first.length].hi+1-m.levers[first.length].lo).toNat (fun i=>True) trivial ?_ ?_
   ·intro _
    have q1:m.levers[first.length].lo+((m.levers[first.length].hi+1-m.levers[first.length].lo).toNat:Int)=m.levers[first.length].hi+1:=by omega
    have q2:¬ m.levers[first.length].hi+1<=m.levers[first.length].hi:=by omega
    rw[q1,Qa QiN.eq_1];simp[q2]
   ·intro i hi _ hh
    have q1:m.levers[first.length].lo+(i:Int)<=m.levers[first.length].hi:=by omega
    have q3:m.levers[first.length].lo+((i:Int)+1)=m.levers[first.length].lo+i+1:=by omega
    have hlen:=Yo pc 1000000 hbs i;have hbi:=hbs i;have hg:=ih2 i;rw[ZK pc i] at hh;rw[Qa QiN.eq_1];simp[q1,q3] at hh |-
    (repeat' first | omega | (with_reducible apply And.intro) | intro _)
    refine Vg [some (maV m),none] (by simp) (rows:=(first++[m.levers[first.length].lo+(i:Int)]).map fun n=>[.int .i64 n]) (n:=first.length+1) (sz:=1) (et:=3) (mv:=0) (r:=.sl 2 ((pc i).map seC)) ?_ (by simp) (by simp[Qc]) (by simp) (by simp) ?_
    ·have:((first++[m.levers[first.length].lo+(i:Int)]).map fun n=>[IV.int IntKind.i64 n]).take (first.length+1)=(first++[m.levers[first.length].lo+(i:Int)]).map fun n=>[IV.int IntKind.i64 n]:=QKi (by simp)
     rw[this];exact hg
    ·simp[-List.map_map,Qu,QE,QB,Ql]
     grind
theorem Qrn (m:Machine) (hm:OkM m) (hs:sets m m.levers.length<=1000000):Ev.Good Tryz.prog K 317 [maV m,.sl 1 []] (.sl 2 ((QM m [] m.levers).map seC)):=by
 have:=Qn7 hK m hm hs m.levers.length [] (by simp)
 simpa using this
theorem Qog (m:Machine) (is:Bool) (hl:m.levers.length<=1000) (hb:m.bals.length<=1000) (hs:OkM m->sets m m.levers.length<=1000000):Ev.Good Tryz.prog K 265 [maV m,.bool is] (.tup [.sl 2 ((tL m is).map seC),.int .i64 (tE m is)]):=by
 refine Qb hK Qyy (by simp) ?_
 simp;refine cK (Qn1 hK m hl hb) ?_;by_cases h1:OkM m
 ·cases is
  ·simp[h1,tL,tE]
  ·simp[h1]
   refine cK (Qrn hK m h1 (hs h1)) ?_;simp;have hok:∀ s∈QM m [] m.levers,okS m s:=fun s h=>QcK h
   have hlk:=h1.leak;simp only[inR] at hlk;have hn:=UJ m m.levers [] (fun l hl=>(h1.span hl).1) (by omega)
   have hn2:=hs h1;unfold sets at hn2;rw[QKn] at hn2;have hsl:QO m [] m.levers=(QM m [] m.levers).filter fun s=>decide (X6 m s):=rfl
   have htE:tE m true=if QO m [] m.levers=[] then 3 else 0:=by simp[tE,h1]
   have htL:tL m true=QO m [] m.levers:=by simp[tL,h1]
   rw[htE,htL,hsl];generalize QM m [] m.levers=A at *
   refine Qe (fun i=>[(2,AV.iv (.ptr [Qq m.levers,.int .i64 m.water,.int .i64 m.llo,.int .i64 m.lhi,Ze m.bals,.int .i64 m.wrong])),(7,AV.aref 7 ((A.take i).filter fun s=>decide (X6 m s)).length),(8,AV.iv (.sl 2 (A.map seC))),(9,AV.iv (IV.int IntKind.i64 (i:Nat)))])
    (fun i=>[(7,AO.arr 287 2 (emb (((A.take i).filter fun s=>decide (X6 m s)).map seC)) 0)]) A.length (fun i=>True) trivial ?_ ?_
   ·intro _
    rw[Qa Qjk.eq_1];rw[QKn];generalize (A.filter fun s=>decide (X6 m s))=T
    by_cases hT:T=[]
    ·simp[hT]
    ·have hT':¬ T.length=0:=by simpa using hT
     simp[hT,hT']
   ·intro i hi _ ih
    have hle:=QKD (fun s=>decide (X6 m s)) (A.take i)
    have hwl:=W0 m m.bals A[i];simp at hle;rw[QKf hi,QLj] at ih;rw[Qa Qjk.eq_1];have hoki:=hok _ (QKj hi);generalize ((A.take i).filter fun s=>decide (X6 m s))=T at *
    by_cases hr:(ZL m m.bals A[i]:Int)<=m.wrong
    ·have hi2:X6 m A[i]:=⟨hoki,hr⟩
     simp[hi,hi2] at ih |-;intros;refine cK (QhT hK m A[i] h1 hoki) ?_;simp[hr,hi]
     grind
    ·have hi2:¬ X6 m A[i]:=fun h=>hr h.2
     simp[hi,hi2] at ih |-;intros;refine cK (QhT hK m A[i] h1 hoki) ?_;simp[hr,hi]
     grind
 ·simp[h1,tL,tE]
theorem Qh0 (a b:Int) (h1:0<=a/\a<=19998000000000) (h2:1<=b/\b<=1000000000):Ev.Good Tryz.prog K 267 [.int .i64 a,.int .i64 b] (.int .i64 ((a+b-1).tdiv b)):=by
 refine Qb hK Qyw (by simp) ?_
 have htd:=Jj (a:=a+b-1) (b:=b) (by omega) (by omega)
 have hb:¬ b=0:=by omega
 simp[hb];omega
theorem Qom (m:Machine) (w mn:Int) (hl:m.levers.length<=1000) (hb:m.bals.length<=1000) (hs:OkM m->sets m m.levers.length<=1000000) :
  Ev.Good Tryz.prog K 204 [maV m,.int .i64 w,.int .i64 mn] (.tup [.agg [.int .i64 (XM m w mn).1,.int .i64 (XM m w mn).2],.int .i64 (tE m (JN w mn 0))]):=by
 refine Qb hK Qzg (by simp) ?_
 simp;refine cK (Qgj hK w mn 0) ?_;have hask:decide (inR w 0 9999/\inR mn 0 99/\inR 0 0 999999999)=JN w mn 0:=rfl;rw[hask];simp;refine cK (Qog hK m (JN w mn 0) hl hb hs) ?_;have hok:∀ s∈tL m (JN w mn 0),OkM m/\JN w mn 0=true/\okS m s:=fun s h=>QtP h
 unfold XM;generalize tL m (JN w mn 0)=l at *;generalize tE m (JN w mn 0)=er at *;simp
 refine Qe (fun i=>[(1,AV.iv (.int .i64 w)),(2,AV.iv (.int .i64 mn)),(3,AV.iv (.ptr [Qq m.levers,.int .i64 m.water,.int .i64 m.llo,.int .i64 m.lhi,Ze m.bals,.int .i64 m.wrong])),(6,AV.loc 6 0),(8,AV.iv (.sl 2 (l.map seC))),(9,AV.iv (.int .i64 er)),(10,AV.loc 10 0),(11,AV.iv (IV.int IntKind.i64 (i:Nat)))])
  (fun i=>[(6,AO.box [.iv (.int .i64 0),.iv (.int .i64 0)]),(10,AO.box [.iv (.int .i64 (span ((l.take i).map (Wm m w mn))).1),.iv (.int .i64 (span ((l.take i).map (upS m w mn))).2)])]) l.length (fun i=>True) trivial ?_ ?_
 ·intro _
  rw[Qa QjL.eq_1];rw[QKn];generalize span (l.map (Wm m w mn))=A;generalize span (l.map (upS m w mn))=B;simp
 ·intro i hi _ ih
  obtain ⟨hm,ha,hsi⟩:=hok _ (QKj hi);have ha:=of_decide_eq_true ha;have hn:=hm.numB hsi ha.1 ha.2.1;have hd:=hm.denB hsi;have td1:=Jj hn.1 hd.1;have td2:=Jj (a:=num m l[i] w mn+den l[i]-1) (b:=den l[i]) (by omega) (by omega)
  have hd0:¬ den l[i]=0:=by omega
  rw[QKf hi,QKy,QLf,Jy,QKy,QLf,Jy] at ih;rw[Qa QjL.eq_1];have hlow:Wm m w mn l[i]=(num m l[i] w mn).tdiv (den l[i]):=rfl;have hup:upS m w mn l[i]=(num m l[i] w mn+den l[i]-1).tdiv (den l[i]):=rfl;by_cases h0:i=0
  ·subst h0
   simp[hi,hlow,hup] at ih |-
   (repeat' first | omega | (with_reducible apply And.intro) | intro _)
   refine cK (QbI hK m l[0] w mn hm hsi ha.1 ha.2.1) ?_;simp[hd0]
   (repeat' first | omega | (with_reducible apply And.intro) | intro _)
   refine cK (Qh0 hK (num m l[0] w mn) (den l[0]) hn hd) ?_;simp[hd0]
   (repeat' first | omega | (with_reducible apply And.intro) | intro _)
   refine cK (Qh0 hK (num m l[0] w mn) (den l[0]) hn hd) ?_;simp;omega
  ·have hne1:¬ (l.take i).map (Wm m w mn)=[]:=by
    intro c;have hli:((l.take i).map (Wm m w mn)).length=i:=by simp;omega
    grind
   have hne2:¬ (l.take i).map (upS m w mn)=[]:=by
    intro c;have hli:((l.take i).map (upS m w mn)).length=i:=by simp;omega
    grind
   have h0':¬ (i:Int)=0:=by omega
   rw[if_neg hne1,if_neg hne2] at ih;generalize span ((l.take i).map (Wm m w mn))=A at *;generalize span ((l.take i).map (upS m w mn))=B at *;simp[hi,hlow,hup] at ih |-
   (repeat' first | omega | (with_reducible apply And.intro) | intro _)
   refine cK (QbI hK m l[i] w mn hm hsi ha.1 ha.2.1) ?_;simp[hd0,h0,h0']
   (repeat' first | omega | (with_reducible apply And.intro) | intro _)
   refine cK (Qh0 hK (num m l[i] w mn) (den l[i]) hn hd) ?_;simp[Vo,Un]
   grind
theorem QvZ (p:Qd) (n:Int) (hf:QmO p):Ev.Good Tryz.prog K 206 [prV p,.int .i64 n] (.tup [.agg [.int .i64 (if kE p (Q0 p n)=0 then (XM p.machine (tr p n.toNat).weight (tr p n.toNat).mins).1 else 0),.int .i64 (if kE p (Q0 p n)=0 then (XM p.machine (tr p n.toNat).weight (tr p n.toNat).mins).2 else 0)],
   .int .i64 (if kE p (Q0 p n)=0 then tE p.machine (JN (tr p n.toNat).weight (tr p n.toNat).mins 0) else kE p (Q0 p n))]):=by
 refine Qb hK Qze (by simp) ?_
 simp;refine cK (Qof hK p n hf.small.trials) ?_;have htb:decide (inR n 0 (p.trials.length-1))=Q0 p n:=rfl;rw[htb];simp;refine cK (J9 hK p (Q0 p n) hf.small hf.sets) ?_;by_cases he:kE p (Q0 p n)=0
 ·obtain ⟨hp,hb,_⟩:=X5 he
  have hnr:=of_decide_eq_true hb;simp only[inR] at hnr;have hlt:n.toNat<p.trials.length:=by omega
  have hn0:((n.toNat:Nat):Int)=n:=by omega
  have hn1:0<=n:=by omega
  simp[he,hlt,YF hlt,hn1];refine cK (Qom hK p.machine (tr p n.toNat).weight (tr p n.toNat).mins hf.small.levers hf.small.bals (fun _=>hf.sets hp)) ?_
  simp
 ·simp[he]
theorem Qu4 (m:Machine) (s:Qm) (w mn load:Int) (hm:OkM m) (hs:okS m s) (hw:inR w 0 9999) (hmn:inR mn 0 99) (hld:inR load 0 999999999) :
  Ev.Good Tryz.prog K 366 [maV m,.agg (seC s),.int .i64 w,.int .i64 mn,.int .i64 load] (.bool (decide (load*den s<=num m s w mn))):=by
 refine Qb hK QxJ (by simp) ?_
 simp;refine cK (QbI hK m s w mn hm hs hw hmn) ?_;have h2:=hm.denB hs;simp only[inR] at hld;have h4:=QLa hld.2 h2.2 (by omega) (by omega)
 have h5:=QK8 hld.1 (QLL (by omega) h2.1)
 simp;omega
def ZD (m:Machine) (l:List Qm) (w mn load:Int):Prop:=∀ s∈l,load*den s<=num m s w mn
theorem Qve (m:Machine) (l:List Qm) (w mn load:Int) (hm:OkM m) (hs:∀ s∈l,okS m s) (hw:inR w 0 9999) (hmn:inR mn 0 99) (hld:inR load 0 999999999) (hn:l.length<=1000000) :
  Ev.Good Tryz.prog K 325 [maV m,.sl 2 (l.map seC),.int .i64 w,.int .i64 mn,.int .i64 load] (.int .i64 (l.countP fun s=>decide (load*den s<=num m s w mn))):=by
 refine Qb hK QxW (by simp) ?_
 simp
 refine Qe (fun i=>[(1,AV.iv (.sl 2 (l.map seC))),(2,AV.iv (.int .i64 w)),(3,AV.iv (.int .i64 mn)),(4,AV.iv (.int .i64 load)),(5,AV.iv (.ptr [Qq m.levers,.int .i64 m.water,.int .i64 m.llo,.int .i64 m.lhi,Ze m.bals,.int .i64 m.wrong])),(11,AV.iv (IV.int IntKind.i64 ((l.take i).countP (fun s=>decide (load*den s<=num m s w mn)):Nat))),(12,AV.iv (IV.int IntKind.i64 (i:Nat)))])
  (fun _=>[]) l.length (fun i=>True) trivial ?_ ?_
 ·intro _
  rw[Qa QiH.eq_1];simp
 ·intro i hi _ ih
  have hle:=QKI (p:=fun s=>decide (load*den s<=num m s w mn)) (l:=l.take i)
  simp at hle;rw[QKf hi,QKV] at ih;rw[Qa QiH.eq_1];simp[hi] at ih |-;intros;refine cK (Qu4 hK m l[i] w mn load hm (hs _ (QKj hi)) hw hmn hld) ?_;by_cases hr:load*den l[i]<=num m l[i] w mn
  ·simp[hr] at ih |-
   grind
  ·simp[hr] at ih |-
   grind
omit hK
theorem Qme (m:Machine) (leak w w' mn:Int) (h:w<=w'):Y2 m leak w mn<=Y2 m leak w' mn:=by unfold Y2;omega
theorem QqQ (m:Machine) (s:Qm) (w w' mn:Int) (hm:OkM m) (h:w<=w'):num m s w mn<=num m s w' mn:=by
 have h1:=hm.aboveB;exact QKL (Qme m s.leak w w' mn h) (by omega)
theorem QgX {m:Machine} {l:List Qm} {w w' mn load:Int} (hm:OkM m) (h:w<=w') (ha:ZD m l w mn load):ZD m l w' mn load:=fun s hs=>QLL (ha s hs) (QqQ m s w w' mn hm h)
noncomputable def Wp (m:Machine) (l:List Qm) (mn load:Int):Int:=open Classical in ((List.range 10000).findIdx fun (n:Nat)=>decide (ZD m l n mn load):Nat)
theorem Qf1 {m:Machine} {l:List Qm} {mn load r:Int} (h0:0<=r/\r<=10000) (h1:r<=9999->ZD m l r mn load) (h2:∀ w,0<=w->w<r->¬ ZD m l w mn load):Wp m l mn load=r:=by
 classical
 unfold Wp
 have hp:∀ n:Nat,n<10000->((List.range 10000).findIdx fun (n:Nat)=>decide (ZD m l n mn load))<=n\/¬ ZD m l n mn load:=by
  intro n hn;by_cases h:ZD m l n mn load
  ·left
   apply QLm.1;intro hlt;have:=List.not_of_lt_findIdx hlt;simp[h] at this
  ·exact .inr h
 have hl:((List.range 10000).findIdx fun (n:Nat)=>decide (ZD m l n mn load))<=10000:=by
  have:=List.findIdx_le_length (p:=fun (n:Nat)=>decide (ZD m l n mn load)) (xs:=List.range 10000)
  simpa using this
 have hg:((List.range 10000).findIdx fun (n:Nat)=>decide (ZD m l n mn load))<10000->ZD m l (((List.range 10000).findIdx fun (n:Nat)=>decide (ZD m l n mn load)):Nat) mn load:=by
  intro hlt;have:=List.findIdx_getElem (p:=fun (n:Nat)=>decide (ZD m l n mn load)) (xs:=List.range 10000) (w:=by simpa using hlt)
  simpa using this
 generalize ((List.range 10000).findIdx fun (n:Nat)=>decide (ZD m l n mn load))=q at *
 rcases Int.lt_trichotomy (q:Int) r with h | h | h
 ·grind
 ·exact h
 ·have hr:=h1 (by omega)
  rcases hp r.toNat (by omega) with h3 | h3
  all_goals grind
noncomputable def Xk (m:Machine) (mn load:Int):Int × Int:=if tE m (JN 0 mn load)=0 then (if 9999<Wp m (tL m (JN 0 mn load)) mn load then (0,3) else (Wp m (tL m (JN 0 mn load)) mn load,0)) else (0,tE m (JN 0 mn load))
theorem QqA {m:Machine} {is:Bool} (h:tE m is=0):OkM m/\is=true/\tL m is=QO m [] m.levers/\QO m [] m.levers≠[]:=by
 unfold tE at h;split at h
 ·rename_i h1
  split at h
  ·rename_i h2
   split at h
   ·cases h
   ·rename_i h3
    exact ⟨h1,h2,by simp[tL,h1,h2],h3⟩
  ·cases h
 ·cases h
theorem Qdk {α:Type} (p:α->Bool) (l:List α):(l.countP p=l.length)↔∀ a∈l,p a=true:=QLG
include hK
theorem Qvr (m:Machine) (mn load:Int) (hl:m.levers.length<=1000) (hb:m.bals.length<=1000) (hs:OkM m->sets m m.levers.length<=1000000) :
  Ev.Good Tryz.prog K 276 [maV m,.int .i64 mn,.int .i64 load] (.tup [.int .i64 (Xk m mn load).1,.int .i64 (Xk m mn load).2]):=by
 refine Qb hK Qyn (by simp) ?_
 simp;refine cK (Qgj hK 0 mn load) ?_;have hask:decide (inR 0 0 9999/\inR mn 0 99/\inR load 0 999999999)=JN 0 mn load:=rfl;rw[hask];simp;refine cK (Qog hK m (JN 0 mn load) hl hb hs) ?_;unfold Xk;by_cases he:tE m (JN 0 mn load)=0
 ·obtain ⟨hm,ha,htl,hne⟩:=QqA he
  have ha:=of_decide_eq_true ha;have hok:∀ s∈tL m (JN 0 mn load),okS m s:=fun s h=>(QtP h).2.2
  have hln:(tL m (JN 0 mn load)).length<=1000000:=by
   rw[htl];have:=JU hm
   grind
  rw[he];generalize tL m (JN 0 mn load)=l at *;simp
  refine QnB (S:=Int × Int) (fun s=>[(1,AV.iv (.int .i64 mn)),(2,AV.iv (.int .i64 load)),(3,AV.iv (.ptr [Qq m.levers,.int .i64 m.water,.int .i64 m.llo,.int .i64 m.lhi,Ze m.bals,.int .i64 m.wrong])),(8,AV.iv (.sl 2 (l.map seC))),(10,AV.iv (.int .i64 s.1)),(11,AV.iv (.int .i64 s.2))])
   (fun _=>[]) (fun s=>0<=s.1/\s.1<=s.2/\s.2<=10000/\(s.2<=9999->ZD m l s.2 mn load)/\∀ w,0<=w->w<s.1->¬ ZD m l w mn load) (fun s=>(s.2-s.1).toNat) ?_ (0,10000) ⟨by simp,by simp,by simp,by simp,fun w h1 h2=>by simp at h2;omega⟩
  rintro ⟨lo,hi⟩ ⟨i1,i2,i3,i4,i5⟩ ih
  simp only at i1 i2 i3 i4 i5 ih;rw[Qa QpS.eq_1];by_cases hlt:lo<hi
  ·have htd:(lo+hi).tdiv 2=(lo+hi) / 2:=QK1 (by omega)
   have hmid:lo<=(lo+hi) / 2/\(lo+hi) / 2<hi:=by omega
   simp[hlt,htd]
   (repeat' first | omega | (with_reducible apply And.intro) | intro _)
   refine cK (Qve hK m l ((lo+hi) / 2) mn load hm hok (by simp only[inR];omega) ha.2.1 ha.2.2 hln) ?_
   by_cases hall:ZD m l ((lo+hi) / 2) mn load
   ·have hc:(l.countP fun s=>decide (load*den s<=num m s ((lo+hi) / 2) mn))=l.length:=(Qdk _ _).2 fun s hs=>by simpa using hall s hs
    have:=ih (lo,(lo+hi) / 2) ⟨i1,hmid.1,by simp only;omega,fun _=>hall,i5⟩ (by simp only;omega)
    simp[hc] at this |-
    grind
   ·have hc:¬ (l.countP fun s=>decide (load*den s<=num m s ((lo+hi) / 2) mn))=l.length:=fun c=>hall fun s hs=>by simpa using (Qdk _ _).1 c s hs
    have hc':¬ ((l.countP fun s=>decide (load*den s<=num m s ((lo+hi) / 2) mn):Nat):Int)=l.length:=by omega
    have:=ih ((lo+hi) / 2+1,hi) ⟨by simp only;omega,by simp only;omega,i3,i4,fun w h1 h2 hw=>hall (QgX hm (by omega) hw)⟩ (by simp only;omega)
    simp[hc,hc'] at this |-
    (repeat' first | omega | (with_reducible apply And.intro) | intro _)
    done
  ·have:lo=hi:=by omega
   subst this;have hr:=Qf1 ⟨i1,i3⟩ i4 i5;rw[hr];by_cases h9:9999<lo
   ·simp[h9]
   ·simp[h9]
 ·simp[he]
theorem QvS (p:Qd) (hf:QmO p):Ev.Good Tryz.prog K 214 [prV p] (.tup [.int .i64 (if kE p true=0 then (Xk p.machine 0 p.need).1 else 0),.int .i64 (if kE p true=0 then (Xk p.machine 0 p.need).2 else kE p true)]):=by
 refine Qb hK Qy6 (by simp) ?_
 simp;refine cK (J9 hK p true hf.small hf.sets) ?_;by_cases he:kE p true=0
 ·obtain ⟨hp,_⟩:=X5 he
  simp[he];refine cK (Qvr hK p.machine 0 p.need hf.small.levers hf.small.bals (fun _=>hf.sets hp)) ?_
  simp
 ·simp[he]
omit hK
@[simp] def stC (s:List Int) (leak below:Int):List IV:=[.int .i64 (s.getD 0 0),.int .i64 (s.getD 1 0),.int .i64 (s.getD 2 0),.int .i64 leak,.int .i64 below]
@[simp] def wkC (m:Machine):List IV:=[Qq m.levers,.int .i64 m.water,.int .i64 m.llo,.int .i64 m.lhi,Ze m.bals,.int .i64 m.wrong,.int .i64 (Vj m)]
def XV {α:Type} (pc:Nat->List α):Nat->Nat->List α
 | _,0=>[]
 | i,k+1=>pc i++XV pc (i+1) k
theorem Qca {α:Type} (pc:Nat->List α):∀ k i,acc pc i++XV pc i k=acc pc (i+k)
 | 0,i=>by simp[XV]
 | k+1,i=>by
   have:=Qca pc k (i+1);rw[ZK] at this;have e:i+(k+1)=i+1+k:=by omega
   rw[XV,<- QLs,this,e]
theorem QaI {α:Type} (pc:Nat->List α) (n:Nat):acc pc n=XV pc 0 n:=by
 have:=Qca pc n 0;simp only[QsP,QKx,QKE] at this;exact this.symm
def qj (m:Machine) (s:Qm):List IV:=[.agg (stC s.shorts s.leak (den s)),.int .i64 (ZL m m.bals s)]
include hK
theorem Qia (m:Machine) (s:Qm) (w mn:Int) (hm:OkM m) (hl:inR s.leak m.llo m.lhi) (hw:inR w 0 9999) (hmn:inR mn 0 99):Ev.Good Tryz.prog K 170 [.ptr (wkC m),.agg (stC s.shorts s.leak (den s)),.int .i64 w,.int .i64 mn] (.int .i64 (Y2 m s.leak w mn)):=by
 refine Qb hK QzJ (by simp) ?_
 have hp:=hm.pull hl hw hmn;have h3:=hm.water;simp only[inR] at h3 hw
 have e0:(w+if mn*s.leak<m.water then m.water-mn*s.leak else 0)=Y2 m s.leak w mn:=by
  simp only[Y2];split<;>omega
 simp[e0];omega
theorem QvD (m:Machine) (hm:OkM m):Ev.Good Tryz.prog K 233 [maV m] (.ptr (wkC m)):=by
 refine Qb hK QyQ (by simp) ?_
 have hl:=hm.len;simp
 (repeat' first | omega | (with_reducible apply And.intro) | intro _)
 refine Qe (fun i=>[(3,AV.loc 8 0),(10,AV.iv (Qq m.levers)),(11,AV.iv (.int .i64 m.levers.length)),(12,AV.iv (IV.int IntKind.i64 (i:Nat)))])
  (fun i=>[(8,AO.box [.iv (Qq m.levers),.iv (.int .i64 m.water),.iv (.int .i64 m.llo),.iv (.int .i64 m.lhi),.iv (Ze m.bals),.iv (.int .i64 m.wrong),.iv (.int .i64 (QG (·.long) (m.levers.take i)))])]) m.levers.length (fun i=>True) trivial ?_ ?_
 ·intro _
  rw[Qa Qjv.eq_1];rw[QKn];simp[Vj]
 ·intro i hi _ ih
  have l1:=hm.longs (i+1);rw[qa _ _ _ hi] at ih l1;rw[Qa Qjv.eq_1];simp[hi] at ih l1 |-
  grind
theorem Qva (m:Machine) (s:Qm) (b:Zw) (hm:OkM m) (hs:okS m s) (hb:b∈m.bals):Ev.Good Tryz.prog K 335 [.ptr (wkC m),.agg (stC s.shorts s.leak (den s)),.agg (baC b)] (.bool (Wb m s b)):=by
 refine Qb hK QxR (by simp) ?_
 have h:=hm.bal hb;simp;refine cK (Qia hK m s b.weight b.mins hm hs.2.1 h.1 h.2.1) ?_;have h1:=hm.numB hs h.1 h.2.1;have h2:=hm.denB hs;have h3:=h.2.2;simp only[inR] at h3;have h4:=QLa h3.1.2 h2.2 (by omega) (by omega)
 have h5:=QK8 h3.1.1 (QLL (by omega) h2.1)
 have hr:Wb m s b=decide (num m s b.weight b.mins-b.load*den s<=b.off*den s /\ -(num m s b.weight b.mins-b.load*den s)<=b.off*den s):=rfl;have hnum:Y2 m s.leak b.weight b.mins*Vj m=num m s b.weight b.mins:=rfl;rw[hr];simp[hnum]
 have key:∀ d:Int,0<=d->(d<=b.off*den s↔(d.tdiv (den s)<b.off\/(d.tdiv (den s)=b.off/\d.tmod (den s)=0))):=fun d hd=>by
  rw[QK1 hd,Int.tmod_eq_emod_of_nonneg hd];have e1:=Int.emod_def d (den s);have e2:=Int.emod_nonneg d (b:=den s) (by omega)
  have e3:=Int.emod_lt_of_pos d (b:=den s) (by omega)
  constructor
  ·intro hle
   have h6:d / den s<=b.off:=by
    have:=Int.ediv_le_ediv (c:=den s) (by omega) hle
    rwa [Int.mul_ediv_cancel _ (by omega)] at this
   grind
  ·rintro (h7 | ⟨h7,h8⟩)
   ·have h9:(d / den s+1)*den s<=b.off*den s:=QKL (by omega) (by omega)
    grind
   grind
 have hd0:¬ den s=0:=by omega
 generalize num m s b.weight b.mins=N at *;generalize b.load*den s=L at *;have hD : -1000000000000000000<=N-L/\N-L<=1000000000000000000:=by omega
 generalize hDe:N-L=D at *;have hO:=QK8 h3.2.1 (show 0<=den s by omega)
 by_cases hneg:D<0
 ·have hk:=key (-D) (by omega)
  have htd:=Jj (a := -D) (b:=den s) (by omega) h2.1
  have ht2:=Int.tmod_nonneg (den s) (a := -D) (by omega)
  generalize b.off*den s=O at *;rw[Int.neg_tdiv] at htd hk;rw[Int.neg_tmod] at ht2 hk
  grind
 ·have hk:=key D (by omega)
  have htd:=Jj (a:=D) (b:=den s) (by omega) h2.1
  grind
theorem Qf7 (m:Machine) (hm:OkM m) (first:List Int) (leak0:Int) (hlen:first.length=m.levers.length) (hr:∀ i (h:i<m.levers.length) (h':i<first.length),inR first[i] m.levers[i].lo m.levers[i].hi) :
  Qak Tryz.prog K 288 [.ptr (wkC m),.agg (stC first leak0 (QG id first)),.int .i64 first.length] [] ((QM m first []).map (qj m)) (fun b=>.bool b):=by
 intro s b s' hf;refine QR QpP (by simp) hf.v rfl ?_
 rw[QaT,QaI] at hf;have hlk:=hm.leak;have hlh:=hm.lhi;simp only[inR] at hlk;simp[hlen]
 (repeat' first | omega | (with_reducible apply And.intro) | intro _)
 have e0:AV.iv (IV.int .i64 m.llo)=AV.iv (.int .i64 (m.llo+((0:Nat):Int))):=by simp
 refine Ys (m.lhi+1-m.llo).toNat (fun i e o=>∃ si,e=[(0,AV.iv (.ptr (wkC m))),(3,AV.cb 0),(5,AV.loc 5 0)]/\o=[(0,.ext si),(5,.box [.iv (.int .i64 (first.getD 0 0)),.iv (.int .i64 (first.getD 1 0)),.iv (.int .i64 (first.getD 2 0)),.iv (.int .i64 (m.llo+(i:Nat))),.iv (.int .i64 (QG id first))])] /\
  ZX Tryz.prog K ((XV (qQ m first) i ((m.lhi+1-m.llo).toNat-i)).map (qj m)) si b s') ?_ ?_ _ _ ⟨s,rfl,by simp,by simpa using hf⟩
 ·rintro e o ⟨si,rfl,rfl,hfd⟩
  have q1:m.llo+((m.lhi+1-m.llo).toNat:Int)=m.lhi+1:=by omega
  have q2:¬ m.lhi+1<=m.lhi:=by omega
  rw[Nat.sub_self] at hfd;cases hfd;rw[q1,Qa Qi1.eq_1];simp[q2]
 ·rintro i e o hi ⟨si,rfl,rfl,hfd⟩ ih
  have q1:m.llo+(i:Int)<=m.lhi:=by omega
  have q3:m.llo+((i:Int)+1)=m.llo+i+1:=by omega
  have hos:okS m ⟨first,m.llo+i⟩:=⟨hlen,by simp only[inR];omega,hr⟩
  have e1:(m.lhi+1-m.llo).toNat-i=((m.lhi+1-m.llo).toNat-(i+1))+1:=by omega
  rw[e1] at hfd;simp only[XV,qQ,QKy,QKF,List.map_nil,List.singleton_append] at hfd;have hbl:=hm.blen;rw[Qa Qi1.eq_1];simp[q1]
  (repeat' first | omega | (with_reducible apply And.intro) | intro _)
  refine Qe (fun k=>[(0,AV.iv (.ptr (wkC m))),(3,AV.cb 0),(5,AV.loc 5 0),(11,AV.iv (IV.int IntKind.i64 (ZL m (m.bals.take k) ⟨first,m.llo+i⟩:Nat))),(87,AV.iv (Ze m.bals)),(88,AV.iv (.int .i64 m.bals.length)),(89,AV.iv (IV.int IntKind.i64 (k:Nat)))])
   (fun k=>[(0,.ext si),(5,.box [.iv (.int .i64 (first.getD 0 0)),.iv (.int .i64 (first.getD 1 0)),.iv (.int .i64 (first.getD 2 0)),.iv (.int .i64 (m.llo+(i:Nat))),.iv (.int .i64 (QG id first))])]) m.bals.length (fun i=>True) trivial ?_ ?_
  ·intro _
   rw[Qa Qi2.eq_1];simp;have hit:qj m ⟨first,m.llo+i⟩=[.agg (stC first (m.llo+i) (QG id first)),.int .i64 (ZL m m.bals ⟨first,m.llo+i⟩)]:=rfl
   rw[hit] at hfd;cases hfd with
   | stop _ _ _ _ hg =>
     refine Q9 (by simpa using hg) rfl ?_
     simp
   | next _ _ _ s1 _ _ hg hr2 =>
     refine Q9 (by simpa using hg) rfl ?_
     simp
     (repeat' first | omega | (with_reducible apply And.intro) | intro _)
     exact ih _ _ ⟨s1,rfl,by simp[q3],hr2⟩
  ·intro k hk _ ih2
   have hle:=W0 m (m.bals.take k) ⟨first,m.llo+i⟩
   simp at hle;rw[Qa Qi2.eq_1];rw[qw _ _ _ _ hk] at ih2;simp[hk] at ih2 |-;have hg:=Qva hK m ⟨first,m.llo+i⟩ m.bals[k] hm hos (QKj hk)
   refine cK (by simpa[den] using hg) ?_
   cases hrr:Wb m ⟨first,m.llo+i⟩ m.bals[k]
   ·simp[hrr] at ih2 |-
    grind
   ·simp[hrr] at ih2 |-
    grind
theorem QnN (m:Machine) (hm:OkM m):∀ (n:Nat) (first:List Int),first.length+n=m.levers.length->(∀ i (h:i<m.levers.length) (h':i<first.length),inR first[i] m.levers[i].lo m.levers[i].hi) ->
  Qak Tryz.prog K 288 [.ptr (wkC m),.agg (stC first 0 (QG id first)),.int .i64 first.length] [] ((QM m first (m.levers.drop first.length)).map (qj m)) (fun b=>.bool b)
 | 0,first,hn,hr=>by
   have e1:m.levers.drop first.length=[]:=QKM (by omega)
   rw[e1];exact Qf7 hK m hm first 0 (by omega) hr
 | n+1,first,hn,hr=>by
   have ihn:=QnN m hm n;have hlt:first.length<m.levers.length:=by omega
   have hl3:=hm.len;have e1:m.levers.drop first.length=m.levers[first.length]::m.levers.drop (first.length+1):=QKG hlt
   have hlv:=hm.lever (QKj hlt);rw[e1,Vz]
   have hpb:∀ x:Int,inR x m.levers[first.length].lo m.levers[first.length].hi->1<=QG id (first++[x])/\QG id (first++[x])<=1000000000:=fun x hx=>by
    refine Qbe _ _ (fun a ha=>?_) (by simp;omega)
    simp only[inR] at hx;rcases QKQ.1 ha with ha | ha
    ·obtain ⟨k,hk,rfl⟩:=QK0 ha
     have h1:=hr k (by omega) hk
     have h2:=hm.lever (QKj (show k<m.levers.length by omega))
     simp only[inR,id] at *;omega
    grind
   have ih2:∀ i:Nat,m.levers[first.length].lo+(i:Int)<=m.levers[first.length].hi->Qak Tryz.prog K 288 [.ptr (wkC m),.agg (stC (first++[m.levers[first.length].lo+(i:Int)]) 0 (QG id (first++[m.levers[first.length].lo+(i:Int)]))),.int .i64 (first.length+1:Nat)] []
     (((fun i:Nat=>QM m (first++[m.levers[first.length].lo+(i:Nat)]) (m.levers.drop (first.length+1))) i).map (qj m)) (fun b=>.bool b):=fun i hi=>by
    have:=ihn (first++[m.levers[first.length].lo+(i:Int)]) (by simp;omega) (fun k h h'=>by
     rcases QLu k first.length with hk | hk
     ·grind
     ·have:k=first.length:=by simp at h';omega
      subst this;simp only[List.getElem_append_right (QKl _),Nat.sub_self,QLr,inR];omega)
    grind
   generalize (fun i:Nat=>QM m (first++[m.levers[first.length].lo+(i:Nat)]) (m.levers.drop (first.length+1)))=pc at *
   intro s b s' hf;refine QR QpP (by simp) hf.v rfl ?_
   rw[QaI] at hf;have hlt':(first.length:Int)<m.levers.length:=by omega
   simp[hlt]
   (repeat' first | omega | (with_reducible apply And.intro) | intro _)
   refine Ys (m.levers[first.length].hi+1-m.levers[first.length].lo).toNat (fun i e o=>∃ si,e=[(0,AV.iv (.ptr (wkC m))),(2,AV.iv (IV.int IntKind.i64 (first.length:Nat))),(3,AV.cb 0),(5,AV.loc 5 0),(9,AV.iv (.int .i64 (m.levers[first.length].lo+(i:Nat))))] /\
    o=[(0,.ext si),(5,.box [.iv (.int .i64 (first.getD 0 0)),.iv (.int .i64 (first.getD 1 0)),.iv (.int .i64 (first.getD 2 0)),.iv (.int .i64 0),.iv (.int .i64 (QG id first))])] /\
    ZX Tryz.prog K ((XV pc i ((m.levers[first.length].hi+1-m.levers[first.length].lo).toNat-i)).map (qj m)) si b s') ?_ ?_ _ _ ⟨s,by simp,by simp,by simpa using hf⟩
   ·rintro e o ⟨si,rfl,rfl,hfd⟩
    have q1:m.levers[first.length].lo+((m.levers[first.length].hi+1-m.levers[first.length].lo).toNat:Int)=m.levers[first.length].hi+1:=by omega
    have q2:¬ m.levers[first.length].hi+1<=m.levers[first.length].hi:=by omega
    rw[Nat.sub_self] at hfd;cases hfd;rw[q1,Qa Qi3.eq_1];simp[hlt,q2]
   ·rintro i e o hi ⟨si,rfl,rfl,hfd⟩ ih
    have q1:m.levers[first.length].lo+(i:Int)<=m.levers[first.length].hi:=by omega
    have q3:m.levers[first.length].lo+((i:Int)+1)=m.levers[first.length].lo+i+1:=by omega
    have e1:(m.levers[first.length].hi+1-m.levers[first.length].lo).toNat-i=((m.levers[first.length].hi+1-m.levers[first.length].lo).toNat-(i+1))+1:=by omega
    rw[e1] at hfd;simp only[XV,QKy] at hfd;have hg:=ih2 i q1;have hb:=hpb (m.levers[first.length].lo+(i:Int)) (by simp only[inR];omega)
    have hpr:QG id (first++[m.levers[first.length].lo+(i:Int)])=QG id first*(m.levers[first.length].lo+(i:Int)):=Qbf _ _ _
    rw[hpr] at hg hb;rw[Qa Qi3.eq_1]
    have hcase:(∃ s1 b1,ZX Tryz.prog K ((pc i).map (qj m)) si b1 s1/\(b1=true->ZX Tryz.prog K ((XV pc (i+1) ((m.levers[first.length].hi+1-m.levers[first.length].lo).toNat-(i+1))).map (qj m)) s1 b s')/\(b1=false->b=false/\s1=s')):=by
     rcases ZX.append hfd with ⟨s1,h1,h2⟩ | ⟨h1,h2⟩
     all_goals grind
    obtain ⟨s1,b1,f1,f2,f3⟩:=hcase;have hgx:=hg _ _ _ f1
    have hfl:first=[]\/(∃ a,first=[a])\/∃ a c,first=[a,c]:=by
     match first,hlt,hl3 with
     | [],_,_=>exact .inl rfl
     | [a],_,_=>grind
     | [a,c],_,_=>grind
     | _::_::_::_,h,h'=>simp at h;omega
    rcases hfl with rfl | ⟨a,rfl⟩ | ⟨a,c,rfl⟩
    all_goals
     try simp only[QKR,QKB,QKE,Nat.reduceAdd] at hlt
     try simp only[QKR,QKB,QKE,Nat.reduceAdd] at q1
     try simp only[QKR,QKB,QKE,Nat.reduceAdd] at q3
     try simp only[QKR,QKB,QKE,Nat.reduceAdd] at hb
     try simp only[QKR,QKB,QKE,Nat.reduceAdd] at hgx
     try simp only[QKR,QKB,QKE,Nat.reduceAdd] at ih
     try simp only[QKR,QKB,QKE,Nat.reduceAdd] at f2
     try simp only[QKR,QKB,QKE,Nat.reduceAdd] at hlt'
     try simp only[QKR,QKB,QKE,Nat.reduceAdd] at hlv
     try simp only[QKR,QKB,QKE,Nat.reduceAdd]
     simp[q1,hlt]
     (repeat' first | omega | (with_reducible apply And.intro) | intro _)
     refine ZJ (by simpa using hgx) rfl ?_
     cases b1
     ·obtain ⟨rfl,rfl⟩:=f3 rfl
      simp
     ·simp
      (repeat' first | omega | (with_reducible apply And.intro) | intro _)
      exact ih _ _ ⟨s1,by simp[q3],by simp,f2 rfl⟩
omit hK
section
variable {K:World->Prop}
def stI (s:Qm):List IV:=[.agg (stC s.shorts s.leak (den s))]
theorem Qa4 {m:Machine} {ks:Env} (hks:ZH [2,3] [0,3] ks=[(2,.iv (.ptr [.ptr (wkC m)])),(3,.loc 3 0)]) :
  ∀ (Ls:List Qm) (s:Ext) (b:Bool) (s':Ext),ZX Tryz.prog K ((Ls.filter fun t=>decide ((ZL m m.bals t:Int)<=m.wrong)).map stI) s b s' ->
   ∃ wy,(wy=.fall\/wy=.ret)/\Uz Tryz.prog K [8,9] WT Qb5 [2,3] [0,3] (ZH [2,3] [0,3] ks) (Ls.map (qj m)) [(0,.ext s),(3,.box [.cb 0])] wy [(0,.ext s'),(3,.box [.cb 0])]
 | [],s,b,s',h=>by
   cases h;exact ⟨.fall,.inl rfl,.nil _⟩
 | t::Ls,s,b,s',h=>by
   by_cases ht:(ZL m m.bals t:Int)<=m.wrong
   ·rw[QLz (by simpa using ht)] at h
    cases h with
    | stop _ _ _ _ hg =>
      refine ⟨.ret,.inr rfl,.stop _ _ _ _ _ (by simp) ?_⟩
      rw[hks];refine ⟨rfl,?_⟩;simp[qj,WT,Qb5,ht];refine Q9 (by simpa[stI] using hg) rfl ?_
      simp
    | next _ _ _ s1 _ _ hg hr =>
      obtain ⟨wy,h1,h2⟩:=Qa4 hks Ls s1 b s' hr;refine ⟨wy,h1,.next _ _ _ _ _ _ ?_ h2⟩;rw[hks];refine ⟨rfl,?_⟩;simp[qj,WT,Qb5,ht];refine Q9 (by simpa[stI] using hg) rfl ?_
      simp
   ·rw[QLA (by simpa using ht)] at h
    obtain ⟨wy,h1,h2⟩:=Qa4 hks Ls s b s' h;refine ⟨wy,h1,.next _ _ _ _ _ _ ?_ h2⟩;rw[hks];refine ⟨rfl,?_⟩;simp[qj,WT,Qb5,ht]
theorem Qfk (m:Machine):QO m [] m.levers=(QM m [] m.levers).filter fun t=>decide ((ZL m m.bals t:Int)<=m.wrong):=by
 unfold QO;refine List.filter_congr fun s hs=>?_
 have:=QcK hs;simp[X6,this]
end
include hK
theorem Quu (m:Machine) (hm:OkM m):Qal Tryz.prog K 234 [.ptr (wkC m)] [] ((QM m [] m.levers).map (qj m)):=by
 intro s b s' hf;have h:=QnN hK m hm m.levers.length [] (by simp) (fun i h h'=>by simp at h')
 simp only[QKR,List.drop_zero] at h;have hgx:=h _ _ _ hf;refine QR QyP (by simp) hf.v rfl ?_
 simp;refine ZJ (by simpa[QG] using hgx) rfl ?_
 simp
theorem QbA (m:Machine) (hm:OkM m):Qal Tryz.prog K 169 [.ptr (wkC m)] [] ((QO m [] m.levers).map stI):=by
 intro s b s' hfd;refine QR QzK (by simp) hfd.v rfl ?_
 rw[Qfk] at hfd;obtain ⟨wy,h1,h2⟩:=Qa4 (m:=m) (ks:=[(2,.iv (.ptr [.ptr (wkC m)])),(3,.loc 3 0)]) rfl (QM m [] m.levers) s b s' hfd;simp;refine Zb (wy:=wy) (o':=[(0,.ext s'),(3,.box [.cb 0])]) rfl (by kernel_rfl) (Quu hK m hm) (by simpa using h2) ?_
 rcases h1 with rfl | rfl<;>simp
theorem Qib (m:Machine) (is:Bool) (hl:m.levers.length<=1000) (hb:m.bals.length<=1000):Ev.Good Tryz.prog K 168 [maV m,.bool is] (.tup [if tE m is=0 then .ptr (wkC m) else .nilp,.int .i64 (tE m is)]):=by
 refine Qb hK QzL (by simp) ?_
 simp;refine cK (Qtf hK m hl hb) ?_;by_cases h1:OkM m
 ·cases is
  ·simp[h1,tE]
  ·simp[h1]
   refine cK (QvD hK m h1) ?_;simp;cases hL:QO m [] m.levers with
   | nil =>
     refine Zb (wy:=.fall) (o':=[(4,.box [.iv .nilp]),(5,.box [.iv (.int .i64 0)]),(7,.box [.iv (.ptr (wkC m))])]) rfl (by kernel_rfl) (QbA hK m h1) (by rw[hL];simpa using Uz.nil _) ?_
     simp[tE,h1,hL]
   | cons a r =>
     refine Zb (wy:=.ret) (o':=[(4,.box [.iv (.ptr (wkC m))]),(5,.box [.iv (.int .i64 0)]),(7,.box [.iv (.ptr (wkC m))])]) rfl (by kernel_rfl) (QbA hK m h1) (by
      rw[hL];refine .stop _ _ _ _ _ (by simp) ?_
      refine ⟨rfl,?_⟩;simp[stI,QlG,Qp0]) ?_
     simp[tE,h1,hL]
 ·simp[h1,tE]
theorem Qvj (m:Machine) (hl:m.levers.length<=1000) (hb:m.bals.length<=1000) (hs:OkM m->sets m m.levers.length<=1000000):Ev.Good Tryz.prog K 293 [maV m] (.tup [.int .i64 (tL m true).length,.int .i64 (tE m true)]):=by
 refine Qb hK Qya (by simp) ?_
 simp;refine cK (Qib hK m true hl hb) ?_;by_cases he:tE m true=0
 ·obtain ⟨hm,_,htl,hne⟩:=QqA he
  have hln:=JU hm;have hln2:=hs hm;simp[he,htl];refine Zb (wy:=.fall) (o':=[(2,.box [.iv (.int .i64 ((QO m [] m.levers).length:Nat))])]) rfl (by kernel_rfl) (QbA hK m hm) ?_ ?_
  ·have:=Uz.all (P:=Tryz.prog) (K:=K) (ps:=[15]) (asn:=QeM) (body:=QiX) (ks:=[2]) (ids:=[2]) (eK:=[(2,.loc 2 0)]) ((QO m [] m.levers).map stI) (fun i=>[(2,.box [.iv (.int .i64 (i:Int))])]) fun i x hi=>by
    simp only[QKp,QKm] at hi;obtain ⟨y,hy,rfl⟩:=hi;have hlt:=(QKh.1 hy).1;refine ⟨rfl,?_⟩;simp[stI,QeM,QiX];omega
   simpa using this
  ·simp
 ·have:tL m true=[]:=by
   unfold tE at he;unfold tL
   grind
  simp[he,this]
omit hK
@[simp] theorem QDW:span []=(0,0):=rfl
theorem QA4 {m:Machine} {is:Bool} (h:¬ tE m is=0):tL m is=[]:=by
 unfold tE at h;unfold tL
 grind
def QhD (m:Machine) (mn load:Int) (s:Qm):Int:=(load*den s+Vj m-1).tdiv (Vj m)-Y2 m s.leak 0 mn
def Ug (m:Machine) (mn load:Int) (l:List Qm):Int:=l.foldl (fun b s=>max b (QhD m mn load s)) 0
theorem QqS (m:Machine) (mn load:Int) (l:List Qm) (w:Int) (hw:0<=w):Ug m mn load l<=w↔∀ s∈l,QhD m mn load s<=w:=by
 have:∀ (l:List Qm) (b:Int),(l.foldl (fun b s=>max b (QhD m mn load s)) b<=w↔b<=w/\∀ s∈l,QhD m mn load s<=w):=by
  intro l
  induction l with
  | _=>grind
 have h:=this l 0;simpa[Ug,hw] using h
theorem qS (m:Machine) (mn load:Int) (l:List Qm):0<=Ug m mn load l:=by
 have:∀ (l:List Qm) (b:Int),b<=l.foldl (fun b s=>max b (QhD m mn load s)) b:=by
  intro l
  induction l with
  | _=>grind
 exact this l 0
theorem Qk0 {m:Machine} (hm:OkM m) {s:Qm} (hs:okS m s) {mn load w:Int} (hmn:inR mn 0 99) (hld:inR load 0 999999999):QhD m mn load s<=w↔load*den s<=num m s w mn:=by
 have ha:=hm.aboveB;have hd:=hm.denB hs;simp only[inR] at hld;have hn:=QK8 hld.1 (QLL (by omega) hd.1)
 have e1:num m s w mn=(w+Y2 m s.leak 0 mn)*Vj m:=by
  unfold num Y2
  congr 1
  omega
 unfold QhD;rw[e1,QK1 (by omega)]
 generalize Y2 m s.leak 0 mn=r;generalize load*den s=N at *;generalize Vj m=A at *;have e2:=Int.emod_def (N+A-1) A;have e3:=Int.emod_nonneg (N+A-1) (b:=A) (by omega)
 have e4:=Int.emod_lt_of_pos (N+A-1) (b:=A) (by omega)
 generalize (N+A-1) / A=Q at *;constructor
 ·intro h
  have h1:Q*A<=(w+r)*A:=QKL (by omega) (by omega)
  grind
 ·intro h
  apply Int.not_lt.1;intro hlt;have h1:(w+r+1)*A<=Q*A:=QKL (by omega) (by omega)
  grind
theorem Qhx {m:Machine} (hm:OkM m) {l:List Qm} (hs:∀ s∈l,okS m s) {mn load:Int} (hmn:inR mn 0 99) (hld:inR load 0 999999999):Wp m l mn load=min (Ug m mn load l) 10000:=by
 have h0:=qS m mn load l
 have hall:∀ w,0<=w->(ZD m l w mn load↔Ug m mn load l<=w):=fun w hw=>by
  rw[QqS m mn load l w hw];exact ⟨fun h s hsl=>(Qk0 hm (hs s hsl) hmn hld).2 (h s hsl),fun h s hsl=>(Qk0 hm (hs s hsl) hmn hld).1 (h s hsl)⟩
 refine Qf1 (by omega) (fun h=>(hall _ (by omega)).2 (by omega)) (fun w h1 h2=>fun c=>?_)
 grind
include hK
theorem Qta (m:Machine) (w mn:Int) (hl:m.levers.length<=1000) (hb:m.bals.length<=1000):Ev.Good Tryz.prog K 89 [maV m,.int .i64 w,.int .i64 mn] (.tup [.agg [.int .i64 (XM m w mn).1,.int .i64 (XM m w mn).2],.int .i64 (tE m (JN w mn 0))]):=by
 refine Qb hK QCw (by simp) ?_
 simp;refine cK (Qif hK w mn 0) ?_;have hask:decide (inR w 0 9999/\inR mn 0 99/\inR 0 0 999999999)=JN w mn 0:=rfl;rw[hask];simp;refine cK (Qib hK m (JN w mn 0) hl hb) ?_;unfold XM;by_cases he:tE m (JN w mn 0)=0
 ·obtain ⟨hm,ha,htl,hne⟩:=QqA he
  have ha:=of_decide_eq_true ha;rw[htl];simp[he];refine Zb (wy:=.fall) (o':=[(6,.box [.iv (.int .i64 0),.iv (.int .i64 0)]),(8,.box [.iv (.ptr (wkC m))]),(10,.box [.iv (.int .i64 (span ((QO m [] m.levers).map (Wm m w mn))).1),.iv (.int .i64 (span ((QO m [] m.levers).map (upS m w mn))).2)]),(11,.box [.iv (.bool (decide ((QO m [] m.levers).length=0)))])]) rfl (by kernel_rfl) (QbA hK m hm) ?_ ?_
  ·have hok:∀ s∈QO m [] m.levers,okS m s:=fun s h=>(JT h).1
   generalize QO m [] m.levers=l at *
   have:=Uz.all (P:=Tryz.prog) (K:=K) (ps:=[30]) (asn:=QeI) (body:=QlF) (ks:=[4,5,6,8,10,11]) (ids:=[6,8,10,11]) (eK:=[(4,.iv (.ptr [.int .i64 w])),(5,.iv (.ptr [.int .i64 mn])),(6,.loc 6 0),(8,.loc 8 0),(10,.loc 10 0),(11,.loc 11 0)]) (l.map stI)
    (fun i=>[(6,.box [.iv (.int .i64 0),.iv (.int .i64 0)]),(8,.box [.iv (.ptr (wkC m))]),(10,.box [.iv (.int .i64 (span ((l.take i).map (Wm m w mn))).1),.iv (.int .i64 (span ((l.take i).map (upS m w mn))).2)]),(11,.box [.iv (.bool (decide (i=0)))])]) fun i x hi=>by
    simp only[QKp,QKm] at hi;obtain ⟨y,hy,rfl⟩:=hi;obtain ⟨hlt,rfl⟩:=QKh.1 hy;have hsi:=hok _ (QKj hlt);have hn:=hm.numB hsi ha.1 ha.2.1;have hd:=hm.denB hsi;have td1:=Jj hn.1 hd.1;have td2:=Jj (a:=num m l[i] w mn+den l[i]-1) (b:=den l[i]) (by omega) (by omega)
    have hd0:¬ den l[i]=0:=by omega
    have hlow:Wm m w mn l[i]=(num m l[i] w mn).tdiv (den l[i]):=rfl;have hup:upS m w mn l[i]=(num m l[i] w mn+den l[i]-1).tdiv (den l[i]):=rfl;have hnum:Y2 m l[i].leak w mn*Vj m=num m l[i] w mn:=rfl;rw[QKf hlt,QKy,QLf,Jy,QKy,QLf,Jy];refine ⟨rfl,?_⟩;have hg:=Qia hK m l[i] w mn hm hsi.2.1 ha.1 ha.2.1;by_cases h0:i=0
    ·subst h0
     simp[stI,QeI,QlF];refine cK (by simpa using hg) ?_
     simp[hnum,hd0,hlow,hup];omega
    ·have hne1:¬ (l.take i).map (Wm m w mn)=[]:=by
      intro c;have hli:((l.take i).map (Wm m w mn)).length=i:=by simp;omega
      grind
     have hne2:¬ (l.take i).map (upS m w mn)=[]:=by
      intro c;have hli:((l.take i).map (upS m w mn)).length=i:=by simp;omega
      grind
     rw[if_neg hne1,if_neg hne2];generalize span ((l.take i).map (Wm m w mn))=A at *;generalize span ((l.take i).map (upS m w mn))=B at *;simp[stI,QeI,QlF,h0];refine cK (by simpa using hg) ?_
     simp[hnum,hd0,hlow,hup,Vo,Un];omega
   simpa using this
  ·simp
 ·have:=QA4 he
  simp[he,this]
theorem Qv7 (m:Machine) (mn load:Int) (hl:m.levers.length<=1000) (hb:m.bals.length<=1000):Ev.Good Tryz.prog K 189 [maV m,.int .i64 mn,.int .i64 load] (.tup [.int .i64 (Xk m mn load).1,.int .i64 (Xk m mn load).2]):=by
 refine Qb hK Qzr (by simp) ?_
 simp;refine cK (Qif hK 0 mn load) ?_;have hask:decide (inR 0 0 9999/\inR mn 0 99/\inR load 0 999999999)=JN 0 mn load:=rfl;rw[hask];simp;refine cK (Qib hK m (JN 0 mn load) hl hb) ?_;unfold Xk;by_cases he:tE m (JN 0 mn load)=0
 ·obtain ⟨hm,ha,htl,hne⟩:=QqA he
  have ha:=of_decide_eq_true ha;have hok:∀ s∈QO m [] m.levers,okS m s:=fun s h=>(JT h).1
  have hml:=Qhx hm hok ha.2.1 ha.2.2;have hmn:=qS m mn load (QO m [] m.levers);rw[htl,hml];simp[he];refine Zb (wy:=.fall) (o':=[(8,.box [.iv (.ptr (wkC m))]),(10,.box [.iv (.int .i64 (Ug m mn load (QO m [] m.levers)))])]) rfl (by kernel_rfl) (QbA hK m hm) ?_ ?_
  ·clear hml hmn hne htl
   generalize QO m [] m.levers=l at *
   have:=Uz.all (P:=Tryz.prog) (K:=K) (ps:=[26]) (asn:=QeQ) (body:=QjS) (ks:=[4,5,8,10]) (ids:=[8,10]) (eK:=[(4,.iv (.ptr [.int .i64 mn])),(5,.iv (.ptr [.int .i64 load])),(8,.loc 8 0),(10,.loc 10 0)]) (l.map stI)
    (fun i=>[(8,.box [.iv (.ptr (wkC m))]),(10,.box [.iv (.int .i64 (Ug m mn load (l.take i)))])]) fun i x hi=>by
    simp only[QKp,QKm] at hi;obtain ⟨y,hy,rfl⟩:=hi;obtain ⟨hlt,rfl⟩:=QKh.1 hy;have hsi:=hok _ (QKj hlt);have hd:=hm.denB hsi;have hab:=hm.aboveB;have hld:=ha.2.2;simp only[inR] at hld;have h4:=QLa hld.2 hd.2 (by omega) (by omega)
    have h5:=QK8 hld.1 (QLL (by omega) hd.1)
    have td:=Jj (a:=load*den l[i]+Vj m-1) (b:=Vj m) (by omega) (by omega)
    have ha0:¬ Vj m=0:=by omega
    have hp:=(hm.pull (w:=0) hsi.2.1 (by simp[inR]) ha.2.1).2
    have hst:Ug m mn load (l.take (i+1))=max (Ug m mn load (l.take i)) ((load*den l[i]+Vj m-1).tdiv (Vj m)-Y2 m l[i].leak 0 mn):=by
     unfold Ug;rw[QKf hlt,QLh];rfl
    rw[hst];refine ⟨rfl,?_⟩;have hg:=Qia hK m l[i] 0 mn hm hsi.2.1 (by simp[inR]) ha.2.1
    generalize Ug m mn load (l.take i)=A at *;simp[stI,QeQ,QjS,ha0]
    (repeat' first | omega | (with_reducible apply And.intro) | intro _)
    refine cK (by simpa using hg) ?_
    simp[Un];omega
   simpa[Ug] using this
  ·by_cases h9:9999<Ug m mn load (QO m [] m.levers)
   ·have:9999<min (Ug m mn load (QO m [] m.levers)) 10000:=by omega
    simp[h9,this]
   ·have:min (Ug m mn load (QO m [] m.levers)) 10000=Ug m mn load (QO m [] m.levers):=by omega
    simp[h9,this]
 ·simp[he]
omit hK
def XX (ds:List Qx):List Qx:=ds.filter Q5
@[simp] def lkC (d:Qx):List IV:=[.int .i64 d.bar,.int .i64 d.smith]
@[simp] def Vn (ds:List Qx) (e:Nat->Int) (pm:IV):List IV:=[Qxh (Qit ds e ds.length),.sl 2 ((XX ds).map lkC),pm]
theorem QbD (p:Qx->Bool):∀ (l:List Qx) (i k:Nat),(l.filter p)[k]?=((Xr p l i)[k]?).bind fun j=>l[j-i]?
 | [],i,k=>by simp[Xr]
 | d::l,i,k=>by
   have ih:=QbD p l (i+1);have hge:∀ j∈Xr p l (i+1),i+1<=j:=fun j hj=>(qk p l (i+1) j hj).1
   have sh:∀ k:Nat,((Xr p l (i+1))[k]?).bind (fun j=>l[j-(i+1)]?)=((Xr p l (i+1))[k]?).bind (fun j=>(d::l)[j-i]?):=fun k=>by
    cases hk:(Xr p l (i+1))[k]? with
    | none=>rfl
    | some j =>
      have:=hge j (QKw hk)
      grind
   by_cases hp:p d=true
   ·simp only[QLz hp,Xr,hp,if_true]
    grind
   ·simp only[QLA hp,Xr,hp]
    grind
theorem YA (ds:List Qx):(XX ds).length=(Ji ds).length:=by
 have:∀ (l:List Qx) (i:Nat),(l.filter Q5).length=(Xr Q5 l i).length:=by
  intro l
  induction l with
  | nil=>intro i;rfl
  | cons d l ih =>
    intro i;by_cases hp:Q5 d=true
    ·simp only[QLz hp,Xr,hp,if_true,QKB,ih (i+1)]
    ·simp only[QLA hp,Xr,hp,ih (i+1)]
     simp
 exact this ds 0
theorem Qmj (ds:List Qx) (k:Nat) (h:k<(XX ds).length):(XX ds)[k]=Qbq ds k:=by
 have h':k<(Ji ds).length:=by rw[<- YA];exact h
 have h1:=QbD Q5 ds 0 k;have h2:(Ji ds)[k]<ds.length:=Qkq (QKj h');have e:(Xr Q5 ds 0)[k]?=some (Ji ds)[k]:=QKg h';rw[e] at h1;simp only[Option.bind_some,Nat.sub_zero,QKg h2] at h1;have h3:(XX ds)[k]?=some ds[(Ji ds)[k]]:=h1;rw[QKg h] at h3;injection h3 with h3
 rw[h3];simp[Qbq,List.getD_eq_getElem?_getD,h',h2]
include hK
theorem Qvm (ds:List Qx) (e:Nat->Int) (pm:IV) (s:Xo) (hc:OkD ds ds.length) (hl:ds.length<=1000) (hs:ZV s ds):Ev.Good Tryz.prog K 287 [.agg (Vn ds e pm),.agg (sC s)] (.bool (Ul ds e s)):=by
 refine Qb hK Qyf (by simp) ?_
 obtain ⟨s1,s2,s3,s4,s5⟩:=hs;simp only[inR] at s1 s2 s3;have hlt:s.after.toNat<ds.length+1:=by omega
 have hcl:=ZP e hc s.after.toNat (by omega) (by omega)
 have hcg:=Vh ds e ds.length s.after.toNat (by omega)
 have hcb:=hc.cnt s.after.toNat (by omega) (by omega)
 have hclt:=Ux ds e s.after.toNat;have hww:=Qdx ds s.after.toNat
 have hp:(if s.frm=1 then ((cab ds e s.after.toNat).length:Int)-1-s.pos else s.pos)=(plc s.pos s.frm (cab ds e s.after.toNat).length:Nat):=by
  unfold plc;split<;>omega
 have hpl:plc s.pos s.frm (cab ds e s.after.toNat).length<(cab ds e s.after.toNat).length:=QfO (by omega)
 simp[hlt,hcg]
 (repeat' first | omega | (with_reducible apply And.intro) | intro _)
 refine cK (QhR hK s.pos s.frm (cab ds e s.after.toNat).length (by omega) (by omega)) ?_
 rw[hp];have hr:Ul ds e s=QcP ds s (cab ds e s.after.toNat):=rfl;rw[hr];unfold QcP;generalize plc s.pos s.frm (cab ds e s.after.toNat).length=at_ at *;generalize cab ds e s.after.toNat=now at *
 have h1:now[at_]<(XX ds).length:=by
  have:=hclt now[at_] (QKj hpl);rw[YA];omega
 have hm:Qbq ds (now.getD at_ 0)=(XX ds)[now[at_]]:=by
  rw[Qmj ds _ h1]
  grind
 rw[hm];simp[hpl,h1]
 grind
theorem Qol (ds:List Qx) (e:Nat->Int) (pm:IV) (ss:List Xo) (hc:OkD ds ds.length) (hl:ds.length<=1000) (hs:∀ s∈ss,ZV s ds) (hsl:ss.length<=1000):Ev.Good Tryz.prog K 232 [.agg (Vn ds e pm),Qh ss] (.int .i64 (QL ds ss e)):=by
 refine Qb hK QyR (by simp) ?_
 simp;intro _;refine Qe (fun i=>[(2,AV.iv (.ptr (Vn ds e pm))),(5,AV.iv (IV.int IntKind.i64 (QL ds (ss.take i) e:Nat))),(8,AV.iv (Qh ss)),(9,AV.iv (.int .i64 ss.length)),(10,AV.iv (IV.int IntKind.i64 (i:Nat)))]) (fun _=>[]) ss.length (fun i=>True) trivial ?_ ?_
 ·intro _
  rw[Qa Qjw.eq_1];simp
 ·intro i hi _ ih
  have hle:=W2 ds (ss.take i) e;simp at hle;rw[Qa Qjw.eq_1];rw[qx _ _ _ _ hi] at ih;simp[hi] at ih |-;have hg:=Qvm hK ds e pm ss[i] hc hl (hs _ (QKj hi));refine cK (by simpa using hg) ?_
  cases hr:Ul ds e ss[i]
  ·simp[hr] at ih |-
   grind
  ·simp[hr] at ih |-
   grind
theorem Qos (ds:List Qx) (e:Nat->Int) (pm:IV) (hl:ds.length<=1000):Ev.Good Tryz.prog K 162 [.agg (Vn ds e pm)] (ZG (cab ds e ds.length)):=by
 refine Qb hK QzR (by simp) ?_
 have hcg:=Vh ds e ds.length ds.length (by omega)
 simp[hcg];omega
theorem QvF (left all n:Int) (h : -1000000<=left/\left<=1000000):Ev.Good Tryz.prog K 229 [.int .i64 left,.int .i64 all,.ptr [.int .i64 n]] (.bool (decide (inR n 0 (left-1)))):=by
 refine Qb hK QyU (by simp) ?_
 simp
 (repeat' first | omega | (with_reducible apply And.intro) | intro _)
 exact cK (Yn hK _ _ _) (by simp)
theorem Qwl (n:Int):Ev.Good Tryz.prog K 160 [.int .i64 n] (.clo 229 [] [.ptr [.int .i64 n]]):=by
 refine Qb hK QzT (by simp) ?_
 simp
theorem Qu9 (a b:Int):Ev.Good Tryz.prog K 336 [.int .i64 a,.int .i64 b] (.bool true):=by
 refine Qb hK QxQ (by simp) ?_
 simp
theorem Qwk (ds:List Qx) (e:Nat->Int) (pm:IV) (hl:ds.length<=1000) (n:Nat) (hn:n<(cab ds e ds.length).length):Ev.Good Tryz.prog K 161 [.agg (Vn ds e pm),.ptr [.int .i64 n]] (.int .i64 ((cab ds e ds.length)[n]:Nat)):=by
 refine Qb hK QzS (by simp) ?_
 simp;have hg:=Qos hK ds e pm hl;refine cK (by simpa using hg) ?_
 simp[hn]
omit hK
def Z5 (d:Qx):Bool:=decide (d.frm=2)
def Qb7:List Nat->Nat->List (MK × IV)
 | [],_=>[]
 | j::t,r=>(.int .i64 (j:Nat),.int .i64 (r:Nat))::Qb7 t (r+1)
theorem QlL (j:Nat):∀ (l:List Nat) (r:Nat),Qb7 (l++[j]) r=Qb7 l r++[(.int .i64 (j:Nat),.int .i64 ((r+l.length:Nat):Int))]
 | [],r=>by simp[Qb7]
 | a::l,r=>by
   have e:r+1+l.length=r+(l.length+1):=by omega
   simp only[QKs,Qb7,QlL j l (r+1),QKB,e]
@[simp] theorem QlK:∀ (l:List Nat) (r:Nat),(Qb7 l r).length=l.length
 | [],_=>rfl
 | _::l,r=>by simp[Qb7,QlK l (r+1)]
theorem Qdp (j:Nat):∀ (l:List Nat) (r:Nat),j ∉ l->∀ y:IV,mins (.int .i64 (j:Nat)) y (Qb7 l r)=Qb7 l r++[(.int .i64 (j:Nat),y)]
 | [],_,_,y=>rfl
 | a::l,r,h,y=>by
   have h1:¬ a=j:=fun c=>h (by simp[c])
   have h2:=Qdp j l (r+1) (fun c=>h (by simp[c])) y
   have h3:¬ (MK.int .i64 (a:Nat)=MK.int .i64 (j:Nat)):=by simp;omega
   simp only[Qb7,mins,h3,if_false,h2,QKs]
theorem QgV (j:Nat):∀ (l:List Nat) (r:Nat),j∈l->QA (.int .i64 (j:Nat)) (Qb7 l r)=some (.int .i64 ((r+l.idxOf j:Nat):Int))
 | a::l,r,h=>by
   by_cases h1:a=j
   ·subst h1;simp[Qb7,QA]
   ·have h2:j∈l:=by
     grind
    have h3:¬ (MK.int .i64 (a:Nat)=MK.int .i64 (j:Nat)):=by simp;omega
    have e:r+1+l.idxOf j=r+(l.idxOf j+1):=by omega
    have hi:(a::l).idxOf j=l.idxOf j+1:=by
     grind
    simp only[Qb7,QA,h3,if_false,QgV j l (r+1) h2,hi,e]
theorem qu:∀ (l:List Nat) (r:Nat),Zz (some .i64) (Qb7 l r)
 | [],_=>trivial
 | _::l,r=>⟨rfl,qu l (r+1)⟩
def Vd (ds:List Qx):List Nat:=Xr Z5 ds 0
theorem qr (ds:List Qx):(Vd ds).length=Zy ds:=by
 have:∀ (l:List Qx) (i:Nat),(Xr Z5 l i).length=Zy l:=by
  intro l
  induction l with
  | nil=>intro i;rfl
  | cons d l ih =>
    intro i;by_cases h:d.frm=2
    ·simp[Xr,Z5,h,ih,Zy,QLx]
    ·simp[Xr,Z5,h,ih,Zy,QLx]
 exact this ds 0
@[simp] def VX (c:Qk):List IV:=[Qp c.deeds,Qh c.sights,.int .i64 c.wrong,.map (Qb7 (Vd c.deeds) 0)]
include hK
theorem Qic (c:Qk) (hl:c.deeds.length<=1000):Ev.Good Tryz.prog K 166 [chV c] (.agg (VX c)):=by
 refine Qb hK QzN (by simp) ?_
 simp;intro _
 refine Qe (fun i=>[(2,AV.loc 2 0),(3,AV.loc 3 0),(10,AV.iv (Qp c.deeds)),(11,AV.iv (.int .i64 c.deeds.length)),(12,AV.iv (IV.int IntKind.i64 (i:Nat)))])
  (fun i=>[(2,.box [.iv (.sl 5 []),.iv (.sl 5 []),.iv (.int .i64 0),.iv (.map [])]),(3,.box [.iv (Qp c.deeds),.iv (Qh c.sights),.iv (.int .i64 c.wrong),.oref 7]),(7,.mapd (Qb7 (Xr Z5 (c.deeds.take i) 0) 0))]) c.deeds.length (fun i=>True) trivial ?_ ?_
 ·intro _
  rw[Qa Qj0.eq_1];simp[Vd]
 ·intro i hi _ ih
  rw[WA _ _ _ hi] at ih;rw[Qa Qj0.eq_1]
  have hnm:i ∉ Xr Z5 (c.deeds.take i) 0:=fun h=>by
   have:=qk Z5 (c.deeds.take i) 0 i h
   grind
  have hfr:=Qdp i (Xr Z5 (c.deeds.take i) 0) 0 hnm;by_cases hw:c.deeds[i].frm=2
  ·rw[if_pos (by simp[Z5,hw]),QlL] at ih
   simp[hi,hw] at ih |-;rw[hfr];have hkd:=qu (Xr Z5 (c.deeds.take i) 0) 0
   grind
  ·simp[hi,Z5,hw] at ih |-
   grind
end Go.Pf
namespace Go.Ev
open Go Go.RowKit
section
variable {P:Program} {K:World->Prop}
theorem UX {f:FuncId} {e:TypeId} {sz bytes:Nat}
  (hcl:∀ (b off n c:Nat) (news:List Value) (w:World),news.length=n*sz->n<=maxLen->n*bytes<=140737488355328->(∀ (j:Nat) (u:Value),news[j]?=some u->w.cell? ⟨b,off+j,none⟩=some u)->(∀ u∈news,u.oneCell'=true) ->
    Calls P f #[.slice (some ⟨b,off,none⟩) n c] w fun x w'=>∃ v',x=.returned v'/\w'.ownsRow w.heap.size e sz v' n news/\v'≠.slice none 0 0/\Below w.heap.size w w')
  (rows:List (List IV)) (hb:rows.length*bytes<=140737488355328) (hsz:∀ c∈rows,c.length=sz) (hne:rows≠[]):YX P K f [.sl sz rows] (.aref 0 rows.length) e sz rows 0:=by
 intro w ok vs hk hnew hl hvs
 obtain ⟨v0,rfl⟩:∃ v0,vs=[v0]:=by
  match vs,hl with
  | [v],_=>exact ⟨v,rfl⟩
 have hrep:=hvs 0 _ v0 rfl rfl
 have fin:∀ (v':Value) (w':World) (news:List Value),w'.ownsRow w.heap.size e sz v' rows.length news->Below w.heap.size w w'->(∀ u∈news,u.oneCell'=true) ->
   (∀ (i j:Nat) (c:List IV) (x:IV) (u:Value),rows[i]?=some c->c[j]?=some x->news[i*sz+j]?=some u->QZ ok w x u) ->
   ∃ v l,Ending.returned v'=.returned v/\QK (fun b=>b<w.heap.size) (okL ok (one (ZU e sz rows 0)) (fun _=>l)) w' (one (ZU e sz rows 0)) (fun _=>l) (ZU e sz rows 0) l /\
    QJ (okL ok (one (ZU e sz rows 0)) (fun _=>l)) w' (one (ZU e sz rows 0)) (fun _=>l) (ren 0 (.aref 0 rows.length)) v/\Below w.heap.size w w':=by
  intro v' w' news hown hbel hone hcx;have hsl:=Y8 hown;have hge:∀ b,v'.ownBlock=some b->w.heap.size<=b:=fun b h=>(hown.lt b h).1
  have hown0:w'.ownsRow 0 e sz v' rows.length news:=by
   obtain ⟨h1,h2⟩:=hown;refine ⟨h1,?_⟩
   grind
  refine ⟨v',.arr v' news,rfl,⟨⟨by grind,fun b h1 h2=>by grind⟩,QLw _,fun c hc=>?_,hone,fun i j c x u hi hj hu=>?_⟩,?_,hbel⟩
  ·grind
  ·rw[QKp,QKm] at hi
   obtain ⟨d,hd,rfl⟩:=hi;rw[QKp,QKm] at hj;obtain ⟨y,hy,rfl⟩:=hj;refine .iv _ _ ((hcx i j d y u hd hy hu).mono fun b hb hlt=>⟨⟨hb,fun id o _ hh=>?_⟩,hbel.block b hlt⟩)
   grind
  ·have:=QJ.aref (ok:=okL ok (one (ZU e sz rows 0)) (fun _=>.arr v' news)) (w:=w') (lo:=one (ZU e sz rows 0)) (L:=fun _=>.arr v' news) 0 e sz (rows.map (List.map AV.iv)) 0 v' news (by simp[one,ZU]) rfl hsl
   rw[QKz] at this;exact this
 cases hrep with
 | sl _ _ b off cap u hlc hc hs hu hx =>
   refine (hcl b off rows.length cap ((List.range (rows.length*sz)).map u) w (by simp) (by omega) hb (fun j v hj=>?_) (fun v hv=>?_)).mono fun x w' ⟨v',hx',hown,_,hbel⟩=>?_
   all_goals grind
 | _=>grind
end
end Go.Ev
namespace Go.Pf
open Go Go.Ev Go.Proofs Go.RowKit Go.Shelf
set_option maxRecDepth 8000
noncomputable def QFg:TypeInfo:=(Tryz.prog.info? 111).get (by kernel_rfl)
noncomputable def Qs9:TypeInfo:=(Tryz.prog.info? 117).get (by kernel_rfl)
noncomputable def QBC:Value:=Qs9.zero.get (by kernel_rfl)
section
variable {K:World->Prop}
theorem clone64 (l:List Qx) (hl:l.length<=1000) (hne:l≠[]):YX Tryz.prog K 64 [Qp l] (.aref 0 l.length) 111 5 (l.map dC) 0:=by
 have h:=UX (P:=Tryz.prog) (K:=K) (f:=64) (e:=111) (sz:=5) (bytes:=40) (AnyE.slices_Clone Tryz.clone64 QFg (.agg #[.int .i64 0,.int .i64 0,.int .i64 0,.int .i64 0,.int .i64 0]) 5 40 (by kernel_rfl) (by kernel_rfl) (by kernel_rfl) (by kernel_rfl) rfl (by decide) Tryz.sizeOf111) (l.map dC) (by simp;omega) (by simp) (by simpa using hne)
 simpa using h
theorem clone66 (l:List ZE) (hl:l.length<=1000) (hne:l≠[]):YX Tryz.prog K 66 [Qq l] (.aref 0 l.length) 117 3 (l.map leC) 0:=by
 have h:=UX (P:=Tryz.prog) (K:=K) (f:=66) (e:=117) (sz:=3) (bytes:=24) (AnyE.slices_Clone Tryz.clone66 Qs9 QBC 3 24 (by kernel_rfl) (by kernel_rfl) (by kernel_rfl) (by kernel_rfl) (by kernel_rfl) (by decide) Tryz.sizeOf117) (l.map leC) (by simp;omega) (by simp) (by simpa using hne)
 simpa using h
end
end Go.Pf
namespace Go.Pf
open Go Go.Ev Go.Proofs Go.RowKit
variable {K:World->Prop} (hK:∀ w w',K w->Below w.heap.size w w'->K w')
set_option maxRecDepth 8000
def Zs (ds:List Qx) (n:Nat) (i:Nat):Int:=match ds[i]? with
 | some d=>if d.frm=2 then ((n.testBit ((Vd ds).idxOf i)).toNat:Int) else d.frm
 | none=>0
theorem QaD (ds:List Qx) (n i:Nat) (h:i<ds.length):Zs ds n i=if ds[i].frm=2 then ((n.testBit ((Vd ds).idxOf i)).toNat:Int) else ds[i].frm:=by
 simp[Zs,h]
theorem QgN (ds:List Qx) (i:Nat) (h:i<ds.length) (h2:ds[i].frm=2):i∈Vd ds:=by
 have:∀ (l:List Qx) (k i:Nat) (h:i<l.length),l[i].frm=2->k+i∈Xr Z5 l k:=by
  intro l
  induction l with
  | cons d l ih =>
    intro k i h h2;cases i with
    | zero =>
      have h3:d.frm=2:=h2;simp[Xr,Z5,h3]
    | succ i =>
      have:=ih (k+1) i (by simpa using h) (by simpa using h2)
      have e:k+1+i=k+(i+1):=by omega
      rw[e] at this;simp only[Xr]
      grind
  | _=>grind
 simpa[Vd] using this ds 0 i h h2
include hK
theorem Qvn (c:Qk) (n i:Nat) (hn:n<2 ^ 63) (hi:i<c.deeds.length) (h2:c.deeds[i].frm=2):Ev.Good Tryz.prog K 286 [.int .i64 i,.ptr [.int .i64 n],.ptr (VX c)] (.int .i64 (Zs c.deeds n i)):=by
 refine Qb hK Qyg (by simp) ?_
 have hf:=QgV i (Vd c.deeds) 0 (QgN c.deeds i hi h2);have hkk:=qu (Vd c.deeds) 0;rw[QaD _ _ _ hi,if_pos h2];simp only[QKE] at hf;simp[hkk,hf];exact QAB n _ hn
omit hK
def XK (ds:List Qx) (pm:Nat->IV) (n:Nat):List IV:=[.agg (Vn ds (Zs ds n) (pm n))]
theorem Qt3 {n:Nat} (h:n<=12):Qt4 IntKind.i64 1 (n:Int)=((2 ^ n:Nat):Int):=by
 have:n=0\/n=1\/n=2\/n=3\/n=4\/n=5\/n=6\/n=7\/n=8\/n=9\/n=10\/n=11\/n=12:=by omega
 rcases this with rfl | rfl | rfl | rfl | rfl | rfl | rfl | rfl | rfl | rfl | rfl | rfl | rfl<;>decide
include hK
theorem QnP (c:Qk) (pm:Nat->IV) (ht:Zy c.deeds<=12) (h201:∀ n:Nat,n<2 ^ Zy c.deeds->Ev.Good Tryz.prog K 285 [Qp c.deeds,.clo 286 [] [.ptr [.int .i64 n],.ptr (VX c)]] (.agg (Vn c.deeds (Zs c.deeds n) (pm n)))) :
  Qal Tryz.prog K 231 [.agg (VX c)] [] ((List.range (2 ^ Zy c.deeds)).map (XK c.deeds pm)):=by
 intro s b s' hf;have hp:=V5 ht;refine QR QyS (by simp) hf.v rfl ?_
 have hlen:(Qb7 (Vd c.deeds) 0).length=Zy c.deeds:=by rw[QlK,qr]
 simp[qr,Qt3 ht];have hN:0<2 ^ Zy c.deeds:=Nat.pos_of_ne_zero (by simp)
 have hcast:((2:Int) ^ Zy c.deeds)=((2 ^ Zy c.deeds:Nat):Int):=by push_cast;rfl
 rw[hcast];generalize 2 ^ Zy c.deeds=N at *
 refine Ys N (fun i e o=>∃ si,e=[(1,AV.cb 0),(2,AV.iv (.ptr (VX c))),(8,AV.iv (.int .i64 (N:Nat))),(9,AV.iv (.int .i64 (i:Nat)))]/\o=[(0,.ext si)] /\
  ZX Tryz.prog K (((List.range N).drop i).map (XK c.deeds pm)) si b s') ?_ ?_ _ _ ⟨s,rfl,rfl,by simpa using hf⟩
 ·rintro e o ⟨si,rfl,rfl,hfd⟩
  rw[QKM (by simp)] at hfd
  cases hfd;rw[Qa Qjx.eq_1];simp
 ·rintro i e o hi ⟨si,rfl,rfl,hfd⟩ ih
  rw[QKG (by simpa using hi)] at hfd
  simp only[List.getElem_range,QKF] at hfd;have hg:=h201 i hi;rw[Qa Qjx.eq_1];simp[hi];refine Qg0 _ _ _ _ _ _ _ _ ?_;simp;refine cK (by simpa using hg) ?_
  have hst:XK c.deeds pm i=[.agg (Vn c.deeds (Zs c.deeds i) (pm i))]:=rfl;rw[hst] at hfd;simp;cases hfd with
  | stop _ _ _ _ hg =>
    refine Q9 (by simpa using hg) rfl ?_
    simp
  | next _ _ _ s1 _ _ hg hr =>
    refine Q9 (by simpa using hg) rfl ?_
    simp
    (repeat' first | omega | (with_reducible apply And.intro) | intro _)
    exact ih _ _ ⟨s1,by simp,rfl,hr⟩
omit hK
section
variable {K:World->Prop}
def QH (c:Qk):List Nat:=(List.range (2 ^ Zy c.deeds)).filter fun n=>decide ((QL c.deeds c.sights (Zs c.deeds n):Int)<=c.wrong)
theorem Qa3 (hK:∀ w w',K w->Below w.heap.size w w'->K w') {c:Qk} (hc:OkC c) {pm:Nat->IV} {ks:Env} (hks:ZH [2,3] [0,3] ks=[(2,.iv (.ptr (VX c))),(3,.loc 3 0)]) :
  ∀ (Ls:List Nat) (s:Ext) (b:Bool) (s':Ext),ZX Tryz.prog K ((Ls.filter fun n=>decide ((QL c.deeds c.sights (Zs c.deeds n):Int)<=c.wrong)).map (XK c.deeds pm)) s b s' ->
   ∃ wy,(wy=.fall\/wy=.ret)/\Uz Tryz.prog K [7] WS Qb4 [2,3] [0,3] (ZH [2,3] [0,3] ks) (Ls.map (XK c.deeds pm)) [(0,.ext s),(3,.box [.cb 0])] wy [(0,.ext s'),(3,.box [.cb 0])]
 | [],s,b,s',h=>by
   cases h;exact ⟨.fall,.inl rfl,.nil _⟩
 | t::Ls,s,b,s',h=>by
   have hl:=hc.len;have hsl:=hc.slen;have hw:=Qol hK c.deeds (Zs c.deeds t) (pm t) c.sights hc.deeds (by omega) hc.sights (by omega)
   by_cases ht:(QL c.deeds c.sights (Zs c.deeds t):Int)<=c.wrong
   ·rw[QLz (by simpa using ht)] at h
    cases h with
    | stop _ _ _ _ hg =>
      refine ⟨.ret,.inr rfl,.stop _ _ _ _ _ (by simp) ?_⟩
      rw[hks];refine ⟨rfl,?_⟩;simp[XK,WS,Qb4];refine cK (by simpa using hw) ?_
      simp[ht];refine Q9 (by simpa[XK] using hg) rfl ?_
      simp
    | next _ _ _ s1 _ _ hg hr =>
      obtain ⟨wy,h1,h2⟩:=Qa3 hK hc hks Ls s1 b s' hr;refine ⟨wy,h1,.next _ _ _ _ _ _ ?_ h2⟩;rw[hks];refine ⟨rfl,?_⟩;simp[XK,WS,Qb4];refine cK (by simpa using hw) ?_
      simp[ht];refine Q9 (by simpa[XK] using hg) rfl ?_
      simp
   ·rw[QLA (by simpa using ht)] at h
    obtain ⟨wy,h1,h2⟩:=Qa3 hK hc hks Ls s b s' h;refine ⟨wy,h1,.next _ _ _ _ _ _ ?_ h2⟩;rw[hks];refine ⟨rfl,?_⟩;simp[XK,WS,Qb4];refine cK (by simpa using hw) ?_
    simp[ht]
end
def Qg1 (K:World->Prop) (c:Qk) (pm:Nat->IV):Prop:=∀ n:Nat,n<2 ^ Zy c.deeds->Ev.Good Tryz.prog K 285 [Qp c.deeds,.clo 286 [] [.ptr [.int .i64 n],.ptr (VX c)]] (.agg (Vn c.deeds (Zs c.deeds n) (pm n)))
theorem UC (ds:List Qx):Zy ds<=ds.length:=QKI
include hK
theorem qi (c:Qk) (hc:OkC c) (pm:Nat->IV) (ht:Qg1 K c pm):Qal Tryz.prog K 228 [.agg (VX c)] [] ((QH c).map (XK c.deeds pm)):=by
 intro s b s' hfd;have h12:=hc.len;have htw:=UC c.deeds;refine QR QyV (by simp) hfd.v rfl ?_
 obtain ⟨wy,h1,h2⟩:=Qa3 (pm:=pm) hK hc (ks:=[(2,.iv (.ptr (VX c))),(3,.loc 3 0)]) rfl (List.range (2 ^ Zy c.deeds)) s b s' hfd;simp;refine Zb (wy:=wy) (o':=[(0,.ext s'),(3,.box [.cb 0])]) rfl (by kernel_rfl) (QnP hK c pm (by omega) ht) (by simpa using h2) ?_
 rcases h1 with rfl | rfl<;>simp
noncomputable def Z7 (c:Qk) (is:Bool):Int:=if OkC c then (if is=true then (if QH c=[] then 3 else 0) else 1) else 20
theorem QvG (c:Qk) (pm:Nat->IV) (ht:OkC c->Qg1 K c pm) (g:FuncId) (fs cs:List IV) (is:Bool) (hg:OkC c->Ev.Good Tryz.prog K g (fs++[.int .i64 (ZO c.deeds),.int .i64 (Qki c.deeds)]++cs) (.bool is)) (hcg:callee Tryz.prog g=true) (hl:c.deeds.length<=1000) (hs:c.sights.length<=1000) :
  Ev.Good Tryz.prog K 227 [chV c,.clo g fs cs] (.tup [if OkC c/\is=true then .agg (VX c) else .agg [.sl 5 [],.sl 5 [],.int .i64 0,.map []],.int .i64 (Z7 c is)]):=by
 refine Qb hK QpY (by simp) ?_
 simp;refine cK (Qgm hK c hl hs) ?_;by_cases h1:OkC c
 ·simp[h1]
  refine cK (Qie hK c hl) ?_;simp;refine ⟨hcg,cK (by simpa using hg h1) ?_⟩
  cases is
  ·simp[Z7,h1]
  ·simp
   refine cK (by simpa using Qic hK c hl) ?_
   simp;cases hR:QH c with
   | nil =>
     refine Zb (wy:=.fall) (o':=[(4,.box [.iv (.sl 5 []),.iv (.sl 5 []),.iv (.int .i64 0),.iv (.map [])]),(5,.box [.iv (.int .i64 0)]),(7,.box [.iv (Qp c.deeds),.iv (Qh c.sights),.iv (.int .i64 c.wrong),.iv (.map (Qb7 (Vd c.deeds) 0))])]) rfl (by kernel_rfl) (qi hK c h1 pm (ht h1)) (by rw[hR];simpa using Uz.nil _) ?_
     simp[Z7,h1,hR]
   | cons a r =>
     refine Zb (wy:=.ret) (o':=[(4,.box [.iv (Qp c.deeds),.iv (Qh c.sights),.iv (.int .i64 c.wrong),.iv (.map (Qb7 (Vd c.deeds) 0))]),(5,.box [.iv (.int .i64 0)]),(7,.box [.iv (Qp c.deeds),.iv (Qh c.sights),.iv (.int .i64 c.wrong),.iv (.map (Qb7 (Vd c.deeds) 0))])]) rfl (by kernel_rfl) (qi hK c h1 pm (ht h1)) (by
      rw[hR];refine .stop _ _ _ _ _ (by simp) ?_
      refine ⟨rfl,?_⟩;simp[XK,QeP,Qjy]) ?_
     simp[Z7,h1,hR]
 ·simp[h1,Z7]
theorem Qrp (c:Qk) (pm:Nat->IV) (ht:OkC c->Qg1 K c pm) (g:FuncId) (is:Bool) (hg:OkC c->Ev.Good Tryz.prog K g [.int .i64 (ZO c.deeds),.int .i64 (Qki c.deeds)] (.bool is)) (hcg:callee Tryz.prog g=true) (hl:c.deeds.length<=1000) (hs:c.sights.length<=1000) :
  Ev.Good Tryz.prog K 227 [chV c,.fn g] (.tup [if OkC c/\is=true then .agg (VX c) else .agg [.sl 5 [],.sl 5 [],.int .i64 0,.map []],.int .i64 (Z7 c is)]):=by
 refine Qb hK QpY (by simp) ?_
 simp;refine cK (Qgm hK c hl hs) ?_;by_cases h1:OkC c
 ·simp[h1]
  refine cK (Qie hK c hl) ?_;simp;refine ⟨hcg,cK (by simpa using hg h1) ?_⟩
  cases is
  ·simp[Z7,h1]
  ·simp
   refine cK (by simpa using Qic hK c hl) ?_
   simp;cases hR:QH c with
   | nil =>
     refine Zb (wy:=.fall) (o':=[(4,.box [.iv (.sl 5 []),.iv (.sl 5 []),.iv (.int .i64 0),.iv (.map [])]),(5,.box [.iv (.int .i64 0)]),(7,.box [.iv (Qp c.deeds),.iv (Qh c.sights),.iv (.int .i64 c.wrong),.iv (.map (Qb7 (Vd c.deeds) 0))])]) rfl (by kernel_rfl) (qi hK c h1 pm (ht h1)) (by rw[hR];simpa using Uz.nil _) ?_
     simp[Z7,h1,hR]
   | cons a r =>
     refine Zb (wy:=.ret) (o':=[(4,.box [.iv (Qp c.deeds),.iv (Qh c.sights),.iv (.int .i64 c.wrong),.iv (.map (Qb7 (Vd c.deeds) 0))]),(5,.box [.iv (.int .i64 0)]),(7,.box [.iv (Qp c.deeds),.iv (Qh c.sights),.iv (.int .i64 c.wrong),.iv (.map (Qb7 (Vd c.deeds) 0))])]) rfl (by kernel_rfl) (qi hK c h1 pm (ht h1)) (by
      rw[hR];refine .stop _ _ _ _ _ (by simp) ?_
      refine ⟨rfl,?_⟩;simp[XK,QeP,Qjy]) ?_
     simp[Z7,h1,hR]
 ·simp[h1,Z7]
theorem Qvl (c:Qk) (pm:Nat->IV) (ht:OkC c->Qg1 K c pm) (hl:c.deeds.length<=1000) (hs:c.sights.length<=1000):Ev.Good Tryz.prog K 291 [chV c] (.tup [.int .i64 (if Z7 c true=0 then (QH c).length else 0),.int .i64 (Z7 c true)]):=by
 refine Qb hK Qyc (by simp) ?_
 simp;refine cK (Qrp hK c pm ht 336 true (fun _=>Qu9 hK _ _) (by kernel_rfl) hl hs) ?_
 by_cases he:Z7 c true=0
 ·have h1:OkC c:=by
   unfold Z7 at he
   grind
  have hlen:(QH c).length<=4096:=by
   have h1':=QKD (fun n=>decide ((QL c.deeds c.sights (Zs c.deeds n):Int)<=c.wrong)) (List.range (2 ^ Zy c.deeds))
   have h2':=V5 (n:=Zy c.deeds) (by have:=UC c.deeds;have:=h1.len;omega)
   simp at h1';unfold QH;omega
  simp[he,h1];refine Zb (wy:=.fall) (o':=[(6,.box [.iv (.int .i64 ((QH c).length:Nat))])]) rfl (by kernel_rfl) (qi hK c h1 pm (ht h1)) ?_ ?_
  ·have:=Uz.all (P:=Tryz.prog) (K:=K) (ps:=[17]) (asn:=QeN) (body:=QiZ) (ks:=[6]) (ids:=[6]) (eK:=[(6,.loc 6 0)]) ((QH c).map (XK c.deeds pm)) (fun i=>[(6,.box [.iv (.int .i64 (i:Int))])]) fun i x hi=>by
    simp only[QKp,QKm] at hi;obtain ⟨y,hy,rfl⟩:=hi;have hlt:=(QKh.1 hy).1;refine ⟨rfl,?_⟩;simp[XK,QeN,QiZ];omega
   simpa using this
  ·simp
 ·by_cases h1:OkC c<;>simp[he,h1]
theorem Qob (d:Qx):Ev.Good Tryz.prog K 290 [.agg (dC d)] (.bool (Z5 d)):=by
 refine Qb hK Qyd (by simp) ?_
 simp[Z5]
omit hK
def XS (m:Machine) (n:Int):Machine:={ m with llo:=n,lhi:=n }
noncomputable def qO (m:Machine) (k:Nat):List Machine:=if tE (XS m (m.llo+k)) true=0 then [XS m (m.llo+k)] else []
def Qga (m:Machine):List IV:=[maV m]
include hK
theorem Qf8 (m:Machine) (hl:m.levers.length<=1000) (hb:m.bals.length<=1000) (hr:inR m.llo 0 m.lhi) (hr2:m.lhi<=20) (hs:∀ n,OkM (XS m n)->sets (XS m n) m.levers.length<=1000000) :
  Qak Tryz.prog K 238 [maV m,.int .i64 m.levers.length] [] ((acc (qO m) (m.lhi+1-m.llo).toNat).map Qga) (fun b=>.bool b):=by
 intro s b s' hf;refine QR QpW (by simp) hf.v rfl ?_
 rw[QaI] at hf;simp only[inR] at hr;simp;intro _
 refine Ys (m.lhi+1-m.llo).toNat (fun i e o=>∃ si x y,e=[(2,AV.cb 0),(3,AV.iv (.ptr [Qq m.levers,.int .i64 m.water,.int .i64 m.llo,.int .i64 m.lhi,Ze m.bals,.int .i64 m.wrong])),(7,AV.loc 7 0),(8,AV.iv (.int .i64 (m.llo+(i:Nat))))] /\
  o=[(0,.ext si),(7,.box [.iv (Qq m.levers),.iv (.int .i64 m.water),.iv (.int .i64 x),.iv (.int .i64 y),.iv (Ze m.bals),.iv (.int .i64 m.wrong)])] /\
  ZX Tryz.prog K ((XV (qO m) i ((m.lhi+1-m.llo).toNat-i)).map Qga) si b s') ?_ ?_ _ _ ⟨s,m.llo,m.lhi,by simp,by simp,by simpa using hf⟩
 ·rintro e o ⟨si,x,y,rfl,rfl,hfd⟩
  have q1:m.llo+((m.lhi+1-m.llo).toNat:Int)=m.lhi+1:=by omega
  have q2:¬ m.lhi+1<=m.lhi:=by omega
  rw[Nat.sub_self] at hfd;cases hfd;rw[q1,Qa Qjr.eq_1];simp[q2]
 ·rintro i e o hi ⟨si,x,y,rfl,rfl,hfd⟩ ih
  have q1:m.llo+(i:Int)<=m.lhi:=by omega
  have q3:m.llo+((i:Int)+1)=m.llo+i+1:=by omega
  have e1:(m.lhi+1-m.llo).toNat-i=((m.lhi+1-m.llo).toNat-(i+1))+1:=by omega
  rw[e1] at hfd;simp only[XV,QKy] at hfd;have hg:=Qvj hK (XS m (m.llo+i)) hl hb (hs _);rw[Qa Qjr.eq_1];simp[q1];refine QS (by simpa[XS] using hg) (.inr rfl) ?_
  by_cases he:tE (XS m (m.llo+i)) true=0
  ·have hp:qO m i=[XS m (m.llo+i)]:=by simp[qO,he]
   rw[hp] at hfd;simp only[QKF,List.map_nil,List.singleton_append] at hfd;have he':=he;simp only[XS] at he';simp[he'];cases hfd with
   | stop _ _ _ _ hg =>
     refine Q9 (by simpa[Qga,XS] using hg) rfl ?_
     simp
   | next _ _ _ s1 _ _ hg hr2 =>
     refine Q9 (by simpa[Qga,XS] using hg) rfl ?_
     simp
     (repeat' first | omega | (with_reducible apply And.intro) | intro _)
     exact ih _ _ ⟨s1,m.llo+i,m.llo+i,by simp[q3],by simp,hr2⟩
  ·have hp:qO m i=[]:=by simp[qO,he]
   rw[hp] at hfd;simp only[List.map_nil,QKx] at hfd;have he':=he;simp only[XS] at he';simp[he']
   (repeat' first | omega | (with_reducible apply And.intro) | intro _)
   exact ih _ _ ⟨si,m.llo+i,m.llo+i,by simp[q3],by simp,hfd⟩
end Go.Pf
namespace Go.Ev
open Go Go.RowKit Go.Sort
section
variable {P:Program} {K:World->Prop}
@[reducible] def Xp (zs:List Int) (mv:Nat):AO:=.arr 3 1 (zs.map fun z=>[AV.iv (.int .i64 z)]) mv
@[reducible] def Qqs (zs:List Int):IV:=.sl 1 (zs.map fun z=>[IV.int .i64 z])
theorem Qhz {w:World} {g:Nat} {f:Array Value->Array Value} {c:Array Value} {e:TypeId} {fr:Nat × Nat} (h:w.heap[g]?=some (.cells c e fr)):(mapBlock w g f).heap[g]?=some (.cells (f c) e fr):=by
 simp only[mapBlock,Array.getElem?_modify,if_true,h,QLI,onCells]
theorem Qhy {w:World} {g k:Nat} {f:Array Value->Array Value} (h:k≠g):(mapBlock w g f).heap[k]?=w.heap[k]?:=by
 simp only[mapBlock,Array.getElem?_modify,if_neg (Ne.symm h)]
theorem Qd6 {w:World} {g:Nat} {f:Array Value->Array Value}:(mapBlock w g f).heap.size=w.heap.size:=by
 simp only[mapBlock,Array.size_modify]
theorem J0 {Fr:Nat->Prop} {w:World} {g:Nat} {f:Array Value->Array Value} (h:¬ Fr g):Zr Fr w (mapBlock w g f) :=
 ⟨rfl,rfl,rfl,by rw[Qd6];omega,fun k hk=>Qhy fun e=>h (e▸hk)⟩
theorem Xe {Fr:Nat->Prop} {g:Nat} (h:¬ Fr g):∀ (vs:List Value) (o:Nat) (w:World),Zr Fr w (w.setCells g o vs)
 | [],_,w=>Zr.refl _ _
 | v::r,o,w=>by
   rw[World.setCells];have h1:Zr Fr w (w.setCell ⟨g,o,none⟩ v):=by rw[setCell_eq];exact J0 h
   have h2:=Xe h r (o+1) (w.setCell ⟨g,o,none⟩ v);exact ⟨h2.os.trans h1.os,h2.tape.trans h1.tape,h2.output.trans h1.output,QKK h1.size h2.size,fun k hk=>(h2.block k hk).trans (h1.block k hk)⟩
theorem Qdr (w:World) (o:Obj):Zr (fun b=>b<w.heap.size) w (w.alloc o) :=
 ⟨rfl,rfl,rfl,by show _<=(w.heap.push o).size;grind,fun k hk=>by
  show (w.heap.push o)[k]?=_
  grind⟩
structure Qcy (w:World) (v:Value) (zs:List Int) (g cap:Nat) (cur:Array Value):Prop where
 v:v=.slice (some ⟨g,0,none⟩) zs.length cap
 at_:w.heap[g]?=some (.cells cur 3 (0,0))
 le:zs.length<=cap
 max:cap<=maxLen
 size:cur.size=cap
 take:cur.toList.take zs.length=zs.map (.int .i64)
theorem Qcy.cell {w:World} {v:Value} {zs:List Int} {g cap:Nat} {cur:Array Value} (h:Qcy w v zs g cap cur) (j:Nat):w.cell? ⟨g,j,none⟩=cur[j]?:=by
 simp[World.cell?,h.at_]
theorem Qcy.frozen {w:World} {v:Value} {zs:List Int} {g cap:Nat} {cur:Array Value} (h:Qcy w v zs g cap cur) (j:Nat):w.frozen? ⟨g,j,none⟩=false:=by
 simp[World.frozen?,h.at_]
theorem Qcy.get {w:World} {v:Value} {zs:List Int} {g cap:Nat} {cur:Array Value} (h:Qcy w v zs g cap cur) (j:Nat) (hj:j<zs.length):cur[j]?=some (.int .i64 zs[j]):=by
 have h1:(cur.toList.take zs.length)[j]?=some (.int .i64 zs[j]):=by rw[h.take];simp[hj]
 grind
theorem Qcy.holds {w:World} {v:Value} {zs:List Int} {g cap:Nat} {cur:Array Value} (h:Qcy w v zs g cap cur):Holds (Value.int .i64) w g 0 zs.toArray:=by
 intro j hj;have hj':j<zs.length:=by simpa using hj
 refine ⟨?_,by rw[QKE];exact h.frozen j⟩
 rw[QKE,h.cell,h.get j hj',getElem!_pos _ j hj];simp
theorem QkF {Fr ok:Nat->Prop} {w:World} {lo:Nat->Option AO} {L:Nat->Lay} {zs:List Int} {mv:Nat} {l:Lay} (h:QK Fr ok w lo L (Xp zs mv) l) :
  ∃ v xs,l=.arr v xs/\((v=.slice none 0 0/\zs=[])\/∃ g cap cur,Qcy w v zs g cap cur/\¬ Fr g):=by
 cases l with
 | arr v xs =>
   obtain ⟨⟨⟨h1,h2⟩,h3⟩,h4,h5,h6,h7⟩:=h;refine ⟨v,xs,rfl,?_⟩;simp only[QKz] at h1 h2;rcases h2 with ⟨h2,h8⟩ | ⟨g,cap,cur,h8,h9,h10,h11,h12,h13,h14⟩
   ·grind
   ·refine .inr ⟨g,cap,cur,⟨h8,h10,h11,h12,by omega,?_⟩,h3 g (by simp[h8,Value.ownBlock])⟩
    rw[QLT] at h14;rw[h14];refine List.ext_getElem? fun i=>?_
    by_cases hi:i<zs.length
    ·have hx:i<xs.length:=by omega
     rw[QKg hx];have:=h7 i 0 [AV.iv (.int .i64 zs[i])] (.iv (.int .i64 zs[i])) xs[i] (by simp[hi]) (by simp) (by simp[hx])
     cases this with
     | iv _ _ r => 
       generalize hz:xs[i]=z at r;cases r;simp[hi,hz]
    grind
 | _=>exact absurd h (by simp[QK])
theorem QlP {ok:Nat->Prop} {w:World} {lo:Nat->Option AO} {L:Nat->Lay} {zs:List Int} {mv id n:Nat} {v u:Value} {xs:List Value} (hid:lo id=some (Xp zs mv)) (hL:L id=.arr v xs) (hn:n=zs.length) (h:QJ ok w lo L (.aref id n) u):u=v:=by
 grind
theorem Wd {ok:Nat->Prop} {w:World} (zs:List Int) (b cap:Nat) (hcap:zs.length<=cap) (hmax:cap<=maxLen) (hb:ok b) (hc:∀ j z,zs[j]?=some z->w.cell? ⟨b,j,none⟩=some (.int .i64 z)) :
  QZ ok w (Qqs zs) (.slice (some ⟨b,0,none⟩) zs.length cap):=by
 have h:=QZ.sl (ok:=ok) (w:=w) 1 (zs.map fun z=>[IV.int .i64 z]) b 0 cap (fun k=>.int .i64 (zs.getD k 0)) (by simpa using hcap) hmax (by simp) (fun k hk=>?_) (fun i j c x hi hj=>?_)
 ·simpa using h
 ·simp only[QKz,QLT] at hk
  refine ⟨hb,?_,rfl⟩
  grind
 ·rw[QKp,QKm] at hi
  obtain ⟨z,hz,rfl⟩:=hi;cases j with
  | zero =>
    simp at hj;subst hj;rw[QLT,QLv,List.getD_eq_getElem?_getD,hz];exact .int _ _
  | succ j=>simp at hj
theorem Qbv {Fr ok:Nat->Prop} {w:World} {L:Nat->Lay}:QmN Fr ok w (Qc []) L:=⟨by simp[Qc],by simp[Qc]⟩
theorem QdR {f:FuncId}
  (he:∀ (a:Option Addr) (cap:Nat) (w:World),Calls P f #[.slice a 0 cap] w fun e w'=>e=.returned (.tuple #[])/\w'=w)
  (hr:∀ (blk off cap:Nat) (zs:List Int) (w:World),Holds (Value.int .i64) w blk off zs.toArray->zs.length<=9223372036854775807 ->
    Calls P f #[.slice (some ⟨blk,off,none⟩) zs.length cap] w fun e w'=>e=.returned (.tuple #[])/\∃ n,w'=putRow (Value.int .i64) (Sort.ahead w n) blk off zs.reverse.toArray)
  (zs:List Int) (mv:Nat):QU P K f [.aref 0 zs.length] [(0,Xp zs mv)] [0] (.iv (.tup [])) [(0,Xp zs.reverse zs.length)]:=by
 intro w ok L vs hK hnew hown hlaid hvl hvs
 obtain ⟨v0,rfl⟩:∃ v0,vs=[v0]:=by
  match vs,hvl with
  | [v],_=>exact ⟨v,rfl⟩
 have hob:=hlaid.objs 0 (Xp zs mv) rfl;obtain ⟨v,xs,hL,hrow⟩:=QkF hob;have hv:v0=v:=QlP (id:=0) (zs:=zs) (mv:=mv) rfl hL rfl (hvs 0 _ v0 rfl rfl);subst hv
 have fin:∀ (w':World) (xs':List Value),Zr (FrO w (Qc [(0,Xp zs mv)]) L) w w'->YJ (FrO w (Qc [(0,Xp zs mv)]) L) w' 3 1 v0 zs.length xs'->xs'=zs.reverse.map (.int .i64) ->
   ∃ v1 L',(Ending.returned (.tuple #[]):Ending)=.returned v1/\QmN (FrO w (Qc [(0,Xp zs mv)]) L) ok w' (Qc [(0,Xp zs.reverse zs.length)]) L'/\QJ (okL ok (Qc [(0,Xp zs.reverse zs.length)]) L') w' (Qc [(0,Xp zs.reverse zs.length)]) L' (.iv (.tup [])) v1/\Zr (FrO w (Qc [(0,Xp zs mv)]) L) w w' /\
    ∀ i∈[0],∀ o,Qc [(0,Xp zs mv)] i=some o->∃ o',Qc [(0,Xp zs.reverse zs.length)] i=some o'/\Vk o o' (L i) (L' i):=by
  intro w' xs' hk ho hx;refine ⟨.tuple #[],fun _=>.arr v0 xs',rfl,⟨fun id o hid=>?_,fun i j oi oj b hij hi hj=>?_⟩,.iv _ _ (.tup [] [] rfl (by simp)),hk,fun i hi o h=>?_⟩
  ·simp only[Qc] at hid
   split at hid
   ·injection hid with hid
    subst hid;refine ⟨by simpa using ho,by simp,by simp,fun u hu=>?_,fun i j c x u hi hj hu=>?_⟩
    ·rw[hx] at hu
     obtain ⟨z,_,rfl⟩:=QKt.1 hu;rfl
    ·rw[QKp,QKm] at hi
     obtain ⟨z,hz,rfl⟩:=hi;cases j with
     | zero =>
       simp at hj;subst hj;rw[hx,QLT,QLv,QKp,hz] at hu;simp at hu;subst hu;exact .iv _ _ (.int _ _)
     | succ j=>simp at hj
   ·cases hid
  ·simp only[Qc] at hi hj
   grind
  ·simp at hi
   subst hi;simp only[Qc,if_true] at h;injection h with h
   subst h;refine ⟨Xp zs.reverse zs.length,by simp[Qc],?_⟩
   rw[hL];simp[Vk]
 rcases hrow with ⟨rfl,rfl⟩ | ⟨g,cap,cur,hr1,hfr⟩
 ·refine (he none 0 w).mono fun e w' ⟨h1,h2⟩=>?_
  subst h1 h2;exact fin w' [] (Zr.refl _ _) ⟨⟨by simp,.inl ⟨rfl,rfl⟩⟩,by simp[Value.ownBlock]⟩ (by simp)
 ·have hv:=hr1.v
  subst hv;refine (hr g 0 cap zs w hr1.holds (by have:=hr1.max;have:=hr1.le;unfold maxLen at *;omega)).mono fun e w' ⟨h1,n,h2⟩=>?_
  subst h1
  have hk:Zr (FrO w (Qc [(0,Xp zs mv)]) L) w w':=by
   have h3:Zr (FrO w (Qc [(0,Xp zs mv)]) L) (Sort.ahead w n) w':=by rw[h2];exact J0 hfr
   exact ⟨h3.os,h3.tape,h3.output,h3.size,h3.block⟩
  have hh:w'.heap[g]?=some (.cells (putCells (Value.int .i64) 0 zs.reverse.toArray cur) 3 (0,0)):=by
   rw[h2];exact Qhz (w:=Sort.ahead w n) hr1.at_
  refine fin w' _ hk ⟨⟨?_,.inr ⟨g,cap,_,rfl,QLw _,hh,hr1.le,hr1.max,?_,rfl⟩⟩,fun b hb=>?_⟩ ?_
  ·simp[putCells,hr1.size,hr1.le]
  ·simp[putCells,hr1.size]
  ·simp[Value.ownBlock] at hb
   grind
  ·refine List.ext_getElem? fun i=>?_
   rw[QK5];by_cases hi:i<zs.length
   ·have h1:=hr1.size
    have h2:=hr1.le;have h3:i<cur.size:=by omega
    rw[QLT,if_pos hi];simp only[putCells,Array.getElem?_toList,Array.getElem?_mapIdx,QK3 h3,QLI,QKp]
    grind
   grind
theorem QgP {f:FuncId} 
  (hd:∀ (blk off cap i j:Nat) (d:Array Int) (w:World),Holds (Value.int .i64) w blk off d->d.size<=cap->cap<=9223372036854775807->i<=j->j<=d.size ->
    Calls P f #[.slice (some ⟨blk,off,none⟩) d.size cap,.int .i64 i,.int .i64 j] w fun e w'=>e=.returned (.slice (some ⟨blk,off,none⟩) (d.size-(j-i)) cap)/\∃ q,w'=putRow (Value.int .i64) (Sort.ahead w q) blk off (d.toList.take i++d.toList.drop j++List.replicate (j-i) 0).toArray)
  (zs:List Int) (mv:Nat) (i:Nat) (hi:i<zs.length):QU P K f [.aref 0 zs.length,.iv (.int .i64 (i:Nat)),.iv (.int .i64 ((i+1:Nat):Int))] [(0,Xp zs mv)] [] (.iv (Qqs (zs.eraseIdx i))) []:=by
 intro w ok L vs hK hnew hown hlaid hvl hvs
 obtain ⟨v0,v1,v2,rfl⟩:∃ v0 v1 v2,vs=[v0,v1,v2]:=by
  match vs,hvl with
  | [v,u,z],_=>grind
 have hob:=hlaid.objs 0 (Xp zs mv) rfl;obtain ⟨v,xs,hL,hrow⟩:=QkF hob;have hv:v0=v:=QlP (id:=0) (zs:=zs) (mv:=mv) rfl hL rfl (hvs 0 _ v0 rfl rfl);subst hv
 have e1:v1=.int .i64 (i:Nat):=by
  have:=hvs 1 _ v1 rfl rfl;cases this with
  | iv _ _ r=>cases r;rfl
 have e2:v2=.int .i64 ((i+1:Nat):Int):=by
  have:=hvs 2 _ v2 rfl rfl;cases this with
  | iv _ _ r=>cases r;rfl
 subst e1 e2;rcases hrow with ⟨rfl,rfl⟩ | ⟨g,cap,cur,hr1,hfr⟩
 ·simp at hi
 ·have hv:=hr1.v
  subst hv;have hm:=hr1.max;have hle:=hr1.le;have:=hd g 0 cap i (i+1) zs.toArray w hr1.holds (by simpa using hle) (by unfold maxLen at *;omega) (by omega) (by simp;omega)
  have es:zs.toArray.size=zs.length:=by simp
  rw[es] at this;refine this.mono fun e w' ⟨h1,q,h2⟩=>?_
  have hgo:ok g:=hown g ⟨0,Xp zs mv,rfl,by rw[hL];simp[Lay.has,Value.ownBlock]⟩
  have hk:Zr (FrO w (Qc [(0,Xp zs mv)]) L) w w':=by
   have h3:Zr (FrO w (Qc [(0,Xp zs mv)]) L) (Sort.ahead w q) w':=by rw[h2];exact J0 hfr
   exact ⟨h3.os,h3.tape,h3.output,h3.size,h3.block⟩
  have hnew:Holds (Value.int .i64) w' g 0 (zs.take i++zs.drop (i+1)++List.replicate (i+1-i) 0).toArray:=by
   have h3:=holds_putRow (Value.int .i64) (Sort.ahead w q) g 0 zs.toArray (zs.take i++zs.drop (i+1)++List.replicate (i+1-i) 0).toArray (holds_ahead _ w q g 0 _ hr1.holds) (by simp;omega)
   grind
  have hlen:(zs.eraseIdx i).length=zs.length-(i+1-i):=by grind
  subst h1;refine ⟨_,fun _=>.one 0,rfl,Qbv,.iv _ _ ?_,hk,by simp⟩
  rw[<- hlen];refine Wd _ _ _ (by omega) hm ⟨hgo,by simp[Qc]⟩ fun j z hj=>?_
  rw[List.eraseIdx_eq_take_drop_succ] at hj;have hjl:=(QKh.1 hj).1;have h3:=(hnew j (by grind)).1
  grind
theorem Qgd {f:FuncId}
  (hshift:∀ (b n c i vb vc:Nat) (cs:List Value) (x:Value) (w:World),i<n->n+1<=c->c<=9223372036854775807->vb≠b->cs.length=n ->
    (∀ j v,cs[j]?=some v->w.cell? ⟨b,0+j,none⟩=some v)->(∀ j,j<n+1->(w.cell? ⟨b,0+j,none⟩).isSome=true)->(∀ j,j<n+1->w.frozen? ⟨b,0+j,none⟩=false) ->
    (∀ j v,[x][j]?=some v->w.cell? ⟨vb,0+j,none⟩=some v)->(∀ v∈cs,v.oneCell'=true)->(∀ v∈[x],v.oneCell'=true) ->
    ∀ (tA tB:TypeId) (kA kB:Nat),w.shape? vb=some (tA,kA)->w.shape? b=some (tB,kB)->kB≠0->w.frozen? ⟨vb,0,none⟩=false->w.frozen? ⟨vb,kA,none⟩=false ->
    Calls P f #[.slice (some ⟨b,0,none⟩) n c,.int .i64 i,.slice (some ⟨vb,0,none⟩) 1 vc] w fun e w' =>
     e=.returned (.slice (some ⟨b,0,none⟩) (n+1) c)/\w'=(w.drew.setCells b (0+(i+1)) (cs.drop i)).setCells b (0+i) [x])
  (hroom:∀ (b n c vb vc:Nat) (x:Value) (w:World),n+1<=c->c<=9223372036854775807->(∀ j,j<1->(w.cell? ⟨b,0+n+j,none⟩).isSome=true)->(∀ j,j<1->w.frozen? ⟨b,0+n+j,none⟩=false) ->
    (∀ j v,[x][j]?=some v->w.cell? ⟨vb,0+j,none⟩=some v)->(∀ v∈[x],v.oneCell'=true) ->
    Calls P f #[.slice (some ⟨b,0,none⟩) n c,.int .i64 n,.slice (some ⟨vb,0,none⟩) 1 vc] w fun e w' =>
     e=.returned (.slice (some ⟨b,0,none⟩) (n+1) c)/\w'=w.setCells b (0+n) [x])
  (hend:∀ (base:Option Addr) (n c vb vc:Nat) (cs:List Value) (x:Value) (w:World),n<=c->c<n+1->(n+1)*8<=140737488355328->cs.length=n->(base=none->n=0) ->
    (∀ a,base=some a->∀ j v,cs[j]?=some v->w.cell? (a.add j)=some v)->(∀ j v,[x][j]?=some v->w.cell? ⟨vb,0+j,none⟩=some v)->(∀ v∈[x],v.oneCell'=true) ->
    Calls P f #[.slice base n c,.int .i64 n,.slice (some ⟨vb,0,none⟩) 1 vc] w fun e w' =>
     e=.returned (.slice (some ⟨w.heap.size,0,none⟩) (n+1) (grownCap w (n+1) c 3)) /\
     w'=w.drew.alloc (.cells ((cs++[x]).toArray++Builtin.zeroCells (Value.int .i64 0).cells (grownCap w (n+1) c 3-(n+1))) 3))
  (hgrow:∀ (b n c i vb vc:Nat) (cs:List Value) (x:Value) (w:World),i<n->n<=c->c<n+1->(n+1)*8<=140737488355328->cs.length=n ->
    (∀ j v,cs[j]?=some v->w.cell? ⟨b,0+j,none⟩=some v)->(∀ j v,[x][j]?=some v->w.cell? ⟨vb,0+j,none⟩=some v)->(∀ v∈cs,v.oneCell'=true)->(∀ v∈[x],v.oneCell'=true) ->
    Calls P f #[.slice (some ⟨b,0,none⟩) n c,.int .i64 i,.slice (some ⟨vb,0,none⟩) 1 vc] w fun e w' =>
     e=.returned (.slice (some ⟨w.heap.size,0,none⟩) (n+1) (grownCap w (n+1) c 3)) /\
     w'=(((w.alloc (.cells ((cs.take i).toArray++Builtin.zeroCells (Value.int .i64 0).cells (n+1-i)++Builtin.zeroCells (Value.int .i64 0).cells (grownCap w (n+1) c 3-(n+1))) 3)).drew.setCells w.heap.size i [x]).drew).setCells w.heap.size (i+1) (cs.drop i))
  (zs:List Int) (mv:Nat) (i:Nat) (hi:i<=zs.length) (x:Int) (mv':Nat) (hlen:zs.length<=1000000):QU P K f [.aref 0 zs.length,.iv (.int .i64 (i:Nat)),.aref 1 1] [(0,Xp zs mv),(1,Xp [x] mv')] [] (.iv (Qqs (zs.take i++x::zs.drop i))) []:=by
 intro w ok L vs hK hnew hown hlaid hvl hvs
 obtain ⟨v0,v1,v2,rfl⟩:∃ v0 v1 v2,vs=[v0,v1,v2]:=by
  match vs,hvl with
  | [v,u,z],_=>grind
 obtain ⟨v,xs,hL,hrow⟩:=QkF (hlaid.objs 0 (Xp zs mv) rfl);obtain ⟨v',xs',hL',hrow'⟩:=QkF (zs:=[x]) (hlaid.objs 1 (Xp [x] mv') rfl);have hv:v0=v:=QlP (id:=0) (zs:=zs) (mv:=mv) rfl hL rfl (hvs 0 _ v0 rfl rfl);have hv':v2=v':=QlP (id:=1) (zs:=[x]) (mv:=mv') rfl hL' rfl (hvs 2 _ v2 rfl rfl)
 have e1:v1=.int .i64 (i:Nat):=by
  have:=hvs 1 _ v1 rfl rfl;cases this with
  | iv _ _ r=>cases r;rfl
 subst hv hv' e1;have hmax:maxLen=1099511627775\/2000000<=maxLen/\maxLen<=9223372036854775807:=by unfold maxLen;omega
 rcases hrow' with ⟨_,h⟩ | ⟨vb,vc,cur',hr2,hfr2⟩
 ·cases h
 have hv2:=hr2.v;subst hv2
 have hx:∀ j v,[Value.int .i64 x][j]?=some v->w.cell? ⟨vb,0+j,none⟩=some v:=fun j v hj=>by
  cases j with
  | zero =>
    simp at hj;subst hj;rw[hr2.cell,hr2.get 0 (by simp)]
    simp
  | succ j=>simp at hj
 have hone:∀ v∈[Value.int .i64 x],v.oneCell'=true:=by simp[Value.oneCell']
 have hvw:vb<w.heap.size:=(QKr.1 hr2.at_).1;have hlen':(zs.take i++x::zs.drop i).length=zs.length+1:=by simp;omega
 have fresh:∀ (w':World) (cap:Nat),Zr (fun b=>b<w.heap.size) w w'->zs.length+1<=cap->cap<=maxLen->(∀ j z,(zs.take i++x::zs.drop i)[j]?=some z->w'.cell? ⟨w.heap.size,j,none⟩=some (.int .i64 z)) ->
   ∃ v1 L',(Ending.returned (.slice (some ⟨w.heap.size,0,none⟩) (zs.length+1) cap):Ending)=.returned v1/\QmN (FrO w (Qc [(0,Xp zs mv),(1,Xp [x] mv')]) L) ok w' (Qc []) L'/\QJ (okL ok (Qc []) L') w' (Qc []) L' (.iv (Qqs (zs.take i++x::zs.drop i))) v1/\Zr (FrO w (Qc [(0,Xp zs mv),(1,Xp [x] mv')]) L) w w' /\
    ∀ i∈([]:List Nat),∀ o,Qc [(0,Xp zs mv),(1,Xp [x] mv')] i=some o->∃ o',Qc [] i=some o'/\Vk o o' (L i) (L' i):=fun w' cap hk h1 h2 h3=>by
  refine ⟨_,fun _=>.one 0,rfl,Qbv,.iv _ _ ?_,⟨hk.os,hk.tape,hk.output,hk.size,fun k hkk=>hk.block k hkk.1⟩,by simp⟩
  rw[<- hlen'] at h1 |-;exact Wd _ _ _ h1 h2 ⟨hnew _ (QKl _),by simp[Qc]⟩ h3
 have inplace:∀ (g cap:Nat) (cur:Array Value) (w':World),Qcy w v0 zs g cap cur->¬ FrO w (Qc [(0,Xp zs mv),(1,Xp [x] mv')]) L g->Zr (FrO w (Qc [(0,Xp zs mv),(1,Xp [x] mv')]) L) w w'->zs.length+1<=cap->(∀ j z,(zs.take i++x::zs.drop i)[j]?=some z->w'.cell? ⟨g,j,none⟩=some (.int .i64 z)) ->
   ∃ v1 L',(Ending.returned (.slice (some ⟨g,0,none⟩) (zs.length+1) cap):Ending)=.returned v1/\QmN (FrO w (Qc [(0,Xp zs mv),(1,Xp [x] mv')]) L) ok w' (Qc []) L'/\QJ (okL ok (Qc []) L') w' (Qc []) L' (.iv (Qqs (zs.take i++x::zs.drop i))) v1/\Zr (FrO w (Qc [(0,Xp zs mv),(1,Xp [x] mv')]) L) w w' /\
    ∀ i∈([]:List Nat),∀ o,Qc [(0,Xp zs mv),(1,Xp [x] mv')] i=some o->∃ o',Qc [] i=some o'/\Vk o o' (L i) (L' i):=fun g cap cur w' hr1 _ hk h1 h3=>by
  have hgo:ok g:=hown g ⟨0,Xp zs mv,rfl,by rw[hL,hr1.v];simp[Lay.has,Value.ownBlock]⟩
  refine ⟨_,fun _=>.one 0,rfl,Qbv,.iv _ _ ?_,hk,by simp⟩
  have h2:=hr1.max;rw[<- hlen'] at h1 |-;exact Wd _ _ _ h1 h2 ⟨hgo,by simp[Qc]⟩ h3
 have hcs:∀ j,j<zs.length->(zs.map (Value.int .i64))[j]?=some (.int .i64 zs[j]!):=fun j hj=>by simp[hj]
 have onev:∀ v∈zs.map (Value.int .i64),v.oneCell'=true:=fun v hv=>by
  obtain ⟨z,_,rfl⟩:=QKt.1 hv;rfl
 rcases QLu i zs.length with hlt | hge
 ·
  rcases hrow with ⟨_,h⟩ | ⟨g,cap,cur,hr1,hfr⟩
  ·grind
  have hv:=hr1.v;have hm:=hr1.max;have hle:=hr1.le;have hgw:g<w.heap.size:=(QKr.1 hr1.at_).1;have hne:vb≠g:=fun e=>hlaid.apart 0 1 (Xp zs mv) (Xp [x] mv') g (by simp) rfl rfl (by rw[hL,hv];simp[Lay.has,Value.ownBlock]) (by rw[hL',e];simp[Lay.has,Value.ownBlock])
  have hc:∀ j v,(zs.map (Value.int .i64))[j]?=some v->w.cell? ⟨g,0+j,none⟩=some v:=fun j v hj=>by
   rw[QKp,QKm] at hj;obtain ⟨z,hz,rfl⟩:=hj;obtain ⟨h1,h2⟩:=QKh.1 hz;rw[QKE,hr1.cell,hr1.get j h1,h2]
  have hmid:∀ j z,(zs.take i++x::zs.drop i)[j]?=some z->(j<i/\zs[j]?=some z)\/(j=i/\z=x)\/(i+1<=j/\(zs.drop i)[j-(i+1)]?=some z):=fun j z hj=>by
   rcases Nat.lt_trichotomy j i with h | h | h
   ·rw[QKP (by simp;omega),QK5,if_pos h] at hj
    grind
   ·subst h
    rw[QKC (by simp;omega),List.length_take,Nat.min_eq_left (by omega),Nat.sub_self] at hj
    grind
   ·rw[QKC (by simp;omega),List.length_take,Nat.min_eq_left (by omega)] at hj
    obtain ⟨k,rfl⟩:∃ k,j=i+1+k:=⟨j-(i+1),by omega⟩
    rw[show i+1+k-i=k+1 by omega,List.getElem?_cons_succ] at hj
    exact .inr (.inr ⟨by omega,by rw[show i+1+k-(i+1)=k by omega];exact hj⟩)
  rcases QLu zs.length cap with hcap | hcap
  ·
   have hsome:∀ j,j<zs.length+1->(w.cell? ⟨g,0+j,none⟩).isSome=true:=fun j hj=>by
    rw[QKE,hr1.cell,QK3 (by have:=hr1.size;omega)];rfl
   have h0:=hshift g zs.length cap i vb vc (zs.map (.int .i64)) (.int .i64 x) w hlt (by omega) (by omega) hne (by simp) hc hsome (fun j _=>hr1.frozen _) hx onev hone 3 3 cur'.size cur.size
    (by simp[World.shape?,hr2.at_]) (by simp[World.shape?,hr1.at_]) (by have:=hr1.size;omega) (hr2.frozen _) (hr2.frozen _)
   rw[<- hv] at h0;refine h0.mono fun e w' ⟨h1,h2⟩=>?_
   subst h1
   have hk:Zr (FrO w (Qc [(0,Xp zs mv),(1,Xp [x] mv')]) L) w w':=by
    have k1:=Xe (Fr:=FrO w (Qc [(0,Xp zs mv),(1,Xp [x] mv')]) L) hfr ((zs.map (Value.int .i64)).drop i) (0+(i+1)) w.drew;have k2:=Xe (Fr:=FrO w (Qc [(0,Xp zs mv),(1,Xp [x] mv')]) L) hfr [Value.int .i64 x] (0+i) (w.drew.setCells g (0+(i+1)) ((zs.map (Value.int .i64)).drop i));rw[h2];exact ⟨k2.os.trans k1.os,k2.tape.trans k1.tape,k2.output.trans k1.output,QKK k1.size k2.size,fun k hk=>(k2.block k hk).trans (k1.block k hk)⟩
   refine inplace g cap cur w' hr1 hfr hk (by omega) fun j z hj=>?_
   have in1:∀ k,k<((zs.map (Value.int .i64)).drop i).length->(w.drew.cell? ⟨g,0+(i+1)+k,none⟩).isSome=true:=fun k hk=>by
    have:=hsome (i+1+k) (by simp at hk;omega)
    rw[show 0+(i+1)+k=0+(i+1+k) by omega]
    exact this
   have sm1:∀ k,(w.cell? ⟨g,k,none⟩).isSome=true->((w.drew.setCells g (0+(i+1)) ((zs.map (Value.int .i64)).drop i)).cell? ⟨g,k,none⟩).isSome=true:=fun k hk=>by
    by_cases hin:0+(i+1)<=k/\k<0+(i+1)+((zs.map (Value.int .i64)).drop i).length
    ·have:=World.cell?_setCells_in g _ (0+(i+1)) w.drew in1 (k-(0+(i+1))) (by omega)
     rw[show 0+(i+1)+(k-(0+(i+1)))=k by omega] at this
     rw[this];rfl
    ·rw[World.cell?_setCells_out g _ (0+(i+1)) w.drew ⟨g,k,none⟩ (fun _ _=>by grind)]
     exact hk
   rw[h2];rcases hmid j z hj with ⟨h3,h4⟩ | ⟨h3,h4⟩ | ⟨h3,h4⟩
   ·rw[World.cell?_setCells_out g [_] (0+i) _ ⟨g,j,none⟩ (fun _ _=>by grind),World.cell?_setCells_out g _ (0+(i+1)) w.drew ⟨g,j,none⟩ (fun _ _=>by grind)]
    have:=hc j (.int .i64 z) (by simp[h4])
    rw[QKE] at this;exact this
   ·subst h3 h4
    have:=World.cell?_setCells_in g [Value.int .i64 z] (0+j) (w.drew.setCells g (0+(j+1)) ((zs.map (Value.int .i64)).drop j)) (fun k hk=>sm1 _ (by
     have:=hsome j (by omega)
     simp at hk;subst hk;simpa using this)) 0 (by simp)
    simpa using this
   ·obtain ⟨k,rfl⟩:∃ k,j=i+1+k:=⟨j-(i+1),by omega⟩
    rw[show i+1+k-(i+1)=k by omega] at h4
    have hkl:=(QKh.1 h4).1;rw[World.cell?_setCells_out g [_] (0+i) _ ⟨g,i+1+k,none⟩ (fun _ _=>by show i+1+k<_\/_<=i+1+k;simp)]
    have:=World.cell?_setCells_in g ((zs.map (Value.int .i64)).drop i) (0+(i+1)) w.drew in1 k (by simpa using hkl)
    rw[QKE] at this;rw[QKE,this]
    have h5:(List.drop i (zs.map (Value.int .i64)))[k]?=some (.int .i64 z):=by
     rw[<- List.map_drop,QKp,h4];rfl
    rw[QKg (by simpa using hkl)] at h5
    exact h5
  ·
   have hcap':cap=zs.length:=by omega
   have h0:=hgrow g zs.length cap i vb vc (zs.map (.int .i64)) (.int .i64 x) w hlt (by omega) (by omega) (by omega) (by simp) hc hx onev hone
   rw[<- hv] at h0;have hgc1:=grownCap_ge w (zs.length+1) cap 3;have hgc2:=grownCap_le_maxLen w (zs.length+1) cap 3 (by omega)
   generalize grownCap w (zs.length+1) cap 3=G at *;refine h0.mono fun e w' ⟨h1,h2⟩=>?_
   subst h1;obtain ⟨ROW,hROW⟩:∃ ROW:Array Value,ROW=((zs.map (Value.int .i64)).take i).toArray++Builtin.zeroCells (Value.int .i64 0).cells (zs.length+1-i)++Builtin.zeroCells (Value.int .i64 0).cells (G-(zs.length+1)):=⟨_,rfl⟩
   rw[<- hROW] at h2
   have hRs:zs.length+1<=ROW.size:=by
    rw[hROW];simp[Builtin.zeroCells,Value.cells];omega
   have hRt:∀ j z,j<i->zs[j]?=some z->ROW[j]?=some (.int .i64 z):=fun j z hj hz=>by
    rw[hROW,Array.append_assoc,Array.getElem?_append_left (by simp;omega)]
    simp[QK5,hj,hz]
   have hN:∀ j,j<zs.length+1->((w.alloc (.cells ROW 3)).cell? ⟨w.heap.size,j,none⟩).isSome=true:=fun j hj=>by
    rw[World.cell?_alloc_at (w:=w) ROW _ w.heap.size j rfl,QK3 (by omega)];rfl
   obtain ⟨W1,hW1⟩:∃ W1,W1=(w.alloc (.cells ROW 3)).drew.setCells w.heap.size i [Value.int .i64 x]:=⟨_,rfl⟩
   rw[<- hW1] at h2;have hkA:Zr (fun b=>b<w.heap.size) w (w.alloc (.cells ROW 3)):=Qdr w _
   have hk1:Zr (fun b=>b<w.heap.size) w W1:=by
    have k2:=Xe (Fr:=fun b=>b<w.heap.size) (g:=w.heap.size) (by simp) [Value.int .i64 x] i (w.alloc (.cells ROW 3)).drew
    rw[hW1];exact ⟨k2.os.trans hkA.os,k2.tape.trans hkA.tape,k2.output.trans hkA.output,QKK hkA.size k2.size,fun k hk=>(k2.block k hk).trans (hkA.block k hk)⟩
   have hk2:Zr (fun b=>b<w.heap.size) w w':=by
    have k2:=Xe (Fr:=fun b=>b<w.heap.size) (g:=w.heap.size) (by simp) ((zs.map (Value.int .i64)).drop i) (i+1) W1.drew
    rw[h2];exact ⟨k2.os.trans hk1.os,k2.tape.trans hk1.tape,k2.output.trans hk1.output,QKK hk1.size k2.size,fun k hk=>(k2.block k hk).trans (hk1.block k hk)⟩
   have sm1:∀ k,k<zs.length+1->(W1.cell? ⟨w.heap.size,k,none⟩).isSome=true:=fun k hk=>by
    rw[hW1];by_cases hin:k=i
    ·subst hin
     have:=World.cell?_setCells_in w.heap.size [Value.int .i64 x] k (w.alloc (.cells ROW 3)).drew (fun t ht=>by simp at ht;subst ht;exact hN k hk) 0 (by simp)
     rw[QLv] at this;rw[this];rfl
    ·rw[World.cell?_setCells_out w.heap.size [_] i _ ⟨w.heap.size,k,none⟩ (fun _ _=>by show k<_\/_<=k;simp;omega)]
     exact hN k hk
   refine fresh w' G hk2 hgc1 hgc2 fun j z hj=>?_
   have in2:∀ k,k<((zs.map (Value.int .i64)).drop i).length->(W1.drew.cell? ⟨w.heap.size,i+1+k,none⟩).isSome=true:=fun k hk=>sm1 _ (by simp at hk;omega)
   rw[h2];rcases hmid j z hj with ⟨h3,h4⟩ | ⟨h3,h4⟩ | ⟨h3,h4⟩
   ·rw[World.cell?_setCells_out w.heap.size _ (i+1) W1.drew ⟨w.heap.size,j,none⟩ (fun _ _=>by grind)]
    show W1.cell? _=_
    rw[hW1,World.cell?_setCells_out w.heap.size [_] i _ ⟨w.heap.size,j,none⟩ (fun _ _=>by grind)]
    show (w.alloc (.cells ROW 3)).cell? _=_
    rw[World.cell?_alloc_at (w:=w) ROW _ w.heap.size j rfl];exact hRt j z h3 h4
   ·subst h3 h4
    rw[World.cell?_setCells_out w.heap.size _ (j+1) W1.drew ⟨w.heap.size,j,none⟩ (fun _ _=>by grind)]
    show W1.cell? _=_
    rw[hW1];have:=World.cell?_setCells_in w.heap.size [Value.int .i64 z] j (w.alloc (.cells ROW 3)).drew (fun t ht=>by simp at ht;subst ht;exact hN j (by omega)) 0 (by simp)
    simpa using this
   ·obtain ⟨k,rfl⟩:∃ k,j=i+1+k:=⟨j-(i+1),by omega⟩
    rw[show i+1+k-(i+1)=k by omega] at h4
    have hkl:=(QKh.1 h4).1;have:=World.cell?_setCells_in w.heap.size ((zs.map (Value.int .i64)).drop i) (i+1) W1.drew in2 k (by simpa using hkl)
    rw[this]
    have h5:(List.drop i (zs.map (Value.int .i64)))[k]?=some (.int .i64 z):=by
     rw[<- List.map_drop,QKp,h4];rfl
    rw[QKg (by simpa using hkl)] at h5
    exact h5
 ·
  have hie:i=zs.length:=by omega
  subst hie;have hsame:zs.take zs.length++x::zs.drop zs.length=zs++[x]:=by simp
  have grow:∀ (base:Option Addr) (c:Nat),v0=.slice base zs.length c->zs.length<=c->c<zs.length+1->(base=none->zs.length=0)->(∀ a,base=some a->∀ j v,(zs.map (Value.int .i64))[j]?=some v->w.cell? (a.add j)=some v) ->
    Calls P f [v0,Value.int .i64 (zs.length:Nat),Value.slice (some ⟨vb,0,none⟩) [x].length vc].toArray w (fun e w'=>∃ v1 L',e=.returned v1/\QmN (FrO w (Qc [(0,Xp zs mv),(1,Xp [x] mv')]) L) ok w' (Qc []) L'/\QJ (okL ok (Qc []) L') w' (Qc []) L' (.iv (Qqs (zs.take zs.length++x::zs.drop zs.length))) v1/\Zr (FrO w (Qc [(0,Xp zs mv),(1,Xp [x] mv')]) L) w w' /\
     ∀ i∈([]:List Nat),∀ o,Qc [(0,Xp zs mv),(1,Xp [x] mv')] i=some o->∃ o',Qc [] i=some o'/\Vk o o' (L i) (L' i)):=fun base c hv h1 h2 h3 h4=>by
   have h0:=hend base zs.length c vb vc (zs.map (.int .i64)) (.int .i64 x) w h1 h2 (by omega) (by simp) h3 h4 hx hone
   rw[<- hv] at h0;have hgc1:=grownCap_ge w (zs.length+1) c 3;have hgc2:=grownCap_le_maxLen w (zs.length+1) c 3 (by omega)
   generalize grownCap w (zs.length+1) c 3=G at *;refine h0.mono fun e w' ⟨h5,h6⟩=>?_
   subst h5;obtain ⟨ROW,hROW⟩:∃ ROW:Array Value,ROW=(zs.map (Value.int .i64)++[Value.int .i64 x]).toArray++Builtin.zeroCells (Value.int .i64 0).cells (G-(zs.length+1)):=⟨_,rfl⟩
   rw[<- hROW] at h6;refine fresh w' G ?_ hgc1 hgc2 fun j z hj=>?_
   ·rw[h6]
    have:=Qdr w.drew (.cells ROW 3);exact ⟨this.os,this.tape,this.output,this.size,this.block⟩
   ·rw[h6,World.cell?_alloc_at (w:=w.drew) ROW _ w.heap.size j rfl,hROW]
    rw[hsame] at hj;have hjl:=(QKh.1 hj).1;simp at hjl;rw[Array.getElem?_append_left (by simp;omega)]
    have:(zs.map (Value.int .i64)++[Value.int .i64 x])=(zs++[x]).map (.int .i64):=by simp
    rw[this,List.getElem?_toArray,QKp,hj];rfl
  rcases hrow with ⟨h1,h2⟩ | ⟨g,cap,cur,hr1,hfr⟩
  ·subst h2
   grind
  have hv:=hr1.v;have hm:=hr1.max;have hle:=hr1.le;rcases QLu zs.length cap with hcap | hcap
  ·have h0:=hroom g zs.length cap vb vc (.int .i64 x) w (by omega) (by omega) (fun j hj=>by
    rw[hr1.cell,QK3 (by have:=hr1.size;omega)];rfl) (fun j _=>hr1.frozen _) hx hone
   rw[<- hv] at h0;refine h0.mono fun e w' ⟨h1,h2⟩=>?_
   subst h1
   have hk:Zr (FrO w (Qc [(0,Xp zs mv),(1,Xp [x] mv')]) L) w w':=by
    rw[h2];exact Xe hfr _ _ _
   refine inplace g cap cur w' hr1 hfr hk (by omega) fun j z hj=>?_
   rw[hsame] at hj;rw[h2];rcases QLu j zs.length with h | h
   ·rw[QKP h] at hj
    rw[World.cell?_setCells_out g [_] (0+zs.length) _ ⟨g,j,none⟩ (fun _ _=>by grind),hr1.cell,hr1.get j h]
    obtain ⟨h3,h4⟩:=QKh.1 hj;rw[h4]
   ·have hj':j=zs.length:=by have:=(QKh.1 hj).1;grind
    subst hj';simp at hj;subst hj
    have:=World.cell?_setCells_in g [Value.int .i64 x] (0+zs.length) w (fun k hk=>by
     simp at hk;subst hk;rw[hr1.cell,QK3 (by have:=hr1.size;omega)];rfl) 0 (by simp)
    simpa using this
  ·refine grow (some ⟨g,0,none⟩) cap hv hle (by omega) (by simp) (fun a ha j v hj=>?_)
   injection ha with ha
   subst ha;rw[QKp,QKm] at hj;obtain ⟨z,hz,rfl⟩:=hj;obtain ⟨h1,h2⟩:=QKh.1 hz;rw[Addr.add_lit,QKE,hr1.cell,hr1.get j h1,h2]
end
end Go.Ev
set_option linter.unusedVariables false
set_option linter.unusedSimpArgs false
namespace Go.Pf
open Go Go.Proofs Go.Shelf Go.RowKit Go.Lib
theorem i3z:(Tryz.prog.info? 3).map (fun i=>(i.zero,i.size,i.bytes))=some (some (Value.int IntKind.i64 0),1,8):=by kernel_rfl
theorem QkU:Tryz.prog.follows .mixedOrders=true:=by kernel_rfl
set_option maxHeartbeats 4000000 in
set_option maxRecDepth 100000 in
theorem QbB (b off n c i vb voff m vc:Nat) (cs vs:List Value) (w:World) (hi:i<n) (hm:0<m) (hroom:n+m<=c) (hc63:c<=9223372036854775807) (hvb:vb≠b)
  (hcl:cs.length=n) (hvl:vs.length=m)
  (hcs:∀ j v,cs[j]?=some v->w.cell? ⟨b,off+j,none⟩=some v) (hsp:∀ j,j<n+m->(w.cell? ⟨b,off+j,none⟩).isSome=true) (hfz:∀ j,j<n+m->w.frozen? ⟨b,off+j,none⟩=false)
  (hvs:∀ j v,vs[j]?=some v->w.cell? ⟨vb,voff+j,none⟩=some v) (h1c:∀ v∈cs,v.oneCell'=true) (h1v:∀ v∈vs,v.oneCell'=true)
  (tA tB:TypeId) (kA kB:Nat) (hsa:w.shape? vb=some (tA,kA)) (hsb:w.shape? b=some (tB,kB)) (hkB:kB≠0) (hfa:w.frozen? ⟨vb,voff,none⟩=false) (hfe:w.frozen? ⟨vb,kA,none⟩=false) :
  Calls Tryz.prog 331 #[.slice (some ⟨b,off,none⟩) n c,.int .i64 i,.slice (some ⟨vb,voff,none⟩) m vc] w fun e w' =>
   e=.returned (.slice (some ⟨b,off,none⟩) (n+m) c)/\w'=(w.drew.setCells b (off+(i+m)) (cs.drop i)).setCells b (off+i) vs:=by
 have t0:=Tryz.underlying0;have a0:=Tryz.isAgg0;have z0:=Tryz.sizeOf0;have v0:=Tryz.zeroValue0;have t3:=Tryz.underlying3;have a3:=Tryz.isAgg3;have z3:=Tryz.sizeOf3;have v3:=Tryz.zeroValue3;have t4:=Tryz.underlying4;have a4:=Tryz.isAgg4;have z4:=Tryz.sizeOf4;have v4:=Tryz.zeroValue4;have t186:=Tryz.underlying186;have a186:=Tryz.isAgg186;have z186:=Tryz.sizeOf186;have v186:=Tryz.zeroValue186;have t74:=Tryz.underlying74;have a74:=Tryz.isAgg74;have z74:=Tryz.sizeOf74;have v74:=Tryz.zeroValue74;have u0:=run_underlying t0;have u3:=run_underlying t3;have u4:=run_underlying t4;have u186:=run_underlying t186;have u74:=run_underlying t74;have hz1:¬ ((m:Int)=0):=by omega
 have hz2:¬ ((i:Int)=(n:Int)):=by omega
 have hsz:(Tryz.prog.info? 3).map (·.size)=some 1:=by
  obtain ⟨i0,hi0,h0,h1,h2⟩:=info_parts i3z
  grind
 have hov:∀ lb cb,(callFunc 371 #[.slice (some ⟨vb,voff,none⟩) m vc,.slice (some ⟨b,off+(i+m),none⟩) lb cb]).run Tryz.prog w=.ok (.value (.bool false)) w:=fun lb cb=>by
  rw[run_callFunc_extern Tryz.func371 (by kernel_rfl) (by kernel_rfl) (by kernel_rfl) (e:=Extern.SlicesOverlaps.overlaps #[74,74] #[4]) (by kernel_rfl),
   Lib.run_overlaps_apart w 74 4 3 t74 1 z3 ⟨vb,voff,none⟩ ⟨b,off+(i+m),none⟩ m vc lb cb hvb tA tB kA kB hsa hsb hkB hfa hfe]
  rfl
 have hdl:(cs.drop i).length=n-i:=by grind
 have mixed:=QkU;have hw1:IntKind.i64.wrap ((i:Int)+(m:Int))=(i:Int)+(m:Int):=by rw[IntKind.wrap_i64];omega
 have hb1:(0:Int)<=(i:Int)+(m:Int):=by omega
 have hin:i<=n:=by omega
 have htn:((i:Int)+(m:Int)).toNat=i+m:=by omega
 have hb2:¬ (c=i+m):=by omega
 have hb3:(i:Int)<=(n:Int)+(m:Int):=by omega
 have hb4:¬ (c=i):=by omega
 have hcp1:∀ ty dc sc,(Builtin.copy_ #[186,186] ty #[.slice (some ⟨b,off+(i+m),none⟩) (n+m-(i+m)) dc,.slice (some ⟨b,off+i,none⟩) (n+m-i) sc]).run Tryz.prog w.drew=.ok (goInt (cs.drop i).length) (w.drew.setCells b (off+(i+m)) (cs.drop i)):=fun ty dc sc =>
  run_copy_cells w.drew _ _ ty 3 b (off+(i+m)) (n+m-(i+m)) dc ⟨b,off+i,none⟩ (n+m-i) sc (cs.drop i) t186 hsz (by grind)
   (fun j v hj=>by rw[Addr.add_lit,QLo];exact hcs (i+j) v (by grind))
   (fun j hj=>by rw[QLo];exact hsp _ (by omega)) (fun j hj=>by rw[QLo];exact hfz _ (by omega)) (fun v hv=>h1c v (QK2 hv))
 obtain ⟨W1,hW1⟩:∃ W1,W1=w.drew.setCells b (off+(i+m)) (cs.drop i):=⟨_,rfl⟩
 have hsp1:∀ k,k<n+m->(W1.cell? ⟨b,off+k,none⟩).isSome=true:=fun k hk=>by
  rw[hW1];exact isSome_setCells b _ _ _ (fun j hj=>by rw[QLo];exact hsp _ (by omega)) _ (hsp k hk)
 have hcp2:∀ (W:World),(∀ x,W.cell? x=W1.cell? x)->(∀ x,W.frozen? x=W1.frozen? x)->∀ ty dc,(Builtin.copy_ #[186,74] ty #[.slice (some ⟨b,off+i,none⟩) (n+m-i) dc,.slice (some ⟨vb,voff,none⟩) m vc]).run Tryz.prog W=.ok (goInt vs.length) (W.setCells b (off+i) vs):=fun W hWc hWf ty dc =>
  run_copy_cells W _ _ ty 3 b (off+i) (n+m-i) dc ⟨vb,voff,none⟩ m vc vs t186 hsz (by grind)
   (fun j v hj=>by
     rw[Addr.add_lit,hWc,hW1,World.cell?_setCells_out b _ _ _ _ (fun h _=>absurd h hvb)]
     exact hvs j v hj)
   (fun j hj=>by rw[hWc,QLo];exact hsp1 _ (by omega)) (fun j hj=>by rw[hWf,hW1,World.frozen?_setCells,QLo];exact hfz _ (by omega)) h1v
 rw[<- hW1] at hcp1
 go_enter Tryz.func331,Tryz.ntmps331
 go_wp2_with (simp only[hov])
 go_region_law_o (refine step_copy_runI rfl _ _ 186 186 rfl _ _ (by simp[Act.eval,Act.put]) (by simp[Act.eval,Act.put]) (hcp1 _ _ _) ?_)
 go_wp2_with (at_builtin;refine wpList_copy_runI _ rfl _ _ 186 74 rfl _ _ rfl rfl (hcp2 _ (fun _=>rfl) (fun _=>rfl) _ _) ?_)
 go_ret
 first | exact ⟨rfl,rfl⟩ | exact ⟨rfl,by rw[hW1]⟩
set_option maxHeartbeats 4000000 in
set_option maxRecDepth 100000 in
theorem Wx (b off n c vb voff m vc:Nat) (vs:List Value) (w:World) (hm:0<m) (hroom:n+m<=c) (hc63:c<=9223372036854775807)
  (hvl:vs.length=m) (hsp:∀ j,j<m->(w.cell? ⟨b,off+n+j,none⟩).isSome=true) (hfz:∀ j,j<m->w.frozen? ⟨b,off+n+j,none⟩=false)
  (hvs:∀ j v,vs[j]?=some v->w.cell? ⟨vb,voff+j,none⟩=some v) (h1v:∀ v∈vs,v.oneCell'=true) :
  Calls Tryz.prog 331 #[.slice (some ⟨b,off,none⟩) n c,.int .i64 n,.slice (some ⟨vb,voff,none⟩) m vc] w fun e w' =>
   e=.returned (.slice (some ⟨b,off,none⟩) (n+m) c)/\w'=w.setCells b (off+n) vs:=by
 have t0:=Tryz.underlying0;have a0:=Tryz.isAgg0;have z0:=Tryz.sizeOf0;have v0:=Tryz.zeroValue0;have t3:=Tryz.underlying3;have a3:=Tryz.isAgg3;have z3:=Tryz.sizeOf3;have v3:=Tryz.zeroValue3;have t4:=Tryz.underlying4;have a4:=Tryz.isAgg4;have z4:=Tryz.sizeOf4;have v4:=Tryz.zeroValue4;have t186:=Tryz.underlying186;have a186:=Tryz.isAgg186;have z186:=Tryz.sizeOf186;have v186:=Tryz.zeroValue186;have t74:=Tryz.underlying74;have a74:=Tryz.isAgg74;have z74:=Tryz.sizeOf74;have v74:=Tryz.zeroValue74;have u0:=run_underlying t0;have u3:=run_underlying t3;have u4:=run_underlying t4;have u186:=run_underlying t186;have u74:=run_underlying t74;have mixed:=QkU;have hz1:¬ ((m:Int)=0):=by omega
 have hsrc:Src Tryz.prog 1 74 (.slice (some ⟨vb,voff,none⟩) m vc) m vs w:=Src.ofSlice w t74 ⟨vb,voff,none⟩ m vc vs (by omega) (fun j u hj=>by rw[Addr.add_lit];exact hvs j u hj) h1v
 go_enter Tryz.func331,Tryz.ntmps331
 go_wp2_with (at_builtin;refine wpList_append_room1 _ rfl _ _ 186 74 rfl 3 _ _ t186 i3z b off n c rfl _ rfl m vs hsrc hroom (by grind) (by grind) ?_)
 go_ret
 exact ⟨rfl,rfl⟩
set_option maxHeartbeats 4000000 in
set_option maxRecDepth 100000 in
theorem Wz (base:Option Addr) (n c vb voff m vc:Nat) (cs vs:List Value) (w:World) (hm:0<m) (hnc:n<=c) (hroom:c<n+m) (hbig:(n+m)*8<=140737488355328)
  (hcl:cs.length=n) (hvl:vs.length=m) (hnil:base=none->n=0)
  (hcs:∀ a,base=some a->∀ j v,cs[j]?=some v->w.cell? (a.add j)=some v)
  (hvs:∀ j v,vs[j]?=some v->w.cell? ⟨vb,voff+j,none⟩=some v) (h1v:∀ v∈vs,v.oneCell'=true) :
  Calls Tryz.prog 331 #[.slice base n c,.int .i64 n,.slice (some ⟨vb,voff,none⟩) m vc] w fun e w' =>
   e=.returned (.slice (some ⟨w.heap.size,0,none⟩) (n+m) (grownCap w (n+m) c 3)) /\
   w'=w.drew.alloc (.cells ((cs++vs).toArray++Builtin.zeroCells (Value.int .i64 0).cells (grownCap w (n+m) c 3-(n+m))) 3):=by
 have t0:=Tryz.underlying0;have a0:=Tryz.isAgg0;have z0:=Tryz.sizeOf0;have v0:=Tryz.zeroValue0;have t3:=Tryz.underlying3;have a3:=Tryz.isAgg3;have z3:=Tryz.sizeOf3;have v3:=Tryz.zeroValue3;have t4:=Tryz.underlying4;have a4:=Tryz.isAgg4;have z4:=Tryz.sizeOf4;have v4:=Tryz.zeroValue4;have t186:=Tryz.underlying186;have a186:=Tryz.isAgg186;have z186:=Tryz.sizeOf186;have v186:=Tryz.zeroValue186;have t74:=Tryz.underlying74;have a74:=Tryz.isAgg74;have z74:=Tryz.sizeOf74;have v74:=Tryz.zeroValue74;have u0:=run_underlying t0;have u3:=run_underlying t3;have u4:=run_underlying t4;have u186:=run_underlying t186;have u74:=run_underlying t74;have mixed:=QkU;obtain ⟨i0,hi0,hz0,hzs,hzb⟩:=info_parts i3z;have hz1:¬ ((m:Int)=0):=by omega
 have hsrc:Src Tryz.prog i0.size 74 (.slice (some ⟨vb,voff,none⟩) m vc) m vs w:=by
  rw[hzs];exact Src.ofSlice w t74 ⟨vb,voff,none⟩ m vc vs (by omega) (fun j u hj=>by rw[Addr.add_lit];exact hvs j u hj) h1v
 have hold:(Builtin.firstCells i0.size n (.slice base n c)).run Tryz.prog w.drew=.ok cs.toArray w.drew:=by
  rw[hzs];cases base with
  | none =>
    have h0:=hnil rfl;subst h0;rw[List.length_eq_zero_iff.1 hcl];exact run_firstCells_none w.drew 1 0 0 c
  | some a=>exact run_firstCells_some w.drew 1 n a n c cs (by omega) (fun j v hj=>hcs a rfl j v hj)
 have hrun:∀ ty,(Builtin.append_ #[186,74] ty #[.slice base n c,.slice (some ⟨vb,voff,none⟩) m vc]).run Tryz.prog w=_:=fun ty =>
  run_append_grow_src w 186 74 ty 3 i0 _ t186 hi0 hz0 base n c cs hold _ m vs hsrc hroom (by omega) (by rw[hzb];exact growslice_fits hroom hbig)
 go_enter Tryz.func331,Tryz.ntmps331
 cases base with
 | none =>
   have h0:=hnil rfl;subst h0
   go_wp2_with (at_builtin;refine Lib.wpList_append_run _ rfl _ _ _ _ rfl _ _ rfl rfl _ _ (hrun _) ?_)
   go_ret
   exact ⟨rfl,rfl⟩
 | some a =>
   obtain ⟨ab,ao,asp⟩:=a
   go_wp2_with (at_builtin;refine Lib.wpList_append_run _ rfl _ _ _ _ rfl _ _ rfl rfl _ _ (hrun _) ?_)
   all_goals (go_ret;exact ⟨rfl,rfl⟩)
set_option maxHeartbeats 4000000 in
set_option maxRecDepth 100000 in
theorem Qcm (b off n c i vb voff m vc:Nat) (cs vs:List Value) (w:World) (hi:i<n) (hm:0<m) (hnc:n<=c) (hroom:c<n+m) (hbig:(n+m)*8<=140737488355328)
  (hcl:cs.length=n) (hvl:vs.length=m)
  (hcs:∀ j v,cs[j]?=some v->w.cell? ⟨b,off+j,none⟩=some v)
  (hvs:∀ j v,vs[j]?=some v->w.cell? ⟨vb,voff+j,none⟩=some v) (h1c:∀ v∈cs,v.oneCell'=true) (h1v:∀ v∈vs,v.oneCell'=true) :
  Calls Tryz.prog 331 #[.slice (some ⟨b,off,none⟩) n c,.int .i64 i,.slice (some ⟨vb,voff,none⟩) m vc] w fun e w' =>
   e=.returned (.slice (some ⟨w.heap.size,0,none⟩) (n+m) (grownCap w (n+m) c 3)) /\
   w'=(((w.alloc (.cells ((cs.take i).toArray++Builtin.zeroCells (Value.int .i64 0).cells (n+m-i)++Builtin.zeroCells (Value.int .i64 0).cells (grownCap w (n+m) c 3-(n+m))) 3)).drew.setCells w.heap.size i vs).drew).setCells w.heap.size (i+m) (cs.drop i):=by
 have t0:=Tryz.underlying0;have a0:=Tryz.isAgg0;have z0:=Tryz.sizeOf0;have v0:=Tryz.zeroValue0;have t3:=Tryz.underlying3;have a3:=Tryz.isAgg3;have z3:=Tryz.sizeOf3;have v3:=Tryz.zeroValue3;have t4:=Tryz.underlying4;have a4:=Tryz.isAgg4;have z4:=Tryz.sizeOf4;have v4:=Tryz.zeroValue4;have t186:=Tryz.underlying186;have a186:=Tryz.isAgg186;have z186:=Tryz.sizeOf186;have v186:=Tryz.zeroValue186;have t74:=Tryz.underlying74;have a74:=Tryz.isAgg74;have z74:=Tryz.sizeOf74;have v74:=Tryz.zeroValue74;have u0:=run_underlying t0;have u3:=run_underlying t3;have u4:=run_underlying t4;have u186:=run_underlying t186;have u74:=run_underlying t74;have mixed:=QkU;obtain ⟨i0,hi0,hz0,hzs,hzb⟩:=info_parts i3z;have hz1:¬ ((m:Int)=0):=by omega
 have hz2:¬ ((i:Int)=(n:Int)):=by omega
 have hz3:(c:Int)<(n:Int)+(m:Int):=by omega
 have hsz:(Tryz.prog.info? 3).map (·.size)=some 1:=by grind
 have hbw:b<w.heap.size:=block_lt_of_cell (hcs 0 _ (QKg (by omega)))
 have hvw:vb<w.heap.size:=block_lt_of_cell (hvs 0 _ (QKg (by omega)))
 have hkk:(n:Int)+(m:Int)-(i:Int)=((n+m-i:Nat):Int):=by omega
 have hik:i+(n+m-i)=n+m:=by omega
 have hold:(Builtin.firstCells i0.size i (.slice (some ⟨b,off,none⟩) i c)).run Tryz.prog w.drew=.ok (cs.take i).toArray w.drew:=by
  rw[hzs]
  exact run_firstCells_some w.drew 1 i ⟨b,off,none⟩ i c (cs.take i) (by grind) (fun j v hj=>by
   rw[Addr.add_lit];rw[QK5] at hj;split at hj
   ·exact hcs j v hj
   ·cases hj)
 have hrz:∀ ty,(Builtin.append_ #[186,3] ty #[.slice (some ⟨b,off,none⟩) i c,.int .i64 ((n:Int)+(m:Int)-(i:Int))]).run Tryz.prog w =
   .ok (.slice (some ⟨w.heap.size,0,none⟩) (n+m) (grownCap w (n+m) c 3)) (w.drew.alloc (.cells ((cs.take i).toArray++Builtin.zeroCells (Value.int .i64 0).cells (n+m-i)++Builtin.zeroCells (Value.int .i64 0).cells (grownCap w (n+m) c 3-(n+m))) 3)):=fun ty=>by
  have h:=Lib.run_append_grow_zeros w 186 3 ty 3 i0 _ .i64 .i64 t186 t3 hi0 hz0 (some ⟨b,off,none⟩) i c (cs.take i) hold (n+m-i) (by omega) (by omega) (by omega) (by omega) (by rw[hzb];omega) (by rw[hzb,hik];exact growslice_fits hroom hbig)
  grind
 obtain ⟨G,hG⟩:∃ G,G=grownCap w (n+m) c 3:=⟨_,rfl⟩
 obtain ⟨ROW,hROW⟩:∃ ROW:Array Value,ROW=(cs.take i).toArray++Builtin.zeroCells (Value.int .i64 0).cells (n+m-i)++Builtin.zeroCells (Value.int .i64 0).cells (G-(n+m)):=⟨_,rfl⟩
 rw[<- hG] at hrz |-;rw[<- hROW] at hrz |-
 have hRl:n+m<=ROW.size:=by
  rw[hROW];simp[Builtin.zeroCells,Value.cells];omega
 obtain ⟨W1,hW1⟩:∃ W1,W1=w.drew.alloc (.cells ROW 3):=⟨_,rfl⟩
 rw[<- hW1] at hrz
 have hN:∀ j,j<n+m->(W1.cell? ⟨w.heap.size,j,none⟩).isSome=true:=fun j hj=>by
  rw[hW1,World.cell?_alloc_at (w:=w.drew) ROW _ w.heap.size j rfl,QK3 (by omega)];rfl
 have hNf:∀ j,W1.frozen? ⟨w.heap.size,j,none⟩=false:=fun j=>by rw[hW1];exact World.frozen?_alloc_at (w:=w.drew) ROW _ w.heap.size j rfl
 have hOb:∀ j v,w.cell? ⟨b,j,none⟩=some v->W1.cell? ⟨b,j,none⟩=some v:=fun j v h=>by rw[hW1,World.cell?_alloc_past (w:=w.drew) _ b j hbw];exact h
 have hOv:∀ j v,w.cell? ⟨vb,j,none⟩=some v->W1.cell? ⟨vb,j,none⟩=some v:=fun j v h=>by rw[hW1,World.cell?_alloc_past (w:=w.drew) _ vb j hvw];exact h
 have hcpA:∀ (W:World),(∀ x,W.cell? x=W1.cell? x)->(∀ x,W.frozen? x=W1.frozen? x)->∀ ty dc,(Builtin.copy_ #[186,74] ty #[.slice (some ⟨w.heap.size,i,none⟩) (n+m-i) dc,.slice (some ⟨vb,voff,none⟩) m vc]).run Tryz.prog W=.ok (goInt vs.length) (W.setCells w.heap.size i vs):=fun W hWc hWf ty dc =>
  run_copy_cells W _ _ ty 3 w.heap.size i (n+m-i) dc ⟨vb,voff,none⟩ m vc vs t186 hsz (by grind)
   (fun j v hj=>by rw[Addr.add_lit,hWc];grind)
   (fun j hj=>by grind) (fun j hj=>by grind) h1v
 have hGn:n+m<=G:=by rw[hG];exact grownCap_ge w _ _ _
 have hG63:G<=9223372036854775807:=by
  have:=grownCap_le_maxLen w (n+m) c 3 (by unfold maxLen;omega)
  rw[<- hG] at this;unfold maxLen at this;omega
 have hGi:¬ (G=i):=by omega
 have hGim:¬ (G=i+m):=by omega
 have hci:¬ (c=i):=by omega
 have hbN:b≠w.heap.size:=by omega
 have hdl:(cs.drop i).length=n-i:=by grind
 have hcpB:∀ (W:World),(∀ x,W.cell? x=(W1.setCells w.heap.size i vs).cell? x)->(∀ x,W.frozen? x=(W1.setCells w.heap.size i vs).frozen? x)->∀ ty dc sc,(Builtin.copy_ #[186,186] ty #[.slice (some ⟨w.heap.size,i+m,none⟩) (n+m-(i+m)) dc,.slice (some ⟨b,off+i,none⟩) (n-i) sc]).run Tryz.prog W=.ok (goInt (cs.drop i).length) (W.setCells w.heap.size (i+m) (cs.drop i)):=fun W hWc hWf ty dc sc =>
  run_copy_cells W _ _ ty 3 w.heap.size (i+m) (n+m-(i+m)) dc ⟨b,off+i,none⟩ (n-i) sc (cs.drop i) t186 hsz (by grind)
   (fun j v hj=>by
     rw[Addr.add_lit,hWc,World.cell?_setCells_out _ _ _ _ _ (fun h _=>absurd h hbN),QLo]
     grind)
   (fun j hj=>by rw[hWc];exact isSome_setCells _ _ _ _ (fun t ht=>hN _ (by omega)) _ (hN _ (by omega)))
   (fun j hj=>by rw[hWf,World.frozen?_setCells];exact hNf _) (fun v hv=>h1c v (QK2 hv))
 subst hW1;have hE1:∀ x,((w.alloc (.cells ROW 3)).drew).cell? x=(w.drew.alloc (.cells ROW 3)).cell? x:=fun x=>rfl
 have hE2:∀ x,((w.alloc (.cells ROW 3)).drew).frozen? x=(w.drew.alloc (.cells ROW 3)).frozen? x:=fun x=>rfl
 have hF1:∀ x,(((w.alloc (.cells ROW 3)).drew.setCells w.heap.size i vs).drew).cell? x=((w.drew.alloc (.cells ROW 3)).setCells w.heap.size i vs).cell? x:=fun x=>rfl
 have hF2:∀ x,(((w.alloc (.cells ROW 3)).drew.setCells w.heap.size i vs).drew).frozen? x=((w.drew.alloc (.cells ROW 3)).setCells w.heap.size i vs).frozen? x:=fun x=>rfl
 have hw1:IntKind.i64.wrap ((i:Int)+(m:Int))=(i:Int)+(m:Int):=by rw[IntKind.wrap_i64];omega
 have hb1:(0:Int)<=(i:Int)+(m:Int):=by omega
 have hin:i<=n:=by omega
 have htn:((i:Int)+(m:Int)).toNat=i+m:=by omega
 have hb3:(i:Int)<=(n:Int):=by omega
 clear hkk hik hold hROW hG hRl
 go_enter Tryz.func331,Tryz.ntmps331
 go_wp2_with (first
  | (at_builtin;refine Lib.wpList_append_run _ rfl _ _ _ _ rfl _ _ rfl rfl _ _ (hrz _) ?_)
  | (at_builtin;refine wpList_copy_runI _ rfl _ _ 186 74 rfl _ _ rfl rfl (hcpA _ hE1 hE2 _ _) ?_)
  | (at_builtin;refine wpList_copy_runI _ rfl _ _ 186 186 rfl _ _ rfl rfl (hcpB _ (fun _=>rfl) (fun _=>rfl) _ _ _) ?_))
 go_region_law_o (refine step_copy_runI rfl _ _ 186 186 rfl (.slice (some ⟨w.heap.size,i+m,none⟩) (n+m-(i+m)) (G-(i+m))) (.slice (some ⟨b,off+i,none⟩) (n-i) (c-i)) (by simp[Act.eval,Act.put]) (by simp[Act.eval,Act.put]) (hcpB _ hF1 hF2 3 (G-(i+m)) (c-i)) ?_)
 go_wp2
 go_ret
 exact ⟨rfl,rfl⟩
end Go.Pf
namespace Go.Pf
open Go Go.Ev Go.Proofs Go.RowKit Go.Shelf
set_option maxRecDepth 8000
noncomputable def QEL:TypeInfo:=(Tryz.prog.info? 3).get (by kernel_rfl)
section
variable {K:World->Prop}
theorem Qq1 (zs:List Int) (mv:Nat):QU Tryz.prog K 334 [.aref 0 zs.length] [(0,Xp zs mv)] [0] (.iv (.tup [])) [(0,Xp zs.reverse zs.length)] :=
 QdR (fun a cap w=>AnyE.slices_Reverse_empty Tryz.rev334 a cap w) (fun blk off cap zs w hh hl=>AnyE.slices_Reverse Tryz.rev334 (Value.int .i64) (fun _=>rfl) blk off cap zs w hh hl) zs mv
theorem Qq2 (zs:List Int) (mv i:Nat) (hi:i<zs.length):QU Tryz.prog K 333 [.aref 0 zs.length,.iv (.int .i64 (i:Nat)),.iv (.int .i64 ((i+1:Nat):Int))] [(0,Xp zs mv)] [] (.iv (Qqs (zs.eraseIdx i))) [] :=
 QgP (fun blk off cap i j d w hh h1 h2 h3 h4=>AnyE.slices_Delete Tryz.del333 (Value.int .i64) (fun _=>rfl) 0 Tryz.zeroValue3 QEL (by kernel_rfl) (by kernel_rfl) blk off cap i j d w hh h1 h2 h3 h4) zs mv i hi
theorem Qq3 (zs:List Int) (mv i:Nat) (hi:i<=zs.length) (x:Int) (mv':Nat) (hlen:zs.length<=1000000):QU Tryz.prog K 331 [.aref 0 zs.length,.iv (.int .i64 (i:Nat)),.aref 1 1] [(0,Xp zs mv),(1,Xp [x] mv')] [] (.iv (Qqs (zs.take i++x::zs.drop i))) [] :=
 Qgd
  (fun b n c i vb vc cs x w h1 h2 h3 h4 h5 h6 h7 h8 h9 h10 h11 tA tB kA kB h12 h13 h14 h15 h16=>QbB b 0 n c i vb 0 1 vc cs [x] w h1 (by omega) h2 h3 h4 h5 rfl h6 h7 h8 h9 h10 h11 tA tB kA kB h12 h13 h14 h15 h16)
  (fun b n c vb vc x w h1 h2 h3 h4 h5 h6=>Wx b 0 n c vb 0 1 vc [x] w (by omega) h1 h2 rfl h3 h4 h5 h6)
  (fun base n c vb vc cs x w h1 h2 h3 h4 h5 h6 h7 h8=>Wz base n c vb 0 1 vc cs [x] w (by omega) h1 h2 h3 h4 rfl h5 h6 h7 h8)
  (fun b n c i vb vc cs x w h1 h2 h3 h4 h5 h6 h7 h8 h9=>Qcm b 0 n c i vb 0 1 vc cs [x] w h1 (by omega) h2 h3 h4 h5 rfl h6 h7 h8 h9)
  zs mv i hi x mv' hlen
end
end Go.Pf
namespace Go.Pf
open Go Go.Ev Go.Proofs Go.RowKit
variable {K:World->Prop} (hK:∀ w w',K w->Below w.heap.size w w'->K w')
set_option maxRecDepth 8000
def QsO (i:Nat) (kvs:List (MK × List (List IV))) (n:Nat):List (MK × List (List IV)):=mins (.int .i64 (n:Int)) (((QA (.int .i64 (n:Int)) kvs).getD [])++[[.int .i64 (i:Nat)]]) kvs
def prf (ds:List Qx) (e:Nat->Int):Nat->List (MK × List (List IV))
 | 0=>[]
 | i+1=>match ds[i]? with
   | some d=>if d.what=4 then (cab ds e i).foldl (QsO i) (prf ds e i) else prf ds e i
   | none=>prf ds e i
theorem QkL (ds:List Qx) (e:Nat->Int) (i:Nat) (h:i<ds.length):prf ds e (i+1)=if ds[i].what=4 then (cab ds e i).foldl (QsO i) (prf ds e i) else prf ds e i:=by
 simp only[prf,QKg h]
theorem JH (n:Int) (y:List (List IV)):∀ kvs:List (MK × List (List IV)),Zz (some .i64) kvs->Zz (some .i64) (mins (.int .i64 n) y kvs)
 | [],_=>⟨rfl,trivial⟩
 | p::r,h=>by
   unfold mins;split
   ·exact ⟨rfl,h.2⟩
   ·exact ⟨h.1,JH n y r h.2⟩
theorem VR (k j:MK) (y:List (List IV)):∀ kvs:List (MK × List (List IV)),QA j (mins k y kvs)=if k=j then some y else QA j kvs
 | []=>by simp[mins,QA]
 | p::r=>by
   unfold mins;split
   ·rename_i h
    simp only[QA]
    grind
   ·rename_i h
    simp only[QA,VR k j y r]
    grind
def Low (m:Nat) (kvs:List (MK × List (List IV))):Prop:=Zz (some .i64) kvs/\∀ k rows,QA k kvs=some rows->rows.length<=m
theorem Low.add {m i:Nat} {kvs:List (MK × List (List IV))} (h:Low m kvs) (n:Nat):Low (m+1) (QsO i kvs n):=by
 refine ⟨JH _ _ _ h.1,fun k rows hk=>?_⟩
 unfold QsO at hk;rw[VR] at hk;split at hk
 ·injection hk with hk
  subst hk;cases hf:QA (.int .i64 (n:Int)) kvs with
  | none=>simp
  | some r=>have:=h.2 _ _ hf;simp;omega
 ·have:=h.2 _ _ hk;omega
theorem Low.fold {i:Nat}:∀ (l:List Nat) {m:Nat} {kvs:List (MK × List (List IV))},Low m kvs->Low (m+l.length) (l.foldl (QsO i) kvs)
 | [],m,kvs,h=>h
 | n::l,m,kvs,h=>by
   have:=Low.fold (i:=i) l (h.add (i:=i) n)
   grind
theorem Low.mono {m m':Nat} {kvs:List (MK × List (List IV))} (h:Low m kvs) (hm:m<=m'):Low m' kvs:=⟨h.1,fun k rows hk=>QKK (h.2 k rows hk) hm⟩
theorem Qnm (ds:List Qx) (e:Nat->Int) (hc:OkD ds ds.length):∀ i,i<=ds.length->Low (i*ds.length) (prf ds e i)
 | 0,_=>⟨trivial,fun k rows h=>by simp[prf,QA] at h⟩
 | i+1,h=>by
   have ih:=Qnm ds e hc i (by omega)
   rw[QkL ds e i (by omega)]
   have e1:(i+1)*ds.length=i*ds.length+ds.length:=by grind
   rw[e1];split
   ·have hcl:=ZP e hc i (by omega) (by omega)
    have hcb:=hc.cnt i (by omega) (by omega)
    exact (ih.fold _).mono (by omega)
   ·exact ih.mono (by omega)
theorem Low.len {m:Nat} {kvs:List (MK × List (List IV))} (h:Low m kvs) (k:MK):((QA k kvs).getD []).length<=m:=by
 cases hf:QA k kvs with
 | none=>simp
 | some r=>exact h.2 _ _ hf
theorem QhC (ds:List Qx) (i:Nat) (h:i<ds.length):XX (ds.take (i+1))=if ds[i].what=1 then XX (ds.take i)++[ds[i]] else XX (ds.take i):=by
 rw[QKf h];unfold XX;rw[QLj];generalize List.filter Q5 (List.take i ds)=l;by_cases hw:ds[i].what=1<;>simp[Q5,hw]
theorem QnF (ds:List Qx) (i:Nat):(XX (ds.take i)).length=wn ds i:=by rw[YA];rfl
@[simp] def QF1 (kvs:List (MK × List (List IV))):IV:=.map (kvs.map fun p=>(p.1,.sl 1 p.2))
theorem QqY (n:Nat) (z:IV):Qf6 (List.replicate n [AV.iv z])=some (List.replicate n [z]):=by
 have:=Ql (List.replicate n [z]);simpa[emb] using this
theorem Qax (l:List Nat) (mv:Nat):Xp (l.map fun (n:Nat)=>(n:Int)) mv=AO.arr 3 1 (emb (l.map fun (n:Nat)=>[IV.int .i64 (n:Int)])) mv:=by simp[Xp,emb]
theorem Qgc (l:List Nat):Qqs (l.map fun (n:Nat)=>(n:Int))=ZG l:=by simp[Qqs]
section
variable {K:World->Prop} {C:Env->Qw->Prop}
theorem Yl (m:Nat->Nat) (e:TypeId) (sz:Nat) (xs:List (List IV)) (mv:Nat):rnO m (.arr e sz (emb xs) mv)=.arr e sz (emb xs) mv:=Qng m e sz xs mv
theorem Xn (dom:List Nat) (e:TypeId) (sz:Nat) (xs:List (List IV)) (mv:Nat):clO dom (.arr e sz (emb xs) mv)=true:=Qpg dom e sz xs mv
theorem QmD {id n mv:Nat} {d:Option Nat} {e:Env} {o:Qw} (l:List Nat) (hid:Qc o id=some (.arr 3 1 (emb (l.map fun (n:Nat)=>[IV.int .i64 (n:Int)])) mv)) (hn:n=l.length)
  (h:C (bnd d (.iv (.tup [])) (Qm8 (XR [id] [0] o) e)) (QqR [id] (XR [id] [0] o) o [(0,.arr 3 1 (emb (l.reverse.map fun (n:Nat)=>[IV.int .i64 (n:Int)])) n)])):HK Tryz.prog K 334 [id] d C e o [.aref id n]:=by
 have hg:=Qq1 (K:=K) (l.map fun (n:Nat)=>(n:Int)) mv
 rw[<- List.map_reverse,Qax,Qax,QKz] at hg;subst hn;refine Qn hg (by simp[rn,nth]) ?_ ?_
 ·refine ⟨by simp,by simp[clA],?_,?_,by simp[Zk]⟩
  ·intro p hp
   simp only[QLp] at hp;subst hp;exact ⟨by simp,by rw[Yl];simpa[nth] using hid,Xn _ _ _ _ _,rfl⟩
  ·intro i hi h
   simp at hi;subst hi;simp[Qc] at h
 ·simpa[rn] using h
theorem Qdm {id n mv:Nat} {d:Option Nat} {e:Env} {o:Qw} (l:List Nat) (i:Nat) (hi:i<l.length) (hid:Qc o id=some (.arr 3 1 (emb (l.map fun (n:Nat)=>[IV.int .i64 (n:Int)])) mv)) (hn:n=l.length) {avs:List AV} (ha:avs=[.aref id n,.iv (.int .i64 (i:Nat)),.iv (.int .i64 ((i+1:Nat):Int))])
  (h:C (bnd d (.iv (ZG (l.eraseIdx i))) (Qm8 (XR [id] [] o) e)) (QqR [id] (XR [id] [] o) o [])):HK Tryz.prog K 333 [id] d C e o avs:=by
 have hg:=Qq2 (K:=K) (l.map fun (n:Nat)=>(n:Int)) mv i (by simpa using hi)
 have e1:(l.map fun (n:Nat)=>(n:Int)).eraseIdx i=(l.eraseIdx i).map fun (n:Nat)=>(n:Int):=by simp[List.eraseIdx_eq_take_drop_succ]
 rw[e1,Qax,Qgc,QKz] at hg;subst hn;refine Qn hg (by rw[ha];simp[rn,nth]) ?_ ?_
 ·refine ⟨by simp,by simp[clA],?_,?_,by simp⟩
  ·intro p hp
   simp only[QLp] at hp;subst hp;exact ⟨by simp,by rw[Yl];simpa[nth] using hid,Xn _ _ _ _ _,rfl⟩
  ·intro i hi h
   simp at hi;subst hi;simp[Qc] at h
 ·simpa[rn] using h
theorem Qdl {id id' n mv mv':Nat} {d:Option Nat} {e:Env} {o:Qw} (l:List Nat) (i:Nat) (hi:i<=l.length) (x:Nat) (hlen:l.length<=1000000) (hne:id≠id') (hid:Qc o id=some (.arr 3 1 (emb (l.map fun (n:Nat)=>[IV.int .i64 (n:Int)])) mv)) (hid':Qc o id'=some (.arr 3 1 [[.iv (.int .i64 (x:Nat))]] mv')) (hn:n=l.length)
  (h:C (bnd d (.iv (ZG (l.take i++x::l.drop i))) (Qm8 (XR [id,id'] [] o) e)) (QqR [id,id'] (XR [id,id'] [] o) o [])):HK Tryz.prog K 331 [id,id'] d C e o [.aref id n,.iv (.int .i64 (i:Nat)),.aref id' 1]:=by
 have hg:=Qq3 (K:=K) (l.map fun (n:Nat)=>(n:Int)) mv i (by simpa using hi) x mv' (by simpa using hlen)
 have e1:(l.map fun (n:Nat)=>(n:Int)).take i++(x:Int)::(l.map fun (n:Nat)=>(n:Int)).drop i=(l.take i++x::l.drop i).map fun (n:Nat)=>(n:Int):=by simp
 rw[e1,Qax,Qgc,QKz] at hg;subst hn;refine Qn hg (by simp[rn,nth]) ?_ ?_
 ·refine ⟨by simpa using hne,by simp[clA],?_,?_,by simp⟩
  ·intro p hp
   simp only[QKq,QKu,or_false] at hp;rcases hp with rfl | rfl
   ·exact ⟨by simp,by rw[Yl];simpa[nth] using hid,Xn _ _ _ _ _,rfl⟩
   ·exact ⟨by simp,by simpa[nth,rnO,rnL,rn] using hid',by simp[clO,clAL,clA],rfl⟩
  ·intro i hi h
   simp at hi;have:i=0\/i=1:=by omega
   rcases this with rfl | rfl<;>simp[Qc] at h
 ·simpa[rn] using h
end
include hK
theorem Qvo (c:Qk) (n:Nat) (hn:n<2 ^ 63) (hc:OkD c.deeds c.deeds.length) (hl:c.deeds.length<=100) :
  Ev.Good Tryz.prog K 285 [Qp c.deeds,.clo 286 [] [.ptr [.int .i64 n],.ptr (VX c)]] (.agg (Vn c.deeds (Zs c.deeds n) (QF1 (prf c.deeds (Zs c.deeds n) c.deeds.length)))):=by
 refine Qb hK Qyh (by simp) ?_
 simp;intros
 refine Qe (fun i=>[(1,AV.iv (.clo 286 [] [.ptr [.int .i64 n],.ptr (VX c)])),(4,.loc 4 0),(5,.loc 5 0),(16,AV.iv (Qp c.deeds)),(17,AV.iv (.int .i64 c.deeds.length)),(18,AV.iv (IV.int IntKind.i64 (i:Nat)))])
  (fun i=>[(4,AO.box [.iv (.sl 1 []),.iv (.sl 2 []),.iv (.map [])]),(5,AO.box [.aref 13 (i+1),.aref 6001 (XX (c.deeds.take i)).length,.oref 14]),(13,AO.arr 186 1 (emb ((Qit c.deeds (Zs c.deeds n) i).map fun c=>[ZG c])) 0),
    (14,.mapr 3 1 (prf c.deeds (Zs c.deeds n) i) none),(6001,.arr 353 2 (emb ((XX (c.deeds.take i)).map lkC)) 0)]) c.deeds.length (fun i=>True) trivial ?_ ?_
 ·intro _
  rw[Qa Qi4.eq_1];simp[-List.map_map,Qu,QE,QB,Ql,QKi]
 ·intro i hi _ ih
  have hcl:=ZP (Zs c.deeds n) hc i (by omega) (by omega)
  have hcb:=hc.cnt i (by omega) (by omega)
  have hd:=hc i hi hi;have hw:=Qfa c.deeds i;have hlw:=QnF c.deeds i;have hlo:=Qnm c.deeds (Zs c.deeds n) hc i (by omega)
  have hg202:=Qvn hK c n i hn hi;have hei:=QaD c.deeds n i hi;have hii:i*c.deeds.length<=100*100:=Nat.mul_le_mul (by omega) (by omega)
  rw[QgS,QhC _ _ hi,Ud _ _ _ hi,QkL _ _ _ hi] at ih;rw[Qa Qi4.eq_1]
  have hcg:(Qit c.deeds (Zs c.deeds n) i)[i]?=some (cab c.deeds (Zs c.deeds n) i):=by
   rw[QKg (by simp),Vh _ _ _ _ (by omega)]
  have hcl2:=Qsn c.deeds (Zs c.deeds n) i;generalize Zs c.deeds n i=ei at *;generalize Qit c.deeds (Zs c.deeds n) i=cs at *;generalize prf c.deeds (Zs c.deeds n) i=kvs at *;generalize XX (c.deeds.take i)=lk at *;generalize cab c.deeds (Zs c.deeds n) i=now at *
  have hcg2:cs[i]'(by omega)=now:=by
   grind
  have hnl:now.length<=100:=by omega
  simp[hi,hcl2,hcg2,-List.map_map,Qu,QE,QB,Ql];intro _;refine ⟨by omega,?_⟩
  refine Qw7 (rows:=List.replicate now.length [IV.int .i64 0]) (QqY _ _) (by simp) (by simp) ?_
  rcases hd with ⟨h1,h2,h3,h4⟩ | ⟨h1,h2,h3,h4⟩ | ⟨h1,h4⟩
  ·simp only[inR] at h3 h2
   have hp:(if ei=1 then (now.length:Int)+1-1-c.deeds[i].pos else c.deeds[i].pos)=(plc c.deeds[i].pos ei (now.length+1):Nat):=by
    unfold plc;omega
   have hpl:plc c.deeds[i].pos ei (now.length+1)<=now.length:=Qno (by omega)
   have hg214:=QhR hK c.deeds[i].pos ei (now.length+1) (by omega) (by omega)
   rw[hp] at hg214;simp[Jv,h1,<- hlw] at ih;generalize plc c.deeds[i].pos ei (now.length+1)=at_ at *;by_cases hf:c.deeds[i].frm=2
   ·have hg:=hg202 hf
    simp[hi,hf,h1,-List.map_map,Qu,QE,QB,Ql];refine ⟨by kernel_rfl,cK (by simpa using hg) ?_⟩
    simp[hi,hf,h1,-List.map_map,Qu,QE,QB,Ql];intro _;refine ⟨by omega,cK hg214 ?_⟩
    simp[hi,hf,h1,-List.map_map,Qu,QE,QB,Ql];intro _;refine Qdl (mv:=now.length) (mv':=0) now at_ hpl lk.length (by omega) (by simp) (by simp[emb,-List.map_map]) (by simp) rfl ?_
    simp[hi,hf,h1,-List.map_map,Qu,QE,QB,Ql]
    grind
   ·rw[if_neg hf] at hei
    simp[hi,hf,h1,-List.map_map,Qu,QE,QB,Ql];rw[<- hei];intro _;refine ⟨by omega,cK hg214 ?_⟩
    simp[hi,hf,h1,-List.map_map,Qu,QE,QB,Ql];intro _;refine Qdl (mv:=now.length) (mv':=0) now at_ hpl lk.length (by omega) (by simp) (by simp[emb,-List.map_map]) (by simp) rfl ?_
    simp[hi,hf,h1,-List.map_map,Qu,QE,QB,Ql]
    grind
  ·have h11:¬ c.deeds[i].what=1:=by omega
   simp only[inR] at h3 h2
   have hp:(if ei=1 then (now.length:Int)-1-c.deeds[i].pos else c.deeds[i].pos)=(plc c.deeds[i].pos ei now.length:Nat):=by
    unfold plc;split<;>omega
   have hpl:plc c.deeds[i].pos ei now.length<now.length:=QfO (by omega)
   have hg214:=QhR hK c.deeds[i].pos ei now.length (by omega) (by omega)
   rw[hp] at hg214;simp[Jv,h1] at ih;generalize plc c.deeds[i].pos ei now.length=at_ at *;have he:now.take at_++now.drop (at_+1)=now.eraseIdx at_:=by grind
   rw[<- QLQ,<- List.map_drop,<- QKy,he] at ih;by_cases hf:c.deeds[i].frm=2
   ·have hg:=hg202 hf
    simp[hi,hf,h1,-List.map_map,Qu,QE,QB,Ql];refine ⟨by kernel_rfl,cK (by simpa using hg) ?_⟩
    simp[hi,hf,h1,-List.map_map,Qu,QE,QB,Ql];intro _;refine cK hg214 ?_;simp[hi,hf,h1,-List.map_map,Qu,QE,QB,Ql];refine ⟨by omega,?_⟩
    refine Qdm (mv:=now.length) now at_ hpl (by simp[emb,-List.map_map]) rfl (by simp) ?_
    simp[hi,hf,h1,-List.map_map,Qu,QE,QB,Ql]
    grind
   ·rw[if_neg hf] at hei
    simp[hi,hf,h1,-List.map_map,Qu,QE,QB,Ql];rw[<- hei];intro _;refine cK hg214 ?_;simp[hi,hf,h1,-List.map_map,Qu,QE,QB,Ql];refine ⟨by omega,?_⟩
    refine Qdm (mv:=now.length) now at_ hpl (by simp[emb,-List.map_map]) rfl (by simp) ?_
    simp[hi,hf,h1,-List.map_map,Qu,QE,QB,Ql]
    grind
  ·have hf:¬ c.deeds[i].frm=2:=by omega
   rcases h1 with h1 | h1
   ·simp[Jv,h1] at ih
    simp[hi,hf,h1,-List.map_map,Qu,QE,QB,Ql];refine QmD (mv:=now.length) now (by simp[emb,-List.map_map]) rfl ?_
    simp[hi,hf,h1,-List.map_map,Qu,QE,QB,Ql,QKi]
    grind
   ·simp[Jv,h1] at ih
    simp[hi,hf,h1,-List.map_map,Qu,QE,QB,Ql];intro _
    refine Qe (fun k=>[(1,AV.iv (.clo 286 [] [.ptr [.int .i64 n],.ptr (VX c)])),(4,.loc 4 0),(5,.loc 5 0),(6,AV.iv (IV.int IntKind.i64 (i:Nat))),(8,AV.aref 29 now.length),(16,AV.iv (Qp c.deeds)),(17,AV.iv (.int .i64 c.deeds.length)),(18,AV.iv (IV.int IntKind.i64 (i:Nat))),(90,AV.aref 29 now.length),(91,AV.iv (.int .i64 now.length)),(92,AV.iv (.int .i64 (k:Nat)))])
     (fun k=>[(4,AO.box [.iv (.sl 1 []),.iv (.sl 2 []),.iv (.map [])]),(5,AO.box [.aref 13 (i+1),.aref 6001 lk.length,.oref 14]),(13,AO.arr 186 1 (emb (cs.map fun c=>[ZG c])) 0),
       (14,.mapr 3 1 ((now.take k).foldl (QsO i) kvs) none),(29,AO.arr 3 1 (emb (now.map fun (n:Nat)=>[.int .i64 (n:Int)])) now.length),(6001,AO.arr 353 2 (emb (lk.map lkC)) 0)]) now.length (fun _=>True) trivial ?_ ?_
    ·intro _
     rw[Qa Qi5.eq_1];simp[-List.map_map,Qu,QE,QB,Ql,QKi]
     grind
    ·intro k hk _ ih2
     rw[Qa Qi5.eq_1];have hlk:Low (i*c.deeds.length+(now.take k).length) ((now.take k).foldl (QsO i) kvs):=hlo.fold _;rw[QKf hk,QLh] at ih2;generalize (now.take k).foldl (QsO i) kvs=kv at *;have hkl:(List.take k now).length<=100:=by simp;omega
     have hle:=hlk.len (.int .i64 (now[k]:Nat));have hkk:=hlk.1;have hkk2:=JH (now[k]:Nat) (((QA (.int .i64 ((now[k]:Nat):Int)) kv).getD [])++[[.int .i64 (i:Nat)]]) kv hkk;have hfm:=VR (.int .i64 ((now[k]:Nat):Int)) (.int .i64 ((now[k]:Nat):Int)) (((QA (.int .i64 ((now[k]:Nat):Int)) kv).getD [])++[[.int .i64 (i:Nat)]]) kv;rw[if_pos rfl] at hfm;simp[QsO] at ih2;simp[hk,hkk,hkk2,hfm,-List.map_map,Qu,QE,QB,Ql]
     grind
def pmC (c:Qk) (n:Nat):IV:=QF1 (prf c.deeds (Zs c.deeds n) c.deeds.length)
theorem Qkv (c:Qk) (hc:OkC c):Qg1 K c (pmC c):=fun n hn=>by
 have h:=hc.len;have h2:=UC c.deeds;have h3:=V5 (show Zy c.deeds<=12 by omega)
 exact Qvo hK c n (by omega) hc.deeds (by omega)
end Go.Pf
namespace Go.Pf
open Go Go.Proofs Go.RowKit Go.Maps Go.Sort Go.Shelf
variable {P:Program} {ρ:Ren}
set_option maxRecDepth 100000 in
set_option maxHeartbeats 1000000 in
theorem Qe0 (L:SlLaysZI.n10 P ρ) {H:Type} (F:Fence) (n:Nat) (h10:F.fn (ρ.f 10)) (hro:F.round=none) (hn:1<=n) (l Bm om b nn:Nat) (D0:DataW H) {R:Value->Option (DataW H × List MemPlace)} (J:List Int->World->Prop)
  (hY:∀ pre x W,J pre W->pre.length<Maps.size D0->YieldAt F (n-1) P l #[encZ x] W fun e W'=>e=.returned (.bool true)/\J (pre++[x]) W'/\KeepsWalks W W')
  (W:World) (hJ:AbidesFrom W.heap.size J) (hm:W.cell? ⟨Bm,om,none⟩=some (.map (some b))) (hown:W.ownsMap P (ρ.t 26) R b nn D0) (h0:J [] W) :
  CallsIn F n P (ρ.f 10) #[.func (.yield l) #[] #[],.pointer (some ⟨Bm,om,none⟩)] W fun e W'=>(∃ v,e=.returned v)/\∃ ss:List Int,ss.Perm (intKeys D0)/\J ss W':=by
 have mixed:=L.mixed;have t0:=L.t0;have a0:=L.a0;have z0:=L.z0;have v0:=L.v0;have t4:=L.t4;have a4:=L.a4;have z4:=L.z4;have v4:=L.v4;have t23:=L.t23;have a23:=L.a23;have z23:=L.z23;have v23:=L.v23;have t26:=L.t26;have a26:=L.a26;have z26:=L.z26;have v26:=L.v26;have t33:=L.t33;have a33:=L.a33;have z33:=L.z33;have v33:=L.v33;have u0:=run_underlying L.t0;have u4:=run_underlying L.t4;have u23:=run_underlying L.t23;have u26:=run_underlying L.t26;have u33:=run_underlying L.t33;obtain ⟨_,_,FG⟩:=L.f10;refine callsIn_of_wp FG rfl h10 ?_ hro;simp only[SlBodyZ.n10_ntmps ρ,QLC,QKB,QKR,Nat.reduceAdd,Nat.reduceSub,Array.replicate_succ,Array.replicate_zero,List.push_toArray,List.append_toArray,QKx,QKs]
 gi_wp2_with (first
  | (gi_at_range;refine wpListIn_range_own _ rfl _ (ρ.t 23) rfl (ρ.t 26) (ρ.t 3) (int_keyed L.t26) L.t23 _ b nn _ rfl hown ?_;intro w0 hrg0 hg0 hs0)
  | gi_in)
 go_frame
 gi_loopw [3] (fun _ wr=>∃ (left:Lit->Bool) (cnt:Nat) (ss:List Int),wr.ranges P (ρ.t 26) R b W.heap.size nn D0 left cnt/\ss.length+cnt<=Maps.size D0/\CollectedI D0 left ss/\J ss wr)
  (fun _ wr=>wr.rangeLeft b W.heap.size)
 case atStart =>
  exact ⟨_,_,[],hrg0,by simp,CollectedI.start D0,hJ [] W w0 none h0 hg0 (fun r e=>by cases e)⟩
 case round =>
  obtain ⟨left,cnt,ss,hrg,hcs,hC,hJs⟩:=hrel
  gi_wp2_with (first
   | (gi_at_next;refine wpListIn_next_ranges _ rfl _ rfl (ρ.t 26) (int_keyed L.t26) R encZ id (fun key kl hk=>by obtain ⟨x,hx,_⟩:=Maps.keyOf_i64 L.t26 hk;exact ⟨x,hx⟩) (fun v _ _=>⟨v,rfl⟩) b W.heap.size nn _ _ _ rfl hrg ?_ ?_)
   | gi_in)
  ·
   intro hc0 hl0
   gi_wp2
   go_end0
   exact ⟨⟨_,rfl⟩,ss,hC.perm hown (int_keyed L.t26) L.t26 hl0,hJs⟩
  ·
   intro x c kl yd yp w2 cnt2 hkey hlk hv hat hrg2 hlt hg2 hs2 hen;obtain ⟨x',ex,rfl,_⟩:=Maps.keyOf_i64 L.t26 hkey;obtain rfl:x=x':=encZ_inj ex;have hJ2:J ss w2:=hJ ss wr w2 (some W.heap.size) hJs hg2 (fun r e=>by cases e;exact ⟨QKl _,hrg.iter_walk⟩)
   obtain ⟨fn,tmps,assign,body,hy,hR⟩:=hY ss x w2 hJ2 (by omega)
   clear hs2
   gi_wp2
   refine hR.mono ?_
   rintro e W3 ⟨rfl,hJ3,hk3⟩
   gi_wp2
   have hrg3:=hrg2.of_walks hk3
   go_roundw
   case rel=>exact ⟨_,cnt2,ss++[x],hrg3,by simp;omega,hC.step hlk hat,hJ3⟩
   case measure=>rw[hrg3.left_eq,hrg.left_eq];exact hlt
set_option maxRecDepth 100000 in
set_option maxHeartbeats 1000000 in
theorem Uy (L:SlLaysZI.n10 P ρ) {H:Type} (F:Fence) (n:Nat) (h10:F.fn (ρ.f 10)) (hro:F.round=none) (hn:1<=n) (Bm om b nn:Nat) (D0:DataW H) {R:Value->Option (DataW H × List MemPlace)} (w:World) (hBm:Bm<w.heap.size)
  (hm:w.cell? ⟨Bm,om,none⟩=some (.map (some b))) (hown:w.ownsMap P (ρ.t 26) R b nn D0) :
  SeqGives F n P (ρ.f 10) #[.pointer (some ⟨Bm,om,none⟩)] encZ (fun ss=>ss.Perm (intKeys D0)) (Maps.size D0) w:=fun l J W hW hJ hY h0=>by
 have hown':W.ownsMap P (ρ.t 26) R b nn D0:=by
  have hbl:=hown.lt;obtain ⟨es,clock,hb,Ft,hs,hD⟩:=hown;exact ⟨es,clock,(hW.block b hbl).trans hb,Ft,hs,hD⟩
 exact Qe0 { L with } F n h10 hro hn l Bm om b nn D0 J hY W hJ ((hW.cell (p:=⟨Bm,om,none⟩) hBm).trans hm) hown' h0
set_option maxRecDepth 100000 in
set_option maxHeartbeats 1000000 in
theorem Qai (L:SlLaysZI.n10 P ρ) (F:Fence) (n:Nat) (h10:F.fn (ρ.f 10)) (hro:F.round=none) (l Bm om:Nat) (J:List Int->World->Prop) (W:World) (hJ:AbidesFrom W.heap.size J)
  (hm:W.cell? ⟨Bm,om,none⟩=some (.map none)) (h0:J [] W) :
  CallsIn F n P (ρ.f 10) #[.func (.yield l) #[] #[],.pointer (some ⟨Bm,om,none⟩)] W fun e W'=>(∃ v,e=.returned v)/\∃ ss:List Int,ss=[]/\J ss W':=by
 have mixed:=L.mixed;have t0:=L.t0;have a0:=L.a0;have z0:=L.z0;have v0:=L.v0;have t4:=L.t4;have a4:=L.a4;have z4:=L.z4;have v4:=L.v4;have t23:=L.t23;have a23:=L.a23;have z23:=L.z23;have v23:=L.v23;have t26:=L.t26;have a26:=L.a26;have z26:=L.z26;have v26:=L.v26;have t33:=L.t33;have a33:=L.a33;have z33:=L.z33;have v33:=L.v33;have u0:=run_underlying L.t0;have u4:=run_underlying L.t4;have u23:=run_underlying L.t23;have u26:=run_underlying L.t26;have u33:=run_underlying L.t33;obtain ⟨_,_,FG⟩:=L.f10;refine callsIn_of_wp FG rfl h10 ?_ hro;simp only[SlBodyZ.n10_ntmps ρ,QLC,QKB,QKR,Nat.reduceAdd,Nat.reduceSub,Array.replicate_succ,Array.replicate_zero,List.push_toArray,List.append_toArray,QKx,QKs];have hrg:=run_range_nilMap (P:=P) W (ρ.t 23) (ρ.t 26) (ρ.t 3) L.t23;have hnx:∀ ty,(Instr.next (.pointer (some ⟨W.heap.size,0,none⟩)) false ty).run P (W.alloc (.mapIter none 0 #[] 0))=_:=fun ty=>run_next_nilMap _ ty 0 0 #[]
 gi_wp2
 refine wpIn_loop_rounds 1 ?_;rw[roundsIn_succ]
 gi_wp2
 go_end0
 exact ⟨⟨_,rfl⟩,[],rfl,hJ [] W _ none h0 (World.grownBy_alloc W _ none) (fun r e=>by cases e)⟩
set_option maxRecDepth 100000 in
set_option maxHeartbeats 1000000 in
theorem Jh (L:SlLaysZI.n10 P ρ) (F:Fence) (n:Nat) (h10:F.fn (ρ.f 10)) (hro:F.round=none) (Bm om:Nat) (w:World) (hBm:Bm<w.heap.size) (hm:w.cell? ⟨Bm,om,none⟩=some (.map none)) :
  SeqGives F n P (ρ.f 10) #[.pointer (some ⟨Bm,om,none⟩)] encZ (fun ss:List Int=>ss=[]) 0 w:=fun l J W hW hJ _ h0 =>
 Qai { L with } F n h10 hro l Bm om J W hJ ((hW.cell (p:=⟨Bm,om,none⟩) hBm).trans hm) h0
end Go.Pf
namespace Go.Proofs
open Go.Shelf Go.RowKit Go.Maps Go.Sort
theorem Tryz.sorts241 (m:Nat):AnyZI.SortsIn Tryz.prog Tryz.sorted173_ren Fence.wide m :=
 ⟨fun blk off cap ss W hH hblk hsz=>callsIn_wide.2 (AnyM.slices_Sort_int Tryz.sort241 blk off cap ss W hH hblk hsz),
  fun p cap W=>callsIn_wide.2 (AnyM.slices_Sort_int_none Tryz.sort241 p cap W)⟩
end Go.Proofs
namespace Go.Pf
open Go Go.Ev Go.Proofs Go.RowKit Go.Shelf
set_option maxRecDepth 8000
theorem qC (lb:Array Value) (S:List Int->Prop) (N:Nat) (hN:N<=1000000) (w:World) (hseq:SeqGives Fence.wide 2 Tryz.prog 242 lb encZ S N w) :
  Calls Tryz.prog 173 #[.func (.func 242) #[] lb] w fun e w'=>∃ (v:Value) (ss:List Int),e=.returned v/\S ss /\
   w'.ownsRow w.heap.size 3 1 v ss.length ((ss.mergeSort (fun x y=>decide (x<=y))).map encZ)/\(v=.slice none 0 0↔ss=[])/\Below w.heap.size w w':=by
 refine (callsIn_wide (n:=5)).1 ?_;exact AnyZI.sorted_in Tryz.sorted173 Fence.wide 5 trivial trivial trivial trivial rfl (by omega) (Tryz.sorts241 _) (enters_of Tryz.func241 (by kernel_rfl) rfl) 242 lb trivial (enters_of Tryz.func242 (by kernel_rfl) rfl) S N (by unfold maxLen;omega) (by omega) w hseq
theorem insert_perm {H:Type} (x:Lit × DataW H):∀ l:List (Lit × DataW H),(DataW.insert x l).Perm (x::l)
 | []=>List.Perm.refl _
 | y::r=>by
   unfold DataW.insert;split
   ·exact List.Perm.refl _
   ·exact ((insert_perm x r).cons y).trans (List.Perm.swap x y r)
theorem sorted_perm {H:Type}:∀ l:List (Lit × DataW H),(l.foldr DataW.insert []).Perm l
 | []=>List.Perm.refl _
 | x::r=>by
   rw[List.foldr_cons];exact (insert_perm x _).trans ((sorted_perm r).cons x)
def Qg5:Value->Option (DataW Nat × List MemPlace):=fun _=>some (.nil,[])
theorem Qs8 {x:MapEntry} {n:Int} (h:x.key=.int .i64 n) (hn : -9223372036854775808<=n/\n<9223372036854775808):WideElems.rd Tryz.prog 3 Qg5 x=some (.int .i64 n,.nil):=by
 have hw:(Lit.int .i64 n).wf=true:=by
  have h1:=hn.1;have h2:=hn.2;simp[Lit.wf,IntKind.inR,IntKind.min,IntKind.max,IntKind.bits,IntKind.signed];omega
 simp[WideElems.rd,h,Qg5,keyOf,Tryz.underlying3,mapKey,hw]
section
variable {K:World->Prop}
theorem Qwf (kvs:List (MK × IV)) (ks:List Int) (hk:kvs.map (·.1)=ks.map (fun x=>MK.int .i64 x)) (hwf:∀ x∈ks,-9223372036854775808<=x/\x<9223372036854775808) (hlen:ks.length<=1000000) :
  Ev.Good Tryz.prog K 173 [.clo 242 [] [.ptr [.map kvs]]] (Qt (ks.mergeSort fun x y=>decide (x<=y))):=by
 intro w ok vs hK hnew hl hvs
 obtain ⟨v0,rfl⟩:∃ v0,vs=[v0]:=by
  match vs,hl with
  | [v],_=>exact ⟨v,rfl⟩
 have hrep:=hvs 0 _ v0 rfl rfl
 have fin:∀ (v:Value) (w':World) (ss:List Int),ss.Perm ks->w'.ownsRow w.heap.size 3 1 v ss.length ((ss.mergeSort (fun x y=>decide (x<=y))).map encZ)->Below w.heap.size w w' ->
   ∃ v1,Ending.returned v=.returned v1/\QZ ok w' (Qt (ks.mergeSort fun x y=>decide (x<=y))) v1/\Below w.heap.size w w':=fun v w' ss hp ho hb=>by
  refine ⟨v,rfl,?_,hb⟩;have e1:ss.mergeSort (fun x y=>decide (x<=y))=ks.mergeSort fun x y=>decide (x<=y):=mergeSort_of_perm_i hp
  rw[e1] at ho;have hl2:ss.length=ks.length:=hp.length_eq;have e3:(ks.mergeSort fun x y=>decide (x<=y)).length=ss.length:=by simp[hl2]
  generalize (ks.mergeSort fun x y=>decide (x<=y))=zs at *
  obtain ⟨h1,h2 | ⟨g,cap,cur,h2,h3,h4,h5,h6,h7,h8⟩⟩:=ho
  ·obtain ⟨rfl,h2⟩:=h2
   have:zs=[]:=QKo (by omega)
   subst this;exact .nils _
  ·subst h2
   rw[<- e3];refine Wd zs g cap (by omega) h6 (hnew g h3) fun j z hj=>?_
   have hjl:=(QKh.1 hj).1;have:(cur.toList.take (ss.length*1))[j]?=some (.int .i64 z):=by grind
   rw[QK5,if_pos (by omega)] at this
   simp only[World.cell?,h4];simpa using this
 cases hrep with
 | clo _ _ _ us vs' h1 h2 hf hc =>
   obtain rfl:us=[]:=QKo h1
   obtain ⟨p,rfl⟩:∃ p,vs'=[p]:=by
    match vs',h2 with
    | [v],_=>exact ⟨v,rfl⟩
   have hp:=hc 0 _ p rfl rfl;cases hp with
   | ptr _ b off u hu hx =>
     have hcell:=(hu 0 (by simp)).2.1
     rw[QLv] at hcell;have hbw:b<w.heap.size:=QLc w ⟨b,off,none⟩ hcell;have hm:=hx 0 _ rfl;generalize u 0=u0 at hcell hm;cases hm with
     | mapn =>
       have hk0:ks=[]:=by simpa using hk.symm
       subst hk0;refine (qC _ _ 0 (by omega) w (Jh (ρ:=Tryz.keys174_ren) { Tryz.keys174 with } Fence.wide 2 trivial rfl b off w hbw hcell)).mono ?_
       grind
     | map _ r es clock hok hr hmr hd hxx =>
       have hks:kvs.length=ks.length:=by simpa using congrArg List.length hk
       have hkey:∀ (i:Nat) (x:MapEntry),es[i]?=some x->∃ n:Int,ks[i]?=some n/\x.key=.int .i64 n:=fun i x hx=>by
        obtain ⟨k,h3,h4⟩:=hmr.keys i x hx;rw[<- QKp,hk,QKp,QKm] at h3;obtain ⟨n,h5,rfl⟩:=h3;exact ⟨n,h5,h4⟩
       have hrd:∀ (i:Nat) (x:MapEntry),es[i]?=some x->∃ n:Int,ks[i]?=some n/\x.key=.int .i64 n/\WideElems.rd Tryz.prog 3 Qg5 x=some (.int .i64 n,.nil):=fun i x hx=>by
        obtain ⟨n,h3,h4⟩:=hkey i x hx;exact ⟨n,h3,h4,Qs8 h4 (hwf n (QKw h3))⟩
       have hlist:es.toList.map (fun x=>intOf (WideElems.rg Tryz.prog 3 Qg5 x).1)=ks:=by
        refine List.ext_getElem? fun i=>?_
        rw[QKp];cases hx:es[i]? with
        | none =>
          have:es.size<=i:=by
           grind
          have hz:=hmr.size
          grind
        | some x =>
          obtain ⟨n,h3,h4,h5⟩:=hrd i x hx;rw[Array.getElem?_toList,hx,h3];simp[WideElems.rg,h5,intOf]
       have hown:w.ownsMap Tryz.prog 3 Qg5 r ks.length (DataW.map ((es.toList.map (WideElems.rg Tryz.prog 3 Qg5)).foldr DataW.insert [])):=by
        refine ⟨es,clock,hr,⟨by have:=hmr.size;unfold maxLen;omega,⟨fun x hx=>?_,?_,?_⟩,fun x hx=>?_⟩,by grind,rfl⟩
        ·obtain ⟨i,hi⟩:=QKZ hx
         exact hmr.born i x (by simpa using hi)
        ·rw[List.nodup_iff_pairwise_ne] at *
         refine QLt.2 fun i j hi hj hij heq=>?_
         simp at hi hj heq;have:=hmr.apart i j es[i] es[j] (by simp[hi]) (by simp[hj]) heq
         omega
        ·refine QLt.2 fun i j hi hj hij heq=>?_
         simp at hi hj heq;obtain ⟨k1,h3,h4⟩:=hmr.keys i es[i] (by simp[hi])
         obtain ⟨k2,h5,h6⟩:=hmr.keys j es[j] (by simp[hj])
         rw[QKm] at h3 h5;obtain ⟨p,h7,rfl⟩:=h3;obtain ⟨q,h8,rfl⟩:=h5;rw[h4,h6] at heq
         have:p.1=q.1:=by
          cases hp1:p.1<;>cases hq1:q.1<;>rw[hp1,hq1] at heq<;>simp[MK.val] at heq |-<;>simp_all
         grind
        ·obtain ⟨i,hi⟩:=QKZ hx
         grind
       have hperm:(intKeys (DataW.map ((es.toList.map (WideElems.rg Tryz.prog 3 Qg5)).foldr DataW.insert []))).Perm ks:=by
        have:=(sorted_perm (es.toList.map (WideElems.rg Tryz.prog 3 Qg5))).map fun p=>intOf p.1
        rw[List.map_map] at this;refine this.trans ?_;rw[show es.toList.map ((fun p=>intOf p.1)∘WideElems.rg Tryz.prog 3 Qg5)=ks from hlist]
       have hsz:=hown.size_le;refine (qC _ _ _ (by omega) w (Uy (ρ:=Tryz.keys174_ren) { Tryz.keys174 with } Fence.wide 2 trivial rfl (by omega) b off r _ _ w hbw hcell hown)).mono ?_
       grind
end
end Go.Pf
namespace Go.Pf
open Go Go.Ev Go.Proofs Go.RowKit
variable {K:World->Prop} (hK:∀ w w',K w->Below w.heap.size w w'->K w')
set_option maxRecDepth 8000
theorem X8 {α:Type} {p:List α->Prop} (h0:p []) (h1:∀ l x,p l->p (l++[x])) (l:List α):p l:=by
 have:∀ r:List α,p r.reverse:=by
  intro r
  induction r with
  | _=>grind
 have h:=this l.reverse
 grind
def QbC:List (Int × Nat)->Int->List (Int × Nat)
 | [],x=>[(x,1)]
 | p::r,x=>if p.1=x then (x,p.2+1)::r else p::QbC r x
def QbM:List (Int × Nat)->Int->Nat
 | [],_=>0
 | p::r,x=>if p.1=x then p.2 else QbM r x
def Qaf (l:List (Int × Nat)):List (MK × IV):=l.map fun p=>(.int .i64 p.1,.int .i64 (p.2:Nat))
theorem JJ (x:Int):∀ l,(QA (.int .i64 x) (Qaf l)).getD (.int .i64 0)=.int .i64 (QbM l x:Nat)
 | []=>rfl
 | p::r=>by
   by_cases h:p.1=x
   ·simp[Qaf,QA,QbM,h]
   ·have:=JJ x r
    simp[Qaf,QA,QbM,h] at this |-;exact this
theorem WI (x:Int):∀ l,mins (.int .i64 x) (.int .i64 ((QbM l x:Nat)+1)) (Qaf l)=Qaf (QbC l x)
 | []=>by simp[Qaf,mins,QbM,QbC]
 | p::r=>by
   by_cases h:p.1=x
   ·simp[Qaf,mins,QbM,QbC,h]
   ·have:=WI x r
    simp[Qaf,mins,QbM,QbC,h] at this |-;exact this
theorem YD:∀ l,Zz (some .i64) (Qaf l)
 | []=>trivial
 | _::r=>⟨rfl,YD r⟩
theorem Qlg (x y:Int):∀ l,QbM (QbC l x) y<=QbM l y+1
 | []=>by simp[QbC,QbM];split<;>omega
 | p::r=>by
   unfold QbC;split
   ·simp only[QbM];grind
   ·simp only[QbM]
    split
    ·omega
    ·exact Qlg x y r
def XY (l:List Int):List (Int × Nat):=l.foldl QbC []
theorem XU (l:List Int) (x:Int):XY (l++[x])=QbC (XY l) x:=by simp[XY]
theorem Qex (y:Int):∀ l:List Int,QbM (XY l) y<=l.length:=by
 refine X8 (by simp[XY,QbM]) fun l x ih=>?_
 rw[XU];have:=Qlg x y (XY l);simp;omega
def Y0 (l:List Int):List Int:=((XY l).map (·.1)).mergeSort fun x y=>decide (x<=y)
theorem Qed (x y:Int):∀ l,y∈(QbC l x).map (·.1)↔y∈l.map (·.1)\/y=x
 | []=>by simp[QbC]
 | p::r=>by
   unfold QbC;split
   ·grind
   ·have:=Qed x y r
    grind
theorem Qc6 (x:Int):∀ l,(l.map (·.1)).Nodup->((QbC l x).map (·.1)).Nodup
 | [],_=>by simp[QbC]
 | p::r,h=>by
   rw[QKF,QLV] at h;unfold QbC;split
   ·grind
   ·rename_i hp
    rw[QKF,QLV];refine ⟨fun hb=>?_,Qc6 x r h.2⟩
    rcases (Qed x p.1 r).1 hb with hb | hb
    all_goals grind
theorem QlB (y:Int):∀ l:List Int,y∈(XY l).map (·.1)↔y∈l:=by
 refine X8 (by simp[XY]) fun l x ih=>?_
 rw[XU,Qed,ih];simp
theorem QmB:∀ l:List Int,((XY l).map (·.1)).Nodup:=by
 refine X8 (by simp[XY]) fun l x ih=>?_
 rw[XU];exact Qc6 x _ ih
theorem Qk2 (x:Int):∀ k,(QbC k x).length<=k.length+1
 | []=>by simp[QbC]
 | p::r=>by
   have:=Qk2 x r;unfold QbC
   grind
theorem QlC:∀ l:List Int,(XY l).length<=l.length:=by
 refine X8 (by simp[XY]) fun l x ih=>?_
 rw[XU];have:=Qk2 x (XY l);simp;omega
theorem JA (y:Int) (l:List Int):y∈Y0 l↔y∈l:=by
 unfold Y0;rw[List.mem_mergeSort,QlB]
theorem Jz (l:List Int):(Y0 l).Pairwise (·<·):=by
 have h1:=List.pairwise_mergeSort (le:=fun x y:Int=>decide (x<=y)) (fun a b c h1 h2=>by simp at *;omega) (fun a b=>by simp;omega) ((XY l).map (·.1))
 have h2:(((XY l).map (·.1)).mergeSort (fun x y:Int=>decide (x<=y))).Nodup:=(List.mergeSort_perm ((XY l).map (·.1)) (fun x y:Int=>decide (x<=y))).nodup_iff.2 (QmB l)
 have h3:=h1.and h2;refine h3.imp fun {a b} h=>?_
 grind
theorem Qhu:∀ {l l':List Int},l.Pairwise (·<·)->l'.Pairwise (·<·)->(∀ x,x∈l↔x∈l')->l=l'
 | [],[],_,_,_=>rfl
 | [],b::l',_,_,h=>absurd ((h b).2 (by simp)) (by simp)
 | a::l,[],_,_,h=>absurd ((h a).1 (by simp)) (by simp)
 | a::l,b::l',h1,h2,h=>by
   rw[List.pairwise_cons] at h1 h2
   have hab:a=b:=by
    have p1:=(h a).1 (by simp)
    have p2:=(h b).2 (by simp)
    grind
   subst hab;refine congrArg (a::·) (Qhu h1.2 h2.2 fun x=>?_)
   grind
include hK
theorem Qh9 (kvs:List (MK × IV)):Ev.Good Tryz.prog K 174 [.map kvs] (.clo 242 [] [.ptr [.map kvs]]):=by
 refine Qb hK QzG (by simp) ?_
 simp
omit hK in
theorem qm (l:List Int) (hw:∀ x∈l,-1000000<=x/\x<=1000000) (hl:l.length<=1000000):Ev.Good Tryz.prog K 173 [.clo 242 [] [.ptr [.map (Qaf (XY l))]]] (Qt (Y0 l)):=by
 have hlen:(XY l).length<=l.length:=by
  exact QlC l
 refine Qwf (K:=K) (Qaf (XY l)) ((XY l).map (·.1)) (by simp[Qaf]) (fun x hx=>?_) (by simp;omega)
 have:=hw x ((QlB x l).1 hx);omega
theorem Qot (c:Qk) (hl:c.deeds.length<=1000) (hs:c.sights.length<=1000) (g1:FuncId) (cs1:List IV) (is:Bool) (hg1:OkC c->Ev.Good Tryz.prog K g1 ([.int .i64 (ZO c.deeds),.int .i64 (Qki c.deeds)]++cs1) (.bool is)) (hc1:callee Tryz.prog g1=true)
  (g2:FuncId) (cs2:List IV) (v:Nat->Int) (hg2:OkC c->is=true->∀ n∈QH c,Ev.Good Tryz.prog K g2 ([.agg (Vn c.deeds (Zs c.deeds n) (pmC c n))]++cs2) (.int .i64 (v n))) (hc2:callee Tryz.prog g2=true) (hv:OkC c->is=true->∀ n∈QH c,-1000000<=v n/\v n<=1000000) :
  Ev.Good Tryz.prog K 159 [chV c,.clo g1 [] cs1,.clo g2 [] cs2] (.tup [Qt (if Z7 c is=0 then Y0 ((QH c).map v) else []),.int .i64 (Z7 c is)]):=by
 refine Qb hK QzU (by simp) ?_
 simp;refine cK (by simpa using QvG hK c (pmC c) (Qkv hK c) g1 [] cs1 is (fun h=>by simpa using hg1 h) hc1 hl hs) ?_
 by_cases he:Z7 c is=0
 ·have h1:OkC c:=by
   unfold Z7 at he
   grind
  have h2:is=true:=by
   unfold Z7 at he
   grind
  have hlen:(QH c).length<=4096:=by
   have h1':=QKD (fun n=>decide ((QL c.deeds c.sights (Zs c.deeds n):Int)<=c.wrong)) (List.range (2 ^ Zy c.deeds))
   have h2':=V5 (n:=Zy c.deeds) (by have:=UC c.deeds;have:=h1.len;omega)
   simp at h1';unfold QH;omega
  have hG:=hg2 h1 h2;have hV:=hv h1 h2;clear hg2 hv hg1;subst h2;simp[he,h1];refine Zb (wy:=.fall) (o':=[(10,.box [.oref 21]),(21,.mapd (Qaf (XY ((QH c).map v))))]) rfl (by kernel_rfl) (qi hK c h1 (pmC c) (Qkv hK c h1)) ?_ ?_
  ·have:=Uz.all (P:=Tryz.prog) (K:=K) (ps:=[24]) (asn:=QeT) (body:=Qj2) (ks:=[5,10]) (ids:=[10,21]) (eK:=[(5,.iv (.ptr [.clo g2 [] cs2])),(10,.loc 10 0)]) ((QH c).map (XK c.deeds (pmC c)))
    (fun i=>[(10,.box [.oref 21]),(21,.mapd (Qaf (XY (((QH c).map v).take i))))]) fun i x hi=>by
    simp only[QKp,QKm] at hi;obtain ⟨y,hy,rfl⟩:=hi;have hlt:=(QKh.1 hy).1
    have hyv:((QH c).map v)[i]'(by simpa using hlt)=v y:=by
     grind
    have hg:=hG y (QKw hy);refine ⟨rfl,?_⟩;rw[QKf (by simpa using hlt),XU,hyv]
    have hle:=Qex (v y) (((QH c).map v).take i);have hkk:=YD (XY (((QH c).map v).take i));have hf:=JJ (v y) (XY (((QH c).map v).take i));have hi:=WI (v y) (XY (((QH c).map v).take i));have hle2:(((QH c).map v).take i).length<=4096:=by simp;omega
    generalize XY (((QH c).map v).take i)=kv at *;simp[XK,QeT,Qj2];refine ⟨hc2,cK (by simpa using hg) ?_⟩
    simp[hkk,hf,hi];omega
   simpa[XY,Qaf,QKi] using this
  ·simp
   refine cK (by simpa using Qh9 hK (Qaf (XY ((QH c).map v)))) ?_
   simp;refine cK (qm ((QH c).map v) (fun x hx=>?_) (by simp;omega)) ?_
   ·grind
   ·simp
 ·by_cases h1:OkC c<;>cases is<;>simp[he,h1]
def Qqr (c:Qk) (pos:Int) (n:Nat):Int:=((cab c.deeds (Zs c.deeds n) c.deeds.length).getD pos.toNat 0:Nat)
theorem Qtb (c:Qk) (pos:Int) (hl:c.deeds.length<=1000) (hs:c.sights.length<=1000) :
  Ev.Good Tryz.prog K 81 [chV c,.int .i64 pos] (.tup [Qt (if Z7 c (decide (inR pos 0 (ZO c.deeds-1)))=0 then Y0 ((QH c).map (Qqr c pos)) else []),.int .i64 (Z7 c (decide (inR pos 0 (ZO c.deeds-1))))]):=by
 refine Qb hK QCB (by simp) ?_
 simp;refine cK (by simpa using Qwl hK pos) ?_
 simp
 have hcl:∀ n,OkC c->((cab c.deeds (Zs c.deeds n) c.deeds.length).length:Int)=ZO c.deeds:=fun n h=>by
  rw[ZP _ h.deeds _ (QKl _) (QKl _)];rfl
 have hg:=Qot hK c hl hs 229 [.ptr [.int .i64 pos]] (decide (inR pos 0 (ZO c.deeds-1))) (fun h=>by
   have:=hcl 0 h;have h2:=h.deeds.cnt c.deeds.length (QKl _) (QKl _);have h3:=ZP (Zs c.deeds 0) h.deeds c.deeds.length (QKl _) (QKl _);simpa using QvF hK (ZO c.deeds) (Qki c.deeds) pos (by omega)) (by kernel_rfl) 161 [.ptr [.int .i64 pos]] (Qqr c pos) (fun h hi n _=>by
   have h3:=hcl n h;have hi:=of_decide_eq_true hi;simp only[inR] at hi;have h4:pos=((pos.toNat:Nat):Int):=by omega
   have h5:pos.toNat<(cab c.deeds (Zs c.deeds n) c.deeds.length).length:=by omega
   have h6:=Qwk hK c.deeds (Zs c.deeds n) (pmC c n) hl pos.toNat h5;rw[<- h4] at h6;have h7:(cab c.deeds (Zs c.deeds n) c.deeds.length).getD pos.toNat 0=(cab c.deeds (Zs c.deeds n) c.deeds.length)[pos.toNat]:=by grind
   unfold Qqr
   grind) (by kernel_rfl) (fun h hi n _=>by
   have h3:=hcl n h;have hi:=of_decide_eq_true hi;simp only[inR] at hi;have h5:pos.toNat<(cab c.deeds (Zs c.deeds n) c.deeds.length).length:=by omega
   have h7:(cab c.deeds (Zs c.deeds n) c.deeds.length).getD pos.toNat 0=(cab c.deeds (Zs c.deeds n) c.deeds.length)[pos.toNat]:=by grind
   have h8:=Ux c.deeds (Zs c.deeds n) c.deeds.length _ (QKj h5);have h9:=Qfa c.deeds c.deeds.length;unfold Qqr;omega)
 refine cK (by simpa using hg) ?_
 simp
omit hK in
theorem Qm3 (x:Int):Y0 [x]=[x]:=by simp[Y0,XY,QbC]
omit hK in
theorem Qma (c:Qk) (hc:OkC c) (h2:Zy c.deeds=0) (hs:c.sights=[]):QH c=[0]:=by
 have:=hc.wrong;simp only[inR] at this;simp[QH,h2,hs,QL,this]
theorem Qvk (c:Qk) (hc:OkC c) (h2:Zy c.deeds=0) (hs:c.sights=[]):Ev.Good Tryz.prog K 292 [chV c] (ZG (cab c.deeds (Zs c.deeds 0) c.deeds.length)):=by
 have hl:=hc.len;have hr:=Qma c hc h2 hs;have hcl:=ZP (Zs c.deeds 0) hc.deeds c.deeds.length (QKl _) (QKl _);have hcb:=hc.deeds.cnt c.deeds.length (QKl _) (QKl _);have hcl2:ZO c.deeds=((cab c.deeds (Zs c.deeds 0) c.deeds.length).length:Int):=hcl.symm
 have hw:∀ i:Nat,i<(cab c.deeds (Zs c.deeds 0) c.deeds.length).length->Ev.Good Tryz.prog K 81 [chV c,.int .i64 i] (.tup [Qt [((cab c.deeds (Zs c.deeds 0) c.deeds.length).getD i 0:Nat)],.int .i64 0]):=fun i hi=>by
  have:=Qtb hK c i (by omega) (by simp[hs])
  have h3:inR (i:Int) 0 (ZO c.deeds-1):=by simp only[inR];omega
  have h4:Z7 c true=0:=by simp[Z7,hc,hr]
  rw[decide_eq_true h3,h4,hr] at this;simpa[Qm3,Qqr] using this
 refine Qb hK Qyb (by simp) ?_
 have hg83:=Qn2 hK c (by omega) (by simp[hs])
 simp[hc] at hg83;simp;refine cK hg83 ?_;rw[hcl2];generalize cab c.deeds (Zs c.deeds 0) c.deeds.length=now at *;simp
 refine Qe (fun i=>[(1,AV.iv (.ptr [Qp c.deeds,Qh c.sights,.int .i64 c.wrong])),(5,AV.aref 5 i),(14,AV.iv (.int .i64 now.length)),(15,AV.iv (IV.int IntKind.i64 (i:Nat)))])
  (fun i=>[(5,AO.arr 3 1 (emb ((now.take i).map fun (n:Nat)=>[.int .i64 (n:Int)])) 0)]) now.length (fun i=>True) trivial ?_ ?_
 ·intro _
  rw[Qa QiY.eq_1];simp[QKi]
 ·intro i hi _ ih
  rw[Qa QiY.eq_1];rw[QKf hi,QKy] at ih;have hg:=hw i hi;have h7:now.getD i 0=now[i]:=by grind
  rw[h7] at hg;simp[hi] at ih |-;refine cK (by simpa using hg) ?_
  simp
  grind
omit hK
def qX (d:Qx) (x:Int):Qx:={ d with frm:=x }
def UI:List Qx->List (List Qx)
 | []=>[[]]
 | d::r=>if d.frm=2 then (UI r).map (qX d 0::·)++(UI r).map (qX d 1::·) else (UI r).map (d::·)
theorem Qui (ds:List Qx) (h:Zy ds=0):∀ x∈ds,Z5 x=false:=by
 intro x hx;have:=QLM.1 h x hx;simpa[Z5] using this
theorem QcJ:∀ ds:List Qx,Zy ds=0->UI ds=[ds]
 | [],_=>rfl
 | d::r,h=>by
   by_cases hd:d.frm=2
   ·simp[Zy,QLx,hd] at h
   ·have:=QcJ r (by simpa[Zy,QLx,hd] using h)
    simp[UI,hd,this]
theorem QoA:∀ ds:List Qx,Zy ds≠0->∃ i:Nat,(∀ x∈ds.take i,Z5 x=false)/\∃ h:i<ds.length,ds[i].frm=2/\UI ds=UI (ds.set i (qX ds[i] 0))++UI (ds.set i (qX ds[i] 1))/\∀ x:Int,x≠2->Zy (ds.set i (qX ds[i] x))+1=Zy ds
 | [],h=>absurd rfl h
 | d::r,h=>by
   by_cases hd:d.frm=2
   ·refine ⟨0,by simp,by simp,hd,?_,fun x hx=>?_⟩
    ·simp[UI,hd,qX]
    ·simp[Zy,QLx,qX,hx,hd]
   ·have h':Zy r≠0:=by simpa[Zy,QLx,hd] using h
    obtain ⟨i,h1,h2,h3,h4,h5⟩:=QoA r h';refine ⟨i+1,?_,by simpa using h2,by simpa using h3,?_,fun x hx=>?_⟩
    ·intro x hx
     rw[List.take_succ_cons,QKq] at hx;rcases hx with rfl | hx
     ·simp[Z5,hd]
     ·exact h1 x hx
    ·simp only[List.set_cons_succ,List.getElem_cons_succ,UI,hd,if_false]
     grind
    ·have:=h5 x hx
     simp only[List.set_cons_succ,List.getElem_cons_succ];simp[Zy,hd] at this |-;omega
noncomputable def YO (c:Qk):List Qk:=((UI c.deeds).map fun ds=>{ c with deeds:=ds }).filter fun c'=>decide (Z7 c' true=0)
def QhL (c:Qk):List IV:=[chV c]
theorem QhF (c:Qk) (h:Zy c.deeds=0):YO c=if Z7 c true=0 then [c] else []:=by
 unfold YO;rw[QcJ _ h];by_cases h1:Z7 c true=0<;>simp[h1]
include hK
theorem QhJ:∀ (n:Nat) (c:Qk),Zy c.deeds=n->c.deeds.length<=1000->c.sights.length<=1000->Qak Tryz.prog K 235 [chV c] [] ((YO c).map QhL) (fun b=>.bool b)
 | 0,c,hn,hl,hs=>by
   intro s b s' hf;refine QR QpX (by simp) hf.v rfl ?_
   have hfi:=UT Z5 c.deeds (Qui _ hn);have hg:=Qoc hK c.deeds 290 Z5 (Qob hK) (by kernel_rfl) hl
   rw[hfi] at hg;rw[QhF c hn] at hf;simp;refine cK (by simpa using hg) ?_
   simp;refine cK (Qvl hK c (pmC c) (Qkv hK c) hl hs) ?_;by_cases h1:Z7 c true=0
   ·simp[h1] at hf |-
    cases hf with
    | stop _ _ _ _ hg =>
      refine Q9 (by simpa[QhL] using hg) rfl ?_
      simp
    | next _ _ _ s1 _ _ hg hr =>
      cases hr;refine Q9 (by simpa[QhL] using hg) rfl ?_
      simp
   ·simp[h1] at hf |-
    cases hf
    grind
 | n+1,c,hn,hl,hs=>by
   intro s b s' hf;refine QR QpX (by simp) hf.v rfl ?_
   obtain ⟨i,h1,h2,h3,h4,h5⟩:=QoA c.deeds (by omega)
   have hg:=Qoc hK c.deeds 290 Z5 (Qob hK) (by kernel_rfl) hl
   rw[Qip Z5 c.deeds i h2 (by simp[Z5,h3]) h1] at hg
   have hne:c.deeds≠[]:=fun e=>by grind
   have hgc:=clone64 (K:=K) c.deeds hl hne;have ih0:=QhJ n { c with deeds:=c.deeds.set i (qX c.deeds[i] 0) } (by grind) (by simpa using hl) hs
   have ih1:=QhJ n { c with deeds:=c.deeds.set i (qX c.deeds[i] 1) } (by grind) (by simpa using hl) hs
   have hkn:YO c=YO { c with deeds:=c.deeds.set i (qX c.deeds[i] 0) }++YO { c with deeds:=c.deeds.set i (qX c.deeds[i] 1) }:=by
    unfold YO
    grind
   rw[hkn,QKy] at hf;generalize hL0:YO { c with deeds:=c.deeds.set i (qX c.deeds[i] 0) }=L0 at *
   generalize hL1:YO { c with deeds:=c.deeds.set i (qX c.deeds[i] 1) }=L1 at *
   simp;refine cK hg ?_;simp
   refine Ys 2 (fun k e o=>∃ si,e=[(1,AV.cb 0),(2,AV.iv (.ptr [Qp c.deeds,Qh c.sights,.int .i64 c.wrong])),(5,AV.iv (.int .i64 (i:Nat))),(25,AV.iv (.int .i64 (k:Nat)))]/\o=[(0,.ext si)] /\
    ZX Tryz.prog K (if k=0 then L0.map QhL++L1.map QhL else if k=1 then L1.map QhL else []) si b s') ?_ ?_ _ _ ⟨s,by simp,by simp,by simpa using hf⟩
   ·rintro e o ⟨si,rfl,rfl,hfd⟩
    cases hfd;rw[Qa Qju.eq_1];simp
   ·rintro k e o hk ⟨si,rfl,rfl,hfd⟩ ih
    have hk2:k=0\/k=1:=by omega
    rw[Qa Qju.eq_1]
    have hset:∀ x:Int,(List.map (List.map AV.iv∘dC) c.deeds).set i [AV.iv (.int .i64 c.deeds[i].what),AV.iv (.int .i64 c.deeds[i].pos),AV.iv (.int .i64 x),AV.iv (.int .i64 c.deeds[i].bar),AV.iv (.int .i64 c.deeds[i].smith)]=emb ((c.deeds.set i (qX c.deeds[i] x)).map dC):=fun x=>by
     simp[emb,List.map_set,qX]
    rcases hk2 with rfl | rfl
    ·simp only[if_true] at hfd
     simp;refine Yd hgc (by simp) ?_
     simp[h2,hset,QKi];rcases hfd.append with ⟨s1,hf1,hf2⟩ | ⟨rfl,hf1⟩
     ·refine ZJ (by simpa[QKi] using ih0 _ _ _ hf1) rfl ?_
      simp;exact ih _ _ ⟨s1,by simp,by simp,by simpa using hf2⟩
     ·refine ZJ (by simpa[QKi] using ih0 _ _ _ hf1) rfl ?_
      simp
    ·simp only[if_true] at hfd
     simp at hfd;simp;refine Yd hgc (by simp) ?_
     simp[h2,hset,QKi];refine ZJ (by simpa[QKi] using ih1 _ _ _ hfd) rfl ?_
     cases b
     ·simp
     ·simp
      exact ih _ _ ⟨s',by simp,by simp,by simpa using ZX.nil _⟩
omit hK
theorem QfN {α:Type} (f:α->Int):∀ (l:List α) (k:Nat) (a:α),(∀ x∈l,1<=f x)->(∀ h:k<l.length,1<=f a/\f a<=f l[k])->QG f (l.set k a)<=QG f l
 | [],k,a,_,_=>by simp[QG]
 | b::l,0,a,h,ha=>by
   have h1:=ha (by simp)
   have h2:=Yg f l fun x hx=>h x (by simp[hx])
   simp only[List.set_cons_zero,QG];exact QKL h1.2 (by omega)
 | b::l,k+1,a,h,ha=>by
   have ih:=QfN f l k a (fun x hx=>h x (by simp[hx])) (fun hk=>ha (by simpa using hk))
   have h1:=h b (by simp)
   simp only[List.set_cons_succ,QG];exact QK9 ih (by omega)
def QcL (l:ZE) (n:Int):ZE:={ l with lo:=n,hi:=n }
def YQ (m:Machine) (k:Nat) (l:ZE) (n:Int):Machine:={ m with levers:=m.levers.set k (QcL l n) }
noncomputable def Uu:Nat->Machine->Nat->List Machine
 | 0,m,_=>acc (qO m) (m.lhi+1-m.llo).toNat
 | r+1,m,k=>match m.levers[k]? with
   | some l=>acc (fun i=>Uu r (YQ m k l (l.lo+(i:Nat))) (k+1)) (l.hi+1-l.lo).toNat
   | none=>[]
structure QDQ (m:Machine):Prop where
 len:m.levers.length<=3
 blen:m.bals.length<=6
 leak:inR m.llo 0 m.lhi
 lhi:m.lhi<=20
 span:∀ l∈m.levers,1<=Zo l
 lo:∀ l∈m.levers,0<=l.lo/\l.hi<=100000
 sets:sets m m.levers.length<=1000000
theorem QDQ.fix {m:Machine} (h:QDQ m) {k:Nat} (hk:k<m.levers.length) {n:Int} (hn:m.levers[k].lo<=n/\n<=m.levers[k].hi):QDQ (YQ m k m.levers[k] n):=by
 have hs:=h.span _ (QKj hk);have hl:=h.lo _ (QKj hk);refine ⟨by simpa[YQ] using h.len,h.blen,h.leak,h.lhi,fun l hl=>?_,fun l hl'=>?_,?_⟩
 ·rcases List.mem_or_eq_of_mem_set hl with h1 | h1
  ·exact h.span l h1
  ·rw[h1];simp[Zo,QcL]
 ·rcases List.mem_or_eq_of_mem_set hl' with h1 | h1
  ·exact h.lo l h1
  ·rw[h1];simp only[QcL];omega
 ·refine QLL ?_ h.sets
  have e1:(YQ m k m.levers[k] n).levers.length=m.levers.length:=by simp[YQ]
  have h2:=h.leak;simp only[inR] at h2;unfold Pf.sets;rw[e1,QKi (QKl _),QKi (by omega)]
  refine QK9 (QfN Zo _ _ _ h.span fun hk'=>?_) (by simp only[YQ];omega)
  have:Zo (QcL m.levers[k] n)=1:=by simp[Zo,QcL]
  omega
include hK
theorem QnO:∀ (r:Nat) (m:Machine) (k:Nat),k+r=m.levers.length->QDQ m->Qak Tryz.prog K 238 [maV m,.int .i64 k] [] ((Uu r m k).map Qga) (fun b=>.bool b)
 | 0,m,k,hk,ht=>by
   have:k=m.levers.length:=by omega
   subst this;have h1:=ht.len;have h2:=ht.blen;refine Qf8 hK m (by omega) (by omega) ht.leak ht.lhi (fun n _=>?_)
   have h3:=ht.sets;have h4:=ht.leak;have h5:=Yg Zo m.levers ht.span;simp only[inR] at h4;unfold Pf.sets at h3 |-;simp only[XS] at h3 |-;rw[QKi (QKl _)] at h3 |-;have h6:(m.lhi-m.llo+1)*QG Zo m.levers≥1*QG Zo m.levers:=QKL (by omega) (by omega)
   omega
 | r+1,m,k,hk,ht=>by
   have hlt:k<m.levers.length:=by omega
   have ih:=QnO r;intro s b s' hf;refine QR QpW (by simp) hf.v rfl ?_
   simp only[Uu,QKg hlt] at hf;rw[QaI] at hf;have hne:¬ (k:Int)=m.levers.length:=by omega
   have hlo:=ht.lo _ (QKj hlt);have hln:=ht.len;have hnn:m.levers≠[]:=fun e=>by grind
   have hgc:=clone66 (K:=K) m.levers (by omega) hnn
   have hsp:=ht.span _ (QKj hlt);simp only[Zo] at hsp
   have hit:∀ i:Nat,i<(m.levers[k].hi+1-m.levers[k].lo).toNat->Qak Tryz.prog K 238 [maV (YQ m k m.levers[k] (m.levers[k].lo+i)),.int .i64 ((k+1:Nat):Int)] [] ((Uu r (YQ m k m.levers[k] (m.levers[k].lo+i)) (k+1)).map Qga) (fun b=>.bool b):=fun i hi =>
    ih _ _ (by simp[YQ];omega) (ht.fix hlt (by omega))
   generalize hpc:(fun i:Nat=>Uu r (YQ m k m.levers[k] (m.levers[k].lo+i)) (k+1))=pc at hf
   have hpc':∀ i:Nat,Uu r (YQ m k m.levers[k] (m.levers[k].lo+i)) (k+1)=pc i:=fun i=>by rw[<- hpc]
   simp only[hpc'] at hit;simp[hne,hlt];intros
   refine Ys (m.levers[k].hi+1-m.levers[k].lo).toNat (fun i e o=>∃ si ls,e=[(1,AV.iv (.int .i64 (k:Nat))),(2,AV.cb 0),(3,AV.iv (.ptr [Qq m.levers,.int .i64 m.water,.int .i64 m.llo,.int .i64 m.lhi,Ze m.bals,.int .i64 m.wrong])),(7,AV.loc 7 0),(11,AV.iv (.int .i64 (m.levers[k].lo+(i:Nat))))] /\
    o=[(0,.ext si),(7,.box [.iv (Qq ls),.iv (.int .i64 m.water),.iv (.int .i64 m.llo),.iv (.int .i64 m.lhi),.iv (Ze m.bals),.iv (.int .i64 m.wrong)])] /\
    ZX Tryz.prog K ((XV pc i ((m.levers[k].hi+1-m.levers[k].lo).toNat-i)).map Qga) si b s') ?_ ?_ _ _ ⟨s,m.levers,by simp,by simp,by simpa using hf⟩
   ·rintro e o ⟨si,ls,rfl,rfl,hfd⟩
    rw[Nat.sub_self] at hfd;cases hfd;have q1:m.levers[k].lo+((m.levers[k].hi+1-m.levers[k].lo).toNat:Int)=m.levers[k].hi+1:=by omega
    have q2:¬ m.levers[k].hi+1<=m.levers[k].hi:=by omega
    rw[q1,Qa Qjq.eq_1];simp[q2,hlt]
   ·rintro i e o hi ⟨si,ls,rfl,rfl,hfd⟩ ihl
    have q1:m.levers[k].lo+(i:Int)<=m.levers[k].hi:=by omega
    have q3:m.levers[k].lo+((i:Int)+1)=m.levers[k].lo+i+1:=by omega
    have e1:(m.levers[k].hi+1-m.levers[k].lo).toNat-i=((m.levers[k].hi+1-m.levers[k].lo).toNat-(i+1))+1:=by omega
    rw[e1] at hfd;simp only[XV,QKy] at hfd
    have hset:(List.map (List.map AV.iv∘leC) m.levers).set k [AV.iv (.int .i64 m.levers[k].long),AV.iv (.int .i64 (m.levers[k].lo+i)),AV.iv (.int .i64 (m.levers[k].lo+i))]=emb ((m.levers.set k (QcL m.levers[k] (m.levers[k].lo+i))).map leC):=by
     simp[emb,List.map_set,QcL]
    rw[Qa Qjq.eq_1];simp[q1,hlt];refine Yd hgc (by simp) ?_
    simp[hlt,hset,QKi];refine ⟨by omega,?_⟩
    have hiti:=hit i hi;rcases hfd.append with ⟨s1,hf1,hf2⟩ | ⟨rfl,hf1⟩
    ·refine ZJ (by simpa[YQ] using hiti _ _ _ hf1) rfl ?_
     simp
     (repeat' first | omega | (with_reducible apply And.intro) | intro _)
     exact ihl _ _ ⟨s1,m.levers.set k (QcL m.levers[k] (m.levers[k].lo+i)),by simp[q3],by simp,hf2⟩
    ·refine ZJ (by simpa[YQ] using hiti _ _ _ hf1) rfl ?_
     simp
omit hK
theorem Ju (a:Nat) (h:a<2 ^ 64):(BitVec.ofInt 64 (a:Int)).toNat=a:=by
 grind
theorem U5 (a:Nat) (h:a<2 ^ 64):IntKind.wrap .u64 (a:Int)=(a:Int):=by
 have h':a<18446744073709551616:=h;simp only[IntKind.wrap,IntKind.bits,IntKind.signed];simp;omega
theorem QkP (a b:Nat) (ha:a<2 ^ 64) (hb:b<2 ^ 64):qt .or .u64 (a:Int) (b:Int)=((a ||| b:Nat):Int):=by
 show IntKind.wrap .u64 (((BitVec.ofInt 64 (a:Int)) ||| (BitVec.ofInt 64 (b:Int))).toNat:Int)=_
 rw[BitVec.toNat_or,Ju a ha,Ju b hb,U5 _ (QLJ ha hb)]
theorem Qqh (a b:Nat) (ha:a<2 ^ 64) (hb:b<2 ^ 64):qt .and .u64 (a:Int) (b:Int)=((a &&& b:Nat):Int):=by
 show IntKind.wrap .u64 (((BitVec.ofInt 64 (a:Int)) &&& (BitVec.ofInt 64 (b:Int))).toNat:Int)=_
 rw[BitVec.toNat_and,Ju a ha,Ju b hb,U5 _ (Nat.and_lt_two_pow _ hb)]
def Qtz (a b:Nat):Nat:=a &&& (2 ^ 64-1-b)
theorem Qqi {a b:Nat} (ha:a<2 ^ 64):Qtz a b<2 ^ 64:=QLO Nat.and_le_left ha
theorem QmI (a b:Nat) (ha:a<2 ^ 64) (hb:b<2 ^ 64):qt .andNot .u64 (a:Int) (b:Int)=(Qtz a b:Int):=by
 show IntKind.wrap .u64 (((BitVec.ofInt 64 (a:Int)) &&& ~~~(BitVec.ofInt 64 (b:Int))).toNat:Int)=_
 rw[BitVec.toNat_and,BitVec.toNat_not,Ju a ha,Ju b hb];exact U5 _ (Qqi ha)
theorem QsN {a b i:Nat} (hb:b<2 ^ 64) (hi:i<64):(Qtz a b).testBit i=(a.testBit i&&!b.testBit i):=by
 unfold Qtz;rw[Nat.testBit_and,show 2 ^ 64-1-b=2 ^ 64-(b+1) by omega,Nat.testBit_two_pow_sub_succ hb]
 simp[hi]
theorem Qhg {n:Nat} (h:n<64):Qt4 .u64 1 (n:Int)=((2 ^ n:Nat):Int):=by
 have h2:(2:Nat) ^ n<2 ^ 64:=QLR (by decide) h
 unfold Qt4;rw[show min ((n:Int)).toNat IntKind.u64.bits=n by simp[IntKind.bits];omega,Int.one_mul]
 have:((2:Int) ^ n)=((2 ^ n:Nat):Int):=by push_cast;rfl
 rw[this];exact U5 _ h2
theorem Qt1 (a n:Nat) (h:n<64):Qs2 .u64 (a:Int) (n:Int)=((a >>> n:Nat):Int):=by
 unfold Qs2;rw[show min ((n:Int)).toNat IntKind.u64.bits=n by simp[IntKind.bits];omega,Nat.shiftRight_eq_div_pow]
 grind
theorem QuA (a n:Nat) (h:n<64) (ha:a<2 ^ 64):qt .and .u64 (Qs2 .u64 (a:Int) (n:Int)) 1=if a.testBit n then 1 else 0:=by
 rw[Qt1 a n h];have h1:a >>> n<2 ^ 64:=QLO (Nat.shiftRight_le _ _) ha;have:=Qqh (a >>> n) 1 h1 (by decide)
 rw[show ((1:Nat):Int)=1 from rfl] at this
 rw[this]
 have e:a.testBit n=(decide ((a >>> n) &&& 1=1)):=by
  rw[Nat.testBit,Nat.and_comm]
  grind
 grind
def Xw (l:List Nat):Nat:=l.foldl (fun m n=>m ||| 2 ^ n) 0
theorem qf (l:List Nat) (n:Nat):Xw (l++[n])=Xw l ||| 2 ^ n:=by simp[Xw]
theorem QfV (i:Nat):∀ l:List Nat,(Xw l).testBit i=decide (i∈l):=by
 refine X8 (by simp[Xw]) fun l n ih=>?_
 rw[qf,Nat.testBit_or,ih,Nat.testBit_two_pow]
 grind
theorem QkW (k:Nat):∀ l:List Nat,(∀ n∈l,n<k)->Xw l<2 ^ k:=by
 refine X8 (fun _=>by simp[Xw];grind) fun l n ih h=>?_
 rw[qf];exact QLJ (ih fun m hm=>h m (by simp[hm])) (QLR (by decide) (h n (by simp)))
theorem QgT (ds:List Qx) {e e':Nat->Int}:∀ k,(∀ i<k,e i=e' i)->cab ds e k=cab ds e' k
 | 0,_=>rfl
 | k+1,h=>by
   have ih:=QgT ds k fun i hi=>h i (by omega)
   have hk:=h k (by omega)
   simp only[cab,ih,hk]
theorem QtI (ds:List Qx) (k:Nat) {j:Nat} (h:j<=k):wn (ds.take k) j=wn ds j:=by
 unfold wn
 grind
theorem QlE (ds:List Qx) (e:Nat->Int) (k:Nat):∀ j,j<=k->cab (ds.take k) e j=cab ds e j
 | 0,_=>rfl
 | j+1,h=>by
   have ih:=QlE ds e k j (by omega)
   have hj:(ds.take k)[j]?=ds[j]?:=by grind
   simp only[cab,hj,ih,QtI ds k (show j<=k by omega)]
theorem Qo1 (ds:List Qx) (k i:Nat) (h:i<k):Zs (ds.take k) 0 i=Zs ds 0 i:=by
 have hj:(ds.take k)[i]?=ds[i]?:=by grind
 unfold Zs
 grind
theorem QmE (ds:List Qx) (k:Nat):cab (ds.take k) (Zs (ds.take k) 0) k=cab ds (Zs ds 0) k:=by
 rw[QlE ds _ k k (QKl _)];exact QgT ds k fun i hi=>Qo1 ds k i hi
theorem Qcg (ds:List Qx) (k:Nat) (h:Zy ds=0):Zy (ds.take k)=0:=by
 rw[Zy,QLM] at *
 grind
def Z8 (p:Qd) (e:Nat->Int):List IV :=
 [.sl 1 ((List.range p.trials.length).map fun i=>[.int .u64 (Xw (Zn p i e):Nat)]),.sl 1 ((List.range p.trials.length).map fun i=>[.int .i64 (QF p i e)]),ZG (XB p e)]
include hK
theorem QfD (c:Qk) (hc:OkD c.deeds c.deeds.length) (hl:c.deeds.length<=12) (h2:Zy c.deeds=0) (k:Nat) (hk:k<=c.deeds.length):Ev.Good Tryz.prog K 292 [chV (ZC c k)] (ZG (cab c.deeds (Zs c.deeds 0) k)):=by
 have hC:OkC (ZC c k):=qc hc hl hk;have:=Qvk hK (ZC c k) hC (Qcg _ _ h2) rfl;have e:(ZC c k).deeds=c.deeds.take k:=rfl;have e2:(c.deeds.take k).length=k:=by simp;omega
 rw[e,e2,QmE] at this;exact this
theorem QvC (p:Qd) (hp:OkP p) (h2:Zy p.chain.deeds=0):Ev.Good Tryz.prog K 237 [chV p.chain,Q4 p.trials] (.agg (Z8 p (Zs p.chain.deeds 0))):=by
 have hl:=hp.deedsLen;have htl:=hp.trialsLen;have hd:=hp.chain.deeds;refine Qb hK QyO (by simp) ?_
 simp;intro _;refine cK (by simpa using Qlb hK p.chain p.chain.deeds.length (QKl _)) ?_
 simp;refine cK (by simpa using QfD hK p.chain hd hl h2 p.chain.deeds.length (QKl _)) ?_
 simp;refine cK (by simpa using Qte hK p.chain) ?_
 simp
 refine Zb (wy:=.fall) (o':=[(4,.box [.iv (.sl 1 []),.iv (.sl 1 []),.iv (.sl 1 [])]),(5,.box [.aref 6000 p.trials.length,.aref 6001 p.trials.length,.iv (ZG (XB p (Zs p.chain.deeds 0)))]),
  (6000,.arr 229 1 (emb ((List.range p.trials.length).map fun i=>[.int .u64 (Xw (Zn p i (Zs p.chain.deeds 0)):Nat)])) 0),(6001,.arr 3 1 (emb ((List.range p.trials.length).map fun i=>[.int .i64 (QF p i (Zs p.chain.deeds 0))])) 0)]) rfl (by kernel_rfl) (QhK p.chain (by omega)) ?_ ?_
 ·have htrs:(trs (pv p.chain.deeds) 0).length=p.trials.length:=by
   have:∀ (l:List Nat) (t:Nat),(trs l t).length=l.length:=by
    intro l
    induction l with
    | nil=>intro t;rfl
    | cons a l ih=>intro t;simp[trs,ih]
   rw[this,hp.many]
  have:=Uz.all (P:=Tryz.prog) (K:=K) (ps:=[22,23]) (asn:=QeO) (body:=Qjs) (ks:=[2,3,4,5]) (ids:=[4,5,6000,6001]) (eK:=[(2,.iv (.ptr [Qp p.chain.deeds,Qh p.chain.sights,.int .i64 p.chain.wrong])),(3,.iv (.ptr [Q4 p.trials])),(4,.loc 4 0),(5,.loc 5 0)]) (trs (pv p.chain.deeds) 0)
   (fun i=>[(4,.box [.iv (.sl 1 []),.iv (.sl 1 []),.iv (.sl 1 [])]),(5,.box [.aref 6000 i,.aref 6001 i,.iv (ZG (XB p (Zs p.chain.deeds 0)))]),
     (6000,.arr 229 1 (emb ((List.range i).map fun i=>[.int .u64 (Xw (Zn p i (Zs p.chain.deeds 0)):Nat)])) 0),(6001,.arr 3 1 (emb ((List.range i).map fun i=>[.int .i64 (QF p i (Zs p.chain.deeds 0))])) 0)]) fun i x hx=>by
   obtain ⟨hi,rfl⟩:=QdD _ _ _ _ hx;have hit:i<p.trials.length:=by grind
   have hlt:=QcT hi;have hthen:Zn p i (Zs p.chain.deeds 0)=cab p.chain.deeds (Zs p.chain.deeds 0) (pv p.chain.deeds)[i]:=by simp[Zn,List.getD_eq_getElem?_getD,hi]
   have hrow:=QfD hK p.chain hd hl h2 (pv p.chain.deeds)[i] (by omega)
   rw[<- hthen] at hrow;have htr:=YF hit;have hok:=hp.trial hit;have hbr:QF p i (Zs p.chain.deeds 0)=if 0<=(tr p i).broke then (((Zn p i (Zs p.chain.deeds 0)).getD (tr p i).broke.toNat 0:Nat):Int) else -1:=rfl
   have hcl:((Zn p i (Zs p.chain.deeds 0)).length:Int)=cnt p.chain.deeds (pv p.chain.deeds)[i]:=by rw[hthen];exact ZP _ hd _ (by omega) (by omega)
   have hcb:=hd.cnt (pv p.chain.deeds)[i] (by omega) (by omega)
   have hmem:∀ n∈Zn p i (Zs p.chain.deeds 0),n<12:=fun n hn=>by
    rw[hthen] at hn;have:=Ux _ _ _ n hn;have:=Qfa p.chain.deeds (pv p.chain.deeds)[i];omega
   have hpd:(pv p.chain.deeds).getD i 0=(pv p.chain.deeds)[i]:=by grind
   rw[hpd] at hok;rw[QKU,QKy,QKy];refine ⟨rfl,?_⟩;generalize hnow:Zn p i (Zs p.chain.deeds 0)=now at *;simp[QeO,Qjs,-List.map_map,Qu,QE,QB,Ql];refine cK (by simpa using Qlb hK p.chain (pv p.chain.deeds)[i] (by omega)) ?_
   simp;refine cK (by simpa using hrow) ?_
   simp;intro _
   refine Qe (fun k=>[(2,.iv (.ptr [Qp p.chain.deeds,Qh p.chain.sights,.int .i64 p.chain.wrong])),(3,.iv (.ptr [Q4 p.trials])),(4,.loc 4 0),(5,.loc 5 0),(6,.iv (.int .i64 (i:Nat))),(8,.iv (ZG now)),(9,.iv (.int .u64 (Xw (now.take k):Nat))),(28,.iv (ZG now)),(29,.iv (.int .i64 now.length)),(30,.iv (.int .i64 (k:Nat)))])
    (fun _=>[(4,.box [.iv (.sl 1 []),.iv (.sl 1 []),.iv (.sl 1 [])]),(5,.box [.aref 6000 i,.aref 6001 i,.iv (ZG (XB p (Zs p.chain.deeds 0)))]),
    (6000,.arr 229 1 (emb ((List.range i).map fun i=>[.int .u64 (Xw (Zn p i (Zs p.chain.deeds 0)):Nat)])) 0),(6001,.arr 3 1 (emb ((List.range i).map fun i=>[.int .i64 (QF p i (Zs p.chain.deeds 0))])) 0)]) now.length (fun _=>True) trivial ?_ ?_
   ·intro _
    rw[Qa Qjt.eq_1];by_cases hb:0<=(tr p i).broke
    ·have hb2:(tr p i).broke.toNat<now.length:=by
      have:=hok.2.2;simp only[inR] at this;omega
     have hgd:now.getD (tr p i).broke.toNat 0=now[(tr p i).broke.toNat]:=by grind
     rw[if_pos hb,hgd] at hbr;simp[hit,htr,hb,hb2,hbr,hnow,-List.map_map,Qu,QE,QB,Ql,QKi];omega
    ·rw[if_neg hb] at hbr
     simp[hit,htr,hb,hbr,hnow,-List.map_map,Qu,QE,QB,Ql,QKi];omega
   ·intro k hk _ ih
    rw[Qa Qjt.eq_1];have hn:=hmem now[k] (QKj hk);have hm1:Xw (now.take k)<2 ^ 12:=QkW 12 _ fun n hn=>hmem n (QKS hn)
    have hm2:(2:Nat) ^ now[k]<2 ^ 12:=QLR (by decide) hn
    have hor:=QkP (Xw (now.take k)) (2 ^ now[k]) (by omega) (by omega)
    rw[<- Qhg (n:=now[k]) (by omega)] at hor
    rw[QKf hk,qf] at ih;simp at ih;simp[hk,hor]
    grind
  rw[htrs] at this;simpa[emb,XB] using this
 ·simp[Z8,QKi]
  trace_state
end Go.Pf
