/- The law of what is more known (ProofsMore). -/
import Derived.Test.YtanjbjjkofhanaaGreatDoorPartFive
import Derived.Test.YtanjbjjkofhanaaGreatDoorPartThree
import Derived.Test.YtanjbjjkofhanaaGreatDoorPartFour
import Derived.KernelRfl
set_option linter.all false
namespace Go.Pf
open Go Go.Ev Go.Proofs Go.RowKit
variable {K:World->Prop} (hK:∀ w w',K w->Below w.heap.size w w'->K w')
set_option maxRecDepth 8000
structure Qam (a p:Qd):Prop where
 sub:(QD a).Sublist (QD p)
 fail:∀ t,ZI a t=ZI p t
 proved:∀ l t,QC a l t=QC p l t
 good:∀ t,Y3 a t=Y3 p t
 rule:a.rule=p.rule
 link:∀ l,Jm a l=Jm p l
def QJx (p:Qd) (s:Xo):Qd:=⟨⟨p.chain.deeds,p.chain.sights++[s],p.chain.wrong⟩,p.machine,p.trials,p.need,p.rule⟩
def QJy (p:Qd) (b:Zw):Qd:=⟨p.chain,⟨p.machine.levers,p.machine.water,p.machine.llo,p.machine.lhi,p.machine.bals++[b],p.machine.wrong⟩,p.trials,p.need,p.rule⟩
theorem QdE {α:Type} (f:α->Bool) {l l':List α} (h:∀ t∈l,t∈l') (hne:l≠[]) (h3:Xq (l'.countP f) l'.length≠3):Xq (l.countP f) l.length=Xq (l'.countP f) l'.length:=by
 have hl:l.length≠0:=fun e=>hne (QKo e)
 obtain ⟨t,ht⟩:=QLe _ hne;have hl':l'.length≠0:=fun e=>by grind
 by_cases h1:Xq (l'.countP f) l'.length=1
 ·rw[h1,QcE,QLG]
  rw[QcE,QLG] at h1
  grind
 ·have h2:Xq (l'.countP f) l'.length=2:=by
   unfold Xq at *;omega
  rw[h2,QaP hl,QLM];rw[QaP hl',QLM] at h2
  grind
theorem Qam.kE {a p:Qd} (h:Qam a p) (hp:OkP p) (hk:kE a true=0):kE p true=0:=by
 have hne:=(X5 hk).2.2.2;obtain ⟨t,ht⟩:=QLe _ hne;exact QEJ hp (h.sub.subset ht)
theorem Qam.len {a p:Qd} (h:Qam a p) (ha:OkP a) (hp:OkP p):(kL a true).length<=(kL p true).length:=by
 rw[Up ha,Up hp];exact h.sub.length_le
theorem Qam.rFail {a p:Qd} (h:Qam a p) (hp:OkP p) (hk:Go.Pf.kE a true=0):(rFail p).1<=(rFail a).1/\(rFail a).2<=(rFail p).2:=by
 have hne:=(X5 hk).2.2.2;unfold Go.Pf.rFail;rw[Up (X5 hk).1,Up hp];have e:(fun t=>(ZI a t:Int))=fun t=>(ZI p t:Int):=funext fun t=>by rw[h.fail t]
 rw[e];have h1:=QdM ((QD a).map fun t=>(ZI p t:Int)) (fun e=>hne (List.map_eq_nil_iff.1 e))
 obtain ⟨t1,ht1,e1⟩:=QKt.1 h1.1;obtain ⟨t2,ht2,e2⟩:=QKt.1 h1.2;rw[<- e1,<- e2];exact ⟨(V0 (fun t=>(ZI p t:Int)) _ t1 (h.sub.subset ht1)).1,(V0 (fun t=>(ZI p t:Int)) _ t2 (h.sub.subset ht2)).2⟩
theorem Qam.rCond {a p:Qd} (h:Qam a p) (hp:OkP p) (hk:Go.Pf.kE a true=0) (h3:rCond p≠3):rCond a=rCond p:=by
 have hkp:=h.kE hp hk;unfold Go.Pf.rCond at *;rw[if_pos hkp] at h3 |-;rw[if_pos hk,Up (X5 hk).1];rw[Up hp] at h3 |-;have e:(fun t=>decide (a.rule<=(ZI a t:Int)))=fun t=>decide (p.rule<=(ZI p t:Int)):=funext fun t=>by rw[h.fail t,h.rule]
 rw[e];exact QdE _ (fun t ht=>h.sub.subset ht) (X5 hk).2.2.2 h3
theorem Qam.rGood {a p:Qd} (h:Qam a p) (hp:OkP p) (hk:Go.Pf.kE a true=0) (h3:rGood p≠3):rGood a=rGood p:=by
 have hkp:=h.kE hp hk;unfold Go.Pf.rGood at *;rw[if_pos hkp] at h3 |-;rw[if_pos hk,Up (X5 hk).1];rw[Up hp] at h3 |-;have e:Y3 a=Y3 p:=funext fun t=>h.good t
 rw[e];exact QdE _ (fun t ht=>h.sub.subset ht) (X5 hk).2.2.2 h3
theorem Qam.rProved {a p:Qd} (h:Qam a p) (hp:OkP p) (hk:Go.Pf.kE a true=0) {link:Int} (hl:Jm p link=true) (h3:rProved p link≠3):rProved a link=rProved p link:=by
 have hkp:=h.kE hp hk;unfold Go.Pf.rProved at *;rw[h.link link];rw[hl] at h3 |-;rw[if_pos hkp] at h3 |-;rw[if_pos hk,Up (X5 hk).1];rw[Up hp] at h3 |-;have e:QC a link=QC p link:=funext fun t=>h.proved link t
 rw[e];exact QdE _ (fun t ht=>h.sub.subset ht) (X5 hk).2.2.2 h3
include hK
omit hK
theorem JK (D:List Qx) (e e':Nat->Int) (h:∀ i,i<D.length->e' i=e i):∀ k,cab D e' k=cab D e k
 | 0=>rfl
 | k+1=>by
   by_cases hk:k<D.length
   ·rw[Ud D e' k hk,Ud D e k hk,h k hk,JK D e e' h k]
   ·simp only[cab,List.getElem?_eq_none (by omega:D.length<=k)]
    exact JK D e e' h k
theorem Yt (D:List Qx) (ss:List Xo) (e e':Nat->Int) (h:∀ i,i<D.length->e' i=e i):QL D ss e'=QL D ss e:=by
 unfold QL;refine List.countP_congr fun s _=>?_
 unfold Ul;rw[JK D e e' h]
def QeF (D:List Qx) (n:Nat):List Int:=(List.range D.length).map (Zs D n)
theorem qq (D:List Qx) (n i:Nat) (h:i<D.length):Qr (QeF D n) i=Zs D n i:=by
 unfold Qr QeF
 grind
theorem UK {c:Qk} (hc:OkC c) {n:Nat} (h:n∈QH c):QeF c.deeds n∈Zm c [] c.deeds:=by
 unfold QH at h;have h2:=of_decide_eq_true (QKJ.1 h).2;refine QoY hc ⟨⟨by simp[QeF],fun i hi hi'=>?_⟩,?_⟩
 ·have hg:(QeF c.deeds n)[i]=Zs c.deeds n i:=by simp[QeF]
  rw[hg,QaD c.deeds n i hi];have hf:=Qli (hc.deeds i hi hi);simp only[inR] at hf;by_cases h2:c.deeds[i].frm=2
  ·rw[if_pos h2]
   refine ⟨?_,fun h=>by omega⟩
   cases n.testBit ((Vd c.deeds).idxOf i)<;>simp[inR]
  ·rw[if_neg h2]
   exact ⟨by simp only[inR];omega,fun _=>rfl⟩
 ·rw[Yt c.deeds c.sights (Zs c.deeds n) (Qr (QeF c.deeds n)) (fun i hi=>qq _ _ _ hi)]
  exact h2
theorem Qp7 (f:Nat->Bool):∀ k:Nat,∃ n,n<2 ^ k/\∀ j,j<k->n.testBit j=f j
 | 0=>⟨0,by simp,fun j h=>by omega⟩
 | k+1=>by
   obtain ⟨n,h1,h2⟩:=Qp7 f k;cases hf:f k
   ·refine ⟨n,by omega,fun j hj=>?_⟩
    by_cases hjk:j=k
    ·subst hjk
     rw[hf];exact Nat.testBit_lt_two_pow h1
    grind
   ·refine ⟨n ||| 2 ^ k,QLJ (by omega) (by omega),fun j hj=>?_⟩
    grind
theorem UV {c:Qk} (hok:OkC c) {e:List Int} (h:e∈Zm c [] c.deeds):∃ n∈QH c,∀ i,i<c.deeds.length->Zs c.deeds n i=Qr e i:=by
 obtain ⟨⟨hl,hch⟩,hw⟩:=QbR h;obtain ⟨n,h1,h2⟩:=Qp7 (fun j=>decide (Qr e ((Vd c.deeds).getD j 0)=1)) (Vd c.deeds).length
 have heq:∀ i,i<c.deeds.length->Zs c.deeds n i=Qr e i:=fun i hi=>by
  have hei:Qr e i=e[i]'(by omega):=by
   unfold Qr
   grind
  have hc:=hch i hi (by omega)
  rw[QaD c.deeds n i hi];by_cases hf:c.deeds[i].frm=2
  ·rw[if_pos hf]
   have hm:=QgN c.deeds i hi hf;have hix:=List.idxOf_lt_length_of_mem hm;rw[h2 _ hix,List.getD_eq_getElem?_getD,QKg hix,QLk,List.getElem_idxOf hix,hei];have:=hc.1;simp only[inR] at this
   grind
  ·rw[if_neg hf,hei]
   have hfr:=Qli (hok.deeds i hi hi);simp only[inR] at hfr;omega
 refine ⟨n,?_,heq⟩;unfold QH;refine QKJ.2 ⟨QKO.2 (by rw[<- qr];exact h1),decide_eq_true ?_⟩
 rw[Yt c.deeds c.sights (Qr e) (Zs c.deeds n) heq];exact hw
def Xz (l:List Nat) (link:Int):Int:=fi (fun k:Nat=>decide ((k:Int)=link)) l
def QcC (c:Qk) (link:Int) (n:Nat):Int:=Xz (cab c.deeds (Zs c.deeds n) c.deeds.length) link
def ZA (c:Qk) (link:Int):Bool:=decide (inR link 0 ((Qki c.deeds:Int)-1))
include hK
theorem QvE (left all link:Int) (h:0<=all/\all<=1000000):Ev.Good Tryz.prog K 230 [.int .i64 left,.int .i64 all,.ptr [.int .i64 link]] (.bool (decide (inR link 0 (all-1)))):=by
 refine Qb hK QyT (by simp) ?_
 simp
 repeat' first | omega | intro _ | apply And.intro
 refine cK (Yn hK _ _ _) ?_;simp
theorem Qwj (link:Int):Ev.Good Tryz.prog K 163 [.int .i64 link] (.clo 230 [] [.ptr [.int .i64 link]]):=by
 refine Qb hK QzQ (by simp) ?_
 simp
theorem Qwh (l:List Nat) (link:Int) (hl:l.length<=1000000):Ev.Good Tryz.prog K 165 [ZG l,.int .i64 link] (.int .i64 (Xz l link)):=by
 refine Qb hK QzO (by simp) ?_
 simp;intro _;refine Qe (fun i=>[(0,AV.iv (ZG l)),(1,AV.iv (.int .i64 link)),(7,AV.iv (.int .i64 l.length)),(8,AV.iv (.int .i64 (i:Nat)))]) (fun _=>[]) l.length (fun i=>∀ k,(h:k<l.length)->k<i->¬ ((l[k]:Nat):Int)=link) (by intro k _ h;omega) ?_ ?_
 ·intro h
  rw[Qa Qj1.eq_1]
  have:Xz l link = -1:=by
   unfold Xz fi
   grind
  simp[this]
 ·intro i hi h ih
  rw[Qa Qj1.eq_1];by_cases he:((l[i]:Nat):Int)=link
  ·have:Xz l link=i:=by
    unfold Xz fi
    grind
   simp[hi,he,this]
  ·have he':¬ link=((l[i]:Nat):Int):=fun e=>he e.symm
   have hn:∀ k,(h:k<l.length)->k<i+1->¬ ((l[k]:Nat):Int)=link:=fun k hk hki=>by
    grind
   have ih:=ih hn;simp[hi,he'] at ih |-
   grind
theorem Qwi (D:List Qx) (e:Nat->Int) (pm:IV) (link:Int) (hl:D.length<=1000) (hc:(cab D e D.length).length<=1000):Ev.Good Tryz.prog K 164 [.agg (Vn D e pm),.ptr [.int .i64 link]] (.int .i64 (Xz (cab D e D.length) link)):=by
 refine Qb hK QzP (by simp) ?_
 have g120:=Qos hK D e pm hl;have g119:=Qwh hK (cab D e D.length) link (by omega)
 simp;refine cK (by simpa using g120) ?_
 simp;refine cK (by simpa using g119) ?_
 simp
theorem QBO (c:Qk) (link:Int) (hl:c.deeds.length<=1000) (hs:c.sights.length<=1000) :
  Ev.Good Tryz.prog K 83 [chV c,.int .i64 link] (.tup [Qt (if Z7 c (ZA c link)=0 then Y0 ((QH c).map (QcC c link)) else []),.int .i64 (Z7 c (ZA c link))]):=by
 refine Qb hK QCA (by simp) ?_
 have hcl:∀ n,OkC c->(cab c.deeds (Zs c.deeds n) c.deeds.length).length<=12:=fun n h=>by
  have h1:=ZP (Zs c.deeds n) h.deeds c.deeds.length (QKl _) (QKl _);have h2:=OkD.cnt h.deeds c.deeds.length (QKl _) (QKl _);have h3:=h.len;omega
 have hal:Qki c.deeds<=1000:=QKK (QKD _ _) hl
 have hg:=Qot hK c hl hs 230 [.ptr [.int .i64 link]] (ZA c link) (fun _=>QvE hK _ _ link (by omega)) (by kernel_rfl)
  164 [.ptr [.int .i64 link]] (QcC c link) (fun h _ n _=>Qwi hK c.deeds (Zs c.deeds n) (pmC c n) link hl (by grind)) (by kernel_rfl) (fun h _ n _=>by
   have h1:=hcl n h;unfold QcC Xz fi
   grind)
 simp;refine cK (by simpa using Qwj hK link) ?_
 simp;refine cK (by simpa using hg) ?_
 simp
omit hK
def Qmr (c:Qk) (ss:List Xo) (i:Nat):Nat:=(((Qo c.deeds).take i).map fun e=>QL c.deeds ss (Qr e)).foldl min ss.length
def QAQ (c:Qk) (ss:List Xo):Nat:=((Qo c.deeds).map fun e=>QL c.deeds ss (Qr e)).foldl min ss.length
theorem VP:∀ (l:List Nat) (a:Nat),l.foldl min a<=a/\∀ x∈l,l.foldl min a<=x
 | [],a=>by simp
 | y::l,a=>by
   obtain ⟨h1,h2⟩:=VP l (min a y);simp only[QLd];refine ⟨by omega,fun x hx=>?_⟩
   rcases QKq.1 hx with rfl | hx
   ·omega
   ·exact h2 x hx
theorem WG:∀ (l:List Nat) (a:Nat),l.foldl min a=a\/l.foldl min a∈l
 | [],a=>by simp
 | y::l,a=>by
   simp only[QLd,QKq];rcases WG l (min a y) with h | h
   ·rw[h]
    omega
   ·exact .inr (.inr h)
theorem QgA {l1 l2:List Nat} (h1:∀ x∈l1,x∈l2) (h2:∀ x∈l2,x∈l1) (a:Nat):l1.foldl min a=l2.foldl min a:=by
 have key:∀ {l1 l2:List Nat},(∀ x∈l1,x∈l2)->l2.foldl min a<=l1.foldl min a:=fun {l1 l2} h=>by
  rcases WG l1 a with h3 | h3
  ·rw[h3];exact (VP l2 a).1
  ·exact (VP l2 a).2 _ (h _ h3)
 exact Nat.le_antisymm (key h2) (key h1)
theorem QwU {c:Qk} (hc:OkC c) (ss:List Xo):QAQ c ss=Qlo c ss:=by
 have hc':OkC ⟨c.deeds,[],0⟩:=⟨hc.len,by simp,by simp[inR],hc.deeds,by simp⟩
 have he:=QbQ hc' rfl;unfold QAQ Qlo Qcr;refine QgA (fun x hx=>?_) (fun x hx=>?_) _
 ·obtain ⟨e,h1,rfl⟩:=QKt.1 hx
  obtain ⟨n,hn,hb⟩:=UV hc' (e:=e) (by rw[he];exact h1)
  unfold QH at hn;exact QKt.2 ⟨n,(QKJ.1 hn).1,Yt c.deeds ss (Qr e) (Zs c.deeds n) hb⟩
 ·obtain ⟨n,h1,rfl⟩:=QKt.1 hx
  have hn:n∈QH ⟨c.deeds,[],0⟩:=QKJ.2 ⟨h1,by simp[QL]⟩
  have hm:=UK hc' hn;rw[he] at hm;exact QKt.2 ⟨_,hm,Yt c.deeds ss (Zs c.deeds n) (Qr (QeF c.deeds n)) fun i hi=>qq _ _ _ hi⟩
theorem Qmq (c:Qk) (ss:List Xo) (i:Nat) (h:i<(Qo c.deeds).length):Qmr c ss (i+1)=min (Qmr c ss i) (QL c.deeds ss (Qr ((Qo c.deeds)[i]))):=by
 unfold Qmr;rw[QKf h,QKy,QLh];rfl
def plB (c:Qk) (n:Int):Bool:=decide (inR n 0 (ZO c.deeds-1))
noncomputable def QlT (c:Qk) (n:Int):List Int:=if Z7 c (plB c n)=0 then Y0 ((QH c).map (Qqr c n)) else []
noncomputable def Qdy (c:Qk) (n:Int):List Int:=if Z7 c (ZA c n)=0 then Y0 ((QH c).map (QcC c n)) else []
noncomputable def Yf (p:Qd) (n:Int):Int × Int:=if kE p (Q0 p n)=0 then XM p.machine (tr p n.toNat).weight (tr p n.toNat).mins else (0,0)
noncomputable def Qbc (p:Qd) (n:Int):Int:=if kE p (Q0 p n)=0 then tE p.machine (JN (tr p n.toNat).weight (tr p n.toNat).mins 0) else kE p (Q0 p n)
noncomputable def Yq (p:Qd):Int × Int:=if kE p true=0 then Xk p.machine 0 p.need else (0,kE p true)
noncomputable def Z4 (h:Qf) (v:Qcf) (l:List Int):Txt :=
 match v with
 | .who=>XL (QlT h.proof.chain (nI l 0)) (Z7 h.proof.chain (plB h.proof.chain (nI l 0)))
 | .wher=>XL (Qdy h.proof.chain (nI l 0)) (Z7 h.proof.chain (ZA h.proof.chain (nI l 0)))
 | .first=>XL [(Yr h.proof.chain).1] (Yr h.proof.chain).2
 | .pulls=>XL [(XM h.proof.machine (nI l 0) (nI l 1)).1,(XM h.proof.machine (nI l 0) (nI l 1)).2] (tE h.proof.machine (JN (nI l 0) (nI l 1) 0))
 | .broke=>XL (VG h.proof (nI l 0)) (kE h.proof (Q0 h.proof (nI l 0)))
 | .loads=>XL [(Yf h.proof (nI l 0)).1,(Yf h.proof (nI l 0)).2] (Qbc h.proof (nI l 0))
 | .failures=>XL [(rFail h.proof).1,(rFail h.proof).2] (kE h.proof true)
 | .condemned=>Wr (rCond h.proof) (kE h.proof true)
 | .proved=>Wr (rProved h.proof (nI l 0)) (kE h.proof (Jm h.proof (nI l 0)))
 | .opn=>XL (qZ h.proof) (kE h.proof true)
 | .good=>Wr (rGood h.proof) (kE h.proof true)
 | .worth=>XL [(Ye h.proof).1] (Ye h.proof).2
 | .weight=>XL [(Yq h.proof).1] (Yq h.proof).2
 | .stretch=>XL [(span ((uL h.pull true).map Yv)).1,(span ((uL h.pull true).map Yv)).2] (uE h.pull true)
 | .best=>XL [(Wf h.pull).1] (Wf h.pull).2
 | .holds=>Wr (VF h.pull (nI l 0)) (uE h.pull (Wi (nI l 0)))
 | .rods=>XL (QdX h.pull (nI l 0)) (uE h.pull (Ql9 h.pull (nI l 0)))
 | _=>[]
noncomputable def doV (h:Qf) (v:Qcf) (l:List Int):Txt × Qf :=
 if Z6 v then (match Vf h v l with
  | some h'=>if okH h' then (QEx,h') else (tNo,h)
  | none=>(tNo,h))
 else (Z4 h v l,h)
def X1:List Txt->Option (List Int)
 | []=>some []
 | w::r=>match Qe2 w,X1 r with
   | some x,some l=>some (x::l)
   | _,_=>none
theorem YL:∀ {ws:List Txt} {l:List Int},X1 ws=some l->l.length=ws.length
 | [],l,h=>by simp[X1] at h;subst h;rfl
 | w::r,l,h=>by
   simp only[X1] at h;split at h
   ·rename_i x l' _ h2
    injection h with h
    subst h;simp[YL h2]
   ·cases h
def XA (t:Txt):Option (Qcf × List Int):=match spl t with
 | []=>none
 | w::ws=>match Vw w with
   | none=>none
   | some (n,v)=>if ws.length=n then (X1 ws).map fun l=>(v,l) else none
noncomputable def Z2 (h:Qf) (t:Txt):Txt × Qf:=match XA t with
 | none=>(Qfe,h)
 | some (v,l)=>doV h v l
noncomputable def Qs (h:Qf) (s:List Txt) (i:Nat):Qf:=(s.take i).foldl (fun h t=>(Z2 h t).2) h
noncomputable def Xd (h:Qf) (s:List Txt) (i:Nat):List Txt:=(List.range i).map fun j=>(Z2 (Qs h s j) (s.getD j [])).1
theorem Zt (h:Qf) (s:List Txt) (i:Nat) (hi:i<s.length):Qs h s (i+1)=(Z2 (Qs h s i) s[i]).2:=by
 unfold Qs;rw[QKf hi,QLh];rfl
theorem Xj (h:Qf) (s:List Txt) (i:Nat) (hi:i<s.length):Xd h s (i+1)=Xd h s i++[(Z2 (Qs h s i) s[i]).1]:=by
 unfold Xd;rw[QKU,QKy,QLf,List.getD_eq_getElem?_getD,QKg hi];rfl
noncomputable def Qqt (h:Qf):Int:=if okH h then 0 else 120
noncomputable def Qnd (h:Qf) (s:List Txt):Int:=if okH h then (if 40<s.length then 2 else 0) else 120
structure Y4 (h:Qf):Prop where
 proof:Few h.proof
 pull:QAL h.pull
theorem QCe {h:Qf} {v:Qcf} {l:List Int} (ho:okH h):okH (doV h v l).2:=by
 unfold doV
 grind
theorem QqV {h:Qf} {t:Txt} (ho:okH h):okH (Z2 h t).2:=by
 unfold Z2;split
 ·exact ho
 ·exact QCe ho
theorem Jw {h:Qf} {s:List Txt} (ho:okH h):∀ i,okH (Qs h s i)
 | 0=>ho
 | i+1=>by
   by_cases hi:i<s.length
   ·rw[Zt h s i hi]
    exact QqV (Jw ho i)
   ·have:Qs h s (i+1)=Qs h s i:=by
     unfold Qs;rw[QKi (by omega),QKi (by omega)]
    rw[this];exact Jw ho i
structure QP (h:Qf):Prop where
 proof:Qkj h.proof
 rods:h.pull.rods.length<=1000
 reads:h.pull.reads.length<=1000
@[simp] def Qqv (k:Nat) (h:Qf):List AV:=[.aref k h.proof.chain.deeds.length,.aref (k+1) h.proof.chain.sights.length,.iv (.int .i64 h.proof.chain.wrong),.aref (k+2) h.proof.machine.levers.length,.iv (.int .i64 h.proof.machine.water),.iv (.int .i64 h.proof.machine.llo),.iv (.int .i64 h.proof.machine.lhi),
 .aref (k+3) h.proof.machine.bals.length,.iv (.int .i64 h.proof.machine.wrong),.aref (k+4) h.proof.trials.length,.iv (.int .i64 h.proof.need),.iv (.int .i64 h.proof.rule),.iv (.int .i64 h.pull.iron),.iv (.int .i64 h.pull.glo),.iv (.int .i64 h.pull.ghi),.aref (k+5) h.pull.rods.length,.aref (k+6) h.pull.reads.length,.iv (.int .i64 h.pull.wrong)]
@[simp] def Xv (k:Nat) (h:Qf):Qw:=[(k,.arr 111 5 (emb (h.proof.chain.deeds.map dC)) 0),(k+1,.arr 114 5 (emb (h.proof.chain.sights.map sC)) 0),(k+2,.arr 117 3 (emb (h.proof.machine.levers.map leC)) 0),(k+3,.arr 120 4 (emb (h.proof.machine.bals.map baC)) 0),
 (k+4,.arr 89 3 (emb (h.proof.trials.map trC)) 0),(k+5,.arr 94 3 (emb (h.pull.rods.map roC)) 0),(k+6,.arr 79 7 (emb (h.pull.reads.map reC)) 0)]
include hK
theorem Qn0 (h:Qf) (hs:QP h):QU Tryz.prog K 28 [.iv (hoV h)] [] [] (.agg (Qqv 0 h)) (Xv 0 h):=by
 obtain ⟨⟨h1,h2,h3,h4,h5⟩,h6,h7⟩:=hs;refine Q1 [17,22,33,38,62,49,54] [] [] [] QDd.p (by simp[c28]) (by simp) ?_ ?_ ?_ ?_
 ·intro q hq
  simp only[Xv,QKq,QKu,or_false] at hq;rcases hq with rfl | rfl | rfl | rfl | rfl | rfl | rfl<;>exact ⟨by simp,rfl,Xn _ _ _ _ _⟩
 ·simp[clA,clAL]
 ·simp
 ·generalize hG:Qg2 c28.res [17,22,33,38,62,49,54] [] (.agg (Qqv 0 h)) (Xv 0 h)=G
  simp[c28];refine Yd (QCl h.proof.chain.deeds h1) (by simp[Qc]) ?_
  simp;refine Yd (QCk h.proof.chain.sights h2) (by simp[Qc]) ?_
  simp;refine Yd (QCj h.proof.machine.levers h3) (by simp[Qc]) ?_
  simp;refine Yd (QCi h.proof.machine.bals h4) (by simp[Qc]) ?_
  simp;refine Yd (QCh h.pull.rods h6) (by simp[Qc]) ?_
  simp;refine Yd (QCg h.pull.reads h7) (by simp[Qc]) ?_
  simp;refine Yd (QCf h.proof.trials h5) (by simp[Qc]) ?_
  simp;rw[<- hG];refine ⟨⟨_,rfl,rfl⟩,fun q hq=>?_,by simp⟩
  simp only[Xv,QKq,QKu,or_false] at hq;rcases hq with rfl | rfl | rfl | rfl | rfl | rfl | rfl<;>simp[rnO,nth,qK,emb]
omit hK
@[reducible] def QT (h:Qf):Qw:=[(0,.box ((hoC h).map AV.iv))]
def U1 (r:Nat) (y:Txt) (h':Qf):Env->Qw->Prop:=Qg2 [Qcz.tmp r] [0] [(0,0,0)] (.iv (.str y)) (QT h')
theorem Jg (h:Qf):∀ q∈QT h,q.1<1/\Zk q.2=true/\clO ((QT h).map (·.1)) q.2=true:=by
 intro q hq;simp only[QKq,QKu,or_false] at hq;subst hq;exact ⟨by omega,rfl,QbX _ _⟩
theorem QV {r:Nat} {y:Txt} {h':Qf} {e:Env} {o:Qw} (h1:Ev.look e r=.iv (.str y)) (h2:Ev.look e 0=.loc 0 0) (h3:Qc o 0=some (.box ((hoC h').map AV.iv))):U1 r y h' e o:=by
 refine ⟨⟨.iv (.str y),?_,rfl⟩,fun q hq=>?_,fun q hq=>?_⟩
 ·simp[Qub,QqI,h1]
 ·simp only[QKq,QKu,or_false] at hq
  subst hq;refine h3.trans ?_;simp only[rnO,qL]
 grind
section
theorem Qv {f:FuncId} {A:AFn} {r:Nat} {args:List IV} {h h':Qf} {y:Txt} (hok:ZS Tryz.prog f A [0]) (hres:A.res=[.tmp r]) (hlen:args.length<A.nt)
  (hrun:WpF Tryz.prog K (FnF (U1 r y h')) [.code A.code] (YV 0 (.loc 0 0::args.map .iv)) (QT h)):QU Tryz.prog K f (.loc 0 0::args.map .iv) (QT h) [0] (.iv (.str y)) (QT h'):=by
 refine Q1 [0] [0] [0] [(0,0,0)] hok (by simp;omega) (by simp) (Jg h') (by simp[clA]) ?_ (by rw[hres];exact hrun)
 simp[nth,Qc]
 grind
theorem Ya {args0:List IV} {o:Qw} {h h':Qf} {a:Nat} (ho:Qc o a=some (.box ((hoC h).map AV.iv))):HOk [a] (.loc 0 0::args0.map .iv) o (QT h) (QT h'):=by
 refine ⟨by simp,?_,fun q hq=>?_,fun i hi h1=>?_,fun q hq=>⟨(Jg h' q hq).1,(Jg h' q hq).2.1⟩⟩
 ·simp[clA]
 ·have h1:=Jg h q hq
  refine ⟨h1.1,?_,h1.2.2,h1.2.1⟩;simp only[QKq,QKu,or_false] at hq;subst hq;refine ho.trans ?_;simp only[rnO,qL]
 ·simp at hi
  subst hi;simp[Qc] at h1
include hK
theorem QuX (h:Qf) (hs:QP h):Ev.Good Tryz.prog K 9 [hoV h] (.int .i64 (Qqt h)):=by
 refine Qb hK QFn (by simp) ?_
 have g1:=Qtk hK h.proof hs.proof;have g2:=Qtj hK h.pull hs.rods hs.reads;simp;refine cK (by simpa using g1) ?_
 unfold Qqt okH;by_cases h1:OkP h.proof
 ·simp[h1]
  refine cK (by simpa using g2) ?_
  by_cases h2:OkU h.pull<;>simp[h2]
 ·simp[h1]
end
theorem QJ2 (h:Qf):imms (fun i=>if i=0 then none else Qc ((0,.box (Qqv 1 h))::Xv 1 h) i) 40 (Qqv 1 h)=some (hoC h):=by
 simp[imms,imm,immss,Qc,QKi]
def CH (K:World->Prop) (g:FuncId) (cs:List IV) (h h':Qf):Prop:=QU Tryz.prog K g (.loc 0 0::cs.map .iv) ((0,.box (Qqv 1 h))::Xv 1 h) [0] (.iv (.tup [])) (QT h')
theorem Qty (h:Qf):∀ q∈((0,AO.box (Qqv 1 h))::Xv 1 h),q.1<8/\Zk q.2=true/\clO (((0,AO.box (Qqv 1 h))::Xv 1 h).map (·.1)) q.2=true:=by
 intro q hq;simp only[Xv,QKq,QKu,or_false] at hq;rcases hq with rfl | rfl | rfl | rfl | rfl | rfl | rfl | rfl
 ·exact ⟨by omega,rfl,by simp[clO,clAL,clA]⟩
 all_goals exact ⟨by show (_:Nat)<8;omega,rfl,Xn _ _ _ _ _⟩
def QAM (h':Qf):Env->Qw->Prop:=Qg2 [] [0,1,2,3,4,5,6,7] [(0,0,0)] (.iv (.tup [])) ((0,.box (Qqv 1 h'))::Xv 1 h')
theorem QbU {h':Qf} {e:Env} {o:Qw} (h1:Ev.look e 0=.loc 0 0) (h2:∀ q∈((0,AO.box (Qqv 1 h'))::Xv 1 h'),Qc o q.1=some q.2):QAM h' e o:=by
 refine ⟨⟨.iv (.tup []),rfl,rfl⟩,fun q hq=>?_,fun q hq=>?_⟩
 ·have h3:=h2 q hq
  simp only[Xv,QKq,QKu,or_false] at hq;rcases hq with rfl | rfl | rfl | rfl | rfl | rfl | rfl | rfl
  ·refine h3.trans ?_
   simp[rnO,rnL,rn,nth]
  all_goals
   refine h3.trans ?_;rw[Yl]
 grind
section
variable {K:World->Prop}
theorem VU {f:FuncId} {A:AFn} {cs:List IV} {h h':Qf} (hok:ZS Tryz.prog f A [0]) (hres:A.res=[]) (hlen:cs.length<A.nt)
  (hrun:WpF Tryz.prog K (FnF (QAM h')) [.code A.code] (YV 0 (.loc 0 0::cs.map .iv)) ((0,.box (Qqv 1 h))::Xv 1 h)):CH K f cs h h':=by
 refine QU.give (Q1 [0,1,2,3,4,5,6,7] [0] [0] [(0,0,0)] hok (by simp;omega) (by decide) (Qty h') (by simp[clA]) ?_ (by rw[hres];exact hrun)) (by simp) (QJ2 h')
 simp[nth,Qc]
 grind
theorem Qsq:ZS Tryz.prog 225 QDj [0]:=⟨_,Tryz.func225,by kernel_rfl⟩
theorem Qsv:ZS Tryz.prog 153 QDu [0]:=⟨_,Tryz.func153,by kernel_rfl⟩
theorem Qsu:ZS Tryz.prog 154 QzW [0]:=⟨_,Tryz.func154,by kernel_rfl⟩
theorem Qst:ZS Tryz.prog 155 QDt [0]:=⟨_,Tryz.func155,by kernel_rfl⟩
theorem Qss:ZS Tryz.prog 156 QDs [0]:=⟨_,Tryz.func156,by kernel_rfl⟩
theorem Qsr:ZS Tryz.prog 157 QDr [0]:=⟨_,Tryz.func157,by kernel_rfl⟩
def Zj (h:Qf) (s:Xo):Qf:={ h with proof:={ h.proof with chain:={ h.proof.chain with sights:=h.proof.chain.sights++[s] } } }
def XF (h:Qf) (b:Zw):Qf:={ h with proof:={ h.proof with machine:={ h.proof.machine with bals:=h.proof.machine.bals++[b] } } }
def ZQ (h:Qf) (x:QW):Qf:={ h with pull:={ h.pull with reads:=h.pull.reads++[x] } }
def Za (h:Qf) (t:U0):Qf:={ h with proof:={ h.proof with chain:={ h.proof.chain with deeds:=h.proof.chain.deeds++[⟨4,0,0,0,0⟩] },trials:=h.proof.trials++[t] } }
def ZT (h:Qf):Qf:={ h with proof:={ h.proof with chain:={ h.proof.chain with deeds:=h.proof.chain.deeds.dropLast },trials:=if (h.proof.chain.deeds.getLast?.map (·.what))=some 4 then h.proof.trials.dropLast else h.proof.trials } }
theorem QFh (h:Qf) (d:Qx) (hs:QP h):CH K 225 [.ptr (dC d)] h (Qi h d):=by
 obtain ⟨⟨h1,h2,h3,h4,h5⟩,h6,h7⟩:=hs;refine VU Qsq rfl (by simp[QDj]) ?_
 generalize hG:QAM (Qi h d)=G;simp[QDj];rw[<- hG]
 repeat' first | omega | exact QbU rfl (by
  intro q hq;simp only[Xv,QKq,QKu,or_false] at hq;rcases hq with rfl | rfl | rfl | rfl | rfl | rfl | rfl | rfl<;>simp[Qc,Qi]) | intro _ | apply And.intro
theorem QFm (h:Qf) (a b c:Int) (hs:QP h):CH K 153 [.ptr [Qt [a,b,c]]] h (Za h ⟨a,b,c⟩):=by
 obtain ⟨⟨h1,h2,h3,h4,h5⟩,h6,h7⟩:=hs;refine VU Qsv rfl (by simp[QDu]) ?_
 generalize hG:QAM (Za h ⟨a,b,c⟩)=G;simp[QDu];rw[<- hG]
 repeat' first | omega | exact QbU rfl (by
  intro q hq;simp only[Xv,QKq,QKu,or_false] at hq;rcases hq with rfl | rfl | rfl | rfl | rfl | rfl | rfl | rfl<;>simp[Qc,Za]) | intro _ | apply And.intro
theorem QFk (h:Qf) (a b c d e:Int) (hs:QP h):CH K 155 [.ptr [Qt [a,b,c,d,e]]] h (Zj h ⟨a,b,c,d,e⟩):=by
 obtain ⟨⟨h1,h2,h3,h4,h5⟩,h6,h7⟩:=hs;refine VU Qst rfl (by simp[QDt]) ?_
 generalize hG:QAM (Zj h ⟨a,b,c,d,e⟩)=G;simp[QDt];rw[<- hG]
 repeat' first | omega | exact QbU rfl (by
  intro q hq;simp only[Xv,QKq,QKu,or_false] at hq;rcases hq with rfl | rfl | rfl | rfl | rfl | rfl | rfl | rfl<;>simp[Qc,Zj]) | intro _ | apply And.intro
theorem QFj (h:Qf) (a b c d:Int) (hs:QP h):CH K 156 [.ptr [Qt [a,b,c,d]]] h (XF h ⟨a,b,c,d⟩):=by
 obtain ⟨⟨h1,h2,h3,h4,h5⟩,h6,h7⟩:=hs;refine VU Qss rfl (by simp[QDs]) ?_
 generalize hG:QAM (XF h ⟨a,b,c,d⟩)=G;simp[QDs];rw[<- hG]
 repeat' first | omega | exact QbU rfl (by
  intro q hq;simp only[Xv,QKq,QKu,or_false] at hq;rcases hq with rfl | rfl | rfl | rfl | rfl | rfl | rfl | rfl<;>simp[Qc,XF]) | intro _ | apply And.intro
theorem QFi (h:Qf) (a b c d e f g:Int) (hs:QP h):CH K 157 [.ptr [Qt [a,b,c,d,e,f,g]]] h (ZQ h ⟨a,b,c,d,e,f,g⟩):=by
 obtain ⟨⟨h1,h2,h3,h4,h5⟩,h6,h7⟩:=hs;refine VU Qsr rfl (by simp[QDr]) ?_
 generalize hG:QAM (ZQ h ⟨a,b,c,d,e,f,g⟩)=G;simp[QDr];rw[<- hG]
 repeat' first | omega | exact QbU rfl (by
  intro q hq;simp only[Xv,QKq,QKu,or_false] at hq;rcases hq with rfl | rfl | rfl | rfl | rfl | rfl | rfl | rfl<;>simp[Qc,ZQ,emb]) | intro _ | apply And.intro
theorem QFl (h:Qf) (hne:h.proof.chain.deeds≠[]) (ht:(h.proof.chain.deeds.getLast?.map (·.what))=some 4->h.proof.trials≠[]) (hs:QP h):CH K 154 [.ptr [.int .i64 ((h.proof.chain.deeds.length:Int)-1)]] h (ZT h):=by
 obtain ⟨⟨h1,h2,h3,h4,h5⟩,h6,h7⟩:=hs;obtain ⟨D,d,hD⟩:∃ D d,h.proof.chain.deeds=D++[d]:=⟨_,_,(QLn hne).symm⟩
 have hr:QzW.res=[]:=rfl;obtain ⟨⟨⟨deeds,sights,cw⟩,m,trials,need,rule⟩,u⟩:=h;simp only at *;subst hD;refine Q1 [0] [0] [0] [(0,0,0)] Qsu (by simp[QzW]) (by simp) (Jg _) (by simp[clA]) ?_ ?_
 ·simp[nth,Qc]
  grind
 ·rw[hr]
  have fin:∀ (e:Env) (o:Qw) (h':Qf),Ev.look e 0=.loc 0 0->Qc o 0=some (.box ((hoC h').map AV.iv))->Qg2 [] [0] [(0,0,0)] (.iv (.tup [])) (QT h') e o:=fun e o h' q1 q2=>by
   refine ⟨⟨.iv (.tup []),rfl,rfl⟩,fun q hq=>?_,fun q hq=>?_⟩
   ·simp only[QKq,QKu,or_false] at hq
    subst hq;refine q2.trans ?_;simp only[rnO,qL]
   grind
  generalize hG:Qg2 [] [0] [(0,0,0)] (.iv (.tup [])) (QT (ZT ⟨⟨⟨D++[d],sights,cw⟩,m,trials,need,rule⟩,u⟩))=G;simp at ht h1
  have tk:∀ x:List IV,List.take D.length (List.take (D.length+1) (D.map dC++[x]))=D.map dC:=fun x=>by
   grind
  by_cases h4:d.what=4
  ·have htl:1<=trials.length:=QLl.2 (ht h4)
   have htn:((trials.length:Int)-1).toNat=trials.length-1:=by omega
   simp[QzW,h4,htn];rw[<- hG]
   repeat' first | omega | exact fin _ _ _ rfl (by simp[Qc,ZT,h4,List.dropLast_eq_take,tk]) | intro _ | apply And.intro
  ·simp[QzW,h4]
   rw[<- hG]
   repeat' first | omega | exact fin _ _ _ rfl (by simp[Qc,ZT,h4,tk]) | intro _ | apply And.intro
end
theorem Qsw:ZS Tryz.prog 152 QDv [0]:=⟨_,Tryz.func152,by kernel_rfl⟩
theorem Qsx:ZS Tryz.prog 151 QDw [0]:=⟨_,Tryz.func151,by kernel_rfl⟩
theorem QxB:ZS Tryz.prog 71 c71 [0]:=⟨_,Tryz.func71,by kernel_rfl⟩
theorem QxA:ZS Tryz.prog 72 c72 [0]:=⟨_,Tryz.func72,by kernel_rfl⟩
theorem Qxz:ZS Tryz.prog 73 c73 [0]:=⟨_,Tryz.func73,by kernel_rfl⟩
theorem Qxy:ZS Tryz.prog 74 c74 [0]:=⟨_,Tryz.func74,by kernel_rfl⟩
theorem Qxx:ZS Tryz.prog 75 c75 [0]:=⟨_,Tryz.func75,by kernel_rfl⟩
theorem Qxw:ZS Tryz.prog 76 c76 [0]:=⟨_,Tryz.func76,by kernel_rfl⟩
theorem Qxv:ZS Tryz.prog 77 c77 [0]:=⟨_,Tryz.func77,by kernel_rfl⟩
theorem Qxu:ZS Tryz.prog 78 c78 [0]:=⟨_,Tryz.func78,by kernel_rfl⟩
noncomputable def chT (h':Qf):Txt:=if okH h' then QEx else tNo
noncomputable def chH (h h':Qf):Qf:=if okH h' then h' else h
include hK
theorem Ua (h h':Qf) (g:FuncId) (cs:List IV) (hs:QP h) (hs':QP h') (hc:callee Tryz.prog g=true) (hg:CH K g cs h h') :
  QU Tryz.prog K 152 (.loc 0 0::[IV.clo g [] cs].map .iv) (QT h) [0] (.iv (.str (chT h'))) (QT (chH h h')):=by
 refine Qv Qsw rfl (by simp[QDv]) ?_
 generalize hG:U1 4 (chT h') (chH h h')=G;have g28:=Qn0 hK h hs;have g9:=QuX hK h' hs';simp[QDv];refine Qn (ids:=[11000,11001,11003,11007,11009,11015,11016]) g28 rfl ?_ ?_
 ·refine ⟨by decide,by simp[clA],by simp,?_,?_⟩
  ·simp[Qc]
   intro i hi;have:i=0\/i=1\/i=2\/i=3\/i=4\/i=5\/i=6:=by omega
   rcases this with rfl | rfl | rfl | rfl | rfl | rfl | rfl<;>simp[nth]
  intro q hq;simp only[Xv,QKq,QKu,or_false] at hq;rcases hq with rfl | rfl | rfl | rfl | rfl | rfl | rfl<;>exact ⟨by show (_:Nat)<7;omega,rfl⟩
 ·simp[rn,rnL,nth,Yl]
  refine ⟨hc,?_⟩;refine Qn (ids:=[5,11000,11001,11003,11007,11009,11015,11016]) hg (by simp[nth,rn]) ?_ ?_
  ·refine ⟨by decide,by simp[clA],fun q hq=>?_,fun i hi h1=>?_,fun q hq=>?_⟩
   ·have h1:=Qty h q hq
    refine ⟨h1.1,?_,h1.2.2,h1.2.1⟩;simp only[Xv,QKq,QKu,or_false] at hq;rcases hq with rfl | rfl | rfl | rfl | rfl | rfl | rfl | rfl
    ·simp[Qc,nth,rnO,rnL,rn]
    all_goals
     rw[Yl];simp[Qc,nth]
   ·simp at hi
    have:i=0\/i=1\/i=2\/i=3\/i=4\/i=5\/i=6\/i=7:=by omega
    rcases this with rfl | rfl | rfl | rfl | rfl | rfl | rfl | rfl<;>simp[Qc] at h1
   ·have h1:=Jg h' q hq
    grind
  ·simp[rn,nth]
   refine cK (by simpa using g9) ?_
   rw[<- hG];unfold Qqt chT chH;by_cases ho:okH h'
   ·simp[ho]
    exact QV rfl rfl (by simp[Qc])
   ·simp[ho]
    exact QV rfl rfl (by simp[Qc])
theorem Qeg (h:Qf) (d:Qx) (hs:QP h) (hs':QP (Qi h d)):QU Tryz.prog K 151 (.loc 0 0::[IV.agg (dC d)].map .iv) (QT h) [0] (.iv (.str (chT (Qi h d)))) (QT (chH h (Qi h d))):=by
 refine Qv Qsx rfl (by simp[QDw]) ?_
 generalize hG:U1 4 (chT (Qi h d)) (chH h (Qi h d))=G;have hg:=Ua hK h (Qi h d) 225 [.ptr (dC d)] hs hs' (by kernel_rfl) (QFh h d hs)
 simp[QDw];refine Qn hg (by simp[nth,rn]) (Ya (by simp[Qc])) ?_
 simp[nth,rn];rw[<- hG];exact QV rfl rfl (by simp[Qc])
theorem QuR (h:Qf) (a b c d:Int) (hs:QP h) (hs':QP (Qi h ⟨1,a,b,c,d⟩)):QU Tryz.prog K 71 (.loc 0 0::[Qt [a,b,c,d]].map .iv) (QT h) [0] (.iv (.str (chT (Qi h ⟨1,a,b,c,d⟩)))) (QT (chH h (Qi h ⟨1,a,b,c,d⟩))):=by
 refine Qv QxB rfl (by simp[c71]) ?_
 generalize hG:U1 4 (chT (Qi h ⟨1,a,b,c,d⟩)) (chH h (Qi h ⟨1,a,b,c,d⟩))=G;have hg:=Qeg hK h ⟨1,a,b,c,d⟩ hs hs';simp[c71];refine Qn hg (by simp[nth,rn]) (Ya (by simp[Qc])) ?_
 simp[nth,rn];rw[<- hG];exact QV rfl rfl (by simp[Qc])
theorem QuQ (h:Qf) (a b:Int) (hs:QP h) (hs':QP (Qi h ⟨2,a,b,0,0⟩)):QU Tryz.prog K 72 (.loc 0 0::[Qt [a,b]].map .iv) (QT h) [0] (.iv (.str (chT (Qi h ⟨2,a,b,0,0⟩)))) (QT (chH h (Qi h ⟨2,a,b,0,0⟩))):=by
 refine Qv QxA rfl (by simp[c72]) ?_
 generalize hG:U1 4 (chT (Qi h ⟨2,a,b,0,0⟩)) (chH h (Qi h ⟨2,a,b,0,0⟩))=G;have hg:=Qeg hK h ⟨2,a,b,0,0⟩ hs hs';simp[c72];refine Qn hg (by simp[nth,rn]) (Ya (by simp[Qc])) ?_
 simp[nth,rn];rw[<- hG];exact QV rfl rfl (by simp[Qc])
theorem QuP (h:Qf) (hs:QP h) (hs':QP (Qi h ⟨3,0,0,0,0⟩)):QU Tryz.prog K 73 (.loc 0 0::[Qt []].map .iv) (QT h) [0] (.iv (.str (chT (Qi h ⟨3,0,0,0,0⟩)))) (QT (chH h (Qi h ⟨3,0,0,0,0⟩))):=by
 refine Qv Qxz rfl (by simp[c73]) ?_
 generalize hG:U1 4 (chT (Qi h ⟨3,0,0,0,0⟩)) (chH h (Qi h ⟨3,0,0,0,0⟩))=G;have hg:=Qeg hK h ⟨3,0,0,0,0⟩ hs hs';simp[c73];refine Qn hg (by simp[nth,rn]) (Ya (by simp[Qc])) ?_
 simp[nth,rn];rw[<- hG];exact QV rfl rfl (by simp[Qc])
theorem QuO (h:Qf) (a b c:Int) (hs:QP h) (hs':QP (Za h ⟨a,b,c⟩)):QU Tryz.prog K 74 (.loc 0 0::[Qt [a,b,c]].map .iv) (QT h) [0] (.iv (.str (chT (Za h ⟨a,b,c⟩)))) (QT (chH h (Za h ⟨a,b,c⟩))):=by
 refine Qv Qxy rfl (by simp[c74]) ?_
 generalize hG:U1 4 (chT (Za h ⟨a,b,c⟩)) (chH h (Za h ⟨a,b,c⟩))=G;have hg:=Ua hK h (Za h ⟨a,b,c⟩) 153 [.ptr [Qt [a,b,c]]] hs hs' (by kernel_rfl) (QFm h a b c hs)
 simp[c74];refine Qn hg (by simp[nth,rn]) (Ya (by simp[Qc])) ?_
 simp[nth,rn];rw[<- hG];exact QV rfl rfl (by simp[Qc])
theorem QuM (h:Qf) (a b c d e:Int) (hs:QP h) (hs':QP (Zj h ⟨a,b,c,d,e⟩)):QU Tryz.prog K 76 (.loc 0 0::[Qt [a,b,c,d,e]].map .iv) (QT h) [0] (.iv (.str (chT (Zj h ⟨a,b,c,d,e⟩)))) (QT (chH h (Zj h ⟨a,b,c,d,e⟩))):=by
 refine Qv Qxw rfl (by simp[c76]) ?_
 generalize hG:U1 4 (chT (Zj h ⟨a,b,c,d,e⟩)) (chH h (Zj h ⟨a,b,c,d,e⟩))=G;have hg:=Ua hK h (Zj h ⟨a,b,c,d,e⟩) 155 [.ptr [Qt [a,b,c,d,e]]] hs hs' (by kernel_rfl) (QFk h a b c d e hs)
 simp[c76];refine Qn hg (by simp[nth,rn]) (Ya (by simp[Qc])) ?_
 simp[nth,rn];rw[<- hG];exact QV rfl rfl (by simp[Qc])
theorem QuL (h:Qf) (a b c d:Int) (hs:QP h) (hs':QP (XF h ⟨a,b,c,d⟩)):QU Tryz.prog K 77 (.loc 0 0::[Qt [a,b,c,d]].map .iv) (QT h) [0] (.iv (.str (chT (XF h ⟨a,b,c,d⟩)))) (QT (chH h (XF h ⟨a,b,c,d⟩))):=by
 refine Qv Qxv rfl (by simp[c77]) ?_
 generalize hG:U1 4 (chT (XF h ⟨a,b,c,d⟩)) (chH h (XF h ⟨a,b,c,d⟩))=G;have hg:=Ua hK h (XF h ⟨a,b,c,d⟩) 156 [.ptr [Qt [a,b,c,d]]] hs hs' (by kernel_rfl) (QFj h a b c d hs)
 simp[c77];refine Qn hg (by simp[nth,rn]) (Ya (by simp[Qc])) ?_
 simp[nth,rn];rw[<- hG];exact QV rfl rfl (by simp[Qc])
theorem QuK (h:Qf) (a b c d e f g:Int) (hs:QP h) (hs':QP (ZQ h ⟨a,b,c,d,e,f,g⟩)):QU Tryz.prog K 78 (.loc 0 0::[Qt [a,b,c,d,e,f,g]].map .iv) (QT h) [0] (.iv (.str (chT (ZQ h ⟨a,b,c,d,e,f,g⟩)))) (QT (chH h (ZQ h ⟨a,b,c,d,e,f,g⟩))):=by
 refine Qv Qxu rfl (by simp[c78]) ?_
 generalize hG:U1 4 (chT (ZQ h ⟨a,b,c,d,e,f,g⟩)) (chH h (ZQ h ⟨a,b,c,d,e,f,g⟩))=G;have hg:=Ua hK h (ZQ h ⟨a,b,c,d,e,f,g⟩) 157 [.ptr [Qt [a,b,c,d,e,f,g]]] hs hs' (by kernel_rfl) (QFi h a b c d e f g hs)
 simp[c78];refine Qn hg (by simp[nth,rn]) (Ya (by simp[Qc])) ?_
 simp[nth,rn];rw[<- hG];exact QV rfl rfl (by simp[Qc])
theorem QuN (h:Qf) (ht:(h.proof.chain.deeds.getLast?.map (·.what))=some 4->h.proof.trials≠[]) (hs:QP h) (hs':QP (ZT h)):QU Tryz.prog K 75 (.loc 0 0::[Qt []].map .iv) (QT h) [0] (.iv (.str (if h.proof.chain.deeds=[] then tNo else chT (ZT h)))) (QT (if h.proof.chain.deeds=[] then h else chH h (ZT h))):=by
 have hl:=hs.proof.deeds;refine Qv Qxx rfl (by simp[c75]) ?_
 by_cases hne:h.proof.chain.deeds=[]
 ·simp only[hne,if_true]
  generalize hG:U1 4 tNo h=G;simp[c75,hne];refine Qg0 _ _ _ _ _ _ _ _ ?_;simp;rw[<- hG];exact QV rfl rfl (by simp[Qc,hne])
 ·simp only[hne,if_false]
  generalize hG:U1 4 (chT (ZT h)) (chH h (ZT h))=G;have hlen:=QLl.2 hne;have hg:=Ua hK h (ZT h) 154 [.ptr [.int .i64 ((h.proof.chain.deeds.length:Int)-1)]] hs hs' (by kernel_rfl) (QFl h hne ht hs)
  have hlt:¬ (h.proof.chain.deeds.length:Int)-1<0:=by omega
  simp[c75];intro _;refine ⟨by omega,?_⟩
  refine Qg0 _ _ _ _ _ _ _ _ ?_;simp[hlt];refine Qn (ids:=[0,5]) hg (by simp[nth,rn]) ?_ ?_
  ·refine ⟨by decide,by simp[clA],fun q hq=>?_,fun i hi h1=>?_,fun q hq=>?_⟩
   ·have h1:=Jg h q hq
    refine ⟨by grind,?_,h1.2.2,h1.2.1⟩
    simp only[QKq,QKu,or_false] at hq;subst hq;simp[Qc,nth,rnO,rnL,rn]
   ·simp at hi
    have:i=0\/i=1:=by omega
    rcases this with rfl | rfl
    ·simp[Qc] at h1
    ·simp[Qc,nth]
   ·have h1:=Jg (chH h (ZT h)) q hq
    grind
  ·simp[nth,rn]
   rw[<- hG];exact QV rfl rfl (by simp[Qc])
omit hK
set_option maxHeartbeats 10000000
def Qaa (neg:Bool) (D:Txt):Option Nat:=if D.length=0\/9<D.length\/(D.head?=some 48/\(neg=true\/1<D.length)) then none else Lib.decFrom 0 D
theorem Qnu (w:Txt):Qe2 w=if w.head?=some 45 then (Qaa true (w.drop 1)).map fun (m:Nat) => -(m:Int) else (Qaa false w).map fun (m:Nat)=>(m:Int):=by
 unfold Qe2
 have dn:∀ D:Txt,D≠[]->Lib.decNat D=Lib.decFrom 0 D:=fun D h=>by
  unfold Lib.decNat
  grind
 split
 ·generalize w.drop 1=D
  unfold Qaa;by_cases h0:D=[]
  ·subst h0;simp[Lib.decNat]
  grind
 ·unfold Qaa
  by_cases h0:w=[]
  ·subst h0;simp[Lib.decNat]
  grind
theorem Yc:∀ (a b:Txt) (acc:Nat),Lib.decFrom acc (a++b)=(Lib.decFrom acc a).bind fun m=>Lib.decFrom m b
 | [],b,acc=>rfl
 | c::a,b,acc=>by
   simp only[QKs,Lib.decFrom];cases Lib.digitVal c with
   | none=>rfl
   | some d=>exact Yc a b _
theorem Je (c:UInt8):Lib.digitVal c=if 48<=c.toNat/\c.toNat<=57 then some (c.toNat-48) else none:=by
 unfold Lib.digitVal;rfl
theorem decFrom_lt:∀ (l:Txt) (m:Nat) (i:Nat),i<=l.length->Lib.decFrom 0 (l.take i)=some m->m<10 ^ i
 | l,m,0,_,h=>by simp[Lib.decFrom] at h;subst h;simp
 | l,m,i+1,hi,h=>by
   rw[QKf (by omega),Yc] at h
   cases hk:Lib.decFrom 0 (l.take i) with
   | some k =>
     have:=decFrom_lt l k i (by omega) hk
     rw[hk] at h;simp only[Option.bind_some,Lib.decFrom,Je] at h
     grind
   | _=>grind
theorem W4 (w:Txt):(∃ p∈ZF,p.1=w)\/∀ p∈ZF,¬ p.1=w:=by
 grind
theorem Xy:∀ p∈ZF,Vw p.1=some p.2:=by decide
theorem JQ {w:Txt} (h:∀ p∈ZF,¬ p.1=w):Vw w=none:=by
 unfold Vw
 grind
def ixW (w:Txt):Nat:=(ZF.map (·.1)).idxOf w
theorem QBG (w:Txt):ixW w<=25:=List.idxOf_le_length
theorem Zl {w l:Txt} (k:Nat) (h:(ZF.map (·.1))[k]?=some l) (hd:(ZF.map (·.1)).idxOf l=k):w=l↔ixW w=k:=by
 constructor
 ·intro e
  subst e;exact hd
 ·intro e
  unfold ixW at e
  grind
theorem QmT (w:Txt):Vw w=(ZF[ixW w]?).map (·.2):=by
 by_cases h:∃ p∈ZF,p.1=w
 ·obtain ⟨p,hp,rfl⟩:=h
  rw[Xy p hp];have hlt:ixW p.1<(ZF.map (·.1)).length:=List.idxOf_lt_length_of_mem (QKt.2 ⟨p,hp,rfl⟩)
  have hlt':ixW p.1<ZF.length:=by simpa using hlt
  have h1:=List.getElem_idxOf hlt;rw[QKg hlt'];have h2:=Xy ZF[ixW p.1] (QKj hlt')
  have h3:ZF[ixW p.1].1=p.1:=by
   rw[<- List.getElem_map (f:=fun q:Txt × Nat × Qcf=>q.1) (h:=by simpa using hlt)]
   exact h1
  rw[h3,Xy p hp] at h2;exact h2
 ·rw[JQ fun p hp e=>h ⟨p,hp,e⟩]
  have:ixW w=(ZF.map (·.1)).length:=List.idxOf_eq_length fun hm=>by
   grind
  grind
theorem ix0 (w:Txt):(w=[119,101,108,100])=(ixW w=0):=propext (Zl 0 rfl rfl)
theorem ix1 (w:Txt):(w=[99,117,116])=(ixW w=1):=propext (Zl 1 rfl rfl)
theorem ix2 (w:Txt):(w=[116,117,114,110])=(ixW w=2):=propext (Zl 2 rfl rfl)
theorem ix3 (w:Txt):(w=[112,114,111,118,101])=(ixW w=3):=propext (Zl 3 rfl rfl)
theorem ix4 (w:Txt):(w=[117,110,100,111])=(ixW w=4):=propext (Zl 4 rfl rfl)
theorem ix5 (w:Txt):(w=[115,101,101])=(ixW w=5):=propext (Zl 5 rfl rfl)
theorem ix6 (w:Txt):(w=[98,97,108,97,110,99,101])=(ixW w=6):=propext (Zl 6 rfl rfl)
theorem ix7 (w:Txt):(w=[114,101,97,100])=(ixW w=7):=propext (Zl 7 rfl rfl)
theorem ix8 (w:Txt):(w=[119,104,111])=(ixW w=8):=propext (Zl 8 rfl rfl)
theorem ix9 (w:Txt):(w=[119,104,101,114,101])=(ixW w=9):=propext (Zl 9 rfl rfl)
theorem QJN (w:Txt):(w=[102,105,114,115,116])=(ixW w=10):=propext (Zl 10 rfl rfl)
theorem QJM (w:Txt):(w=[112,117,108,108,115])=(ixW w=11):=propext (Zl 11 rfl rfl)
theorem QJL (w:Txt):(w=[98,114,111,107,101])=(ixW w=12):=propext (Zl 12 rfl rfl)
theorem QJK (w:Txt):(w=[108,111,97,100,115])=(ixW w=13):=propext (Zl 13 rfl rfl)
theorem QJJ (w:Txt):(w=[102,97,105,108,117,114,101,115])=(ixW w=14):=propext (Zl 14 rfl rfl)
theorem QJI (w:Txt):(w=[99,111,110,100,101,109,110,101,100])=(ixW w=15):=propext (Zl 15 rfl rfl)
theorem QJH (w:Txt):(w=[112,114,111,118,101,100])=(ixW w=16):=propext (Zl 16 rfl rfl)
theorem QJG (w:Txt):(w=[111,112,101,110])=(ixW w=17):=propext (Zl 17 rfl rfl)
theorem QJF (w:Txt):(w=[103,111,111,100])=(ixW w=18):=propext (Zl 18 rfl rfl)
theorem QJE (w:Txt):(w=[119,111,114,116,104])=(ixW w=19):=propext (Zl 19 rfl rfl)
theorem QJD (w:Txt):(w=[119,101,105,103,104,116])=(ixW w=20):=propext (Zl 20 rfl rfl)
theorem QJC (w:Txt):(w=[115,116,114,101,116,99,104])=(ixW w=21):=propext (Zl 21 rfl rfl)
theorem QJB (w:Txt):(w=[98,101,115,116])=(ixW w=22):=propext (Zl 22 rfl rfl)
theorem QJA (w:Txt):(w=[104,111,108,100,115])=(ixW w=23):=propext (Zl 23 rfl rfl)
theorem QJz (w:Txt):(w=[114,111,100,115])=(ixW w=24):=propext (Zl 24 rfl rfl)
theorem Jp (n:Nat) (h:9<n):Lib.decDigits n=Lib.decDigits (n / 10)++[UInt8.ofNat (48+n % 10)]:=by
 rw[Lib.decDigits,dif_neg (by omega)]
theorem YT (n:Nat) (h:n<=9):Lib.decDigits n=[UInt8.ofNat (48+n)]:=by
 rw[Lib.decDigits,dif_pos (by omega)]
theorem WM (n:Nat):(Lib.decDigits n).length<=n+1:=by
 induction n using Nat.strongRecOn with
 | ind n ih =>
   by_cases h:n<=9
   ·rw[YT n h];simp
   ·rw[Jp n (by omega)]
    grind
include hK
theorem Qwy (s:Txt) (hs:s.length<=1000):Ev.Good Tryz.prog K 125 [.str s] (strs (spl s)):=by
 refine Qb hK QAm (by simp) ?_
 simp
 refine Ys s.length (fun i e o=>∃ mv,mv<=((s.take i).foldl Zc [[]]).length/\0<((s.take i).foldl Zc [[]]).length/\((s.take i).foldl Zc [[]]).length<=i+1/\(∀ x∈(s.take i).foldl Zc [[]],x.length<=i) /\
  e=[(0,AV.iv (IV.str s)),(3,AV.aref 5 ((s.take i).foldl Zc [[]]).length),(4,AV.iv (IV.int IntKind.i64 (i:Nat)))] /\
  o=[(5,AO.arr 9 1 (emb (((s.take i).foldl Zc [[]]).map fun s=>[.str s])) mv)]) ?_ ?_ _ _ ⟨0,by simp,by simp,by simp,by simp,rfl,rfl⟩
 ·rintro e o ⟨mv,h1,h2,h3,_,rfl,rfl⟩
  rw[Qa Qj7.eq_1];simp[spl] at h1 h2 h3 |-;simp[h1]
 ·rintro i e o hi ⟨mv,h1,h2,h3,hx,rfl,rfl⟩ ih
  have e1:(s.take (i+1)).foldl Zc [[]]=Zc ((s.take i).foldl Zc [[]]) s[i]:=by
   rw[QKf hi,QLh];rfl
  rw[Qa Qj7.eq_1];rw[e1] at ih;generalize (s.take i).foldl Zc [[]]=X at *;have h4:X.length-1<X.length:=by omega
  have h5:((X.length:Int)-1).toNat=X.length-1:=by omega
  have h6:s[i].toNat<256:=s[i].toNat_lt
  have h7:s[i]=32↔(s[i].toNat:Int)=32:=by
   rw[<- UInt8.toNat_inj];simp;omega
  have h8':((i:Int)+1).toNat=i+1:=by omega
  by_cases e:(s[i].toNat:Int)=32
  ·simp[hi,e]
   refine ⟨⟨h1,by omega,by omega⟩,by omega,?_⟩
   refine ih _ _ ⟨mv,?_,?_,?_,?_,?_,?_⟩<;>simp[Zc,h7.2 e]
   all_goals grind
  ·have h8:¬ s[i]=32:=fun c=>e (h7.1 c)
   have h9:=hx _ (QKj h4)
   have h10:(s.take (i+1)).drop i=[s[i]]:=by
    rw[QKf hi]
    grind
   simp[hi,e,h4,h5,h8',h10];refine ⟨h1,fun _=>⟨by omega,⟨by omega,h1⟩,h1,by omega,by omega,by omega,⟨by omega,h1⟩,h1,by omega,?_⟩⟩
   refine ih _ _ ⟨X.length,?_,?_,?_,?_,?_,?_⟩<;>simp[Zc,h8,h2,h4]
   all_goals grind
theorem Qww (w:Txt):Ev.Good Tryz.prog K 127 [.str w] (.int .i64 (match Vw w with | some p=>(p.1:Int) | none => -1)):=by
 refine Qb hK QAk (by simp) ?_
 rw[QmT];have hlt:=QBG w;generalize hr:(match (ZF[ixW w]?).map (·.2) with | some p=>(p.1:Int) | none => -1)=r
 have key:∀ k,k<=25->ixW w=k->r=([4,2,0,3,0,5,4,7,1,1,0,2,1,1,0,0,1,0,0,0,0,0,0,1,1,-1]:List Int).getD k 0:=fun k hk e=>by
  rw[<- hr,e];have:∀ k ≤ 25,(match (ZF[k]?).map (·.2) with | some p=>(p.1:Int) | none => -1)=([4,2,0,3,0,5,4,7,1,1,0,2,1,1,0,0,1,0,0,0,0,0,0,1,1,-1]:List Int).getD k 0:=by decide
  exact this k hk
 clear hr;simp (config:={ maxSteps:=10000000 }) [ix0,ix1,ix2,ix3,ix4,ix5,ix6,ix7,ix8,ix9,QJN,QJM,QJL,QJK,QJJ,QJI,QJH,QJG,QJF,QJE,QJD,QJC,QJB,QJA,QJz];generalize ixW w=n at *;have k0:=key 0 (by omega)
 have k1:=key 1 (by omega)
 have k2:=key 2 (by omega)
 have k3:=key 3 (by omega)
 have k4:=key 4 (by omega)
 have k5:=key 5 (by omega)
 have k6:=key 6 (by omega)
 have k7:=key 7 (by omega)
 have k8:=key 8 (by omega)
 have k9:=key 9 (by omega)
 have k10:=key 10 (by omega)
 have k11:=key 11 (by omega)
 have k12:=key 12 (by omega)
 have k13:=key 13 (by omega)
 have k14:=key 14 (by omega)
 have k15:=key 15 (by omega)
 have k16:=key 16 (by omega)
 have k17:=key 17 (by omega)
 have k18:=key 18 (by omega)
 have k19:=key 19 (by omega)
 have k20:=key 20 (by omega)
 have k21:=key 21 (by omega)
 have k22:=key 22 (by omega)
 have k23:=key 23 (by omega)
 have k24:=key 24 (by omega)
 have k25:=key 25 (by omega)
 simp only[List.getD_cons_zero,List.getD_cons_succ] at *;clear key
 repeat' first | apply And.intro | intro _
 all_goals omega
theorem Qtg (w:Txt):Ev.Good Tryz.prog K 37 [.str w] (.bool (match Vw w with | some p=>Z6 p.2 | none=>false)):=by
 refine Qb hK QC5 (by simp) ?_
 rcases W4 w with ⟨p,hp,rfl⟩ | h
 ·rw[Xy p hp]
  simp only[ZF,QKq,QKu,or_false] at hp;rcases hp with rfl | rfl | rfl | rfl | rfl | rfl | rfl | rfl | rfl | rfl | rfl | rfl | rfl | rfl | rfl | rfl | rfl | rfl | rfl | rfl | rfl | rfl | rfl | rfl | rfl<;>simp (config:={ maxSteps:=1000000 }) [Z6]
 ·rw[JQ h]
  simp only[ZF,QKq,QKu,or_false,forall_eq_or_imp,forall_eq,@eq_comm _ _ w] at h;simp[h]
theorem Qld (n:Nat) (hn:n<10 ^ 18):Ev.Good Tryz.prog K 312 [.int .i64 n] (.str (Lib.decDigits n)):=by
 refine Qb hK QpM (by simp) ?_
 have hneg:¬ (n:Int)<0:=by omega
 have hm:∀ m:Nat,((m:Int).tmod 10)=(m:Int) % 10:=fun m=>Int.tmod_eq_emod_of_nonneg (by omega)
 have hw:∀ m:Nat,IntKind.wrap .i32 (48+(m:Int) % 10)=48+(m:Int) % 10:=fun m=>U4 (by simp only[IntKind.inR];exact ⟨by simp;omega,by simp;omega⟩)
 have hd:∀ m:Nat,((48:Int)+(m:Int) % 10).toNat=48+m % 10:=fun m=>by omega
 have hq:∀ m:Nat,((m:Int).tdiv 10)=(m:Int) / 10:=fun m=>QK1 (by omega)
 have hd2:∀ m:Nat,((48:Int)+(m:Int) / 10 % 10).toNat=48+m / 10 % 10:=fun m=>by omega
 have hm2:∀ m:Nat,(((m:Int) / 10).tmod 10)=(m:Int) / 10 % 10:=fun m=>Int.tmod_eq_emod_of_nonneg (by omega)
 have hw2:∀ m:Nat,IntKind.wrap .i32 (48+(m:Int) / 10 % 10)=48+(m:Int) / 10 % 10:=fun m=>U4 (by simp only[IntKind.inR];exact ⟨by simp;omega,by simp;omega⟩)
 have hln:=WM n;simp[hneg,hm,hw,hd];refine ⟨by omega,by omega,?_⟩
 refine QnB (S:=Nat × Txt) (fun s=>[(0,AV.iv (.int .i64 s.1)),(3,AV.iv (.str s.2))]) (fun _=>[]) (fun s=>s.1<=n/\∃ rest,s.2=UInt8.ofNat (48+s.1 % 10)::rest/\Lib.decDigits s.1++rest=Lib.decDigits n) (fun s=>s.1) ?_ (n,_) ⟨QKl _,[],by simp,by simp⟩
 rintro ⟨m,out⟩ ⟨h1,rest,h2,h3⟩ ih
 simp only at h1 h2 h3 ih |-;have hl:=congrArg List.length h3;simp only[QKA] at hl;rw[Qa QpN.eq_1];by_cases h9:9<m
 ·have h9':(9:Int)<(m:Int):=by omega
  have ih:=ih (m / 10,UInt8.ofNat (48+m / 10 % 10)::out) ⟨by simp only;omega,out,rfl,by
   rw[h2,<- h3,Jp m h9];simp⟩ (by simp only;omega)
  simp[h9',hq,hm2,hw2,hd2];refine ⟨by omega,by omega,⟨by omega,by omega⟩,by grind,?_⟩
  simpa using ih
 ·have h9':¬ (9:Int)<(m:Int):=by omega
  have:Lib.decDigits n=out:=by
   rw[<- h3,YT m (by omega),h2]
   have:m % 10=m:=by omega
   grind
  simp[h9',this]
theorem Qoa (n:Int) (h : -1000000000000000<=n/\n<=1000000000000000):Ev.Good Tryz.prog K 312 [.int .i64 n] (.str (Lib.itoa n)):=by
 by_cases hn:n<0
 ·have hg:=Qld hK n.natAbs (by omega)
  have e1:Lib.itoa n=45::Lib.decDigits n.natAbs:=by
   unfold Lib.itoa;rw[if_pos hn]
  have e2:((n.natAbs:Nat):Int)=0-n:=by omega
  have hl:=WM n.natAbs;refine Qb hK QpM (by simp) ?_
  have m1:(if (1:Int) < -n then -n else 1)=((n.natAbs:Nat):Int):=by split<;>omega
  rw[e1];simp[hn,m1];refine ⟨by omega,cK (by simpa using hg) ?_⟩
  simp;omega
 ·have e1:Lib.itoa n=Lib.decDigits n.toNat:=by
   unfold Lib.itoa;rw[if_neg hn]
  have hg:=Qld hK n.toNat (by omega)
  grind
omit hK
def OkL (l:List Int):Prop:=l.length<=1000000/\∀ n∈l,-1000000000000000<=n/\n<=1000000000000000
theorem Ym {n:Int} (h : -1000000000000000<=n/\n<=1000000000000000):OkL [n]:=⟨by simp,by simpa using h⟩
theorem Qd3 {a b:Int} (h : -1000000000000000<=a/\a<=1000000000000000) (h' : -1000000000000000<=b/\b<=1000000000000000):OkL [a,b]:=⟨by simp,by
 grind⟩
theorem Qd4:OkL []:=⟨by simp,by simp⟩
theorem QgO (n:Nat):∀ k,n<10 ^ k->0<k->(Lib.decDigits n).length<=k:=by
 induction n using Nat.strongRecOn with
 | ind n ih =>
   intro k hk h0;by_cases h:n<=9
   ·rw[YT n h];simp;omega
   ·rw[Jp n (by omega)]
    obtain ⟨j,rfl⟩:∃ j,k=j+1:=⟨k-1,by omega⟩
    have hj:0<j:=by
     grind
    have:=ih (n / 10) (by omega) j (by omega) hj
    simp;omega
theorem Qk1 {n:Int} (h : -1000000000000000<=n/\n<=1000000000000000):(Lib.itoa n).length<=20:=by
 unfold Lib.itoa;split
 ·have:=QgO n.natAbs 16 (by omega) (by omega)
  simp;omega
 ·have:=QgO n.toNat 16 (by omega) (by omega)
  omega
theorem Qc4:∀ (l:List Txt) (x:Txt),l≠[]->Uh (l++[x])=Uh l++(32::x)
 | [],_,h=>absurd rfl h
 | [y],x,_=>rfl
 | y::z::r,x,_=>by
   have:=Qc4 (z::r) x (by simp)
   simp only[QKs] at this |-;rw[Uh,this,Uh];simp
theorem Qf5:∀ (l:List Txt) (c:Nat),(∀ x∈l,x.length<=c)->(Uh l).length<=(c+1)*l.length
 | [],_,_=>by simp[Uh]
 | [x],c,h=>by
   have:=h x (by simp)
   simp[Uh];omega
 | x::y::r,c,h=>by
   have h1:=h x (by simp)
   have h2:=Qf5 (y::r) c fun z hz=>h z (by simp[hz])
   simp only[Uh,QKA,QKB] at h2 |-
   grind
theorem Qc3 {l:List Int} (h:OkL l) (i:Nat):(Uh ((l.take i).map Lib.itoa)).length<=21000000:=by
 have h1:=Qf5 ((l.take i).map Lib.itoa) 20 fun x hx=>by
  obtain ⟨n,hn,rfl⟩:=QKt.1 hx;exact Qk1 (h.2 n (QKS hn))
 have h2:((l.take i).map Lib.itoa).length<=1000000:=by
  have:=h.1;simp;omega
 omega
theorem Qlx {D:Txt} {i:Nat} (hi:i<D.length) (h:Lib.digitVal D[i]=none):Lib.decFrom 0 D=none:=by
 have e:D=D.take i++D[i]::D.drop (i+1):=by simp
 rw[e,Yc];cases Lib.decFrom 0 (D.take i) with
 | none=>rfl
 | some m=>simp[Lib.decFrom,h]
theorem Qsj {D:Txt} {i m:Nat} (hi:i<D.length) (hm:Lib.decFrom 0 (D.take i)=some m) (h:48<=D[i].toNat/\D[i].toNat<=57):Lib.decFrom 0 (D.take (i+1))=some (m*10+(D[i].toNat-48)):=by
 rw[QKf hi,Yc,hm];simp[Lib.decFrom,Je,h]
@[simp] abbrev QF7:AC:=.seq (.ops [⟨some 65,none,.mov (.t 4)⟩,⟨some 66,none,.mov (.t 6)⟩,⟨some 67,none,.bin .mul (.t 65) (.t 66)⟩,⟨some 2,none,.mov (.t 67)⟩,⟨some 3,none,.mov (.bool true)⟩] false) .ret
theorem QnC {K:World->Prop} (sg:Int) (hsg:sg=1\/sg = -1) (D:Txt) (hD:D.length<=9) (r:Int) (b:Bool) (hs:∀ m,Lib.decFrom 0 D=some m->r=sg*m/\b=true) (hn:Lib.decFrom 0 D=none->r=0/\b=false) :
  Yx Tryz.prog K (FnF (Qkk [Qcz.tmp 2,Qcz.tmp 3] (.tup [.int .i64 r,.bool b]))) Qb6 [4,5,6,7] [] [AI.inBlock 0,AI.code QF7] [(4,.iv (.int .i64 sg)),(5,.iv (.str D)),(6,.iv (.int .i64 0)),(7,.iv (.int .i64 0))] []:=by
 refine Qe (fun i=>[(4,AV.iv (.int .i64 sg)),(5,AV.iv (.str D)),(6,AV.iv (.int .i64 (((Lib.decFrom 0 (D.take i)).getD 0:Nat):Int))),(7,AV.iv (.int .i64 (i:Nat)))]) (fun _=>[]) D.length (fun i=>(Lib.decFrom 0 (D.take i)).isSome=true) (by simp[Lib.decFrom]) ?_ ?_
 ·intro h
  rw[QKn] at h;obtain ⟨m,hm⟩:=QKN.1 h;obtain ⟨rfl,rfl⟩:=hs m hm;have hlt:=decFrom_lt D m D.length (QKl _) (by grind)
  have hb:(10:Nat) ^ D.length<=10 ^ 9:=QK7 (by omega) hD
  rw[Qa Qb6.eq_1];simp[hm]
  grind
 ·intro i hi h ih
  obtain ⟨m,hm⟩:=QKN.1 h;have hlt:=decFrom_lt D m i (by omega) hm
  have hb:(10:Nat) ^ i<=10 ^ 9:=QK7 (by omega) (by omega)
  have hc:D[i].toNat<256:=D[i].toNat_lt;rw[Qa Qb6.eq_1];by_cases h1:D[i].toNat<48
  ·obtain ⟨rfl,rfl⟩:=hn (Qlx hi (by rw[Je,if_neg (by omega)]))
   have h1':(D[i].toNat:Int)<48:=by omega
   simp[hi,h1',hm]
  ·have h1':¬ (D[i].toNat:Int)<48:=by omega
   by_cases h2:57<D[i].toNat
   ·obtain ⟨rfl,rfl⟩:=hn (Qlx hi (by rw[Je,if_neg (by omega)]))
    have h2':(57:Int)<(D[i].toNat:Int):=by omega
    simp[hi,h1',h2',hm]
   ·have h2':¬ (57:Int)<(D[i].toNat:Int):=by omega
    have hstep:=Qsj hi hm (by omega)
    have ih:=ih (by rw[hstep];rfl)
    rw[hstep] at ih;have hw:IntKind.wrap .i64 ((D[i].toNat:Int)-48)=(D[i].toNat:Int)-48:=wrap_i64 (by omega) (by omega)
    have e2:(10:Int)*m+((D[i].toNat:Int)-48)=((m*10+(D[i].toNat-48):Nat):Int):=by omega
    simp only[QLk] at ih;rw[<- e2] at ih;simp[hi,h1',h2',hm,hw] at ih |-
    grind
theorem qR (ws:List Txt) (w:Txt):X1 (ws++[w])=match X1 ws,Qe2 w with | some l,some n=>some (l++[n]) | _,_=>none:=by
 induction ws with
 | nil=>simp only[QKx,X1];grind
 | cons x r ih =>
   simp only[QKs,X1,ih]
   grind
def XN (t:Txt):Txt × List Int × Bool:=match spl t with
 | []=>([],[],false)
 | w::ws=>match X1 ws with
   | none=>([],[],false)
   | some l=>(w,l,decide ((l.length:Int)=match Vw w with | some p=>(p.1:Int) | none => -1))
theorem Qbj:∀ {ws:List Txt} {l:List Int},X1 ws=some l->∀ w∈ws,(Qe2 w).isSome=true
 | [],_,_,w,hw=>by simp at hw
 | x::r,l,h,w,hw=>by
   simp only[X1] at h;split at h
   ·rename_i n l' h1 h2
    rcases QKq.1 hw with rfl | hw
    ·rw[h1];rfl
    ·exact Qbj h2 w hw
   ·cases h
include hK
theorem Qvw (l:List Int) (h:OkL l):Ev.Good Tryz.prog K 257 [Qt l] (.str (QqU l)):=by
 refine Qb hK QyF (by simp) ?_
 unfold QqU;cases l with
 | nil=>simp[QlY]
 | cons x r =>
   have hx:=Qoa hK x (h.2 x (by simp))
   have hl:=h.1;simp at hl;have hne:¬ (r.length:Int)+1=0:=by omega
   simp[hne];intro _;refine cK (by simpa using hx) ?_
   simp;refine Qe (fun i=>[(0,AV.iv (Qt (x::r))),(3,AV.iv (.str (Uh (((x::r).take (i+1)).map Lib.itoa)))),(4,AV.iv (.int .i64 ((i+1:Nat):Int)))]) (fun _=>[]) r.length (fun _=>True) trivial ?_ ?_
   ·intro _
    rw[Qa Qjo.eq_1];simp[QKi]
   ·intro i hi _ ih
    have e1:(x::r).take (i+1+1)=(x::r).take (i+1)++[r[i]]:=by
     rw[QKf (by simp;omega)]
     simp
    have h1:=Qc3 h (i+1);have h2:=h.2 r[i] (by simp)
    have h3:=Qk1 h2;have hg:=Qoa hK r[i] h2;rw[e1,QKy,QLf,Qc4 _ _ (by simp)] at ih
    generalize Uh (((x::r).take (i+1)).map Lib.itoa)=X at *;rw[Qa Qjo.eq_1];have hi2:((i:Int)+1)<(r.length:Int)+1:=by omega
    have hi3:((i:Int)+1).toNat=i+1:=by omega
    simp[hi,hi2,hi3];intro _;refine ⟨by omega,cK (by simpa using hg) ?_⟩
    simp at ih |-
    grind
theorem VO (l:List Int) (e:Int) (h:e=0->OkL l):Ev.Good Tryz.prog K 198 [Qt l,.int .i64 e] (.str (XL l e)):=by
 refine Qb hK Qzm (by simp) ?_
 unfold XL;by_cases h0:e=0
 ·subst h0
  have hg:=Qvw hK l (h rfl);simp;refine cK (by simpa using hg) ?_
  simp
 ·by_cases h3:e=3
  ·simp[h3,QlY]
  ·simp[h0,h3,tNo]
theorem Qej (n e:Int):Ev.Good Tryz.prog K 208 [.int .i64 n,.int .i64 e] (.str (Wr n e)):=by
 refine Qb hK Qzc (by simp) ?_
 unfold Wr;by_cases h0:e=0
 ·by_cases h1:n=1
  ·simp[h0,h1,Qhb]
  ·by_cases h2:n=2
   ·simp[h0,h2,QmY]
   ·simp[h0,h1,h2,QdF]
 ·have hg:=VO hK [] e (fun h=>absurd h h0)
  simp[h0];refine cK (by simpa using hg) ?_
  simp
theorem Qek (a b e:Int) (h:e=0->OkL [a,b]):Ev.Good Tryz.prog K 203 [.agg [.int .i64 a,.int .i64 b],.int .i64 e] (.str (XL [a,b] e)):=by
 refine Qb hK Qzh (by simp) ?_
 have hg:=VO hK [a,b] e h;simp;refine cK (by simpa using hg) ?_
 simp
theorem Qel (n e:Int) (h:e=0->OkL [n]):Ev.Good Tryz.prog K 201 [.int .i64 n,.int .i64 e] (.str (XL [n] e)):=by
 refine Qb hK Qzj (by simp) ?_
 have hg:=VO hK [n] e h;simp;refine cK (by simpa using hg) ?_
 simp
theorem Qwx (w:Txt) (hw:w.length<=1000):Ev.Good Tryz.prog K 126 [.str w] (.tup [.int .i64 ((Qe2 w).getD 0),.bool (Qe2 w).isSome]):=by
 refine Qb hK QAl (by simp) ?_
 rw[Qnu]
 have head_of:∀ (D:Txt) (h:0<D.length),(D.head?=some 48↔((D[0]'h).toNat:Int)=48):=fun D h=>by
  cases D with
  | nil=>simp at h
  | cons d r =>
    simp only[List.head?_cons,Option.some.injEq,QLr];rw[<- UInt8.toNat_inj];simp;omega
 by_cases h45:w.head?=some 45
 ·obtain ⟨D,hwD⟩:∃ D,w=45::D:=by
   cases w with
   | _=>grind
  have f5:0<w.length:=by rw[hwD];simp
  have f1:(0:Int)<w.length:=by omega
  have f2:((w[0]'f5).toNat:Int)=45:=by subst hwD;rfl
  have f3:w.tail=D:=by rw[hwD];rfl
  have f4:(1:Int)<=w.length:=by omega
  rw[if_pos h45,List.drop_one,f3];clear hwD;by_cases c1:D.length=0
  ·have hD:=QKo c1
   have n1:Qaa true D=none:=by simp[Qaa,c1]
   subst hD;simp[f1,f2,f3,f4,f5,n1]
  have c1':¬ (D.length:Int)=0:=by omega
  have c0:0<D.length:=by omega
  by_cases c2:9<D.length
  ·have n1:Qaa true D=none:=by simp[Qaa,c2]
   have c2':(9:Int)<D.length:=by omega
   simp[f1,f2,f3,f4,f5,n1,c1',c2',c0]
  have c2':¬ (9:Int)<D.length:=by omega
  have hh:=head_of D c0;by_cases c3:((D[0]'c0).toNat:Int)=48
  ·have n1:Qaa true D=none:=by simp[Qaa,hh.2 c3]
   simp[f1,f2,f3,f4,f5,n1,c1',c2',c0,c3]
  ·have n1:Qaa true D=Lib.decFrom 0 D:=by simp[Qaa,c1,c2,mt hh.1 c3]
   rw[n1];have lp:=QnC (K:=K) (-1) (.inr rfl) D (by omega) (((Lib.decFrom 0 D).map fun (m:Nat) => -(m:Int)).getD 0) ((Lib.decFrom 0 D).map fun (m:Nat) => -(m:Int)).isSome (fun m h=>by simp[h]) (fun h=>by simp[h])
   simp at lp;have ne:¬ D=[]:=fun e=>c1 (by rw[e];rfl)
   simp[f1,f2,f3,f4,f5,c1',c2',c0,c3,ne];exact lp
 ·rw[if_neg h45]
  by_cases c1:w.length=0
  ·have hD:=QKo c1
   have n1:Qaa false w=none:=by simp[Qaa,c1]
   subst hD;simp[n1]
  have f1:(0:Int)<w.length:=by omega
  have f5:0<w.length:=by omega
  have f2:¬ ((w[0]'f5).toNat:Int)=45:=by
   cases w with
   | nil=>simp at c1
   | cons d r =>
     simp only[List.head?_cons,Option.some.injEq] at h45;rw[<- UInt8.toNat_inj] at h45
     grind
  have c1':¬ (w.length:Int)=0:=by omega
  have ne:¬ w=[]:=fun e=>c1 (by rw[e];rfl)
  by_cases c2:9<w.length
  ·have n1:Qaa false w=none:=by simp[Qaa,c2]
   have c2':(9:Int)<w.length:=by omega
   simp[f1,f2,f5,n1,c1',c2']
  have c2':¬ (9:Int)<w.length:=by omega
  have hh:=head_of w f5
  have fin:Qaa false w=Lib.decFrom 0 w->Yx Tryz.prog K (FnF (Qkk [Qcz.tmp 2,Qcz.tmp 3] (.tup [.int .i64 (((Qaa false w).map fun (m:Nat)=>(m:Int)).getD 0),.bool ((Qaa false w).map fun (m:Nat)=>(m:Int)).isSome]))) Qb6 [4,5,6,7] [] [AI.inBlock 0,AI.code QF7] [(4,.iv (.int .i64 1)),(5,.iv (.str w)),(6,.iv (.int .i64 0)),(7,.iv (.int .i64 0))] []:=fun n1=>by
   rw[n1];exact QnC (K:=K) 1 (.inl rfl) w (by omega) _ _ (fun m h=>by simp[h]) (fun h=>by simp[h])
  by_cases c3:((w[0]'f5).toNat:Int)=48
  ·by_cases c4:1<w.length
   ·have n1:Qaa false w=none:=by simp[Qaa,c4,hh.2 c3]
    have c4':(1:Int)<w.length:=by omega
    simp[f1,f2,f5,n1,c1',c2',c3,c4']
   ·have n1:Qaa false w=Lib.decFrom 0 w:=by simp[Qaa,c1,c2,c4]
    have c4':¬ (1:Int)<w.length:=by omega
    have lp:=fin n1;simp at lp;simp[f1,f2,f5,c1',c2',c3,c4',ne];exact lp
  ·have n1:Qaa false w=Lib.decFrom 0 w:=by simp[Qaa,c1,c2,mt hh.1 c3]
   have lp:=fin n1;simp at lp;simp[f1,f2,f5,c1',c2',c3,ne];exact lp
theorem Qth (t:Txt) (ht:t.length<=1000):Ev.Good Tryz.prog K 36 [.str t] (.tup [.str (XN t).1,Qt (XN t).2.1,.bool (XN t).2.2]):=by
 refine Qb hK QC6 (by simp) ?_
 have hsl:=QdK t;have hwl:=qA t;have hg:=Qwy hK t ht;unfold XN;cases hs:spl t with
 | nil=>exact absurd hs (Qm1 t [])
 | cons w ws =>
   rw[hs] at hg hsl hwl;simp at hsl;simp;refine cK (by simpa using hg) ?_
   simp;refine Qe (fun i=>[(3,AV.aref 3 ((X1 (ws.take i)).getD []).length),(5,AV.iv (strs (w::ws))),(6,AV.iv (.int .i64 ((i+1:Nat):Int)))]) (fun i=>[(3,.arr 3 1 (emb (((X1 (ws.take i)).getD []).map fun n=>[.int .i64 n])) 0)]) ws.length (fun i=>(X1 (ws.take i)).isSome=true) (by simp[X1]) ?_ ?_
   ·intro h
    rw[QKn] at h;obtain ⟨l,hl⟩:=QKN.1 h;have hll:=YL hl;have hn:=Qww hK w;rw[Qa QpA.eq_1];simp[hl];intro _ _;refine cK (by simpa using hn) ?_
    simp;try exact Iff.rfl
   ·intro i hi h ih
    obtain ⟨l,hl⟩:=QKN.1 h;have hll:=YL hl;simp at hll;have hg2:=Qwx hK ws[i] (by grind)
    have e1:ws.take (i+1)=ws.take i++[ws[i]]:=QKf hi;rw[Qa QpA.eq_1];have hi2:((i:Int)+1)<(ws.length:Int)+1:=by omega
    have hi3:((i:Int)+1).toNat=i+1:=by omega
    cases hv:Qe2 ws[i] with
    | none =>
      have hn:X1 ws=none:=by
       cases hq:X1 ws with
       | none=>rfl
       | some l' =>
         have:=Qbj hq ws[i] (by simp)
         grind
      rw[hv] at hg2;simp[hi,hi2,hi3,hl];intro _;refine ⟨by omega,cK (by simpa using hg2) ?_⟩
      simp[hn]
    | some n =>
      rw[hv] at hg2;have e2:X1 (ws.take (i+1))=some (l++[n]):=by rw[e1,qR,hl,hv]
      have ih:=ih (by rw[e2];rfl)
      rw[e2] at ih;simp[hi,hi2,hi3,hl] at ih |-;intro _;refine ⟨by omega,cK (by simpa using hg2) ?_⟩
      simp
      grind
omit hK
theorem Qeb:∀ l:List Txt,Lib.join l [32]=Uh l
 | []=>rfl
 | [x]=>by simp[Lib.join,Uh]
 | x::y::r=>by
   have:=Qeb (y::r);simp only[Uh];rw[<- this];simp[Lib.join]
theorem QwF (w:Txt) (hw:w.length<=1000):∃ n,((Qe2 w).isSome=true->n=(Qe2 w).getD 0)/\Ev.Good Tryz.prog KW 118 [.str w] (.tup [.int .i64 n,.bool (Qe2 w).isSome]):=by
 have g1:=Qv5 w hw;have g3:=Qv4 w [45];cases hv:Qe2 w with
 | some v =>
   obtain ⟨h1,h2,h3⟩:=Qnv hv;have hb:=Lib.atoiAll_bounds h3;have g2:=Qh3 v hb;rw[h3] at g1;rw[h1] at g2;refine ⟨v,fun _=>rfl,Qb hKW QeU (by simp) ?_⟩
   have h2':((Lib.trimPrefix w [45]).length:Int)<=9:=by omega
   simp;refine cK (by simpa using g1) ?_
   simp;refine cK (by simpa using g2) ?_
   simp;refine cK (by simpa using g3) ?_
   simp[h2']
 | none =>
   cases ha:Lib.atoiAll w with
   | ok v =>
     have hb:=Lib.atoiAll_bounds ha;have g2:=Qh3 v hb;rw[ha] at g1;refine ⟨v,fun h=>by simp at h,Qb hKW QeU (by simp) ?_⟩
     simp;refine cK (by simpa using g1) ?_
     simp;refine cK (by simpa using g2) ?_
     by_cases hi:Lib.itoa v=w
     ·have hl:¬ (Lib.trimPrefix w [45]).length<=9:=fun h=>by
       have:=QnL hi h
       grind
      have hl':¬ ((Lib.trimPrefix w [45]).length:Int)<=9:=by omega
      simp[hi];refine cK (by simpa using g3) ?_
      simp;omega
     ·simp[hi]
   | range =>
     rw[ha] at g1;refine ⟨Lib.atoiSat w,fun h=>by simp at h,Qb hKW QeU (by simp) ?_⟩
     simp;refine cK (by simpa using g1) ?_
     simp
   | _ =>
     rw[ha] at g1;refine ⟨0,fun h=>by simp at h,Qb hKW QeU (by simp) ?_⟩
     simp;refine cK (by simpa using g1) ?_
     simp
theorem Qen (e:Int) (l:List Int) (h:e=0->OkL l):Ev.Good Tryz.prog KW 158 [.int .i64 e,Qt l] (.str (XL l e)):=by
 refine Qb hKW QzV (by simp) ?_
 unfold XL QqU;by_cases h0:e=0
 ·subst h0
  have hl:=h rfl;have h1:=hl.1;by_cases hne:l=[]
  ·subst hne
   simp[QlY]
  ·have hpos:=QLl.2 hne
   have hne':¬ (l.length:Int)=0:=by omega
   simp[hne,hne'];intro _;refine Qe (fun i=>[(5,AV.aref 5 i),(16,AV.iv (Qt l)),(17,AV.iv (.int .i64 l.length)),(18,AV.iv (.int .i64 (i:Nat)))]) (fun i=>[(5,.arr 9 1 (emb (((l.take i).map Lib.itoa).map fun s=>[.str s])) 0)]) l.length (fun _=>True) trivial ?_ ?_
   ·intro _
    have hj:=Qc3 hl l.length;rw[QKn] at hj;have hg:=QvH (l.map Lib.itoa) (by simpa using h1) (by rw[Qeb];omega)
    rw[Qeb] at hg;rw[Qa Qj3.eq_1];simp[-List.map_map,q9];rw[QKi (by simp)]
    refine QS (by simpa using hg) (.inr rfl) ?_
    simp
   ·intro i hi _ ih
    have hg:=Qh3 l[i] (by have:=hl.2 l[i] (QKj hi);omega)
    have e3:List.take (i+1) (List.map ((fun s=>[IV.str s])∘Lib.itoa) l)=List.take i (List.map ((fun s=>[IV.str s])∘Lib.itoa) l)++[[.str (Lib.itoa l[i])]]:=by
     rw[QKf (by simpa using hi)]
     simp
    rw[Qa Qj3.eq_1];simp[hi] at ih |-;rw[e3] at ih;refine cK (by simpa using hg) ?_
    simp
    grind
 ·by_cases h3:e=3
  ·simp[h3,QlY]
  ·simp[h0,h3,tNo]
theorem Qgi (l:List Int) (e:Int) (h:e=0->OkL l):Ev.Good Tryz.prog KW 80 [Qt l,.int .i64 e] (.str (XL l e)):=by
 refine Qb hKW QCC (by simp) ?_
 have hg:=Qen e l h;simp;refine cK (by simpa using hg) ?_
 simp
theorem Qk9 (n e:Int) (h:e=0->OkL [n]):Ev.Good Tryz.prog KW 85 [.int .i64 n,.int .i64 e] (.str (XL [n] e)):=by
 refine Qb hKW QCz (by simp) ?_
 have hg:=Qen e [n] h;simp;refine cK (by simpa using hg) ?_
 simp
theorem Qk8 (a b e:Int) (h:e=0->OkL [a,b]):Ev.Good Tryz.prog KW 88 [.agg [.int .i64 a,.int .i64 b],.int .i64 e] (.str (XL [a,b] e)):=by
 refine Qb hKW QCx (by simp) ?_
 have hg:=Qen e [a,b] h;simp;refine cK (by simpa using hg) ?_
 simp
theorem Qk7 (n e:Int) (h:e=0->n=1\/n=2\/n=3):Ev.Good Tryz.prog KW 97 [.int .i64 n,.int .i64 e] (.str (Wr n e)):=by
 refine Qb hKW QCs (by simp) ?_
 unfold Wr;by_cases h0:e=0
 ·rcases h h0 with rfl | rfl | rfl<;>simp[h0,Qhb,QmY,QdF]
 ·have hg:=Qen e [] (fun h=>absurd h h0)
  simp[h0];refine cK (by simpa using hg) ?_
  simp
abbrev Sml (n:Int):Prop := -1000000000000000<=n/\n<=1000000000000000
theorem VZ {l:List Int} (h:∀ x∈l,Sml x):Sml (span l).1/\Sml (span l).2:=by
 by_cases hne:l=[]
 ·subst hne;simp[Sml]
 ·obtain ⟨h1,h2⟩:=QdM l hne
  grind
theorem Qff (l:List Int) (lo hi:Int) (h1 : -1000000<=lo) (h3:hi<=1000000) (h4:hi-lo<=999999):OkL (Z1 l lo hi):=by
 refine ⟨?_,fun n hn=>?_⟩
 ·have:=UH l lo (hi+1-lo).toNat
  unfold Z1;omega
 ·have:=(JS l lo hi n).1 hn
  omega
theorem Ql4 (l:List Int):(Y0 l).length<=l.length:=by
 unfold Y0;rw[List.length_mergeSort,QKz];exact QlC l
theorem Qmb (c:Qk):(QH c).length<=2 ^ Zy c.deeds:=by
 unfold QH
 grind
theorem Qho {c:Qk} (hc:OkC c):(QH c).length<=4096:=by
 have h1:=Qmb c;have h2:=UC c.deeds;have h3:=hc.len;have h4:2 ^ Zy c.deeds<=2 ^ 12:=QK7 (by omega) (by omega)
 omega
theorem Qky {c:Qk} (hc:OkC c) (f:Nat->Int) (h:∀ n,-1000<=f n/\f n<=1000):OkL (Y0 ((QH c).map f)):=by
 refine ⟨?_,fun n hn=>?_⟩
 ·have h1:=Ql4 ((QH c).map f)
  have h2:=Qho hc
  grind
 ·rw[JA] at hn
  grind
theorem Qxi {c:Qk} (hc:OkC c) (e:Nat->Int):∀ x∈cab c.deeds e c.deeds.length,x<12:=fun x hx=>by
 have h1:=Ux c.deeds e c.deeds.length x hx;have h2:=Qfa c.deeds c.deeds.length;have h3:=hc.len;omega
theorem Qpl {c:Qk} (hc:OkC c) (e:Nat->Int):(cab c.deeds e c.deeds.length).length<=12:=by
 have h1:=ZP e hc.deeds c.deeds.length (QKl _) (QKl _);have h2:=OkD.cnt hc.deeds c.deeds.length (QKl _) (QKl _);have h3:=hc.len;omega
theorem QsW {c:Qk} (hc:OkC c) (n:Int):OkL (QlT c n):=by
 unfold QlT;split
 ·refine Qky hc _ fun k=>?_
  unfold Qqr;have:=Qxi hc (Zs c.deeds k);rw[List.getD_eq_getElem?_getD];cases h:(cab c.deeds (Zs c.deeds k) c.deeds.length)[n.toNat]? with
  | none=>simp
  | some x =>
    have:=this x (QKw h);simp;omega
 ·exact Qd4
theorem QmS {c:Qk} (hc:OkC c) (n:Int):OkL (Qdy c n):=by
 unfold Qdy;split
 ·refine Qky hc _ fun k=>?_
  unfold QcC Xz fi;have h1:=Qpl hc (Zs c.deeds k)
  grind
 ·exact Qd4
theorem Qll {c:Qk} (hc:OkC c):OkL [(Yr c).1]:=by
 have h1:=hc.slen;unfold Yr;rw[if_pos hc];split
 ·rename_i n hn
  unfold Ut at hn;have:=List.mem_of_find?_eq_some hn;rw[QKO] at this;exact Ym (by simp only;omega)
 ·exact Ym (by simp)
theorem QhB {m:Machine} (w mn:Int):OkL [(XM m w mn).1,(XM m w mn).2]:=by
 have key:∀ s∈tL m (JN w mn 0),Sml (Wm m w mn s)/\Sml (upS m w mn s):=fun s hs=>by
  obtain ⟨hm,ha,ho⟩:=QtP hs;have ha:=of_decide_eq_true ha;obtain ⟨n1,n2⟩:=hm.numB ho ha.1 ha.2.1;obtain ⟨d1,d2⟩:=hm.denB ho;unfold Wm upS Sml;have q1:=QK1 n1 (b:=den s);have q2:=QK1 (show 0<=num m s w mn+den s-1 by omega) (b:=den s)
  rw[q1,q2];have a1:=Int.ediv_nonneg n1 (show 0<=den s by omega)
  have a2:=Int.ediv_le_self (den s) n1;have a3:=Int.ediv_nonneg (show 0<=num m s w mn+den s-1 by omega) (show 0<=den s by omega)
  have a4:=Int.ediv_le_self (den s) (show 0<=num m s w mn+den s-1 by omega)
  omega
 unfold XM;refine Qd3 (VZ fun x hx=>?_).1 (VZ fun x hx=>?_).2
 all_goals grind
theorem QlJ (p:Qd) (n:Int):OkL (VG p n):=Qff _ 0 12 (by omega) (by omega) (by omega)
theorem QkZ (p:Qd) (n:Int):OkL [(Yf p n).1,(Yf p n).2]:=by
 unfold Yf;split
 ·exact QhB _ _
 ·exact Qd3 (by simp) (by simp)
theorem QoG {p:Qd} (hp:OkP p):OkL [(rFail p).1,(rFail p).2]:=by
 have h1:p.trials.length<=12:=by
  rw[hp.many];exact QKK (QcS _) hp.chain.len
 have key:∀ x∈(kL p true).map (fun t=>(ZI p t:Int)),Sml x:=fun x hx=>by
  obtain ⟨t,_,rfl⟩:=QKt.1 hx;have:=Qez p t;omega
 exact Qd3 (VZ key).1 (VZ key).2
theorem QAF {α:Type} {pc:Nat->List α} {n:Nat} {x:α} (h:x∈acc pc n):∃ i<n,x∈pc i:=by
 unfold acc at h
 grind
theorem Qnq {p:Qd} (hp:OkP p):OkL (qZ p):=by
 have h2:=OkD.cnt hp.chain.deeds p.chain.deeds.length (QKl _) (QKl _);have h3:=hp.chain.len;have h4:(ZO p.chain.deeds).toNat<=12:=by unfold ZO;omega
 unfold qZ;split
 ·refine ⟨?_,fun n hn=>?_⟩
  ·refine QKK (Yo _ 1 (fun i=>?_) _) (by omega)
   split<;>simp
  ·obtain ⟨i,hi,hx⟩:=QAF hn
   grind
 ·exact Qd4
theorem Qkp (p:Qd):OkL [(Ye p).1]:=by
 have h:=Qnk p;unfold Ye;split
 ·split
  ·exact Ym (by simp)
  ·exact Ym (by simp only;omega)
 ·exact Ym (by simp)
theorem Qkr (p:Qd):OkL [(Yq p).1]:=by
 unfold Yq;split
 ·unfold Xk
  split
  ·split
   ·exact Ym (by simp)
   ·have:=(Qmk p.machine (tL p.machine (JN 0 0 p.need)) 0 p.need).1
    exact Ym (by simp only;omega)
  ·exact Ym (by simp)
 ·exact Ym (by simp)
theorem QcF (u:Q6):OkL [(span ((uL u true).map Yv)).1,(span ((uL u true).map Yv)).2]:=by
 have key:∀ x∈(uL u true).map Yv,Sml x:=fun x hx=>by
  obtain ⟨t,ht,rfl⟩:=QKt.1 hx;have:=Qku ht;unfold Yv Sml;omega
 exact Qd3 (VZ key).1 (VZ key).2
theorem Qp8 (u:Q6):OkL [(Wf u).1]:=by
 unfold Wf;split
 ·split
  ·rename_i n hn
   unfold Qah at hn;have:=List.mem_of_find?_eq_some hn;rw[QKO] at this;exact Ym (by simp only;omega)
  ·exact Ym (by simp)
 ·exact Ym (by simp)
theorem Qnf (u:Q6) (n:Int):OkL (QdX u n):=by
 unfold QdX;split
 ·rename_i h
  obtain ⟨hp,hb,_⟩:=UB h;have hb:=of_decide_eq_true hb;simp only[inR] at hb;have hlt:n.toNat<u.rods.length:=by omega
  have hr:=hp.rods _ (QKj hlt);rw[List.getD_eq_getElem?_getD,QKg hlt,QLk];simp only[Vt,inR] at hr;exact Qff _ _ _ (by omega) (by omega) (by omega)
 ·exact Qd4
theorem QaQ (a b:Int):Xq a b=1\/Xq a b=2\/Xq a b=3:=by
 unfold Xq;omega
theorem Qsk {p:Qd} (h:kE p true=0):rCond p=1\/rCond p=2\/rCond p=3:=by
 unfold rCond;rw[if_pos h];exact QaQ _ _
theorem Qri {p:Qd} (h:kE p true=0):rGood p=1\/rGood p=2\/rGood p=3:=by
 unfold rGood;rw[if_pos h];exact QaQ _ _
theorem Qmf {p:Qd} {n:Int} (h:kE p (Jm p n)=0):rProved p n=1\/rProved p n=2\/rProved p n=3:=by
 unfold rProved;rw[if_pos h];exact QaQ _ _
theorem QnT {u:Q6} {n:Int} (h:uE u (Wi n)=0):VF u n=1\/VF u n=2\/VF u n=3:=by
 unfold VF Vp;omega
theorem Qg {h:Qf} (ho:okH h):QP h:=by
 have h1:=ho.1.chain.len;have h2:=ho.1.chain.slen;have h3:=ho.1.machine.len;have h4:=ho.1.machine.blen;have h5:=ho.1.many;have h6:=QcS h.proof.chain.deeds;have h7:=ho.2.rlen;have h8:=ho.2.xlen;exact ⟨⟨by omega,by omega,by omega,by omega,by omega⟩,by omega,by omega⟩
theorem Qxt:ZS Tryz.prog 79 c79 [0]:=⟨_,Tryz.func79,by kernel_rfl⟩
theorem Qxq:ZS Tryz.prog 82 c82 [0]:=⟨_,Tryz.func82,by kernel_rfl⟩
theorem Qxp:ZS Tryz.prog 84 c84 [0]:=⟨_,Tryz.func84,by kernel_rfl⟩
theorem Qxo:ZS Tryz.prog 87 c87 [0]:=⟨_,Tryz.func87,by kernel_rfl⟩
theorem Qxn:ZS Tryz.prog 90 c90 [0]:=⟨_,Tryz.func90,by kernel_rfl⟩
theorem Qxm:ZS Tryz.prog 92 c92 [0]:=⟨_,Tryz.func92,by kernel_rfl⟩
theorem Qxl:ZS Tryz.prog 94 c94 [0]:=⟨_,Tryz.func94,by kernel_rfl⟩
theorem Qxk:ZS Tryz.prog 96 c96 [0]:=⟨_,Tryz.func96,by kernel_rfl⟩
theorem Qxj:ZS Tryz.prog 99 c99 [0]:=⟨_,Tryz.func99,by kernel_rfl⟩
theorem QsF:ZS Tryz.prog 101 QDI [0]:=⟨_,Tryz.func101,by kernel_rfl⟩
theorem QsE:ZS Tryz.prog 103 QDH [0]:=⟨_,Tryz.func103,by kernel_rfl⟩
theorem QsD:ZS Tryz.prog 105 QDG [0]:=⟨_,Tryz.func105,by kernel_rfl⟩
theorem QsC:ZS Tryz.prog 107 QDF [0]:=⟨_,Tryz.func107,by kernel_rfl⟩
theorem QsB:ZS Tryz.prog 109 QDE [0]:=⟨_,Tryz.func109,by kernel_rfl⟩
theorem QsA:ZS Tryz.prog 111 QDD [0]:=⟨_,Tryz.func111,by kernel_rfl⟩
theorem Qsz:ZS Tryz.prog 113 QDC [0]:=⟨_,Tryz.func113,by kernel_rfl⟩
theorem Qsy:ZS Tryz.prog 115 QDB [0]:=⟨_,Tryz.func115,by kernel_rfl⟩
theorem QuJ (h:Qf) (a:Int) (ho:okH h) (hf:Y4 h):QU Tryz.prog KW 79 (.loc 0 0::[Qt [a]].map .iv) (QT h) [0] (.iv (.str (Z4 h .who [a]))) (QT h):=by
 have hc:=ho.1.chain;obtain ⟨⟨h1,h2,h3,h4,h5⟩,h6,h7⟩:=Qg ho;refine Qv Qxt rfl (by simp[c79]) ?_
 generalize hG:U1 4 (Z4 h .who [a]) h=G;have g1:=Qtb hKW h.proof.chain a h1 h2;have g2:=Qgi (QlT h.proof.chain a) (Z7 h.proof.chain (plB h.proof.chain a)) (fun _=>QsW hc a)
 have e1:(if Z7 h.proof.chain (decide (inR a 0 (ZO h.proof.chain.deeds-1)))=0 then Y0 ((QH h.proof.chain).map (Qqr h.proof.chain a)) else [])=QlT h.proof.chain a:=rfl
 have e2:Z7 h.proof.chain (decide (inR a 0 (ZO h.proof.chain.deeds-1)))=Z7 h.proof.chain (plB h.proof.chain a):=rfl;rw[e1,e2] at g1;simp[c79];refine cK (by simpa using g1) ?_
 simp;refine cK (by simpa using g2) ?_
 simp;rw[<- hG];exact QV rfl rfl (by simp[Qc])
theorem QuI (h:Qf) (a:Int) (ho:okH h) (hf:Y4 h):QU Tryz.prog KW 82 (.loc 0 0::[Qt [a]].map .iv) (QT h) [0] (.iv (.str (Z4 h .wher [a]))) (QT h):=by
 have hc:=ho.1.chain;obtain ⟨⟨h1,h2,h3,h4,h5⟩,h6,h7⟩:=Qg ho;refine Qv Qxq rfl (by simp[c82]) ?_
 generalize hG:U1 4 (Z4 h .wher [a]) h=G;have g1:=QBO hKW h.proof.chain a h1 h2;have g2:=Qgi (Qdy h.proof.chain a) (Z7 h.proof.chain (ZA h.proof.chain a)) (fun _=>QmS hc a)
 have e1:(if Z7 h.proof.chain (ZA h.proof.chain a)=0 then Y0 ((QH h.proof.chain).map (QcC h.proof.chain a)) else [])=Qdy h.proof.chain a:=rfl
 rw[e1] at g1;simp[c82];refine cK (by simpa using g1) ?_
 simp;refine cK (by simpa using g2) ?_
 simp;rw[<- hG];exact QV rfl rfl (by simp[Qc])
theorem QuH (h:Qf) (ho:okH h) (hf:Y4 h):QU Tryz.prog KW 84 (.loc 0 0::[Qt []].map .iv) (QT h) [0] (.iv (.str (Z4 h .first []))) (QT h):=by
 have hc:=ho.1.chain;obtain ⟨⟨h1,h2,h3,h4,h5⟩,h6,h7⟩:=Qg ho;refine Qv Qxp rfl (by simp[c84]) ?_
 generalize hG:U1 4 (Z4 h .first []) h=G;have g1:=QBN hKW h.proof.chain h1 h2;have g2:=Qk9 (Yr h.proof.chain).1 (Yr h.proof.chain).2 (fun _=>Qll hc)
 simp[c84];refine cK (by simpa using g1) ?_
 simp;refine cK (by simpa using g2) ?_
 simp;rw[<- hG];exact QV rfl rfl (by simp[Qc])
theorem QuG (h:Qf) (a b:Int) (ho:okH h) (hf:Y4 h):QU Tryz.prog KW 87 (.loc 0 0::[Qt [a,b]].map .iv) (QT h) [0] (.iv (.str (Z4 h .pulls [a,b]))) (QT h):=by
 have hc:=ho.1.chain;obtain ⟨⟨h1,h2,h3,h4,h5⟩,h6,h7⟩:=Qg ho;refine Qv Qxo rfl (by simp[c87]) ?_
 generalize hG:U1 4 (Z4 h .pulls [a,b]) h=G;have g1:=Qta hKW h.proof.machine a b h3 h4;have g2:=Qk8 (XM h.proof.machine a b).1 (XM h.proof.machine a b).2 (tE h.proof.machine (JN a b 0)) (fun _=>QhB a b)
 simp[c87];refine cK (by simpa using g1) ?_
 simp;refine cK (by simpa using g2) ?_
 simp;rw[<- hG];exact QV rfl rfl (by simp[Qc])
theorem QuF (h:Qf) (a:Int) (ho:okH h) (hf:Y4 h):QU Tryz.prog KW 90 (.loc 0 0::[Qt [a]].map .iv) (QT h) [0] (.iv (.str (Z4 h .broke [a]))) (QT h):=by
 have hc:=ho.1.chain;obtain ⟨⟨h1,h2,h3,h4,h5⟩,h6,h7⟩:=Qg ho;refine Qv Qxn rfl (by simp[c90]) ?_
 generalize hG:U1 4 (Z4 h .broke [a]) h=G;have g1:=QBM hKW h.proof a hf.proof;have g2:=Qgi (VG h.proof a) (kE h.proof (Q0 h.proof a)) (fun _=>QlJ h.proof a)
 simp[c90];refine cK (by simpa using g1) ?_
 simp;refine cK (by simpa using g2) ?_
 simp;rw[<- hG];exact QV rfl rfl (by simp[Qc])
theorem QuE (h:Qf) (a:Int) (ho:okH h) (hf:Y4 h):QU Tryz.prog KW 92 (.loc 0 0::[Qt [a]].map .iv) (QT h) [0] (.iv (.str (Z4 h .loads [a]))) (QT h):=by
 have hc:=ho.1.chain;obtain ⟨⟨h1,h2,h3,h4,h5⟩,h6,h7⟩:=Qg ho;refine Qv Qxm rfl (by simp[c92]) ?_
 generalize hG:U1 4 (Z4 h .loads [a]) h=G;have g1:=QBL hKW h.proof a hf.proof;have g2:=Qk8 (Yf h.proof a).1 (Yf h.proof a).2 (Qbc h.proof a) (fun _=>QkZ h.proof a)
 have e1:(if kE h.proof (Q0 h.proof a)=0 then (XM h.proof.machine (tr h.proof a.toNat).weight (tr h.proof a.toNat).mins).1 else 0)=(Yf h.proof a).1:=by unfold Yf;split<;>rfl
 have e2:(if kE h.proof (Q0 h.proof a)=0 then (XM h.proof.machine (tr h.proof a.toNat).weight (tr h.proof a.toNat).mins).2 else 0)=(Yf h.proof a).2:=by unfold Yf;split<;>rfl
 have e3:(if kE h.proof (Q0 h.proof a)=0 then tE h.proof.machine (JN (tr h.proof a.toNat).weight (tr h.proof a.toNat).mins 0) else kE h.proof (Q0 h.proof a))=Qbc h.proof a:=rfl
 rw[e1,e2,e3] at g1;simp[c92];refine cK (by simpa using g1) ?_
 simp;refine cK (by simpa using g2) ?_
 simp;rw[<- hG];exact QV rfl rfl (by simp[Qc])
theorem QuD (h:Qf) (ho:okH h) (hf:Y4 h):QU Tryz.prog KW 94 (.loc 0 0::[Qt []].map .iv) (QT h) [0] (.iv (.str (Z4 h .failures []))) (QT h):=by
 have hc:=ho.1.chain;obtain ⟨⟨h1,h2,h3,h4,h5⟩,h6,h7⟩:=Qg ho;refine Qv Qxl rfl (by simp[c94]) ?_
 generalize hG:U1 4 (Z4 h .failures []) h=G;have g1:=QBK hKW h.proof hf.proof;have g2:=Qk8 (rFail h.proof).1 (rFail h.proof).2 (kE h.proof true) (fun _=>QoG ho.1)
 simp[c94];refine cK (by simpa using g1) ?_
 simp;refine cK (by simpa using g2) ?_
 simp;rw[<- hG];exact QV rfl rfl (by simp[Qc])
theorem QuC (h:Qf) (ho:okH h) (hf:Y4 h):QU Tryz.prog KW 96 (.loc 0 0::[Qt []].map .iv) (QT h) [0] (.iv (.str (Z4 h .condemned []))) (QT h):=by
 have hc:=ho.1.chain;obtain ⟨⟨h1,h2,h3,h4,h5⟩,h6,h7⟩:=Qg ho;refine Qv Qxk rfl (by simp[c96]) ?_
 generalize hG:U1 4 (Z4 h .condemned []) h=G;have g1:=QBJ hKW h.proof hf.proof;have g2:=Qk7 (rCond h.proof) (kE h.proof true) Qsk;simp[c96];refine cK (by simpa using g1) ?_
 simp;refine cK (by simpa using g2) ?_
 simp;rw[<- hG];exact QV rfl rfl (by simp[Qc])
theorem QuB (h:Qf) (a:Int) (ho:okH h) (hf:Y4 h):QU Tryz.prog KW 99 (.loc 0 0::[Qt [a]].map .iv) (QT h) [0] (.iv (.str (Z4 h .proved [a]))) (QT h):=by
 have hc:=ho.1.chain;obtain ⟨⟨h1,h2,h3,h4,h5⟩,h6,h7⟩:=Qg ho;refine Qv Qxj rfl (by simp[c99]) ?_
 generalize hG:U1 4 (Z4 h .proved [a]) h=G;have g1:=QwP hKW h.proof a hf.proof;have g2:=Qk7 (rProved h.proof a) (kE h.proof (Jm h.proof a)) Qmf;simp[c99];refine cK (by simpa using g1) ?_
 simp;refine cK (by simpa using g2) ?_
 simp;rw[<- hG];exact QV rfl rfl (by simp[Qc])
theorem Qrh (h:Qf) (ho:okH h) (hf:Y4 h):QU Tryz.prog KW 101 (.loc 0 0::[Qt []].map .iv) (QT h) [0] (.iv (.str (Z4 h .opn []))) (QT h):=by
 have hc:=ho.1.chain;obtain ⟨⟨h1,h2,h3,h4,h5⟩,h6,h7⟩:=Qg ho;refine Qv QsF rfl (by simp[QDI]) ?_
 generalize hG:U1 4 (Z4 h .opn []) h=G;have g1:=QwO hKW h.proof hf.proof;have g2:=Qgi (qZ h.proof) (kE h.proof true) (fun _=>Qnq ho.1)
 simp[QDI];refine cK (by simpa using g1) ?_
 simp;refine cK (by simpa using g2) ?_
 simp;rw[<- hG];exact QV rfl rfl (by simp[Qc])
theorem Qrg (h:Qf) (ho:okH h) (hf:Y4 h):QU Tryz.prog KW 103 (.loc 0 0::[Qt []].map .iv) (QT h) [0] (.iv (.str (Z4 h .good []))) (QT h):=by
 have hc:=ho.1.chain;obtain ⟨⟨h1,h2,h3,h4,h5⟩,h6,h7⟩:=Qg ho;refine Qv QsE rfl (by simp[QDH]) ?_
 generalize hG:U1 4 (Z4 h .good []) h=G;have g1:=QwN hKW h.proof hf.proof;have g2:=Qk7 (rGood h.proof) (kE h.proof true) Qri;simp[QDH];refine cK (by simpa using g1) ?_
 simp;refine cK (by simpa using g2) ?_
 simp;rw[<- hG];exact QV rfl rfl (by simp[Qc])
theorem Qrf (h:Qf) (ho:okH h) (hf:Y4 h):QU Tryz.prog KW 105 (.loc 0 0::[Qt []].map .iv) (QT h) [0] (.iv (.str (Z4 h .worth []))) (QT h):=by
 have hc:=ho.1.chain;obtain ⟨⟨h1,h2,h3,h4,h5⟩,h6,h7⟩:=Qg ho;refine Qv QsD rfl (by simp[QDG]) ?_
 generalize hG:U1 4 (Z4 h .worth []) h=G;have g1:=QwM hKW h.proof hf.proof;have g2:=Qk9 (Ye h.proof).1 (Ye h.proof).2 (fun _=>Qkp h.proof)
 simp[QDG];refine cK (by simpa using g1) ?_
 simp;refine cK (by simpa using g2) ?_
 simp;rw[<- hG];exact QV rfl rfl (by simp[Qc])
theorem Qre (h:Qf) (ho:okH h) (hf:Y4 h):QU Tryz.prog KW 107 (.loc 0 0::[Qt []].map .iv) (QT h) [0] (.iv (.str (Z4 h .weight []))) (QT h):=by
 have hc:=ho.1.chain;obtain ⟨⟨h1,h2,h3,h4,h5⟩,h6,h7⟩:=Qg ho;refine Qv QsC rfl (by simp[QDF]) ?_
 generalize hG:U1 4 (Z4 h .weight []) h=G;have g1:=QwL hKW h.proof hf.proof;have g2:=Qk9 (Yq h.proof).1 (Yq h.proof).2 (fun _=>Qkr h.proof)
 have e1:(if kE h.proof true=0 then (Xk h.proof.machine 0 h.proof.need).1 else 0)=(Yq h.proof).1:=by unfold Yq;split<;>rfl
 have e2:(if kE h.proof true=0 then (Xk h.proof.machine 0 h.proof.need).2 else kE h.proof true)=(Yq h.proof).2:=by unfold Yq;split<;>rfl
 rw[e1,e2] at g1;simp[QDF];refine cK (by simpa using g1) ?_
 simp;refine cK (by simpa using g2) ?_
 simp;rw[<- hG];exact QV rfl rfl (by simp[Qc])
theorem Qrd (h:Qf) (ho:okH h) (hf:Y4 h):QU Tryz.prog KW 109 (.loc 0 0::[Qt []].map .iv) (QT h) [0] (.iv (.str (Z4 h .stretch []))) (QT h):=by
 have hc:=ho.1.chain;obtain ⟨⟨h1,h2,h3,h4,h5⟩,h6,h7⟩:=Qg ho;refine Qv QsB rfl (by simp[QDE]) ?_
 generalize hG:U1 4 (Z4 h .stretch []) h=G;have g1:=QwK hKW h.pull h6 h7;have g2:=Qk8 (span ((uL h.pull true).map Yv)).1 (span ((uL h.pull true).map Yv)).2 (uE h.pull true) (fun _=>QcF h.pull)
 simp[QDE];refine cK (by simpa using g1) ?_
 simp;refine cK (by simpa using g2) ?_
 simp;rw[<- hG];exact QV rfl rfl (by simp[Qc])
theorem Qrc (h:Qf) (ho:okH h) (hf:Y4 h):QU Tryz.prog KW 111 (.loc 0 0::[Qt []].map .iv) (QT h) [0] (.iv (.str (Z4 h .best []))) (QT h):=by
 have hc:=ho.1.chain;obtain ⟨⟨h1,h2,h3,h4,h5⟩,h6,h7⟩:=Qg ho;refine Qv QsA rfl (by simp[QDD]) ?_
 generalize hG:U1 4 (Z4 h .best []) h=G;have g1:=QwJ hKW h.pull h6 h7;have g2:=Qk9 (Wf h.pull).1 (Wf h.pull).2 (fun _=>Qp8 h.pull)
 simp[QDD];refine cK (by simpa using g1) ?_
 simp;refine cK (by simpa using g2) ?_
 simp;rw[<- hG];exact QV rfl rfl (by simp[Qc])
theorem Qrb (h:Qf) (a:Int) (ho:okH h) (hf:Y4 h):QU Tryz.prog KW 113 (.loc 0 0::[Qt [a]].map .iv) (QT h) [0] (.iv (.str (Z4 h .holds [a]))) (QT h):=by
 have hc:=ho.1.chain;obtain ⟨⟨h1,h2,h3,h4,h5⟩,h6,h7⟩:=Qg ho;refine Qv Qsz rfl (by simp[QDC]) ?_
 generalize hG:U1 4 (Z4 h .holds [a]) h=G;have g1:=QwI hKW h.pull a h6 h7;have g2:=Qk7 (VF h.pull a) (uE h.pull (Wi a)) QnT;simp[QDC];refine cK (by simpa using g1) ?_
 simp;refine cK (by simpa using g2) ?_
 simp;rw[<- hG];exact QV rfl rfl (by simp[Qc])
theorem Qra (h:Qf) (a:Int) (ho:okH h) (hf:Y4 h):QU Tryz.prog KW 115 (.loc 0 0::[Qt [a]].map .iv) (QT h) [0] (.iv (.str (Z4 h .rods [a]))) (QT h):=by
 have hc:=ho.1.chain;obtain ⟨⟨h1,h2,h3,h4,h5⟩,h6,h7⟩:=Qg ho;refine Qv Qsy rfl (by simp[QDB]) ?_
 generalize hG:U1 4 (Z4 h .rods [a]) h=G;have g1:=QwH hKW h.pull a h6 h7;have g2:=Qgi (QdX h.pull a) (uE h.pull (Ql9 h.pull a)) (fun _=>Qnf h.pull a)
 simp[QDB];refine cK (by simpa using g1) ?_
 simp;refine cK (by simpa using g2) ?_
 simp;rw[<- hG];exact QV rfl rfl (by simp[Qc])
def chB (first:List Int) (rest:List Qx):List (List Int):=(Qo rest).map (first++·)
theorem Qxd (first:List Int):chB first []=[first]:=by simp[chB,Qo]
theorem Qxc {first:List Int} {d:Qx} {r:List Qx} (h:d.frm=0\/d.frm=1):chB first (d::r)=chB (first++[d.frm]) r:=by
 unfold chB;rcases h with h | h<;>simp[Qo,Vb,h]
theorem Qxb {first:List Int} {d:Qx} {r:List Qx} (h:d.frm=2):chB first (d::r)=chB (first++[0]) r++chB (first++[1]) r:=by
 unfold chB;simp[Qo,Vb,h,Function.comp_def]
theorem Qxe (first:List Int) (r:List Qx):(chB first r).length<=2 ^ r.length:=by
 unfold chB;rw[QKz];exact QKK (UY r) (QK7 (by omega) (UC r))
theorem QlD {c:Qk} (hc:OkC c) (first:List Int) (k:Nat):(chB first (c.deeds.drop k)).length<=4096:=by
 have h1:=Qxe first (c.deeds.drop k)
 have h2:=hc.len;have h3:2 ^ (c.deeds.drop k).length<=2 ^ 12:=QK7 (by omega) (by simp;omega)
 omega
theorem QnI {ids:List Nat} {m:Nat->Nat} (a:List IV):scrL ids (rnL m (a.map AV.iv))=a.map AV.iv:=by
 rw[qL,Qas,List.map_map];exact QLg fun _ _=>by simp[scr]
include hK
theorem Qda {f:FuncId} {a b:IV} {e:TypeId} {sz:Nat} {rows:List (List IV)} {mv:Nat} (hg:YX Tryz.prog K f [a,b] (.aref 0 rows.length) e sz rows mv) (h1:mv<=rows.length):Ev.Good Tryz.prog K f [a,b] (.sl sz rows):=by
 refine J8 hK (Ur (args:=[a,b].map .iv) (o:=[]) 0 hg (by simp[imms,imm])) ?_
 simp[ren,imm,Qc,ZU,immss,h1];exact V9 rows
theorem Qk6 (c:Qk) (hc:OkC c):∀ (n:Nat) (first:List Int),first.length+n=c.deeds.length ->
  ∃ mv,mv<=(chB first (c.deeds.drop first.length)).length/\YX Tryz.prog K 313 [chV c,Qt first] (.aref 0 ((chB first (c.deeds.drop first.length)).map fun e=>[Qt e]).length) 74 1 ((chB first (c.deeds.drop first.length)).map fun e=>[Qt e]) mv
 | 0,first,hn=>by
   have e1:c.deeds.drop first.length=[]:=QKM (by omega)
   have e2:first.length=c.deeds.length:=by omega
   have hcl:=hc.len;rw[e1,Qxd];refine ⟨0,by simp,UP (.tmp 4) 13 hK QiS (by simp[Qqu]) rfl ?_⟩
   simp[Qqu,e2,ZU]
 | n+1,first,hn=>by
   have hlt:first.length<c.deeds.length:=by omega
   have hcl:=hc.len;have hne:¬ (first.length:Int)=c.deeds.length:=by omega
   have hne':¬ first.length=c.deeds.length:=by omega
   have e1:c.deeds.drop first.length=c.deeds[first.length]::c.deeds.drop (first.length+1):=QKG hlt
   have hfrm:=Qli (hc.deeds first.length hlt hlt)
   simp only[inR] at hfrm
   have ih:∀ x:Int,∃ mv,mv<=(chB (first++[x]) (c.deeds.drop (first.length+1))).length/\YX Tryz.prog K 313 [chV c,Qt (first++[x])] (.aref 0 ((chB (first++[x]) (c.deeds.drop (first.length+1))).map fun e=>[Qt e]).length) 74 1 ((chB (first++[x]) (c.deeds.drop (first.length+1))).map fun e=>[Qt e]) mv:=fun x=>by
    have:=Qk6 c hc n (first++[x]) (by simp;omega)
    simpa only[QKA,QKB,QKR,QKE] using this
   have hl4:∀ x:Int,(chB (first++[x]) (c.deeds.drop (first.length+1))).length<=4096:=fun x=>QlD hc _ _
   have take_all:∀ x:Int,((first++[x]).map fun n=>[IV.int IntKind.i64 n]).take (first.length+1)=(first++[x]).map fun n=>[IV.int IntKind.i64 n]:=fun x=>QKi (by simp)
   rw[e1];by_cases h2:c.deeds[first.length].frm=2
   ·have hn2:¬ c.deeds[first.length].frm<2:=by omega
    obtain ⟨m0,hm0,g0⟩:=ih 0;obtain ⟨m1,hm1,g1⟩:=ih 1;have d1:=Qda hK g1 (by simpa using hm1)
    have q0:=hl4 0;have q1:=hl4 1;rw[Qxb h2,QKy];have hA:((chB (first++[0]) (c.deeds.drop (first.length+1))).map fun e=>[Qt e]).length<=4096:=by simpa using q0
    have hB:((chB (first++[1]) (c.deeds.drop (first.length+1))).map fun e=>[Qt e]).length<=4096:=by simpa using q1
    have hs:∀ r∈((chB (first++[1]) (c.deeds.drop (first.length+1))).map fun e=>[Qt e]),r.length=1:=by simp
    rw[<- QKz (f:=fun e=>[Qt e])] at hm0
    have hlen:(chB (first++[0]) (c.deeds.drop (first.length+1))++chB (first++[1]) (c.deeds.drop (first.length+1))).length=(((chB (first++[0]) (c.deeds.drop (first.length+1))).map fun e=>[Qt e])++((chB (first++[1]) (c.deeds.drop (first.length+1))).map fun e=>[Qt e])).length:=by simp
    rw[hlen];clear hlen ih hl4 q0 q1 hm1 g1;generalize ((chB (first++[0]) (c.deeds.drop (first.length+1))).map fun e=>[Qt e])=A at *
    generalize ((chB (first++[1]) (c.deeds.drop (first.length+1))).map fun e=>[Qt e])=B at *
    refine ⟨m0,by simp;omega,UP (.tmp 4) 37 hK QiS (by simp[Qqu]) rfl ?_⟩
    cases first with
    | nil =>
      simp at hlt hne' h2 hn2;have hz:¬ (0:Int)=c.deeds.length:=by omega
      simp[Qqu,ZU,hz,h2,hlt];intro _;refine WQ [some (chV c),none] (by simp) (ia:=32) (ib:=37) (rows:=[[.int .i64 0]]) (n:=1) (sz:=1) (et:=3) (mv:=0) (by simpa using g0) (by simp) (by simp[Qc]) (by simp[Qc]) (by simp) (by simp) (by simp) ?_
      simp[ZU];refine Vg [some (chV c),none] (by simp) (rows:=[[.int .i64 1]]) (n:=1) (sz:=1) (et:=3) (mv:=0) (r:=.sl 1 B) (by simpa using d1) (by simp) (by simp[Qc]) (by simp) (by simp) ?_
      simp;exact ⟨⟨hm0,by omega,by omega⟩,fun a _=>QnI a⟩
    | cons y r =>
      simp at hne' hlt take_all;simp at h2 hn2;have hlt1:r.length+1<c.deeds.length:=hlt;have hz:¬ (r.length:Int)+1=c.deeds.length:=by omega
      have hz1:((r.length:Int)+1).toNat=r.length+1:=by omega
      have hz2:(r.length:Int)+1<c.deeds.length:=by omega
      have tk:∀ x:Int,((y::r++[x]).map fun n=>[IV.int IntKind.i64 n]).take (r.length+1+1)=(y::r++[x]).map fun n=>[IV.int IntKind.i64 n]:=fun x=>QKi (by simp)
      simp[Qqu,ZU,hz,h2,hlt1,hz1];intro _ _ _;refine ⟨by omega,by omega,by omega,?_⟩
      refine WQ [some (chV c),none] (by simp) (ia:=32) (ib:=37) (rows:=(y::r++[0]).map fun n=>[.int .i64 n]) (n:=r.length+1+1) (sz:=1) (et:=3) (mv:=0) (by rw[tk];simpa using g0) (by simp) (by simp[Qc]) (by simp[Qc]) (by simp) (by simp) (by simp) ?_
      simp[ZU];refine ⟨by omega,by omega,?_⟩
      refine Vg [some (chV c),none] (by simp) (rows:=(y::r++[1]).map fun n=>[.int .i64 n]) (n:=r.length+1+1) (sz:=1) (et:=3) (mv:=0) (r:=.sl 1 B) (by rw[tk];simpa using d1) (by simp) (by simp[Qc]) (by simp) (by simp) ?_
      simp;exact ⟨⟨hm0,by omega,by omega⟩,fun a _=>QnI a⟩
   ·have h01:c.deeds[first.length].frm=0\/c.deeds[first.length].frm=1:=by omega
    obtain ⟨m0,hm0,g0⟩:=ih c.deeds[first.length].frm
    have q0:=hl4 c.deeds[first.length].frm
    have hn2:c.deeds[first.length].frm<2:=by omega
    rw[Qxc h01];rw[<- QKz (f:=fun e=>[Qt e])] at hm0
    have hA:((chB (first++[c.deeds[first.length].frm]) (c.deeds.drop (first.length+1))).map fun e=>[Qt e]).length<=4096:=by simpa using q0
    rw[<- QKz (f:=fun e=>[Qt e])]
    clear ih hl4 q0;generalize ((chB (first++[c.deeds[first.length].frm]) (c.deeds.drop (first.length+1))).map fun e=>[Qt e])=A at *
    refine ⟨m0,hm0,UP (.tmp 4) 30 hK QiS (by simp[Qqu]) rfl ?_⟩
    cases first with
    | nil =>
      simp at hlt hne' h2 hn2 g0;have hz:¬ (0:Int)=c.deeds.length:=by omega
      simp[Qqu,ZU,hz,hn2,hlt];intro _;refine WQ [some (chV c),none] (by simp) (ia:=24) (ib:=30) (rows:=[[.int .i64 c.deeds[0].frm]]) (n:=1) (sz:=1) (et:=3) (mv:=0) (by simpa using g0) (by simp) (by simp[Qc]) (by simp[Qc]) (by simp) (by simp) (by simp) ?_
      simp[ZU];exact fun a _=>qL _ a
    | cons y r =>
      simp at hne' hlt take_all;simp at h2 hn2;have hlt1:r.length+1<c.deeds.length:=hlt;have hz:¬ (r.length:Int)+1=c.deeds.length:=by omega
      have hz1:((r.length:Int)+1).toNat=r.length+1:=by omega
      have tk:∀ x:Int,((y::r++[x]).map fun n=>[IV.int IntKind.i64 n]).take (r.length+1+1)=(y::r++[x]).map fun n=>[IV.int IntKind.i64 n]:=fun x=>QKi (by simp)
      simp[Qqu,ZU,hz,hn2,hlt1,hz1];intro _ _ _;refine ⟨by omega,by omega,by omega,?_⟩
      refine WQ [some (chV c),none] (by simp) (ia:=24) (ib:=30) (rows:=(y::r++[c.deeds[r.length+1].frm]).map fun n=>[.int .i64 n]) (n:=r.length+1+1) (sz:=1) (et:=3) (mv:=0) (by rw[tk];simpa using g0) (by simp) (by simp[Qc]) (by simp[Qc]) (by simp) (by simp) (by simp) ?_
      simp[ZU];exact fun a _=>qL _ a
omit hK
def teT (c:Qk) (i:Nat):List (List Int):=((Qo c.deeds).take i).filter fun e=>decide ((QL c.deeds c.sights (Qr e):Int)<=c.wrong)
def teL (c:Qk):List (List Int):=(Qo c.deeds).filter fun e=>decide ((QL c.deeds c.sights (Qr e):Int)<=c.wrong)
theorem Jf {c:Qk} (hc:OkC c):(Qo c.deeds).length<=4096:=by
 have:=QlD hc [] 0;simpa[chB] using this
theorem WP {ds:List Qx} {e:List Int} (h:e∈Qo ds):e.length=ds.length:=(Q7 h).1
theorem Qqz (c:Qk) (i:Nat) (h:i<(Qo c.deeds).length):teT c (i+1)=teT c i++(if (QL c.deeds c.sights (Qr (Qo c.deeds)[i]):Int)<=c.wrong then [(Qo c.deeds)[i]] else []):=by
 unfold teT;rw[QKf h,QLj]
 congr 1
 by_cases hw:(QL c.deeds c.sights (Qr (Qo c.deeds)[i]):Int)<=c.wrong<;>simp[hw]
theorem QtM (c:Qk):teT c (Qo c.deeds).length=teL c:=by
 unfold teT teL;rw[QKn]
theorem Qmg (a b:Nat):((min a b:Nat):Int)=if b<a then (b:Int) else (a:Int):=by
 split<;>omega
theorem Qmp {c:Qk} (h:∀ j,j<c.sights.length->¬ 0<Qlo c (c.sights.take (j+1))):Ut c=none:=by
 unfold Ut;exact List.find?_eq_none.2 fun j hj=>by simpa using h j (QKO.1 hj)
theorem Qmo {c:Qk} {i:Nat} (hi:i<c.sights.length) (h:∀ j,j<i->¬ 0<Qlo c (c.sights.take (j+1))) (h1:0<Qlo c (c.sights.take (i+1))):Ut c=some i:=by
 unfold Ut;rw[QLK];exact ⟨by simpa using h1,i,by simpa using hi,by simp,fun j hj=>by simpa using h j hj⟩
theorem QqO {c:Qk} (hc:OkC c) (n:Nat):OkC ⟨c.deeds,c.sights.take n,c.wrong⟩ :=
 ⟨hc.len,by have:=hc.slen;simp;omega,hc.wrong,hc.deeds,fun s hs=>hc.sights s (QKS hs)⟩
theorem Qkw {c:Qk} (hc:OkC c):Zm c [] c.deeds=teL c:=by
 unfold Zm teL;rw[show ((Qo c.deeds).map (([]:List Int)++·))=Qo c.deeds by simp]
 refine List.filter_congr fun e he=>?_
 obtain ⟨h1,h2⟩:=Q7 he
 have hch:QqZ c.deeds e:=⟨h1,fun i hi hi'=>by
  have hm:=QbT (h2 i hi hi');obtain ⟨h3,h4⟩:=hm;refine ⟨by simp only[inR];omega,fun h=>by omega⟩⟩
 simp[Qml,hch]
theorem QtN {c:Qk} (hc:OkC c):teL c=[]↔QH c=[]:=by
 rw[<- Qkw hc];constructor
 ·intro h
  cases hr:QH c with
  | nil=>rfl
  | cons n r =>
    have:=UK hc (n:=n) (by rw[hr];simp)
    rw[h] at this;cases this
 ·intro h
  cases hr:Zm c [] c.deeds with
  | nil=>rfl
  | cons e r =>
    obtain ⟨n,hn,_⟩:=UV hc (e:=e) (by rw[hr];simp)
    rw[h] at hn;cases hn
theorem QlM:∀ {a b:List Int},a.Pairwise (·<·)->b.Pairwise (·<·)->(∀ x,x∈a↔x∈b)->a=b
 | [],[],_,_,_=>rfl
 | [],y::b,_,_,h=>absurd ((h y).2 (by simp)) (by simp)
 | x::a,[],_,_,h=>absurd ((h x).1 (by simp)) (by simp)
 | x::a,y::b,ha,hb,h=>by
   have h1:=List.pairwise_cons.1 ha;have h2:=List.pairwise_cons.1 hb
   have hxy:x=y:=by
    have e1:=(h x).1 (by simp)
    have e2:=(h y).2 (by simp)
    rcases QKq.1 e1 with e1 | e1
    ·exact e1
    ·rcases QKq.1 e2 with e2 | e2
     ·exact e2.symm
     ·have:=h1.1 y e2
      have:=h2.1 x e1;omega
   subst hxy;rw[QlM h1.2 h2.2 fun z=>?_]
   have hz:=h z;constructor
   ·intro hm
    rcases QKq.1 (hz.1 (List.mem_cons_of_mem _ hm)) with e | e
    ·subst e;have:=h1.1 z hm;omega
    ·exact e
   ·intro hm
    rcases QKq.1 (hz.2 (List.mem_cons_of_mem _ hm)) with e | e
    ·subst e;have:=h2.1 z hm;omega
    ·exact e
theorem qB {lo hi:Int} {l l':List Int} (h:∀ x,x∈l↔x∈l') (hb:∀ x∈l,lo<=x/\x<=hi):Z1 l lo hi=Y0 l':=by
 refine QlM (Vy l lo hi) (Jz l') fun x=>?_
 rw[JS,JA,<- h x];exact ⟨fun h=>h.2.2,fun h=>⟨(hb x h).1,(hb x h).2,h⟩⟩
theorem QsY {c:Qk} (hc:OkC c) (f:List Nat->Int) (x:Int):x∈((teL c).map fun e=>f (cab c.deeds (Qr e) c.deeds.length))↔x∈((QH c).map fun n=>f (cab c.deeds (Zs c.deeds n) c.deeds.length)):=by
 rw[<- Qkw hc];constructor
 ·intro h
  obtain ⟨e,he,rfl⟩:=QKt.1 h;obtain ⟨n,hn,hb⟩:=UV hc he;exact QKt.2 ⟨n,hn,by rw[JK c.deeds (Qr e) (Zs c.deeds n) hb]⟩
 ·intro h
  obtain ⟨n,hn,rfl⟩:=QKt.1 h;refine QKt.2 ⟨_,UK hc hn,?_⟩;rw[JK c.deeds (Zs c.deeds n) (Qr (QeF c.deeds n)) fun i hi=>qq _ _ _ hi]
def QtK (c:Qk) (n:Int) (e:List Int):Int:=((cab c.deeds (Qr e) c.deeds.length).getD n.toNat 0:Nat)
theorem QDK {c:Qk} {b:Bool} (h:Z7 c b=0):b=true:=by
 unfold Z7 at h;split at h
 ·split at h
  ·assumption
  ·cases h
 ·cases h
theorem QlS {c:Qk} (hc:OkC c) (n:Int):Z1 ((if Z7 c (plB c n)=0 then teL c else []).map (QtK c n)) 0 12=QlT c n:=by
 unfold QlT;by_cases h:Z7 c (plB c n)=0
 ·rw[if_pos h,if_pos h]
  refine qB (QsY hc fun l=>(l.getD n.toNat 0:Nat)) fun x hx=>?_
  obtain ⟨e,he,rfl⟩:=QKt.1 hx;unfold QtK;have hcl:=hc.len;by_cases hi:n.toNat<(cab c.deeds (Qr e) c.deeds.length).length
  ·have h1:=Ux c.deeds (Qr e) c.deeds.length _ (QKj hi)
   have h2:wn c.deeds c.deeds.length<=c.deeds.length:=Qfa _ _;rw[List.getD_eq_getElem?_getD,QKg hi,QLk];omega
  ·rw[List.getD_eq_getElem?_getD,List.getElem?_eq_none (by omega),Option.getD_none]
   omega
 ·rw[if_neg h,if_neg h]
  rfl
def QlU (c:Qk) (n:Int) (e:List Int):Int:=Xz (cab c.deeds (Qr e) c.deeds.length) n
theorem Qnp (l:List Nat) (n:Int) : -1<=Xz l n/\Xz l n<=l.length:=by
 unfold Xz fi;split
 ·have:=List.findIdx_le_length (p:=fun k:Nat=>decide ((k:Int)=n)) (xs:=l)
  omega
 ·omega
theorem Qqj (l:List Qx):((Xr Q5 l 0).length:Int)=(Qki l:Nat):=by
 have:∀ (l:List Qx) (i:Nat),(l.filter Q5).length=(Xr Q5 l i).length:=by
  intro l
  induction l with
  | nil=>intro i;rfl
  | cons d r ih =>
    intro i;simp only[Xr,List.filter_cons];cases Q5 d
    ·simpa using ih (i+1)
    ·simpa using ih (i+1)
 unfold Qki;rw[this l 0]
theorem Qg9 {c:Qk} (hc:OkC c) (n:Int):Z1 ((if Z7 c (ZA c n)=0 then teL c else []).map (QlU c n)) (-1) 12=Qdy c n:=by
 unfold Qdy;by_cases h:Z7 c (ZA c n)=0
 ·rw[if_pos h,if_pos h]
  refine qB (QsY hc fun l=>Xz l n) fun x hx=>?_
  obtain ⟨e,he,rfl⟩:=QKt.1 hx;unfold QlU;have hcl:=hc.len;have h1:=ZP (Qr e) hc.deeds c.deeds.length (QKl _) (QKl _);have h2:=OkD.cnt hc.deeds c.deeds.length (QKl _) (QKl _);have:=Qnp (cab c.deeds (Qr e) c.deeds.length) n;omega
 ·rw[if_neg h,if_neg h]
  rfl
include hK
theorem Qn9 (c:Qk) (hc:OkC c):Ev.Good Tryz.prog K 313 [chV c,Qt []] (.sl 1 ((Qo c.deeds).map fun e=>[Qt e])):=by
 obtain ⟨mv,h1,h2⟩:=Qk6 hK c hc c.deeds.length [] (by simp)
 have:=Qda hK h2 (by simpa using h1)
 simpa[chB] using this
theorem Qvu (c:Qk) (hl:c.deeds.length<=1000) (hs:c.sights.length<=1000):Ev.Good Tryz.prog K 264 [chV c] (.tup [.int .i64 (if OkC c then (QAQ c c.sights:Int) else 0),.int .i64 (if OkC c then 0 else 20)]):=by
 refine Qb hK Qyz (by simp) ?_
 have g54:=Qgl hK c hl hs;simp;refine QS (by simpa using g54) (.inl rfl) ?_
 by_cases hc:OkC c
 ·have g313:=Qn9 hK c hc
  have h4:=Jf hc;simp[hc];intro _;refine QS (by simpa using g313) (.inl rfl) ?_
  simp;refine VI (fun i=>[(1,AV.iv (.ptr [Qp c.deeds,Qh c.sights,.int .i64 c.wrong])),(5,AV.iv (.int .i64 (Qmr c c.sights i:Nat))),(6,AV.iv (.sl 1 ((Qo c.deeds).map fun e=>[Qt e]))),(7,AV.iv (.int .i64 (i:Nat)))]) (fun _=>[]) (Qo c.deeds).length ?_ ?_
  ·rw[Qa Qjl.eq_1]
   have e:Qmr c c.sights (Qo c.deeds).length=QAQ c c.sights:=by unfold Qmr QAQ;rw[QKn]
   simp[e]
  ·intro i hi ih
   have g314:=QhV hK c (Qo c.deeds)[i] hc (by rw[WP (QKj hi)];exact QKl _)
   rw[Qmq c c.sights i hi,Qmg] at ih;rw[Qa Qjl.eq_1];simp[hi] at ih |-;intro _;refine QS (by simpa using g314) (.inl rfl) ?_
   simp;exact ⟨by omega,ih⟩
 ·simp[hc]
theorem Qv1 (c:Qk) (hc:OkC c):Ev.Good Tryz.prog K 202 [chV c] (.tup [.int .i64 (Yr c).1,.int .i64 (Yr c).2]):=by
 refine Qb hK Qzi (by simp) ?_
 have hcl:=hc.len;have hsl:=hc.slen;have g54:=Qgl hK c (by omega) (by omega)
 rw[if_pos hc] at g54;generalize hr:Yr c=r;simp;refine QS (by simpa using g54) (.inl rfl) ?_
 simp;refine Qe (fun i=>[(1,AV.iv (.ptr [Qp c.deeds,Qh c.sights,.int .i64 c.wrong])),(5,AV.iv (.int .i64 (i:Nat)))]) (fun _=>[]) c.sights.length (fun i=>∀ j,j<i->¬ 0<Qlo c (c.sights.take (j+1))) (by simp) ?_ ?_
 ·intro hQ
  have hr:r=(0,3):=by
   rw[<- hr];unfold Yr;rw[if_pos hc,Qmp hQ]
  subst hr;rw[Qa QjM.eq_1];simp
 ·intro i hi hQ ih
  have hct:=QqO hc (i+1);have g264:=Qvu hK ⟨c.deeds,c.sights.take (i+1),c.wrong⟩ (by simp;omega) (by simp;omega)
  rw[if_pos hct,if_pos hct] at g264;have hfe:QAQ ⟨c.deeds,c.sights.take (i+1),c.wrong⟩ (c.sights.take (i+1))=Qlo c (c.sights.take (i+1)):=QwU hct _;simp only[hfe] at g264;rw[Qa QjM.eq_1];by_cases hz:0<Qlo c (c.sights.take (i+1))
  ·have hr:r=((i:Int),0):=by
    rw[<- hr];unfold Yr;rw[if_pos hc,Qmo hi hQ hz]
   subst hr;simp[hi];intros;refine ⟨by omega,by omega,fun _=>QS (by simpa using g264) (.inl rfl) ?_⟩
   simp;intro h;omega
  ·have hz0:Qlo c (c.sights.take (i+1))=0:=by omega
   have ih:=ih fun j hj=>by
    by_cases h:j=i
    ·subst h;exact hz
    ·exact hQ j (by omega)
   rw[hz0] at g264;simp[hi] at ih |-;intros;refine ⟨by omega,by omega,fun _=>QS (by simpa using g264) (.inl rfl) ?_⟩
   simp;exact ⟨by omega,ih⟩
theorem Qoj (c:Qk) (b:Bool) (hc:OkC c):Ev.Good Tryz.prog K 258 [chV c,.bool b] (.tup [.sl 1 (if Z7 c b=0 then (teL c).map fun e=>[Qt e] else []),.int .i64 (Z7 c b)]):=by
 refine Qb hK QyE (by simp) ?_
 have hcl:=hc.len;have hsl:=hc.slen;have g54:=Qgl hK c (by omega) (by omega)
 have g313:=Qn9 hK c hc;have h4:=Jf hc;rw[if_pos hc] at g54;unfold Z7;rw[if_pos hc];simp;refine QS (by simpa using g54) (.inl rfl) ?_
 cases b with
 | false=>simp
 | true =>
   simp;refine QS (by simpa using g313) (.inl rfl) ?_
   simp;refine VI (fun i=>[(2,AV.iv (.ptr [Qp c.deeds,Qh c.sights,.int .i64 c.wrong])),(7,AV.aref 7 (teT c i).length),(8,AV.iv (.sl 1 ((Qo c.deeds).map fun e=>[Qt e]))),(9,AV.iv (.int .i64 (i:Nat)))]) (fun i=>[(7,AO.arr 74 1 (emb ((teT c i).map fun e=>[Qt e])) 0)]) (Qo c.deeds).length ?_ ?_
   ·rw[Qa Qjn.eq_1]
    rw[QtM];have hn:=QtN hc;by_cases h0:teL c=[]
    ·simp[h0,hn.1 h0]
    ·have h0':¬ QH c=[]:=fun h=>h0 (hn.2 h)
     simp[h0,h0']
   ·intro i hi ih
    have g314:=QhV hK c (Qo c.deeds)[i] hc (by rw[WP (QKj hi)];exact QKl _)
    have hlt:(teT c i).length<=i:=by
     unfold teT;refine QKK (QKD _ _) ?_;simp;omega
    rw[Qqz c i hi] at ih;rw[Qa Qjn.eq_1];by_cases hw:(QL c.deeds c.sights (Qr (Qo c.deeds)[i]):Int)<=c.wrong
    ·rw[if_pos hw] at ih
     simp[hi] at ih |-;intro _;refine QS (by simpa using g314) (.inl rfl) ?_
     simp[hw,hi];exact ⟨by omega,by omega,ih⟩
    ·rw[if_neg hw] at ih
     simp[hi] at ih |-;intro _;refine QS (by simpa using g314) (.inl rfl) ?_
     simp[hw];exact ⟨by omega,ih⟩
theorem Qv3 (c:Qk) (n:Int) (hc:OkC c):Ev.Good Tryz.prog K 199 [chV c,.int .i64 n] (.tup [Qt (QlT c n),.int .i64 (Z7 c (plB c n))]):=by
 refine Qb hK Qzl (by simp) ?_
 have hcl:=hc.len;have g259:Ev.Good Tryz.prog K 259 [chV c,.int .i64 n] (.bool (plB c n)):=Qh2 hK c n hc.deeds (by omega)
 have g258:=Qoj hK c (plB c n) hc;have h4:=Jf hc;have hw:=QlS hc n
 have hT:∀ e∈(if Z7 c (plB c n)=0 then teL c else []),e∈Qo c.deeds/\inR n 0 (ZO c.deeds-1):=fun e he=>by
  split at he
  ·rename_i h0
   exact ⟨(QKJ.1 he).1,of_decide_eq_true (QDK h0)⟩
  ·cases he
 have hTl:(if Z7 c (plB c n)=0 then teL c else []).length<=4096:=by
  split
  ·exact QKK (QKD _ _) h4
  ·simp
 have hL:(if Z7 c (plB c n)=0 then (teL c).map fun e=>[Qt e] else [])=(if Z7 c (plB c n)=0 then teL c else []).map fun e=>[Qt e]:=by
  split<;>rfl
 rw[hL] at g258;generalize (if Z7 c (plB c n)=0 then teL c else [])=T at *
 generalize Z7 c (plB c n)=E at *;generalize plB c n=B at *;simp;refine QS (by simpa using g259) (.inl rfl) ?_
 simp;refine QS (by simpa using g258) (.inl rfl) ?_
 simp;refine VI (fun i=>[(1,AV.iv (.int .i64 n)),(2,AV.iv (.ptr [Qp c.deeds,Qh c.sights,.int .i64 c.wrong])),(6,AV.iv (.sl 1 (T.map fun e=>[Qt e]))),(7,AV.iv (.int .i64 E)),(8,AV.aref 8 ((T.take i).map (QtK c n)).length),(9,AV.iv (.int .i64 (i:Nat)))]) (fun i=>[(8,AO.arr 3 1 (emb (((T.take i).map (QtK c n)).map fun k=>[.int .i64 k])) 0)]) T.length ?_ ?_
 ·have g261:=Qh1 hK (T.map (QtK c n)) 0 12 (by omega) (by omega) (by omega)
  rw[hw] at g261;rw[Qa QjO.eq_1];rw[QKn];simp[-List.map_map,q9];rw[QKi (by simp)]
  intro _;refine QS (by simpa[-List.map_map] using g261) (.inl rfl) ?_
  simp
 ·intro i hi ih
  obtain ⟨hm,hin⟩:=hT T[i] (QKj hi);simp only[inR] at hin;have g260:=QbJ hK c T[i] hc.deeds (by omega) (by rw[WP hm];exact QKl _)
  have hln:=ZP (Qr T[i]) hc.deeds c.deeds.length (QKl _) (QKl _);have hn:n.toNat<(cab c.deeds (Qr T[i]) c.deeds.length).length:=by unfold ZO at hin;omega
  have hn':n<((cab c.deeds (Qr T[i]) c.deeds.length).length:Int):=by unfold ZO at hin;omega
  have hwe:QtK c n T[i]=((cab c.deeds (Qr T[i]) c.deeds.length)[n.toNat]:Nat):=by
   unfold QtK;rw[List.getD_eq_getElem?_getD,QKg hn,QLk]
  rw[QKf hi,QKy,QLf,hwe] at ih;rw[Qa QjO.eq_1];simp[hi] at ih |-;intros;refine QS (by simpa using g260) (.inl rfl) ?_
  simp[hn,hn'];exact ⟨by omega,by omega,by omega,ih⟩
theorem Qvv (l:List Nat) (link:Int) (hl:l.length<=1000000):Ev.Good Tryz.prog K 263 [ZG l,.int .i64 link] (.int .i64 (Xz l link)):=by
 refine Qb hK QyA (by simp) ?_
 simp;refine Qe (fun i=>[(0,AV.iv (ZG l)),(1,AV.iv (.int .i64 link)),(5,AV.iv (.int .i64 (i:Nat)))]) (fun _=>[]) l.length (fun i=>∀ k,(h:k<l.length)->k<i->¬ ((l[k]:Nat):Int)=link) (by intro k _ h;omega) ?_ ?_
 ·intro h
  rw[Qa Qjm.eq_1]
  have:Xz l link = -1:=by
   unfold Xz fi;rw[if_neg];intro ha;obtain ⟨x,hx,hd⟩:=QLF.1 ha;obtain ⟨k,hk,rfl⟩:=QK0 hx;exact h k hk hk (of_decide_eq_true hd)
  simp[this]
 ·intro i hi h ih
  rw[Qa Qjm.eq_1];by_cases he:((l[i]:Nat):Int)=link
  ·have:Xz l link=i:=by
    unfold Xz fi;rw[if_pos (QLF.2 ⟨l[i],QKj hi,decide_eq_true he⟩)]
    have:l.findIdx (fun k:Nat=>decide ((k:Int)=link))=i:=by
     rw[List.findIdx_eq hi];exact ⟨decide_eq_true he,fun j hj=>decide_eq_false (h j (by omega) hj)⟩
    rw[this]
   simp[hi,he,this]
  ·have hn:∀ k,(h:k<l.length)->k<i+1->¬ ((l[k]:Nat):Int)=link:=fun k hk hki=>by
    rcases Nat.lt_succ_iff_lt_or_eq.1 hki with h1 | rfl
    ·exact h k hk h1
    ·exact he
   have ih:=ih hn;simp[hi,he] at ih |-
   repeat' first | omega | exact ih | intro _ | apply And.intro
theorem Qv2 (c:Qk) (n:Int) (hc:OkC c):Ev.Good Tryz.prog K 200 [chV c,.int .i64 n] (.tup [Qt (Qdy c n),.int .i64 (Z7 c (ZA c n))]):=by
 refine Qb hK Qzk (by simp) ?_
 have hcl:=hc.len;have g262:=Qoh hK c n (by omega)
 have e0:decide (inR n 0 ((Xr Q5 c.deeds 0).length-1))=ZA c n:=by
  unfold ZA;rw[Qqj]
 rw[e0] at g262;have g258:=Qoj hK c (ZA c n) hc;have h4:=Jf hc;have hw:=Qg9 hc n
 have hT:∀ e∈(if Z7 c (ZA c n)=0 then teL c else []),e∈Qo c.deeds:=fun e he=>by
  split at he
  ·exact (QKJ.1 he).1
  ·cases he
 have hTl:(if Z7 c (ZA c n)=0 then teL c else []).length<=4096:=by
  split
  ·exact QKK (QKD _ _) h4
  ·simp
 have hL:(if Z7 c (ZA c n)=0 then (teL c).map fun e=>[Qt e] else [])=(if Z7 c (ZA c n)=0 then teL c else []).map fun e=>[Qt e]:=by
  split<;>rfl
 rw[hL] at g258;generalize (if Z7 c (ZA c n)=0 then teL c else [])=T at *
 generalize Z7 c (ZA c n)=E at *;generalize ZA c n=B at *;simp;refine QS (by simpa using g262) (.inl rfl) ?_
 simp;refine QS (by simpa using g258) (.inl rfl) ?_
 simp;refine VI (fun i=>[(1,AV.iv (.int .i64 n)),(2,AV.iv (.ptr [Qp c.deeds,Qh c.sights,.int .i64 c.wrong])),(6,AV.iv (.sl 1 (T.map fun e=>[Qt e]))),(7,AV.iv (.int .i64 E)),(8,AV.aref 8 ((T.take i).map (QlU c n)).length),(9,AV.iv (.int .i64 (i:Nat)))]) (fun i=>[(8,AO.arr 3 1 (emb (((T.take i).map (QlU c n)).map fun k=>[.int .i64 k])) 0)]) T.length ?_ ?_
 ·have g261:=Qh1 hK (T.map (QlU c n)) (-1) 12 (by omega) (by omega) (by omega)
  rw[hw] at g261;rw[Qa QjN.eq_1];rw[QKn];simp[-List.map_map,q9];rw[QKi (by simp)]
  intro _;refine QS (by simpa[-List.map_map] using g261) (.inl rfl) ?_
  simp
 ·intro i hi ih
  have hm:=hT T[i] (QKj hi);have g260:=QbJ hK c T[i] hc.deeds (by omega) (by rw[WP hm];exact QKl _)
  have hlc:(cab c.deeds (Qr T[i]) c.deeds.length).length<=12:=by
   have h1:=ZP (Qr T[i]) hc.deeds c.deeds.length (QKl _) (QKl _);have h2:=OkD.cnt hc.deeds c.deeds.length (QKl _) (QKl _);omega
  have g263:=Qvv hK (cab c.deeds (Qr T[i]) c.deeds.length) n (by omega)
  have hwe:Xz (cab c.deeds (Qr T[i]) c.deeds.length) n=QlU c n T[i]:=rfl;rw[hwe] at g263;rw[QKf hi,QKy,QLf] at ih;rw[Qa QjN.eq_1];simp[hi] at ih |-;intros;refine QS (by simpa using g260) (.inl rfl) ?_
  simp;refine QS (by simpa using g263) (.inl rfl) ?_
  simp;exact ⟨by omega,by omega,ih⟩
omit hK
theorem Qij (h:Qf) (a:Int) (ho:okH h) (hf:Y4 h):Ev.Good Tryz.prog KW 119 [hoV h,.str [119,104,111],Qt [a]] (.str (Z4 h .who [a])):=by
 have hc:=ho.1.chain;obtain ⟨⟨h1,h2,h3,h4,h5⟩,h6,h7⟩:=Qg ho;refine Qb hKW Xc (by simp) ?_
 have g1:=Qv3 hKW h.proof.chain a hc;have g2:=VO hKW (QlT h.proof.chain a) (Z7 h.proof.chain (plB h.proof.chain a)) (fun _=>QsW hc a)
 generalize hY:Z4 h .who [a]=Y;simp;refine cK (by simpa using g1) ?_
 simp;refine cK (by simpa using g2) ?_
 simp;exact hY
theorem Qeq (h:Qf) (a:Int) (ho:okH h) (hf:Y4 h):Ev.Good Tryz.prog KW 119 [hoV h,.str [119,104,101,114,101],Qt [a]] (.str (Z4 h .wher [a])):=by
 have hc:=ho.1.chain;obtain ⟨⟨h1,h2,h3,h4,h5⟩,h6,h7⟩:=Qg ho;refine Qb hKW Xc (by simp) ?_
 have g1:=Qv2 hKW h.proof.chain a hc;have g2:=VO hKW (Qdy h.proof.chain a) (Z7 h.proof.chain (ZA h.proof.chain a)) (fun _=>QmS hc a)
 generalize hY:Z4 h .wher [a]=Y;simp;refine cK (by simpa using g1) ?_
 simp;refine cK (by simpa using g2) ?_
 simp;exact hY
theorem Qeu (h:Qf) (ho:okH h) (hf:Y4 h):Ev.Good Tryz.prog KW 119 [hoV h,.str [102,105,114,115,116],Qt []] (.str (Z4 h .first [])):=by
 have hc:=ho.1.chain;obtain ⟨⟨h1,h2,h3,h4,h5⟩,h6,h7⟩:=Qg ho;refine Qb hKW Xc (by simp) ?_
 have g1:=Qv1 hKW h.proof.chain hc;have g2:=Qel hKW (Yr h.proof.chain).1 (Yr h.proof.chain).2 (fun _=>Qll hc)
 generalize hY:Z4 h .first []=Y;simp;refine cK (by simpa using g1) ?_
 simp;refine cK (by simpa using g2) ?_
 simp;exact hY
theorem Qer (h:Qf) (a b:Int) (ho:okH h) (hf:Y4 h):Ev.Good Tryz.prog KW 119 [hoV h,.str [112,117,108,108,115],Qt [a,b]] (.str (Z4 h .pulls [a,b])):=by
 have hc:=ho.1.chain;obtain ⟨⟨h1,h2,h3,h4,h5⟩,h6,h7⟩:=Qg ho;refine Qb hKW Xc (by simp) ?_
 have g1:=Qom hKW h.proof.machine a b h3 h4 (fun _=>hf.proof.fine.sets ho.1)
 have g2:=Qek hKW (XM h.proof.machine a b).1 (XM h.proof.machine a b).2 (tE h.proof.machine (JN a b 0)) (fun _=>QhB a b)
 generalize hY:Z4 h .pulls [a,b]=Y;simp;refine cK (by simpa using g1) ?_
 simp;refine cK (by simpa using g2) ?_
 simp;exact hY
theorem Qev (h:Qf) (a:Int) (ho:okH h) (hf:Y4 h):Ev.Good Tryz.prog KW 119 [hoV h,.str [98,114,111,107,101],Qt [a]] (.str (Z4 h .broke [a])):=by
 have hc:=ho.1.chain;obtain ⟨⟨h1,h2,h3,h4,h5⟩,h6,h7⟩:=Qg ho;refine Qb hKW Xc (by simp) ?_
 have g1:=Qv0 hKW h.proof a hf.proof.fine;have g2:=VO hKW (VG h.proof a) (kE h.proof (Q0 h.proof a)) (fun _=>QlJ h.proof a)
 generalize hY:Z4 h .broke [a]=Y;simp;refine cK (by simpa using g1) ?_
 simp;refine cK (by simpa using g2) ?_
 simp;exact hY
theorem Qes (h:Qf) (a:Int) (ho:okH h) (hf:Y4 h):Ev.Good Tryz.prog KW 119 [hoV h,.str [108,111,97,100,115],Qt [a]] (.str (Z4 h .loads [a])):=by
 have hc:=ho.1.chain;obtain ⟨⟨h1,h2,h3,h4,h5⟩,h6,h7⟩:=Qg ho;refine Qb hKW Xc (by simp) ?_
 have g1:=QvZ hKW h.proof a hf.proof.fine;have e1:(if kE h.proof (Q0 h.proof a)=0 then (XM h.proof.machine (tr h.proof a.toNat).weight (tr h.proof a.toNat).mins).1 else 0)=(Yf h.proof a).1:=by unfold Yf;split<;>rfl
 have e2:(if kE h.proof (Q0 h.proof a)=0 then (XM h.proof.machine (tr h.proof a.toNat).weight (tr h.proof a.toNat).mins).2 else 0)=(Yf h.proof a).2:=by unfold Yf;split<;>rfl
 have e3:(if kE h.proof (Q0 h.proof a)=0 then tE h.proof.machine (JN (tr h.proof a.toNat).weight (tr h.proof a.toNat).mins 0) else kE h.proof (Q0 h.proof a))=Qbc h.proof a:=rfl
 rw[e1,e2,e3] at g1;have g2:=Qek hKW (Yf h.proof a).1 (Yf h.proof a).2 (Qbc h.proof a) (fun _=>QkZ h.proof a)
 generalize hY:Z4 h .loads [a]=Y;simp;refine cK (by simpa using g1) ?_
 simp;refine cK (by simpa using g2) ?_
 simp;exact hY
theorem Qac (h:Qf) (ho:okH h) (hf:Y4 h):Ev.Good Tryz.prog KW 119 [hoV h,.str [102,97,105,108,117,114,101,115],Qt []] (.str (Z4 h .failures [])):=by
 have hc:=ho.1.chain;obtain ⟨⟨h1,h2,h3,h4,h5⟩,h6,h7⟩:=Qg ho;refine Qb hKW Xc (by simp) ?_
 have g1:=QvY hKW h.proof hf.proof.fine;have g2:=Qek hKW (rFail h.proof).1 (rFail h.proof).2 (kE h.proof true) (fun _=>QoG ho.1)
 generalize hY:Z4 h .failures []=Y;simp;refine cK (by simpa using g1) ?_
 simp;refine cK (by simpa using g2) ?_
 simp;exact hY
theorem qn (h:Qf) (ho:okH h) (hf:Y4 h):Ev.Good Tryz.prog KW 119 [hoV h,.str [99,111,110,100,101,109,110,101,100],Qt []] (.str (Z4 h .condemned [])):=by
 have hc:=ho.1.chain;obtain ⟨⟨h1,h2,h3,h4,h5⟩,h6,h7⟩:=Qg ho;refine Qb hKW Xc (by simp) ?_
 have g1:=QvX hKW h.proof hf.proof.fine;have g2:=Qej hKW (rCond h.proof) (kE h.proof true);generalize hY:Z4 h .condemned []=Y;simp;refine cK (by simpa using g1) ?_
 simp;refine cK (by simpa using g2) ?_
 simp;exact hY
theorem Qco (h:Qf) (a:Int) (ho:okH h) (hf:Y4 h):Ev.Good Tryz.prog KW 119 [hoV h,.str [112,114,111,118,101,100],Qt [a]] (.str (Z4 h .proved [a])):=by
 have hc:=ho.1.chain;obtain ⟨⟨h1,h2,h3,h4,h5⟩,h6,h7⟩:=Qg ho;refine Qb hKW Xc (by simp) ?_
 have g1:=QvW hKW h.proof a hf.proof.fine;have g2:=Qej hKW (rProved h.proof a) (kE h.proof (Jm h.proof a));generalize hY:Z4 h .proved [a]=Y;simp;refine cK (by simpa using g1) ?_
 simp;refine cK (by simpa using g2) ?_
 simp;exact hY
theorem Qgu (h:Qf) (ho:okH h) (hf:Y4 h):Ev.Good Tryz.prog KW 119 [hoV h,.str [111,112,101,110],Qt []] (.str (Z4 h .opn [])):=by
 have hc:=ho.1.chain;obtain ⟨⟨h1,h2,h3,h4,h5⟩,h6,h7⟩:=Qg ho;refine Qb hKW Xc (by simp) ?_
 have g1:=QvV hKW h.proof hf.proof.fine;have g2:=VO hKW (qZ h.proof) (kE h.proof true) (fun _=>Qnq ho.1)
 generalize hY:Z4 h .opn []=Y;simp;refine cK (by simpa using g1) ?_
 simp;refine cK (by simpa using g2) ?_
 simp;exact hY
theorem Qgv (h:Qf) (ho:okH h) (hf:Y4 h):Ev.Good Tryz.prog KW 119 [hoV h,.str [103,111,111,100],Qt []] (.str (Z4 h .good [])):=by
 have hc:=ho.1.chain;obtain ⟨⟨h1,h2,h3,h4,h5⟩,h6,h7⟩:=Qg ho;refine Qb hKW Xc (by simp) ?_
 have g1:=QvU hKW h.proof hf.proof.fine (by unfold kL;split;exact hf.proof.all ho.1;simp)
 have g2:=Qej hKW (rGood h.proof) (kE h.proof true);generalize hY:Z4 h .good []=Y;simp;refine cK (by simpa using g1) ?_
 simp;refine cK (by simpa using g2) ?_
 simp;exact hY
theorem Qep (h:Qf) (ho:okH h) (hf:Y4 h):Ev.Good Tryz.prog KW 119 [hoV h,.str [119,111,114,116,104],Qt []] (.str (Z4 h .worth [])):=by
 have hc:=ho.1.chain;obtain ⟨⟨h1,h2,h3,h4,h5⟩,h6,h7⟩:=Qg ho;refine Qb hKW Xc (by simp) ?_
 have g1:=QvT hKW h.proof hf.proof.fine;have g2:=Qel hKW (Ye h.proof).1 (Ye h.proof).2 (fun _=>Qkp h.proof)
 generalize hY:Z4 h .worth []=Y;simp;refine cK (by simpa using g1) ?_
 simp;refine cK (by simpa using g2) ?_
 simp;exact hY
theorem Qcn (h:Qf) (ho:okH h) (hf:Y4 h):Ev.Good Tryz.prog KW 119 [hoV h,.str [119,101,105,103,104,116],Qt []] (.str (Z4 h .weight [])):=by
 have hc:=ho.1.chain;obtain ⟨⟨h1,h2,h3,h4,h5⟩,h6,h7⟩:=Qg ho;refine Qb hKW Xc (by simp) ?_
 have g1:=QvS hKW h.proof hf.proof.fine;have e1:(if kE h.proof true=0 then (Xk h.proof.machine 0 h.proof.need).1 else 0)=(Yq h.proof).1:=by unfold Yq;split<;>rfl
 have e2:(if kE h.proof true=0 then (Xk h.proof.machine 0 h.proof.need).2 else kE h.proof true)=(Yq h.proof).2:=by unfold Yq;split<;>rfl
 rw[e1,e2] at g1;have g2:=Qel hKW (Yq h.proof).1 (Yq h.proof).2 (fun _=>Qkr h.proof)
 generalize hY:Z4 h .weight []=Y;simp;refine cK (by simpa using g1) ?_
 simp;refine cK (by simpa using g2) ?_
 simp;exact hY
theorem QbL (h:Qf) (ho:okH h) (hf:Y4 h):Ev.Good Tryz.prog KW 119 [hoV h,.str [115,116,114,101,116,99,104],Qt []] (.str (Z4 h .stretch [])):=by
 have hc:=ho.1.chain;obtain ⟨⟨h1,h2,h3,h4,h5⟩,h6,h7⟩:=Qg ho;refine Qb hKW Xc (by simp) ?_
 have g1:=QvR hKW h.pull hf.pull;have g2:=Qek hKW (span ((uL h.pull true).map Yv)).1 (span ((uL h.pull true).map Yv)).2 (uE h.pull true) (fun _=>QcF h.pull)
 generalize hY:Z4 h .stretch []=Y;simp;refine cK (by simpa using g1) ?_
 simp;refine cK (by simpa using g2) ?_
 simp;exact hY
theorem Qgw (h:Qf) (ho:okH h) (hf:Y4 h):Ev.Good Tryz.prog KW 119 [hoV h,.str [98,101,115,116],Qt []] (.str (Z4 h .best [])):=by
 have hc:=ho.1.chain;obtain ⟨⟨h1,h2,h3,h4,h5⟩,h6,h7⟩:=Qg ho;refine Qb hKW Xc (by simp) ?_
 have g1:=QvQ hKW h.pull hf.pull;have g2:=Qel hKW (Wf h.pull).1 (Wf h.pull).2 (fun _=>Qp8 h.pull)
 generalize hY:Z4 h .best []=Y;simp;refine cK (by simpa using g1) ?_
 simp;refine cK (by simpa using g2) ?_
 simp;exact hY
theorem Qet (h:Qf) (a:Int) (ho:okH h) (hf:Y4 h):Ev.Good Tryz.prog KW 119 [hoV h,.str [104,111,108,100,115],Qt [a]] (.str (Z4 h .holds [a])):=by
 have hc:=ho.1.chain;obtain ⟨⟨h1,h2,h3,h4,h5⟩,h6,h7⟩:=Qg ho;refine Qb hKW Xc (by simp) ?_
 have g1:=QvP hKW h.pull a hf.pull;have g2:=Qej hKW (VF h.pull a) (uE h.pull (Wi a));generalize hY:Z4 h .holds [a]=Y;simp;refine cK (by simpa using g1) ?_
 simp;refine cK (by simpa using g2) ?_
 simp;exact hY
theorem Qgt (h:Qf) (a:Int) (ho:okH h) (hf:Y4 h):Ev.Good Tryz.prog KW 119 [hoV h,.str [114,111,100,115],Qt [a]] (.str (Z4 h .rods [a])):=by
 have hc:=ho.1.chain;obtain ⟨⟨h1,h2,h3,h4,h5⟩,h6,h7⟩:=Qg ho;refine Qb hKW Xc (by simp) ?_
 have g1:=QvO hKW h.pull a hf.pull;have g2:=VO hKW (QdX h.pull a) (uE h.pull (Ql9 h.pull a)) (fun _=>Qnf h.pull a)
 generalize hY:Z4 h .rods [a]=Y;simp;refine cK (by simpa using g1) ?_
 simp;refine cK (by simpa using g2) ?_
 simp;exact hY
set_option maxRecDepth 100000
def Qtw:=f0 0xa02f0c2801b21a4198f635f305773d74d7773d75d5d0c2d0221fb40221fa402cc32de93d0221f9438dd232c1f23281f20109e0cd01c243417711f17701f20108e0cd0721044c1f3773d74d7773d75d5d0c21d0a2200c2216c ⟨_,by conv=>lhs;reduce⟩
def Qtx:=f0 0xa02f6c28060c30c0277d3d777773d74d7773d75d5d6c2d232c1f232b1f201dc0cd01c240c417791f17771f17731f17711f17701f501cc0cd0dc210481f377d3d777773d74d7773d75d5d6c21d0a2206c221a ⟨_,by conv=>lhs;reduce⟩
def QpV:=fk Tryz.func24 Qtw (by kernel_rfl)
def Qp4:=fk Tryz.func10 Qtx (by kernel_rfl)
attribute [simp] Qtw Qtx
def trA (k:Nat) (l:List U0):AV:=if l=[] then .zsl 3 else .aref k l.length
def trO (k:Nat) (l:List U0):Qw:=if l=[] then [] else [(k,.arr 89 3 (emb (l.map trC)) 0)]
def Uw (k:Nat) (p:Qd):List AV:=[.aref k p.chain.deeds.length,.aref (k+1) p.chain.sights.length,.iv (.int .i64 p.chain.wrong),.aref (k+2) p.machine.levers.length,.iv (.int .i64 p.machine.water),.iv (.int .i64 p.machine.llo),.iv (.int .i64 p.machine.lhi),
 .aref (k+3) p.machine.bals.length,.iv (.int .i64 p.machine.wrong),trA (k+4) p.trials,.iv (.int .i64 p.need),.iv (.int .i64 p.rule)]
def Vu (k:Nat) (p:Qd):Qw:=[(k,.arr 111 5 (emb (p.chain.deeds.map dC)) 0),(k+1,.arr 114 5 (emb (p.chain.sights.map sC)) 0),(k+2,.arr 117 3 (emb (p.machine.levers.map leC)) 0),(k+3,.arr 120 4 (emb (p.machine.bals.map baC)) 0)]++trO (k+4) p.trials
def qT (k:Nat) (h:Qf):List AV:=Uw k h.proof++[.iv (.int .i64 h.pull.iron),.iv (.int .i64 h.pull.glo),.iv (.int .i64 h.pull.ghi),.aref (k+5) h.pull.rods.length,.aref (k+6) h.pull.reads.length,.iv (.int .i64 h.pull.wrong)]
def WY (k:Nat) (h:Qf):Qw:=Vu k h.proof++[(k+5,.arr 94 3 (emb (h.pull.rods.map roC)) 0),(k+6,.arr 79 7 (emb (h.pull.reads.map reC)) 0)]
theorem Zd {ids:List Nat} {args0:List AV} {o o1:Qw} (h1:ids.Nodup) (h2:args0.all (clA [])=true) (h3:o1.all (fun q=>decide (q.1<ids.length)&&Zk q.2)=true) (h4:ids.all (fun j=>(Qc o j).isNone)=true):HOk ids args0 o [] o1:=by
 refine ⟨h1,h2,by simp,fun i hi _=>?_,fun q hq=>?_⟩
 ·have hi:=QKO.1 hi
  have:=QKH.1 h4 (nth ids i) (by unfold nth;grind)
  simpa using this
 grind
include hK
theorem QuT (c:Qk) (hl:c.deeds.length<=1000) (hs:c.sights.length<=1000):QU Tryz.prog K 52 [.iv (chV c)] [] [] (.agg [.aref 0 c.deeds.length,.aref 1 c.sights.length,.iv (.int .i64 c.wrong)]) [(0,.arr 111 5 (emb (c.deeds.map dC)) 0),(1,.arr 114 5 (emb (c.sights.map sC)) 0)]:=by
 refine Q1 [5,9] [] [] [] QCO.p (by simp[c52]) (by simp) ?_ ?_ ?_ ?_
 ·intro q hq
  simp only[QKq,QKu,or_false] at hq;rcases hq with rfl | rfl<;>exact ⟨by simp,rfl,Xn _ _ _ _ _⟩
 ·simp[clA,clAL]
 ·simp
 ·generalize hG:Qg2 c52.res _ _ _ _=G
  simp[c52];refine ⟨by omega,by omega,?_⟩
  rw[<- hG];refine ⟨⟨_,rfl,rfl⟩,fun q hq=>?_,by simp⟩
  simp only[QKq,QKu,or_false] at hq;rcases hq with rfl | rfl<;>simp[rnO,nth,qK,emb,Qc]
theorem QuS (m:Machine) (hl:m.levers.length<=1000) (hs:m.bals.length<=1000):QU Tryz.prog K 53 [.iv (maV m)] [] [] (.agg [.aref 0 m.levers.length,.iv (.int .i64 m.water),.iv (.int .i64 m.llo),.iv (.int .i64 m.lhi),.aref 1 m.bals.length,.iv (.int .i64 m.wrong)]) [(0,.arr 117 3 (emb (m.levers.map leC)) 0),(1,.arr 120 4 (emb (m.bals.map baC)) 0)]:=by
 refine Q1 [5,9] [] [] [] QCN.p (by simp[c53]) (by simp) ?_ ?_ ?_ ?_
 ·intro q hq
  simp only[QKq,QKu,or_false] at hq;rcases hq with rfl | rfl<;>exact ⟨by simp,rfl,Xn _ _ _ _ _⟩
 ·simp[clA,clAL]
 ·simp
 ·generalize hG:Qg2 c53.res _ _ _ _=G
  simp[c53];refine ⟨by omega,by omega,?_⟩
  rw[<- hG];refine ⟨⟨_,rfl,rfl⟩,fun q hq=>?_,by simp⟩
  simp only[QKq,QKu,or_false] at hq;rcases hq with rfl | rfl<;>simp[rnO,nth,qK,emb,Qc]
theorem QuV (p:Q6) (hl:p.rods.length<=1000) (hs:p.reads.length<=1000):QU Tryz.prog K 25 [.iv (puV p)] [] [] (.agg [.iv (.int .i64 p.iron),.iv (.int .i64 p.glo),.iv (.int .i64 p.ghi),.aref 0 p.rods.length,.aref 1 p.reads.length,.iv (.int .i64 p.wrong)]) [(0,.arr 94 3 (emb (p.rods.map roC)) 0),(1,.arr 79 7 (emb (p.reads.map reC)) 0)]:=by
 refine Q1 [5,9] [] [] [] QDg.p (by simp[c25]) (by simp) ?_ ?_ ?_ ?_
 ·intro q hq
  simp only[QKq,QKu,or_false] at hq;rcases hq with rfl | rfl<;>exact ⟨by simp,rfl,Xn _ _ _ _ _⟩
 ·simp[clA,clAL]
 ·simp
 ·generalize hG:Qg2 c25.res _ _ _ _=G
  simp[c25];refine ⟨by omega,by omega,?_⟩
  rw[<- hG];refine ⟨⟨_,rfl,rfl⟩,fun q hq=>?_,by simp⟩
  simp only[QKq,QKu,or_false] at hq;rcases hq with rfl | rfl<;>simp[rnO,nth,qK,emb,Qc]
theorem QuW (p:Qd) (hs:Qkj p):QU Tryz.prog K 24 [.iv (prV p)] [] [] (.agg (Uw 0 p)) (Vu 0 p):=by
 obtain ⟨h1,h2,h3,h4,h5⟩:=hs;have g52:=QuT hK p.chain h1 h2;have g53:=QuS hK p.machine h3 h4;cases ht:p.trials with
 | nil =>
   refine Q1 [6000,6001,9000,9004,9] [] [] [] QpV.p (by simp[Qtw]) (by simp) ?_ ?_ ?_ ?_
   ·intro q hq
    simp only[Vu,trO,ht,if_true,if_false,QKv,QKs,QKx,reduceCtorEq,QKq,QKu,or_false] at hq;rcases hq with rfl | rfl | rfl | rfl<;>exact ⟨by simp,rfl,Xn _ _ _ _ _⟩
   ·simp[Uw,Vu,trA,trO,ht,clA,clAL]
   ·simp
   ·generalize hG:Qg2 Qtw.res _ _ _ _=G
    simp[Qtw];refine Qn g52 (by simp[nth,rn]) (Zd (by decide) rfl (by simp[Zk]) (by simp[Qc])) ?_
    simp[nth,rn];refine Qn g53 (by simp[nth,rn]) (Zd (by decide) rfl (by simp[Zk]) (by simp[Qc])) ?_
    simp[nth,rn,ht];rw[<- hG];refine ⟨⟨_,rfl,by simp[Uw,trA,ht,rn,rnL,nth]⟩,fun q hq=>?_,by simp⟩
    simp only[Vu,trO,ht,if_true,if_false,QKv,QKs,QKx,reduceCtorEq,QKq,QKu,or_false] at hq;rcases hq with rfl | rfl | rfl | rfl<;>simp[rnO,nth,qK,emb,Qc]
 | cons t r =>
   rw[ht] at h5;simp at h5;refine Q1 [6000,6001,9000,9004,9] [] [] [] QpV.p (by simp[Qtw]) (by simp) ?_ ?_ ?_ ?_
   ·intro q hq
    simp only[Vu,trO,ht,if_true,if_false,QKv,QKs,QKx,reduceCtorEq,QKq,QKu,or_false] at hq;rcases hq with rfl | rfl | rfl | rfl | rfl<;>exact ⟨by simp,rfl,Xn _ _ _ _ _⟩
   ·simp[Uw,Vu,trA,trO,ht,clA,clAL]
   ·simp
   ·generalize hG:Qg2 Qtw.res _ _ _ _=G
    simp[Qtw];refine Qn g52 (by simp[nth,rn]) (Zd (by decide) rfl (by simp[Zk]) (by simp[Qc])) ?_
    simp[nth,rn];refine Qn g53 (by simp[nth,rn]) (Zd (by decide) rfl (by simp[Zk]) (by simp[Qc])) ?_
    simp[nth,rn,ht];refine ⟨by omega,?_⟩
    rw[<- hG];refine ⟨⟨_,rfl,by simp[Uw,trA,ht,rn,rnL,nth]⟩,fun q hq=>?_,by simp⟩
    simp only[Vu,trO,ht,if_true,if_false,QKv,QKs,QKx,reduceCtorEq,QKq,QKu,or_false] at hq;rcases hq with rfl | rfl | rfl | rfl | rfl<;>simp[rnO,nth,qK,emb,Qc]
theorem J7 (h:Qf) (hs:QP h):QU Tryz.prog K 10 [.iv (hoV h)] [] [] (.agg (qT 0 h)) (WY 0 h):=by
 have g24:=QuW hK h.proof hs.proof;have g25:=QuV hK h.pull hs.rods hs.reads;have hsr:=hs.rods;have hsx:=hs.reads;cases ht:h.proof.trials with
 | nil =>
   refine Q1 [6000,6001,6003,6007,6009,9003,9004] [] [] [] Qp4.p (by simp[Qtx]) (by simp) ?_ ?_ ?_ ?_
   ·intro q hq
    simp only[WY,Vu,trO,ht,if_true,if_false,QKv,QKs,QKx,reduceCtorEq,QKq,QKu,or_false] at hq;rcases hq with rfl | rfl | rfl | rfl | rfl | rfl<;>exact ⟨by simp,rfl,Xn _ _ _ _ _⟩
   ·simp[qT,WY,Uw,Vu,trA,trO,ht,clA,clAL]
   ·simp
   ·generalize hG:Qg2 Qtx.res _ _ _ _=G
    simp only[Uw,Vu,trA,trO,ht,if_true,if_false,reduceCtorEq] at g24;simp[Qtx];refine Qn g24 (by simp[nth,rn]) (Zd (by decide) rfl (by simp[Zk]) (by simp[Qc])) ?_
    simp[nth,rn,rnL];refine Qn g25 (by simp[nth,rn]) (Zd (by decide) rfl (by simp[Zk]) (by simp[Qc])) ?_
    simp[nth,rn,rnL];rw[<- hG];refine ⟨⟨_,rfl,by simp[qT,Uw,trA,ht,rn,rnL,nth]⟩,fun q hq=>?_,by simp⟩
    simp only[WY,Vu,trO,ht,if_true,if_false,QKv,QKs,QKx,reduceCtorEq,QKq,QKu,or_false] at hq;rcases hq with rfl | rfl | rfl | rfl | rfl | rfl<;>simp[rnO,nth,qK,emb,Qc]
 | cons t r =>
   refine Q1 [6000,6001,6003,6007,6009,9003,9004] [] [] [] Qp4.p (by simp[Qtx]) (by simp) ?_ ?_ ?_ ?_
   ·intro q hq
    simp only[WY,Vu,trO,ht,if_true,if_false,QKv,QKs,QKx,reduceCtorEq,QKq,QKu,or_false] at hq;rcases hq with rfl | rfl | rfl | rfl | rfl | rfl | rfl<;>exact ⟨by simp,rfl,Xn _ _ _ _ _⟩
   ·simp[qT,WY,Uw,Vu,trA,trO,ht,clA,clAL]
   ·simp
   ·generalize hG:Qg2 Qtx.res _ _ _ _=G
    simp only[Uw,Vu,trA,trO,ht,if_true,if_false,reduceCtorEq] at g24;simp[Qtx];refine Qn g24 (by simp[nth,rn]) (Zd (by decide) rfl (by simp[Zk]) (by simp[Qc])) ?_
    simp[nth,rn,rnL];refine Qn g25 (by simp[nth,rn]) (Zd (by decide) rfl (by simp[Zk]) (by simp[Qc])) ?_
    simp[nth,rn,rnL];rw[<- hG];refine ⟨⟨_,rfl,by simp[qT,Uw,trA,ht,rn,rnL,nth]⟩,fun q hq=>?_,by simp⟩
    simp only[WY,Vu,trO,ht,if_true,if_false,QKv,QKs,QKx,reduceCtorEq,QKq,QKu,or_false] at hq;rcases hq with rfl | rfl | rfl | rfl | rfl | rfl | rfl<;>simp[rnO,nth,qK,emb,Qc]
omit hK
theorem WJ (L:List (List IV)) (a b c d e f g:IV):emb L++[[.iv a,.iv b,.iv c,.iv d,.iv e,.iv f,.iv g]]=emb (L++[[a,b,c,d,e,f,g]]):=by simp[emb]
theorem Quy (h:Qf):imm (Qc (WY 0 h)) 40 (.agg (qT 0 h))=some (.agg (hoC h)):=by
 cases ht:h.proof.trials<;>simp[qT,Uw,trA,WY,Vu,trO,ht,imm,imms,immss,Qc,QKi]
include hK
theorem Qdc (h:Qf) (hs:QP h):Ev.Good Tryz.prog K 10 [hoV h] (hoV h) :=
 J8 (xs:=[hoV h]) hK (J7 hK h hs) (Quy h)
theorem Qgo (h:Qf) (a b c d:Int) (hs:QP h):Ev.Good Tryz.prog K 120 [hoV h,.str [119,101,108,100],Qt [a,b,c,d]] (.tup [hoV (Qi h ⟨1,a,b,c,d⟩),.bool true]):=by
 refine Qb hK VV (by simp) ?_
 have g10:=J7 hK h hs;obtain ⟨⟨b1,b2,b3,b4,b5⟩,b6,b7⟩:=hs;cases ht:h.proof.trials with
 | nil =>
   simp only[qT,WY,Uw,Vu,trA,trO,ht,if_true,if_false,reduceCtorEq,QKv,QKs,QKx] at g10;simp;refine Qn g10 (by simp[nth,rn]) (Zd (by decide) rfl (by simp[Zk]) (by simp[Qc])) ?_
   simp[nth,rn,rnL];simp[Qi,ht,QKi];omega
 | cons t r =>
   simp only[qT,WY,Uw,Vu,trA,trO,ht,if_true,if_false,reduceCtorEq,QKv,QKs,QKx] at g10;rw[ht] at b5;simp at b5;simp;refine Qn g10 (by simp[nth,rn]) (Zd (by decide) rfl (by simp[Zk]) (by simp[Qc])) ?_
   simp[nth,rn,rnL];simp[Qi,ht,QKi];omega
theorem Qii (h:Qf) (a b:Int) (hs:QP h):Ev.Good Tryz.prog K 120 [hoV h,.str [99,117,116],Qt [a,b]] (.tup [hoV (Qi h ⟨2,a,b,0,0⟩),.bool true]):=by
 refine Qb hK VV (by simp) ?_
 have g10:=J7 hK h hs;obtain ⟨⟨b1,b2,b3,b4,b5⟩,b6,b7⟩:=hs;cases ht:h.proof.trials with
 | nil =>
   simp only[qT,WY,Uw,Vu,trA,trO,ht,if_true,if_false,reduceCtorEq,QKv,QKs,QKx] at g10;simp;refine Qn g10 (by simp[nth,rn]) (Zd (by decide) rfl (by simp[Zk]) (by simp[Qc])) ?_
   simp[nth,rn,rnL];simp[Qi,ht,QKi];omega
 | cons t r =>
   simp only[qT,WY,Uw,Vu,trA,trO,ht,if_true,if_false,reduceCtorEq,QKv,QKs,QKx] at g10;rw[ht] at b5;simp at b5;simp;refine Qn g10 (by simp[nth,rn]) (Zd (by decide) rfl (by simp[Zk]) (by simp[Qc])) ?_
   simp[nth,rn,rnL];simp[Qi,ht,QKi];omega
theorem Qgq (h:Qf) (hs:QP h):Ev.Good Tryz.prog K 120 [hoV h,.str [116,117,114,110],Qt []] (.tup [hoV (Qi h ⟨3,0,0,0,0⟩),.bool true]):=by
 refine Qb hK VV (by simp) ?_
 have g10:=J7 hK h hs;obtain ⟨⟨b1,b2,b3,b4,b5⟩,b6,b7⟩:=hs;cases ht:h.proof.trials with
 | nil =>
   simp only[qT,WY,Uw,Vu,trA,trO,ht,if_true,if_false,reduceCtorEq,QKv,QKs,QKx] at g10;simp;refine Qn g10 (by simp[nth,rn]) (Zd (by decide) rfl (by simp[Zk]) (by simp[Qc])) ?_
   simp[nth,rn,rnL];simp[Qi,ht,QKi];omega
 | cons t r =>
   simp only[qT,WY,Uw,Vu,trA,trO,ht,if_true,if_false,reduceCtorEq,QKv,QKs,QKx] at g10;rw[ht] at b5;simp at b5;simp;refine Qn g10 (by simp[nth,rn]) (Zd (by decide) rfl (by simp[Zk]) (by simp[Qc])) ?_
   simp[nth,rn,rnL];simp[Qi,ht,QKi];omega
theorem Qeo (h:Qf) (a b c:Int) (hs:QP h):Ev.Good Tryz.prog K 120 [hoV h,.str [112,114,111,118,101],Qt [a,b,c]] (.tup [hoV (Za h ⟨a,b,c⟩),.bool true]):=by
 refine Qb hK VV (by simp) ?_
 have g10:=J7 hK h hs;obtain ⟨⟨b1,b2,b3,b4,b5⟩,b6,b7⟩:=hs;cases ht:h.proof.trials with
 | nil =>
   simp only[qT,WY,Uw,Vu,trA,trO,ht,if_true,if_false,reduceCtorEq,QKv,QKs,QKx] at g10;simp;refine Qn g10 (by simp[nth,rn]) (Zd (by decide) rfl (by simp[Zk]) (by simp[Qc])) ?_
   simp[nth,rn,rnL];simp[Za,ht,QKi];omega
 | cons t r =>
   simp only[qT,WY,Uw,Vu,trA,trO,ht,if_true,if_false,reduceCtorEq,QKv,QKs,QKx] at g10;rw[ht] at b5;simp at b5;simp;refine Qn g10 (by simp[nth,rn]) (Zd (by decide) rfl (by simp[Zk]) (by simp[Qc])) ?_
   simp[nth,rn,rnL];simp[Za,ht,QKi];omega
theorem Qih (h:Qf) (a b c d e:Int) (hs:QP h):Ev.Good Tryz.prog K 120 [hoV h,.str [115,101,101],Qt [a,b,c,d,e]] (.tup [hoV (Zj h ⟨a,b,c,d,e⟩),.bool true]):=by
 refine Qb hK VV (by simp) ?_
 have g10:=J7 hK h hs;obtain ⟨⟨b1,b2,b3,b4,b5⟩,b6,b7⟩:=hs;cases ht:h.proof.trials with
 | nil =>
   simp only[qT,WY,Uw,Vu,trA,trO,ht,if_true,if_false,reduceCtorEq,QKv,QKs,QKx] at g10;simp;refine Qn g10 (by simp[nth,rn]) (Zd (by decide) rfl (by simp[Zk]) (by simp[Qc])) ?_
   simp[nth,rn,rnL];simp[Zj,ht,QKi];omega
 | cons t r =>
   simp only[qT,WY,Uw,Vu,trA,trO,ht,if_true,if_false,reduceCtorEq,QKv,QKs,QKx] at g10;rw[ht] at b5;simp at b5;simp;refine Qn g10 (by simp[nth,rn]) (Zd (by decide) rfl (by simp[Zk]) (by simp[Qc])) ?_
   simp[nth,rn,rnL];simp[Zj,ht,QKi];omega
theorem QbK (h:Qf) (a b c d:Int) (hs:QP h):Ev.Good Tryz.prog K 120 [hoV h,.str [98,97,108,97,110,99,101],Qt [a,b,c,d]] (.tup [hoV (XF h ⟨a,b,c,d⟩),.bool true]):=by
 refine Qb hK VV (by simp) ?_
 have g10:=J7 hK h hs;obtain ⟨⟨b1,b2,b3,b4,b5⟩,b6,b7⟩:=hs;cases ht:h.proof.trials with
 | nil =>
   simp only[qT,WY,Uw,Vu,trA,trO,ht,if_true,if_false,reduceCtorEq,QKv,QKs,QKx] at g10;simp;refine Qn g10 (by simp[nth,rn]) (Zd (by decide) rfl (by simp[Zk]) (by simp[Qc])) ?_
   simp[nth,rn,rnL];simp[XF,ht,QKi];omega
 | cons t r =>
   simp only[qT,WY,Uw,Vu,trA,trO,ht,if_true,if_false,reduceCtorEq,QKv,QKs,QKx] at g10;rw[ht] at b5;simp at b5;simp;refine Qn g10 (by simp[nth,rn]) (Zd (by decide) rfl (by simp[Zk]) (by simp[Qc])) ?_
   simp[nth,rn,rnL];simp[XF,ht,QKi];omega
theorem Qgr (h:Qf) (a b c d e f g:Int) (hs:QP h):Ev.Good Tryz.prog K 120 [hoV h,.str [114,101,97,100],Qt [a,b,c,d,e,f,g]] (.tup [hoV (ZQ h ⟨a,b,c,d,e,f,g⟩),.bool true]):=by
 refine Qb hK VV (by simp) ?_
 have g10:=J7 hK h hs;obtain ⟨⟨b1,b2,b3,b4,b5⟩,b6,b7⟩:=hs;cases ht:h.proof.trials with
 | nil =>
   simp only[qT,WY,Uw,Vu,trA,trO,ht,if_true,if_false,reduceCtorEq,QKv,QKs,QKx] at g10;simp;refine Qn g10 (by simp[nth,rn]) (Zd (by decide) rfl (by simp[Zk]) (by simp[Qc])) ?_
   simp[nth,rn,rnL,WJ];simp[ZQ,ht,WJ,QKi];omega
 | cons t r =>
   simp only[qT,WY,Uw,Vu,trA,trO,ht,if_true,if_false,reduceCtorEq,QKv,QKs,QKx] at g10;rw[ht] at b5;simp at b5;simp;refine Qn g10 (by simp[nth,rn]) (Zd (by decide) rfl (by simp[Zk]) (by simp[Qc])) ?_
   simp[nth,rn,rnL,WJ];simp[ZQ,ht,WJ,QKi];omega
theorem Qgp (h:Qf) (hs:QP h) (hu:(h.proof.chain.deeds.getLast?.map (·.what))=some 4->h.proof.trials≠[]):Ev.Good Tryz.prog K 120 [hoV h,.str [117,110,100,111],Qt []] (.tup [hoV (if h.proof.chain.deeds=[] then h else ZT h),.bool (decide (¬ h.proof.chain.deeds=[]))]):=by
 refine Qb hK VV (by simp) ?_
 have g10:=J7 hK h hs;obtain ⟨⟨b1,b2,b3,b4,b5⟩,b6,b7⟩:=hs;by_cases hd:h.proof.chain.deeds=[]
 ·cases ht:h.proof.trials with
  | nil =>
    simp only[qT,WY,Uw,Vu,trA,trO,ht,hd,if_true,if_false,reduceCtorEq,QKv,QKs,QKx] at g10;simp;refine Qn g10 (by simp[nth,rn,hd]) (Zd (by decide) rfl (by simp[Zk]) (by simp[Qc])) ?_
    simp[nth,rn,rnL]
    grind
  | cons t r =>
    simp only[qT,WY,Uw,Vu,trA,trO,ht,hd,if_true,if_false,reduceCtorEq,QKv,QKs,QKx] at g10;simp;refine Qn g10 (by simp[nth,rn,hd]) (Zd (by decide) rfl (by simp[Zk]) (by simp[Qc])) ?_
    simp[nth,rn,rnL]
    grind
 ·obtain ⟨D,d,hD⟩:∃ D d,h.proof.chain.deeds=D++[d]:=⟨_,_,(QLn hd).symm⟩
  rw[hD] at b1;simp at b1;cases ht:h.proof.trials with
  | nil =>
    have h4:¬ d.what=4:=fun e=>hu (by rw[hD];simp[e]) ht
    simp only[qT,WY,Uw,Vu,trA,trO,ht,if_true,if_false,reduceCtorEq,QKv,QKs,QKx] at g10;simp;refine Qn g10 (by simp[nth,rn]) (Zd (by decide) rfl (by simp[Zk]) (by simp[Qc])) ?_
    simp[nth,rn,rnL];simp[hd,hD,ht,h4,ZT,QKi];omega
  | cons t r =>
    rw[ht] at b5;simp at b5
    have tk:∀ x:List IV,List.take D.length (List.take (D.length+1) (D.map dC++[x]))=D.map dC:=fun x=>by
     grind
    have htn:((r.length:Int)+1-1).toNat=r.length:=by omega
    by_cases h4:d.what=4
    ·simp only[qT,WY,Uw,Vu,trA,trO,ht,if_true,if_false,reduceCtorEq,QKv,QKs,QKx] at g10
     simp;refine Qn g10 (by simp[nth,rn]) (Zd (by decide) rfl (by simp[Zk]) (by simp[Qc])) ?_
     simp[nth,rn,rnL];simp[hd,hD,ht,h4,ZT,QKi,List.dropLast_eq_take,tk];omega
    ·simp only[qT,WY,Uw,Vu,trA,trO,ht,if_true,if_false,reduceCtorEq,QKv,QKs,QKx] at g10
     simp;refine Qn g10 (by simp[nth,rn]) (Zd (by decide) rfl (by simp[Zk]) (by simp[Qc])) ?_
     simp[nth,rn,rnL];simp[hd,hD,ht,h4,ZT,QKi];omega
omit hK
def QD8:Qcf->FuncId
 | .weld=>71 | .cut=>72 | .turn=>73 | .prove=>74 | .undo=>75 | .see=>76 | .balance=>77 | .read=>78
 | .who=>79 | .wher=>82 | .first=>84 | .pulls=>87 | .broke=>90 | .loads=>92 | .failures=>94 | .condemned=>96 | .proved=>99 | .opn=>101 | .good=>103 | .worth=>105 | .weight=>107 | .stretch=>109 | .best=>111 | .holds=>113 | .rods=>115
def QlX (p:Nat × Qcf):IV:=.agg [.int .i64 (p.1:Nat),.fn (QD8 p.2)]
def Qfc:List (MK × IV):=ZF.map fun p=>(.str p.1,QlX p.2)
theorem Qbw {k:MK} {y:IV} (h:k.kind=none):∀ {l:List (MK × IV)},Zz none l->Zz none (mins k y l)
 | [],_=>⟨h,trivial⟩
 | p::r,hl=>by
   unfold mins;split
   ·exact ⟨h,hl.2⟩
   ·exact ⟨hl.1,Qbw h hl.2⟩
include hK
theorem QB2:Ev.Good Tryz.prog K 29 [] (.map Qfc):=by
 refine Qb hK QDc (by simp) ?_
 simp
 repeat' first | exact trivial | apply And.intro | apply Qbw rfl | kernel_rfl
omit hK
def arV:Qcf->Nat
 | .weld=>4 | .cut=>2 | .turn=>0 | .prove=>3 | .undo=>0 | .see=>5 | .balance=>4 | .read=>7
 | .who=>1 | .wher=>1 | .first=>0 | .pulls=>2 | .broke=>1 | .loads=>1 | .failures=>0 | .condemned=>0 | .proved=>1 | .opn=>0 | .good=>0 | .worth=>0 | .weight=>0 | .stretch=>0 | .best=>0 | .holds=>1 | .rods=>1
theorem Qp9:∀ p∈ZF,p.2.1=arV p.2.2:=by decide
theorem QmU {w:Txt} {n:Nat} {v:Qcf} (h:Vw w=some (n,v)):n=arV v:=by
 rcases W4 w with ⟨p,hp,rfl⟩ | hn
 ·rw[Xy p hp] at h
  injection h with h
  have:=Qp9 p hp
  grind
 ·rw[JQ hn] at h
  cases h
theorem QlW (w:Txt):QA (.str w) Qfc=(Vw w).map QlX:=by
 have key:∀ l:List (Txt × Nat × Qcf),QA (.str w) (l.map fun p=>(MK.str p.1,QlX p.2))=((l.find? fun p=>p.1==w).map (·.2)).map QlX:=by
  intro l
  induction l with
  | nil=>rfl
  | cons p r ih =>
    simp only[QKF,QA,List.find?_cons]
    grind
 exact key ZF
theorem ZZ {h h':Qf} {v:Qcf} {l:List Int} (hv:Z6 v=true) (hc:Vf h v l=some h'):doV h v l=(chT h',chH h h'):=by
 unfold doV chT chH
 grind
theorem Zv {h:Qf} {v:Qcf} {l:List Int} (hv:Z6 v=false):doV h v l=(Z4 h v l,h):=by
 unfold doV;rw[hv];rfl
theorem ZY {h h':Qf} (ho:okH h) (h1:h'.proof.chain.deeds.length<=h.proof.chain.deeds.length+1) (h2:h'.proof.chain.sights.length<=h.proof.chain.sights.length+1) (h3:h'.proof.machine.levers.length<=h.proof.machine.levers.length)
  (h4:h'.proof.machine.bals.length<=h.proof.machine.bals.length+1) (h5:h'.proof.trials.length<=h.proof.trials.length+1) (h6:h'.pull.rods.length<=h.pull.rods.length) (h7:h'.pull.reads.length<=h.pull.reads.length+1):QP h':=by
 have q1:=ho.1.chain.len;have q2:=ho.1.chain.slen;have q3:=ho.1.machine.len;have q4:=ho.1.machine.blen;have q5:=ho.1.many;have q6:=QcS h.proof.chain.deeds;have q7:=ho.2.rlen;have q8:=ho.2.xlen;exact ⟨⟨by omega,by omega,by omega,by omega,by omega⟩,by omega,by omega⟩
theorem QaM {h:Qf} (ho:okH h) (hl:(h.proof.chain.deeds.getLast?.map (·.what))=some 4):h.proof.trials≠[]:=by
 rw[QKm] at hl;obtain ⟨d,hd,h4⟩:=hl
 obtain ⟨D,hD⟩:∃ D,h.proof.chain.deeds=D++[d]:=by
  have hne:h.proof.chain.deeds≠[]:=fun e=>by grind
  refine ⟨h.proof.chain.deeds.dropLast,?_⟩;have:=List.getLast?_eq_some_getLast hne;rw[hd] at this;injection this with this
  rw[this];exact (QLn hne).symm
 have hm:=ho.1.many;intro e;rw[e,hD] at hm;unfold pv at hm;rw[J6] at hm;simp[Xr,Xx,h4] at hm
theorem QaN (h:Qf):Vf h .undo []=if h.proof.chain.deeds=[] then none else some (ZT h):=by
 unfold Vf ZT;cases hd:h.proof.chain.deeds.getLast? with
 | none =>
   have:h.proof.chain.deeds=[]:=by simpa using hd
   simp[this]
 | _=>grind
theorem Qq0 (h:Qf) (ho:okH h) (v:Qcf) (l:List Int) (hf:Z6 v=false->Y4 h) (hl:l.length=arV v) :
  QU Tryz.prog KW (QD8 v) (.loc 0 0::[Qt l].map .iv) (QT h) [0] (.iv (.str (doV h v l).1)) (QT (doV h v l).2):=by
 have hs:=Qg ho;have l0:∀ l:List Int,l.length=0->l=[]:=fun l h=>QKo h
 have l1:∀ l:List Int,l.length=1->∃ a,l=[a]:=fun l h=>by
  match l,h with
  | [a],_=>exact ⟨a,rfl⟩
 have l2:∀ l:List Int,l.length=2->∃ a b,l=[a,b]:=fun l h=>by
  match l,h with
  | [a,b],_=>grind
 cases v with
 | weld =>
   match l,hl with
   | [a,b,c,d],_ =>
     rw[ZZ (h':=Qi h ⟨1,a,b,c,d⟩) rfl rfl];exact QuR hKW h a b c d hs (ZY ho (by simp[Qi]) (by simp[Qi]) (by simp[Qi]) (by simp[Qi]) (by simp[Qi]) (by simp[Qi]) (by simp[Qi]))
 | cut =>
   match l,hl with
   | [a,b],_ =>
     rw[ZZ (h':=Qi h ⟨2,a,b,0,0⟩) rfl rfl];exact QuQ hKW h a b hs (ZY ho (by simp[Qi]) (by simp[Qi]) (by simp[Qi]) (by simp[Qi]) (by simp[Qi]) (by simp[Qi]) (by simp[Qi]))
 | turn =>
   rw[l0 l hl,ZZ (h':=Qi h ⟨3,0,0,0,0⟩) rfl rfl];exact QuP hKW h hs (ZY ho (by simp[Qi]) (by simp[Qi]) (by simp[Qi]) (by simp[Qi]) (by simp[Qi]) (by simp[Qi]) (by simp[Qi]))
 | prove =>
   match l,hl with
   | [a,b,c],_ =>
     rw[ZZ (h':=Za h ⟨a,b,c⟩) rfl rfl];exact QuO hKW h a b c hs (ZY ho (by simp[Za]) (by simp[Za]) (by simp[Za]) (by simp[Za]) (by simp[Za]) (by simp[Za]) (by simp[Za]))
 | undo =>
   rw[l0 l hl];have hu:=QaN h;have hs':QP (ZT h):=ZY ho (by simp[ZT];omega) (by simp[ZT]) (by simp[ZT]) (by simp[ZT]) (by simp only[ZT];grind) (by simp[ZT]) (by simp[ZT])
   have hg:=QuN hKW h (QaM ho) hs hs';by_cases hne:h.proof.chain.deeds=[]
   ·rw[if_pos hne] at hu
    rw[if_pos hne,if_pos hne] at hg
    have e:doV h .undo []=(tNo,h):=by
     unfold doV;rw[hu];rfl
    rw[e];exact hg
   ·rw[if_neg hne] at hu
    rw[if_neg hne,if_neg hne] at hg;rw[ZZ (h':=ZT h) rfl hu];exact hg
 | see =>
   match l,hl with
   | [a,b,c,d,e],_ =>
     rw[ZZ (h':=Zj h ⟨a,b,c,d,e⟩) rfl rfl];exact QuM hKW h a b c d e hs (ZY ho (by simp[Zj]) (by simp[Zj]) (by simp[Zj]) (by simp[Zj]) (by simp[Zj]) (by simp[Zj]) (by simp[Zj]))
 | balance =>
   match l,hl with
   | [a,b,c,d],_ =>
     rw[ZZ (h':=XF h ⟨a,b,c,d⟩) rfl rfl];exact QuL hKW h a b c d hs (ZY ho (by simp[XF]) (by simp[XF]) (by simp[XF]) (by simp[XF]) (by simp[XF]) (by simp[XF]) (by simp[XF]))
 | read =>
   match l,hl with
   | [a,b,c,d,e,f,g],_ =>
     rw[ZZ (h':=ZQ h ⟨a,b,c,d,e,f,g⟩) rfl rfl];exact QuK hKW h a b c d e f g hs (ZY ho (by simp[ZQ]) (by simp[ZQ]) (by simp[ZQ]) (by simp[ZQ]) (by simp[ZQ]) (by simp[ZQ]) (by simp[ZQ]))
 | who=>obtain ⟨a,rfl⟩:=l1 l hl;rw[Zv rfl];exact QuJ h a ho (hf rfl)
 | wher=>obtain ⟨a,rfl⟩:=l1 l hl;rw[Zv rfl];exact QuI h a ho (hf rfl)
 | first=>rw[l0 l hl,Zv rfl];exact QuH h ho (hf rfl)
 | pulls=>obtain ⟨a,b,rfl⟩:=l2 l hl;rw[Zv rfl];exact QuG h a b ho (hf rfl)
 | broke=>obtain ⟨a,rfl⟩:=l1 l hl;rw[Zv rfl];exact QuF h a ho (hf rfl)
 | loads=>obtain ⟨a,rfl⟩:=l1 l hl;rw[Zv rfl];exact QuE h a ho (hf rfl)
 | failures=>rw[l0 l hl,Zv rfl];exact QuD h ho (hf rfl)
 | condemned=>rw[l0 l hl,Zv rfl];exact QuC h ho (hf rfl)
 | proved=>obtain ⟨a,rfl⟩:=l1 l hl;rw[Zv rfl];exact QuB h a ho (hf rfl)
 | opn=>rw[l0 l hl,Zv rfl];exact Qrh h ho (hf rfl)
 | good=>rw[l0 l hl,Zv rfl];exact Qrg h ho (hf rfl)
 | worth=>rw[l0 l hl,Zv rfl];exact Qrf h ho (hf rfl)
 | weight=>rw[l0 l hl,Zv rfl];exact Qre h ho (hf rfl)
 | stretch=>rw[l0 l hl,Zv rfl];exact Qrd h ho (hf rfl)
 | best=>rw[l0 l hl,Zv rfl];exact Qrc h ho (hf rfl)
 | holds=>obtain ⟨a,rfl⟩:=l1 l hl;rw[Zv rfl];exact Qrb h a ho (hf rfl)
 | rods=>obtain ⟨a,rfl⟩:=l1 l hl;rw[Zv rfl];exact Qra h a ho (hf rfl)
theorem Qx5:ZS Tryz.prog 30 c30 [0]:=⟨_,Tryz.func30,by kernel_rfl⟩
theorem Qph:∀ v:Qcf,callee Tryz.prog (QD8 v)=true:=by
 intro v;cases v<;>kernel_rfl
theorem QhG:Zz none Qfc:=by
 have key:∀ l:List (Txt × Nat × Qcf),Zz none (l.map fun p=>(MK.str p.1,QlX p.2)):=by
  intro l
  induction l with
  | nil=>trivial
  | cons p r ih=>exact ⟨rfl,ih⟩
 exact key ZF
theorem QuU (h:Qf) (ho:okH h) (t:Txt) (hf:∀ v l,XA t=some (v,l)->Z6 v=false->Y4 h) (ht:t.length<=1000) :
  QU Tryz.prog KW 30 (.loc 0 0::[.map Qfc,.str t].map .iv) (QT h) [0] (.iv (.str (Z2 h t).1)) (QT (Z2 h t).2):=by
 refine Qv Qx5 rfl (by simp[c30]) ?_
 generalize hG:U1 6 (Z2 h t).1 (Z2 h t).2=G;have g1:=QwG t ht;have hsl:=QdK t;have hwl:=qA t;cases hs:spl t with
 | nil=>exact absurd hs (Qm1 t [])
 | cons w ws =>
   rw[hs] at g1 hsl hwl;simp at hsl;have hfd:=QlW w;simp[c30];refine cK (by simpa using g1) ?_
   simp;refine ⟨QhG,?_⟩;cases hv:Vw w with
   | none =>
     have hL:Z2 h t=(Qfe,h):=by
      simp[Z2,XA,hs,hv]
     rw[hv] at hfd;simp only[Option.map_none] at hfd;rw[hL] at hG;simp[hfd];rw[<- hG];exact QV (by simp[Ev.look,Qfe]) (by simp[Ev.look]) (by simp[Qc])
   | some p =>
     obtain ⟨n,v⟩:=p;rw[hv] at hfd;simp only[QLI] at hfd;have har:=QmU hv;simp[hfd,QlX];have h7:n<=7:=by rw[har];cases v<;>decide
     intro _;refine ⟨by omega,fun hq=>?_,fun hq=>?_⟩
     ·have hn:¬ ws.length=n:=fun e=>hq (by omega)
      have hL:Z2 h t=(Qfe,h):=by
       simp[Z2,XA,hs,hv,hn]
      rw[hL] at hG;rw[<- hG];exact QV (by simp[Ev.look,Qfe]) (by simp[Ev.look]) (by simp[Qc])
     ·have hn:ws.length=n:=by omega
      refine ⟨by omega,fun _ _=>?_⟩
      refine Qe (fun i=>[(0,AV.loc 0 0),(8,AV.loc 8 0),(10,AV.aref 10 ((X1 (ws.take i)).getD []).length),(36,AV.iv (.sl 1 (ws.map fun s=>[IV.str s]))),(37,AV.iv (.int .i64 ws.length)),(38,AV.iv (.int .i64 (i:Nat)))])
       (fun i=>[(0,AO.box ((hoC h).map AV.iv)),(8,AO.box [AV.iv (.int .i64 n),AV.iv (.fn (QD8 v))]),(10,AO.arr 3 1 (emb (((X1 (ws.take i)).getD []).map fun n=>[.int .i64 n])) 0)]) ws.length (fun i=>(X1 (ws.take i)).isSome=true) (by simp[X1]) ?_ ?_
      ·intro hall
       rw[QKn] at hall;obtain ⟨l,hl⟩:=QKN.1 hall;have hll:=YL hl
       have hL:Z2 h t=doV h v l:=by
        simp[Z2,XA,hs,hv,hn,hl]
       rw[hL] at hG;have hd:=Qq0 h ho v l (fun hc=>hf v l (by simp[XA,hs,hv,hn,hl]) hc) (by omega)
       rw[Qa QpO.eq_1];simp[hl,q9];refine ⟨Qph v,Qn hd (by simp[nth,rn]) (Ya (by simp[Qc])) ?_⟩
       simp[nth,rn];rw[<- hG];exact QV rfl rfl (by simp[Qc])
      ·intro i hi hQ ih
       obtain ⟨l,hl⟩:=QKN.1 hQ;have hll:=YL hl;rw[List.length_take] at hll;have hwi:=hwl ws[i] (by simp)
       obtain ⟨m,hm,hg⟩:=QwF ws[i] (by omega)
       have hst:=qR (ws.take i) ws[i];rw[<- QKf hi,hl] at hst;rw[Qa QpO.eq_1];cases hx:Qe2 ws[i] with
       | none =>
         have hno:X1 ws=none:=by
          cases hq:X1 ws with
          | none=>rfl
          | some l' =>
            have:=Qbj hq ws[i] (by simp)
            grind
         have hL:Z2 h t=(Qfe,h):=by
          simp[Z2,XA,hs,hv,hn,hno]
         rw[hL] at hG;rw[hx] at hg;simp[hi,hl];refine cK (by simpa using hg) ?_
         simp;rw[<- hG];exact QV (by simp[Ev.look,Qfe]) (by simp[Ev.look]) (by simp[Qc])
       | some x =>
         rw[hx] at hg hst hm;have hmx:m=x:=by simpa using hm rfl
         subst hmx;simp only at hst;have ih:=ih (by rw[hst];rfl)
         rw[hst] at ih;simp[hi,hl] at ih |-;refine cK (by simpa using hg) ?_
         simp
         grind
theorem QwD (h:Qf) (ho:okH h) (p:Txt × Nat × Qcf) (hp:p∈ZF) (hv:Z6 p.2.2=true) (l:List Int) (hl:l.length=p.2.1) :
  Ev.Good Tryz.prog KW 120 [hoV h,.str p.1,Qt l] (.tup [hoV ((Vf h p.2.2 l).getD h),.bool (Vf h p.2.2 l).isSome]):=by
 have hs:=Qg ho;simp only[ZF,QKq,QKu,or_false] at hp;rcases hp with rfl | rfl | rfl | rfl | rfl | rfl | rfl | rfl | rfl | rfl | rfl | rfl | rfl | rfl | rfl | rfl | rfl | rfl | rfl | rfl | rfl | rfl | rfl | rfl | rfl
 ·match l,hl with
  | [a,b,c,d],_=>exact Qgo hKW h a b c d hs
 ·match l,hl with
  | [a,b],_=>exact Qii hKW h a b hs
 ·match l,hl with
  | [],_=>exact Qgq hKW h hs
 ·match l,hl with
  | [a,b,c],_=>exact Qeo hKW h a b c hs
 ·match l,hl with
  | [],_ =>
    have hg:=Qgp hKW h hs (QaM ho);have hc:=QaN h
    grind
 ·match l,hl with
  | [a,b,c,d,e],_=>exact Qih hKW h a b c d e hs
 ·match l,hl with
  | [a,b,c,d],_=>exact QbK hKW h a b c d hs
 ·match l,hl with
  | [a,b,c,d,e,f,g],_=>exact Qgr hKW h a b c d e f g hs
 all_goals cases hv
theorem QwE (h:Qf) (ho:okH h) (hf:Y4 h) (p:Txt × Nat × Qcf) (hp:p∈ZF) (hv:Z6 p.2.2=false) (l:List Int) (hl:l.length=p.2.1) :
  Ev.Good Tryz.prog KW 119 [hoV h,.str p.1,Qt l] (.str (Z4 h p.2.2 l)):=by
 simp only[ZF,QKq,QKu,or_false] at hp;have l0:∀ l:List Int,l.length=0->l=[]:=fun l h=>QKo h
 have l1:∀ l:List Int,l.length=1->∃ a,l=[a]:=fun l h=>by
  match l,h with
  | [a],_=>exact ⟨a,rfl⟩
 have l2:∀ l:List Int,l.length=2->∃ a b,l=[a,b]:=fun l h=>by
  match l,h with
  | [a,b],_=>grind
 rcases hp with rfl | rfl | rfl | rfl | rfl | rfl | rfl | rfl | rfl | rfl | rfl | rfl | rfl | rfl | rfl | rfl | rfl | rfl | rfl | rfl | rfl | rfl | rfl | rfl | rfl
 iterate 8 · cases hv
 ·obtain ⟨a,rfl⟩:=l1 l hl;exact Qij h a ho hf
 ·obtain ⟨a,rfl⟩:=l1 l hl;exact Qeq h a ho hf
 ·rw[l0 l hl];exact Qeu h ho hf
 ·obtain ⟨a,b,rfl⟩:=l2 l hl;exact Qer h a b ho hf
 ·obtain ⟨a,rfl⟩:=l1 l hl;exact Qev h a ho hf
 ·obtain ⟨a,rfl⟩:=l1 l hl;exact Qes h a ho hf
 ·rw[l0 l hl];exact Qac h ho hf
 ·rw[l0 l hl];exact qn h ho hf
 ·obtain ⟨a,rfl⟩:=l1 l hl;exact Qco h a ho hf
 ·rw[l0 l hl];exact Qgu h ho hf
 ·rw[l0 l hl];exact Qgv h ho hf
 ·rw[l0 l hl];exact Qep h ho hf
 ·rw[l0 l hl];exact Qcn h ho hf
 ·rw[l0 l hl];exact QbL h ho hf
 ·rw[l0 l hl];exact Qgw h ho hf
 ·obtain ⟨a,rfl⟩:=l1 l hl;exact Qet h a ho hf
 ·obtain ⟨a,rfl⟩:=l1 l hl;exact Qgt h a ho hf
theorem Qgx (h:Qf) (hs:QP h):Ev.Good Tryz.prog KW 11 [hoV h] (.int .i64 (Qqt h)):=by
 refine Qb hKW QDA (by simp) ?_
 have g26:=Qoi hKW h.proof hs.proof;have g27:=Qoe hKW h.pull hs.rods hs.reads;unfold Qqt okH;by_cases h1:OkP h.proof
 ·rw[if_pos h1] at g26
  simp[h1];refine cK (by simpa using g26) ?_
  simp;refine cK (by simpa using g27) ?_
  by_cases h2:OkU h.pull<;>simp[h2]
 ·rw[if_neg h1] at g26
  simp[h1];refine cK (by simpa using g26) ?_
  simp
theorem QcV {t:Txt} (h:(XN t).2.2=false):XA t=none:=by
 unfold XN at h;unfold XA;cases hs:spl t with
 | nil=>rfl
 | cons w ws =>
   rw[hs] at h;simp only at h |-;cases hn:X1 ws with
   | some l =>
     rw[hn] at h;have hll:=YL hn
     grind
   | _=>grind
theorem QcU {t:Txt} (h:(XN t).2.2=true):∃ p∈ZF,p.1=(XN t).1/\(XN t).2.1.length=p.2.1/\XA t=some (p.2.2,(XN t).2.1):=by
 unfold XN at h |-;unfold XA;cases hs:spl t with
 | cons w ws =>
   rw[hs] at h;simp only at h |-;cases hn:X1 ws with
   | some l =>
     rw[hn] at h;have hll:=YL hn;simp only[decide_eq_true_eq] at h;rcases W4 w with ⟨p,hp,rfl⟩ | hno
     ·rw[Xy p hp] at h |-
      grind
     ·rw[JQ hno] at h
      grind
   | _=>grind
 | _=>grind
theorem Qfg {h h':Qf} (ho:okH h) {v:Qcf} {l:List Int} (hc:Vf h v l=some h'):QP h':=by
 unfold Vf at hc;cases v<;>simp only at hc<;>try cases hc
 case undo =>
  split at hc
  ·cases hc
  ·injection hc with hc
   subst hc;exact ZY ho (by simp;omega) (by simp) (by simp) (by simp) (by grind) (by simp) (by simp)
 all_goals exact ZY ho (by simp[Qi]) (by simp[Qi]) (by simp[Qi]) (by simp[Qi]) (by simp[Qi]) (by simp[Qi]) (by simp[Qi])
theorem Qti (h:Qf) (ho:okH h) (t:Txt) (ht:t.length<=1000) (hf:∀ v l,XA t=some (v,l)->Z6 v=false->Y4 h):Ev.Good Tryz.prog KW 31 [hoV h,.str t] (.tup [.str (Z2 h t).1,hoV (Z2 h t).2]):=by
 refine Qb hKW QDb (by simp) ?_
 have g36:=Qth hKW t ht;unfold Z2;cases hp:(XN t).2.2 with
 | false =>
   rw[QcV hp];rw[hp] at g36;simp;refine cK (by simpa using g36) ?_
   simp[Qfe]
 | true =>
   obtain ⟨p,hpm,hw,hl,hv⟩:=QcU hp;have hf:=hf p.2.2 _ hv;rw[hv];rw[hp,<- hw] at g36;have g37:=Qtg hKW p.1;rw[Xy p hpm] at g37;simp only at g37;cases hc:Z6 p.2.2 with
   | false =>
     have g119:=QwE h ho (hf hc) p hpm hc _ hl;rw[hc] at g37;simp only;rw[Zv hc];generalize (XN t).2.1=l at *;generalize p.1=w at *;simp;refine cK (by simpa using g36) ?_
     simp;refine cK (by simpa using g37) ?_
     simp;refine cK (by simpa using g119) ?_
     simp
   | true =>
     have g120:=QwD h ho p hpm hc _ hl;rw[hc] at g37;simp only;unfold doV;rw[hc,if_pos rfl];cases hcv:Vf h p.2.2 (XN t).2.1 with
     | none =>
       rw[hcv] at g120;generalize (XN t).2.1=l at *;generalize p.1=w at *;simp;refine cK (by simpa using g36) ?_
       simp;refine cK (by simpa using g37) ?_
       simp;refine cK (by simpa using g120) ?_
       simp[tNo]
     | some h' =>
       have g11:=Qgx h' (Qfg ho hcv);rw[hcv] at g120;unfold Qqt at g11;generalize (XN t).2.1=l at *;generalize p.1=w at *;simp;refine cK (by simpa using g36) ?_
       simp;refine cK (by simpa using g37) ?_
       simp;refine cK (by simpa using g120) ?_
       simp;refine cK (by simpa using g11) ?_
       by_cases hk:okH h'<;>simp[hk,tNo,QEx]
def h0:Qf:=⟨⟨⟨[],[],0⟩,⟨[],0,0,0,[],0⟩,[],0,0⟩,⟨0,0,0,[],[],0⟩⟩
noncomputable def Qfy (h:Qf) (s:List Txt):List Txt:=if okH h then (if 40<s.length then [] else Xd h s s.length) else []
noncomputable def QaY (h:Qf) (s:List Txt):Qf:=if okH h then (if 40<s.length then h0 else Qs h s s.length) else h0
theorem Qgs (h:Qf) (s:List Txt) (hs:QP h) (hl:s.length<=100) (hw:okH h->s.length<=40->∀ t∈s,t.length<=1000) (hf:okH h->s.length<=40->∀ i (hi:i<s.length) v l,XA s[i]=some (v,l)->Z6 v=false->Y4 (Qs h s i)) :
  Ev.Good Tryz.prog KW 12 [hoV h,strs s] (.tup [strs (Qfy h s),hoV (QaY h s),.int .i64 (Qnd h s)]):=by
 refine Qb hKW QDz (by simp) ?_
 have g9:=QuX hKW h hs;unfold Qqt at g9;generalize hG:Qkk c12.res (.tup [strs (Qfy h s),hoV (QaY h s),.int .i64 (Qnd h s)])=G;unfold Qfy QaY Qnd at hG;by_cases ho:okH h
 ·rw[if_pos ho] at g9 hG hG hG
  simp[c12];refine cK (by simpa using g9) ?_
  by_cases h40:40<s.length
  ·have h40':(40:Int)<s.length:=by omega
   rw[if_pos h40] at hG hG hG;simp[h40'];rw[<- hG];intro _;simp[c12,h0]
  ·have h40':¬ (40:Int)<s.length:=by omega
   rw[if_neg h40] at hG hG hG;have g28:Ev.Good Tryz.prog KW 28 [hoV h] (.agg (hoC h)):=J8 (xs:=[hoV h]) hKW (Qn0 hKW h hs) (by simp[Qc])
   have g29:=QB2 hKW;simp[h40'];intro _;refine cK (by simpa using g28) ?_
   simp;refine cK (by simpa using g29) ?_
   simp;intro _;have h1000:=hw ho (by omega)
   have hfew:=hf ho (by omega)
   refine VI (fun i=>[(4,AV.aref 4 (Xd h s i).length),(5,AV.loc 5 0),(8,AV.loc 25 0),(9,AV.iv (IV.map Qfc)),(27,AV.iv (strs s)),(28,AV.iv (.int .i64 s.length)),(29,AV.iv (.int .i64 (i:Nat)))])
    (fun i=>[(4,AO.arr 9 1 (emb ((Xd h s i).map fun t=>[.str t])) 0),(5,AO.box ((hoC h0).map AV.iv)),(25,AO.box ((hoC (Qs h s i)).map AV.iv))]) s.length ?_ ?_
   ·rw[Qa Qp3.eq_1]
    simp;rw[<- hG];simp[c12]
   ·intro i hi ih
    have hd:=QuU (Qs h s i) (Jw ho i) s[i] (hfew i hi) (h1000 _ (QKj hi));rw[<- Zt h s i hi] at hd;have hst:=Xj h s i hi;rw[hst] at ih;rw[Qa Qp3.eq_1];simp[hi] at ih |-;refine Qn hd (by simp[nth,rn]) (Ya (by simp[Qc])) ?_
    simp[nth,rn];have hal:(Xd h s i).length=i:=by simp[Xd]
    grind
 ·rw[if_neg ho] at g9 hG hG hG
  simp[c12];refine cK (by simpa using g9) ?_
  simp;rw[<- hG];simp[c12,h0]
theorem Qow (h:Qf) (s:List Txt) (hs:QP h) (hl:s.length<=100) (hw:okH h->s.length<=40->∀ t∈s,t.length<=1000) (hf:okH h->s.length<=40->∀ i,i<=s.length->Y4 (Qs h s i)) :
  Ev.Good Tryz.prog KW 13 [hoV h,strs s] (.tup [strs (Qfy h s),hoV (QaY h s),.int .i64 (Qnd h s)]):=by
 refine Qb hKW QDy (by simp) ?_
 have g9:=Qgx h hs;unfold Qqt at g9;generalize hG:Qkk c13.res (.tup [strs (Qfy h s),hoV (QaY h s),.int .i64 (Qnd h s)])=G;unfold Qfy QaY Qnd at hG;by_cases ho:okH h
 ·rw[if_pos ho] at g9 hG hG hG
  simp[c13];refine cK (by simpa using g9) ?_
  by_cases h40:40<s.length
  ·have h40':(40:Int)<s.length:=by omega
   rw[if_pos h40] at hG hG hG;simp[h40'];rw[<- hG];intro _;simp[c13,h0]
  ·have h40':¬ (40:Int)<s.length:=by omega
   rw[if_neg h40] at hG hG hG;have g10:=Qdc hKW h hs;simp[h40'];intro _;refine cK (by simpa using g10) ?_
   simp;have h1000:=hw ho (by omega)
   have hfew:=hf ho (by omega)
   refine VI (fun i=>[(1,AV.iv (strs s)),(4,AV.aref 4 (Xd h s i).length),(5,AV.loc 5 0),(8,AV.loc 8 0),(9,AV.iv (.int .i64 (i:Nat)))])
    (fun i=>[(4,AO.arr 9 1 (emb ((Xd h s i).map fun t=>[.str t])) 0),(5,AO.box ((hoC h0).map AV.iv)),(8,AO.box ((hoC (Qs h s i)).map AV.iv))]) s.length ?_ ?_
   ·rw[Qa Qp2.eq_1]
    simp;rw[<- hG];simp[c13]
   ·intro i hi ih
    have hd:=Qti (Qs h s i) (Jw ho i) s[i] (h1000 _ (QKj hi)) (fun _ _ _ _=>hfew i (by omega))
    rw[<- Zt h s i hi] at hd;rw[Xj h s i hi] at ih;have hal:(Xd h s i).length=i:=by simp[Xd]
    rw[Qa Qp2.eq_1];simp[hi] at ih |-;intros;refine cK (by simpa using hd) ?_
    simp
    grind
 ·rw[if_neg ho] at g9 hG hG hG
  simp[c13];refine cK (by simpa using g9) ?_
  simp;rw[<- hG];simp[c13,h0]
theorem QrI (L:List (List IV)) (x:List IV):emb (L++[x])=emb L++[x.map AV.iv]:=by simp[emb]
theorem QB4 (h:Qf) (ho:okH h) (s:List Txt) (hl:s.length<=100) (hw:∀ t∈s,t.length<=1000) :
  Ev.Good Tryz.prog KW 20 [hoV h,strs s] (.sl 18 ((List.range (s.length+1)).map fun i=>hoC (Qs h s i))):=by
 refine Qb hKW QDl (by simp) ?_
 have g10:=Qdc hKW h (Qg ho);simp;refine cK (by simpa using g10) ?_
 simp
 refine VI (fun i=>[(1,AV.iv (strs s)),(5,AV.aref 13 (i+1)),(6,AV.iv (.int .i64 (i:Nat)))])
  (fun i=>[(13,AO.arr 40 18 (emb ((List.range (i+1)).map fun j=>hoC (Qs h s j))) 0)]) s.length ?_ ?_
 ·rw[Qa QpZ.eq_1]
  simp;intro _;exact QKi (by simp)
 ·intro i hi ih
  have hst:=Zt h s i hi
  have e1:(List.range (i+1+1)).map (fun j=>hoC (Qs h s j))=(List.range (i+1)).map (fun j=>hoC (Qs h s j))++[hoC (Qs h s (i+1))]:=by
   rw[QKU,QKy];rfl
  have hlen:((List.range (i+1)).map fun j=>hoC (Qs h s j)).length=i+1:=by simp
  have hget:((List.range (i+1)).map fun j=>hoC (Qs h s j))[i]?=some (hoC (Qs h s i)):=by simp
  have g36:=Qth hKW s[i] (hw _ (QKj hi));rw[e1,QrI] at ih;generalize (List.range (i+1)).map (fun j=>hoC (Qs h s j))=T at *
  have hgi:∀ hq:i<T.length,T[i]'hq=hoC (Qs h s i):=fun hq=>by
   grind
  rw[Qa QpZ.eq_1];cases hp:(XN s[i]).2.2 with
  | false =>
    have hsame:Qs h s (i+1)=Qs h s i:=by
     rw[hst];unfold Z2;rw[QcV hp]
    rw[hsame] at ih;rw[hp] at g36;simp[hi,hlen,hgi] at ih |-;intros;refine ⟨by omega,cK (by simpa using g36) ?_⟩
    simp[hlen]
    grind
  | true =>
    obtain ⟨p,hpm,hw',hl',hv⟩:=QcU hp;rw[hp,<- hw'] at g36;have g37:=Qtg hKW p.1;rw[Xy p hpm] at g37;simp only at g37;cases hc:Z6 p.2.2 with
    | false =>
      have hsame:Qs h s (i+1)=Qs h s i:=by
       rw[hst];unfold Z2;rw[hv];simp only;rw[Zv hc]
      rw[hsame] at ih;rw[hc] at g37;generalize (XN s[i]).2.1=l at *;generalize p.1=w at *;simp[hi,hlen,hgi] at ih |-;intros;refine ⟨by omega,cK (by simpa using g36) ?_⟩
      simp;refine cK (by simpa using g37) ?_
      simp[hlen]
      grind
    | true =>
      have g31:=Qti (Qs h s i) (Jw ho i) s[i] (hw _ (QKj hi)) (fun v l h1 h2=>by
       grind)
      rw[<- hst] at g31;rw[hc] at g37;generalize (XN s[i]).2.1=l at *;generalize p.1=w at *;simp[hi,hlen,hgi] at ih |-;intros;refine ⟨by omega,cK (by simpa using g36) ?_⟩
      simp;refine cK (by simpa using g37) ?_
      simp[hi];refine cK (by simpa using g31) ?_
      simp[hlen]
      grind
theorem Qt9 {a b:Rod} (h1:a.long=b.long) (h2:a.wear=b.wear) (h3:a.grow=b.grow):a=b:=by cases a;cases b;simp_all
theorem QqK {a b:QW} (h1:a.whn=b.whn) (h2:a.rod=b.rod) (h3:a.count=b.count) (h4:a.rest=b.rest) (h5:a.off=b.off) (h6:a.wlo=b.wlo) (h7:a.whi=b.whi):a=b:=by cases a;cases b;simp_all
noncomputable instance:DecidableEq Qf:=fun _ _=>Classical.propDecidable _
include hK
theorem QB0 (a b:Q6):Ev.Good Tryz.prog K 33 [puV a,puV b] (.bool (decide (a=b))):=by
 refine Qb hK QC9 (by simp) ?_
 by_cases h1:a.iron=b.iron
 ·by_cases h2:a.glo=b.glo/\a.ghi=b.ghi
  ·by_cases h3:a.wrong=b.wrong
   ·by_cases h4:a.rods.length=b.rods.length
    ·by_cases h5:a.reads.length=b.reads.length
     ·simp[h1,h2.1,h2.2,h3,h4,h5]
      intros;refine Qe (fun i=>[(2,AV.iv (.ptr [.int .i64 b.iron,.int .i64 b.glo,.int .i64 b.ghi,W9 a.rods,Y6 a.reads,.int .i64 b.wrong])),(3,AV.iv (.ptr [.int .i64 b.iron,.int .i64 b.glo,.int .i64 b.ghi,W9 b.rods,Y6 b.reads,.int .i64 b.wrong])),(5,AV.iv (IV.int IntKind.i64 (i:Nat)))]) (fun _=>[]) a.rods.length (fun i=>a.rods.take i=b.rods.take i) (by simp) ?_ ?_
      ·intro h
       rw[h4,QKn,<- h4,QKn] at h;rw[Qa QpH.eq_1];simp;intros;refine Qe (fun i=>[(2,AV.iv (.ptr [.int .i64 b.iron,.int .i64 b.glo,.int .i64 b.ghi,W9 a.rods,Y6 a.reads,.int .i64 b.wrong])),(3,AV.iv (.ptr [.int .i64 b.iron,.int .i64 b.glo,.int .i64 b.ghi,W9 b.rods,Y6 b.reads,.int .i64 b.wrong])),(6,AV.iv (IV.int IntKind.i64 (i:Nat)))]) (fun _=>[]) a.reads.length (fun i=>a.reads.take i=b.reads.take i) (by simp) ?_ ?_
       ·intro h'
        rw[h5,QKn,<- h5,QKn] at h';rw[Qa QpG.eq_1];have:a=b:=by cases a;cases b;simp_all
        subst this;simp
       ·intro i hi h ih
        have hi':i<b.reads.length:=by omega
        rw[Qa QpG.eq_1];by_cases e:a.reads[i]=b.reads[i]
        ·simp[hi,hi',e] at ih |-
         intros;refine ⟨by omega,ih ?_⟩
         rw[QKf hi,QKf hi',h,e]
        ·have hne:a≠b:=fun c=>by grind
         have e':=fun k1 k2 k3 k4 k5 k6 k7=>e (QqK k1 k2 k3 k4 k5 k6 k7)
         simp[hi,hi',hne]
         grind
      ·intro i hi h ih
       have hi':i<b.rods.length:=by omega
       rw[Qa QpH.eq_1];by_cases e:a.rods[i]=b.rods[i]
       ·simp[hi,hi',e] at ih |-
        intros;refine ⟨by omega,ih ?_⟩
        rw[QKf hi,QKf hi',h,e]
       ·have hne:a≠b:=fun c=>by grind
        have e':=fun k1 k2 k3=>e (Qt9 k1 k2 k3)
        simp[hi,hi',hne]
        grind
     ·have h':¬ (a.reads.length:Int)=b.reads.length:=by omega
      have:a≠b:=fun e=>h5 (by rw[e])
      simp[h1,h2.1,h2.2,h3,h4,h',this]
    ·have h':¬ (a.rods.length:Int)=b.rods.length:=by omega
     have:a≠b:=fun e=>h4 (by rw[e])
     simp[h1,h2.1,h2.2,h3,h',this]
   ·have:a≠b:=fun e=>h3 (by rw[e])
    simp[h1,h2.1,h2.2,h3,this]
  ·have:a≠b:=fun e=>h2 (by grind)
   by_cases k1:a.glo=b.glo
   ·have k2:¬ a.ghi=b.ghi:=fun c=>h2 ⟨k1,c⟩
    simp[h1,k1,k2,this]
   ·simp[h1,k1,this]
 ·have:a≠b:=fun e=>h1 (by rw[e])
  simp[h1,this]
theorem Qle (a b:Qf):Ev.Good Tryz.prog K 15 [hoV a,hoV b] (.bool (decide (a=b))):=by
 refine Qb hK QDq (by simp) ?_
 have g32:=QB1 hK a.proof b.proof;have g33:=QB0 hK a.pull b.pull;have he:a=b↔a.proof=b.proof/\a.pull=b.pull:=by cases a;cases b;simp
 simp;refine cK (by simpa using g32) ?_
 by_cases h1:a.proof=b.proof
 ·simp[h1]
  refine cK (by simpa using g33) ?_
  simp[he,h1]
 ·simp[he,h1]
theorem Qgn (a b:List Txt) (ha:a.length<=1000000) (hb:b.length<=1000000):Ev.Good Tryz.prog K 14 [strs a,strs b] (.bool (decide (a=b))):=by
 refine Qb hK QDx (by simp) ?_
 by_cases h4:a.length=b.length
 ·simp[h4]
  intros;refine Qe (fun i=>[(0,AV.iv (strs a)),(1,AV.iv (strs b)),(5,AV.iv (IV.int IntKind.i64 (i:Nat)))]) (fun _=>[]) a.length (fun i=>a.take i=b.take i) (by simp) ?_ ?_
  ·intro h
   rw[h4,QKn,<- h4,QKn] at h;subst h;rw[Qa Qp1.eq_1];simp
  ·intro i hi h ih
   have hi':i<b.length:=by omega
   rw[Qa Qp1.eq_1];by_cases e:a[i]=b[i]
   ·simp[hi,hi',e] at ih |-
    intros;refine ⟨by omega,ih ?_⟩
    rw[QKf hi,QKf hi',h,e]
   ·have hne:a≠b:=fun c=>by grind
    simp[hi,hi',hne,e]
 ·have h':¬ (a.length:Int)=b.length:=by omega
  have:a≠b:=fun e=>h4 (by rw[e])
  simp[h',this]
omit hK
def YZ:List Rod->Int
 | []=>1
 | r::l=>(r.wear+1)*YZ l
theorem QcD:∀ (l:List Rod) (r:Rod),YZ (l++[r])=YZ l*(r.wear+1)
 | [],r=>by simp[YZ]
 | a::l,r=>by
   simp only[QKs,YZ,QcD l r]
   grind
def QoB (p:Q6):Prop:=40<p.rods.length\/40<p.reads.length\/(OkU p/\((∃ x∈p.reads,3<x.whi-x.wlo)\/12<YZ p.rods\/8<p.ghi-p.glo\/4<p.reads.length))
noncomputable instance (p:Q6):Decidable (QoB p):=Classical.propDecidable _
theorem Qqy (l:List Rod) (h:∀ r∈l,Vt r) (i:Nat):1<=YZ (l.take i)/\YZ (l.take i)<=10 ^ (min i l.length):=by
 induction l generalizing i with
 | nil=>simp[YZ]
 | cons r l ih =>
   cases i with
   | zero=>simp[YZ]
   | succ i =>
     obtain ⟨h1,h2⟩:=ih (fun x hx=>h x (by simp[hx])) i
     have hr:=(h r (by simp)).2.1
     simp only[inR] at hr;simp only[List.take_succ_cons,YZ,QKB,Nat.succ_min_succ];rw[Nat.succ_eq_add_one,Int.pow_succ];have h3:(r.wear+1)*YZ (l.take i)<=10*YZ (l.take i):=QKL (by omega) (by omega)
     have h4:1*YZ (l.take i)<=(r.wear+1)*YZ (l.take i):=QKL (by omega) (by omega)
     omega
theorem QBY (p:Q6):Ev.Good Tryz.prog KW 35 [puV p] (.bool (decide (QoB p))):=by
 refine Qb hKW QC7 (by simp) ?_
 by_cases h1:p.rods.length<=40
 ·by_cases h2:p.reads.length<=40
  ·have h1':¬ (40:Int)<p.rods.length:=by omega
   have h2':¬ (40:Int)<p.reads.length:=by omega
   have g27:=Qoe hKW p (by omega) (by omega)
   simp[h1',h2'];intros;refine cK (by simpa using g27) ?_
   by_cases h3:OkU p
   ·simp[h3]
    have hr4:=h3.rlen;have hgu:=h3.guess;have hmo:=h3.most;simp only[inR] at hgu;refine VI (fun i=>[(1,AV.iv (.ptr [.int .i64 p.iron,.int .i64 p.glo,.int .i64 p.ghi,W9 p.rods,Y6 p.reads,.int .i64 p.wrong])),(3,AV.iv (.int .i64 (YZ (p.rods.take i)))),(4,AV.iv (.int .i64 (i:Nat)))]) (fun _=>[]) p.rods.length ?_ ?_
    ·rw[QKn]
     rw[Qa QpD.eq_1];simp;intros;refine Qe (fun i=>[(1,AV.iv (.ptr [.int .i64 p.iron,.int .i64 p.glo,.int .i64 p.ghi,W9 p.rods,Y6 p.reads,.int .i64 p.wrong])),(3,AV.iv (.int .i64 (YZ p.rods))),(5,AV.iv (.int .i64 (i:Nat)))]) (fun _=>[]) p.reads.length (fun i=>∀ x∈p.reads.take i,¬ 3<x.whi-x.wlo) (by simp) ?_ ?_
     ·intro hQ
      rw[QKn] at hQ
      have he:QoB p↔12<YZ p.rods\/8<p.ghi-p.glo\/4<p.reads.length:=by
       constructor
       ·rintro (h | h | ⟨_,⟨x,hx,h⟩ | h⟩)
        all_goals grind
       ·exact fun h=>.inr (.inr ⟨h3,.inr h⟩)
      rw[Qa QpC.eq_1];by_cases w1:12<YZ p.rods
      ·simp[he,w1]
       try omega
      ·by_cases w2:8<p.ghi-p.glo
       ·simp[he,w1,w2]
        try omega
       ·simp[he,w1,w2]
        try omega
     ·intro i hi hQ ih
      have hrd:=h3.reads _ (QKj hi);obtain ⟨_,_,_,_,_,hw1,hw2⟩:=hrd;simp only[inR] at hw1;rw[Qa QpC.eq_1];by_cases e:3<p.reads[i].whi-p.reads[i].wlo
      ·have hf:QoB p:=.inr (.inr ⟨h3,.inl ⟨_,QKj hi,e⟩⟩)
       simp[hi,e,hf]
       try omega
      ·have ih:=ih fun x hx=>by
        rw[QKf hi] at hx
        grind
       simp[hi,e] at ih |-
       grind
    ·intro i hi ih
     have hrd:=h3.rods _ (QKj hi);have hw:=hrd.2.1;simp only[inR] at hw;have hq:=Qqy p.rods h3.rods i;have hq2:(10:Int) ^ (min i p.rods.length)<=10 ^ 4:=by exact_mod_cast QK7 (n:=10) (by omega) (by omega:min i p.rods.length<=4)
     have hb:YZ (p.rods.take i)*(p.rods[i].wear+1)<=10000*10:=QLa (by omega) (by omega) (by omega) (by omega)
     have hb':0<=YZ (p.rods.take i)*(p.rods[i].wear+1):=QK8 (by omega) (by omega)
     rw[QKf hi,QcD] at ih;rw[Qa QpD.eq_1];simp[hi] at ih |-
     grind
   ·have h3':¬ QoB p:=by
     rintro (h | h | ⟨h,_⟩)
     all_goals grind
    simp[h3,h3']
  ·have h2':(40:Int)<p.reads.length:=by omega
   have hf:QoB p:=.inr (.inl (by omega))
   simp[h2',hf]
   try omega
 ·have h1':(40:Int)<p.rods.length:=by omega
  have hf:QoB p:=.inl (by omega)
  simp[h1',hf]
  try omega
def QoD (h:Qf):Prop:=Qg4 h.proof\/QoB h.pull
noncomputable instance (h:Qf):Decidable (QoD h):=Classical.propDecidable _
theorem Qtl (h:Qf):Ev.Good Tryz.prog KW 19 [hoV h] (.bool (decide (QoD h))):=by
 refine Qb hKW QDm (by simp) ?_
 have g34:=QBZ hKW h.proof;have g35:=QBY h.pull;unfold QoD;simp;refine cK (by simpa using g34) ?_
 by_cases h1:Qg4 h.proof
 ·simp[h1]
 ·simp[h1]
  refine cK (by simpa using g35) ?_
  simp
def QlQ (h:Qf) (s:List Txt):Prop:=QoD h\/45<s.length\/(∃ t∈s,90<t.length)\/(okH h/\∃ i,i<=s.length/\QoD (Qs h s i))
noncomputable instance (h:Qf) (s:List Txt):Decidable (QlQ h s):=Classical.propDecidable _
theorem qE {h:Qf} (hf:¬ QoD h):QP h:=by
 simp only[QoD,Qg4,Qtn,QoC,QoB,not_or] at hf;obtain ⟨⟨⟨h1,h2,_⟩,⟨h3,h4,_⟩,h5,_⟩,h6,h7,_⟩:=hf;exact ⟨⟨by omega,by omega,by omega,by omega,by omega⟩,by omega,by omega⟩
theorem Qrk (h:Qf) (s:List Txt):Ev.Good Tryz.prog KW 7 [hoV h,strs s] (.bool (decide (QlQ h s))):=by
 refine Qb hKW QFp (by simp) ?_
 have g19:=Qtl h;simp;refine cK (by simpa using g19) ?_
 by_cases h1:QoD h
 ·have hf:QlQ h s:=.inl h1
  simp[h1,hf]
 ·by_cases h2:45<s.length
  ·have hf:QlQ h s:=.inr (.inl h2)
   have h2':(45:Int)<s.length:=by omega
   simp[h1,hf,h2']
   try omega
  ·have h2':¬ (45:Int)<s.length:=by omega
   have g11:=Qgx h (qE h1);unfold Qqt at g11;simp[h1,h2'];intros;refine Qe (fun i=>[(1,AV.iv (strs s)),(2,AV.iv (.ptr (hoC h))),(5,AV.iv (.int .i64 (i:Nat)))]) (fun _=>[]) s.length (fun i=>∀ t∈s.take i,¬ 90<t.length) (by simp) ?_ ?_
   ·intro hQ
    rw[QKn] at hQ;rw[Qa Qxs.eq_1];simp;intros;refine cK (by simpa using g11) ?_
    by_cases ho:okH h
    ·have g20:=QB4 h ho s (by omega) (fun t ht=>by grind)
     have hT1:((List.range (s.length+1)).map fun i=>hoC (Qs h s i)).length=s.length+1:=by simp
     have hT2:∀ i (hi:i<((List.range (s.length+1)).map fun i=>hoC (Qs h s i)).length),((List.range (s.length+1)).map fun i=>hoC (Qs h s i))[i]=hoC (Qs h s i):=fun i hi=>by simp
     generalize ((List.range (s.length+1)).map fun i=>hoC (Qs h s i))=T at *
     simp[ho];refine cK (by simpa using g20) ?_
     simp;refine Qe (fun i=>[(6,AV.iv (.sl 18 T)),(7,AV.iv (.int .i64 (i:Nat)))]) (fun _=>[]) T.length (fun i=>∀ j,j<i->¬ QoD (Qs h s j)) (by intro j h;omega) ?_ ?_
     ·intro hN
      have hf:¬ QlQ h s:=by
       rintro (h | h | ⟨t,ht,h⟩ | ⟨_,j,hj,h⟩)
       all_goals grind
      rw[Qa Qxr.eq_1];simp[hf]
     ·intro i hi hN ih
      have hTi:=hT2 i hi;have g19:=Qtl (Qs h s i);rw[Qa Qxr.eq_1];by_cases e:QoD (Qs h s i)
      ·have hf:QlQ h s:=.inr (.inr (.inr ⟨ho,i,by omega,e⟩))
       simp[hi,hTi,hf];intros;refine cK (by simpa using g19) ?_
       simp[e]
      ·have ih:=ih fun j hj=>by
        grind
       simp[hi,hTi] at ih |-;intros;refine cK (by simpa using g19) ?_
       simp[e]
       grind
    ·have hf:¬ QlQ h s:=by
      rintro (h | h | ⟨t,ht,h⟩ | ⟨h,_⟩)
      all_goals grind
     simp[ho,hf]
   ·intro i hi hQ ih
    rw[Qa Qxs.eq_1];by_cases e:90<s[i].length
    ·have hf:QlQ h s:=.inr (.inr (.inl ⟨_,QKj hi,e⟩))
     have e':(90:Int)<s[i].length:=by omega
     simp[hi,e',hf]
     try omega
    ·have e':¬ (90:Int)<s[i].length:=by omega
     have ih:=ih fun x hx=>by
      rw[QKf hi] at hx
      grind
     simp[hi,e'] at ih |-
     grind
def exU:Q6:=⟨12,9900,10200,[⟨1000,1,12⟩,⟨500,0,20⟩],[⟨1,0,10,0,2,0,0⟩,⟨2,0,10,30,2,0,0⟩],0⟩
def exH:Qf:=⟨exP,exU⟩
def Qlt:Qk:=⟨exC.deeds,[⟨7,0,0,5,1⟩],0⟩
def QoM:Qd:={ exP with chain:=Qlt }
def Uv:Qf:=⟨QoM,exU⟩
def exS:List Txt:=[[119,104,111,32,48],[115,101,101,32,55,32,48,32,48,32,53,32,49],[119,104,111,32,48],[119,101,108,100,32,48,32,48,32,53],[112,114,111,118,101,32,52,48,32,48,32,51],[115,116,114,101,116,99,104],[99,111,110,100,101,109,110,101,100]]
def exA:List Txt:=[[48,32,49],[121,101,115],[48],[119,104,97,116],[110,111],[50,54,32,51,52],[112,101,114,104,97,112,115]]
include hK
theorem QBX:Ev.Good Tryz.prog K 38 [] (.tup [puV exU,.agg (reC ⟨1,1,20,0,1,20,20⟩)]):=by
 refine Qb hK QC4 (by simp) ?_
 simp[exU]
theorem QB3:Ev.Good Tryz.prog K 21 [] (hoV exH):=by
 refine Qb hK QDk (by simp) ?_
 have g38:=QBX hK;have g39:=QBW hK;simp;refine cK (by simpa using g38) ?_
 simp;refine cK (by simpa using g39) ?_
 simp[exH]
omit hK
theorem Qlr:OkU exU:=by decide
theorem Qls:okH exH:=⟨QgE,Qlr⟩
theorem QeB:OkC Qlt:=by
 refine ⟨by decide,by decide,by decide,QgF.deeds,fun s hs=>?_⟩
 simp[Qlt] at hs;subst hs;decide
theorem Qir:OkP QoM:=⟨QeB,Qtq,QgE.need,QgE.rule,QgE.many,QgE.trials⟩
theorem QoK:okH Uv:=⟨Qir,Qlr⟩
theorem Qdg:span ((Yp exU).map Yv)=(26,34):=by
 rw[<- QaR];decide +kernel
theorem QFc:uE exU true=0:=by
 unfold uE;rw[if_pos Qlr,if_pos rfl,if_neg];intro h;have:=Qdg;rw[h] at this
 revert this
 decide
theorem p1:XA [119,104,111,32,48]=some (.who,[0]):=by decide +kernel
theorem p2:XA [115,101,101,32,55,32,48,32,48,32,53,32,49]=some (.see,[7,0,0,5,1]):=by decide +kernel
theorem p4:XA [119,101,108,100,32,48,32,48,32,53]=none:=by decide +kernel
theorem p5:XA [112,114,111,118,101,32,52,48,32,48,32,51]=some (.prove,[40,0,3]):=by decide +kernel
theorem p6:XA [115,116,114,101,116,99,104]=some (.stretch,[]):=by decide +kernel
theorem p7:XA [99,111,110,100,101,109,110,101,100]=some (.condemned,[]):=by decide +kernel
theorem Qtp:QlT exC 0=[0,1]/\Z7 exC (plB exC 0)=0:=by
 have e:(QH exC).map (Qqr exC 0)=[1,0]:=by decide
 have hb:plB exC 0=true:=by decide
 have ha:Z7 exC (plB exC 0)=0:=by
  unfold Z7;rw[if_pos QgF,if_pos hb];decide
 refine ⟨?_,ha⟩;unfold QlT;rw[if_pos ha,e]
 exact QlM (Jz _) (by decide) fun x=>by
  rw[JA]
  grind
theorem QoJ:QlT Qlt 0=[0]/\Z7 Qlt (plB Qlt 0)=0:=by
 have e:(QH Qlt).map (Qqr Qlt 0)=[0]:=by decide
 have hb:plB Qlt 0=true:=by decide
 have ha:Z7 Qlt (plB Qlt 0)=0:=by
  unfold Z7;rw[if_pos QeB,if_pos hb];decide
 refine ⟨?_,ha⟩;unfold QlT;rw[if_pos ha,e];exact QlM (Jz _) (by decide) fun x=>by rw[JA]
def QF6:List QI:=[⟨[0,0,0,0,1,1,0],⟨[10,5],1⟩⟩,⟨[0,0,0,0,1,1,0],⟨[11,5],1⟩⟩]
theorem QgG:QD QoM=QF6:=by
 unfold QD;rw[show QoM.chain=Qlt from rfl,show QoM.machine=exM from rfl,Qkw QeB,QdN]
 decide
theorem Qtr:kL QoM true=QF6/\kE QoM true=0:=by
 unfold kL kE;rw[if_pos ⟨Qir,rfl⟩,if_pos Qir,if_pos rfl,QgG];exact ⟨rfl,by decide⟩
theorem QrD:Wr (rCond QoM) (kE QoM true)=[112,101,114,104,97,112,115]:=by
 unfold rCond;rw[Qtr.1,Qtr.2];decide
theorem QoL:QAL exU:=by
 refine ⟨by decide,by decide,fun _=>?_⟩
 have h1:(Xh exU).length=301:=by decide +kernel
 have h2:(ZR exU.rods).length=2:=by decide
 have key:∀ l l':List Int,(l.flatMap fun b=>l'.flatMap fun a=>(ZR exU.rods).map fun w=>(⟨b,a,w⟩:TrU)).length<=l.length*(l'.length*2):=fun l l'=>by
  refine Xa _ _ l fun b _=>Xa _ _ l' fun a _=>?_
  grind
 have:=key (Xh exU) (Xh exU);rw[h1] at this;unfold Qg6;omega
theorem QwZ:Y4 exH:=⟨QCa 1 (by decide),QoL⟩
theorem QwY:Y4 Uv:=by
 refine ⟨⟨⟨⟨by decide,by decide,by decide,by decide,by decide⟩,fun _=>by decide⟩,fun _=>?_,fun _=>?_,fun _=>by show (QD QoM).length<=100000;rw[QgG];decide⟩,QoL⟩
 ·rw[show Uv.proof.chain=Qlt from rfl,Qkw QeB];decide
 ·rw[show Uv.proof.machine=exM from rfl,QdN]
  exact QKK (QKD _ _) (by decide)
theorem Qts (h:okH (Za Uv ⟨40,0,3⟩)):False:=by
 have h1:=h.1.trials 2 (by decide) (by decide)
 revert h1
 decide
theorem s0:Qs exH exS 0=exH:=rfl
theorem lv1:Z2 exH [119,104,111,32,48]=([48,32,49],exH):=by
 unfold Z2;rw[p1];simp only;rw[Zv rfl];unfold Z4;rw[show exH.proof.chain=exC from rfl,show nI [0] 0=0 from rfl,Qtp.1,Qtp.2]
 show (XL [0,1] 0,exH)=_
 rw[show XL [0,1] 0=[48,32,49] by decide +kernel]
theorem lv2:Z2 exH [115,101,101,32,55,32,48,32,48,32,53,32,49]=([121,101,115],Uv):=by
 unfold Z2;rw[p2];simp only;rw[ZZ (h':=Uv) rfl rfl];unfold chT chH;rw[if_pos QoK,if_pos QoK];rfl
theorem lv3:Z2 Uv [119,104,111,32,48]=([48],Uv):=by
 unfold Z2;rw[p1];simp only;rw[Zv rfl];unfold Z4;rw[show Uv.proof.chain=Qlt from rfl,show nI [0] 0=0 from rfl,QoJ.1,QoJ.2]
 show (XL [0] 0,Uv)=_
 rw[show XL [0] 0=[48] by decide +kernel]
theorem lv4:Z2 Uv [119,101,108,100,32,48,32,48,32,53]=([119,104,97,116],Uv):=by
 unfold Z2;rw[p4];rfl
theorem lv5:Z2 Uv [112,114,111,118,101,32,52,48,32,48,32,51]=([110,111],Uv):=by
 unfold Z2;rw[p5];simp only;rw[ZZ (h':=Za Uv ⟨40,0,3⟩) rfl rfl];unfold chT chH;rw[if_neg Qts,if_neg Qts];rfl
theorem lv6:Z2 Uv [115,116,114,101,116,99,104]=([50,54,32,51,52],Uv):=by
 unfold Z2;rw[p6];simp only;rw[Zv rfl];unfold Z4;have hu:uL exU true=Yp exU:=by simp[uL,Qlr]
 rw[show Uv.pull=exU from rfl,QFc,hu,Qdg]
 show (XL [26,34] 0,Uv)=_
 rw[show XL [26,34] 0=[50,54,32,51,52] by decide +kernel]
theorem lv7:Z2 Uv [99,111,110,100,101,109,110,101,100]=([112,101,114,104,97,112,115],Uv):=by
 unfold Z2;rw[p7];simp only;rw[Zv rfl];unfold Z4;rw[show Uv.proof=QoM from rfl,QrD]
theorem st (i:Nat) (h:i<=7):Qs exH exS i=if i<=1 then exH else Uv:=by
 have e1:Qs exH exS 1=exH:=by rw[Zt exH exS 0 (by decide)];exact congrArg Prod.snd lv1
 have e2:Qs exH exS 2=Uv:=by rw[Zt exH exS 1 (by decide),e1];exact congrArg Prod.snd lv2
 have e3:Qs exH exS 3=Uv:=by rw[Zt exH exS 2 (by decide),e2];exact congrArg Prod.snd lv3
 have e4:Qs exH exS 4=Uv:=by rw[Zt exH exS 3 (by decide),e3];exact congrArg Prod.snd lv4
 have e5:Qs exH exS 5=Uv:=by rw[Zt exH exS 4 (by decide),e4];exact congrArg Prod.snd lv5
 have e6:Qs exH exS 6=Uv:=by rw[Zt exH exS 5 (by decide),e5];exact congrArg Prod.snd lv6
 have e7:Qs exH exS 7=Uv:=by rw[Zt exH exS 6 (by decide),e6];exact congrArg Prod.snd lv7
 have:i=0\/i=1\/i=2\/i=3\/i=4\/i=5\/i=6\/i=7:=by omega
 rcases this with rfl | rfl | rfl | rfl | rfl | rfl | rfl | rfl
 ·rfl
 all_goals grind
theorem Qw0:Xd exH exS 7=exA:=by
 rw[Xj exH exS 6 (by decide),Xj exH exS 5 (by decide),Xj exH exS 4 (by decide),Xj exH exS 3 (by decide),Xj exH exS 2 (by decide),Xj exH exS 1 (by decide),Xj exH exS 0 (by decide)]
 rw[st 6 (by decide),st 5 (by decide),st 4 (by decide),st 3 (by decide),st 2 (by decide),st 1 (by decide),st 0 (by decide)]
 simp only[Xd,List.range_zero,List.map_nil,QKx,exS,QLr,List.getElem_cons_succ];rw[if_pos (by decide),if_pos (by decide),if_neg (by decide),if_neg (by decide),if_neg (by decide),if_neg (by decide),if_neg (by decide),lv1,lv2,lv3,lv4,lv5,lv6,lv7]
 rfl
theorem Qrj:Ev.Good Tryz.prog KW 8 [] (.bool true):=by
 refine Qb hKW QFo (by simp) ?_
 have g21:=QB3 hKW
 have g12:=Qgs exH exS (Qg Qls) (by decide) (fun _ _=>by decide) (fun _ _ i hi _ _ _ _=>by
  rw[st i (Nat.le_of_lt hi)];split
  ·exact QwZ
  ·exact QwY)
 have hA:Qfy exH exS=exA:=by unfold Qfy;rw[if_pos Qls,if_neg (by decide)];exact Qw0
 have hH:QaY exH exS=Uv:=by unfold QaY;rw[if_pos Qls,if_neg (by decide),show exS.length=7 from rfl,st 7 (by decide)];rfl
 have hE:Qnd exH exS=0:=by unfold Qnd;rw[if_pos Qls,if_neg (by decide)]
 rw[hA,hH,hE] at g12;have g14:=Qgn hKW exA exA (by decide) (by decide)
 simp;refine cK (by simpa using g21) ?_
 simp;refine cK (by simpa[exS] using g12) ?_
 have hs1:Uv.proof.chain.sights.length=1:=rfl;simp[hs1];refine cK (by simpa[exA] using g14) ?_
 simp
def c3B:=f0 0xa04eb0160851f0b0360123af17f11f00122c58f15f10c20ae19f6c98218e77d3d777773d74d7773d75d5d6c91d9e25714703703de0121c51f12f9d24d6fb207e16f6c68215e77d3d777773d74d7773d75d5d6c61d6e29c9719c9706709cecc10320c0cd014c19cc3d1f1019ccad01a52f9d2ac6f2c20ab14e1204027301b52f9d2019501a52f9d261f330a04e0852204012751f129d2b6f323b146f1a22140105e ⟨_,by conv=>lhs;reduce⟩
def c4B:=f0 0xa04eb0160851f0b0360122c51f16f11f0b0360123c52f9d25f9d591f0b0360123cf19f11f00123c5bf9db98f9d89ac200ce1bf6cb821ae77d3d777773d74d7773d75d5d6cb1dbe25714703701de0121c51f12f9d22d6fb209e18f6c88217e77d3d777773d74d7773d75d5d6c81d8e2571470370ace0120c56f15f9d59bc6fb151652140f306e35f6c5877d3d777773d74d7773d75d5d6c51d5e014c197c3d1f10197cad01a52f9d2820a04e0852204012751f129d21c6f323b146f1a2214010de ⟨_,by conv=>lhs;reduce⟩
def QC2:=fk Tryz.func3 c3B (by kernel_rfl)
def QCR:=fk Tryz.func4 c4B (by kernel_rfl)
attribute [simp] c3B c4B
end Go.Pf
namespace Go.Ev
open Go Go.RowKit
section
variable {P:Program} {K:World->Prop}
theorem QhQ {f:FuncId} {args:List AV} {o0:Qw} {xs:List IV} {r:IV} (h:Good P K f xs r) (hi:imms (Qc o0) 40 args=some xs):QU P K f args o0 [] (.iv r) []:=by
 intro w ok L vs hK hnew hown hlaid hvl hvs;have hlt:∀ b,FrO w (Qc o0) L b->b<w.heap.size:=fun b hb=>hb.1
 have hs:=(XE (UL hlaid hlt) (ok1:=ok) (fun b hb=>hb.1) (lo':=Qc o0) (fun _ _ h=>h) (fun id ob b hob hb=>hown b ⟨id,ob,hob,hb⟩) 40).2 args xs hi
 refine (h w ok vs (hK w (Zr.refl _ _)) hnew (by rw[hvl,hs.1]) (fun k x u hx hu=>?_)).mono fun e w' ⟨v,he,hr,hb⟩=>⟨v,L,he,⟨by simp[Qc],by simp[Qc]⟩,?_,Below.keep hb hlt,by simp⟩
 ·have hkl:k<args.length:=by grind
  exact hs.2 k args[k] x u (QKg hkl) hx (hvs k args[k] u (QKg hkl) hu)
 ·exact .iv _ _ (hr.mono fun b hb _=>⟨⟨hb,by simp[Qc]⟩,rfl⟩)
end
end Go.Ev
namespace Go.Pf
open Go Go.Ev Go.Proofs Go.RowKit
set_option maxRecDepth 8000
set_option maxHeartbeats 1000000
theorem QwS {p:Q6} (h:¬ QoB p):QAL p:=by
 have h':=h;simp only[QoB,not_or] at h';obtain ⟨h1,h2,_⟩:=h';refine ⟨by omega,by omega,fun hp=>?_⟩
 have h3:YZ p.rods<=12:=Int.not_lt.1 fun c=>h (.inr (.inr ⟨hp,.inr (.inl c)⟩))
 have h4:p.ghi-p.glo<=8:=Int.not_lt.1 fun c=>h (.inr (.inr ⟨hp,.inr (.inr (.inl c))⟩))
 have hw:=Jt p.rods hp.rods;have hw2:10 ^ p.rods.length<=10 ^ 4:=QK7 (by omega) hp.rlen
 have hl:(Xh p).length<=9:=by
  simp[Xh,Vr];omega
 have:=Xa (fun b=>(Xh p).flatMap fun a=>(ZR p.rods).map fun w=>(⟨b,a,w⟩:TrU)) (9*10000) (Xh p) fun b _=>by
  refine QKK (Xa _ 10000 (Xh p) fun a _=>?_) (QKX _ hl)
  grind
 unfold Qg6;omega
theorem QwT {h:Qf} (hf:¬ QoD h):Y4 h:=⟨QB8 fun c=>hf (.inl c),QwS fun c=>hf (.inr c)⟩
theorem Qbk {h:Qf} {s:List Txt} (hf:¬ QlQ h s):QP h/\s.length<=45/\(∀ t∈s,t.length<=1000)/\(okH h->∀ i,i<=s.length->Y4 (Qs h s i)):=by
 refine ⟨qE fun c=>hf (.inl c),?_,fun t ht=>?_,fun ho i hi=>QwT fun c=>hf (.inr (.inr (.inr ⟨ho,i,hi,c⟩)))⟩
 ·exact QLm.1 fun c=>hf (.inr (.inl c))
 ·have:=QLm.1 fun c:90<t.length=>hf (.inr (.inr (.inl ⟨t,ht,c⟩)))
  omega
theorem QkD (h:Qf) (s:List Txt):(Qfy h s).length<=s.length:=by
 unfold Qfy;split
 ·split
  ·simp
  ·simp[Xd]
 ·simp
theorem Quz {h:Qf} {k n:Nat} {e:TypeId} {sz:Nat} {rows:List (List IV)} {o:Qw} (ho:Qc o k=some (.arr e sz (emb rows) 0)):HOk [k] [.iv (hoV h),.aref 0 n] o [(0,.arr e sz (emb rows) 0)] []:=by
 refine ⟨by simp,by simp[clA],fun q hq=>?_,fun i hi h1=>?_,by simp⟩
 ·simp only[QKq,QKu,or_false] at hq
  subst hq;refine ⟨by simp,?_,Xn _ _ _ _ _,rfl⟩
  rw[Yl];exact ho
 ·simp at hi
  subst hi;simp[Qc] at h1
theorem QES (h:Qf) (s:List Txt):Ev.Good Tryz.prog KW 3 [hoV h,strs s] (.bool true):=by
 refine Qb hKW QC2 (by simp) ?_
 have g7:=Qrk h s;have g8:=Qrj;by_cases hf:QlQ h s
 ·simp
  refine cK (by simpa using g7) ?_
  simp[hf];refine cK (by simpa using g8) ?_
  simp
 ·obtain ⟨hs,h45,hw,hfew⟩:=Qbk hf
  have g10:=Qdc hKW h hs;have g9:=QuX hKW h hs;have g11:=Qgx h hs;have g12:=Qgs h s hs (by omega) (fun _ _=>hw) (fun ho _ i hi _ _ _ _=>hfew ho i (by omega))
  have g13:=Qow h s hs (by omega) (fun _ _=>hw) (fun ho _=>hfew ho)
  have hal:=QkD h s;have g14:=Qgn hKW (Qfy h s) (Qfy h s) (by omega) (by omega)
  simp;refine cK (by simpa using g7) ?_
  simp[hf];refine cK (by simpa using g10) ?_
  simp;refine cK (by simpa using g9) ?_
  simp;refine cK (by simpa using g11) ?_
  simp;refine cK (by simpa using g10) ?_
  simp;refine ⟨by omega,Qn (args0:=[.iv (hoV h),.aref 0 s.length]) (o0:=[(0,.arr 9 1 (emb (s.map fun t=>[.str t])) 0)]) (QhQ g12 (by simp[imms,imm,Qc,QKi])) (by simp[rn,nth]) (Quz (by simp[Qc,emb])) ?_⟩
  simp[rn,nth];refine cK (by simpa using g13) ?_
  simp;refine cK (by simpa using g14) ?_
  simp;refine cK (by simpa using g8) ?_
  simp
theorem QEQ (h:Qf) (t:Txt):Ev.Good Tryz.prog KW 5 [hoV h,.str t] (.bool true):=by
 refine Qb hKW QFr (by simp) ?_
 have g7:=Qrk h [t];have g8:=Qrj;by_cases hf:QlQ h [t]
 ·simp
  refine cK (by simpa using g7) ?_
  simp[hf];refine cK (by simpa using g8) ?_
  simp
 ·obtain ⟨hs,h45,hw,hfew⟩:=Qbk hf
  have g10:=Qdc hKW h hs;have g12:=Qgs h [t] hs (by simp) (fun _ _=>hw) (fun ho _ i hi _ _ _ _=>hfew ho i (by omega))
  have g13:=Qow h [t] hs (by simp) (fun _ _=>hw) (fun ho _=>hfew ho)
  have hal:=QkD h [t];simp only[List.length_singleton] at hal;have g14:=Qgn hKW (Qfy h [t]) (Qfy h [t]) (by omega) (by omega)
  have g15:=Qle hKW (QaY h [t]) (QaY h [t]);simp;refine cK (by simpa using g7) ?_
  simp[hf];refine cK (by simpa using g10) ?_
  simp;refine cK (by simpa using g12) ?_
  simp;refine cK (by simpa using g13) ?_
  simp;refine cK (by simpa using g14) ?_
  simp;refine cK (by simpa using g15) ?_
  simp;refine cK (by simpa using g8) ?_
  simp
theorem QER (h:Qf) (s:List Txt):Ev.Good Tryz.prog KW 4 [hoV h,strs s] (.bool true):=by
 refine Qb hKW QCR (by simp) ?_
 have g7:=Qrk h s;have g8:=Qrj;by_cases hf:QlQ h s
 ·simp
  refine cK (by simpa using g7) ?_
  simp[hf];refine cK (by simpa using g8) ?_
  simp
 ·obtain ⟨hs,h45,hw,hfew⟩:=Qbk hf
  have g10:=Qdc hKW h hs;have g12:=Qgs h s hs (by omega) (fun _ _=>hw) (fun ho _ i hi _ _ _ _=>hfew ho i (by omega))
  have g13:=Qow h s hs (by omega) (fun _ _=>hw) (fun ho _=>hfew ho)
  have g14:=Qgn hKW s s (by omega) (by omega)
  have g15:=Qle hKW (QaY h s) (QaY h s);have g15h:=Qle hKW h h;simp;refine cK (by simpa using g7) ?_
  simp[hf];refine cK (by simpa using g10) ?_
  simp;refine ⟨by omega,cK (by simpa using g12) ?_⟩
  simp;refine cK (by simpa using g13) ?_
  simp;refine cK (by simpa using g15) ?_
  simp;refine cK (by simpa using g15h) ?_
  simp;refine cK (by simpa using g14) ?_
  simp;refine cK (by simpa using g8) ?_
  simp
end Go.Pf
namespace Go.Pf
open Go Go.Ev Go.Proofs Go.RowKit
set_option maxRecDepth 8000
theorem UF (h:Qf) (s:List Txt) (c i:Nat) (hi:i<=c):Qs h (s.take c) i=Qs h s i:=by
 unfold Qs
 grind
theorem UG (h:Qf) (s:List Txt) (c i:Nat):Qs (Qs h s c) (s.drop c) i=Qs h s (c+i):=by
 unfold Qs
 grind
theorem QmH (h:Qf) (s:List Txt) (c:Nat):Xd h (s.take c) c=Xd h s c:=by
 unfold Xd;refine QLg fun j hj=>?_
 have hj:=QKO.1 hj;rw[UF h s c j (by omega)]
 grind
theorem Qqg (h:Qf) (s:List Txt) (c:Nat):∀ i,Xd h s (c+i)=Xd h s c++Xd (Qs h s c) (s.drop c) i
 | i=>by
   unfold Xd;rw[List.range_add,QKy,List.map_map]
   congr 1
   refine QLg fun j _=>?_
   simp only[Function.comp_apply];rw[UG]
   grind
set_option maxHeartbeats 1000000
def QfL (h:Qf) (s:List Txt):Prop:=¬ QlQ h s/\okH h/\s.length<=40
noncomputable instance (h:Qf) (s:List Txt):Decidable (QfL h s):=Classical.propDecidable _
theorem QB5 (h:Qf) (s:List Txt):Ev.Good Tryz.prog KW 16 [hoV h,strs s] (.bool (decide (QfL h s))):=by
 refine Qb hKW QDp (by simp) ?_
 have g7:=Qrk h s;unfold QfL;by_cases hf:QlQ h s
 ·simp
  refine cK (by simpa using g7) ?_
  simp[hf]
 ·have g11:=Qgx h (Qbk hf).1
  unfold Qqt at g11;by_cases ho:okH h
  ·rw[if_pos ho] at g11
   by_cases h4:s.length<=40
   ·have h4':(s.length:Int)<=40:=by omega
    simp;refine cK (by simpa using g7) ?_
    simp[hf,ho];refine cK (by simpa using g11) ?_
    simp[h4,h4']
   ·have h4':¬ (s.length:Int)<=40:=by omega
    simp;refine cK (by simpa using g7) ?_
    simp[hf,ho];refine cK (by simpa using g11) ?_
    simp[h4,h4']
  ·rw[if_neg ho] at g11
   simp;refine cK (by simpa using g7) ?_
   simp[hf,ho];refine cK (by simpa using g11) ?_
   simp
theorem Qtm (a b:List Txt) (hl:a.length+b.length<=1000000):Ev.Good Tryz.prog KW 18 [strs a,strs b] (strs (a++b)):=by
 refine Qb hKW QDn (by simp) ?_
 simp;rw[QKi (by simp),<- QKy,<- List.map_map,V9]
 simp;omega
theorem Qor (h:Qf) (s:List Txt) (hs:QP h) (hl:s.length<=100) (hw:okH h->s.length<=40->∀ t∈s,t.length<=1000) (hf:okH h->s.length<=40->∀ i (hi:i<s.length) v l,XA s[i]=some (v,l)->Z6 v=false->Y4 (Qs h s i)) :
  Ev.Good Tryz.prog KW 17 [hoV h,strs s] (.tup [strs (Qfy h s),hoV (QaY h s),.int .i64 (Qnd h s)]):=by
 refine Qb hKW QDo (by simp) ?_
 have g10:=Qdc hKW h hs;have g18:=Qtm s [] (by simp;omega)
 have g12:=Qgs h s hs hl hw hf;rw[QKv] at g18;simp;refine cK (by simpa using g10) ?_
 simp;refine cK (by simpa using g18) ?_
 simp;refine cK (by simpa using g12) ?_
 simp
theorem QEP (h:Qf) (s:List Txt) (cut:Int):Ev.Good Tryz.prog KW 6 [hoV h,strs s,.int .i64 cut] (.bool true):=by
 refine Qb hKW QFq (by simp) ?_
 have g16:=QB5 h s;have g8:=Qrj;by_cases hr:QfL h s
 ·obtain ⟨hfar,ho,h40⟩:=hr
  have hr:QfL h s:=⟨hfar,ho,h40⟩;obtain ⟨hs,h45,hw,hfew⟩:=Qbk hfar;have hfew:=hfew ho;by_cases c0:cut<0
  ·simp
   refine cK (by simpa using g16) ?_
   simp[hr,c0];refine cK (by simpa using g8) ?_
   simp
  ·by_cases c1:(s.length:Int)<cut
   ·simp
    refine cK (by simpa using g16) ?_
    simp[hr,c0,c1];intros;refine cK (by simpa using g8) ?_
    simp
   ·obtain ⟨c,rfl⟩:∃ c:Nat,cut=c:=⟨cut.toNat,by omega⟩
    have hc:c<=s.length:=by omega
    have hL:∀ s':List Txt,s'.length<=40->∀ h',okH h'->Qfy h' s'=Xd h' s' s'.length/\QaY h' s'=Qs h' s' s'.length/\Qnd h' s'=0:=fun s' h4 h' ho'=>by
     unfold Qfy QaY Qnd
     grind
    have ht:(s.take c).length=c:=by simp;omega
    have hd:(s.drop c).length=s.length-c:=by simp
    have gA:=Qor h s hs (by omega) (fun _ _=>hw) (fun _ _ i hi _ _ _ _=>hfew i (by omega))
    have gB:=Qor h (s.take c) hs (by omega) (fun _ _ t ht=>hw t (QKS ht)) (fun _ _ i hi _ _ _ _=>by rw[UF h s c i (by omega)];grind)
    have hoc:=Jw ho (s:=s) c;have gC:=Qor (Qs h s c) (s.drop c) (Qg hoc) (by omega) (fun _ _ t ht=>hw t (QK2 ht)) (fun _ _ i hi _ _ _ _=>by rw[UG];grind)
    rw[(hL s h40 h ho).1,(hL s h40 h ho).2.1,(hL s h40 h ho).2.2] at gA;have hB:=hL (s.take c) (by omega) h ho
    rw[hB.1,hB.2.1,hB.2.2,ht,QmH,UF h s c c (QKl _)] at gB;have hC:=hL (s.drop c) (by omega) _ hoc
    rw[hC.1,hC.2.1,hC.2.2,hd,UG,show c+(s.length-c)=s.length by omega] at gC
    have hadd:=Qqg h s c (s.length-c);rw[show c+(s.length-c)=s.length by omega] at hadd
    have l1:(Xd h s c).length=c:=by simp[Xd]
    have l2:(Xd (Qs h s c) (s.drop c) (s.length-c)).length=s.length-c:=by simp[Xd]
    rw[hadd] at gA;have g18:=Qtm (Xd h s c) (Xd (Qs h s c) (s.drop c) (s.length-c)) (by omega)
    have g14:=Qgn hKW (Xd h s c++Xd (Qs h s c) (s.drop c) (s.length-c)) (Xd h s c++Xd (Qs h s c) (s.drop c) (s.length-c)) (by simp;omega) (by simp;omega)
    have g15:=Qle hKW (Qs h s s.length) (Qs h s s.length);generalize Xd h s c=A at *;generalize Xd (Qs h s c) (s.drop c) (s.length-c)=B at *;generalize Qs h s c=Y at *;generalize Qs h s s.length=Z at *;have c2:¬ (s.length:Int)<(c:Int):=c1;have c3:¬ (100:Int)<(A.length:Int):=by omega
    simp;refine cK (by simpa using g16) ?_
    simp[hr,c2];intro _;refine cK (by simpa using gA) ?_
    simp;refine ⟨by omega,fun _=>cK (by simpa[QLQ] using gB) ?_⟩
    simp[c3];intro _;refine ⟨by omega,fun _=>cK (by simpa[List.map_drop] using gC) ?_⟩
    have c4:(B.length:Int)<=100:=by omega
    simp[c4];intro _;refine cK (by simpa using g18) ?_
    simp;refine cK (by simpa using g14) ?_
    simp;refine cK (by simpa using g15) ?_
    simp;refine cK (by simpa using g8) ?_
    simp
 ·simp
  refine cK (by simpa using g16) ?_
  simp[hr];refine cK (by simpa using g8) ?_
  simp
end Go.Pf
