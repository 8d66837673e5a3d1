/- Rows in maps: append. -/
import Derived.Test.YtenlhiebmnojhaaGreatDoorPartOne
import Derived.RangeFuncRecord
import Derived.AtR
import Derived.Laws.CopyRow
import Derived.Laws.IdiomCopy
import Derived.Maps.RangeRun
import Derived.RangeFuncIn
set_option linter.all false
namespace Go.Ev
open Go Go.RowKit
def Fr0 (w:World) (v0:Value) (b:Nat):Prop:=b<w.heap.size/\v0.ownBlock≠some b
structure Ww (w:World) (ok:Nat->Prop) (e:TypeId) (sz:Nat) (rows:List (List IV)) (v0:Value) (rows':List (List IV)) (v':Value) (xs':List Value) (w':World):Prop where
 keep:Q8 (Fr0 w v0) w w'
 own:w'.ownsRow 0 e sz v' rows'.length xs'
 blk:∀ b,v'.ownBlock=some b->v0.ownBlock=some b\/w.heap.size<=b
 size:∀ c∈rows',c.length=sz
 one:∀ u∈xs',u.oneCell'=true
 cells:∀ i j c x u,rows'[i]?=some c->c[j]?=some x->xs'[i*sz+j]?=some u->QF (fun b=>(ok b\/v0.ownBlock=some b)/\v'.ownBlock≠some b) w' x u
 le:rows.length<=rows'.length
 same:rows'.length=rows.length->v'=v0
section
variable {P:Program} {ok0:Nat->Prop} {N:Fm} {w0:XH} {lk:Nat->AV} {lo:Nat->Option AO} {a:Act} {w:World} {L:Nat->Lay}
theorem Jm {w:World} {base:Nat} {e:TypeId} {sz:Nat} {v:Value} {n:Nat} {xs:List Value} (h:w.ownsRow base e sz v n xs):isSl v=true:=by
 rcases h.2 with ⟨hv,_⟩ | ⟨g,cap,cur,hv,_⟩<;>rw[hv]<;>rfl
theorem YH.lt' {Fr w e sz v n xs} (h:YH Fr w e sz v n xs) {b} (hb:v.ownBlock=some b):b<w.heap.size:=(h.lt b hb).2
theorem QlP {id:Nat} {o:AO} {l':Lay} {v0 v':Value} (h:Rel ok0 N w0 lk lo a w L) (hok0:∀ b,¬ w0.fr b->ok0 b) {o0:AO} (hid:lo id=some o0) (h0:∀ b,v0.ownBlock=some b->(L id).has b/\¬ w0.fr b)
  (hl':∀ b,l'.has b->v'.ownBlock=some b\/((L id).has b/\v0.ownBlock≠some b)) {b:Nat} (hb:(okL ok0 lo L b\/v0.ownBlock=some b)/\v'.ownBlock≠some b):okL ok0 (Za lo id o) (QV L id l') b:=by
 obtain ⟨h1,h2⟩:=hb;refine ⟨?_,fun i oi hi he=>?_⟩
 ·rcases h1 with h1 | h1
  ·exact h1.1
  exact hok0 b (h0 b h1).2
 ·by_cases hii:i=id
  ·grind
  ·simp only[Za,hii,if_false] at hi;simp only[QV,hii,if_false] at he;rcases h1 with h1 | h1
   ·exact h1.2 i oi hi he
   ·exact h.apart i id oi o0 b hii hi hid he (h0 b h1).1
theorem ZY {α:Type} {k:MK} {y:α}:∀ {l:List (MK × α)} {i:Nat} {q:MK × α},(zn k y l)[i]?=some q->q.1≠k->l[i]?=some q
 | [],i,q,h,hn=>by
   cases i with
   | zero=>simp[zn] at h;subst h;exact absurd rfl hn
   | succ i=>simp[zn] at h
 | p::r,i,q,h,hn=>by
   unfold zn at h;split at h
   ·grind
   cases i with
   | zero=>simpa using h
   | succ i=>exact ZY (l:=r) (by simpa using h) hn
theorem Yc {α:Type} {k:MK} {y:α}:∀ {l:List (MK × α)},(∀ (i j:Nat) (p q:MK × α),l[i]?=some p->l[j]?=some q->p.1=q.1->i=j)->∀ {i:Nat} {q:MK × α},(zn k y l)[i]?=some q->q.1=k->q=(k,y)
 | [],_,i,q,h,_=>by
   cases i with
   | zero=>simp[zn] at h;exact h.symm
   | succ i=>simp[zn] at h
 | p::r,hd,i,q,h,hk=>by
   unfold zn at h;split at h
   ·rename_i hp;cases i with
    | zero=>simp at h;exact h.symm
    | succ i =>
      have:=hd 0 (i+1) p q rfl (by simpa using h) (by rw[hp,hk]);omega
   rename_i hp;cases i with
   | zero=>simp at h;subst h;exact absurd hk hp
   | succ i=>exact Yc (l:=r) (fun i j p q a b c=>by have:=hd (i+1) (j+1) p q (by simpa using a) (by simpa using b) c;omega) (by simpa using h) hk
theorem Qci {α k} {y:α}:∀ {l:List (MK × α)} {i},i<l.length->((zn k y l)[i]?).map (·.1)=(l[i]?).map (·.1)
 | [],i,h=>by simp at h
 | p::r,i,h=>by
   unfold zn;split
   ·grind
   cases i with
   | zero=>simp
   | succ i=>simpa using Qci (l:=r) (i:=i) (by simpa using h)
theorem Qcj {α k} {y:α}:∀ {l:List (MK × α)} {i} {p:MK × α},(zn k y l)[i]?=some p->l.length<=i->p.1=k
 | [],i,p,h,_=>by
   cases i with
   | zero=>simp[zn] at h;subst h;rfl
   | succ i=>simp[zn] at h
 | q::r,i,p,h,hi=>by
   unfold zn at h;split at h
   ·grind
   cases i with
   | zero=>simp at hi
   | succ i=>exact Qcj (l:=r) (by simpa using h) (by simpa using hi)
theorem Qch {α k} {y:α}:∀ (l:List (MK × α)),l.length<=(zn k y l).length
 | []=>by simp[zn]
 | p::r=>by
   unfold zn;split
   ·simp
   have:=Qch (k:=k) (y:=y) r;simp only[QKV];omega
theorem Qi4 {id:Nat} {e:TypeId} {sz:Nat} {kvs:List (MK × List (List IV))} {pend:Option MK} {b:Nat} {vals:List (MK × Value)} (h:Rel ok0 N w0 lk lo a w L) (hid:lo id=some (.yo e sz kvs pend)) (hL:L id=.map b vals) (k:MK) :
  ∃ xs,YH w0.fr w e sz ((Qh k vals).getD (.slice none 0 0)) ((Qh k kvs).getD []).length xs/\((Qh k vals).getD (.slice none 0 0)).ownBlock≠some b/\(∀ c∈(Qh k kvs).getD [],c.length=sz)/\(∀ u∈xs,u.oneCell'=true) /\
   (∀ (i j:Nat) (c:List IV) (x:IV) (u:Value),((Qh k kvs).getD [])[i]?=some c->c[j]?=some x->xs[i*sz+j]?=some u->QF (okL ok0 lo L) w x u) /\
   (∀ g,((Qh k vals).getD (.slice none 0 0)).ownBlock=some g->(L id).has g/\∀ (j:Nat) (q:MK × Value),vals[j]?=some q->q.1≠k->q.2.ownBlock≠some g):=by
 have hob:=h.y9 _ _ hid;rw[hL] at hob;obtain ⟨hF,_,hdd,hkv2,hrow,hap⟩:=hob;cases hf:Qh k vals with
 | none =>
   have hkn:Qh k kvs=none:=by
    cases hk:Qh k kvs with
    | none=>rfl
    | some y =>
      obtain ⟨i,hi⟩:=Z5 hk;obtain ⟨q,hq,hqk⟩:=Qn7 hkv2 hi;exact absurd hqk (qJ hf i q hq)
   rw[hkn];exact ⟨[],⟨⟨by simp,.inl ⟨rfl,rfl⟩⟩,fun b hb=>by simp[Value.ownBlock] at hb⟩,by simp[Value.ownBlock],by simp,by simp,by simp,fun g hg=>by simp[Value.ownBlock] at hg⟩
 | some v0 =>
   obtain ⟨i,hi⟩:=Z5 hf;obtain ⟨p,hp,hpk⟩:=Qal hkv2 hi;simp only at hpk;have hp':kvs[i]?=some (k,p.2):=by rw[hp,<- hpk]
   have hk:Qh k kvs=some p.2:=Vf hdd hp';grind
theorem QmN {id:Nat} {e:TypeId} {sz:Nat} {kvs:List (MK × List (List IV))} {b:Nat} {vals:List (MK × Value)} {k:MK} {rows':List (List IV)} {v':Value} {xs':List Value} {w':World} (h:Rel ok0 N w0 lk lo a w L) (hok0:∀ b,¬ w0.fr b->ok0 b)
  (hid:lo id=some (.yo e sz kvs none)) (hL:L id=.map b vals) (hr:Ww w (okL ok0 lo L) e sz ((Qh k kvs).getD []) ((Qh k vals).getD (.slice none 0 0)) rows' v' xs' w') :
  Rel ok0 N w0 lk (Za lo id (.yo e sz (zn k rows' kvs) (some k))) a w' (QV L id (.map b (zn k v' vals))) /\
  ∀ ok,QA ok w' (Za lo id (.yo e sz (zn k rows' kvs) (some k))) (QV L id (.map b (zn k v' vals))) (.yn id k rows'.length) v':=by
 obtain ⟨xs,g1,g2,g3,g4,g5,g6⟩:=Qi4 h hid hL k;have hob:=h.y9 _ _ hid;rw[hL] at hob;obtain ⟨hF,⟨es,clock,hb,n,hn,hmr,hnew,hval⟩,hdd,hkv2,hrow,hap⟩:=hob;generalize hv0:(Qh k vals).getD (.slice none 0 0)=v0 at hr g1 g2 g6;generalize hrows:(Qh k kvs).getD []=rows at hr g1 g3 g5;have hblt:=(QKQ.1 hb).1;have h0:∀ b,v0.ownBlock=some b->(L id).has b/\¬ w0.fr b:=fun b hb=>⟨(g6 b hb).1,g1.free b hb⟩;have hvd:=qB hkv2 hdd;have mem:∀ (p:MK × Value),p∈zn k v' vals->p=(k,v')\/∃ j:Nat,vals[j]?=some p/\p.1≠k:=by
  intro p hp;obtain ⟨j,hj⟩:=QLj hp;by_cases hpk:p.1=k
  ·exact .inl (Yc hvd hj hpk)
  exact .inr ⟨j,ZY hj hpk,hpk⟩
 have hl2:∀ g,(Lay.map b (zn k v' vals)).has g->v'.ownBlock=some g\/((L id).has g/\v0.ownBlock≠some g):=by
  grind
 have hl':∀ g,(Lay.map b (zn k v' vals)).has g->(L id).has g\/w.heap.size<=g:=by
  intro g hg;rcases hl2 g hg with h1 | ⟨h1,_⟩
  ·exact (hr.blk g h1).imp (fun h=>(h0 g h).1) (fun h=>h)
  exact .inl h1
 have hg:Qlj (L id).has w w':=⟨hr.keep.os,hr.keep.tape,hr.keep.output,hr.keep.size,fun k hk hn=>hr.keep.block k ⟨hk,fun e=>hn (h0 k e).1⟩⟩;have hsl':=Jm hr.own;have hf1:=XS (k:=k) (y:=rows') kvs;have hf2:=XS (k:=k) (y:=v') vals;have hok:∀ g,okL ok0 lo L g->g<w.heap.size->okL ok0 (Za lo id (.yo e sz (zn k rows' kvs) (some k))) (QV L id (.map b (zn k v' vals))) g:=fun g hk xa=>h.okL_turn hid hl' hk xa;have heq:∀ g,okL ok0 lo L g->g<w.heap.size->w'.heap[g]?=w.heap[g]?:=fun g hk xa=>hg.block g xa (hk.2 id _ hid);refine ⟨h.turn id hid hg hl' (fun z u hz hu=>?_) (fun _=>?_),fun ok=>?_⟩
 ·obtain ⟨b3,vals3,hL3,hu⟩:=VX hid hz hu;rw[hL] at hL3;injection hL3 with q1 q2;subst q1 q2;rcases hu with ⟨rfl,rfl⟩ | ⟨k3,n3,rfl,h3,h3n,h4⟩
  ·grind
  by_cases hk3:k3=k
  ·subst hk3;rw[hrows] at h3n h4;rw[hv0] at h4;have hle:=hr.le;refine .yn id k3 n3 e sz (zn k3 rows' kvs) (some k3) b (zn k3 v' vals) u (by simp[Za]) (by simp[QV]) h3 (by rw[hf1];simp only[QLB];omega) (fun hl=>?_);rw[hf1] at hl;rw[hf2];simp only[QLB] at hl |-;have:rows'.length=rows.length:=by omega
   rw[hr.same this];exact h4 (by omega)
  have e1:=Vg (y:=rows') hk3 kvs;have e2:=Vg (y:=v') hk3 vals;grind
 ·have hkl:n=kvs.length:=by
   rcases QLU n kvs.length with xa | hge
   ·have:=hnew n _ (QKF xa) (QKJ _);cases this
   omega
  refine ⟨hF,⟨es,clock,(hr.keep.block b ⟨hblt,g2⟩).trans hb,n,by have:=Qch (k:=k) (y:=rows') kvs;omega,⟨hmr.size,fun i e he=>?_,hmr.stamp,hmr.clk⟩,fun i p hp hi=>?_,fun i e q he hq hqk=>?_⟩,UB hdd,QlV hkv2,fun i p q hp hq=>?_,fun i j p q g hij hp hq hpg hqg=>?_⟩
  ·have hi:=(QKQ.1 he).1;rw[hmr.size,hkl] at hi;rw[Qci hi];exact hmr.keys i e he
  ·rw[Qcj hp (by omega)]
  ·have hqk':q.1≠k:=fun e=>hqk (by rw[e]);exact hval i e q he (ZY hq hqk') (by simp)
  ·have hpq:q.1=p.1:=by
    obtain ⟨p',hp',hpq⟩:=Qal (QlV (k:=k) (y:=rows') (y':=v') hkv2) hq;rw[hp] at hp';injection hp' with hp';rw[hp',hpq]
   by_cases hpk:p.1=k
   ·have e1:=Yc hdd hp hpk;have e2:=Yc hvd hq (by rw[hpq,hpk]);subst e1 e2;refine ⟨xs',⟨hr.own,fun g hg=>(hr.blk g hg).elim (fun h1=>g1.free g h1) (fun h2=>h.frlt h2)⟩,fun hbad=>?_,hr.size,hr.one,fun i j c x u h1 h2 h3=>(hr.cells i j c x u h1 h2 h3).mono fun g hg _=>⟨QlP (l':=.map b (zn k v' vals)) h hok0 hid h0 hl2 hg,rfl⟩⟩;rcases hr.blk b hbad with h1 | h1
    ·exact g2 h1
    omega
   have hqk:q.1≠k:=by rw[hpq];exact hpk
   have hp':=ZY hp hpk;have hq':=ZY hq hqk;obtain ⟨ys,h1,h2,h3,h4,h5⟩:=hrow i p q hp' hq';refine ⟨ys,h1.stay fun g hg=>hr.keep.block g ⟨h1.lt' hg,fun hbad=>(g6 g hbad).2 i q hq' hqk hg⟩,h2,h3,h4,fun i j c x u a1 a2 a3=>(h5 i j c x u a1 a2 a3).mono fun g hg xa=>⟨hok g hg xa,heq g hg xa⟩⟩
  have clash:∀ (i j:Nat) (q:MK × Value),(zn k v' vals)[j]?=some q->q.1≠k->v'.ownBlock=some g->q.2.ownBlock=some g->False:=by
   intro i j q hq hqk h1 h2;have hq':=ZY hq hqk;rcases hr.blk g h1 with h3 | h3
   ·exact (g6 g h3).2 j q hq' hqk h2
   obtain ⟨p',hp',_⟩:=Qal hkv2 hq';obtain ⟨ys,h4,_⟩:=hrow j p' q hp' hq';have:=h4.lt' h2;omega
  by_cases hpk:p.1=k
  ·have hqk:q.1≠k:=fun e=>hij (UB hvd i j p q hp hq (by rw[hpk,e]));have e1:=Yc hvd hp hpk;subst e1;exact clash i j q hq hqk hpg hqg
  by_cases hqk:q.1=k
  ·have e1:=Yc hvd hq hqk;subst e1;exact clash j i p hp hpk hqg hpg
  exact hap i j p q g hij (ZY hp hpk) (ZY hq hqk) hpg hqg
 grind
theorem QqH {id:Nat} {e:TypeId} {sz bytes:Nat} {x y:Opd} {o:Oper} {s f:Prop} {v:AV} {up:Option (Nat × AO)} (h:Rel ok0 N w0 lk lo a w L) (hok0:∀ b,¬ w0.fr b->ok0 b) (hf:QvW P e sz bytes x y o.op=true) {i:Nat} {k:MK} {n:Nat} (hxv:x.av lk=.yn i k n)
  (he:Wt lo id e sz bytes (x.av lk) (y.av lk)=.ok s f v up) (hs:s):f/\QC P o ok0 N w0 lk lo a w v up:=by
 obtain ⟨x',y',t,ti,z,ho,hx,hy,hu,hi,hsz,hby,hz,hzs,hpos⟩:=Qbu hf;have rx:=Opd.rep h hx;have ry:=Opd.rep h hy;rw[hxv] at rx he;generalize y.av lk=yv at ry he;generalize hex:a.eval x'=vv at rx;generalize hey:a.eval y'=yy at ry;have run:∀ u w',(Builtin.append_ #[t,t] o.type #[vv,yy]).run P w=.ok u w'->(execOp a.eval o).run P w=.ok (.value u) w':=by
  intro u w' hr;simp[execOp,ho,resolve,invoke,builtin,hex,hey,hr]
 obtain ⟨sy,ys,rfl⟩:∃ sy ys,yv=.iv (.sl sy ys):=by
  cases yv with
  | iv q=>cases q<;>first | exact ⟨_,_,rfl⟩ | simp[Wt] at he
  | _=>simp[Wt] at he
 obtain ⟨b,vals,hob,hL,hvv⟩:∃ (b:Nat) (vals:List (MK × Value)),(∃ e' sz' kvs pend,lo i=some (.yo e' sz' kvs pend)/\(((Qh k kvs).getD []).length=n->vv=(Qh k vals).getD (.slice none 0 0)))/\L i=.map b vals/\isSl vv=true:=by
  grind
 obtain ⟨e',sz',kvs,pend,hob,hvn⟩:=hob;simp only[Wt] at he;split at he
 ·rename_i hii;subst hii;rw[hob] at he;cases pend with
  | some pk=>simp at he
  | none =>
    simp only at he;split at he
    ·rename_i hees;obtain ⟨rfl,rfl⟩:=hees;cases he;obtain ⟨rfl,hlen,hmax,hbytes⟩:=hs;have hv0:=hvn hlen;subst hv0;obtain ⟨xs,g1,g2,g3,g4,g5,g6⟩:=Qi4 h hob hL k;generalize hvv0:(Qh k vals).getD (.slice none 0 0)=vv at *;have hfree:∀ b,okL ok0 lo L b->vv.ownBlock≠some b:=fun b hb hbad=>hb.2 i _ hob (g6 b hbad).1
     have hyshape:((∃ a0,yy=.slice a0 0 0)/\ys=[])\/∃ (b off cap:Nat) (u:Nat->Value),yy=.slice (some ⟨b,off,none⟩) ys.length cap/\(∀ c∈ys,c.length=sy) /\
       (∀ k,k<ys.length*sy->okL ok0 lo L b/\w.cell? ⟨b,off+k,none⟩=some (u k)/\(u k).oneCell'=true) /\
       (∀ (i j:Nat) (c:List IV) (x:IV),ys[i]?=some c->c[j]?=some x->QF (okL ok0 lo L) w x (u (i*sy+j))):=by
      cases ry with
      | iv _ _ r=>cases r with
        | sl _ _ b off cap u hl hc hes hcell hxx=>exact .inr ⟨b,off,cap,u,rfl,hes,hcell,hxx⟩
        | _=>grind
     generalize hrw:(Qh k kvs).getD []=rows at *
     have fin:∀ (v':Value) (w':World) (xs':List Value),(Builtin.append_ #[t,t] o.type #[vv,yy]).run P w=.ok v' w'->Ww w (okL ok0 lo L) e' sy rows vv (rows++ys) v' xs' w' ->
       True/\QC P o ok0 N w0 lk lo a w (.yn i k (n+ys.length)) (some (i,.yo e' sy (zn k (rows++ys) kvs) (some k))):=by
      intro v' w' xs' hr hb;obtain ⟨r1,r2⟩:=QmN (k:=k) (rows':=rows++ys) (v':=v') (xs':=xs') h hok0 hob hL (by rw[hrw,hvv0];exact hb);have e1:n+ys.length=(rows++ys).length:=by rw[QKP,hlen]
      rw[e1];exact ⟨trivial,_,v',w',_,run _ _ hr,.inl rfl,r1,r2 _⟩
     have hown:=g1.own;by_cases hm:ys.length=0
     ·have hnil:ys=[]:=QKR hm;subst hnil;have hvshape:∃ base cap,vv=.slice base rows.length cap/\rows.length<=cap:=by
       rcases hown.2 with ⟨hv',h00⟩ | ⟨g,cap,cur,hv',hB,hgg,hnc,hcm,hcs',htake⟩
       all_goals grind
      obtain ⟨base,cap,hvb,hbc⟩:=hvshape
      have hr:=XM (P:=P) (w:=w) (ty:=o.type) hu hi base rows.length cap hbc yy (by
       rcases hyshape with ⟨⟨a0,h1⟩,_⟩ | ⟨b,off,c,u,h1,_⟩
       ·cases a0 with
        | none=>exact .inl h1
        | some a0=>exact .inr ⟨_,_,h1⟩
       exact .inr ⟨_,_,h1⟩)
      rw[<- hvb] at hr;refine fin vv w xs hr ⟨Q8.refl _ _,by simpa using hown,fun b hb=>.inl hb,by simpa using g3,g4,fun i j c x u h1 h2 h3=>?_,by simp,fun _=>rfl⟩;rw[QLY] at h1;exact (g5 i j c x u h1 h2 h3).mono fun b hb _=>⟨⟨.inl hb,hfree b hb⟩,rfl⟩
     rcases hyshape with ⟨_,h0⟩ | ⟨b,off,c,u,hyy,hyl,hyc,hyx⟩
     ·exact absurd (by rw[h0];rfl) hm
     let news:=(List.range (ys.length*sy)).map u
     have hnl:news.length=ys.length*ti.size:=by simp[news,hsz]
     have hnews:∀ j u',news[j]?=some u'->w.cell? ((⟨b,off,none⟩:Addr).add j)=some u':=by
      intro j u' hj;simp only[news,QKN,QKK] at hj;obtain ⟨k',hk',rfl⟩:=hj;obtain ⟨h3,h4⟩:=QKG.1 hk';simp at h3 h4;subst h4;rw[addr_add];exact (hyc j h3).2.1
     have hn1:∀ u'∈news,u'.oneCell'=true:=by
      grind
     have hnx:∀ (i j:Nat) (c:List IV) (x:IV) (u':Value),ys[i]?=some c->c[j]?=some x->news[i*sy+j]?=some u'->QF (okL ok0 lo L) w x u':=by
      grind
     have hml:rows.length+ys.length<=9223372036854775807:=by simp only[maxLen] at hmax;omega
     have hxl:xs.length=rows.length*sy:=hown.1;have xc:∀ c∈rows++ys,c.length=sy:=fun c hc=>(QK2.1 hc).elim (g3 c) (hyl c);have hone:∀ u∈xs++news,u.oneCell'=true:=fun c hc=>(QK2.1 hc).elim (g4 c) (hn1 c);have hcells:∀ (i j:Nat) (c:List IV) (x:IV) (u:Value),(rows++ys)[i]?=some c->c[j]?=some x->(xs++news)[i*sy+j]?=some u->QF (okL ok0 lo L) w x u:=by
      intro i j c x u' h1 h2 h3;have hcl:c.length=sy:=xc c (QKW h1);have hj:j<sy:=by rw[<- hcl];exact (QKG.1 h2).1
      rcases QLU i rows.length with xa | hge
      ·rw[QKS xa] at h1;have:(i+1)*sy<=rows.length*sy:=QLc sy xa;grind
      rw[QKO hge] at h1;have:rows.length*sy<=i*sy:=QLc sy hge;rw[QKO (by omega),hxl,show i*sy+j-rows.length*sy=(i-rows.length)*sy+j by rw[Nat.sub_mul];omega] at h3;exact hnx _ _ c x u' h1 h2 h3
     have fin2:∀ (v':Value) (w':World),(Builtin.append_ #[t,t] o.type #[vv,yy]).run P w=.ok v' w'->Q8 (Fr0 w vv) w w'->w'.ownsRow 0 e' sy v' (rows.length+ys.length) (xs++news) ->
       (∀ b,v'.ownBlock=some b->vv.ownBlock=some b\/w.heap.size<=b) ->
       True/\QC P o ok0 N w0 lk lo a w (.yn i k (n+ys.length)) (some (i,.yo e' sy (zn k (rows++ys) kvs) (some k))):=by
      intro v' w' hr hk ho hbl;refine fin v' w' (xs++news) hr ⟨hk,by rw[QKP];exact ho,hbl,xc,hone,fun i j c x u' h1 h2 h3=>?_,by simp,fun h=>absurd h (by rw[QKP];omega)⟩;refine (hcells i j c x u' h1 h2 h3).mono fun b hb xa=>⟨⟨.inl hb,fun hbad=>?_⟩,hk.block b ⟨xa,hfree b hb⟩⟩;grind
     have fresh:∀ (cap':Nat) (cells:List Value),rows.length+ys.length<=cap'->cap'<=maxLen->cells.length=cap'*sy->cells.take ((rows.length+ys.length)*sy)=xs++news ->
       (Builtin.append_ #[t,t] o.type #[vv,yy]).run P w=.ok (.slice (some ⟨w.heap.size,0,none⟩) (rows.length+ys.length) cap') (w.drew.alloc (.cells cells.toArray e')) ->
       True/\QC P o ok0 N w0 lk lo a w (.yn i k (n+ys.length)) (some (i,.yo e' sy (zn k (rows++ys) kvs) (some k))):=by
      intro cap' cells h1 h2 h3 h4 hr;refine fin2 _ _ hr ⟨rfl,rfl,rfl,by simp,fun k hk=>Ev.alloc_old w.drew _ _ hk.1⟩ ⟨?_,.inr ⟨w.heap.size,cap',cells.toArray,rfl,QLV _,heap_alloc_new w.drew _,h1,h2,by simpa using h3,by simpa using h4⟩⟩ (fun b hb=>?_)
      ·rw[QKP,hxl,hnl,hsz,QLl]
      simp only[Value.ownBlock,Option.some.injEq] at hb;exact .inr (by omega)
     have hlen':rows.length=n:=hlen;rcases hown.2 with ⟨hv',h00⟩ | ⟨g,cap,cur,hv',hB,hgg,hnc,hcm,hcs',htake⟩
     ·have hxs0:xs=[]:=QKR (by rw[hxl,h00];simp);have hr:=run_append_nil (P:=P) w t o.type e' ti z hu hi hz ⟨b,off,none⟩ ys.length c news hnl hnews (by omega) (by omega) (by rw[hby];rw[<- hlen',h00,QKY] at hbytes;omega);have hge:=grownCap_ge w ys.length 0 e';have hle:=grownCap_le_maxLen w ys.length 0 e' (by omega);have hzl:(Builtin.zeroCells z.cells (grownCap w ys.length 0 e'-ys.length)).toList.length=(grownCap w ys.length 0 e'-ys.length)*sy:=by
       rw[QL5,size_zeroCells,hzs]
      refine fresh (grownCap w ys.length 0 e') (news++(Builtin.zeroCells z.cells (grownCap w ys.length 0 e'-ys.length)).toList) (by omega) hle ?_ ?_ ?_
      ·rw[QKP,hnl,hzl,hsz,<- QLl]
       congr 1;omega
      ·grind
      rw[h00,QKY,hv',hyy,hr]
      congr 3;apply Array.ext';simp
     have hob':vv.ownBlock=some g:=by rw[hv'];rfl
     by_cases hroom:rows.length+ys.length<=cap
     ·have hfit:rows.length*ti.size+news.length<=cur.size:=by rw[hnl,hcs',hsz,<- QLl];exact QLc _ hroom
      have hr:=run_append_room (P:=P) w t o.type e' ti hu hi g rows.length cap cur hgg ⟨b,off,none⟩ ys.length c news hnl hnews hn1 hroom hfit;rw[hsz] at hr hfit;have hset:=setRow_heap w g cur (cur.toList.take (rows.length*sy)++news++cur.toList.drop (rows.length*sy+news.length)).toArray e' (0,0) hgg;have hlen:=YS cur.toList news (rows.length*sy) (by simpa using hfit);have hgb:=Yp w g (cur.toList.take (rows.length*sy)++news++cur.toList.drop (rows.length*sy+news.length)).toArray;refine fin2 _ _ (by rw[hv',hyy];exact hr) ⟨hgb.os,hgb.tape,hgb.output,hgb.size,fun k hk=>hgb.block k hk.1 (fun e=>hk.2 (by rw[hob'];exact e.symm))⟩ ⟨?_,.inr ⟨g,cap,_,rfl,hB,hset,hroom,hcm,?_,?_⟩⟩ (fun b hb=>.inl (by rw[hob'];exact hb))
      ·rw[QKP,hxl,hnl,hsz,QLl]
      ·simp only[QLK,hlen,QL5];exact hcs'
      simp only[];rw[htake];have:(rows.length+ys.length)*sy=(xs++news).length:=by rw[QKP,hxl,hnl,hsz,QLl]
      rw[this];exact List.take_left
     have holds:∀ j u,xs[j]?=some u->w.cell? ((⟨g,0,none⟩:Addr).add j)=some u:=hown.cells (g:=g) hob'
     have hr:=run_append_grow (P:=P) w t o.type e' ti z hu hi hz ⟨g,0,none⟩ rows.length cap xs (by rw[hxl,hsz]) holds ⟨b,off,none⟩ ys.length c news hnl hnews (by omega) (by omega)
      (growslice_fits (by omega) (by rw[hby,hlen'];exact hbytes))
     have hge:=grownCap_ge w (rows.length+ys.length) cap e';have hle:=grownCap_le_maxLen w (rows.length+ys.length) cap e' (by omega);have hzl:(Builtin.zeroCells z.cells (grownCap w (rows.length+ys.length) cap e'-(rows.length+ys.length))).toList.length=(grownCap w (rows.length+ys.length) cap e'-(rows.length+ys.length))*sy:=by
      rw[QL5,size_zeroCells,hzs]
     have htot:(xs++news).length=(rows.length+ys.length)*sy:=by rw[QKP,hxl,hnl,hsz,QLl]
     refine fresh (grownCap w (rows.length+ys.length) cap e') (xs++news++(Builtin.zeroCells z.cells (grownCap w (rows.length+ys.length) cap e'-(rows.length+ys.length))).toList) hge hle ?_ ?_ ?_
     ·rw[QKP,htot,hzl,<- QLl]
      congr 1;omega
     ·rw[<- htot]
      exact List.take_left
     rw[hv',hyy,hr]
     congr 3;apply Array.ext';simp
    cases he
 ·cases he
theorem Quh {id e sz bytes x y o s f v up} (h:Rel ok0 N w0 lk lo a w L) (hok0:∀ b,¬ w0.fr b->ok0 b) (hf:QvW P e sz bytes x y o.op=true)
  (he:Wt lo id e sz bytes (x.av lk) (y.av lk)=.ok s f v up) (hs:s):f/\QC P o ok0 N w0 lk lo a w v up:=by
 by_cases hm:∃ i k n,x.av lk=.yn i k n
 ·obtain ⟨i,k,n,hm⟩:=hm;exact QqH h hok0 hf hm he hs
 exact QqI h hok0 hf (fun i k n hh=>hm ⟨i,k,n,hh⟩) he hs
end
section
variable {P:Program} {ok0:Nat->Prop} {N:Fm} {w0:XH} {lk:Nat->AV} {lo:Nat->Option AO} {a:Act} {w:World} {L:Nat->Lay} {o:Oper}
variable {s f:Prop} {v:AV} {up:Option (Nat × AO)}
theorem QlN {op} (h:Rel ok0 N w0 lk lo a w L) (hok0:∀ b,¬ w0.fr b->ok0 b) (hf:op.fits P o.op=true)
  (he:ev lk lo op=.ok s f v up) (hs:s):f/\QC P o ok0 N w0 lk lo a w v up:=by
 cases op with
 | xf x =>
   simp only[ev] at he;injection he with e1 e2 e3 e4;subst e2 e3 e4;exact ⟨trivial,QtK h hf⟩
 | nilo id e sz =>
   simp only[ev] at he;split at he
   ·rename_i hid;injection he with e1 e2 e3 e4;subst e2 e3 e4;exact ⟨trivial,Qqv h hid hf⟩
   cases he
 | pick c x y=>exact Qqu h hf he
 | ext x i=>exact Qt6 h hf he
 | not x=>exact QtI h hf he
 | bin op x y=>exact Que h hf he hs
 | beq n x y=>exact Quf h hf he
 | cvi k x=>exact Qt9 h hf he
 | i2s x=>exact Qt3 h hf he hs
 | nilc x=>exact Qqw h hf he
 | fld off x=>exact Qt4 h hf he hs
 | ldi n ag x=>exact QtW h hf he hs
 | ldo id n ag x=>exact QtV h hf he hs
 | sto id n x y=>exact QtE h hf he hs
 | ixi sz x i=>exact QtZ h hf he hs
 | ixo id sz x i=>exact QtY h hf he hs
 | ixs x i=>exact QtX h hf he hs
 | sli sz x l h'=>exact QtG h hf he hs
 | sls x l h'=>exact QtF h hf he hs
 | boxi x=>exact QqG h hok0 hf he
 | boxo id x=>exact QqF h hf he
 | alo id zs =>
   simp only[ev] at he;split at he
   ·rename_i hid;injection he with e1 e2 e3 e4;subst e2 e3 e4;exact ⟨trivial,Qui h hid hf⟩
   cases he
 | bld zs parts =>
   simp only[ev] at he;split at he
   ·rename_i cs hcs;injection he with e1 e2 e3 e4;subst e2 e3 e4;exact ⟨trivial,Quc h hf hcs⟩
   cases he
 | bsl sz parts =>
   simp only[ev] at he;split at he
   ·rename_i rows hr;split at he
    ·rename_i es hes;injection he with e1 e2 e3 e4;subst e2 e3 e4;exact ⟨trivial,Qub h hok0 hf hr hes⟩
    cases he
   cases he
 | bso id e sz parts =>
   simp only[ev] at he;split at he
   ·rename_i rows hid hr;injection he with e1 e2 e3 e4;subst e2 e3 e4;exact ⟨trivial,Qua h hid hf hr⟩
   cases he
 | len x=>exact QtU h hf he
 | leno id x=>exact QqC h hf he hs
 | lst x=>exact QtP h hf he
 | app id e sz bytes x y=>exact Quh h hok0 hf he hs
 | call g args ids=>cases he
 | y3 g args ids id=>cases he
 | yz x args ids=>cases he
 | yw g x args id=>cases he
 | yu x args id=>cases he
 | yr g args id=>cases he
 | yx g args ids=>cases he
 | cpy id x y=>cases he
 | y4 x args ids=>cases he
 | yy op=>exact QzG h hok0 hf he hs
end
def Opd.tmps:Opd->List Nat
 | .t n=>[n]
 | _=>[]
def QDA:Option Opd->List Nat
 | some x=>x.tmps
 | none=>[]
def YOp.tmps:YOp->List Nat
 | .no | .mkm _ _ | .zslv _ | .mkz _ _=>[]
 | .rngm _ x | .ent _ x=>x.tmps
 | .mx _ x y | .lkr _ _ x y | .ixg _ x y=>x.tmps++y.tmps
 | .mks _ _ _ zs n=>zs.flatMap (·.tmps)++n.tmps
 | .lki _ z x k | .lkd _ _ z x k | .ment _ _ z x k=>z.tmps++x.tmps++k.tmps
 | .mdlz _ _ x k=>x.tmps++k.tmps
 | .mupz _ _ x k v | .mupd _ _ x k v | .mupr _ _ x k v | .ests _ x k v=>x.tmps++k.tmps++v.tmps
 | .bla _ parts=>parts.flatMap (·.tmps)
 | .mkf _ fs cs=>fs.flatMap (·.tmps)++cs.flatMap (·.tmps)
 | .neg x | .lenm x | .lenmo _ x=>x.tmps
 | .eqs _ _ x y | .ixa _ _ x y | .apz _ _ _ x y=>x.tmps++y.tmps
 | .sl3 _ x y z=>x.tmps++y.tmps++z.tmps
 | .isn _ x | .fgt _ x=>x.tmps
 | .lkc _ zs x k=>zs.flatMap (·.tmps)++x.tmps++k.tmps
def YOp.y9:YOp->List Nat
 | .mkz id _ | .mupz id _ _ _ _ | .mdlz id _ _ _ | .mks id _ _ _ _ | .mkm id _ | .lkd id _ _ _ _ | .lkr id _ _ _ | .mupd id _ _ _ _ | .ment id _ _ _ _ | .ests id _ _ _ | .mupr id _ _ _ _ | .rngm id _ | .ent id _ | .lenmo id _=>[id]
 | _=>[]
def YOp.sets:YOp->List Nat
 | .mkz id _ | .mupz id _ _ _ _ | .mdlz id _ _ _ | .mks id _ _ _ _ | .mkm id _ | .mupd id _ _ _ _ | .ment id _ _ _ _ | .ests id _ _ _ | .mupr id _ _ _ _ | .rngm id _=>[id]
 | _=>[]
def AOp.tmps:AOp->List Nat
 | .xf x | .ext x _ | .not x | .cvi _ x | .i2s x | .nilc x | .fld _ x | .ldi _ _ x | .ldo _ _ _ x | .boxi x | .boxo _ x | .len x | .leno _ x | .lst x=>x.tmps
 | .nilo _ _ _=>[]
 | .pick c x y=>c.tmps++x.tmps++y.tmps
 | .bin _ x y | .beq _ x y | .sto _ _ x y | .ixi _ x y | .ixo _ _ x y | .ixs x y | .app _ _ _ _ x y | .cpy _ x y=>x.tmps++y.tmps
 | .sli _ x l h | .sls x l h=>x.tmps++QDA l++QDA h
 | .alo _ zs=>zs.flatMap (·.tmps)
 | .bld zs parts=>zs.flatMap (·.tmps)++parts.flatMap (·.2.2.tmps)
 | .bsl _ parts | .bso _ _ _ parts | .call _ parts _ | .y3 _ parts _ _ | .yr _ parts _ | .yx _ parts _=>parts.flatMap (·.tmps)
 | .y4 x parts _=>x.tmps++parts.flatMap (·.tmps)
 | .yz x parts _ | .yw _ x parts _ | .yu x parts _=>x.tmps++parts.flatMap (·.tmps)
 | .yy op=>op.tmps
def AOp.y9:AOp->List Nat
 | .nilo id _ _ | .ldo id _ _ _ | .sto id _ _ _ | .ixo id _ _ _ | .boxo id _ | .alo id _ | .bso id _ _ _ | .leno id _ | .app id _ _ _ _ _=>[id]
 | .call _ _ ids=>ids
 | .y3 _ _ ids id=>id::ids
 | .yz _ _ ids=>ids
 | .yw _ _ _ id=>[id]
 | .yu _ _ id=>[id]
 | .yr _ _ id=>[id]
 | .yx _ _ ids=>ids
 | .cpy id _ _=>[id]
 | .y4 _ _ ids=>ids
 | .yy op=>op.y9
 | _=>[]
def AOp.sets:AOp->List Nat
 | .nilo id _ _ | .sto id _ _ _ | .boxo id _ | .alo id _ | .bso id _ _ _ | .app id _ _ _ _ _ | .y3 _ _ _ id | .yw _ _ _ id | .yu _ _ id | .yr _ _ id | .cpy id _ _=>[id]
 | .yy op=>op.sets
 | _=>[]
theorem Opd.av_congr {lk lk':Nat->AV} {x:Opd} (h:∀ t∈x.tmps,lk' t=lk t):x.av lk'=x.av lk:=by
 cases x<;>first | rfl | exact h _ (by simp[Opd.tmps])
theorem Qg2 {lk lk':Nat->AV} {d:Nat} {x:Option Opd} (h:∀ t∈QDA x,lk' t=lk t):Y1 lk' d x=Y1 lk d x:=by
 cases x with
 | none=>rfl
 | some x=>simp only[Y1,Opd.av_congr (x:=x) h]
theorem QT {lk lk':Nat->AV}:∀ {xs:List Opd},(∀ t∈xs.flatMap (·.tmps),lk' t=lk t)->xs.map (·.av lk')=xs.map (·.av lk)
 | [],_=>rfl
 | x::r,h=>by
   simp only[QLx,QK2] at h;simp only[QKZ,Opd.av_congr (x:=x) (fun t ht=>h t (.inl ht)),QT (xs:=r) (fun t ht=>h t (.inr ht))]
theorem Qcb {lk lk':Nat->AV}:∀ {xs:List (Nat × Nat × Opd)},(∀ t∈xs.flatMap (·.2.2.tmps),lk' t=lk t) ->
  (xs.map fun (o,s,x)=>(o,s,x.av lk'))=xs.map fun (o,s,x)=>(o,s,x.av lk)
 | [],_=>rfl
 | (o,s,x)::r,h=>by
   simp only[QLx,QK2] at h;simp only[QKZ,Opd.av_congr (x:=x) (fun t ht=>h t (.inl ht)),Qcb (xs:=r) (fun t ht=>h t (.inr ht))]
theorem Qqd {lk lk':Nat->AV} {lo lo':Nat->Option AO} {op:YOp} (h:∀ t∈op.tmps,lk' t=lk t) (h':∀ i∈op.y9,lo' i=lo i):evY lk' lo' op=evY lk lo op:=by
 have one:∀ x:Opd,(∀ t∈x.tmps,t∈op.tmps)->x.av lk'=x.av lk:=fun x hx=>Opd.av_congr fun t ht=>h t (hx t ht);have lst:∀ xs:List Opd,(∀ t∈xs.flatMap (·.tmps),t∈op.tmps)->xs.map (·.av lk')=xs.map (·.av lk):=fun xs hx=>QT fun t ht=>h t (hx t ht);have obj:∀ i∈op.y9,lo' i=lo i:=h';cases op with
 | no=>rfl
 | rngm id x=>simp only[evY,one x (by simp[YOp.tmps]),obj id (by simp[YOp.y9])]
 | ent id x=>simp only[evY,one x (by simp[YOp.tmps]),obj id (by simp[YOp.y9])]
 | mx mn x y=>simp only[evY,one x (by simp +contextual [YOp.tmps]),one y (by simp +contextual [YOp.tmps])]
 | fgt off x=>simp only[evY,one x (by simp[YOp.tmps])]
 | ixg len x y=>simp only[evY,one x (by simp +contextual [YOp.tmps]),one y (by simp +contextual [YOp.tmps])]
 | lkr id kk x y=>simp only[evY,one x (by simp +contextual [YOp.tmps]),one y (by simp +contextual [YOp.tmps]),obj id (by simp[YOp.y9])]
 | mks id e b zs n=>simp only[evY,lst zs (by simp +contextual [YOp.tmps]),one n (by simp +contextual [YOp.tmps]),obj id (by simp[YOp.y9])]
 | mkm id r=>simp only[evY,obj id (by simp[YOp.y9])]
 | lki kk z x k=>simp only[evY,one z (by simp +contextual [YOp.tmps]),one x (by simp +contextual [YOp.tmps]),one k (by simp +contextual [YOp.tmps])]
 | lkd id kk z x k=>simp only[evY,one z (by simp +contextual [YOp.tmps]),one x (by simp +contextual [YOp.tmps]),one k (by simp +contextual [YOp.tmps]),obj id (by simp[YOp.y9])]
 | mupd id kk x k v=>simp only[evY,one v (by simp +contextual [YOp.tmps]),one x (by simp +contextual [YOp.tmps]),one k (by simp +contextual [YOp.tmps]),obj id (by simp[YOp.y9])]
 | ment id kk z x k=>simp only[evY,one z (by simp +contextual [YOp.tmps]),one x (by simp +contextual [YOp.tmps]),one k (by simp +contextual [YOp.tmps]),obj id (by simp[YOp.y9])]
 | ests id x k v=>simp only[evY,one x (by simp +contextual [YOp.tmps]),one k (by simp +contextual [YOp.tmps]),one v (by simp +contextual [YOp.tmps]),obj id (by simp[YOp.y9])]
 | mupr id kk x k v=>simp only[evY,one v (by simp +contextual [YOp.tmps]),one x (by simp +contextual [YOp.tmps]),one k (by simp +contextual [YOp.tmps]),obj id (by simp[YOp.y9])]
 | bla zs parts=>simp only[evY,lst parts (by simp[YOp.tmps])]
 | neg x=>simp only[evY,one x (by simp[YOp.tmps])]
 | lenm x=>simp only[evY,one x (by simp[YOp.tmps])]
 | lenmo id x=>simp only[evY,one x (by simp[YOp.tmps]),obj id (by simp[YOp.y9])]
 | eqs n m x y=>simp only[evY,one x (by simp +contextual [YOp.tmps]),one y (by simp +contextual [YOp.tmps])]
 | ixa len sz x y=>simp only[evY,one x (by simp +contextual [YOp.tmps]),one y (by simp +contextual [YOp.tmps])]
 | zslv sz=>rfl
 | apz e sz bytes x y=>simp only[evY,one x (by simp +contextual [YOp.tmps]),one y (by simp +contextual [YOp.tmps])]
 | mkz id kk=>simp only[evY,obj id (by simp[YOp.y9])]
 | mupz id kk x k v=>simp only[evY,one x (by simp +contextual [YOp.tmps]),one k (by simp +contextual [YOp.tmps]),obj id (by simp[YOp.y9])]
 | mdlz id kk x k=>simp only[evY,one x (by simp +contextual [YOp.tmps]),one k (by simp +contextual [YOp.tmps]),obj id (by simp[YOp.y9])]
 | sl3 sz x y z=>simp only[evY,one x (by simp +contextual [YOp.tmps]),one y (by simp +contextual [YOp.tmps]),one z (by simp +contextual [YOp.tmps])]
 | isn ne x=>simp only[evY,one x (by simp[YOp.tmps])]
 | lkc kk zs x y=>simp only[evY,lst zs (by simp +contextual [YOp.tmps]),one x (by simp +contextual [YOp.tmps]),one y (by simp +contextual [YOp.tmps])]
 | mkf g fs cs=>simp only[evY,lst fs (by simp +contextual [YOp.tmps]),lst cs (by simp +contextual [YOp.tmps])]
theorem Qtx {lk lk':Nat->AV} {lo lo':Nat->Option AO} {op:AOp} (h:∀ t∈op.tmps,lk' t=lk t) (h':∀ i∈op.y9,lo' i=lo i):ev lk' lo' op=ev lk lo op:=by
 have one:∀ x:Opd,(∀ t∈x.tmps,t∈op.tmps)->x.av lk'=x.av lk:=fun x hx=>Opd.av_congr fun t ht=>h t (hx t ht);have opt:∀ d x,(∀ t∈QDA x,t∈op.tmps)->Y1 lk' d x=Y1 lk d x:=fun d x hx=>Qg2 fun t ht=>h t (hx t ht);have lst:∀ xs:List Opd,(∀ t∈xs.flatMap (·.tmps),t∈op.tmps)->xs.map (·.av lk')=xs.map (·.av lk):=fun xs hx=>QT fun t ht=>h t (hx t ht);have obj:∀ i∈op.y9,lo' i=lo i:=h';cases op with
 | xf x=>simp only[ev,one x (by simp[AOp.tmps])]
 | nilo id e sz=>simp only[ev,obj id (by simp[AOp.y9])]
 | pick c x y=>simp only[ev,one c (by simp +contextual [AOp.tmps]),one x (by simp +contextual [AOp.tmps]),one y (by simp +contextual [AOp.tmps])]
 | ext x i=>simp only[ev,one x (by simp[AOp.tmps])]
 | not x=>simp only[ev,one x (by simp[AOp.tmps])]
 | bin o x y=>simp only[ev,one x (by simp +contextual [AOp.tmps]),one y (by simp +contextual [AOp.tmps])]
 | beq n x y=>simp only[ev,one x (by simp +contextual [AOp.tmps]),one y (by simp +contextual [AOp.tmps])]
 | cvi k x=>simp only[ev,one x (by simp[AOp.tmps])]
 | i2s x=>simp only[ev,one x (by simp[AOp.tmps])]
 | nilc x=>simp only[ev,one x (by simp[AOp.tmps])]
 | fld o x=>simp only[ev,one x (by simp[AOp.tmps])]
 | ldi n ag x=>simp only[ev,one x (by simp[AOp.tmps])]
 | ldo id n ag x=>simp only[ev,one x (by simp[AOp.tmps]),QnC,obj id (by simp[AOp.y9])]
 | sto id n x y=>simp only[ev,one x (by simp +contextual [AOp.tmps]),one y (by simp +contextual [AOp.tmps]),Qnz,obj id (by simp[AOp.y9])]
 | ixi sz x i=>simp only[ev,one x (by simp +contextual [AOp.tmps]),one i (by simp +contextual [AOp.tmps])]
 | ixo id sz x i=>simp only[ev,one x (by simp +contextual [AOp.tmps]),one i (by simp +contextual [AOp.tmps]),QnD,obj id (by simp[AOp.y9])]
 | ixs x i=>simp only[ev,one x (by simp +contextual [AOp.tmps]),one i (by simp +contextual [AOp.tmps])]
 | sli sz x l r=>simp only[ev,one x (by simp +contextual [AOp.tmps]),QnB,fun d=>opt d l (by simp +contextual [AOp.tmps]),fun d=>opt d r (by simp +contextual [AOp.tmps])]
 | sls x l r=>simp only[ev,one x (by simp +contextual [AOp.tmps]),QnA,fun d=>opt d l (by simp +contextual [AOp.tmps]),fun d=>opt d r (by simp +contextual [AOp.tmps])]
 | boxi x=>simp only[ev,one x (by simp[AOp.tmps])]
 | boxo id x=>simp only[ev,one x (by simp[AOp.tmps]),Qeo,obj id (by simp[AOp.y9])]
 | alo id zs=>simp only[ev,lst zs (by simp[AOp.tmps]),obj id (by simp[AOp.y9])]
 | bld zs parts =>
   have hp:=Qcb (lk:=lk) (lk':=lk') (xs:=parts) fun t ht=>h t (by simp only[AOp.tmps,QK2];exact .inr ht);simp only[ev,lst zs (by simp +contextual [AOp.tmps]),hp]
 | bsl sz parts=>simp only[ev,lst parts (by simp[AOp.tmps])]
 | bso id e sz parts=>simp only[ev,lst parts (by simp[AOp.tmps]),obj id (by simp[AOp.y9])]
 | len x=>simp only[ev,one x (by simp[AOp.tmps])]
 | leno id x=>simp only[ev,one x (by simp[AOp.tmps]),Qen,obj id (by simp[AOp.y9])]
 | lst x=>simp only[ev,one x (by simp[AOp.tmps])]
 | app id e sz bytes x y=>simp only[ev,one x (by simp +contextual [AOp.tmps]),one y (by simp +contextual [AOp.tmps]),Wt,obj id (by simp[AOp.y9])]
 | call f args ids=>simp only[ev]
 | y3 f args ids id=>simp only[ev]
 | yz x args ids=>simp only[ev]
 | yw f x args id=>simp only[ev]
 | yu x args id=>simp only[ev]
 | yr f args id=>simp only[ev]
 | yx f args ids=>simp only[ev]
 | cpy id x y=>simp only[ev]
 | y4 x args ids=>simp only[ev]
 | yy op=>simp only[ev,Qqd (op:=op) (fun t ht=>h t (by simpa[AOp.tmps] using ht)) (fun i hi=>h' i (by simpa[AOp.y9] using hi))]
def Good (P:Program) (K:World->Prop) (f:FuncId) (args:List IV) (r:IV):Prop :=
 ∀ (w:World) (ok:Nat->Prop) (vs:List Value),K w->(∀ b,w.heap.size<=b->ok b)->vs.length=args.length ->
  (∀ (k:Nat) (x:IV) (u:Value),args[k]?=some x->vs[k]?=some u->QF ok w x u) ->
  Calls P f vs.toArray w (fun e w'=>∃ v,e=.returned v/\QF ok w' r v/\Below w.heap.size w w')
mutual
def ren (j:Nat):AV->AV
 | .iv x=>.iv x
 | .agg cs=>.agg (renL j cs)
 | .loc _ off=>.loc j off
 | .yj _ n i off=>.yj j n i off
 | .yl _ n=>.yl j n
 | .yn _ k n=>.yn j k n
 | .ym sz=>.ym sz
 | .zsl sz rows=>.zsl sz rows
 | .yk _=>.yk j
 | .clo _ _ _=>.iv .any
 | .cb _=>.iv .any
 | .xd _=>.iv .any
def renL (j:Nat):List AV->List AV
 | []=>[]
 | x::r=>ren j x::renL j r
end
def one (ob:AO):Nat->Option AO:=fun i=>if i=0 then some ob else none
def XE (e:TypeId) (sz:Nat) (rows:List (List IV)) (mv:Nat):AO:=.arr e sz (rows.map (List.map AV.iv)) mv
def Qh7 (P:Program) (K:World->Prop) (f:FuncId) (args:List IV) (q:AV) (e:TypeId) (sz:Nat) (rows:List (List IV)) (mv:Nat):Prop :=
 ∀ (w:World) (ok:Nat->Prop) (vs:List Value),K w->(∀ b,w.heap.size<=b->ok b)->vs.length=args.length ->
  (∀ (k:Nat) (x:IV) (u:Value),args[k]?=some x->vs[k]?=some u->QF ok w x u) ->
  Calls P f vs.toArray w (fun x w'=>∃ v l,x=.returned v/\QG (fun b=>b<w.heap.size) (okL ok (one (XE e sz rows mv)) (fun _=>l)) w' (one (XE e sz rows mv)) (fun _=>l) (XE e sz rows mv) l /\
   QA (okL ok (one (XE e sz rows mv)) (fun _=>l)) w' (one (XE e sz rows mv)) (fun _=>l) (ren 0 q) v/\Below w.heap.size w w')
mutual
theorem QiQ {ok ok' w lo lo' L L' i j ob} (hok:∀ b,ok b->ok' b) (h1:lo i=some ob) (h2:lo' j=some ob) (h3:L' j=L i) :
  ∀ {x v},QA ok w lo L (ren i x) v->QA ok' w lo' L' (ren j x) v
 | .iv x,v,h=>by
   cases h with
   | iv _ _ r=>exact .iv _ _ (r.mono fun b hb _=>⟨hok b hb,rfl⟩)
 | .agg cs,v,h=>by
   simp only[ren] at h |-;cases h with
   | agg _ vs hl hc hx =>
     obtain ⟨h4,h5⟩:=renL_rep hok h1 h2 h3 (cs:=cs) hl hx;exact .agg _ vs h4 hc h5
 | .loc id off,v,h=>by
   simp only[ren] at h |-
   grind
 | .yl id n,v,h=>by
   simp only[ren] at h |-
   grind
 | .yj id n k off,v,h=>by
   simp only[ren] at h |-
   grind
 | .ym sz,v,h=>by
   simp only[ren] at h |-;cases h with
   | ym=>exact .ym sz
 | .zsl sz rows,v,h=>by
   simp only[ren] at h |-;cases h with
   | zsl _ _ _ h hr=>exact .zsl sz rows v h (hr.mono fun b hb _=>⟨hok b hb,rfl⟩)
 | .yn id k n,v,h=>by
   simp only[ren] at h |-
   grind
 | .yk id,v,h=>by
   simp only[ren] at h |-
   grind
 | .clo g fs cs,v,h=>.iv _ _ (.any _)
 | .cb id,v,h=>.iv _ _ (.any _)
 | .xd cs,v,h=>.iv _ _ (.any _)
theorem renL_rep {ok ok' w lo lo' L L' i j ob} (hok:∀ b,ok b->ok' b) (h1:lo i=some ob) (h2:lo' j=some ob) (h3:L' j=L i) :
  ∀ {cs:List AV} {vs:List Value},vs.length=(renL i cs).length->(∀ (k:Nat) (x:AV) (u:Value),(renL i cs)[k]?=some x->vs[k]?=some u->QA ok w lo L x u) ->
   vs.length=(renL j cs).length/\∀ (k:Nat) (x:AV) (u:Value),(renL j cs)[k]?=some x->vs[k]?=some u->QA ok' w lo' L' x u
 | [],vs,hl,_=>⟨by simpa[renL] using hl,by simp[renL]⟩
 | x::r,[],hl,_=>by simp[renL] at hl
 | x::r,v::vs,hl,hx=>by
   obtain ⟨h4,h5⟩:=renL_rep hok h1 h2 h3 (cs:=r) (vs:=vs) (by simpa[renL] using hl) (fun k y u hy hu=>hx (k+1) y u (by simpa[renL] using hy) (by simpa using hu));refine ⟨by simp[renL,h4],fun k y u hy hu=>?_⟩;cases k with
   | zero =>
     simp[renL] at hy hu;subst hy hu;exact QiQ hok h1 h2 h3 (hx 0 (ren i x) v (by simp[renL]) (by simp))
   | succ k=>exact h5 k y u (by simpa[renL] using hy) (by simpa using hu)
end
theorem Qsi {B B' ok ok' w lo lo' L L' e sz rows mv l} (hB:∀ b,¬ B b->¬ B' b) (hok:∀ b,ok b->ok' b)
  (h:QG B ok w lo L (XE e sz rows mv) l):QG B' ok' w lo' L' (XE e sz rows mv) l:=by
 unfold XE at *;cases l with
 | box b=>exact h
 | one b=>exact h
 | map b vals=>exact h
 | ext O D=>exact h
 | arr v xs =>
   obtain ⟨h1,h2,h3,h4,h5⟩:=h;refine ⟨⟨h1.own,fun b hb=>hB b (h1.free b hb)⟩,h2,h3,h4,fun i j c x u hi hj hu=>?_⟩;have:=h5 i j c x u hi hj hu;rw[QKN,QKK] at hi;obtain ⟨d,_,rfl⟩:=hi;rw[QKN,QKK] at hj;obtain ⟨y,_,rfl⟩:=hj;cases this with
   | iv _ _ r=>exact .iv _ _ (r.mono fun b hb _=>⟨hok b hb,rfl⟩)
mutual
def imm (lo:Nat->Option AO):Nat->AV->Option IV
 | 0,_=>none
 | _+1,.iv x=>some x
 | n+1,.agg cs=>(imms lo n cs).map .agg
 | n+1,.loc id off=>match lo id with
   | some (.box cs)=>(imms lo n cs).map fun xs=>.ptr (xs.drop off)
   | _=>none
 | n+1,.yl id m=>match lo id with
   | some (.arr _ sz es mv)=>if mv<=m/\m<=es.length then (immss lo n (es.take m)).map (.sl sz) else none
   | _=>none
 | _+1,.yj _ _ _ _=>none
 | _+1,.yn _ _ _=>none
 | _+1,.ym sz=>some (.sl sz [])
 | _+1,.zsl sz rows=>some (.sl sz rows)
 | _+1,.yk id=>match lo id with
   | some (.xg kvs)=>some (.map kvs)
   | some (.yo _ sz kvs pend)=>if pend=none then some (.map (kvs.map fun p=>(p.1,.sl sz p.2))) else none
   | some (.mapz _)=>some .any
   | _=>none
 | n+1,.clo g fs cs=>match imms lo n fs,imms lo n cs with
   | some ys,some zs=>some (.clo g ys zs)
   | _,_=>none
 | _+1,.cb _=>none
 | n+1,.xd cs=>(imms lo n cs).map .xd
def imms (lo:Nat->Option AO):Nat->List AV->Option (List IV)
 | 0,_=>none
 | _+1,[]=>some []
 | n+1,x::r=>match imm lo n x,imms lo n r with
   | some y,some ys=>some (y::ys)
   | _,_=>none
def immss (lo:Nat->Option AO):Nat->List (List AV)->Option (List (List IV))
 | 0,_=>none
 | _+1,rows=>Qd5 rows
end
def QJY:AV->Bool
 | .iv _=>true
 | _=>false
mutual
def Q0:IV->Bool
 | .any | .bool _ | .int _ _ | .str _ | .nilp=>true
 | .xd cs=>scalars cs
 | _=>false
def scalars:List IV->Bool
 | []=>true
 | x::r=>Q0 x&&scalars r
end
def Qca (lo:Nat->Option AO) (ids:List Nat) (xs:List AV):Option (List IV) :=
 match ids with
 | []=>ivs xs
 | _=>imms (fun i=>if ids.contains i then lo i else none) 40 xs
section
variable {P:Program} {K:World->Prop} {ok0:Nat->Prop} {N:Fm} {w0:XH} {lk:Nat->AV} {lo:Nat->Option AO} {a:Act} {w:World} {L:Nat->Lay} {o:Oper}
variable {s f:Prop} {v:AV} {up:Option (Nat × AO)}
theorem Qty {op id ob} (he:evY lk lo op=.ok s f v (some (id,ob))):id∈op.sets:=by
 cases op<;>simp only[evY] at he<;>simp only[YOp.sets] <;>
  (repeat' (split at he)) <;>
  first
   | (cases he;done)
   | (injection he with _ _ _ e;injection e with e;injection e with e _;simp[e])
theorem QzC {op id ob} (he:ev lk lo op=.ok s f v (some (id,ob))):id∈op.sets:=by
 by_cases hy:∃ y,op=.yy y
 ·obtain ⟨y,rfl⟩:=hy;exact Qty he
 have hy':∀ y,op≠.yy y:=fun y e=>hy ⟨y,e⟩;clear hy
 cases op<;>simp only[ev] at he<;>simp only[AOp.sets]<;>(try exact absurd rfl (hy' _)) <;>
  (try simp only[QhF,QnF,Qqe,Qql,QtA,Qqm,Qqk,QCr,QCs,Qqj,QhG,QnE,QfB,QnC,Qnz,Qqi,QnD,Qqh,QnB,QnA,QhH,Qeo,Qqg,Qen,Qqf,Wt] at he) <;>
  (repeat' (split at he)) <;>
  first
   | (cases he;done)
   | (injection he with _ _ _ e;injection e with e;injection e with e _;simp[e])
theorem Qpe {ok1} (h:Rel ok0 N w0 lk lo a w L) (hsub:∀ b,okL ok0 lo L b->ok1 b) {id n e sz mv es ys vv}
  (hob:lo id=some (.arr e sz es mv)) (hblk:∀ b,(L id).has b->ok1 b) (hmv:mv<=n) (hn:n<=es.length) (hys:es.take n=ys.map (List.map AV.iv)) (hr:QA (okL ok0 lo L) w lo L (.yl id n) vv):QF ok1 w (.sl sz ys) vv:=by
 have hor:=h.y9 _ _ hob;have hyl:ys.length=n:=by
  have:=congrArg List.length hys;simp at this;omega
 have fin:∀ b cap v xs,L id=.arr v xs->vv=.slice (some ⟨b,0,none⟩) n cap->n<=cap->cap<=maxLen ->
   (∀ k,k<n*sz->(okL ok0 lo L b\/v.ownBlock=some b)/\∃ u,w.cell? ⟨b,k,none⟩=some u/\xs[k]?=some u)->QF ok1 w (.sl sz ys) vv:=by
  intro b cap v xs hL hvv hnc hcm hcells;rw[hL] at hor;obtain ⟨hown,hmv2,hsz,h1,hxx⟩:=hor;have hys2:∀ (i:Nat) (c:List IV),ys[i]?=some c->es[i]?=some (c.map AV.iv):=by
   intro i c hc;have:(es.take n)[i]?=some (c.map AV.iv):=by rw[hys];simp[hc]
   grind
  have hcl:∀ c∈ys,c.length=sz:=by
   intro c hc;obtain ⟨i,hi⟩:=QLj hc;have:=hsz _ (QKW (hys2 i c hi));simpa using this
  rw[hvv,<- hyl];refine .sl sz ys b 0 cap (fun k=>xs.getD k undef) (by omega) hcm hcl (fun k hk=>?_) (fun i j c x hi hj=>?_)
  ·grind
  have hil:i<n:=by rw[<- hyl];exact (QKG.1 hi).1
  have hjl:j<sz:=by grind
  obtain ⟨_,u,_,hx⟩:=hcells (i*sz+j) (UX hil hjl);have e:xs.getD (i*sz+j) undef=u:=by simp[List.getD,hx]
  rw[e];have:=hxx i j _ (.iv x) u (hys2 i c hi) (by simp[hj]) hx;cases this with
  | iv _ _ r=>exact r.mono fun b hb _=>⟨hsub b hb,rfl⟩
 have nil:n=0->vv=.slice none 0 0->QF ok1 w (.sl sz ys) vv:=by
  intro h0 hv;have:ys=[]:=QKR (by omega);rw[this,hv];exact .nils sz
 generalize hq:AV.yl id n=q at hr;cases hr with
 | yl i2 e2 sz2 es2 mv2 v2 xs hob2 hL hsl =>
   injection hq with hq1 hq2;subst hq1;rw[hob] at hob2;injection hob2 with hob2;injection hob2 with g1 g2 g3 g4;subst g1 g2 g3 g4;have hor':=hor;rw[hL] at hor';obtain ⟨hown,_⟩:=hor';rcases hown.own.2 with ⟨hv',h00⟩ | ⟨g,cap,cur,hv',hB,hgg,hnc,hcm,hcs',htake⟩
   ·exact nil (by omega) hv'
   refine fin g cap _ xs hL (by rw[hq2];exact hv') (by omega) hcm fun k hk=>⟨.inr (by rw[hv'];rfl),?_⟩;have hk':k<xs.length:=by rw[hown.own.1,<- hq2];exact hk
   refine ⟨xs[k],?_,QKF hk'⟩;have:=hown.own.cells (g:=g) (by rw[hv'];rfl) k xs[k] (QKF hk')
   rwa [addr_add,QKY] at this
 | _=>grind
theorem Qsh {ok0 Fr w e sz v xs rows} (h:YH Fr w e sz v rows.length xs) (hok:∀ b,v.ownBlock=some b->ok0 b)
  (hsz:∀ c∈rows,c.length=sz) (h1:∀ u∈xs,u.oneCell'=true)
  (hx:∀ i j c x u,rows[i]?=some c->c[j]?=some x->xs[i*sz+j]?=some u->QF ok0 w x u):QF ok0 w (.sl sz rows) v:=by
 rcases h.own.2 with ⟨hv,h0⟩ | ⟨g,cap,cur,hv,_,hg,hn,hc,hcs,htake⟩
 ·have:rows=[]:=QKR h0;subst this hv;exact .nils sz
 ·have hgb:v.ownBlock=some g:=by rw[hv];rfl
  have hxl:=h.own.1;rw[hv];refine .sl sz rows g 0 cap (fun k=>xs.getD k undef) hn hc hsz (fun k hk=>?_) (fun i j c x hi hj=>?_)
  ·have hk':k<xs.length:=by omega
   have e:xs.getD k undef=xs[k]:=by simp[List.getD,hk']
   rw[e];refine ⟨hok g hgb,?_,h1 _ (QKL hk')⟩;have:=h.own.cells hgb k xs[k] (QKF hk')
   rwa [addr_add] at this
  ·have hil:i<rows.length:=(QKG.1 hi).1;have hjl:j<sz:=by grind
   have hk':i*sz+j<xs.length:=by rw[hxl];exact UX hil hjl
   grind
theorem YU {ok1} (h:Rel ok0 N w0 lk lo a w L) (hsub:∀ b,okL ok0 lo L b->ok1 b) {lo'} (xb:∀ id o,lo' id=some o->lo id=some o) (hown:∀ id o b,lo' id=some o->(L id).has b->ok1 b) :
  ∀ n,(∀ x v y,QA (okL ok0 lo L) w lo L x v->imm lo' n x=some y->QF ok1 w y v) /\
   (∀ (cs:List AV) (ys:List IV),imms lo' n cs=some ys->ys.length=cs.length/\∀ (k:Nat) (x:AV) (y:IV) (v:Value),cs[k]?=some x->ys[k]?=some y->QA (okL ok0 lo L) w lo L x v->QF ok1 w y v):=by
 intro n;induction n with
 | zero=>exact ⟨fun x v y _ hi=>by simp[imm] at hi,fun cs ys hi=>by simp[imms] at hi⟩
 | succ n ih =>
   refine ⟨fun x v y hr hi=>?_,fun cs ys hi=>?_⟩
   ·cases x with
    | iv z =>
      simp only[imm,Option.some.injEq] at hi;subst hi;cases hr with
      | iv _ _ r=>exact r.mono fun b hb _=>⟨hsub b hb,rfl⟩
    | agg cs =>
      simp only[imm,QKK] at hi;obtain ⟨ys,hys,rfl⟩:=hi;obtain ⟨hl,hx⟩:=ih.2 cs ys hys;cases hr with
      | agg _ vs hvl h1 hxx =>
        refine .agg ys vs (by omega) h1 fun k y u hy hu=>?_;have hk:k<cs.length:=by rw[<- hl];exact (QKG.1 hy).1
        exact hx k cs[k] y u (QKF hk) hy (hxx k _ u (QKF hk) hu)
    | loc id off =>
      simp only[imm] at hi;split at hi
      ·rename_i cs hcs;simp only[QKK] at hi;obtain ⟨ys,hys,rfl⟩:=hi;obtain ⟨hl,hx⟩:=ih.2 cs ys hys;have hob:=h.y9 _ _ (xb _ _ hcs);cases hr with
       | loc _ _ cs' b hob' hL =>
         rw[hL] at hob;obtain ⟨hB,ty,vs,hb,hvl,h1,hxx⟩:=hob;refine .ptr _ b off (fun k=>vs.getD (off+k) undef) (fun k hk=>?_) (fun k y hy=>?_)
         ·have hk':off+k<vs.length:=by simp at hk;omega
          refine ⟨hown _ _ b hcs (by rw[hL];rfl),?_,h1 _ (QKW (getD_some (d:=undef) hk'))⟩;rw[cell_of_row _ _ _ _ ty (0,0) hb];simpa using getD_some (d:=undef) hk'
         rw[QLP] at hy;have hk:off+k<cs.length:=by rw[<- hl];exact (QKG.1 hy).1
         have hk':off+k<vs.length:=by omega
         exact hx _ cs[off+k] y _ (QKF hk) hy (hxx _ _ _ (QKF hk) (getD_some hk'))
      cases hi
    | yj=>simp[imm] at hi
    | yn=>simp[imm] at hi
    | ym sz =>
      simp only[imm,Option.some.injEq] at hi;subst hi;cases hr with
      | ym=>exact .nils sz
    | zsl sz rows =>
      simp only[imm,Option.some.injEq] at hi;subst hi;cases hr with
      | zsl _ _ _ h hr=>exact hr.mono fun b hb _=>⟨hsub b hb,rfl⟩
    | cb=>simp[imm] at hi
    | xd cs =>
      simp only[imm,QKK] at hi;obtain ⟨ys,hys,rfl⟩:=hi;obtain ⟨hl,hx⟩:=ih.2 cs ys hys;cases hr with
      | xd _ vs hvl hxx =>
        refine .xd ys vs (by omega) fun k y u hy hu=>?_;have hk:k<cs.length:=by rw[<- hl];exact (QKG.1 hy).1
        exact hx k cs[k] y u (QKF hk) hy (hxx k _ u (QKF hk) hu)
    | clo g fs cs =>
      simp only[imm] at hi;split at hi
      ·rename_i ys zs hys hzs;injection hi with hi;subst hi;obtain ⟨hl,hx⟩:=ih.2 fs ys hys;obtain ⟨hl2,hx2⟩:=ih.2 cs zs hzs;cases hr with
       | clo _ _ _ us vs h1 h2 hf hc =>
         refine .clo g ys zs us vs (by omega) (by omega) (fun k y u hy hu=>?_) (fun k y u hy hu=>?_)
         ·have hk:k<fs.length:=by rw[<- hl];exact (QKG.1 hy).1
          exact hx k fs[k] y u (QKF hk) hy (hf k _ u (QKF hk) hu)
         have hk:k<cs.length:=by rw[<- hl2];exact (QKG.1 hy).1
         exact hx2 k cs[k] y u (QKF hk) hy (hc k _ u (QKF hk) hu)
      cases hi
    | yk id =>
      simp only[imm] at hi;split at hi
      ·rename_i kvs hob;injection hi with hi;subst hi;have hob':=xb _ _ hob;have hor:=h.y9 _ _ hob';cases hr with
       | omap _ b kvs2 ho hL =>
         rw[hL] at hor;obtain ⟨hB,es,clock,hb,hm,hd,hx⟩:=hor;exact .map kvs b es clock (hown _ _ b hob (by rw[hL];rfl)) hb hm hd fun i e p h1 h2=>(hx i e p h1 h2).mono fun b hb _=>⟨hsub b hb,rfl⟩
       | _=>grind
      ·rename_i e sz kvs pend hob;split at hi
       ·rename_i hpn;subst hpn;injection hi with hi;subst hi;have hob':=xb _ _ hob;have hor:=h.y9 _ _ hob';cases hr with
        | orow _ b e2 sz2 kvs2 pend2 vals ho hL =>
          rw[hL] at hor;obtain ⟨hB,⟨es,clock,hb,m,hmn,hm,hnew,hval⟩,hd,hk,hrow,ha⟩:=hor;have hmk:m=kvs.length:=by
           rcases QLU m kvs.length with xa | hge
           ·have:=hnew m _ (QKF xa) (QKJ _);cases this
           omega
          subst hmk;refine .map _ b es clock (hown _ _ b hob (by rw[hL];exact .inl rfl)) hb ?_ (fun i j p q hp hq hpq=>?_) (fun i e2 p he hp=>?_)
          ·grind
          ·grind
          rw[QKN,QKK] at hp;obtain ⟨p',hp',rfl⟩:=hp;have hvl:vals.length=kvs.length:=by have:=congrArg List.length hk;simpa using this
          have hil:i<vals.length:=by rw[hvl];exact (QKG.1 hp').1
          have hq:=QKF hil;rw[hval i e2 _ he hq (by simp)];obtain ⟨xs,h1,h2,h3,h4,h5⟩:=hrow i p' _ hp' hq;exact Qsh h1 (fun b' hb'=>hown _ _ b' hob (by rw[hL];exact .inr ⟨_,QKW hq,hb'⟩)) h3 h4 fun i j c x u a1 a2 a3=>(h5 i j c x u a1 a2 a3).mono fun b hb _=>⟨hsub b hb,rfl⟩
        | _=>grind
       cases hi
      ·injection hi with hi;subst hi;exact .any _
      cases hi
    | yl id m =>
      simp only[imm] at hi;split at hi
      ·rename_i e sz es mv hob;split at hi
       ·rename_i hm;simp only[QKK] at hi;obtain ⟨ys,hys,rfl⟩:=hi;cases n with
        | zero=>simp[immss] at hys
        | succ n =>
          simp only[immss] at hys;exact Qpe h hsub (xb _ _ hob) (fun b hb=>hown _ _ b hob hb) hm.1 hm.2 (JY hys) hr
       cases hi
      cases hi
   ·cases cs with
    | nil =>
      simp only[imms,Option.some.injEq] at hi;subst hi;exact ⟨rfl,by simp⟩
    | cons x r =>
      simp only[imms] at hi;split at hi
      ·rename_i y ys' h1 h2;injection hi with hi;subst hi;obtain ⟨hl,hx⟩:=ih.2 r ys' h2;refine ⟨by simp[hl],fun k z y' v hz hy hr=>?_⟩;cases k with
       | _=>grind
      ·cases hi
theorem Qhq (h:Rel ok0 N w0 lk lo a w L) (hok0:∀ b,¬ w0.fr b->ok0 b) {lo'} (xb:∀ id o,lo' id=some o->lo id=some o) :
  ∀ n,(∀ x v y,QA (okL ok0 lo L) w lo L x v->imm lo' n x=some y->QF ok0 w y v) /\
   (∀ (cs:List AV) (ys:List IV),imms lo' n cs=some ys->ys.length=cs.length/\∀ (k:Nat) (x:AV) (y:IV) (v:Value),cs[k]?=some x->ys[k]?=some y->QA (okL ok0 lo L) w lo L x v->QF ok0 w y v) :=
 YU h (fun _ h=>h.1) xb (fun id o b ho hb=>hok0 b ((h.y9 id o (xb id o ho)).lt hb).1)
mutual
theorem X6 {ok ok'}:∀ {x v},Q0 x=true->QF ok w x v->QF ok' w x v
 | .any,_,_,h=>by cases h;exact .any _
 | .bool _,_,_,h=>by cases h;exact .bool _
 | .int _ _,_,_,h=>by cases h;exact .int _ _
 | .str _,_,_,h=>by cases h;exact .str _
 | .nilp,_,_,h=>by cases h;exact .nilp
 | .sl _ _,_,hs,_=>by simp[Q0] at hs
 | .ptr _,_,hs,_=>by simp[Q0] at hs
 | .agg _,_,hs,_=>by simp[Q0] at hs
 | .xd cs,_,hs,h=>by
   simp only[Q0] at hs;cases h with
   | xd _ vs hl hx=>exact .xd cs vs hl fun k x u h1 h2=>scalars_rep hs k x u h1 (hx k x u h1 h2)
theorem scalars_rep {ok ok':Nat->Prop}:∀ {cs:List IV},scalars cs=true->∀ (k:Nat) (x:IV) (u:Value),cs[k]?=some x->QF ok w x u->QF ok' w x u
 | [],_,k,x,u,h,_=>by simp at h
 | y::r,hs,k,x,u,h,hr=>by
   simp only[scalars,QKI] at hs;cases k with
   | zero=>simp at h;subst h;exact X6 hs.1 hr
   | succ k=>exact scalars_rep hs.2 k x u (by simpa using h) hr
end
theorem ZM (h:Rel ok0 N w0 lk lo a w L):∀ {xs} {ys:List Operand},Vl xs ys=true->ys.length=xs.length /\
  ∀ (k:Nat) (x:AV) (u:Value),(xs.map (·.av lk))[k]?=some x->(ys.map a.eval)[k]?=some u->QA (okL ok0 lo L) w lo L x u
 | [],[],_=>by simp
 | x::r,y::t,hi=>by
   simp only[Vl,QKI] at hi;obtain ⟨hl,hx⟩:=ZM h hi.2;refine ⟨by simp[hl],fun k z u hz hu=>?_⟩;cases k with
   | zero=>simp at hz hu;subst hz hu;exact Opd.rep h hi.1
   | succ k=>exact hx k z u (by simpa using hz) (by simpa using hu)
 | [],_::_,hi=>by simp[Vl] at hi
 | _::_,[],hi=>by simp[Vl] at hi
theorem QqR {x g args ids} (h:Rel ok0 N w0 lk lo a w L) (hf:AOp.fits P (.yz x args ids) o.op=true) (hx:x.av lk=.iv (.fn g)) (hc:callee P g=true) :
  ∃ az:List Operand,Vl args az=true/\(execOp a.eval o).run P w=.ok (.enter g (az.map a.eval).toArray) w:=by
 simp only[AOp.fits] at hf;unfold QhC at hf;split at hf
 ·rename_i m az ts ho;simp only[QKI] at hf;obtain ⟨hxm,ha⟩:=hf;refine ⟨az.toList,ha,?_⟩;have hxm':x.is (.tmp m)=true:=hxm;have rx:=Opd.rep h hxm';rw[hx] at rx;generalize hey:a.eval (.tmp m)=yv at rx;have hyv:yv=.func (.func g) #[] #[]:=by
   cases rx with
   | iv _ _ r=>cases r;rfl
  subst hyv;unfold callee at hc;split at hc
  ·rename_i fn hfn;simp only[QKI,QLb,beq_eq_false_iff_ne,ne_eq] at hc;obtain ⟨hb,hn⟩:=hc;have hb':fn.body≠none:=by cases h:fn.body<;>simp_all
   simp[execOp,ho,resolve,hey,Deferred.ofValue,invoke,callFunc,program,Sem.run,hfn,hn,hb'];apply Array.ext';simp
  cases hc
 ·cases hf
theorem Wv {x args} {op:Op} {ids} (hf:AOp.fits P (.yz x args ids) op=true):∃ (m:Nat) (az:Array Operand) (ts:Array TypeId),op=.call { callee:=.value (.tmp m),args:=az,argTypes:=ts }/\x.is (.tmp m)=true/\Vl args az.toList=true:=by
 simp only[AOp.fits] at hf;unfold QhC at hf;split at hf
 ·rename_i m az ts;simp only[QKI] at hf;exact ⟨m,az,ts,rfl,hf.1,hf.2⟩
 ·cases hf
theorem UK {g args ids} (hf:AOp.fits P (.call g args ids) o.op=true):∃ az:List Operand,Vl args az=true/\(execOp a.eval o).run P w=.ok (.enter g (az.map a.eval).toArray) w:=by
 simp only[AOp.fits] at hf;unfold Qnx at hf;split at hf
 ·rename_i f' az ts ho;simp only[QKI,beq_iff_eq] at hf;obtain ⟨⟨rfl,ha⟩,hc⟩:=hf;refine ⟨az.toList,ha,?_⟩;unfold callee at hc;split at hc
  ·rename_i fn hfn;simp only[QKI,QLb,beq_eq_false_iff_ne,ne_eq] at hc;obtain ⟨hb,hn⟩:=hc;have hb':fn.body≠none:=by cases h:fn.body<;>simp_all
   simp[execOp,ho,resolve,Deferred.ofValue,invoke,callFunc,program,Sem.run,hfn,hn,Act.eval,hb'];apply Array.ext';simp
  cases hc
 ·cases hf
end
def QrY (P:Program) (K:World->Prop) (f:FuncId) (e:TypeId) (sz:Nat) (rows:List (List IV)) (args:List IV) (rows':List (List IV)):Prop :=
 ∀ (w:World) (ok:Nat->Prop) (v0:Value) (xs vs:List Value),(∀ w',Q8 (Fr0 w v0) w w'->K w')->(∀ b,w.heap.size<=b->ok b) ->
  w.ownsRow 0 e sz v0 rows.length xs->(∀ c∈rows,c.length=sz)->(∀ u∈xs,u.oneCell'=true) ->
  (∀ (i j:Nat) (c:List IV) (x:IV) (u:Value),rows[i]?=some c->c[j]?=some x->xs[i*sz+j]?=some u->QF (fun b=>ok b/\v0.ownBlock≠some b) w x u) ->
  vs.length=args.length->(∀ (k:Nat) (x:IV) (u:Value),args[k]?=some x->vs[k]?=some u->QF (fun b=>ok b/\v0.ownBlock≠some b) w x u) ->
  Calls P f (v0::vs).toArray w (fun x w'=>∃ v' xs',x=.returned v'/\Ww w ok e sz rows v0 rows' v' xs' w')
section
variable {P:Program} {ok0:Nat->Prop} {N:Fm} {w0:XH} {lk:Nat->AV} {lo:Nat->Option AO} {a:Act} {w:World} {L:Nat->Lay}
theorem QaK {id e sz mv rows v0 u xs ok} (hid:lo id=some (XE e sz rows mv)) (hL:L id=.arr v0 xs) (hr:QA ok w lo L (.yl id rows.length) u):u=v0:=by
 generalize hq:AV.yl id rows.length=q at hr;cases hr with
 | old i2 n2 e2 sz2 es2 mv2 v2 _ xs2 hob2 hL2 hsl hn2 hv =>
   injection hq with hq1 hq2;subst hq1 hq2;rw[hid] at hob2;injection hob2 with hob2;injection hob2 with g1 g2 g3 g4;subst g3;rw[QKX] at hn2;omega
 | _=>grind
theorem QmO {id mv e sz rows rows' v0 v' xs xs' w'} (h:Rel ok0 N w0 lk lo a w L) (hok0:∀ b,¬ w0.fr b->ok0 b)
  (hid:lo id=some (XE e sz rows mv)) (hL:L id=.arr v0 xs) (hr:Ww w (okL ok0 lo L) e sz rows v0 rows' v' xs' w') :
  Rel ok0 N w0 lk (Za lo id (XE e sz rows' rows'.length)) a w' (QV L id (.arr v' xs')) /\
  QA (okL ok0 (Za lo id (XE e sz rows' rows'.length)) (QV L id (.arr v' xs'))) w' (Za lo id (XE e sz rows' rows'.length)) (QV L id (.arr v' xs')) (.yl id rows'.length) v':=by
 have hob:=h.y9 _ _ hid;rw[hL] at hob;obtain ⟨hown,hmv,hsz,h1,hxx⟩:=hob;rw[QKX] at hown hmv;have h0:∀ b,v0.ownBlock=some b->(L id).has b/\¬ w0.fr b:=fun b hb=>⟨by rw[hL];exact hb,hown.free b hb⟩;have hl':∀ b,(Lay.arr v' xs').has b->(L id).has b\/w.heap.size<=b:=fun b hb=>(hr.blk b hb).imp (fun h=>(h0 b h).1) (fun h=>h);have hg:Qlj (L id).has w w':=⟨hr.keep.os,hr.keep.tape,hr.keep.output,hr.keep.size,fun k hk hn=>hr.keep.block k ⟨hk,fun e=>hn (h0 k e).1⟩⟩;have hlen':(rows'.map (List.map AV.iv)).length=rows'.length:=by simp
 have hlen:(rows.map (List.map AV.iv)).length=rows.length:=by simp
 have hsl':=Jm hr.own;have res:∀ ok,QA ok w' (Za lo id (XE e sz rows' rows'.length)) (QV L id (.arr v' xs')) (.yl id rows'.length) v':=fun ok=>by
  have:=QA.yl (ok:=ok) (w:=w') (lo:=Za lo id (XE e sz rows' rows'.length)) (L:=QV L id (.arr v' xs')) id e sz (rows'.map (List.map AV.iv)) rows'.length v' xs' (by simp[Za,XE]) (by simp[QV]) hsl'
  rwa [hlen'] at this
 refine ⟨h.turn id hid hg hl' (fun z u hz hu=>?_) (fun _=>?_),res _⟩
 ·cases hu with
  | yl jj e2 sz2 es2 mv2 v2 xs2 ho' hL' hsl2 =>
    have:jj=id:=by simpa[AV.refs] using hz
    subst this;rw[hid] at ho';injection ho' with ho';injection ho' with g1 g2 g3 g4;subst g1 g2 g3 g4;rw[hL] at hL';injection hL' with g1 g2;subst g1 g2;rw[hlen];by_cases hs:rows'.length=rows.length
    ·have:=res (okL ok0 (Za lo jj (XE e sz rows' rows'.length)) (QV L jj (.arr v' xs')));rw[hs,hr.same hs] at this;rw[hr.same hs];rw[hs];exact this
    have hle:=hr.le;exact .old jj rows.length e sz (rows'.map (List.map AV.iv)) rows'.length v' v0 xs' (by simp[Za,XE]) (by simp[QV]) hsl2 (by rw[hlen'];omega) (fun hm=>by omega)
  | old jj n' e2 sz2 es2 mv2 v2 v2' xs2 ho' hL' hsl2 hn' hv2 =>
    have:jj=id:=by simpa[AV.refs] using hz
    subst this;rw[hid] at ho';injection ho' with ho';injection ho' with g1 g2 g3 g4;subst g1 g2 g3 g4;rw[hlen] at hn';have hle:=hr.le;exact .old jj n' e sz (rows'.map (List.map AV.iv)) rows'.length v' _ xs' (by simp[Za,XE]) (by simp[QV]) hsl2 (by rw[hlen'];omega) (fun hm=>by omega)
  | yj jj n' i' off' e2 sz2 es2 mv2 v2 xs2 b2 ho' hL' hn' hv2 =>
    have:jj=id:=by simpa[AV.refs] using hz
    subst this;rw[hid] at ho';injection ho' with ho';injection ho' with g1 g2 g3 g4;subst g1 g2 g3 g4;rw[hL] at hL';injection hL' with g1 g2;subst g1 g2;rw[hlen] at hn' hv2;have hle:=hr.le;refine .yj jj n' i' off' e sz (rows'.map (List.map AV.iv)) rows'.length v' xs' b2 (by simp[Za,XE]) (by simp[QV]) (by rw[hlen'];omega) (fun hm=>?_);have hs:rows'.length=rows.length:=by omega
    have hnr:n'=rows.length:=by omega
    obtain ⟨k1,k2,k3⟩:=hv2 (by omega);have hb2:v'.ownBlock=some b2:=by rw[hr.same hs];exact k2 hnr
    refine ⟨k1,fun _=>hb2,fun k hk=>⟨.inr hb2,?_⟩⟩;have hk':k<xs'.length:=by rw[hr.own.1,hs,<- hnr];exact hk
    refine ⟨xs'[k],?_,QKF hk'⟩;have:=hr.own.cells (g:=b2) hb2 k xs'[k] (QKF hk')
    rwa [addr_add,QKY] at this
  | _=>grind
 ·refine ⟨by rw[hlen'];exact ⟨hr.own,fun b hb=>(hr.blk b hb).elim (fun h1=>hown.free b h1) (fun h2=>h.frlt h2)⟩,by rw[hlen'];exact QKJ _,fun c hc=>?_,hr.one,fun i j c x u hi hj hu=>?_⟩
  ·obtain ⟨d,hd,rfl⟩:=QKT.1 hc;rw[QKX];exact hr.size d hd
  ·rw[QKN,QKK] at hi;obtain ⟨d,hd,rfl⟩:=hi;rw[QKN,QKK] at hj;obtain ⟨y,hy,rfl⟩:=hj;exact .iv _ _ ((hr.cells i j d y u hd hy hu).mono fun b hb _=>⟨QlP (l':=.arr v' xs') h hok0 hid h0 (fun b hb=>.inl hb) hb,rfl⟩)
end
inductive Enters (P:Program):Value->List Value->World->Next->Prop
 | clo (g us cs vs w) (hc:callee P g=true):Enters P (.func (.func g) us.toArray cs.toArray) vs w (.enter g (us++vs++cs).toArray)
 | yield (l vs w f tmps az body) (h:(Instr.yield l vs.toArray).run P w=.ok (.round l f tmps az body) w) :
   Enters P (.func (.yield l) #[] #[]) vs w (.round l f tmps az body)
def begun (P:Program) (c:Frame) (cs:List Frame) (w:World):Next->Machine
 | .enter f args=>lone (Frame.enter P f args .normal) (c::cs) w
 | .round l f tmps az body=>lone (Frame.round l f tmps az body .normal) (c::cs) w
 | _=>lone c cs w
def Ans (P:Program) (fv:Value) (vs:List Value) (w:World) (R:Value->World->Prop):Prop :=
 ∃ n,Enters P fv vs w n/\∀ c cs,∃ v w',R v w'/\Steps P (begun P c cs w n) (lone (c.finish v) cs w')
theorem Ans.mono {P fv vs w R R'} (h:Ans P fv vs w R) (hr:∀ v w',R v w'->R' v w'):Ans P fv vs w R':=by
 obtain ⟨n,h1,h2⟩:=h;refine ⟨n,h1,fun c cs=>?_⟩;obtain ⟨v,w',h3,h4⟩:=h2 c cs;exact ⟨v,w',hr _ _ h3,h4⟩
theorem Ans.of_calls {P g us cs vs w R} (hc:callee P g=true)
  (h:Calls P g (us++vs++cs).toArray w (fun e w'=>∃ v,e=.returned v/\R v w')):Ans P (.func (.func g) us.toArray cs.toArray) vs w R:=by
 refine ⟨_,.clo g us cs vs w hc,fun c fs=>?_⟩;obtain ⟨e,w',fr,⟨v,rfl,hR⟩,h1,h2,h3⟩:=h (c::fs);exact ⟨v,w',hR,Steps.trans h1 (.one (step_leave_returned h3))⟩
theorem QcP {P:Program} {a:Act} {o:Oper} {m:Nat} {az:Array Operand} {ts:Array TypeId} {w:World} {fv:Value} {n:Next} (ho:o.op=.call { callee:=.value (.tmp m),args:=az,argTypes:=ts })
  (hv:a.eval (.tmp m)=fv) (h:Enters P fv (az.toList.map a.eval) w n):(execOp a.eval o).run P w=.ok n w:=by
 cases h with
 | clo g us cs _ _ hc =>
   unfold callee at hc;split at hc
   ·rename_i fn hfn;simp only[QKI,QLb,beq_eq_false_iff_ne,ne_eq] at hc;obtain ⟨hb,hn⟩:=hc;have hb':fn.body≠none:=by cases h:fn.body<;>simp_all
    simp[execOp,ho,resolve,hv,Deferred.ofValue,invoke,callFunc,program,Sem.run,hfn,hn,hb']
   cases hc
 | yield l _ _ f tmps az' body h =>
   have e:(Array.map a.eval az)=((az.toList.map a.eval).toArray):=by
    apply Array.ext';simp
   simp[execOp,ho,resolve,hv,Deferred.ofValue,invoke];rw[e];exact h
def qs (P:Program) (ops:Array Oper) (i:Nat) (C:Act->World->Prop) (a:Act) (w:World):Prop :=
 ∀ (b:Frame) (rest:List Nat) (k:List Item) (cs:List Frame),∃ a' w',C a' w'/\Steps P (lone (b.atR a (.inRegion ops (i::rest)::k)) cs w) (lone (b.atR a' (.inRegion ops rest::k)) cs w')
section
variable {P:Program} {ops:Array Oper} {C:Act->World->Prop} {a:Act} {w:World} {i:Nat} {o:Oper}
theorem qs.mono {C':Act->World->Prop} (h:∀ a w,C a w->C' a w) (hh:qs P ops i C a w):qs P ops i C' a w:=fun b rest k cs =>
 let ⟨a',w',h1,h2⟩:=hh b rest k cs
 ⟨a',w',h _ _ h1,h2⟩
theorem Qm1 (ho:ops[i]?=none) (h:C a w):qs P ops i C a w:=fun b rest k cs=>by
 have hs:=stepR_op_skip (P:=P) (b:=b) (a:=a) (k:=k) (cs:=cs) (w:=w) (ops:=ops) (i:=i) (rest:=rest) (by simp[ho]);simp only[ho,Option.bind_none,Act.put] at hs;exact ⟨a,w,h,.one hs⟩
theorem Qm0 (ho:ops[i]?=some o) (hw:Region.wanted o (yielded ops a.tmps)=false) (h:C (a.put o.dst undef) w):qs P ops i C a w:=fun b rest k cs=>by
 have hs:=stepR_op_skip (P:=P) (b:=b) (a:=a) (k:=k) (cs:=cs) (w:=w) (ops:=ops) (i:=i) (rest:=rest) (by simp[ho,hw]);simp only[ho,Option.bind_some] at hs;exact ⟨_,w,h,.one hs⟩
theorem J8 (ho:ops[i]?=some o) (hw:Region.wanted o (yielded ops a.tmps)=true) (hnd:∀ c,o.op≠.defer c) (h:o.wp P a w C (fun _ _ _=>False)):qs P ops i C a w:=by
 intro b rest k cs;simp only[Oper.wp,Oper.upon] at h;have hg:=stepGR_op (P:=P) (b:=b) (k:=k) (cs:=cs) (w:=w) (rest:=rest) ho hw;rw[Oper.semAt_eq _ _ _ hnd] at hg;have hfin:∀ v,(b.atR a (.inRegion ops (i::rest)::k)).finish v=b.atR (a.put o.dst v) (.inRegion ops rest::k):=by
  intro v;rw[Frame.finish_atR,ho];rfl
 split at h
 ·rename_i v w' hr;refine ⟨_,_,h,.one (step_lone_go ?_)⟩;rw[hg,<- hfin];simp[stepG.apply,hr]
 ·rename_i w' hr;refine ⟨_,_,h,.one (step_lone_go ?_)⟩;rw[hg,<- hfin];simp[stepG.apply,hr]
 ·rename_i d w' hr;refine ⟨_,_,h,.one (step_lone_go ?_)⟩
  have:({ b.atR a (.inRegion ops (i::rest)::k) with defers:=d::a.defers }:Frame).finish undef =
    b.atR ({ a with defers:=d::a.defers }.put o.dst undef) (.inRegion ops rest::k):=by
   have:=Frame.finish_atR b { a with defers:=d::a.defers } ops i rest k undef;rw[ho] at this;exact this
  rw[hg];simp only[stepG.apply,Sem.runT_eq,hr,GStep.bare_after];exact congrArg (fun fr=>GStep.go { frame:=fr,callers:=cs,status:=.running,dying:=none } w') this
 ·rename_i f args w' hr;obtain ⟨e,w'',fr,hR,hsteps,_,hleave⟩:=h (b.atR a (.inRegion ops (i::rest)::k)::cs)
  have henter:step P (lone (b.atR a (.inRegion ops (i::rest)::k)) cs w) =
    .next (lone (Frame.enter P f args .normal) (b.atR a (.inRegion ops (i::rest)::k)::cs) w') :=
   step_lone_go (by rw[hg];simp[stepG.apply,hr,Frame.atR])
  cases e with
  | returned v =>
    refine ⟨_,_,hR,.head henter (Steps.trans hsteps (.one ?_))⟩;rw[<- hfin];exact step_leave_returned hleave
  | panicked zc=>exact hR.elim
  | outgrown =>
    obtain ⟨_,_,hq⟩:=hR;exact hq.elim
 ·rename_i row args w' hr;obtain ⟨v,w'',hR,hsteps⟩:=h (b.atR a (.inRegion ops (i::rest)::k)) cs
  have henter:step P (lone (b.atR a (.inRegion ops (i::rest)::k)) cs w) =
    .next (lone (Frame.ofRow P row args .normal) (b.atR a (.inRegion ops (i::rest)::k)::cs) w') :=
   step_lone_go (by rw[hg];simp[stepG.apply,hr,Frame.atR])
  refine ⟨_,_,hR,.head henter ?_⟩;rw[<- hfin];exact hsteps
 ·exact h.elim
 ·exact h.elim
theorem Qm2 {m:Nat} {az:Array Operand} {ts:Array TypeId} {fv:Value} {R:Value->World->Prop} (ho:ops[i]?=some o) (hw:Region.wanted o (yielded ops a.tmps)=true)
  (hop:o.op=.call { callee:=.value (.tmp m),args:=az,argTypes:=ts }) (hv:a.eval (.tmp m)=fv) (h:Ans P fv (az.toList.map a.eval) w R) (hC:∀ v w',R v w'->C (a.put o.dst v) w'):qs P ops i C a w:=by
 intro b rest k cs;obtain ⟨n,hen,hans⟩:=h;have hr:=QcP hop hv hen;have hg:=stepGR_op (P:=P) (b:=b) (k:=k) (cs:=cs) (w:=w) (rest:=rest) ho hw;rw[Oper.semAt_eq _ _ _ (fun c=>by rw[hop];simp)] at hg;have hfin:∀ v,(b.atR a (.inRegion ops (i::rest)::k)).finish v=b.atR (a.put o.dst v) (.inRegion ops rest::k):=by
  intro v;rw[Frame.finish_atR,ho];rfl
 obtain ⟨v,w',hR,hst⟩:=hans (b.atR a (.inRegion ops (i::rest)::k)) cs;refine ⟨_,w',hC v w' hR,?_⟩;rw[hfin] at hst;refine .head ?_ hst;cases hen with
 | clo g us cs' _ _ hc=>exact step_lone_go (by rw[hg];simp[stepG.apply,hr,Frame.atR])
 | yield l _ _ f tmps az' body h=>exact step_lone_go (by rw[hg];simp[stepG.apply,hr])
def QaW (P:Program) (ops:Array Oper) (Q:Act->World->Prop):List Nat->Act->World->Prop
 | []=>Q
 | i::r=>qs P ops i (QaW P ops Q r)
def Qti (P:Program) (md:Region.Mode) (ops:Array Oper) (Q:Act->World->Prop):Nat->Array Bool->Act->World->Prop
 | 0,listed,a,w=>Region.ready md ops listed=[]/\Q a w
 | fuel+1,listed,a,w =>
   (Region.ready md ops listed=[]->Q a w) /\
   ∀ i∈Region.ready md ops listed,qs P ops i (Qti P md ops Q fuel (listed.setIfInBounds i true)) a w
theorem QjH {md:Region.Mode} {Q}:∀ fuel t listed a w,Qti P md ops Q fuel listed a w ->
  QaW P ops Q (Region.linearise.go md ops fuel t listed []) a w:=by
 intro fuel;induction fuel with
 | zero=>intro t listed a w h;simpa[Region.linearise.go,QaW] using h.2
 | succ fuel ih =>
   intro t listed a w h;obtain ⟨h₀,h₁⟩:=h;simp only[Region.linearise.go]
   change QaW P ops Q (match (Region.ready md ops listed)[t % (Region.ready md ops listed).length]? with
    | some i=>Region.linearise.go md ops fuel (t / (Region.ready md ops listed).length) (listed.setIfInBounds i true) [i]
    | none=>[].reverse) a w
   cases hi:(Region.ready md ops listed)[t % (Region.ready md ops listed).length]? with
   | none =>
     have hnil:Region.ready md ops listed=[]:=by
      cases hr:Region.ready md ops listed with
      | nil=>rfl
      | cons x xs =>
        rw[hr] at hi;have xa:t % (x::xs).length<(x::xs).length:=Nat.mod_lt _ (by simp);simp at hi;simp at xa;omega
     simpa[QaW] using h₀ hnil
   | some i =>
     simp only[];rw[linearise_go_acc,List.reverse_singleton,List.singleton_append];simp only[QaW];exact qs.mono (fun a w=>ih _ _ a w) (h₁ i (QKW hi))
theorem Wo {Q:Act->World->Prop}:∀ (l:List Nat) (a:Act) (w:World),QaW P ops Q l a w->∀ (b:Frame) (k:List Item) (cs:List Frame),
  ∃ a' w',Q a' w'/\Steps P (lone (b.atR a (.inRegion ops l::k)) cs w) (lone (b.atR a' k) cs w')
 | [],a,w,h,b,k,cs=>⟨a,w,h,.one stepR_region_end⟩
 | i::r,a,w,h,b,k,cs=>by
   obtain ⟨a1,w1,h1,h2⟩:=h b r k cs;obtain ⟨a2,w2,h3,h4⟩:=Wo r a1 w1 h1 b k cs;exact ⟨a2,w2,h3,Steps.trans h2 h4⟩
theorem QgS {id:Nat} {Q:Act->World->Prop} (h:QaW P ops Q (List.range ops.size) a w) (b:Frame) (k:List Item) (cs:List Frame) :
  ∃ a' w',Q a' w'/\Steps P (lone (b.atR a (.code (.region id ops false)::k)) cs w) (lone (b.atR a' k) cs w'):=by
 obtain ⟨a',w',h1,h2⟩:=Wo _ a w h b k cs;exact ⟨a',w',h1,.head stepR_region h2⟩
theorem Qe2 {id:Nat} {Q:Act->World->Prop} (hm:P.follows .mixedOrders=true) (h:Qti P .any ops Q ops.size (Array.replicate ops.size false) a { w with drawn:=w.drawn+1 })
  (b:Frame) (k:List Item) (cs:List Frame) :
  ∃ a' w',Q a' w'/\Steps P (lone (b.atR a (.code (.region id ops true)::k)) cs w) (lone (b.atR a' k) cs w'):=by
 have h1:=QjH (Q:=Q) ops.size (w.tape w.drawn (.order b.fn id)) _ a _ h;obtain ⟨a',w',h2,h3⟩:=Wo _ a _ h1 b k cs;refine ⟨a',w',h2,.head stepR_region_draw ?_⟩;simp only[Region.schedule,hm,Bool.true_or,if_true];exact h3
end
def Y0 (w:World) (b:Nat):Prop:=(∃ c t f,w.heap[b]?=some (.cells c t f))\/∃ es k,w.heap[b]?=some (.map es k)
theorem Vb {w b o u} (h:w.cell? ⟨b,o,none⟩=some u):Y0 w b:=by
 unfold World.cell? at h;split at h
 ·rename_i c t f hb;exact .inl ⟨c,t,f,hb⟩
 ·cases h
theorem Y0.lt {w b} (h:Y0 w b):b<w.heap.size:=by
 rcases h with ⟨c,t,f,h⟩ | ⟨es,k,h⟩<;>exact (QKQ.1 h).1
theorem QF.plain {ok w x v} (h:QF ok w x v):QF (fun b=>ok b/\Y0 w b) w x v:=by
 induction h with
 | any v=>exact .any v
 | bool b=>exact .bool b
 | int k n=>exact .int k n
 | str s=>exact .str s
 | nilp=>exact .nilp
 | nils sz=>exact .nils sz
 | nilz sz a=>exact .nilz sz a
 | sl sz es b off cap u hl hc hs hu _ ih =>
   refine .sl sz es b off cap u hl hc hs (fun k hk=>?_) (fun i j c x h1 h2=>ih i j c x h1 h2);obtain ⟨h1,h2,h3⟩:=hu k hk;exact ⟨⟨h1,Vb h2⟩,h2,h3⟩
 | ptr cs b off u hu _ ih =>
   refine .ptr cs b off u (fun k hk=>?_) (fun k x h1=>ih k x h1);obtain ⟨h1,h2,h3⟩:=hu k hk;exact ⟨⟨h1,Vb h2⟩,h2,h3⟩
 | agg cs vs hl h1 _ ih=>exact .agg cs vs hl h1 (fun k x u h1 h2=>ih k x u h1 h2)
 | xd cs vs hl _ ih=>exact .xd cs vs hl (fun k x u h1 h2=>ih k x u h1 h2)
 | fn f=>exact .fn f
 | lit v=>exact .lit v
 | ifn v h=>exact .ifn v h
 | bag sz es es' v hp _ ih=>exact .bag sz es es' v hp ih
 | mapn=>exact .mapn
 | map kvs r es clock hr0 hr hm hd _ ih=>exact .map kvs r es clock ⟨hr0,.inr ⟨es,clock,hr⟩⟩ hr hm hd (fun i e p h3 h4=>ih i e p h3 h4)
 | clo g fs cs us vs h1 h2 _ _ ih1 ih2=>exact .clo g fs cs us vs h1 h2 (fun k x u a b=>ih1 k x u a b) (fun k x u a b=>ih2 k x u a b)
structure U5 (ok:Nat->Prop) (O:Nat->Prop) (w:World) (s':Ext) (y:IV) (O' D':Nat->Prop) (v:Value) (w':World):Prop where
 rep:QF (fun b=>ok b/\¬ O' b) w' y v
 keep:Q8 (fun b=>b<w.heap.size/\¬ O b) w w'
 J:s'.J O' D' w'
 new:∀ b,O' b->O b\/w.heap.size<=b
 sub:∀ b,O' b->D' b
 lt:∀ b,D' b->b<w'.heap.size
 okd:∀ b,D' b->O' b\/ok b
structure Qh8 (K:World->Prop) (ok:Nat->Prop) (O D:Nat->Prop) (w:World) (s:Ext) (xs:List IV) (vs:List Value):Prop where
 hK:∀ w',Q8 (fun b=>b<w.heap.size/\¬ O b) w w'->K w'
 J:s.J O D w
 sub:∀ b,O b->D b
 lt:∀ b,D b->b<w.heap.size
 okd:∀ b,D b->O b\/ok b
 new:∀ b,w.heap.size<=b->ok b
 own:∀ b,O b->ok b
 len:vs.length=xs.length
 args:∀ (k:Nat) (x:IV) (u:Value),xs[k]?=some x->vs[k]?=some u->QF (fun b=>ok b/\¬ O b) w x u
def Yk (P:Program) (K:World->Prop) (s:Ext) (xs:List IV) (y:IV) (s':Ext):Prop :=
 s'.v=s.v/\∀ (ok O D:Nat->Prop) (w:World) (vs:List Value),Qh8 K ok O D w s xs vs ->
  Ans P s.v vs w (fun v w'=>∃ O' D',U5 ok O w s' y O' D' v w')
def Qh6 (P:Program) (K:World->Prop) (g:FuncId) (pre post:List IV) (s:Ext) (y:IV) (s':Ext):Prop :=
 s'.v=s.v/\∀ (ok O D:Nat->Prop) (w:World) (us vs:List Value),Qh8 K ok O D w s (pre++post) (us++vs)->us.length=pre.length ->
  Calls P g (us++s.v::vs).toArray w (fun e w'=>∃ v,e=.returned v/\∃ O' D',U5 ok O w s' y O' D' v w')
def qw (P:Program) (K:World->Prop) (g:FuncId) (xs:List IV) (s:Ext) (y:IV) (s':Ext):Prop :=
 s'.v=s.v/\∀ (ok O D:Nat->Prop) (w:World) (vs:List Value),Qh8 K ok O D w s xs vs ->
  Calls P g vs.toArray w (fun e w'=>∃ v,e=.returned v/\∃ O' D',U5 ok O w s' y O' D' v w')
def QDn (P:Program) (K:World->Prop) (x:AV) (id:Nat) (s:Ext) (xs:List IV) (y:IV) (s':Ext):Prop :=
 (x=.cb id/\Yk P K s xs y s')\/(x=.iv (.lit s.v)/\Yk P K s xs y s')\/∃ g fs cs,x=.iv (.clo g fs cs)/\callee P g=true/\qw P K g (fs++xs++cs) s y s'
theorem QDn.v {P K x id s xs y s'} (h:QDn P K x id s xs y s'):s'.v=s.v:=by
 rcases h with ⟨_,h⟩ | ⟨_,h⟩ | ⟨_,_,_,_,_,h⟩<;>exact h.1
theorem Qec {P K g pre post s y s'} (h:qw P K g (pre++[.lit s.v]++post) s y s'):Qh6 P K g pre post s y s':=by
 refine ⟨h.1,fun ok O D w us vs hp hl=>?_⟩;have:=h.2 ok O D w (us++[s.v]++vs) ⟨hp.hK,hp.J,hp.sub,hp.lt,hp.okd,hp.new,hp.own,?_,fun k x u hx hu=>?_⟩
 ·simpa using this
 ·have:=hp.len;simp at this |-;omega
 ·have hlen:=hp.len;simp at hlen;by_cases k1:k<pre.length
  ·exact hp.args k x u (by rw[QKS k1];simpa[QK8,QKS k1] using hx) (by rw[QKS (by omega)];simpa[QK8,QKS (show k<us.length by omega)] using hu)
  ·by_cases k2:k=pre.length
   ·subst k2;simp at hx;rw[<- hl] at hu;simp at hu;subst hx hu;exact .lit _
   ·refine hp.args (k-1) x u ?_ ?_
    ·rw[QKO (by omega)]
     rw[QKO (by simp;omega)] at hx;simp only[QKP,QKV,QK4] at hx;rw[<- hx];congr 1;omega
    ·rw[QKO (by omega)]
     rw[QKO (by simp;omega)] at hu;simp only[QKP,QKV,QK4] at hu;rw[<- hu];congr 1;omega
inductive Q9 (P:Program) (K:World->Prop):List (List IV)->Ext->Bool->Ext->Prop
 | nil (s):Q9 P K [] s true s
 | stop (x r s s') (h:Yk P K s x (.bool false) s'):Q9 P K (x::r) s false s'
 | next (x r s s' s'' b) (h:Yk P K s x (.bool true) s') (hr:Q9 P K r s' b s''):Q9 P K (x::r) s b s''
def qu (P:Program) (K:World->Prop) (g:FuncId) (pre post:List IV) (L:List (List IV)) (y:Bool->IV):Prop:=∀ s b s',Q9 P K L s b s'->Qh6 P K g pre post s (y b) s'
def qv (P:Program) (K:World->Prop) (g:FuncId) (pre post:List IV) (L:List (List IV)):Prop:=qu P K g pre post L (fun _=>.xd [])
def Qwc (P:Program) (K:World->Prop) (g:FuncId) (pre post:List IV) (s:Ext) (Q:Ext->Prop):Prop :=
 (∀ s',Q s'->s'.v=s.v)/\∀ (ok O D:Nat->Prop) (w:World) (us vs:List Value),Qh8 K ok O D w s (pre++post) (us++vs)->us.length=pre.length ->
   Calls P g (us++s.v::vs).toArray w (fun e w'=>∃ v,e=.returned v/\∃ s',Q s'/\∃ O' D',U5 ok O w s' (.xd []) O' D' v w')
def Beg (S:List (List IV)->Prop) (p:List (List IV)):Prop:=∃ r,S (p++r)
def QrW (P:Program) (K:World->Prop) (g:FuncId) (pre post:List IV) (S:List (List IV)->Prop):Prop :=
 ∀ st:List (List IV)->Ext,(∀ p x,Beg S (p++[x])->Yk P K (st p) x (.bool true) (st (p++[x])))->Qwc P K g pre post (st []) (fun s'=>∃ L,S L/\s'=st L)
theorem Q9.v {P K L s s' b} (h:Q9 P K L s b s'):s'.v=s.v:=by
 induction h with
 | nil=>rfl
 | stop _ _ _ _ h=>exact h.1
 | next _ _ _ _ _ _ h _ ih=>exact ih.trans h.1
theorem Q9.append {P K l r s s' b} (h:Q9 P K (l++r) s b s'):(∃ s1,Q9 P K l s true s1/\Q9 P K r s1 b s')\/(b=false/\Q9 P K l s false s'):=by
 induction l generalizing s with
 | nil=>exact .inl ⟨s,.nil s,h⟩
 | cons x l ih =>
   cases h with
   | stop _ _ _ _ h=>exact .inr ⟨rfl,.stop _ _ _ _ h⟩
   | next _ _ _ s1 _ _ h hr =>
     rcases ih hr with ⟨s2,h1,h2⟩ | ⟨h1,h2⟩
     ·exact .inl ⟨s2,.next _ _ _ _ _ _ h h1,h2⟩
     ·exact .inr ⟨h1,.next _ _ _ _ _ _ h h2⟩
structure XH.le (w0 w1:XH):Prop where
 keep:Q8 w0.fr w0.w w1.w
 fr:∀ b,w0.fr b->w1.fr b
 pin:w1.pin=w0.pin
theorem XH.le.refl (w0:XH):w0.le w0:=⟨Q8.refl _ _,fun _ h=>h,rfl⟩
theorem XH.le.trans {w0 w1 w2:XH} (h:w0.le w1) (k:w1.le w2):w0.le w2 :=
 ⟨h.keep.trans (k.keep.mono h.fr),fun b hb=>k.fr b (h.fr b hb),k.pin.trans h.pin⟩
theorem XH.le.keeps {w0 w1:XH} {w:World} (h:w0.le w1) (hk:Q8 w1.fr w1.w w):Q8 w0.fr w0.w w:=h.keep.trans (hk.mono h.fr)
theorem QG.frame {B B' ok w lo L o l} (h:QG B ok w lo L o l) (hn:∀ b,l.has b->¬ B' b) (hs:∀ b,B b->B' b):QG B' ok w lo L o l:=by
 cases o with
 | box cs =>
   cases l with
   | box b=>exact ⟨hn b rfl,h.2⟩
   | _=>exact h.elim
 | arr e sz es mv =>
   cases l with
   | arr v xs=>exact ⟨⟨h.1.own,fun b hb=>hn b hb⟩,h.2⟩
   | _=>exact h.elim
 | xg kvs =>
   cases l with
   | one b=>exact ⟨hn b rfl,h.2⟩
   | _=>exact h.elim
 | mapz kk =>
   cases l with
   | one b=>exact ⟨hn b rfl,h.2⟩
   | _=>exact h.elim
 | yo e sz kvs pend =>
   cases l with
   | map b vals =>
     obtain ⟨hB,hc,hd,hk,hr,ha⟩:=h;refine ⟨hn b (.inl rfl),hc,hd,hk,fun i p q hp hq=>?_,ha⟩;obtain ⟨xs,h1,h2⟩:=hr i p q hp hq;exact ⟨xs,⟨h1.own,fun b hb=>hn b (.inr ⟨q,QKW hq,hb⟩)⟩,h2⟩
   | _=>exact h.elim
 | yq kvs seen =>
   cases l with
   | one b=>exact ⟨hn b rfl,h.2⟩
   | _=>exact h.elim
 | ext s =>
   cases l with
   | ext O D=>exact ⟨fun b hb=>⟨hn b hb,(h.1 b hb).2⟩,fun b hb=>(h.2.1 b hb).imp (fun h=>h) (fun ⟨h1,h2⟩=>⟨hs b h1,h2⟩),h.2.2⟩
   | _=>exact h.elim
section
variable {P:Program} {K:World->Prop} {ok0:Nat->Prop} {N:Fm} {w0:XH} {lk:Nat->AV} {lo:Nat->Option AO} {a:Act} {w:World} {L:Nat->Lay}
theorem QlF {id s x u ok} (hid:lo id=some (.ext s)) (hx:AV.refs id x=true) (hr:QA ok w lo L x u):x=.cb id/\u=s.v:=by
 cases hr with
 | _=>grind
def okC (ok:Nat->Prop) (D:Nat->Prop) (w:World) (b:Nat):Prop:=D b\/(ok b/\Y0 w b)\/w.heap.size<=b
theorem QzO {id s s' O D O' D' y v w'} (hok0:∀ b,¬ w0.fr b->ok0 b) (h:Rel ok0 N w0 lk lo a w L) (hid:lo id=some (.ext s)) (hL:L id=.ext O D)
  (hv:s'.v=s.v) (hp:U5 (okC (okL ok0 lo L) D w) O w s' y O' D' v w') :
  ∃ w1,w0.le w1/\Rel ok0 N w1 lk (Za lo id (.ext s')) a w' (QV L id (.ext O' D')):=by
 have hob:=h.y9 id _ hid;rw[hL] at hob;obtain ⟨hO,hD,hJ⟩:=hob;have hLO:∀ b,(L id).has b↔O b:=fun b=>by rw[hL];exact Iff.rfl
 have hfrO:∀ b,w0.fr b->b<w.heap.size/\¬ O b:=fun b hb=>⟨h.frl b hb,fun ho=>(hO b ho).1 hb⟩;have hkw:Q8 w0.fr w w':=hp.keep.mono hfrO;have hk0:Q8 w0.fr w0.w w':=h.below.trans hkw
 let w1:XH:={ w:=w',fr:=fun b=>w0.fr b\/(D' b/\¬ O' b),lt:=fun b hb=>hb.elim (fun hb=>QLn (h.frl b hb) hp.keep.size) (fun hb=>hp.lt b hb.1),pin:=w0.pin }
 have hle:w0.le w1:=⟨hk0,fun b hb=>.inl hb,rfl⟩;have xb:∀ i,i≠id->Za lo id (.ext s') i=lo i/\QV L id (.ext O' D') i=L i:=fun i hi=>by simp[Za,QV,hi]
 have hsame:∀ b,b<w.heap.size->¬ O b->w'.heap[b]?=w.heap[b]?:=fun b h1 h2=>hp.keep.block b ⟨h1,h2⟩;have hoth:∀ b,D' b->¬ O' b->∀ i oi,i≠id->lo i=some oi->¬ (L i).has b:=by
  intro b hb hnb i oi hi hoi hbad;rcases hp.okd b hb with h1 | h1 | ⟨h1,_⟩ | h1
  ·exact hnb h1
  ·rcases hD b h1 with h2 | ⟨h2,h3⟩
   ·exact h.apart i id oi _ b hi hoi hid hbad ((hLO b).2 h2)
   exact h3.2 i oi hoi hbad
  ·exact h1.2 i oi hoi hbad
  have:=((h.y9 i oi hoi).lt hbad).2;omega
 have hok:∀ b,okL ok0 lo L b->b<w.heap.size->okL ok0 (Za lo id (.ext s')) (QV L id (.ext O' D')) b:=by
  intro b hb xa;refine ⟨hb.1,fun i oi hi he=>?_⟩;by_cases hii:i=id
  ·subst hii;simp only[QV,if_true,Lay.has] at he;rcases hp.new b he with h1 | h1
   ·exact hb.2 _ _ hid ((hLO b).2 h1)
   omega
  grind
 have all:∀ x v,QA (okL ok0 lo L) w lo L x v->QA (okL ok0 (Za lo id (.ext s')) (QV L id (.ext O' D'))) w' (Za lo id (.ext s')) (QV L id (.ext O' D')) x v:=by
  intro x v hx;refine hx.turn ⟨_,hid⟩ xb h.apart (fun b h1 h2=>hsame b h1 (fun ho=>h2 ((hLO b).2 ho))) hok (fun x v hr hx=>?_);grind
 refine ⟨w1,hle,Q8.refl _ _,?_,h.size,fun t=>all _ _ (h.env t),fun i oi hi=>?_,fun i j oi oj b hij hi hj h1 h2=>?_,h.pin⟩
 ·obtain ⟨rs,e1,e2,e3⟩:=h.defers;refine ⟨rs,e1,e2,fun r hr=>?_⟩;obtain ⟨g1,g2,g3⟩:=e3 r hr;have xa:=(QKQ.1 g1).1;have hnO:¬ O r:=fun ho=>g3 id _ hid ((hLO r).2 ho);refine ⟨(hsame r xa hnO).trans g1,?_,fun i oi hi he=>?_⟩
  ·rintro (hf | ⟨hf,hnf⟩)
   ·exact g2 hf
   rcases hp.okd r hf with h1 | h1 | ⟨_,h1⟩ | h1
   ·exact hnf h1
   ·grind
   ·rcases h1 with ⟨c,t,f,h1⟩ | ⟨es,k,h1⟩<;>rw[g1] at h1<;>cases h1
   omega
  grind
 ·by_cases hii:i=id
  ·subst hii;simp only[Za,if_true,Option.some.injEq] at hi;subst hi;simp only[QV,if_true];refine ⟨fun b hb=>⟨?_,hp.lt b (hp.sub b hb),hp.sub b hb⟩,fun b hb=>?_,hp.J⟩
   ·rintro (hf | ⟨_,hf⟩)
    ·rcases hp.new b hb with h1 | h1
     ·exact (hO b h1).1 hf
     exact h.frlt h1 hf
    exact hf hb
   by_cases hbo:O' b
   ·exact .inl hbo
   refine .inr ⟨.inr ⟨hb,hbo⟩,?_,fun j oj hj he=>?_⟩
   ·rcases hp.okd b hb with h1 | h1 | ⟨h1,_⟩ | h1
    all_goals grind
   grind
  simp only[Za,hii,if_false] at hi;simp only[QV,hii,if_false];have hne:∀ b,(L i).has b->¬ O b:=fun b hb ho=>h.apart i id oi _ b hii hi hid hb ((hLO b).2 ho);refine ((h.y9 i oi hi).stay hkw h.frl (fun b hb xa=>hsame b xa (hne b hb)) (fun b hb xa=>⟨hok b hb xa,hsame b xa (fun ho=>hb.2 id _ hid ((hLO b).2 ho))⟩) (fun _=>all)).frame (fun b hb=>?_) (fun b hb=>.inl hb);rintro (hf | ⟨hf,hnf⟩)
  ·exact ((h.y9 i oi hi).lt hb).1 hf
  exact hoth b hf hnf i oi hii hi hb
 ·by_cases hii:i=id
  ·have hjj:j≠id:=fun e=>hij (hii.trans e.symm);simp only[QV,hii,if_true,Lay.has] at h1;simp only[Za,hjj,if_false] at hj;simp only[QV,hjj,if_false] at h2;rcases hp.new b h1 with h3 | h3
   ·exact h.apart id j _ oj b (fun e=>hjj e.symm) hid hj ((hLO b).2 h3) h2
   have:=((h.y9 j oj hj).lt h2).2;omega
  ·simp only[Za,hii,if_false] at hi;simp only[QV,hii,if_false] at h1;by_cases hjj:j=id
   ·simp only[QV,hjj,if_true,Lay.has] at h2;rcases hp.new b h2 with h3 | h3
    ·exact h.apart i id oi _ b hii hi hid h1 ((hLO b).2 h3)
    have:=((h.y9 i oi hi).lt h1).2;omega
   ·simp only[Za,hjj,if_false] at hj;simp only[QV,hjj,if_false] at h2;exact h.apart i j oi oj b hij hi hj h1 h2
end
theorem QF.move {ok ok' w w' x v} (h:QF ok w x v) (hok:∀ b,ok b->Y0 w b->ok' b/\w'.heap[b]?=w.heap[b]?):QF ok' w' x v :=
 h.plain.mono fun b hb _=>hok b hb.1 hb.2
theorem QA.move {ok ok' w w' lo L x v} (h:QA ok w lo L x v)
  (hok:∀ b,ok b->Y0 w b->ok' b/\w'.heap[b]?=w.heap[b]?) (hown:∀ id o b,lo id=some o->(L id).has b->w'.heap[b]?=w.heap[b]?):QA ok' w' lo L x v:=by
 have cell:∀ id b k v u (xs:List Value) o,lo id=some o->L id=.arr v xs->(ok b\/v.ownBlock=some b)->w.cell? ⟨b,k,none⟩=some u ->
   (ok' b\/v.ownBlock=some b)/\w'.cell? ⟨b,k,none⟩=some u:=by
  intro id b k v u xs o ho hL h1 h2;have:=hok b;have:=Vb h2;have:=@QL1 w w' ⟨b,k,none⟩;grind
 induction h with
 | iv x v h=>exact .iv x v (h.move hok)
 | zsl sz rs v h hz=>exact .zsl sz rs v h (hz.move hok)
 | _=>grind
structure QrZ (w w':World):Prop where
 os:w'.os=w.os
 tape:w'.tape=w.tape
 output:w'.output=w.output
 size:w.heap.size<=w'.heap.size
theorem QG.move {B B' ok ok' w w' lo L o l} (h:QG B ok w lo L o l) (hw:QrZ w w')
  (hok:∀ b,ok b->Y0 w b->ok' b/\w'.heap[b]?=w.heap[b]?) (hl:∀ b,l.has b->¬ B' b/\w'.heap[b]?=w.heap[b]?)
  (hfr:∀ b,B b->ok b->B' b/\ok' b/\w'.heap[b]?=w.heap[b]?)
  (all:∀ x v,QA ok w lo L x v->QA ok' w' lo L x v):QG B' ok' w' lo L o l:=by
 have row:∀ {e sz n v xs},YH B w e sz v n xs->(∀ b,v.ownBlock=some b->l.has b)->YH B' w' e sz v n xs:=fun h1 h2 =>
  ⟨(YH.stay (Fr:=B) h1 fun b hb=>(hl b (h2 b hb)).2).own,fun b hb=>(hl b (h2 b hb)).1⟩
 have mv:=fun x v (h:QF ok w x v)=>h.move hok;unfold QG at h;split at h
 case h_2=>exact ⟨row h.1 fun b hb=>hb,h.2.1,h.2.2.1,h.2.2.2.1,by grind⟩
 case h_4 b vals =>
  obtain ⟨hB,⟨es,clock,hb,hm⟩,hd,hk,hr,ha⟩:=h;refine ⟨(hl b (.inl rfl)).1,⟨es,clock,(hl b (.inl rfl)).2.trans hb,hm⟩,hd,hk,fun i p q hp hq=>?_,ha⟩;obtain ⟨xs,h1,h2,h3,h4,h5⟩:=hr i p q hp hq;exact ⟨xs,row h1 fun b' hb'=>.inr ⟨q,QKW hq,hb'⟩,h2,h3,h4,by grind⟩
 case h_5 =>
  obtain ⟨hB,r,since,sn,hb,hi⟩:=h;refine ⟨(hl _ rfl).1,r,since,sn,(hl _ rfl).2.trans hb,?_⟩;cases r with
  | none=>exact hi
  | some r =>
    obtain ⟨es,h1,h2,h3,h4,h5,h6⟩:=hi;obtain ⟨h7,h8⟩:=hok r h1 (.inr ⟨_,_,h2⟩);exact ⟨es,h7,h8.trans h2,h3,by grind,h5,h6⟩
 case h_6 =>
  obtain ⟨h1,h2,h3⟩:=h;exact ⟨by have:=hw.size;grind,by grind,Ext.stay _ _ _ w w' h3 ⟨hw.os,hw.tape,hw.output,hw.size,by grind⟩⟩
 all_goals grind [QG]
section
variable {ok0:Nat->Prop} {N:Fm} {w0:XH} {lk:Nat->AV} {lo:Nat->Option AO} {a:Act} {w:World} {L:Nat->Lay}
theorem Rel.move {ok1 N1 w1 lk1 a1 w'} (h:Rel ok0 N w0 lk lo a w L) (hw:QrZ w w') (hk:Q8 w1.fr w1.w w')
  (hd:Qa2 w1.fr lo L w' a1.defers) (hs:a1.tmps.size=N1.n) (ht:∀ t,QA (okL ok0 lo L) w lo L (lk1 t) (a1.tmps.getD t undef)) (hp:∀ t,N1.pins.contains t=true->a1.tmps.getD t undef=w1.pin t)
  (hok:∀ b,okL ok0 lo L b->Y0 w b->ok1 b/\w'.heap[b]?=w.heap[b]?) (hown:∀ id o b,lo id=some o->(L id).has b->¬ w1.fr b/\w'.heap[b]?=w.heap[b]?)
  (hfr:∀ b,w0.fr b->okL ok0 lo L b->w1.fr b/\ok1 b/\w'.heap[b]?=w.heap[b]?):Rel ok1 N1 w1 lk1 lo a1 w' L:=by
 have hok':∀ b,okL ok0 lo L b->Y0 w b->okL ok1 lo L b/\w'.heap[b]?=w.heap[b]?:=fun b h1 h2=>⟨⟨(hok b h1 h2).1,h1.2⟩,(hok b h1 h2).2⟩;have all:∀ x v,QA (okL ok0 lo L) w lo L x v->QA (okL ok1 lo L) w' lo L x v:=fun x v hx=>hx.move hok' (fun id o b h1 h2=>(hown id o b h1 h2).2);exact ⟨hk,hd,hs,fun t=>all _ _ (ht t),fun id o ho=>(h.y9 id o ho).move hw hok' (fun b hb=>hown id o b ho hb) (fun b h1 h2=>⟨(hfr b h1 h2).1,⟨(hfr b h1 h2).2.1,h2.2⟩,(hfr b h1 h2).2.2⟩) all,h.apart,hp⟩
end
mutual
def scr (ids:List Nat):AV->AV
 | .iv x=>.iv x
 | .agg cs=>.agg (scrL ids cs)
 | .loc id off=>if ids.contains id then .loc id off else .iv .any
 | .yj id n i off=>if ids.contains id then .yj id n i off else .iv .any
 | .yn id k n=>if ids.contains id then .yn id k n else .iv .any
 | .ym sz=>.ym sz
 | .zsl sz rows=>.zsl sz rows
 | .yk id=>if ids.contains id then .yk id else .iv .any
 | .clo g fs cs=>.clo g (scrL ids fs) (scrL ids cs)
 | .xd cs=>.xd (scrL ids cs)
 | .cb id=>if ids.contains id then .cb id else .iv .any
 | .yl id n=>if ids.contains id then .yl id n else .iv .any
def scrL (ids:List Nat):List AV->List AV
 | []=>[]
 | x::r=>scr ids x::scrL ids r
end
def QdL (ids:List Nat):AO->AO
 | .box cs=>.box (scrL ids cs)
 | .arr e sz es mv=>.arr e sz (es.map (scrL ids)) mv
 | .xg kvs=>.xg kvs
 | .mapz kk=>.mapz kk
 | .yo e sz kvs pend=>.yo e sz kvs pend
 | .yq kvs seen=>.yq kvs seen
 | .ext s=>.ext s
mutual
def rn (m:Nat->Nat):AV->AV
 | .iv x=>.iv x
 | .agg cs=>.agg (rnL m cs)
 | .loc id off=>.loc (m id) off
 | .yj id n i off=>.yj (m id) n i off
 | .yl id n=>.yl (m id) n
 | .yn id k n=>.yn (m id) k n
 | .ym sz=>.ym sz
 | .zsl sz rows=>.zsl sz rows
 | .yk id=>.yk (m id)
 | .clo g fs cs=>.clo g (rnL m fs) (rnL m cs)
 | .xd cs=>.xd (rnL m cs)
 | .cb id=>.cb (m id)
def rnL (m:Nat->Nat):List AV->List AV
 | []=>[]
 | x::r=>rn m x::rnL m r
end
def rnO (m:Nat->Nat):AO->AO
 | .box cs=>.box (rnL m cs)
 | .arr e sz es mv=>.arr e sz (es.map (rnL m)) mv
 | o=>o
theorem QiI (m):∀ cs,rnL m cs=cs.map (rn m)
 | []=>rfl
 | x::r=>by simp[rnL,QiI m r]
theorem QbY (m cs):(rnL m cs).length=cs.length:=by simp[QiI]
theorem QbZ (m:Nat->Nat) (cs:List AV) (k:Nat):(rnL m cs)[k]?=(cs[k]?).map (rn m):=by simp[QiI]
theorem Qvx {ok ok' w lo lo' L L' m} (hok:∀ b,ok b->ok' b) (xb:∀ id o,lo id=some o->lo' (m id)=some (rnO m o)/\L' (m id)=L id) {x v}
  (h:QA ok w lo L x v):QA ok' w lo' L' (rn m x) v:=by
 induction h with
 | iv x v h=>exact .iv x v (h.mono fun b hb _=>⟨hok b hb,rfl⟩)
 | zsl sz rs v h hr=>exact .zsl sz rs v h (hr.mono fun b hb _=>⟨hok b hb,rfl⟩)
 | yl id e sz es mv v xs ho hL h1 =>
   have:=QA.yl (ok:=ok') (w:=w) (lo:=lo') (L:=L') (m id) e sz (es.map (rnL m)) mv v xs (xb id _ ho).1 ((xb id _ ho).2.trans hL) h1
   rwa [QKX] at this
 | yk id b o ho hn hL=>exact .yk (m id) b _ (xb id _ ho).1 (by cases o<;>first | exact hn | cases hn) ((xb id _ ho).2.trans hL)
 | _=>grind [rn,rnO,QbY,QbZ]
theorem QwP {B ok ok' w lo lo' L L' m} (hok:∀ b,ok b->ok' b) (xb:∀ id o,lo id=some o->lo' (m id)=some (rnO m o)/\L' (m id)=L id) {o l}
  (h:QG B ok w lo L o l):QG B ok' w lo' L' (rnO m o) l:=by
 have all:=fun x v=>Qvx (w:=w) (x:=x) (v:=v) hok xb;have mono:∀ x v,QF ok w x v->QF ok' w x v:=fun _ _ h=>h.mono fun b hb _=>⟨hok b hb,rfl⟩;have it:∀ kvs seen r since sn,JJ ok w kvs seen r since sn->JJ ok' w kvs seen r since sn:=fun _ _ _ _ _ h=>h.mono fun b hb _=>⟨hok b hb,rfl⟩;unfold QG at h;split at h<;>grind [QG,rnO,QbY,QbZ]
theorem QeT (ids):∀ cs,scrL ids cs=cs.map (scr ids)
 | []=>rfl
 | x::r=>by simp[scrL,QeT ids r]
theorem WK (ids:List Nat) (cs:List AV) (k:Nat):(scrL ids cs)[k]?=(cs[k]?).map (scr ids):=by simp[QeT]
theorem VS (ids cs):(scrL ids cs).length=cs.length:=by simp[QeT]
def qt (lo:Nat->Option AO) (L:Nat->Lay) (b:Nat):Prop:=∃ id ob,lo id=some ob/\(L id).has b
structure Qlk (Fr ok:Nat->Prop) (w:World) (lo:Nat->Option AO) (L:Nat->Lay):Prop where
 y9:∀ id o,lo id=some o->QG Fr (okL ok lo L) w lo L o (L id)
 apart:∀ i j oi oj b,i≠j->lo i=some oi->lo j=some oj->(L i).has b->¬ (L j).has b
def FrO (w:World) (lo:Nat->Option AO) (L:Nat->Lay) (b:Nat):Prop:=b<w.heap.size/\¬ qt lo L b
def Jj:AO->AO->Lay->Lay->Prop
 | .box _,.box _,.box b,.box b'=>b'=b
 | .arr e sz es _,.arr e' sz' es' mv',.arr v _,.arr v' _=>v'=v/\e'=e/\sz'=sz/\es'.length=es.length/\mv'=es'.length
 | .xg _,.xg _,.one b,.one b'=>b'=b
 | .mapz k,.mapz k',.one b,.one b'=>b'=b/\k'=k
 | _,_,_,_=>False
def XR:AO->Bool
 | .ext _=>false
 | _=>true
def Qwd (P:Program) (K:World->Prop) (f:FuncId) (args:List AV) (lo:Nat->Option AO) (st:List Nat) (y:AV) (lo':Nat->Option AO):Prop :=
 ∀ (w:World) (ok:Nat->Prop) (L:Nat->Lay) (vs:List Value),(∀ w',Q8 (FrO w lo L) w w'->K w')->(∀ b,w.heap.size<=b->ok b)->(∀ b,qt lo L b->ok b) ->
  Qlk (FrO w lo L) ok w lo L->vs.length=args.length->(∀ (k:Nat) (x:AV) (u:Value),args[k]?=some x->vs[k]?=some u->QA (okL ok lo L) w lo L x u) ->
  Calls P f vs.toArray w (fun e w'=>∃ v L',e=.returned v/\Qlk (FrO w lo L) ok w' lo' L'/\QA (okL ok lo' L') w' lo' L' y v/\Q8 (FrO w lo L) w w' /\
   ∀ i∈st,∀ o,lo i=some o->∃ o',lo' i=some o'/\Jj o o' (L i) (L' i))
mutual
def clA (dom:List Nat):AV->Bool
 | .iv _=>true
 | .agg cs=>clAL dom cs
 | .loc id _=>dom.contains id
 | .yj id _ _ _=>dom.contains id
 | .yl id _=>dom.contains id
 | .yn id _ _=>dom.contains id
 | .ym _=>true
 | .zsl _ _=>true
 | .yk id=>dom.contains id
 | .clo _ fs cs=>clAL dom fs&&clAL dom cs
 | .xd cs=>clAL dom cs
 | .cb id=>dom.contains id
def clAL (dom:List Nat):List AV->Bool
 | []=>true
 | x::r=>clA dom x&&clAL dom r
end
theorem qk {dom:List Nat}:∀ {cs:List AV} {k:Nat} {x:AV},clAL dom cs=true->cs[k]?=some x->clA dom x=true
 | [],k,x,_,h=>by simp at h
 | y::r,k,x,h,hx=>by
   simp only[clAL,QKI] at h;cases k with
   | zero=>simp at hx;subst hx;exact h.1
   | succ k=>exact qk h.2 (by simpa using hx)
def clO (dom:List Nat):AO->Bool
 | .box cs=>clAL dom cs
 | .arr _ _ es _=>es.all (clAL dom)
 | _=>true
def nth (ids:List Nat) (i:Nat):Nat:=ids.getD i 0
def UY:List Nat->Nat->Option Nat
 | [],_=>none
 | x::r,i=>if i=x then some 0 else (UY r i).map (·+1)
theorem qa:∀ {ids i j},UY ids i=some j->j<ids.length/\nth ids j=i
 | [],i,j,h=>by simp[UY] at h
 | x::r,i,j,h=>by
   have:=@qa r i;cases h:UY r i<;>grind [UY,nth]
theorem Jr:∀ {ids j},ids.Nodup->j<ids.length->UY ids (nth ids j)=some j
 | [],j,_,h=>by simp at h
 | x::r,j,hn,h=>by
   cases j with
   | zero=>simp[nth,UY]
   | succ j =>
     have:=@Jr r j;have:j<r.length->r[j]!∈r:=fun h=>by simp[h]
     grind [UY,nth]
structure HG (P:Program) (K:World->Prop) (g:FuncId) (avs:List AV) (ids keep:List Nat) (lo:Nat->Option AO) (y':AV) (lo':Nat->Option AO) (args:List AV) (lo0:Nat->Option AO) (st:List Nat) (y:AV) (lo1:Nat->Option AO) (dom:List Nat):Prop where
 nd:ids.Nodup
 hargs:avs=args.map (rn (nth ids))
 cla:args.all (clA dom)=true
 dom0:∀ i,dom.contains i=true↔(lo0 i).isSome=true
 xb:∀ i o,lo0 i=some o->i<ids.length/\lo (nth ids i)=some (rnO (nth ids) o)/\clO dom o=true/\XR o=true
 xc:∀ i,i<ids.length->lo0 i=none->lo (nth ids i)=none
 hg:Qwd P K g args lo0 st y lo1
 xa:∀ i o,lo1 i=some o->i<ids.length/\XR o=true
 hy:y'=rn (nth ids) y
 hlo':∀ i,lo' i=match UY ids i with
  | some j=>(lo1 j).map (rnO (nth ids))
  | none=>if keep.contains i then (lo i).map (QdL keep) else none
 y5:∀ i,keep.contains i=true->∀ j,UY ids i=some j->j∈st
section
variable {P:Program} {K:World->Prop} {ok0:Nat->Prop} {N:Fm} {w0:XH} {lk:Nat->AV} {lo:Nat->Option AO} {a:Act} {w:World} {L:Nat->Lay}
theorem QiH {ok ok' lo0 L0 m dom} (hok:∀ b,ok b->ok' b) (hd:∀ i,dom.contains i=true->(lo0 i).isSome=true) (xb:∀ i o,lo0 i=some o->lo (m i)=some (rnO m o)/\L0 i=L (m i))
  {x v} (hc:clA dom x=true) (h:QA ok w lo L (rn m x) v):QA ok' w lo0 L0 x v:=by
 have ex:∀ i,dom.contains i=true->∃ o,lo0 i=some o/\lo (m i)=some (rnO m o)/\L0 i=L (m i):=fun i hi=>by
  obtain ⟨o,ho⟩:=QLf.1 (hd i hi);exact ⟨o,ho,xb i o ho⟩
 have gl:=@qk dom;generalize hq:rn m x=y at h;induction h generalizing x with
 | iv z v h=>cases x<;>simp only[rn,reduceCtorEq,AV.iv.injEq] at hq;subst hq;exact .iv _ _ (h.mono fun b hb _=>⟨hok b hb,rfl⟩)
 | zsl sz rs v h hz=>cases x<;>simp only[rn,reduceCtorEq,AV.zsl.injEq] at hq;obtain ⟨rfl,rfl⟩:=hq;exact .zsl _ _ _ h (hz.mono fun b hb _=>⟨hok b hb,rfl⟩)
 | _=>cases x<;>simp only[rn,reduceCtorEq] at hq<;>first | grind [clA,QbZ,QbY] | (obtain ⟨o,_,_,_⟩:=ex _ hc;cases o<;>grind [rnO])
theorem QlD {B B' ok ok' lo0 L0 m dom} (hok:∀ b,ok b->ok' b) (hd:∀ i,dom.contains i=true->(lo0 i).isSome=true) (xb:∀ i o,lo0 i=some o->lo (m i)=some (rnO m o)/\L0 i=L (m i))
  {o l} (hc:clO dom o=true) (hne:XR o=true) (hB:∀ b,l.has b->¬ B' b) (h:QG B ok w lo L (rnO m o) l):QG B' ok' w lo0 L0 o l:=by
 have all:=fun x v=>QiH (w:=w) (x:=x) (v:=v) hok hd xb;have mono:∀ x v,QF ok w x v->QF ok' w x v:=fun _ _ h=>h.mono fun b hb _=>⟨hok b hb,rfl⟩;have it:∀ kvs seen r since sn,JJ ok w kvs seen r since sn->JJ ok' w kvs seen r since sn:=fun _ _ _ _ _ h=>h.mono fun b hb _=>⟨hok b hb,rfl⟩;have gl:=@qk dom;cases o with
 | arr e sz es mv =>
   cases l with
   | arr v xs =>
     obtain ⟨ho,hm,hz,h1,hx⟩:=h;rw[QKX] at ho hm;refine ⟨⟨ho.own,fun b hb=>hB b hb⟩,hm,fun c hcm=>?_,h1,fun i j c x u h2 h3 h4=>?_⟩
     ·have:=hz (rnL m c) (QKT.2 ⟨c,hcm,rfl⟩)
      rwa [QbY] at this
     exact all _ _ (gl (QLk.1 hc c (QKW h2)) h3) (hx i j (rnL m c) (rn m x) u (by simp[h2]) (by simp[QbZ,h3]) h4)
   | _=>exact h.elim
 | yo e sz kvs pend =>
   cases l with
   | map b vals =>
     obtain ⟨_,hcm,hd',hk,hr,ha⟩:=h;refine ⟨hB b (.inl rfl),hcm,hd',hk,fun i p q hp hq=>?_,ha⟩;obtain ⟨xs,h1,h2,h3,h4,h5⟩:=hr i p q hp hq;exact ⟨xs,⟨h1.own,fun b' hb'=>hB b' (.inr ⟨q,QKW hq,hb'⟩)⟩,h2,h3,h4,by grind⟩
   | _=>exact h.elim
 | mapz kk =>
   cases l with
   | one b =>
     obtain ⟨_,es,clock,hb,hm⟩:=h;exact ⟨hB b rfl,es,clock,hb,hm⟩
   | _=>exact h.elim
 | xg kvs =>
   cases l with
   | one b =>
     obtain ⟨_,es,clock,hb,hm,hd',hx⟩:=h;exact ⟨hB b rfl,es,clock,hb,hm,hd',by grind⟩
   | _=>exact h.elim
 | _=>cases l<;>simp only[QG,rnO] at h |-<;>first | exact h.elim | grind [clO,QbZ,QbY,XR]
end
theorem QG.frameN' {B B' ok w lo L o l} (h:QG B ok w lo L o l) (hx:XR o=true) (hn:∀ b,l.has b->¬ B' b):QG B' ok w lo L o l:=by
 cases o with
 | yo e sz kvs pend =>
   cases l with
   | map b vals =>
     obtain ⟨hB,hc,hd,hk,hr,ha⟩:=h;refine ⟨hn b (.inl rfl),hc,hd,hk,fun i p q hp hq=>?_,ha⟩;obtain ⟨xs,h1,h2⟩:=hr i p q hp hq;exact ⟨xs,⟨h1.own,fun b hb=>hn b (.inr ⟨q,QKW hq,hb⟩)⟩,h2⟩
   | _=>exact h.elim
 | arr e sz es mv =>
   cases l with
   | arr v xs=>exact ⟨⟨h.1.own,fun b hb=>hn b hb⟩,h.2⟩
   | _=>exact h.elim
 | _=>cases l<;>grind [QG,XR]
section
variable {P:Program} {K:World->Prop} {ok0:Nat->Prop} {N:Fm} {w0:XH} {lk:Nat->AV} {lo:Nat->Option AO} {a:Act} {w:World} {L:Nat->Lay}
def Qwb (Fr ok':Nat->Prop) (keep:List Nat) (w w':World) (lo lo':Nat->Option AO) (L L':Nat->Lay) (id:Nat) (o:AO):Prop :=
 (lo' id=some (QdL keep o)/\L' id=L id/\∀ b,(L id).has b->w'.heap[b]?=w.heap[b]?) \/
 (∃ o',lo' id=some o'/\Jj o o' (L id) (L' id)/\QG Fr ok' w' lo' L' o' (L' id))
theorem QeN {o o' l l'} (h:Jj o o' l l'):(∃ c c' b,o=.box c/\o'=.box c'/\l=.box b/\l'=.box b)\/(∃ e sz es m es' v x x',o=.arr e sz es m/\o'=.arr e sz es' es'.length/\l=.arr v x/\l'=.arr v x'/\es'.length=es.length)\/(∃ k k' b,o=.xg k/\o'=.xg k'/\l=.one b/\l'=.one b)\/(∃ k b,o=.mapz k/\o'=.mapz k/\l=.one b/\l'=.one b):=by
 unfold Jj at h;split at h
 ·exact .inl ⟨_,_,_,rfl,rfl,rfl,by rw[h]⟩
 ·obtain ⟨rfl,rfl,rfl,e,rfl⟩:=h;exact .inr (.inl ⟨_,_,_,_,_,_,_,_,rfl,rfl,rfl,rfl,e⟩)
 ·exact .inr (.inr (.inl ⟨_,_,_,rfl,rfl,rfl,by rw[h]⟩))
 ·obtain ⟨rfl,rfl⟩:=h;exact .inr (.inr (.inr ⟨_,_,rfl,rfl,rfl,rfl⟩))
 ·cases h
theorem Qlz {Fr ok ok' ok'' w' lo' L' keep} (hok:∀ b,ok b->b<w.heap.size->ok' b/\w'.heap[b]?=w.heap[b]?)
  (hmv:∀ id e sz es mv,lo id=some (.arr e sz es mv)->mv<=es.length)
  (y5:∀ id o,keep.contains id=true->lo id=some o->Qwb Fr ok'' keep w w' lo lo' L L' id o) {x v} (h:QA ok w lo L x v):QA ok' w' lo' L' (scr keep x) v:=by
 have cell:∀ id b k v u (xs:List Value),L id=.arr v xs->(∀ b,(L id).has b->w'.heap[b]?=w.heap[b]?)->(ok b\/v.ownBlock=some b)->w.cell? ⟨b,k,none⟩=some u ->
   ((ok' b\/v.ownBlock=some b)/\w'.cell? ⟨b,k,none⟩=some u):=by
  intro id b k v u xs hL hs h1 h2;have:=hok b;have:=QLA w ⟨b,k,none⟩ h2;have:=@QL1 w w' ⟨b,k,none⟩;grind
 induction h with
 | iv x v h=>simp only[scr];exact .iv x v (h.mono hok)
 | zsl sz rs v h hz=>simp only[scr];exact .zsl sz rs v h (hz.mono hok)
 | yj id n i off e sz es mv v xs b ho hL hn hv =>
   simp only[scr];split
   ·rename_i hc;rcases y5 id _ hc ho with ⟨h1,h2,h3⟩ | ⟨o',h1,h2,h3⟩
    ·grind [QdL]
    have:=QeN h2;obtain ⟨es',x',rfl,hl',e4⟩:∃ es' x',o'=.arr e sz es' es'.length/\L' id=.arr v x'/\es'.length=es.length:=by grind
    refine .yj id n i off _ _ _ _ _ _ b h1 hl' (by omega) fun hm=>?_;have hn':n=es.length:=by omega
    obtain ⟨g1,g2,g3⟩:=hv (by have:=hmv id _ _ _ _ ho;omega);have hob:=g2 hn';refine ⟨g1,fun _=>hob,fun k hk=>⟨.inr hob,?_⟩⟩;rw[hl'] at h3;obtain ⟨hown,_⟩:=h3;have hk':=hk;rw[hn',<- e4,<- hown.own.1] at hk';refine ⟨_,?_,QKF hk'⟩;have:=hown.own.cells (g:=b) hob k _ (QKF hk')
    rwa [addr_add,QKY] at this
   exact .iv _ _ (.any _)
 | yk id b o ho hn hL =>
   simp only[scr];split
   ·rename_i hc;have:=y5 id _ hc ho;cases o<;>cases hn<;>rcases this with ⟨g1,g2,_⟩ | ⟨o',g1,g2,_⟩<;>first | (have:=QeN g2;grind) | grind [QdL]
   exact .iv _ _ (.any _)
 | _ =>
   simp only[scr]
   try split
   all_goals first | exact .iv _ _ (.any _) | grind [WK,VS] | (rename_i hc;rcases y5 _ _ hc ‹_› with ⟨h1,h2,h3⟩ | ⟨o',h1,h2,_⟩;grind [QdL];have:=QeN h2;grind)
theorem Qgw {B B' ok ok' w' lo' L' keep o l} (hw:QrZ w w') (hok:∀ b,ok b->b<w.heap.size->ok' b/\w'.heap[b]?=w.heap[b]?)
  (hl:∀ b,l.has b->¬ B' b/\w'.heap[b]?=w.heap[b]?) (hfr:∀ b,B b->ok b->B' b/\ok' b/\w'.heap[b]?=w.heap[b]?)
  (all:∀ x v,QA ok w lo L x v->QA ok' w' lo' L' (scr keep x) v) (h:QG B ok w lo L o l):QG B' ok' w' lo' L' (QdL keep o) l:=by
 have row:∀ {e sz n v xs},YH B w e sz v n xs->(∀ b,v.ownBlock=some b->l.has b)->YH B' w' e sz v n xs:=fun h1 h2 =>
  ⟨(YH.stay (Fr:=B) h1 fun b hb=>(hl b (h2 b hb)).2).own,fun b hb=>(hl b (h2 b hb)).1⟩
 have mv:=fun x v (h:QF ok w x v)=>h.mono hok;have it:=fun kvs seen r since sn (h:JJ ok w kvs seen r since sn)=>h.mono hok;cases o with
 | arr e sz es mv =>
   cases l with
   | arr v xs =>
     obtain ⟨ho,hm,hz,h1,hx⟩:=h;refine ⟨by rw[QKX];exact row ho fun b hb=>hb,by rw[QKX];exact hm,?_,h1,?_⟩<;>grind [WK,VS]
   | _=>exact h.elim
 | yo e sz kvs pend =>
   cases l with
   | map b vals =>
     obtain ⟨hB,⟨es,clock,hb,hm⟩,hd,hk,hr,ha⟩:=h;refine ⟨(hl b (.inl rfl)).1,⟨es,clock,(hl b (.inl rfl)).2.trans hb,hm⟩,hd,hk,fun i p q hp hq=>?_,ha⟩;obtain ⟨xs,h1,h2,h3,h4,h5⟩:=hr i p q hp hq;exact ⟨xs,row h1 fun b' hb'=>.inr ⟨q,QKW hq,hb'⟩,h2,h3,h4,by grind⟩
   | _=>exact h.elim
 | ext s =>
   cases l with
   | ext O D =>
     obtain ⟨h1,h2,h3⟩:=h;exact ⟨by have:=hw.size;grind,by grind,s.stay O D w w' h3 ⟨hw.os,hw.tape,hw.output,hw.size,by grind⟩⟩
   | _=>exact h.elim
 | mapz kk =>
   cases l with
   | one b =>
     obtain ⟨_,es,clock,hb,hm⟩:=h;exact ⟨(hl b rfl).1,es,clock,(hl b rfl).2.trans hb,hm⟩
   | _=>exact h.elim
 | xg kvs =>
   cases l with
   | one b =>
     obtain ⟨_,es,clock,hb,hm,hd',hx⟩:=h;exact ⟨(hl b rfl).1,es,clock,(hl b rfl).2.trans hb,hm,hd',by grind⟩
   | _=>exact h.elim
 | _=>cases l<;>simp only[QG,QdL] at h |-<;>first | exact h.elim | grind [WK,VS]
theorem Ql7 {g:FuncId} {avs args:List AV} {ids keep st dom:List Nat} {y y':AV} {lo' lo0 lo1:Nat->Option AO} {vs:List Value} (hK:∀ w',Q8 w0.fr w0.w w'->K w') (hok0:∀ b,¬ w0.fr b->ok0 b) (h:Rel ok0 N w0 lk lo a w L)
  (hh:HG P K g avs ids keep lo y' lo' args lo0 st y lo1 dom) (hl:vs.length=avs.length) (hx:∀ (k:Nat) (x:AV) (u:Value),avs[k]?=some x->vs[k]?=some u->QA (okL ok0 lo L) w lo L x u) :
  Calls P g vs.toArray w (fun e w'=>∃ v L',e=.returned v/\Rel ok0 N w0 (fun t=>scr keep (lk t)) lo' a w' L'/\QA (okL ok0 lo' L') w' lo' L' y' v):=by
 let m:=nth ids
 let L0:Nat->Lay:=fun i=>L (m i)
 have hinj:∀ i j,i<ids.length->j<ids.length->m i=m j->i=j:=fun i j hi hj e=>by
  have h1:=Jr hh.nd hi;have h2:=Jr hh.nd hj;grind
 have hdom:∀ i,dom.contains i=true->(lo0 i).isSome=true:=fun i hi=>(hh.dom0 i).1 hi;have hlo0:∀ i o,lo0 i=some o->lo (m i)=some (rnO m o)/\L0 i=L (m i):=fun i o ho=>⟨(hh.xb i o ho).2.1,rfl⟩;have hlt0:∀ i o,lo0 i=some o->i<ids.length:=fun i o ho=>(hh.xb i o ho).1;have hown:∀ b,qt lo0 L0 b->∃ i o,lo0 i=some o/\lo (m i)=some (rnO m o)/\(L (m i)).has b:=fun b ⟨i,o,ho,hb⟩=>⟨i,o,ho,(hlo0 i o ho).1,hb⟩;have hownfr:∀ b,qt lo0 L0 b->¬ w0.fr b/\b<w.heap.size:=fun b hb=>by
  obtain ⟨i,o,_,h1,h2⟩:=hown b hb;exact (h.y9 _ _ h1).lt h2
 let okc:Nat->Prop:=fun b=>okL ok0 lo L b\/qt lo0 L0 b
 have hokc:∀ b,okL ok0 lo L b->okL okc lo0 L0 b:=fun b hb=>⟨.inl hb,fun i o ho hbb=>hb.2 _ _ (hlo0 i o ho).1 hbb⟩;have hlaid:Qlk (FrO w lo0 L0) okc w lo0 L0:=by
  refine ⟨fun i o ho=>?_,fun i j oi oj b hij hi hj h1 h2=>?_⟩
  ·obtain ⟨_,h2,h3,h4⟩:=hh.xb i o ho;exact QlD hokc hdom hlo0 h3 h4 (fun b hb hf=>hf.2 ⟨i,o,ho,hb⟩) (h.y9 _ _ h2)
  exact h.apart (m i) (m j) _ _ b (fun e=>hij (hinj i j (hlt0 i oi hi) (hlt0 j oj hj) e)) (hlo0 i oi hi).1 (hlo0 j oj hj).1 h1 h2
 have hal:vs.length=args.length:=by rw[hl,hh.hargs,QKX]
 have hfrO:∀ b,w0.fr b->FrO w lo0 L0 b:=fun b hb=>⟨h.frl b hb,fun ho=>(hownfr b ho).1 hb⟩;refine (hh.hg w okc L0 vs (fun w' hk=>hK w' (h.below.trans (hk.mono hfrO))) (fun b hb=>.inl ⟨hok0 b (h.frlt hb),fun i o ho hbb=>by have:=((h.y9 i o ho).lt hbb).2;omega⟩) (fun b hb=>.inr hb) hlaid hal (fun k x u hxk hu=>?_)).mono ?_
 ·have hcl:clA dom x=true:=QLk.1 hh.cla x (QKW hxk);exact QiH hokc hdom hlo0 hcl (hx k (rn m x) u (by rw[hh.hargs,QKN,hxk];rfl) hu)
 rintro e w' ⟨v,L1,rfl,hlaid1,hrep,hk,hst⟩
 let L':Nat->Lay:=fun i=>match UY ids i with
  | some j=>L1 j
  | none=>L i
 have hlom:∀ j,j<ids.length->lo' (m j)=(lo1 j).map (rnO m)/\L' (m j)=L1 j:=fun j hj=>by
  have:=Jr hh.nd hj;refine ⟨by rw[hh.hlo'];simp only[m,this],by simp only[L',m,this]⟩
 have hsame:∀ b,b<w.heap.size->¬ qt lo0 L0 b->w'.heap[b]?=w.heap[b]?:=fun b h1 h2=>hk.block b ⟨h1,h2⟩;have hnew:∀ j o b,lo1 j=some o->(L1 j).has b->qt lo0 L0 b\/w.heap.size<=b:=fun j o b ho hb=>by
  have h1:=((hlaid1.y9 j o ho).lt hb).1;by_cases hbs:b<w.heap.size
  ·exact .inl (Classical.byContradiction fun hn=>h1 ⟨hbs,hn⟩)
  exact .inr (QLW.1 hbs)
 have hother:∀ i o,UY ids i=none->lo i=some o->∀ b,(L i).has b->¬ qt lo0 L0 b/\b<w.heap.size/\¬ w0.fr b:=fun i o hi ho b hb=>by
  obtain ⟨h1,h2⟩:=(h.y9 i o ho).lt hb;refine ⟨fun hown'=>?_,h2,h1⟩;obtain ⟨j,oj,hj,hj',hjb⟩:=hown b hown';have hne:i≠m j:=fun e=>by
   have hidx:=Jr hh.nd (hlt0 j oj hj);have e':i=nth ids j:=e;rw[<- e',hi] at hidx;cases hidx
  exact h.apart i (m j) o _ b hne ho hj' hb hjb
 have hkept:∀ i o,UY ids i=none->lo' i=some o->keep.contains i=true/\∃ o0,lo i=some o0/\o=QdL keep o0:=fun i o hi ho=>by
  rw[hh.hlo',hi] at ho;simp only at ho;split at ho
  ·rename_i hc;rw[QKK] at ho;obtain ⟨o0,h1,h2⟩:=ho;exact ⟨hc,o0,h1,h2.symm⟩
  cases ho
 have hin:∀ i j o,UY ids i=some j->lo' i=some o->j<ids.length/\i=m j/\∃ o1,lo1 j=some o1/\o=rnO m o1:=fun i j o hi ho=>by
  obtain ⟨h1,h2⟩:=qa hi;rw[hh.hlo',hi] at ho;simp only[QKK] at ho;obtain ⟨o1,h3,h4⟩:=ho;exact ⟨h1,h2.symm,o1,h3,h4.symm⟩
 have hLn:∀ i,UY ids i=none->L' i=L i:=fun i hi=>by simp only[L',hi]
 have hok:∀ b,okL ok0 lo L b->b<w.heap.size->okL ok0 lo' L' b/\w'.heap[b]?=w.heap[b]?:=fun b hb hbs=>by
  have hno:¬ qt lo0 L0 b:=fun ho=>by
   obtain ⟨i,o,_,h1,h2⟩:=hown b ho;exact hb.2 _ _ h1 h2
  refine ⟨⟨hb.1,fun i o ho hbb=>?_⟩,hsame b hbs hno⟩;cases hi:UY ids i with
  | none =>
    obtain ⟨_,o0,h1,_⟩:=hkept i o hi ho;rw[hLn i hi] at hbb;exact hb.2 i o0 h1 hbb
  | some j =>
    obtain ⟨h1,rfl,o1,h2,_⟩:=hin i j o hi ho;grind
 have hokn:∀ b,okL okc lo1 L1 b->okL ok0 lo' L' b:=fun b hb=>by
  refine ⟨?_,fun i o ho hbb=>?_⟩
  ·grind
  cases hi:UY ids i with
  | none =>
    obtain ⟨_,o0,h1,_⟩:=hkept i o hi ho;grind
  | some j =>
    obtain ⟨h1,rfl,o1,h2,_⟩:=hin i j o hi ho;rw[(hlom j h1).2] at hbb;exact hb.2 j o1 h2 hbb
 have hrn:∀ j o,lo1 j=some o->lo' (m j)=some (rnO m o)/\L' (m j)=L1 j:=fun j o ho=>by
  obtain ⟨h1,h2⟩:=hlom j (hh.xa j o ho).1;exact ⟨by rw[h1,ho];rfl,h2⟩
 have hobj1:∀ j o,lo1 j=some o->QG w0.fr (okL ok0 lo' L') w' lo' L' (rnO m o) (L1 j):=fun j o ho=>by
  have h1:=QwP hokn hrn (hlaid1.y9 j o ho);have hne:=(hh.xa j o ho).2;refine h1.frameN' (by cases o<;>first | rfl | cases hne) fun b hb hf=>?_;rcases hnew j o b ho hb with h3 | h3
  ·exact (hownfr b h3).1 hf
  exact h.frlt h3 hf
 have hkeeps:∀ i o,keep.contains i=true->lo i=some o->Qwb w0.fr (okL ok0 lo' L') keep w w' lo lo' L L' i o:=fun i o hc ho=>by
  cases hi:UY ids i with
  | none=>exact .inl ⟨by rw[hh.hlo',hi];simp only[hc,if_true,ho,QLO],hLn i hi,fun b hb=>hsame b (hother i o hi ho b hb).2.1 (hother i o hi ho b hb).1⟩
  | some j =>
    obtain ⟨h1,h2⟩:=qa hi;have hjs:=hh.y5 i hc j hi;cases hlo0j:lo0 j with
    | none =>
      have:=hh.xc j h1 hlo0j;rw[h2,ho] at this;cases this
    | some o0 =>
      obtain ⟨o',h3,h4⟩:=hst j hjs o0 hlo0j;have h5:=(hlo0 j o0 hlo0j).1;have h5':lo i=some (rnO m o0):=by rw[<- h2];exact h5
      rw[ho] at h5';injection h5' with h5';subst h5';obtain ⟨h6,h7⟩:=hrn j o' h3;have h6':lo' i=some (rnO m o'):=by rw[<- h2];exact h6
      have h7':L' i=L1 j:=by rw[<- h2];exact h7
      have hLi:L i=L0 j:=by show L i=L (m j);rw[<- h2]
      refine .inr ⟨rnO m o',h6',?_,by rw[h7'];exact hobj1 j o' h3⟩;rw[h7',hLi]
      revert h4
      generalize L0 j=l0;generalize L1 j=l1;cases o0<;>cases o'<;>cases l0<;>cases l1<;>simp only[Jj,rnO,QKX,imp_self,false_implies]
 have hmvle:∀ id e sz es mv,lo id=some (.arr e sz es mv)->mv<=es.length:=fun id e sz es mv ho=>by
  have hob:=h.y9 id _ ho;cases hL:L id with
  | arr v xs=>rw[hL] at hob;exact hob.2.1
  | _=>rw[hL] at hob;exact hob.elim
 have all:∀ x v,QA (okL ok0 lo L) w lo L x v->QA (okL ok0 lo' L') w' lo' L' (scr keep x) v:=fun x v hr=>Qlz (Fr:=w0.fr) hok hmvle hkeeps hr;have hkw:Q8 w0.fr w w':=hk.mono hfrO;refine ⟨v,L',rfl,⟨h.below.trans hkw,?_,h.size,fun t=>all _ _ (h.env t),fun i o ho=>?_,fun i j oi oj b hij hi hj h1 h2=>?_,h.pin⟩,?_⟩
 ·refine h.defers.stay (fun r hr hno=>hsame r hr fun ho=>?_) (fun r hr hno i o ho hb=>?_)
  ·obtain ⟨i,o,_,h1,h2⟩:=hown r ho;exact hno _ _ h1 h2
  cases hi:UY ids i with
  | none =>
    obtain ⟨_,o0,h1,_⟩:=hkept i o hi ho;rw[hLn i hi] at hb;exact hno i o0 h1 hb
  | some j =>
    obtain ⟨h1,rfl,o1,h2,_⟩:=hin i j o hi ho;grind
 ·cases hi:UY ids i with
  | none =>
    obtain ⟨_,o0,h1,rfl⟩:=hkept i o hi ho;rw[hLn i hi]
    exact Qgw ⟨hk.os,hk.tape,hk.output,hk.size⟩ hok (fun b hb=>⟨(hother i o0 hi h1 b hb).2.2,hsame b (hother i o0 hi h1 b hb).2.1 (hother i o0 hi h1 b hb).1⟩)
     (fun b hb hbok=>⟨hb,(hok b hbok (h.frl b hb)).1,(hok b hbok (h.frl b hb)).2⟩) all (h.y9 i o0 h1)
  | some j =>
    obtain ⟨h1,rfl,o1,h2,rfl⟩:=hin i j o hi ho;rw[(hlom j h1).2];exact hobj1 j o1 h2
 ·cases hi':UY ids i with
  | none =>
    obtain ⟨_,oi0,hi1,_⟩:=hkept i oi hi' hi;rw[hLn i hi'] at h1;cases hj':UY ids j with
    | none =>
      obtain ⟨_,oj0,hj1,_⟩:=hkept j oj hj' hj;rw[hLn j hj'] at h2;exact h.apart i j oi0 oj0 b hij hi1 hj1 h1 h2
    | some q =>
      obtain ⟨g1,rfl,o1,g2,_⟩:=hin j q oj hj' hj;grind
  | some p =>
    obtain ⟨f1,rfl,p1,f2,_⟩:=hin i p oi hi' hi;rw[(hlom p f1).2] at h1;cases hj':UY ids j with
    | none =>
      obtain ⟨_,oj0,hj1,_⟩:=hkept j oj hj' hj;grind
    | some q =>
      obtain ⟨g1,rfl,o1,g2,_⟩:=hin j q oj hj' hj;rw[(hlom q g1).2] at h2;exact hlaid1.apart p q p1 o1 b (fun e=>hij (by rw[e])) f2 g2 h1 h2
 ·rw[hh.hy]
  exact Qvx hokn hrn hrep
end
structure Fs where
 lk:Nat->AV
 lo:Nat->Option AO
def Fs.app (σ:Fs) (d:Option Nat) (v:AV) (up:Option (Nat × AO)):Fs:=⟨Jx σ.lk d v,upO σ.lo up⟩
inductive YE (P:Program) (K:World->Prop):AOp->Fs->AV->Option (Nat × AO)->Prop
 | plain (op σ s f v up) (he:ev σ.lk σ.lo op=.ok s f v up) (hs:s):YE P K op σ v up
 | call (g args ids σ xs r) (hp:Qca σ.lo ids (args.map (·.av σ.lk))=some xs) (hg:Good P K g xs r) (hr:ids=[]\/Q0 r=true):YE P K (.call g args ids) σ (.iv r) none
 | y3 (g args id σ xs q e sz rows mv) (hp:ivs (args.map (·.av σ.lk))=some xs) (hg:Qh7 P K g xs q e sz rows mv) (hid:σ.lo id=none) :
   YE P K (.y3 g args [] id) σ (ren id q) (some (id,XE e sz rows mv))
 | yz (x g args ids σ xs r) (hx:x.av σ.lk=.iv (.fn g)) (hc:callee P g=true) (hp:Qca σ.lo ids (args.map (·.av σ.lk))=some xs) (hg:Good P K g xs r) (hr:ids=[]\/Q0 r=true) :
   YE P K (.yz x args ids) σ (.iv r) none
 | yw (g:FuncId) (x:Opd) (args:List Opd) (id:Nat) (σ:Fs) (xs:List IV) (e:TypeId) (sz:Nat) (rows rows':List (List IV)) (mv:Nat) (hx:x.av σ.lk=.yl id rows.length) (hid:σ.lo id=some (XE e sz rows mv)) (hp:ivs (args.map (·.av σ.lk))=some xs) (hg:QrY P K g e sz rows xs rows') :
   YE P K (.yw g x args id) σ (.yl id rows'.length) (some (id,XE e sz rows' rows'.length))
 | callm (g:FuncId) (x:Opd) (args:List Opd) (id:Nat) (σ:Fs) (xs:List IV) (e:TypeId) (sz:Nat) (kvs:List (MK × List (List IV))) (k:MK) (n:Nat) (rows':List (List IV)) (hx:x.av σ.lk=.yn id k n) (hn:((Qh k kvs).getD []).length=n) (hid:σ.lo id=some (.yo e sz kvs none))
   (hp:ivs (args.map (·.av σ.lk))=some xs) (hg:QrY P K g e sz ((Qh k kvs).getD []) xs rows') :
   YE P K (.yw g x args id) σ (.yn id k rows'.length) (some (id,.yo e sz (zn k rows' kvs) (some k)))
 | caldc (x:Opd) (g:FuncId) (fs cs:List IV) (args:List Opd) (ids:List Nat) (σ:Fs) (xs:List IV) (r:IV) (hc:callee P g=true) (hp:Qca σ.lo ids (x.av σ.lk::args.map (·.av σ.lk))=some (.clo g fs cs::xs)) (hg:Good P K g (fs++xs++cs) r) (hr:ids=[]\/Q0 r=true) :
   YE P K (.yz x args ids) σ (.iv r) none
 | yu (x:Opd) (args:List Opd) (id:Nat) (σ:Fs) (xs:List IV) (s s':Ext) (y:IV) (hid:σ.lo id=some (.ext s)) (hp:ivs (args.map (·.av σ.lk))=some xs) (hg:QDn P K (x.av σ.lk) id s xs y s') (hy:Q0 y=true) :
   YE P K (.yu x args id) σ (.iv y) (some (id,.ext s'))
 | yr (g:FuncId) (args:List Opd) (x:Opd) (id:Nat) (σ:Fs) (xs:List IV) (s s':Ext) (y:IV) (hx:x.av σ.lk=.cb id) (hid:σ.lo id=some (.ext s)) (hp:ivs (args.map (·.av σ.lk))=some xs) (hg:Qh6 P K g xs [] s y s') (hy:Q0 y=true) :
   YE P K (.yr g (args++[x]) id) σ (.iv y) (some (id,.ext s'))
 | callz (g:FuncId) (args:List Opd) (id:Nat) (σ:Fs) (xs:List IV) (s s':Ext) (y:IV) (hid:σ.lo id=some (.ext s)) (hp:ivs (args.map (·.av σ.lk))=some xs) (hg:qw P K g xs s y s') (hy:Q0 y=true) :
   YE P K (.yr g args id) σ (.iv y) (some (id,.ext s'))
 | cpy (id:Nat) (x y:Opd) (σ:Fs) (e:TypeId) (rows rows':List (List IV)) (mv:Nat) (hx:x.av σ.lk=.yl id rows.length) (hid:σ.lo id=some (XE e 1 rows mv)) (hy:y.av σ.lk=.iv (.sl 1 rows')) (hl:rows'.length=rows.length) :
   YE P K (.cpy id x y) σ (.iv (.int .i64 rows.length)) (some (id,XE e 1 rows' rows'.length))
def AOp.isCb:AOp->Bool
 | .yu _ _ _ | .yr _ _ _=>true
 | _=>false
def Yields (P:Program) (K:World->Prop) (A:Zf) (σ:Fs) (v:AV) (up:Option (Nat × AO)):Prop :=
 match A.g with
 | none=>YE P K A.op σ v up
 | some (t,b)=>(σ.lk t=.iv (.bool b)/\YE P K A.op σ v up)\/((σ.lk t=.iv (.bool (!b))\/σ.lk t=.iv (.xd []))/\v=.iv (.xd [])/\up=none)
def QqM:AV->Option (FuncId × List AV × List AV)
 | .iv (.fn g)=>some (g,[],[])
 | .iv (.clo g fs cs)=>some (g,fs.map .iv,cs.map .iv)
 | .clo g fs cs=>some (g,fs,cs)
 | _=>none
def AOp.isH:AOp->Bool
 | .yx _ _ _ | .y4 _ _ _=>true
 | _=>false
inductive U3 (P:Program) (K:World->Prop) (d:Option Nat) (σ:Fs):AOp->Fs->Prop
 | yx (g args ids keep y' lo' args0 lo0 st y lo1 dom)
   (h:HG P K g (args.map (·.av σ.lk)) ids keep σ.lo y' lo' args0 lo0 st y lo1 dom):U3 P K d σ (.yx g args ids) ⟨Jx (fun t=>scr keep (σ.lk t)) d y',lo'⟩
 | y4 (x g fs cs args ids keep y' lo' args0 lo0 st y lo1 dom)
   (hx:QqM (x.av σ.lk)=some (g,fs,cs)) (hc:callee P g=true) (h:HG P K g (fs++args.map (·.av σ.lk)++cs) ids keep σ.lo y' lo' args0 lo0 st y lo1 dom):U3 P K d σ (.y4 x args ids) ⟨Jx (fun t=>scr keep (σ.lk t)) d y',lo'⟩
inductive Uo (P:Program) (K:World->Prop) (A:Zf) (σ:Fs):Fs->Prop
 | app (v up) (hy:Yields P K A σ v up):Uo P K A σ (σ.app A.d v up)
 | h (σ') (hg:A.g=none\/∃ t b,A.g=some (t,b)/\σ.lk t=.iv (.bool b)) (hh:U3 P K A.d σ A.op σ'):Uo P K A σ σ'
theorem U3.isH {P K d σ σ' op} (h:U3 P K d σ op σ'):op.isH=true:=by
 cases h<;>rfl
def Zf.tmps (A:Zf):List Nat:=A.op.tmps++(match A.g with | some (t,_)=>[t] | none=>[])
theorem qG {lo lo' ids xs} (h:∀ i∈ids,lo' i=lo i):Qca lo' ids xs=Qca lo ids xs:=by
 unfold Qca;grind
section
variable {P:Program} {K:World->Prop}
theorem YE.congr {op σ σ' v up} (h:YE P K op σ v up) (h1:∀ t∈op.tmps,σ'.lk t=σ.lk t) (h2:∀ i∈op.y9,σ'.lo i=σ.lo i):YE P K op σ' v up:=by
 cases h with
 | plain op σ s f v up he hs=>exact .plain _ _ s f _ _ (by rw[Qtx h1 h2];exact he) hs
 | call g args ids _ xs r hp hg hr =>
   refine .call g args ids σ' xs r ?_ hg hr;rw[QT (lk:=σ.lk) (lk':=σ'.lk) (by simpa[AOp.tmps] using h1),qG (lo:=σ.lo) (by simpa[AOp.y9] using h2)];exact hp
 | y3 g args id _ xs q e sz rows mv hp hg hid =>
   refine .y3 g args id σ' xs q e sz rows mv ?_ hg ?_
   ·rw[QT (lk:=σ.lk) (lk':=σ'.lk) (by simpa[AOp.tmps] using h1)]
    exact hp
   rw[h2 id (by simp[AOp.y9])]
   exact hid
 | yz x g args ids _ xs r hx hc hp hg hr =>
   refine .yz x g args ids σ' xs r ?_ hc ?_ hg hr
   ·rw[Opd.av_congr (lk:=σ.lk) (fun t ht=>h1 t (by simp[AOp.tmps,ht]))]
    exact hx
   rw[QT (lk:=σ.lk) (lk':=σ'.lk) (fun t ht=>h1 t (by simp only[AOp.tmps,QK2];exact .inr ht)),qG (lo:=σ.lo) (by simpa[AOp.y9] using h2)]
   exact hp
 | yw g x args id _ xs e sz rows rows' mv hx hid hp hg =>
   refine .yw g x args id σ' xs e sz rows rows' mv ?_ ?_ ?_ hg
   ·rw[Opd.av_congr (lk:=σ.lk) (fun t ht=>h1 t (by simp[AOp.tmps,ht]))]
    exact hx
   ·rw[h2 id (by simp[AOp.y9])]
    exact hid
   rw[QT (lk:=σ.lk) (lk':=σ'.lk) (fun t ht=>h1 t (by simp only[AOp.tmps,QK2];exact .inr ht))]
   exact hp
 | callm g x args id _ xs e sz kvs k n rows' hx hn hid hp hg =>
   refine .callm g x args id σ' xs e sz kvs k n rows' ?_ hn ?_ ?_ hg
   ·rw[Opd.av_congr (lk:=σ.lk) (fun t ht=>h1 t (by simp[AOp.tmps,ht]))]
    exact hx
   ·rw[h2 id (by simp[AOp.y9])]
    exact hid
   ·rw[QT (lk:=σ.lk) (lk':=σ'.lk) (fun t ht=>h1 t (by simp only[AOp.tmps,QK2];exact .inr ht))]
    exact hp
 | caldc x g fs cs args ids _ xs r hc hp hg hr =>
   refine .caldc x g fs cs args ids σ' xs r hc ?_ hg hr;rw[Opd.av_congr (lk:=σ.lk) (fun t ht=>h1 t (by simp[AOp.tmps,ht])),QT (lk:=σ.lk) (lk':=σ'.lk) (fun t ht=>h1 t (by simp only[AOp.tmps,QK2];exact .inr ht)),qG (lo:=σ.lo) (by simpa[AOp.y9] using h2)];exact hp
 | yu x args id _ xs s s' y hid hp hg hy =>
   refine .yu x args id σ' xs s s' y ?_ ?_ ?_ hy
   ·rw[h2 id (by simp[AOp.y9])]
    exact hid
   ·rw[QT (lk:=σ.lk) (lk':=σ'.lk) (fun t ht=>h1 t (by simp only[AOp.tmps,QK2];exact .inr ht))]
    exact hp
   rw[Opd.av_congr (lk:=σ.lk) (fun t ht=>h1 t (by simp[AOp.tmps,ht]))]
   exact hg
 | callz g args id _ xs s s' y hid hp hg hy =>
   refine .callz g args id σ' xs s s' y ?_ ?_ hg hy
   ·rw[h2 id (by simp[AOp.y9])]
    exact hid
   rw[QT (lk:=σ.lk) (lk':=σ'.lk) (fun t ht=>h1 t (by simpa only[AOp.tmps] using ht))]
   exact hp
 | yr g args x id _ xs s s' y hx hid hp hg hy =>
   refine .yr g args x id σ' xs s s' y ?_ ?_ ?_ hg hy
   ·rw[Opd.av_congr (lk:=σ.lk) (fun t ht=>h1 t (by simp only[AOp.tmps,QMs,QK2];exact .inr (by simp[ht])))]
    exact hx
   ·rw[h2 id (by simp[AOp.y9])]
    exact hid
   rw[QT (lk:=σ.lk) (lk':=σ'.lk) (fun t ht=>h1 t (by simp only[AOp.tmps,QMs,QK2];exact .inl ht))]
   exact hp
 | cpy id x y _ e rows rows' mv hx hid hy hl =>
   refine .cpy id x y σ' e rows rows' mv ?_ ?_ ?_ hl
   ·rw[Opd.av_congr (lk:=σ.lk) (fun t ht=>h1 t (by simp[AOp.tmps,ht]))]
    exact hx
   ·rw[h2 id (by simp[AOp.y9])]
    exact hid
   ·rw[Opd.av_congr (lk:=σ.lk) (fun t ht=>h1 t (by simp[AOp.tmps,ht]))]
    exact hy
theorem YE.sets {op σ v id ob} (h:YE P K op σ v (some (id,ob))):id∈op.sets:=by
 cases h with
 | plain _ _ s f _ _ he hs=>exact QzC he
 | y3=>simp[AOp.sets]
 | yw=>simp[AOp.sets]
 | callm=>simp[AOp.sets]
 | yu=>simp[AOp.sets]
 | yr=>simp[AOp.sets]
 | callz=>simp[AOp.sets]
 | cpy=>simp[AOp.sets]
theorem Yields.congr {A σ σ' v up} (h:Yields P K A σ v up) (h1:∀ t∈A.tmps,σ'.lk t=σ.lk t) (h2:∀ i∈A.op.y9,σ'.lo i=σ.lo i):Yields P K A σ' v up:=by
 unfold Yields Zf.tmps at *;cases hg:A.g with
 | none =>
   simp only[hg] at h h1 |-;exact h.congr (fun t ht=>h1 t (by simp[ht])) h2
 | some tb =>
   obtain ⟨t,b⟩:=tb;simp only[hg] at h h1 |-;have ht:=h1 t (by simp);rw[ht];exact h.imp (fun ⟨h3,h4⟩=>⟨h3,h4.congr (fun t ht=>h1 t (by simp[ht])) h2⟩) id
theorem Yields.sets {A σ v id ob} (h:Yields P K A σ v (some (id,ob))):id∈A.op.sets:=by
 unfold Yields at h;split at h
 ·exact h.sets
 ·rcases h with ⟨_,h⟩ | ⟨_,_,h⟩
  ·exact h.sets
  ·cases h
def Qh1 (A B:Zf):Bool :=
 !A.op.isH&&!B.op.isH &&
 (match A.d with | some d=>!B.tmps.contains d&&B.d != some d | none=>true) &&
 (match B.d with | some d=>!A.tmps.contains d | none=>true) &&
 A.op.sets.all (fun i=>!B.op.y9.contains i&&!B.op.sets.contains i) &&
 B.op.sets.all (fun i=>!A.op.y9.contains i)
theorem Qc3 {A B} (h:Qh1 A B=true):A.op.isH=false/\B.op.isH=false/\(∀ d,A.d=some d->d ∉ B.tmps/\B.d≠some d)/\(∀ d,B.d=some d->d ∉ A.tmps) /\
  (∀ i∈A.op.sets,i ∉ B.op.y9/\i ∉ B.op.sets)/\(∀ i∈B.op.sets,i ∉ A.op.y9):=by
 simp only[Qh1,QKI,QLk,QLb] at h;grind
theorem Xo {lk d v t} (h:∀ x,d=some x->x≠t):Jx lk d v t=lk t:=by
 cases d with
 | none=>rfl
 | some x=>simp[Jx,Ne.symm (h x rfl)]
theorem Qlq {lo up i} (h:∀ x o,up=some (x,o)->x≠i):upO lo up i=lo i:=by
 cases up with
 | none=>rfl
 | some p=>obtain ⟨x,o⟩:=p;simp[upO,Za,Ne.symm (h x o rfl)]
theorem Qu2 {A B:Zf} (h:Qh1 A B=true) {σ:Fs} {v u:AV} {up uq:Option (Nat × AO)} (hs:∀ i o,up=some (i,o)->i∈A.op.sets) (hs':∀ i o,uq=some (i,o)->i∈B.op.sets) :
  (σ.app A.d v up).app B.d u uq=(σ.app B.d u uq).app A.d v up:=by
 obtain ⟨_,_,h1,h2,h3,h4⟩:=Qc3 h;unfold Fs.app;congr 1
 ·funext t;cases hA:A.d with
  | none=>rfl
  | some d =>
    cases hB:B.d with
    | none=>rfl
    | some d' =>
      have hne:d'≠d:=fun e=>(h1 d hA).2 (by rw[hB,e]);simp only[Jx];by_cases e1:t=d'<;>by_cases e2:t=d<;>simp_all
 ·funext i;cases up with
  | none=>rfl
  | some p =>
    cases uq with
    | none=>rfl
    | some q =>
      obtain ⟨x,ox⟩:=p;obtain ⟨y,oy⟩:=q;have hx:=hs x ox rfl;have hy:=hs' y oy rfl;have hne:y≠x:=fun e=>(h3 x hx).2 (e▸hy);simp only[upO,Za];by_cases e1:i=y<;>by_cases e2:i=x<;>simp_all
variable {ops:Array Oper} {az:List Zf} {md:Region.Mode}
def Qc8 (P:Program) (K:World->Prop) (az:List Zf) (i:Nat) (C:Fs->Prop) (σ:Fs):Prop :=
 match az[i]? with
 | none=>C σ
 | some A=>∃ σ',Uo P K A σ σ'/\C σ'
theorem QrK {i C C' σ} (h:∀ σ,C σ->C' σ) (hh:Qc8 P K az i C σ):Qc8 P K az i C' σ:=by
 unfold Qc8 at *
 grind
def Qge (P:Program) (K:World->Prop) (md:Region.Mode) (ops:Array Oper) (az:List Zf) (Q:Fs->Prop):Nat->Array Bool->Fs->Prop
 | 0,listed,σ=>Region.ready md ops listed=[]/\Q σ
 | fuel+1,listed,σ =>
   (Region.ready md ops listed=[]->Q σ) /\
   ∀ i∈Region.ready md ops listed,Qc8 P K az i (Qge P K md ops az Q fuel (listed.setIfInBounds i true)) σ
theorem Qu0 {j:Nat} {Ai Aj:Zf} (hj:az[j]?=some Aj) (hap:Qh1 Ai Aj=true) {C:Fs->Prop} {σ σ1:Fs}
  (hy:Uo P K Ai σ σ1) (h:Qc8 P K az j C σ1) :
  Qc8 P K az j (fun σ'=>∃ σ2,Uo P K Ai σ' σ2/\C σ2) σ:=by
 obtain ⟨g1,g2,h1,h2,h3,h4⟩:=Qc3 hap;cases hy with
 | h _ _ hh=>rw[hh.isH] at g1;cases g1
 | app v up hy =>
   have hsi:∀ i o,up=some (i,o)->i∈Ai.op.sets:=fun i o e=>by subst e;exact hy.sets
   unfold Qc8 at *;simp only[hj] at *;obtain ⟨σ',hm,hc⟩:=h;cases hm with
   | h _ _ hh=>rw[hh.isH] at g2;cases g2
   | app u uq hu =>
     have hu':Yields P K Aj σ u uq:=by
      refine hu.congr (fun t ht=>?_) (fun i hi=>?_)
      ·simp only[Fs.app];exact (Xo fun x hx e=>(h1 x hx).1 (e▸ht)).symm
      simp only[Fs.app];exact (Qlq fun x o hx e=>(h3 x (hsi x o hx)).1 (e▸hi)).symm
     have hsj:∀ i o,uq=some (i,o)->i∈Aj.op.sets:=fun i o e=>by subst e;exact hu.sets
     refine ⟨_,.app u uq hu',_,.app v up (hy.congr (fun t ht=>?_) (fun i hi=>?_)),?_⟩
     ·simp only[Fs.app];exact Xo fun x hx e=>h2 x hx (e▸ht)
     ·simp only[Fs.app];exact Qlq fun x o hx e=>h4 x (hsj x o hx) (e▸hi)
     ·rw[<- Qu2 hap hsi hsj]
      exact hc
def AOp.quiet (d:Option Nat):AOp->Bool
 | .xf (.t s)=>d != some s
 | .ldi _ _ x=>x.tmps.all fun s=>d != some s
 | .yy (.zslv _)=>true
 | .bsl _ ps=>(ps.flatMap (·.tmps)).isEmpty
 | _=>false
theorem Qgv {op:AOp} {dj:Option Nat} {keep:List Nat} {y':AV} {lk:Nat->AV} {lo lo':Nat->Option AO} {s f:Prop} {v:AV} {up:Option (Nat × AO)} (hq:op.quiet dj=true) (he:ev lk lo op=.ok s f v up) :
  up=none/\ev (Jx (fun t=>scr keep (lk t)) dj y') lo' op=.ok s f (scr keep v) none:=by
 have hav:∀ x:Opd,(∀ t∈x.tmps,dj≠some t)->x.av (Jx (fun t=>scr keep (lk t)) dj y')=match x with | .t t=>scr keep (lk t) | _=>x.av lk:=by
  intro x hx;cases x with
  | t t=>simp only[Opd.av];exact Xo fun z hz e=>hx t (by simp[Opd.tmps]) (by rw[hz,e])
  | _=>rfl
 cases op with
 | xf x =>
   cases x with
   | t t =>
     simp only[AOp.quiet,bne_iff_ne,ne_eq] at hq;simp only[ev,Opd.av,Res.ok.injEq] at he;obtain ⟨rfl,rfl,rfl,rfl⟩:=he;refine ⟨rfl,?_⟩;simp only[ev,hav (.t t) (by simpa[Opd.tmps] using hq)]
   | _=>simp[AOp.quiet] at hq
 | ldi n ag x =>
   simp only[AOp.quiet,QLk,bne_iff_ne,ne_eq] at hq;have hx:=hav x hq;have hsame:∀ cs,x.av lk=.iv (.ptr cs)->x.av (Jx (fun t=>scr keep (lk t)) dj y')=.iv (.ptr cs):=by
    intro cs hcs;rw[hx];cases x with
    | t t=>simp only[Opd.av] at hcs;simp only[hcs,scr]
    | _=>exact hcs
   simp only[ev] at he |-;unfold QfB at he;split at he
   ·rename_i cs hcs;rw[hsame cs hcs];unfold QfB;cases ag with
    | true =>
      simp only[Res.ok.injEq] at he;obtain ⟨rfl,rfl,rfl,rfl⟩:=he;exact ⟨rfl,by simp only[scr]⟩
    | false =>
      cases cs with
      | nil=>cases he
      | cons c r =>
        simp only[Res.ok.injEq] at he;obtain ⟨rfl,rfl,rfl,rfl⟩:=he;exact ⟨rfl,by simp only[scr]⟩
   cases he
 | bsl sz ps =>
   simp only[AOp.quiet,List.isEmpty_iff] at hq;simp only[ev] at he |-;rw[QT (lk:=lk) (by rw[hq];simp)];split at he
   ·rename_i rows h1;split at he
    ·rename_i es h2;simp only[Res.ok.injEq] at he;obtain ⟨rfl,rfl,rfl,rfl⟩:=he;exact ⟨rfl,by simp only[scr]⟩
    cases he
   cases he
 | yy op =>
   cases op with
   | zslv sz =>
     simp only[ev,evY] at he |-;cases he;exact ⟨rfl,by simp only[scr]⟩
   | _=>simp[AOp.quiet] at hq
 | _=>simp[AOp.quiet] at hq
def QrN (A B:Zf):Bool :=
 match B.op with
 | .yx _ _ _=>A.g==none&&B.g==none&&(match A.d with | some d=>!B.tmps.contains d&&B.d != some d | none=>true)&&A.op.quiet B.d
 | _=>false
theorem QrI {j Ai Aj} (hj:az[j]?=some Aj) (hap:QrN Ai Aj=true) {C σ σ1}
  (hy:Uo P K Ai σ σ1) (h:Qc8 P K az j C σ1) :
  Qc8 P K az j (fun σ'=>∃ σ2,Uo P K Ai σ' σ2/\C σ2) σ:=by
 obtain ⟨di,gi,opi⟩:=Ai;obtain ⟨dj,gj,opj⟩:=Aj;unfold QrN at hap;simp only at hap;split at hap
 ·rename_i g args ids;simp only[QKI,beq_iff_eq] at hap;obtain ⟨⟨⟨rfl,rfl⟩,h1⟩,h2⟩:=hap;have hd:∀ d,di=some d->d ∉ (args.flatMap (·.tmps))/\dj≠some d:=fun d e=>by
   subst e;simpa[Zf.tmps,AOp.tmps] using h1
  cases hy with
  | h _ _ hh=>cases hh<;>simp[AOp.quiet] at h2
  | app v up hy =>
    simp only[Yields] at hy;cases hy with
    | plain _ _ st ft _ _ he hs =>
      obtain ⟨rfl,_⟩:=Qgv (keep:=[]) (y':=.ym 0) (lo':=σ.lo) h2 he;unfold Qc8 at *;simp only[hj] at *;obtain ⟨σ',hm,hc⟩:=h;cases hm with
      | app u uq hu =>
        simp only[Yields] at hu;cases hu with
        | plain _ _ _ _ _ _ he _=>simp[ev] at he
      | h _ hg hh =>
        cases hh with
        | yx _ _ _ keep y' lo' args0 lo0 st0 y lo1 dom hhg =>
          have hargs:args.map (·.av (σ.app di v none).lk)=args.map (·.av σ.lk):=by
           refine QMe fun x hx=>Opd.av_congr fun t ht=>?_;simp only[Fs.app];exact Xo fun d hdd e=>(hd d hdd).1 (QK6.2 ⟨x,hx,e▸ht⟩)
          rw[hargs] at hhg;refine ⟨_,.h _ (.inl rfl) (.yx g args ids keep y' lo' args0 lo0 st0 y lo1 dom hhg),_,.app (scr keep v) none ?_,?_⟩
          ·exact .plain _ _ st ft _ _ (Qgv h2 he).2 hs
          have:(Fs.app ⟨Jx (fun t=>scr keep (σ.lk t)) dj y',lo'⟩ di (scr keep v) none)=⟨Jx (fun t=>scr keep ((σ.app di v none).lk t)) dj y',lo'⟩:=by
           unfold Fs.app;congr 1;funext t;cases di with
           | none=>rfl
           | some d =>
             have hne:=(hd d rfl).2;cases dj with
             | none=>simp only[Jx];split<;>rfl
             | some d' =>
               have hne':d'≠d:=fun e=>hne (by rw[e]);simp only[Jx];by_cases e1:t=d'<;>by_cases e2:t=d<;>simp_all
          rw[this];exact hc
    | _=>simp[AOp.quiet] at h2
 ·cases hap
theorem Qvs {keep x y} (h:scr keep x=.iv y) (hy:y≠.any):x=.iv y:=by
 cases x with
 | iv z=>simpa only[scr] using h
 | agg | ym | zsl | clo | xd=>simp[scr] at h
 | _ =>
   simp only[scr] at h;grind
def AOp.quietR (d:Option Nat):AOp->Bool
 | .fld _ x=>x.tmps.all fun s=>d != some s
 | op=>op.quiet d
theorem Qqc {op:AOp} {dj:Option Nat} {keep:List Nat} {y':AV} {lk:Nat->AV} {lo lo':Nat->Option AO} {s f:Prop} {v:AV} {up:Option (Nat × AO)} (hq:op.quietR dj=true) (he:ev (Jx (fun t=>scr keep (lk t)) dj y') lo' op=.ok s f v up) :
  up=none/\∃ v0,v=scr keep v0/\ev lk lo op=.ok s f v0 none:=by
 have hav:∀ x:Opd,(∀ t∈x.tmps,dj≠some t)->x.av (Jx (fun t=>scr keep (lk t)) dj y')=match x with | .t t=>scr keep (lk t) | _=>x.av lk:=by
  intro x hx;cases x with
  | t t=>simp only[Opd.av];exact Xo fun z hz e=>hx t (by simp[Opd.tmps]) (by rw[hz,e])
  | _=>rfl
 cases op with
 | xf x =>
   cases x with
   | t t =>
     simp only[AOp.quietR,AOp.quiet,bne_iff_ne,ne_eq] at hq;simp only[ev,hav (.t t) (by simpa[Opd.tmps] using hq),Res.ok.injEq] at he;obtain ⟨rfl,rfl,rfl,rfl⟩:=he;exact ⟨rfl,lk t,rfl,rfl⟩
   | _=>simp[AOp.quietR,AOp.quiet] at hq
 | ldi n ag x =>
   simp only[AOp.quietR,AOp.quiet,QLk,bne_iff_ne,ne_eq] at hq;have hx:=hav x hq;have hsame:∀ cs,x.av (Jx (fun t=>scr keep (lk t)) dj y')=.iv (.ptr cs)->x.av lk=.iv (.ptr cs):=by
    intro cs hcs;rw[hx] at hcs;cases x with
    | t t=>exact Qvs hcs (by simp)
    | _=>exact hcs
   simp only[ev] at he |-;unfold QfB at he;split at he
   ·rename_i cs hcs;rw[hsame cs hcs];unfold QfB;cases ag with
    | true =>
      simp only[Res.ok.injEq] at he;obtain ⟨rfl,rfl,rfl,rfl⟩:=he;exact ⟨rfl,_,by simp only[scr],rfl⟩
    | false =>
      cases cs with
      | nil=>cases he
      | cons c r =>
        simp only[Res.ok.injEq] at he;obtain ⟨rfl,rfl,rfl,rfl⟩:=he;exact ⟨rfl,_,by simp only[scr],rfl⟩
   cases he
 | fld off x =>
   simp only[AOp.quietR,QLk,bne_iff_ne,ne_eq] at hq;have hx:=hav x hq;simp only[ev] at he |-;unfold QnE at he;have hback:∀ z,x.av (Jx (fun t=>scr keep (lk t)) dj y')=z->z≠.iv .any->(∀ cs,z=.iv (.ptr cs)->x.av lk=z)/\(∀ i o,z=.loc i o->x.av lk=z/\scr keep (.loc i (o+off))=.loc i (o+off))/\(∀ i n j o,z=.yj i n j o->x.av lk=z/\scr keep (.yj i n j (o+off))=.yj i n j (o+off)):=by
    intro z hz _;rw[hx] at hz;cases x with
    | t t =>
      simp only at hz;refine ⟨fun cs e=>by subst e;exact Qvs hz (by simp),fun i o e=>?_,fun i n j o e=>?_⟩
      ·subst e;simp only[Opd.av];generalize lk t=w at hz;cases w with
       | loc i' o' =>
         simp only[scr] at hz |-
         grind
       | iv | agg | ym | zsl | clo | xd=>simp[scr] at hz
       | _ =>
         simp only[scr] at hz;split at hz<;>cases hz
      subst e;simp only[Opd.av];generalize lk t=w at hz;cases w with
      | yj i' n' j' o' =>
        simp only[scr] at hz |-
        grind
      | iv | agg | ym | zsl | clo | xd=>simp[scr] at hz
      | _ =>
        simp only[scr] at hz;split at hz<;>cases hz
    | _ =>
      simp only at hz;refine ⟨fun cs _=>hz,fun i o e=>?_,fun i n j o e=>?_⟩<;>(subst e;simp[Opd.av] at hz)
   split at he
   ·rename_i cs hcs;rw[(hback _ hcs (by simp)).1 cs rfl]
    simp only[Res.ok.injEq] at he;obtain ⟨rfl,rfl,rfl,rfl⟩:=he;exact ⟨rfl,.iv (.ptr (cs.drop off)),by simp only[scr],rfl⟩
   ·rename_i id o hcs;obtain ⟨h1,h2⟩:=(hback _ hcs (by simp)).2.1 id o rfl;rw[h1];simp only[Res.ok.injEq] at he;obtain ⟨rfl,rfl,rfl,rfl⟩:=he;exact ⟨rfl,.loc id (o+off),h2.symm,rfl⟩
   ·rename_i id n i o hcs;obtain ⟨h1,h2⟩:=(hback _ hcs (by simp)).2.2 id n i o rfl;rw[h1];simp only[Res.ok.injEq] at he;obtain ⟨rfl,rfl,rfl,rfl⟩:=he;exact ⟨rfl,.yj id n i (o+off),h2.symm,rfl⟩
   cases he
 | bsl sz ps =>
   simp only[AOp.quietR,AOp.quiet,List.isEmpty_iff] at hq;simp only[ev] at he |-;rw[QT (lk:=lk) (by rw[hq];simp)] at he;split at he
   ·rename_i rows h1;split at he
    ·rename_i es h2;simp only[Res.ok.injEq] at he;obtain ⟨rfl,rfl,rfl,rfl⟩:=he;exact ⟨rfl,.iv (.sl sz es),by simp only[scr],rfl⟩
    cases he
   cases he
 | yy op =>
   cases op with
   | zslv sz =>
     simp only[ev,evY] at he |-;cases he;exact ⟨rfl,.zsl sz [],by simp only[scr],rfl⟩
   | _=>simp[AOp.quietR,AOp.quiet] at hq
 | _=>simp[AOp.quietR,AOp.quiet] at hq
def QrL (A B:Zf):Bool :=
 match A.op with
 | .yx _ _ _=>B.g==none&&A.g==none&&(match B.d with | some d=>!A.tmps.contains d&&A.d != some d | none=>true)&&B.op.quietR A.d
 | _=>false
theorem QrG {j Ai Aj} (hj:az[j]?=some Aj) (hap:QrL Ai Aj=true) {C σ σ1}
  (hy:Uo P K Ai σ σ1) (h:Qc8 P K az j C σ1) :
  Qc8 P K az j (fun σ'=>∃ σ2,Uo P K Ai σ' σ2/\C σ2) σ:=by
 obtain ⟨di,gi,opi⟩:=Ai;obtain ⟨dj,gj,opj⟩:=Aj;unfold QrL at hap;simp only at hap;split at hap
 ·rename_i g args ids;simp only[QKI,beq_iff_eq] at hap;obtain ⟨⟨⟨rfl,rfl⟩,h1⟩,h2⟩:=hap;have hd:∀ d,dj=some d->d ∉ (args.flatMap (·.tmps))/\di≠some d:=fun d e=>by
   subst e;simpa[Zf.tmps,AOp.tmps] using h1
  unfold Qc8 at *;simp only[hj] at *;obtain ⟨σ',hm,hc⟩:=h;cases hy with
  | app v up hy =>
    simp only[Yields] at hy;cases hy with
    | plain _ _ _ _ _ _ he _=>simp[ev] at he
  | h _ hg hh =>
    cases hh with
    | yx _ _ _ keep y' lo' args0 lo0 st0 y lo1 dom hhg =>
      cases hm with
      | h _ _ hh=>cases hh<;>simp[AOp.quietR,AOp.quiet] at h2
      | app v up hu =>
        simp only[Yields] at hu;cases hu with
        | plain _ _ st ft _ _ he hs =>
          obtain ⟨rfl,v0,rfl,he0⟩:=Qqc (lo:=σ.lo) h2 he;have hargs:args.map (·.av (σ.app dj v0 none).lk)=args.map (·.av σ.lk):=by
           refine QMe fun x hx=>Opd.av_congr fun t ht=>?_;simp only[Fs.app];exact Xo fun d hdd e=>(hd d hdd).1 (QK6.2 ⟨x,hx,e▸ht⟩)
          refine ⟨_,.app v0 none (.plain _ _ st ft _ _ he0 hs),_,.h _ (.inl rfl) (.yx g args ids keep y' lo' args0 lo0 st0 y lo1 dom (by rw[hargs];exact hhg)),?_⟩;have:(Fs.app ⟨Jx (fun t=>scr keep (σ.lk t)) di y',lo'⟩ dj (scr keep v0) none)=⟨Jx (fun t=>scr keep ((σ.app dj v0 none).lk t)) di y',lo'⟩:=by
           unfold Fs.app;congr 1;funext t;cases dj with
           | none=>rfl
           | some d =>
             have hne:=(hd d rfl).2;cases di with
             | none=>simp only[Jx];split<;>rfl
             | some d' =>
               have hne':d'≠d:=fun e=>hne (by rw[e]);simp only[Jx];by_cases e1:t=d'<;>by_cases e2:t=d<;>simp_all
          rw[<- this];exact hc
        | _=>simp[AOp.quietR,AOp.quiet] at h2
 ·cases hap
theorem Qnr {kk:KK} {v:AV} {k:MK} (h:keyOf kk v=some k):k.kind=kk:=by
 unfold keyOf at h;split at h
 ·split at h
  ·rename_i hk;injection h with h;rw[<- h,hk];rfl
  cases h
 ·split at h
  ·rename_i hk;injection h with h;rw[<- h,hk];rfl
  cases h
 ·split at h
  ·split at h
   ·rename_i hk;injection h with h;rw[<- h,hk];rfl
   cases h
  cases h
 cases h
theorem QaI {α:Type} {kk:KK} {k:MK} {y:α} (hk:k.kind=kk):∀ kvs:List (MK × α),QP kk kvs->QP kk (zn k y kvs)
 | [],_=>⟨hk,trivial⟩
 | p::r,h=>by
   unfold zn;split
   ·exact ⟨hk,h.2⟩
   exact ⟨h.1,QaI hk r h.2⟩
def QrM (A B:Zf):Bool:=match A.op,B.op with
 | .yy (.lkd i kk (.int .i64 0) (.t x) (.t k)),.yy (.ment i' kk' (.int .i64 0) (.t x') (.t k'))=>A.g==none&&B.g==none&&i==i'&&kk==kk'&&x==x'&&k==k' &&
   (match A.d with | some d=>d != x&&d != k&&B.d != some d | none=>true)&&(match B.d with | some d=>d != x&&d != k | none=>true)
 | _,_=>false
theorem QrH {j Ai Aj} (hj:az[j]?=some Aj) (hap:QrM Ai Aj=true) {C σ σ1}
  (hy:Uo P K Ai σ σ1) (h:Qc8 P K az j C σ1) :
  Qc8 P K az j (fun σ'=>∃ σ2,Uo P K Ai σ' σ2/\C σ2) σ:=by
 obtain ⟨di,gi,opi⟩:=Ai;obtain ⟨dj,gj,opj⟩:=Aj;unfold QrM at hap;simp only at hap;split at hap
 ·rename_i i kk x k i' kk' x' k';simp only[QKI,beq_iff_eq] at hap;obtain ⟨⟨⟨⟨⟨⟨⟨rfl,rfl⟩,rfl⟩,rfl⟩,rfl⟩,rfl⟩,h1⟩,h2⟩:=hap;have d1:∀ d,di=some d->d≠x/\d≠k/\dj≠some d:=fun d e=>by
   subst e;simp at h1;grind
  have d2:∀ d,dj=some d->d≠x/\d≠k:=fun d e=>by
   subst e;simp at h2;grind
  unfold Qc8 at *;simp only[hj] at *;obtain ⟨σ',hm,hc⟩:=h;cases hy with
  | h _ _ hh=>cases hh
  | app v up hy =>
    simp only[Yields] at hy;cases hy with
    | plain _ _ s f _ _ he hs =>
      cases hm with
      | h _ _ hh=>cases hh
      | app u uq hu =>
        simp only[Yields] at hu;cases hu with
        | plain _ _ s2 f2 _ _ he2 hs2 =>
          have ax:(σ.app di v up).lk x=σ.lk x:=by
           simp only[Fs.app];exact Xo fun y hy e=>(d1 y hy).1 e
          have ak:(σ.app di v up).lk k=σ.lk k:=by
           simp only[Fs.app];exact Xo fun y hy e=>(d1 y hy).2.1 e
          simp only[ev,evY,Opd.av] at he he2;rw[ax,ak] at he2;split at he
          ·rename_i q key zv kvs hxv hkv hzv hid;injection hzv with hzv;subst hzv;split at he
           ·rename_i hji;subst hji;cases he;have hid':(σ.app di (.iv ((Qh key kvs).getD (.int .i64 0))) none).lo q=some (.xg kvs):=hid;rw[hxv,hkv,hid'] at he2;simp only[if_true] at he2;injection he2 with e1 e2 e3 e4;subst e1 e2 e3 e4
            have hm1:Uo P K ⟨dj,none,.yy (.ment q kk (.int .i64 0) (.t x) (.t k))⟩ σ (σ.app dj (.iv (.xd [(Qh key kvs).getD (.int .i64 0),.int .i64 (QnV key kvs:Nat)])) (some (q,.xg (zn key ((Qh key kvs).getD (.int .i64 0)) kvs)))) :=
             .app _ _ (.plain _ _ (QP kk kvs) True _ _ (by simp only[ev,evY,Opd.av,hxv,hkv,hid,if_true]) hs)
            refine ⟨_,hm1,_,.app (.iv ((Qh key kvs).getD (.int .i64 0))) none (.plain _ _ (QP kk (zn key ((Qh key kvs).getD (.int .i64 0)) kvs)) True _ _ ?_ (QaI (Qnr hkv) _ hs)),?_⟩
            ·have bx:∀ y up,(σ.app dj y up).lk x=σ.lk x:=fun y up=>by
              simp only[Fs.app];exact Xo fun z hz e=>(d2 z hz).1 e
             have bk:∀ y up,(σ.app dj y up).lk k=σ.lk k:=fun y up=>by
              simp only[Fs.app];exact Xo fun z hz e=>(d2 z hz).2 e
             have bo:∀ y ob,(σ.app dj y (some (q,ob))).lo q=some ob:=fun y ob=>by simp[Fs.app,upO,Za]
             simp only[ev,evY,Opd.av,bx,bk,bo,hxv,hkv,if_true,XS,QLB]
            have:∀ (v u:AV) (up:Option (Nat × AO)),(σ.app dj u up).app di v none=(σ.app di v none).app dj u up:=fun v u up=>by
             unfold Fs.app;congr 1;funext t;cases di with
             | none=>rfl
             | some a =>
               cases dj with
               | none=>rfl
               | some b =>
                 have:=(d1 a rfl).2.2;simp only[Jx];grind
            rw[this];exact hc
           cases he
          cases he
 ·cases hap
def Qc4 (A B:Zf):Bool:=Qh1 A B||QrN A B||QrL A B||QrM A B
theorem QrJ {j Ai Aj} (hj:az[j]?=some Aj) (hap:Qc4 Ai Aj=true) {C σ σ1}
  (hy:Uo P K Ai σ σ1) (h:Qc8 P K az j C σ1) :
  Qc8 P K az j (fun σ'=>∃ σ2,Uo P K Ai σ' σ2/\C σ2) σ:=by
 simp only[Qc4,QMx] at hap;rcases hap with ((hap | hap) | hap) | hap
 ·exact Qu0 hj hap hy h
 ·exact QrI hj hap hy h
 ·exact QrG hj hap hy h
 ·exact QrH hj hap hy h
def Xg (md:Region.Mode) (ops:Array Oper):Nat->Nat->Nat->Bool
 | 0,_,_=>false
 | n+1,i,j=>match ops[j]? with
   | none=>false
   | some o=>o.after.any (fun e=>Region.binds md e&&e.on==i)||o.after.any (fun e=>Region.binds md e&&decide (i<e.on)&&Xg md ops n i e.on)
def Clo (md:Region.Mode) (ops:Array Oper) (listed:Array Bool):Prop:=∀ j o,ops[j]?=some o->listed.getD j false=true->∀ e∈o.after,Region.binds md e=true->listed.getD e.on false=true
theorem Clo.not_reaches {listed i} (hc:Clo md ops listed) (hi:listed.getD i false=false):∀ n j o,ops[j]?=some o->(∀ e∈o.after,Region.binds md e=true->listed.getD e.on false=true)->Xg md ops n i j=false
 | 0,_,_,_,_=>rfl
 | n+1,j,o,hj,xc=>by
   simp only[Xg,hj,Bool.or_eq_false_iff];rw[Array.any_eq_false',Array.any_eq_false'];refine ⟨fun e he hb=>?_,fun e he hb=>?_⟩
   ·grind
   ·simp only[QKI] at hb;obtain ⟨⟨hb,_⟩,h⟩:=hb;have hl:=xc e he hb;cases ho:ops[e.on]? with
    | none =>
      cases n with
      | zero=>simp[Xg] at h
      | succ n=>simp[Xg,ho] at h
    | some o' =>
      rw[hc.not_reaches hi n e.on o' ho (hc e.on o' ho hl)] at h;cases h
theorem Clo.set {listed j} (hc:Clo md ops listed) (hj:j∈Region.ready md ops listed):Clo md ops (listed.setIfInBounds j true):=by
 intro k o ho hk e he hb;obtain ⟨_,oj,hoj,xc⟩:=mem_ready.1 hj;by_cases hjk:j=k
 ·subst hjk;rw[ho] at hoj;injection hoj with hoj;subst hoj;exact getD_set_true (xc e he hb)
 ·rw[getD_set_ne false hjk] at hk;exact getD_set_true (hc k o ho hk e he hb)
theorem Qnu {listed:Array Bool} {i:Nat} (h:listed.getD i true=false):listed.getD i false=false:=by
 grind
theorem Qgd {Q:Fs->Prop} {i:Nat} {Ai:Zf} (hlen:ops.size=az.length) (hi:az[i]?=some Ai) :
  ∀ (fuel:Nat) (listed:Array Bool) (σ σ1:Fs),
   (∀ j Aj oj,az[j]?=some Aj->ops[j]?=some oj->j≠i->listed.getD j true=false->(∀ n,Xg md ops n i j=false)->Qc4 Ai Aj=true) ->
   Clo md ops listed->i∈Region.ready md ops listed->Uo P K Ai σ σ1 ->
   Qge P K md ops az Q fuel (listed.setIfInBounds i true) σ1->Qge P K md ops az Q (fuel+1) listed σ:=by
 intro fuel;induction fuel with
 | zero =>
   intro listed σ σ1 _ _ hr hy H;refine ⟨fun h=>(by rw[h] at hr;cases hr),fun j hj=>?_⟩;by_cases hji:j=i
   ·subst hji;unfold Qc8;simp only[hi];exact ⟨σ1,hy,H⟩
   have:=ready_mono hj hji;rw[H.1] at this;cases this
 | succ fuel ih =>
   intro listed σ σ1 hfree hcl hr hy H;refine ⟨fun h=>(by rw[h] at hr;cases hr),fun j hj=>?_⟩;by_cases hji:j=i
   ·subst hji;unfold Qc8;simp only[hi];exact ⟨σ1,hy,H⟩
   ·have h1:=H.2 j (ready_mono hj hji);obtain ⟨hjun,oj,hoj,xc⟩:=mem_ready.1 hj;have hjlt:j<az.length:=by
     have:=(QKQ.1 hoj).1;omega
    have hAj:az[j]?=some az[j]:=QKF hjlt;have hnot:∀ n,Xg md ops n i j=false:=fun n=>hcl.not_reaches (Qnu (mem_ready.1 hr).1) n j oj hoj xc;have h2:=QrJ hAj (hfree j _ oj hAj hoj hji hjun hnot) hy h1
    have hfree':∀ k Ak ok,az[k]?=some Ak->ops[k]?=some ok->k≠i->(listed.setIfInBounds j true).getD k true=false ->
      (∀ n,Xg md ops n i k=false)->Qc4 Ai Ak=true:=fun k Ak ok hAk hok hki hun hno=>by
     refine hfree k Ak ok hAk hok hki ?_ hno;by_cases hjk:j=k
     ·subst hjk;exact hjun
     rw[getD_set_ne true hjk] at hun;exact hun
    refine QrK (fun σ' ⟨σ2,hm,hw⟩=>ih (listed.setIfInBounds j true) σ' σ2 hfree' (hcl.set hj) (ready_mono hr (Ne.symm hji)) hm ?_) h2;rw[Array.setIfInBounds_comm _ _ hji];exact hw
inductive Qr1 (P:Program) (K:World->Prop):List Zf->Fs->Fs->Prop
 | nil (σ):Qr1 P K [] σ σ
 | cons (A l σ σ1 σ') (hy:Uo P K A σ σ1) (h:Qr1 P K l σ1 σ'):Qr1 P K (A::l) σ σ'
def QoO (j:Nat) (ms:List Nat) (o:Oper):Nat :=
 o.after.toList.foldr (fun e m=>if Region.binds .any e&&decide (e.on<j)&&!m.testBit e.on then m ||| 2 ^ e.on ||| ms.getD e.on 0 else m) 0
def Qi2:Nat->List Nat->List Oper->List Nat
 | _,ms,[]=>ms
 | j,ms,o::r=>Qi2 (j+1) (ms++[QoO j ms o]) r
def VZ:Nat->List Zf->List Nat->Bool
 | i,A::r,_::ms=>(r.zip ms).all (fun p=>p.2.testBit i||Qc4 A p.1)&&VZ (i+1) r ms
 | _,[],_=>true
 | _,_::_,[]=>false
def QiT (ops:Array Oper) (az:List Zf):Bool:=VZ 0 az (Qi2 0 [] ops.toList)
theorem Qi3 {j:Nat} {ms:List Nat} {o:Oper} (hj:ops[j]?=some o) (hms:∀ k i,(ms.getD k 0).testBit i=true->i<k/\∃ n,Xg .any ops n i k=true) :
  ∀ i,(QoO j ms o).testBit i=true->i<j/\∃ n,Xg .any ops n i j=true:=by
 unfold QoO
 have key:∀ (l:List Edge),(∀ e∈l,e∈o.after)->∀ i,(l.foldr (fun e m=>if Region.binds .any e&&decide (e.on<j)&&!m.testBit e.on then m ||| 2 ^ e.on ||| ms.getD e.on 0 else m) 0).testBit i=true ->
   i<j/\∃ n,Xg .any ops n i j=true:=fun l=>by
  induction l with
  | nil=>intro _ i h;simp at h
  | cons e l ih =>
    intro hl i h;have ih:=ih (fun e he=>hl e (by simp[he])) i;simp only[List.foldr_cons] at h;split at h
    ·rename_i hc;simp only[QKI,decide_eq_true_eq] at hc;rw[Nat.testBit_or,Nat.testBit_or,QMx,QMx] at h;rcases h with (h | h) | h
     ·exact ih h
     ·rw[Nat.testBit_two_pow] at h;have h:=of_decide_eq_true h;refine ⟨by omega,1,?_⟩;simp only[Xg,hj,QMx];exact .inl (Array.any_eq_true'.2 ⟨e,hl e (by simp),by simp[hc.1.1,h]⟩)
     obtain ⟨h1,n,h2⟩:=hms _ _ h;refine ⟨by omega,n+1,?_⟩;simp only[Xg,hj,QMx];exact .inr (Array.any_eq_true'.2 ⟨e,hl e (by simp),by simp[hc.1.1,h1,h2]⟩)
    exact ih h
 exact key _ fun e he=>by simpa using he
theorem QaH:∀ (l:List Oper) (j:Nat) (ms:List Nat),ms.length=j->(∀ k,ops[j+k]?=l[k]?)->(∀ k i,(ms.getD k 0).testBit i=true->i<k/\∃ n,Xg .any ops n i k=true) ->
  ∀ k i,((Qi2 j ms l).getD k 0).testBit i=true->i<k/\∃ n,Xg .any ops n i k=true
 | [],_,_,_,_,h=>h
 | o::r,j,ms,hl,ho,h=>by
   have hj:ops[j]?=some o:=by simpa using ho 0
   refine QaH r (j+1) _ (by simp[hl]) (fun k=>by have:=ho (k+1);simpa[QLI,Nat.add_comm 1 k] using this) fun k i hk=>?_;rw[List.getD_eq_getElem?_getD] at hk;by_cases h1:k<ms.length
   ·rw[QKS h1,<- List.getD_eq_getElem?_getD] at hk;exact h k i hk
   ·rw[QKO (by omega)] at hk;by_cases h2:k=ms.length
    ·subst h2;simp at hk;rw[hl];exact Qi3 hj h i hk
    ·rw[QLL (by simp;omega)] at hk;simp at hk
theorem QaD:∀ (az:List Zf) (ms:List Nat) (i0:Nat),VZ i0 az ms=true->∀ (i j:Nat) (A B:Zf),az[i]?=some A->az[j]?=some B->i<j->(ms.getD j 0).testBit (i0+i)=true\/Qc4 A B=true
 | [],_,_,_,i,j,A,B,hi,_,_=>by simp at hi
 | _::_,[],_,h,_,_,_,_,_,_,_=>by simp[VZ] at h
 | C::r,m::ms,i0,h,i,j,A,B,hi,hj,hij=>by
   simp only[VZ,QKI] at h;obtain ⟨j,rfl⟩:∃ k,j=k+1:=⟨j-1,by omega⟩;simp only[List.getElem?_cons_succ] at hj;have hlen:∀ (az:List Zf) (ms:List Nat) (i0:Nat),VZ i0 az ms=true->az.length<=ms.length:=fun az=>by
    induction az with
    | nil=>intro ms _ _;simp
    | cons a az ih =>
      intro ms i0 h;cases ms with
      | nil=>simp[VZ] at h
      | cons m ms =>
        simp only[VZ,QKI] at h;have:=ih ms _ h.2;simp;omega
   have hl:=hlen _ _ _ h.2;have hjr:=(QKG.1 hj).1;cases i with
   | zero =>
     injection hi with hi;subst hi;have hm:ms[j]?=some ms[j]:=QKF (by omega);have h1:=QLk.1 h.1 (B,ms[j]) (List.mem_iff_getElem?.2 ⟨j,by rw[List.getElem?_zip_eq_some];exact ⟨hj,hm⟩⟩);simp only[QMx] at h1;simpa[List.getD_eq_getElem?_getD,hm] using h1
   | succ i =>
     have:=QaD r ms (i0+1) h.2 i j A B (by simpa using hi) hj (by omega);simpa[List.getD_eq_getElem?_getD,QLI,Nat.add_comm 1 i] using this
theorem Qg0 (h:QiT ops az=true) {i j A B} (hi:az[i]?=some A) (hj:az[j]?=some B) (hij:i<j)
  (hn:∀ n,Xg .any ops n i j=false):Qc4 A B=true:=by
 rcases QaD az _ 0 h i j A B hi hj hij with h1 | h1
 ·rw[QKY] at h1;obtain ⟨_,n,h2⟩:=QaH (ops:=ops) ops.toList 0 [] rfl (fun k=>by simp) (fun k i h=>by simp at h) j i h1;rw[hn n] at h2;cases h2
 ·exact h1
def QuX:Nat->List Oper->Bool
 | _,[]=>true
 | k,o::r=>o.after.all (fun e=>!Region.binds .any e||decide (e.on<k))&&QuX (k+1) r
theorem Qew:∀ (l:List Oper) (k0:Nat),QuX k0 l=true->∀ (k:Nat) (o:Oper),l[k]?=some o->∀ e∈o.after,Region.binds .any e=true->e.on<k0+k
 | [],_,_,k,o,h,_,_,_=>by simp at h
 | x::r,k0,hb,k,o,h,e,he,hbi=>by
   simp only[QuX,QKI] at hb;cases k with
   | zero =>
     injection h with h;subst h;have:=Array.all_eq_true_iff_forall_mem.1 hb.1 e he;simpa[hbi] using this
   | succ k =>
     have:=Qew r (k0+1) hb.2 k o (by simpa using h) e he hbi;omega
theorem Qdw {Q} (hlen:ops.size=az.length) (hpairs:QiT ops az=true) (hback:∀ (k:Nat) (o:Oper),ops[k]?=some o->∀ e∈o.after,Region.binds .any e=true->e.on<k):∀ l k listed σ σ',(∀ j,l[j]?=az[k+j]?) ->
  (∀ j,j<k->listed.getD j true=true)->(∀ j,k<=j->j<ops.size->listed.getD j true=false)->listed.size=ops.size->Clo .any ops listed->Qr1 P K l σ σ'->Q σ'->Qge P K .any ops az Q l.length listed σ
 | [],k,listed,σ,σ',hl,hlist,hun,hsz,_,hp,h=>by
   cases hp;refine ⟨List.eq_nil_iff_forall_not_mem.2 fun j hj=>?_,h⟩;obtain ⟨h1,o,h2,_⟩:=mem_ready.1 hj;have h3:=(QKQ.1 h2).1;by_cases h4:j<k
   ·rw[hlist j h4] at h1;cases h1
   have:=hl (j-k);rw[show k+(j-k)=j by omega,QKF (show j<az.length by omega)] at this;simp at this
 | A::l,k,listed,σ,σ',hl,hlist,hun,hsz,hcl,hp,h=>by
   have h0:az[k]?=some A:=by simpa using (hl 0).symm
   have hk:k<ops.size:=by
    have:=(QKG.1 h0).1;omega
   have hr':k∈Region.ready .any ops listed:=mem_ready.2 ⟨hun k (QKJ _) hk,ops[k],by simp[hk],fun e he hb=>by
    have h1:=hback k _ (by simp[hk]) e he hb;have h2:=hlist e.on h1;simp only[Array.getD,show e.on<listed.size by omega,dite_true] at h2 |-
    exact h2⟩
   cases hp with
   | cons _ _ _ σ1 _ hy hp =>
     refine Qgd hlen h0 l.length listed σ σ1 (fun j Aj oj hAj hoj hji hun' hno=>?_) hcl hr' hy
      (Qdw hlen hpairs hback l (k+1) _ _ σ' (fun j=>by have:=hl (j+1);simpa[QLI,Nat.add_comm 1 j] using this) (fun j hj=>?_) (fun j hj hj2=>?_) (by simpa using hsz) (hcl.set hr') hp h)
     ·have hjk:k<j:=by
       grind
      exact Qg0 hpairs h0 hAj hjk hno
     ·by_cases hjk:j=k
      ·subst hjk;by_cases hs:j<listed.size
       ·simp[hs]
       simp[Array.getElem?_eq_none (Nat.le_of_not_lt hs)]
      rw[getD_set_ne true (Ne.symm hjk)];exact hlist j (by omega)
     ·rw[getD_set_ne true (by omega)]
      exact hun j (by omega) hj2
theorem QzM (n):Clo md ops (Array.replicate n false):=by
 intro j o _ hj;simp[Array.getElem?_replicate] at hj;split at hj<;>simp at hj
end
def QcC (ops:Array Oper):Option (Nat × Bool)->Option (Nat × Bool)->Bool
 | none,none=>true
 | some (t,b),some (j,c)=>b==c&&((ops[j]?).bind (·.dst))==some t
 | _,_=>false
def Vu (N:Fm):Option Nat->Option Nat->Bool
 | none,none=>true
 | some d,some d'=>d==d'&&N.dst d
 | _,_=>false
def Vd (P:Program) (N:Fm) (ops:Array Oper) (A:Zf) (o:Oper):Bool:=Vu N A.d o.dst&&QcC ops A.g o.guard&&A.op.fits P o.op
def XP (P:Program) (N:Fm) (ops:Array Oper):List Zf->List Oper->Bool
 | [],[]=>true
 | A::r,o::s=>Vd P N ops A o&&XP P N ops r s
 | _,_=>false
theorem Jn {P N ops}:∀ {az l},XP P N ops az l=true->l.length=az.length /\
  ∀ (i:Nat) (A:Zf) (o:Oper),az[i]?=some A->l[i]?=some o->Vd P N ops A o=true
 | [],[],_=>by simp
 | A::r,o::s,h=>by
   simp only[XP,QKI] at h;obtain ⟨h1,h2⟩:=Jn h.2;grind
 | [],_::_,h=>by simp[XP] at h
 | _::_,[],h=>by simp[XP] at h
structure Ctx (P:Program) (K:World->Prop) (ok0:Nat->Prop) (w0:XH):Prop where
 hK:∀ w,Q8 w0.fr w0.w w->K w
 ok:∀ b,¬ w0.fr b->ok0 b
section
variable {P:Program} {K:World->Prop} {ok0:Nat->Prop} {N:Fm} {w0:XH} {a:Act} {w:World} {L:Nat->Lay} {o:Oper} {A:Zf} {σ:Fs} {v:AV} {up:Option (Nat × AO)}
theorem qf {x y} (h:Vu N x y=true):x=y/\∀ t,y=some t->N.dst t=true:=by
 unfold Vu at h;grind
theorem QiX {ok0 lk lo} (c:Ctx P K ok0 w0) (h:Rel ok0 N w0 lk lo a w L):∀ b,w.heap.size<=b->okL ok0 lo L b:=fun b hb =>
 ⟨c.ok b (h.frlt hb),fun id ob hob hbad=>by have:=((h.y9 id ob hob).lt hbad).2;omega⟩
theorem QlL {ids:List Nat} {xs:List AV} {ys:List IV} {us:List Value} {r:IV} {lk:Nat->AV} {lo:Nat->Option AO} (c:Ctx P K ok0 w0) (h:Rel ok0 N w0 lk lo a w L) (hp:Qca lo ids xs=some ys) (hl:us.length=xs.length)
  (hx:∀ (k:Nat) (x:AV) (u:Value),xs[k]?=some x->us[k]?=some u->QA (okL ok0 lo L) w lo L x u) (hr:ids=[]\/Q0 r=true) :
  ∃ ok:Nat->Prop,(∀ b,w.heap.size<=b->ok b)/\us.length=ys.length/\(∀ (k:Nat) (y:IV) (u:Value),ys[k]?=some y->us[k]?=some u->QF ok w y u)/\(∀ w' u,QF ok w' r u->QF (okL ok0 lo L) w' r u):=by
 by_cases hids:ids=[]
 ·subst hids;simp only[Qca] at hp;obtain ⟨h5,h6⟩:=Wk hp hl hx;exact ⟨okL ok0 lo L,QiX c h,h5,h6,fun _ _ h=>h⟩
 ·have hsc:Q0 r=true:=hr.resolve_left hids;have hp':imms (fun i=>if ids.contains i then lo i else none) 40 xs=some ys:=by
   unfold Qca at hp;split at hp
   ·exact absurd rfl hids
   exact hp
  obtain ⟨h5,h6⟩:=(Qhq h c.ok (lo':=fun i=>if ids.contains i then lo i else none) (fun id ob hob=>by
   split at hob
   ·exact hob
   cases hob) 40).2 _ _ hp'
  refine ⟨ok0,fun b hb=>c.ok b (h.frlt hb),by simp[h5,hl],fun k x u hx' hu=>?_,fun w' u hu=>X6 hsc hu⟩;have hk:k<xs.length:=by rw[<- h5];exact (QKG.1 hx').1
  exact h6 k _ x u (QKF hk) hx' (hx k _ u (QKF hk) hu)
theorem QzI {id x y e rows rows' mv} (c:Ctx P K ok0 w0) (h:Rel ok0 N w0 σ.lk σ.lo a w L) (hf:QES P x y o.op=true)
  (hx:x.av σ.lk=.yl id rows.length) (hid:σ.lo id=some (XE e 1 rows mv)) (hy:y.av σ.lk=.iv (.sl 1 rows')) (hl:rows'.length=rows.length) :
  ∃ w' v0 xs' ys,L id=.arr v0 ys/\(execOp a.eval o).run P w=.ok (.value (goInt rows.length)) w'/\Ww w (okL ok0 σ.lo L) e 1 rows v0 rows' v0 xs' w':=by
 unfold QES at hf;split at hf
 ·rename_i az ts ho;split at hf
  ·rename_i p q t t2 has hts;simp only[QKI] at hf;obtain ⟨⟨hp,hq⟩,hty⟩:=hf;split at hty
   ·rename_i el hu;have hsz:(P.info? el).map (·.size)=some 1:=by simpa using hty
    have hob:=h.y9 _ _ hid;cases hL:L id with
    | box b=>rw[hL] at hob;exact hob.elim
    | one b=>rw[hL] at hob;exact hob.elim
    | map b vals=>rw[hL] at hob;exact hob.elim
    | ext O D=>rw[hL] at hob;exact hob.elim
    | arr v0 ys =>
      rw[hL] at hob;obtain ⟨hown,hmv,hrs,h1,hxx⟩:=hob;rw[QKX] at hown;have rx:=Opd.rep h hp;rw[hx] at rx;have hvp:=QaK hid hL rx;have ry:=Opd.rep h hq;rw[hy] at ry;have ry:=Y7 ry;have hexec:∀ r w',(Builtin.copy_ #[t,t2] o.type #[a.eval p,a.eval q]).run P w=.ok r w'->(execOp a.eval o).run P w=.ok (.value r) w':=fun r w' hr=>by
       have has':az=#[p,q]:=by rw[<- Array.toArray_toList (xs:=az),has]
       have hts':ts=#[t,t2]:=by rw[<- Array.toArray_toList (xs:=ts),hts]
       subst has' hts';simp[execOp,ho,resolve,invoke,builtin,hr,Result.andThen]
      have keepw:∀ xs',rows=[]->rows'=[]->xs'=ys->Ww w (okL ok0 σ.lo L) e 1 rows v0 rows' v0 xs' w:=fun xs' e1 e2 e3=>by
       subst e1 e2 e3;exact ⟨Q8.refl _ _,hown.own,fun b hb=>.inl hb,by simp,h1,by simp,QKJ _,fun _=>rfl⟩
      by_cases hz:rows.length=0
      ·have e1:rows=[]:=QKR hz;have e2:rows'=[]:=QKR (by omega);refine ⟨w,v0,ys,ys,rfl,?_,keepw ys e1 e2 rfl⟩;obtain ⟨d,dl,dc,hv,hdl⟩:∃ d dl dc,v0=.slice d dl dc/\dl=0:=by
        rcases hown.own.2 with ⟨hv,_⟩ | ⟨g,cap,cur,hv,_⟩
        all_goals grind
       obtain ⟨s,sl,sc,hs⟩:∃ s sl sc,a.eval q=.slice s sl sc:=by
        generalize a.eval q=u at ry;cases ry<;>exact ⟨_,_,_,rfl⟩
       have:=run_copy_none (P:=P) w t t2 o.type el d s dl dc sl sc hu hsz (by rw[hdl];exact Nat.min_zero _);rw[hz];exact hexec _ _ (by rw[hvp,hv,hs];exact this)
      rcases hown.own.2 with ⟨_,h00⟩ | ⟨g,cap,cur,hv,_,hg,hnc,hcm,hcs,htake⟩
      ·exact absurd h00 hz
      have hgb:v0.ownBlock=some g:=by rw[hv];rfl
      cases hq2:a.eval q with
      | slice sa sn sc =>
        rw[hq2] at ry;cases ry with
        | nils=>simp at hl;omega
        | nilz=>simp at hl;omega
        | sl _ _ b off _ u hlc hcc hs hu2 hx2 =>
          simp only[QL4] at hu2 hx2 hown htake hcs
          let cs:List Value:=(List.range rows'.length).map u
          have hcl:cs.length=rows'.length:=by simp[cs]
          have hcget:∀ j v,cs[j]?=some v->j<rows'.length/\v=u j:=fun j v hj=>by
           grind
          have hrun:=run_copy_row (P:=P) w t t2 o.type el g 0 rows.length cap ⟨b,off,none⟩ rows'.length sc cur e cs hu hsz hg (by rw[hcl,hl];exact (Nat.min_self _).symm) (fun j v hj=>by
           obtain ⟨h1',rfl⟩:=hcget j v hj;rw[addr_add];exact (hu2 j h1').2.1) (by rw[hcl,hcs];omega) (fun v hv'=>by
           grind)
          simp only[hcl,hl] at hrun;refine ⟨_,v0,cs,ys,rfl,hexec _ _ (by rw[hvp,hv,hq2,hl];exact hrun),?_⟩;have hset:=setRow_heap w g cur (cur.toList.take 0++cs++cur.toList.drop (0+rows.length)).toArray e (0,0) hg;refine ⟨⟨rfl,rfl,rfl,by simp[World.setRow],fun k hk=>setRow_other w g k _ (fun e=>hk.2 (by rw[hgb,e]))⟩,⟨by rw[hcl,QL4],.inr ⟨g,cap,_,by rw[hv,hl],QLV _,hset,by omega,hcm,?_,?_⟩⟩,fun b hb=>.inl hb,hs,fun v hv'=>?_,fun i j c z v hi hj hv'=>?_,by omega,fun _=>rfl⟩
          ·simp[hcl];omega
          ·simp[hcl]
          ·grind
          have hil:i<rows'.length:=(QKG.1 hi).1;have hj0:j=0:=by
           grind
          subst hj0;rw[QL4,QLX] at hv';obtain ⟨_,rfl⟩:=hcget i v hv';have hr:=hx2 i 0 c z hi hj;rw[QLX] at hr;refine hr.mono fun b' hb' xa=>?_;have hne:b'≠g:=fun e=>hb'.2 id _ hid (by rw[hL,e];exact hgb);exact ⟨⟨.inl hb',by rw[hgb];exact fun e=>hne (by injection e with e;exact e.symm)⟩,setRow_other w g b' _ hne⟩
      | _=>rw[hq2] at ry;cases ry
   cases hty
  cases hf
 ·cases hf
theorem Qmc {C:Act->World->Prop} {Q:Exit->Act->World->Prop} (c:Ctx P K ok0 w0) (h:Rel ok0 N w0 σ.lk σ.lo a w L) (hd:Vu N A.d o.dst=true) (hf:A.op.fits P o.op=true)
  (hy:YE P K A.op σ v up) (hncb:A.op.isCb=false) (hC:∀ a' w' L',Rel ok0 N w0 (σ.app A.d v up).lk (σ.app A.d v up).lo a' w' L'->C a' w'):o.wp P a w C Q:=by
 obtain ⟨hde,hdlt⟩:=qf hd
 have fixedV:∀ (g:FuncId) (xs:List IV) (us:List Value) (r:IV),(execOp a.eval o).run P w=.ok (.enter g us.toArray) w->Good P K g xs r ->
   (∃ ok:Nat->Prop,(∀ b,w.heap.size<=b->ok b)/\us.length=xs.length/\(∀ (k:Nat) (x:IV) (u:Value),xs[k]?=some x->us[k]?=some u->QF ok w x u) /\
     (∀ w' u,QF ok w' r u->QF (okL ok0 σ.lo L) w' r u))->v=.iv r->up=none->o.wp P a w C Q:=by
  rintro g xs us r hrun hg ⟨ok,h1,h2,h3,h4⟩ hv hu;subst hu;have hkw:K w:=c.hK _ h.below;unfold Oper.wp;rw[hrun];simp only[Oper.upon];refine (hg w ok _ hkw h1 h2 h3).mono fun e w' hew=>?_;obtain ⟨u,rfl,hu,hb⟩:=hew;have hrel:=h.ext hb;have hput:=hrel.put o.dst hdlt (x:=.iv r) (v:=u) (.iv _ _ (h4 w' u hu));refine hC _ _ L ?_;rw[hv,hde];exact hput
 have fixed:∀ (g:FuncId) (args:List Opd) (ids:List Nat) (xs:List IV) (r:IV) (bs:List Operand),Vl args bs=true->(execOp a.eval o).run P w=.ok (.enter g (bs.map a.eval).toArray) w->Qca σ.lo ids (args.map (·.av σ.lk))=some xs->Good P K g xs r->(ids=[]\/Q0 r=true) ->
   v=.iv r->up=none->o.wp P a w C Q:=by
  intro g args ids xs r bs xc hrun hp hg hr hv hu;obtain ⟨hbl,hbx⟩:=ZM h xc;exact fixedV g xs _ r hrun hg (QlL c h hp (by simpa using hbl) hbx hr) hv hu
 have back:∀ (g:FuncId) (x:Opd) (args:List Opd) (id:Nat) (xs:List IV) (e:TypeId) (sz:Nat) (rows rows':List (List IV)) (v0:Value) (ys:List Value),A.op=.yw g x args id->ivs (args.map (·.av σ.lk))=some xs->QrY P K g e sz rows xs rows' ->
   (∀ u,QA (okL ok0 σ.lo L) w σ.lo L (x.av σ.lk) u->u=v0)->YH w0.fr w e sz v0 rows.length ys->(∀ b,v0.ownBlock=some b->(∃ ob,σ.lo id=some ob)/\(L id).has b)->(∀ c∈rows,c.length=sz)->(∀ u∈ys,u.oneCell'=true) ->
   (∀ (i j:Nat) (c:List IV) (x:IV) (u:Value),rows[i]?=some c->c[j]?=some x->ys[i*sz+j]?=some u->QF (okL ok0 σ.lo L) w x u) ->
   (∀ v' xs' w',Ww w (okL ok0 σ.lo L) e sz rows v0 rows' v' xs' w'->∃ L',Rel ok0 N w0 (σ.app A.d v up).lk (σ.app A.d v up).lo (a.put o.dst v') w' L')->o.wp P a w C Q:=by
  intro g x args id xs e sz rows rows' v0 ys hop hp hg hx hown hhas hsz h1 hcx hfin;rw[hop] at hf;have hf':AOp.fits P (.call g (x::args) []) o.op=true:=hf;obtain ⟨bs,xc,hrun⟩:=UK (a:=a) (w:=w) hf';obtain ⟨b0,bs',rfl⟩:∃ b0 bs',bs=b0::bs':=by
   cases bs with
   | nil=>simp[Vl] at xc
   | cons b0 bs'=>exact ⟨b0,bs',rfl⟩
  simp only[Vl,QKI] at xc;obtain ⟨hall0,xc⟩:=xc;obtain ⟨hbl,hbx⟩:=ZM h xc;obtain ⟨h5,h6⟩:=Wk hp (by simpa using hbl) hbx;have hv0:=hx _ (Opd.rep h hall0);have hnot:∀ b,okL ok0 σ.lo L b->v0.ownBlock≠some b:=fun b hb hbad=>by
   obtain ⟨⟨ob,hob⟩,hh⟩:=hhas b hbad;exact hb.2 id ob hob hh
  unfold Oper.wp;rw[hrun];simp only[Oper.upon,QKZ,hv0]
  refine (hg w (okL ok0 σ.lo L) v0 ys _ (fun w' hk=>c.hK _ (h.below.trans (hk.mono fun k hfr=>⟨QLn (w0.lt k hfr) h.le,fun e=>hown.free k e hfr⟩))) (QiX c h) hown.own hsz h1
   (fun i j c x u a1 a2 a3=>(hcx i j c x u a1 a2 a3).mono fun b hb _=>⟨⟨hb,hnot b hb⟩,rfl⟩) h5 (fun k x u a1 a2=>(h6 k x u a1 a2).mono fun b hb _=>⟨⟨hb,hnot b hb⟩,rfl⟩)).mono fun y w' hew=>?_
  grind
 generalize hop:A.op=op at hy;cases hy with
 | plain _ _ s f _ _ he hs =>
   rw[hop] at hf;obtain ⟨_,n,u,w',L',hrun,hn,hrel,hrep⟩:=QlN h c.ok hf he hs;have hput:=hrel.put o.dst hdlt hrep;unfold Oper.wp;rw[hrun];rcases hn with rfl | ⟨rfl,rfl⟩
   ·simp only[Oper.upon];exact hC _ _ L' (by rw[hde];exact hput)
   simp only[Oper.upon];exact hC _ _ L' (by rw[hde];exact hput)
 | y3 g args id _ xs q e sz rows mv hp hg hid =>
   rw[hop] at hf;have hf':AOp.fits P (.call g args []) o.op=true:=hf;obtain ⟨bs,xc,hrun⟩:=UK (a:=a) (w:=w) hf';obtain ⟨hbl,hbx⟩:=ZM h xc;have hkw:K w:=c.hK _ h.below;obtain ⟨h5,h6⟩:=Wk hp (by simpa using hbl) hbx;unfold Oper.wp;rw[hrun];simp only[Oper.upon];refine (hg w (okL ok0 σ.lo L) _ hkw (QiX c h) h5 h6).mono fun x w' hew=>?_;obtain ⟨u,l,rfl,hob,hrep,hb⟩:=hew;have hokk:∀ b,okL (okL ok0 σ.lo L) (one (XE e sz rows mv)) (fun _=>l) b->okL ok0 (Za σ.lo id (XE e sz rows mv)) (QV L id l) b:=by
    intro b hb;refine ⟨hb.1.1,fun i oi hi=>?_⟩;by_cases hii:i=id
    ·subst hii;simp only[QV,if_true];exact hb.2 0 (XE e sz rows mv) (by simp[one])
    grind
   have hrel:=h.new id hid (XE e sz rows mv) l hb (fun b hbb=>QLW.1 (hob.lt hbb).1) (Qsi (fun b hb=>h.frlt (QLW.1 hb)) hokk hob);have hput:=hrel.put o.dst hdlt (x:=ren id q) (v:=u) (QiQ hokk (i:=0) (ob:=XE e sz rows mv) (by simp[one]) (by simp[Za]) (by simp[QV]) hrep);refine hC _ _ (QV L id l) ?_;rw[hde];exact hput
 | call g args ids _ xs r hp hg hr =>
   rw[hop] at hf;obtain ⟨bs,xc,hrun⟩:=UK (a:=a) (w:=w) hf;exact fixed g args ids xs r bs xc hrun hp hg hr rfl rfl
 | yz x g args ids _ xs r hx hc hp hg hr =>
   rw[hop] at hf;obtain ⟨bs,xc,hrun⟩:=QqR h hf hx hc;exact fixed g args ids xs r bs xc hrun hp hg hr rfl rfl
 | caldc x g fs cs args ids _ xs r hc hp hg hr =>
   rw[hop] at hf;obtain ⟨m,az,ts,ho,hxm,xc⟩:=Wv hf;obtain ⟨hbl,hbx⟩:=ZM h xc
   obtain ⟨ok,h1,h2,h3,h4⟩:=QlL (us:=a.eval (.tmp m)::az.toList.map a.eval) c h hp (by simp[hbl]) (fun k z u hz hu=>by
    cases k with
    | zero =>
      simp at hz hu;subst hz hu;exact Opd.rep h (x:=x) (y:=.tmp m) hxm
    | succ k=>exact hbx k z u (by simpa using hz) (by simpa using hu)) hr
   have hclo:=h3 0 _ _ rfl rfl;generalize hev:a.eval (.tmp m)=xv at hclo;cases hclo with
   | clo _ _ _ us vs l1 l2 hfx hcx =>
     refine fixedV g (fs++xs++cs) (us++az.toList.map a.eval++vs) r (QcP ho hev (.clo g us vs _ w hc)) hg ⟨ok,h1,?_,fun k z u hz hu=>?_,h4⟩ rfl rfl
     ·grind
     simp only[QKV,Nat.add_right_cancel_iff] at h2;by_cases k1:k<fs.length
     ·grind
     rw[QK8,QKO (by omega)] at hz;rw[QK8,QKO (by omega),l1] at hu;by_cases k2:k-fs.length<xs.length
     ·rw[QKS k2] at hz;rw[QKS (by rw[h2];exact k2)] at hu;exact h3 (k-fs.length+1) z u (by simpa using hz) (by simpa using hu)
     grind
 | cpy id x y _ e rows rows' mv hx hid hy hl =>
   rw[hop] at hf;obtain ⟨w',v0,xs',ys,hL,hrun,hrb⟩:=QzI c h hf hx hid hy hl;obtain ⟨h5,h6⟩:=QmO h c.ok hid hL hrb;unfold Oper.wp;rw[hrun];simp only[Oper.upon];refine hC _ _ (QV L id (.arr v0 xs')) ?_;have:=h5.put o.dst hdlt (x:=.iv (.int .i64 rows.length)) (v:=goInt rows.length) (.iv _ _ (.int .i64 rows.length));rw[hde];exact this
 | yu=>rw[hop] at hncb;cases hncb
 | yr=>rw[hop] at hncb;cases hncb
 | callz=>rw[hop] at hncb;cases hncb
 | yw g x args id _ xs e sz rows rows' mv hx hid hp hg =>
   have hob:=h.y9 _ _ hid;cases hL:L id with
   | box b=>rw[hL] at hob;exact hob.elim
   | one b=>rw[hL] at hob;exact hob.elim
   | map b vals=>rw[hL] at hob;exact hob.elim
   | ext O D=>rw[hL] at hob;exact hob.elim
   | arr v0 ys =>
     rw[hL] at hob;obtain ⟨hown,hmv,hsz,h1,hxx⟩:=hob;rw[QKX] at hown hmv;refine back g x args id xs e sz rows rows' v0 ys hop hp hg (fun u hu=>?_) hown (fun b hb=>⟨⟨_,hid⟩,by rw[hL];exact hb⟩) (fun c hc=>?_) h1 (fun i j c x u a1 a2 a3=>?_) (fun v' xs' w' hrb=>?_)
     ·rw[hx] at hu;exact QaK hid hL hu
     ·have:=hsz (c.map AV.iv) (QKT.2 ⟨c,hc,rfl⟩);simpa using this
     ·exact Y7 (hxx i j (c.map AV.iv) (.iv x) u (by simp[a1]) (by simp[a2]) a3)
     obtain ⟨h5,h6⟩:=QmO h c.ok hid hL hrb;refine ⟨QV L id (.arr v' xs'),?_⟩;rw[<- hde];exact h5.put A.d (by rw[hde];exact hdlt) h6
 | callm g x args id _ xs e sz kvs k n rows' hx hn hid hp hg =>
   have hob:=h.y9 _ _ hid;cases hL:L id with
   | box b=>rw[hL] at hob;exact hob.elim
   | one b=>rw[hL] at hob;exact hob.elim
   | arr v ys=>rw[hL] at hob;exact hob.elim
   | ext O D=>rw[hL] at hob;exact hob.elim
   | map b vals =>
     obtain ⟨ys,g1,g2,g3,g4,g5,g6⟩:=Qi4 h hid hL k;refine back g x args id xs e sz _ rows' _ ys hop hp hg (fun u hu=>?_) g1 (fun b hb=>⟨⟨_,hid⟩,(g6 b hb).1⟩) g3 g4 g5 (fun v' xs' w' hrb=>?_)
     ·grind
     ·obtain ⟨h5,h6⟩:=QmN h c.ok hid hL hrb;refine ⟨QV L id (.map b (zn k v' vals)),?_⟩;rw[<- hde];exact h5.put A.d (by rw[hde];exact hdlt) (h6 _)
theorem qA {ops t j b} (h:Rel ok0 N w0 σ.lk σ.lo a w L) (ht:σ.lk t=.iv (.bool b)) (hj:((ops[j]?).bind (·.dst))=some t):yielded ops a.tmps j=some b:=by
 have r:=h.env t;rw[ht] at r;have hv:=Jq r;unfold yielded;rw[hj];simp only[Option.bind_some];cases hg:a.tmps[t]? with
 | none=>simp[QLt,hg,undef] at hv
 | some u=>simp[QLt,hg] at hv;subst hv;rfl
theorem Qb1 {ok w}:QF ok w (.xd []) undef:=.xd [] [] rfl (fun _ _ _ h=>by simp at h)
theorem Qxe {ok lo u} (r:QA ok w lo L (.iv (.xd [])) u):u=undef:=by
 cases r with
 | iv _ _ h =>
   cases h with
   | xd _ vs hl _ =>
     have:vs=[]:=by simpa using hl
     subst this;rfl
theorem Qf8 {ops t j} (h:Rel ok0 N w0 σ.lk σ.lo a w L) (ht:σ.lk t=.iv (.xd [])) (hj:((ops[j]?).bind (·.dst))=some t):yielded ops a.tmps j=none:=by
 have r:=h.env t;rw[ht] at r;have hv:=Qxe r;unfold yielded;rw[hj];simp only[Option.bind_some];cases hg:a.tmps[t]? with
 | none=>rfl
 | some u=>simp[QLt,hg] at hv;subst hv;rfl
theorem Qaa (op:AOp) (c:Call):op.fits P (.defer c)=false:=by
 cases op with
 | yy op=>cases op<;>rfl
 | _=>rfl
theorem Ctx.le {w1} (c:Ctx P K ok0 w0) (h:w0.le w1):Ctx P K ok0 w1 :=
 ⟨fun w hw=>c.hK w (h.keeps hw),fun b hb=>c.ok b (fun hf=>hb (h.fr b hf))⟩
theorem QhU {id s O D xs vs lk lo} (c:Ctx P K ok0 w0) (h:Rel ok0 N w0 lk lo a w L) (hid:lo id=some (.ext s)) (hL:L id=.ext O D)
  (hl:vs.length=xs.length) (hx:∀ (k:Nat) (x:IV) (u:Value),xs[k]?=some x->vs[k]?=some u->QF (okL ok0 lo L) w x u):Qh8 K (okC (okL ok0 lo L) D w) O D w s xs vs:=by
 have hob:=h.y9 id _ hid;rw[hL] at hob;obtain ⟨hO,hD,hJ⟩:=hob;refine ⟨fun w' hk=>c.hK _ (h.below.trans (hk.mono fun b hb=>⟨h.frl b hb,fun ho=>(hO b ho).1 hb⟩)),hJ,fun b hb=>(hO b hb).2.2,fun b hb=>?_,fun b hb=>.inr (.inl hb),fun b hb=>.inr (.inr hb),fun b hb=>.inl (hO b hb).2.2,hl,fun k x u h1 h2=>(hx k x u h1 h2).plain.mono fun b hb _=>⟨⟨.inr (.inl hb),fun ho=>hb.1.2 id _ hid (by rw[hL];exact ho)⟩,rfl⟩⟩;rcases hD b hb with h1 | ⟨h1,_⟩
 ·exact (hO b h1).2.1
 ·exact h.frl b h1
theorem Qfw {ops:Array Oper} {i:Nat} {C:Act->World->Prop} (c:Ctx P K ok0 w0) (h:Rel ok0 N w0 σ.lk σ.lo a w L) (ho:ops[i]?=some o) (hw:Region.wanted o (yielded ops a.tmps)=true) (hd:Vu N A.d o.dst=true) (hf:A.op.fits P o.op=true)
  (hy:YE P K A.op σ v up) (hC:∀ w1 a' w' L',w0.le w1->Rel ok0 N w1 (σ.app A.d v up).lk (σ.app A.d v up).lo a' w' L'->C a' w'):qs P ops i C a w:=by
 have hnd:∀ c,o.op≠.defer c:=fun c e=>by rw[e,Qaa] at hf;cases hf
 cases hcb:A.op.isCb with
 | false=>exact J8 ho hw hnd (Qmc c h hd hf hy hcb (fun a' w' L' hr=>hC w0 a' w' L' (XH.le.refl w0) hr))
 | true =>
   obtain ⟨hde,hdlt⟩:=qf hd;generalize hop:A.op=op at hy hcb hf
   have fin:∀ (id:Nat) (s s':Ext) (y:IV) (O D:Nat->Prop) (u:Value) (w':World),σ.lo id=some (.ext s)->L id=.ext O D->s'.v=s.v->Q0 y=true->v=.iv y->up=some (id,.ext s') ->
     (∃ O' D',U5 (okC (okL ok0 σ.lo L) D w) O w s' y O' D' u w')->C (a.put o.dst u) w':=by
    rintro id s s' y O D u w' hid hL hv hsy rfl rfl ⟨O',D',hp⟩;obtain ⟨w1,hle,hrel⟩:=QzO c.ok h hid hL hv hp;refine hC w1 _ w' (QV L id (.ext O' D')) hle ?_;have:=hrel.put o.dst hdlt (x:=.iv y) (v:=u) (.iv _ _ (X6 hsy hp.rep));rw[hde];exact this
   cases hy with
   | yu x args id _ xs s s' y hid hp hg hsc =>
     obtain ⟨m,az,ts,hoo,hxm,xc⟩:=Wv (P:=P) (ids:=[]) hf;obtain ⟨hbl,hbx⟩:=ZM h xc;obtain ⟨h5,h6⟩:=Wk hp (by simpa using hbl) hbx;have hob:=h.y9 id _ hid;cases hL:L id with
     | ext O D =>
       have rx:=Opd.rep h (x:=x) (y:=.tmp m) hxm;have go:∀ {f},a.eval (.tmp m)=f->Ans P f _ w (fun v w'=>∃ O' D',U5 (okC (okL ok0 σ.lo L) D w) O w s' y O' D' v w')->_:=fun hsv ha=>Qm2 ho hw hoo hsv ha (fun u w' hR=>fin id s s' y O D u w' hid hL hg.v hsc rfl rfl hR);rcases hg with ⟨hx,hg⟩ | ⟨hx,hg⟩ | ⟨g,fs,cs,hx,hcal,hg⟩
       ·rw[hx] at rx;obtain ⟨_,hsv⟩:=QlF hid (by simp[AV.refs]) rx;exact go hsv (hg.2 _ O D w _ (QhU c h hid hL h5 h6))
       ·rw[hx] at rx;generalize hu:a.eval (.tmp m)=u0 at rx;cases rx with
        | iv _ _ rx =>
          cases rx;exact go hu (hg.2 _ O D w _ (QhU c h hid hL h5 h6))
       rw[hx] at rx;generalize hu:a.eval (.tmp m)=u0 at rx;cases rx with
       | iv _ _ rx =>
         cases rx with
         | clo _ _ _ us vs g1 g2 g3 g4 =>
           refine go hu (Ans.of_calls hcal ((hg.2 _ O D w _ (QhU c h hid hL (vs:=us++az.toList.map a.eval++vs) (by simp only[QKP,g1,g2,h5]) (fun k z u hz hu=>?_))).mono ?_))
           ·by_cases k1:k<fs.length
            ·exact g3 k z u (by rwa [QK8,QKS k1] at hz) (by rwa [QK8,QKS (by omega)] at hu)
            rw[QK8,QKO (by omega)] at hz;rw[QK8,QKO (by omega),g1] at hu;by_cases k2:k-fs.length<xs.length
            ·rw[QKS k2] at hz;rw[QKS (by rw[h5];exact k2)] at hu;exact h6 _ z u hz hu
            rw[QKO (by omega)] at hz;rw[QKO (by rw[h5];omega),h5] at hu;exact g4 _ z u hz hu
           rintro e w' ⟨v,rfl,hp'⟩;exact ⟨v,rfl,hp'⟩
     | _=>rw[hL] at hob;exact hob.elim
   | callz g args id _ xs s s' y hid hp hg hsc =>
     have hf':AOp.fits P (.call g args []) o.op=true:=hf;obtain ⟨bs,xc,hrun⟩:=UK (a:=a) (w:=w) hf';obtain ⟨hbl,hbx⟩:=ZM h xc;obtain ⟨h5,h6⟩:=Wk hp (by simpa using hbl) hbx;have hob:=h.y9 id _ hid;cases hL:L id with
     | ext O D =>
       refine J8 ho hw hnd ?_;unfold Oper.wp;rw[hrun];simp only[Oper.upon];refine (hg.2 _ O D w _ (QhU c h hid hL h5 h6)).mono fun e w' hew=>?_;obtain ⟨u,rfl,hpost⟩:=hew;exact fin id s s' y O D u w' hid hL hg.1 hsc rfl rfl hpost
     | _=>rw[hL] at hob;exact hob.elim
   | yr g args x id _ xs s s' y hx hid hp hg hsc =>
     have hf':AOp.fits P (.call g (args++[x]) []) o.op=true:=hf;obtain ⟨bs,xc,hrun⟩:=UK (a:=a) (w:=w) hf';obtain ⟨hbl,hbx⟩:=ZM h xc;have hbl':(bs.map a.eval).length=args.length+1:=by simp[hbl]
     obtain ⟨vs,u0,hvs⟩:∃ vs u0,bs.map a.eval=vs++[u0]:=by
      refine ⟨(bs.map a.eval).dropLast,(bs.map a.eval).getLast (fun e=>by rw[e] at hbl';simp at hbl'),?_⟩;exact (QLM _).symm
     have hvl:vs.length=args.length:=by
      grind
     rw[hvs] at hbx;obtain ⟨h5,h6⟩:=Wk (vs:=vs) hp (by simpa using hvl) (fun k z u h1 h2=>hbx k z u (by grind) (by rw[QKS (QKG.1 h2).1];exact h2));have hob:=h.y9 id _ hid;cases hL:L id with
     | ext O D =>
       have rx:QA (okL ok0 σ.lo L) w σ.lo L (.cb id) u0:=by
        have:=hbx args.length (x.av σ.lk) u0 (by simp) (by rw[QKO (by omega)];simp[hvl])
        rwa [hx] at this
       obtain ⟨_,rfl⟩:=QlF hid (by simp[AV.refs]) rx;refine J8 ho hw hnd ?_;unfold Oper.wp;rw[hrun,hvs];simp only[Oper.upon];refine (hg.2 _ O D w vs [] (by rw[QLY,QLY];exact QhU c h hid hL h5 h6) h5).mono fun e w' hew=>?_;obtain ⟨u,rfl,hpost⟩:=hew;exact fin id s s' y O D u w' hid hL hg.1 hsc rfl rfl hpost
     | _=>rw[hL] at hob;exact hob.elim
   | plain _ _ s f _ _ he hs=>cases op<;>first | (cases hcb;done) | (cases he;done)
   | _=>cases hcb
theorem QnZ {ops i C} (c:Ctx P K ok0 w0) (h:Rel ok0 N w0 σ.lk σ.lo a w L) (ho:ops[i]?=some o) (hf:Vd P N ops A o=true)
  (hy:Yields P K A σ v up) (hC:∀ w1 a' w' L',w0.le w1->Rel ok0 N w1 (σ.app A.d v up).lk (σ.app A.d v up).lo a' w' L'->C a' w'):qs P ops i C a w:=by
 simp only[Vd,QKI] at hf;obtain ⟨⟨hd,hg⟩,hop⟩:=hf;unfold Yields at hy;unfold QcC at hg;split at hy
 ·rename_i hag;rw[hag] at hg;split at hg
  ·rename_i hog;exact Qfw c h ho (by simp[Region.wanted,hog]) hd hop hy hC
  ·rename_i heq _;cases heq
  cases hg
 ·rename_i t b hag;rw[hag] at hg;split at hg
  ·rename_i heq _;cases heq
  ·rename_i t' b' j b'' heq hog;injection heq with heq;injection heq with e1 e2;subst e1 e2;simp only[QKI,beq_iff_eq] at hg;obtain ⟨rfl,hj⟩:=hg;rcases hy with ⟨ht,hgv⟩ | ⟨ht,rfl,rfl⟩
   ·have hyd:=qA h ht hj;exact Qfw c h ho (by simp[Region.wanted,hog,hyd]) hd hop hgv hC
   have hwf:Region.wanted o (yielded ops a.tmps)=false:=by
    rcases ht with ht | ht
    ·have hyd:=qA h ht hj;simp[Region.wanted,hog,hyd]
    have hyd:=Qf8 h ht hj;simp[Region.wanted,hog,hyd]
   obtain ⟨hde,hdlt⟩:=qf hd;refine Qm0 ho hwf (hC w0 _ _ L (XH.le.refl w0) ?_);have:=h.put o.dst hdlt (x:=.iv (.xd [])) (v:=undef) (.iv _ _ Qb1);rw[<- hde] at this;rw[<- hde];exact this
  ·cases hg
theorem Qji {x:Opd} {v:Value} {ok:Nat->Prop} {lo:Nat->Option AO} {lk:Nat->AV} {g:FuncId} {fs cs:List AV} (hc:callee P g=true) (hx:QqM (x.av lk)=some (g,fs,cs)) (hr:QA ok w lo L (x.av lk) v) :
  ∃ us vs:List Value,(∀ args:List Value,Enters P v args w (.enter g (us++args++vs).toArray))/\us.length=fs.length/\vs.length=cs.length/\(∀ (k:Nat) (y:AV) (u:Value),fs[k]?=some y->us[k]?=some u->QA ok w lo L y u) /\
   (∀ (k:Nat) (y:AV) (u:Value),cs[k]?=some y->vs[k]?=some u->QA ok w lo L y u):=by
 generalize x.av lk=xv at hx hr;unfold QqM at hx;split at hx
 ·injection hx with hx;injection hx with e1 e2;injection e2 with e2 e3;subst e1 e2 e3;cases hr with
  | iv _ _ r =>
    cases r with
    | fn=>exact ⟨[],[],fun args=>.clo _ [] [] _ w hc,rfl,rfl,by simp,by simp⟩
 ·injection hx with hx;injection hx with e1 e2;injection e2 with e2 e3;subst e1 e2 e3;cases hr with
  | iv _ _ r =>
    cases r with
    | clo _ _ _ us vs l1 l2 hf hcx =>
      refine ⟨us,vs,fun args=>.clo _ us vs _ w hc,by simp[l1],by simp[l2],fun k y u hy hu=>?_,fun k y u hy hu=>?_⟩
      all_goals grind
 ·injection hx with hx;injection hx with e1 e2;injection e2 with e2 e3;subst e1 e2 e3;cases hr with
  | clo _ _ _ us vs l1 l2 hf hcx=>exact ⟨us,vs,fun args=>.clo _ us vs _ w hc,l1,l2,hf,hcx⟩
 ·cases hx
theorem Qht {C:Act->World->Prop} {Q:Exit->Act->World->Prop} {σ':Fs} (c:Ctx P K ok0 w0) (h:Rel ok0 N w0 σ.lk σ.lo a w L) (hd:Vu N A.d o.dst=true) (hf:A.op.fits P o.op=true)
  (hy:U3 P K A.d σ A.op σ') (hC:∀ a' w' L',Rel ok0 N w0 σ'.lk σ'.lo a' w' L'->C a' w'):o.wp P a w C Q:=by
 obtain ⟨hde,hdlt⟩:=qf hd;generalize hop:A.op=op at hy;cases hy with
 | yx g args ids keep y' lo' args0 lo0 st y lo1 dom hh =>
   rw[hop] at hf;have hf':AOp.fits P (.call g args []) o.op=true:=hf;obtain ⟨bs,xc,hrun⟩:=UK (a:=a) (w:=w) hf';obtain ⟨hbl,hbx⟩:=ZM h xc;unfold Oper.wp;rw[hrun];simp only[Oper.upon];refine (Ql7 c.hK c.ok h hh (by simpa using hbl) hbx).mono fun x w' hew=>?_;obtain ⟨u,L',rfl,hrel,hrep⟩:=hew;have hput:=hrel.put o.dst hdlt (x:=y') (v:=u) hrep;refine hC _ _ L' ?_;rw[hde];exact hput
 | y4 x g fs cs args ids keep y' lo' args0 lo0 st y lo1 dom hx hc hh =>
   rw[hop] at hf;obtain ⟨m,az,ts,ho,hxm,xc⟩:=Wv (P:=P) (ids:=[]) (x:=x) (args:=args) hf;obtain ⟨hbl,hbx⟩:=ZM h xc;obtain ⟨us,vs,hent,l1,l2,hfx,hcx⟩:=Qji hc hx (Opd.rep h (x:=x) (y:=.tmp m) hxm);have hrun:=QcP (a:=a) ho rfl (hent (az.toList.map a.eval));unfold Oper.wp;rw[hrun];simp only[Oper.upon];refine (Ql7 (vs:=us++az.toList.map a.eval++vs) c.hK c.ok h hh (by simp[l1,l2,hbl]) (fun k z u hz hu=>?_)).mono fun x w' hew=>?_
   ·grind
   ·obtain ⟨u,L',rfl,hrel,hrep⟩:=hew;have hput:=hrel.put o.dst hdlt (x:=y') (v:=u) hrep;refine hC _ _ L' ?_;rw[hde];exact hput
theorem QlT {ops:Array Oper} {i:Nat} {σ':Fs} {C:Act->World->Prop} (c:Ctx P K ok0 w0) (h:Rel ok0 N w0 σ.lk σ.lo a w L) (ho:ops[i]?=some o) (hf:Vd P N ops A o=true)
  (hy:Uo P K A σ σ') (hC:∀ w1 a' w' L',w0.le w1->Rel ok0 N w1 σ'.lk σ'.lo a' w' L'->C a' w'):qs P ops i C a w:=by
 cases hy with
 | app v up hy=>exact QnZ c h ho hf hy hC
 | h _ hag hh =>
   simp only[Vd,QKI] at hf;obtain ⟨⟨hd,hg⟩,hop⟩:=hf;have fin:Region.wanted o (yielded ops a.tmps)=true->qs P ops i C a w:=fun hw=>J8 ho hw (fun c e=>by rw[e,Qaa] at hop;cases hop) (Qht c h hd hop hh (fun a' w' L' hr=>hC w0 a' w' L' (XH.le.refl w0) hr));unfold QcC at hg;rcases hag with hag | ⟨t,b,hag,ht⟩
   ·rw[hag] at hg;split at hg
    ·rename_i hog;exact fin (by simp[Region.wanted,hog])
    ·rename_i heq _;cases heq
    cases hg
   ·rw[hag] at hg;split at hg
    ·rename_i heq _;cases heq
    ·rename_i t' b' j b'' heq hog;injection heq with heq;injection heq with e1 e2;subst e1 e2;simp only[QKI,beq_iff_eq] at hg;obtain ⟨rfl,hj⟩:=hg;have hyd:=qA h ht hj;exact fin (by simp[Region.wanted,hog,hyd])
    ·cases hg
theorem qX {ops:Array Oper} {az:List Zf} {Q:Fs->Prop} {Q':Act->World->Prop} (c:Ctx P K ok0 w0) (hfit:XP P N ops az ops.toList=true)
  (hQ:∀ σ a w w1 L,w0.le w1->Rel ok0 N w1 σ.lk σ.lo a w L->Q σ->Q' a w):∀ (fuel:Nat) (listed:Array Bool) (σ:Fs) (a:Act) (w:World) (w1:XH) (L:Nat->Lay),w0.le w1->Rel ok0 N w1 σ.lk σ.lo a w L ->
    Qge P K .any ops az Q fuel listed σ->Qti P .any ops Q' fuel listed a w
 | 0,_,_,_,_,_,_,hl,hr,h=>⟨h.1,hQ _ _ _ _ _ hl hr h.2⟩
 | fuel+1,listed,σ,a,w,w1,L,hl,hr,h=>by
   refine ⟨fun h0=>hQ _ _ _ _ _ hl hr (h.1 h0),fun i hi=>?_⟩;have h2:=h.2 i hi;obtain ⟨hlen,hget⟩:=Jn hfit;cases ho:ops[i]? with
   | none =>
     have hA:az[i]?=none:=by
      grind
     simp only[Qc8,hA] at h2;exact Qm1 ho (qX c hfit hQ fuel _ σ a w w1 L hl hr h2)
   | some o =>
     have xa:i<az.length:=by
      have:=(QKQ.1 ho).1;simp at hlen;omega
     have hA:az[i]?=some az[i]:=QKF xa;simp only[Qc8,hA] at h2;obtain ⟨σ1,hy,hc⟩:=h2;exact QlT (c.le hl) hr ho (hget i _ o hA (by simpa using ho)) hy (fun w2 a' w' L' hl' hr'=>qX c hfit hQ fuel _ _ a' w' w2 L' (hl.trans hl') hr' hc)
theorem qd {ops:Array Oper} {az:List Zf} {Q':Act->World->Prop} {σ':Fs} (c:Ctx P K ok0 w0) (hfit:XP P N ops az ops.toList=true)
  (hQ:∀ a w w1 L,w0.le w1->Rel ok0 N w1 σ'.lk σ'.lo a w L->Q' a w):∀ (l:List Zf) (k:Nat) (σ:Fs) (a:Act) (w:World) (w1:XH) (L:Nat->Lay),(∀ j,l[j]?=az[k+j]?)->w0.le w1->Rel ok0 N w1 σ.lk σ.lo a w L ->
    Qr1 P K l σ σ'->QaW P ops Q' (List.range' k l.length) a w
 | [],_,σ,a,w,w1,L,_,hle,hr,hp=>by
   cases hp;simp only[QK4,List.range'_zero,QaW];exact hQ _ _ _ _ hle hr
 | A::l,k,σ,a,w,w1,L,hl,hle,hr,hp=>by
   obtain ⟨hlen,hget⟩:=Jn hfit;cases hp with
   | cons _ _ _ σ1 _ hy hp =>
     have hA:az[k]?=some A:=by simpa using (hl 0).symm
     have xa:k<ops.toList.length:=by rw[hlen];exact (QKG.1 hA).1
     have ho:ops[k]?=some (ops.toList[k]):=by
      have:=QKF xa;simpa using this
     simp only[QKV,List.range'_succ,QaW]
     exact QlT (c.le hle) hr ho (hget k A _ hA (QKF xa)) hy
      (fun w2 a' w' L' hl' hr'=>qd c hfit hQ l (k+1) _ a' w' w2 L' (fun j=>by have:=hl (j+1);simpa[QLI,Nat.add_comm 1 j] using this) (hle.trans hl') hr' hp)
def Uz (P:Program) (N:Fm) (az:List Zf) (ops:Array Oper) (draw:Bool):Bool :=
 XP P N ops az ops.toList&&(!draw||(P.follows .mixedOrders&&QuX 0 ops.toList&&QiT ops az))
theorem QgR {ops:Array Oper} {az:List Zf} {id:Nat} {draw:Bool} {σ σ':Fs} (c:Ctx P K ok0 w0) (hfit:Uz P N az ops draw=true)
  (hr:Rel ok0 N w0 σ.lk σ.lo a w L) (hp:Qr1 P K az σ σ') (b:Frame) (k:List Item) (cs:List Frame) :
  ∃ a' w',(∃ w1 L',w0.le w1/\Rel ok0 N w1 σ'.lk σ'.lo a' w' L')/\Steps P (lone (b.atR a (.code (.region id ops draw)::k)) cs w) (lone (b.atR a' k) cs w'):=by
 simp only[Uz,QKI] at hfit;obtain ⟨hfit,hdraw⟩:=hfit;obtain ⟨hlen,_⟩:=Jn hfit;have hlen':ops.size=az.length:=by simpa using hlen
 cases draw with
 | false =>
   refine QgS (Q:=fun a' w'=>∃ w1 L',w0.le w1/\Rel ok0 N w1 σ'.lk σ'.lo a' w' L') ?_ b k cs;have:=qd (Q':=fun a' w'=>∃ w1 L',w0.le w1/\Rel ok0 N w1 σ'.lk σ'.lo a' w' L') c hfit (fun a w w1 L hl hr=>⟨w1,L,hl,hr⟩) az 0 σ a w w0 L (by simp) (XH.le.refl w0) hr hp;rw[hlen',List.range_eq_range'];exact this
 | true =>
   simp only[Bool.not_true,Bool.false_or,QKI] at hdraw;obtain ⟨⟨hm,hB⟩,hpairs⟩:=hdraw;have hB:=fun k o ho=>Qew ops.toList 0 hB k o (by simpa using ho);simp only[QKY] at hB;refine Qe2 (Q:=fun a' w'=>∃ w1 L',w0.le w1/\Rel ok0 N w1 σ'.lk σ'.lo a' w' L') hm ?_ b k cs;have hr':Rel ok0 N w0 σ.lk σ.lo a { w with drawn:=w.drawn+1 } L:=hr.ext ⟨rfl,rfl,rfl,QKJ _,fun _ _=>rfl⟩;refine qX (Q:=fun σ=>σ=σ') c hfit (fun τ a' w' w1 L' hl h1 h2=>by subst h2;exact ⟨w1,L',hl,h1⟩) _ _ σ a _ w0 L (XH.le.refl w0) hr' ?_;have:=Qdw (P:=P) (K:=K) (Q:=fun σ=>σ=σ') hlen' hpairs hB az 0 (Array.replicate ops.size false) σ σ' (by simp) (by simp) (fun j _ hj=>by simp[hj]) (by simp) (QzM _) hp rfl;rw[<- hlen'] at this;exact this
end
abbrev Env:=List (Nat × AV)
abbrev Qm:=List (Nat × AO)
def look:Env->Nat->AV
 | [],_=>.iv .any
 | (k,v)::r,t=>if t=k then v else look r t
def Qc:Qm->Nat->Option AO
 | [],_=>none
 | (k,o)::r,i=>if i=k then some o else Qc r i
def bnd (d:Option Nat) (v:AV) (e:Env):Env :=
 match d with
 | none=>e
 | some d=>(d,v)::e
def Qa9 (t:Nat) (v:AV):Env->Env
 | []=>[]
 | (k,x)::r=>if t=k then (k,v)::r else (k,x)::Qa9 t v r
def Yu (id:Nat) (o:AO):Qm->Qm
 | []=>[(id,o)]
 | (k,x)::r=>if id=k then (k,o)::r else (k,x)::Yu id o r
def upL (up:Option (Nat × AO)) (os:Qm):Qm :=
 match up with
 | none=>os
 | some (id,o)=>Yu id o os
theorem Jp (d v e):look (bnd d v e)=Jx (look e) d v:=by
 cases d<;>rfl
theorem Y4 (id o):∀ os,Qc (Yu id o os)=Za (Qc os) id o
 | []=>by funext i;simp[Yu,Qc,Za]
 | (k,x)::r=>by
   funext i;simp only[Yu];split
   ·rename_i h;subst h;simp only[Qc,Za];split<;>rfl
   ·rename_i h;simp only[Qc,Y4 id o r,Za];by_cases h1:i=k<;>by_cases h2:i=id<;>simp_all
theorem QoT (up os):Qc (upL up os)=upO (Qc os) up:=by
 cases up with
 | none=>rfl
 | some p=>obtain ⟨id,o⟩:=p;exact Y4 id o os
theorem WW {t v}:∀ {e},look e t=v->look (Qa9 t v e)=look e
 | [],_=>rfl
 | (k,x)::r,h=>by
   funext u;simp only[look] at h;simp only[Qa9];split
   ·rename_i hk;rw[if_pos hk] at h;subst h;rfl
   ·rename_i hk;rw[if_neg hk] at h;simp only[look];split
    ·rfl
    ·exact congrFun (WW h) u
def sig (e:Env) (o:Qm):Fs:=⟨look e,Qc o⟩
theorem Qoe (e o d v up):(sig e o).app d v up=sig (bnd d v e) (upL up o):=by
 simp[sig,Fs.app,Jp,QoT]
def evK (C:AV->Option (Nat × AO)->Prop):Res->Prop
 | .ok s f v up=>s/\(f->C v up)
 | .no=>False
def QDt (P:Program) (K:World->Prop) (g:FuncId) (id:Nat) (C:AV->Option (Nat × AO)->Prop) (xs:Option (List IV)):AV->Option AO->Prop
 | .yl i n,some (.arr t sz es mv)=>∃ ys rows rows',i=id/\xs=some ys/\Qd5 es=some rows/\n=es.length/\QrY P K g t sz rows ys rows'/\C (.yl id rows'.length) (some (id,XE t sz rows' rows'.length))
 | .yn i k n,some (.yo t sz kvs none)=>∃ ys rows',i=id/\xs=some ys/\((Qh k kvs).getD []).length=n/\QrY P K g t sz ((Qh k kvs).getD []) ys rows'/\C (.yn id k rows'.length) (some (id,.yo t sz (zn k rows' kvs) (some k)))
 | _,_=>False
def QDT (id:Nat) (C:AV->Option (Nat × AO)->Prop):AV->AV->Option AO->Prop
 | .yl i n,.iv (.sl s ys),some (.arr t sz es _)=>i=id/\n=es.length/\(∃ rows,Qd5 es=some rows)/\s=1/\sz=1/\ys.length=n/\C (.iv (.int .i64 n)) (some (id,XE t 1 ys ys.length))
 | _,_,_=>False
def QqS (P:Program) (K:World->Prop) (lo:Nat->Option AO) (ids:List Nat) (args:List AV) (C:AV->Option (Nat × AO)->Prop):AV->Prop
 | .iv (.fn g)=>∃ xs r,callee P g=true/\Qca lo ids args=some xs/\Good P K g xs r/\(ids=[]\/Q0 r=true)/\C (.iv r) none
 | x=>∃ g fs cs xs r,callee P g=true/\Qca lo ids (x::args)=some (.clo g fs cs::xs)/\Good P K g (fs++xs++cs) r/\(ids=[]\/Q0 r=true)/\C (.iv r) none
def Qia (P:Program) (K:World->Prop) (op:AOp) (C:AV->Option (Nat × AO)->Prop) (e:Env) (o:Qm):Prop :=
 match op with
 | .call g args ids=>∃ xs r,Qca (Qc o) ids (args.map (·.av (look e)))=some xs/\Good P K g xs r/\(ids=[]\/Q0 r=true)/\C (.iv r) none
 | .y3 g args ids id=>∃ xs q t sz rows mv,ids=[]/\ivs (args.map (·.av (look e)))=some xs/\Qh7 P K g xs q t sz rows mv/\Qc o id=none/\C (ren id q) (some (id,XE t sz rows mv))
 | .yz x args ids=>QqS P K (Qc o) ids (args.map (·.av (look e))) C (x.av (look e))
 | .yu x args id=>∃ xs s s' y,Qc o id=some (.ext s)/\ivs (args.map (·.av (look e)))=some xs/\QDn P K (x.av (look e)) id s xs y s'/\Q0 y=true/\C (.iv y) (some (id,.ext s'))
 | .yr g args id=>(∃ xs s s' y,(args.getLast?).map (·.av (look e))=some (.cb id)/\Qc o id=some (.ext s)/\ivs (args.dropLast.map (·.av (look e)))=some xs/\Qh6 P K g xs [] s y s'/\Q0 y=true/\C (.iv y) (some (id,.ext s'))) \/
   ∃ xs s s' y,Qc o id=some (.ext s)/\ivs (args.map (·.av (look e)))=some xs/\qw P K g xs s y s'/\Q0 y=true/\C (.iv y) (some (id,.ext s'))
 | .yw g x args id=>QDt P K g id C (ivs (args.map (·.av (look e)))) (x.av (look e)) (Qc o id)
 | .cpy id x y=>QDT id C (x.av (look e)) (y.av (look e)) (Qc o id)
 | op=>evK C (ev (look e) (Qc o) op)
def YD (P:Program) (K:World->Prop) (f:FuncId) (args:List AV) (o:Qm) (st:List Nat) (y:AV) (o':Qm):Prop:=Qwd P K f args (Qc o) st y (Qc o')
def Y6 (ids st:List Nat) (o:Qm):List Nat:=(o.map (·.1)).filter fun i=>match UY ids i with
 | some j=>st.contains j
 | none=>true
def Qsd (keep:List Nat) (e:Env):Env:=e.map fun p=>(p.1,scr keep p.2)
def QiO (ids keep:List Nat):Qm->Qm
 | []=>[]
 | (i,ob)::r=>match UY ids i with
   | some _=>QiO ids keep r
   | none=>(i,QdL keep ob)::QiO ids keep r
def QwY (ids keep:List Nat) (o o1:Qm):Qm:=QiO ids keep o++o1.map fun p=>(nth ids p.1,rnO (nth ids) p.2)
def HOk (ids:List Nat) (args0:List AV) (o o0 o1:Qm):Prop :=
 ids.Nodup/\args0.all (clA (o0.map (·.1)))=true/\(∀ p∈o0,p.1<ids.length/\Qc o (nth ids p.1)=some (rnO (nth ids) p.2)/\clO (o0.map (·.1)) p.2=true/\XR p.2=true) /\
 (∀ i∈List.range ids.length,Qc o0 i=none->Qc o (nth ids i)=none)/\(∀ p∈o1,p.1<ids.length/\XR p.2=true)
def HK (P:Program) (K:World->Prop) (g:FuncId) (ids:List Nat) (d:Option Nat) (C:Env->Qm->Prop) (e:Env) (o:Qm) (avs:List AV):Prop :=
 ∃ args0 o0 st y o1,avs=args0.map (rn (nth ids))/\HOk ids args0 o o0 o1/\YD P K g args0 o0 st y o1/\C (bnd d (rn (nth ids) y) (Qsd (Y6 ids st o) e)) (QwY ids (Y6 ids st o) o o1)
def Qet (P:Program) (K:World->Prop) (ids:List Nat) (d:Option Nat) (C:Env->Qm->Prop) (e:Env) (o:Qm) (avs:List AV) (x:AV):Prop :=
 ∃ g fs cs,QqM x=some (g,fs,cs)/\callee P g=true/\HK P K g ids d C e o (fs++avs++cs)
def QiD (P:Program) (K:World->Prop) (op:AOp) (d:Option Nat) (C:Env->Qm->Prop) (e:Env) (o:Qm):Prop :=
 match op with
 | .yx g args ids=>HK P K g ids d C e o (args.map (·.av (look e)))
 | .y4 x args ids=>Qet P K ids d C e o (args.map (·.av (look e))) (x.av (look e))
 | _=>False
def Qpl (b:Bool) (C:Bool->AV->Prop):AV->Prop
 | .iv (.bool c)=>(c=b->C true (.iv (.bool b)))/\(c=!b->C false (.iv (.bool (!b))))
 | .iv (.xd [])=>C false (.iv (.xd []))
 | _=>False
def Qq (P:Program) (K:World->Prop) (C:Env->Qm->Prop):List Zf->Env->Qm->Prop
 | [],e,o=>C e o
 | A::l,e,o =>
   match A.g with
   | none=>match A.op.isH with
     | true=>QiD P K A.op A.d (Qq P K C l) e o
     | false=>Qia P K A.op (fun v up=>Qq P K C l (bnd A.d v e) (upL up o)) e o
   | some (t,b)=>Qpl b (fun w u=>match w with
     | true=>match A.op.isH with
       | true=>QiD P K A.op A.d (Qq P K C l) (Qa9 t u e) o
       | false=>Qia P K A.op (fun v up=>Qq P K C l (bnd A.d v (Qa9 t u e)) (upL up o)) (Qa9 t u e) o
     | false=>Qq P K C l (bnd A.d (.iv (.xd [])) (Qa9 t u e)) o) (look e t)
section
variable {P:Program} {K:World->Prop} {ok0:Nat->Prop} {N:Fm} {w0:XH} {a:Act} {w:World} {L:Nat->Lay}
theorem QgI {op C C' e o} (h:∀ v up,C v up->C' v up) (hh:Qia P K op C e o):Qia P K op C' e o:=by
 have plain:∀ r,evK C r->evK C' r:=by
  intro r hr;cases r with
  | no=>exact hr
  | ok s f v up=>exact ⟨hr.1,fun hf=>h _ _ (hr.2 hf)⟩
 cases op with
 | call g args ids=>obtain ⟨xs,r,h1,h2,h3,h4⟩:=hh;exact ⟨xs,r,h1,h2,h3,h _ _ h4⟩
 | y3 g args ids id=>obtain ⟨xs,q,t,sz,rows,mv,h0,h1,h2,h3,h4⟩:=hh;exact ⟨xs,q,t,sz,rows,mv,h0,h1,h2,h3,h _ _ h4⟩
 | yz x args ids =>
   simp only[Qia] at hh |-;unfold QqS at hh |-
   grind
 | yu x args id=>obtain ⟨xs,s,s',y,h1,h2,h3,h4,h5⟩:=hh;exact ⟨xs,s,s',y,h1,h2,h3,h4,h _ _ h5⟩
 | yr g args id =>
   rcases hh with ⟨xs,s,s',y,h1,h2,h3,h4,h5,h6⟩ | ⟨xs,s,s',y,h1,h2,h3,h4,h5⟩
   ·exact .inl ⟨xs,s,s',y,h1,h2,h3,h4,h5,h _ _ h6⟩
   exact .inr ⟨xs,s,s',y,h1,h2,h3,h4,h _ _ h5⟩
 | yw g x args id =>
   simp only[Qia] at hh |-;unfold QDt at hh |-
   grind
 | cpy id x y =>
   simp only[Qia] at hh |-;unfold QDT at hh |-
   grind
 | _=>simp only[Qia] at hh |-;exact plain _ hh
theorem QrX {C C' g ids d e o avs} (h:∀ e o,C e o->C' e o) (hh:HK P K g ids d C e o avs):HK P K g ids d C' e o avs:=by
 obtain ⟨args0,o0,st,y,o1,h1,h2,h3,h4⟩:=hh;exact ⟨args0,o0,st,y,o1,h1,h2,h3,h _ _ h4⟩
theorem QgH {op d C C' e o} (h:∀ e o,C e o->C' e o) (hh:QiD P K op d C e o):QiD P K op d C' e o:=by
 unfold QiD at hh |-;split at hh
 ·exact QrX h hh
 ·obtain ⟨g,fs,cs,h1,h2,h3⟩:=hh;exact ⟨g,fs,cs,h1,h2,QrX h h3⟩
 ·exact hh.elim
theorem Qcm (keep):∀ e t,look (Qsd keep e) t=scr keep (look e t)
 | [],t=>by simp[Qsd,look,scr]
 | (k,v)::r,t=>by
   have:=Qcm keep r t;simp only[Qsd,QKZ,look];split
   ·rfl
   ·exact this
theorem Zb:∀ {o i ob},Qc o i=some ob->(i,ob)∈o
 | [],i,ob,h=>by simp[Qc] at h
 | (k,x)::r,i,ob,h=>by
   simp only[Qc] at h;split at h
   ·rename_i hk;injection h with h;subst h hk;simp
   ·exact QMp _ (Zb h)
theorem JD:∀ {o i},i∈o.map (·.1)->∃ ob,Qc o i=some ob
 | (k,x)::r,i,h=>by
   simp only[Qc];split
   ·exact ⟨x,rfl⟩
   ·rename_i hk;simp only[QKZ,QKU,hk,false_or] at h;exact JD h
theorem Qhe (a b i):Qc (a++b) i=match Qc a i with | some x=>some x | none=>Qc b i:=by
 induction a with
 | nil=>rfl
 | cons p r ih =>
   obtain ⟨k,x⟩:=p;simp only[QLp,Qc];split
   ·rfl
   ·exact ih
theorem Qco (ids keep i):∀ o,Qc (QiO ids keep o) i=match UY ids i with | some _=>none | none=>(Qc o i).map (QdL keep)
 | []=>by simp[QiO,Qc];split<;>rfl
 | (k,x)::r=>by
   have ih:=Qco ids keep i r;simp only[QiO];cases hk:UY ids k with
   | some j =>
     simp only[Qc];grind
   | none =>
     simp only[Qc];grind
theorem Qhd (ids i) (hnd:ids.Nodup):∀ o1,(∀ p∈o1,p.1<ids.length)->Qc (o1.map fun p=>(nth ids p.1,rnO (nth ids) p.2)) i=match UY ids i with
  | some j=>(Qc o1 j).map (rnO (nth ids))
  | none=>none
 | [],_=>by simp[Qc];split<;>rfl
 | (k,x)::r,h=>by
   have ih:=Qhd ids i hnd r (fun p hp=>h p (QMp _ hp));have hk:k<ids.length:=h (k,x) (by simp);simp only[QKZ,Qc];rw[ih];by_cases hik:i=nth ids k
   ·have hx:UY ids i=some k:=by rw[hik];exact Jr hnd hk
    simp only[hik,if_true];rw[<- hik,hx];simp
   ·simp only[hik,if_false];cases hx:UY ids i with
    | none=>rfl
    | some j =>
      have:=(qa hx).2;grind
theorem QDl {C g ids d e o avs} (hh:HK P K g ids d C e o avs) :
  ∃ keep y' lo' args0 lo0 st y lo1 dom e' o',HG P K g avs ids keep (Qc o) y' lo' args0 lo0 st y lo1 dom/\look e'=Jx (fun t=>scr keep (look e t)) d y'/\Qc o'=lo'/\C e' o':=by
 obtain ⟨args0,o0,st,y,o1,h1,⟨k1,k2,k3,k4,k5⟩,h3,h4⟩:=hh;refine ⟨Y6 ids st o,_,_,args0,Qc o0,st,y,Qc o1,o0.map (·.1),_,_,⟨k1,h1,k2,fun i=>?_,fun i ob hob=>?_,fun i hi hn=>?_,h3,fun i ob hob=>?_,rfl,fun i=>?_,fun i hi j hj=>?_⟩,?_,rfl,h4⟩
 ·constructor
  ·intro hc;obtain ⟨ob,hob⟩:=JD (o:=o0) (by simpa using hc);rw[hob];rfl
  intro hs;obtain ⟨ob,hob⟩:=QLf.1 hs;have:=Zb hob;grind
 ·exact k3 (i,ob) (Zb hob)
 ·exact k4 i (QLa.2 hi) hn
 ·exact k5 (i,ob) (Zb hob)
 ·rw[QwY,Qhe,Qco,Qhd ids i k1 o1 (fun p hp=>(k5 p hp).1)]
  cases hx:UY ids i with
  | some j=>rfl
  | none =>
    cases ho:Qc o i with
    | none=>simp
    | some ob =>
      have hmem:(Y6 ids st o).contains i=true:=by
       simp only[Y6,List.contains_eq_mem,decide_eq_true_eq,QK9,QKT];exact ⟨⟨_,Zb ho,rfl⟩,by simp[hx]⟩
      grind
 ·simp only[Y6,List.contains_eq_mem,decide_eq_true_eq,QK9,hj] at hi;simpa using hi.2
 ·rw[Jp]
  funext t;cases d with
  | none=>exact Qcm _ e t
  | some d =>
    simp only[Jx];split
    ·rfl
    ·exact Qcm _ e t
theorem Xw {C C'} (h:∀ e o,C e o->C' e o):∀ l e o,Qq P K C l e o->Qq P K C' l e o
 | [],e,o,hh=>h _ _ hh
 | A::l,e,o,hh=>by
   simp only[Qq] at hh |-;split at hh
   ·split at hh
    ·exact QgH (fun e o=>Xw h l e o) hh
    exact QgI (fun v up=>Xw h l _ _) hh
   ·rename_i t b _;unfold Qpl at hh |-;split at hh
    ·refine ⟨fun hc=>?_,fun hc=>Xw h l _ _ (hh.2 hc)⟩;have hh1:=hh.1 hc;dsimp only at hh1 |-
     split at hh1
     ·exact QgH (fun e o=>Xw h l e o) hh1
     exact QgI (fun v up=>Xw h l _ _) hh1
    ·exact Xw h l _ _ hh
    ·exact hh
theorem Qna {A:Zf} {p:Oper} {C:AV->Option (Nat × AO)->Prop} {e:Env} {o:Qm} (c:Ctx P K ok0 w0) (h:Rel ok0 N w0 (look e) (Qc o) a w L) (hf:A.op.fits P p.op=true)
  (hh:Qia P K A.op C e o):∃ v up,YE P K A.op (sig e o) v up/\C v up:=by
 have plain:evK C (ev (look e) (Qc o) A.op)->∃ v up,YE P K A.op (sig e o) v up/\C v up:=by
  intro hk;cases hr:ev (look e) (Qc o) A.op with
  | no=>rw[hr] at hk;exact hk.elim
  | ok s f v up =>
    rw[hr] at hk;obtain ⟨hf',_⟩:=QlN h c.ok hf hr hk.1;exact ⟨v,up,.plain _ _ s f _ _ hr hk.1,hk.2 hf'⟩
 cases hop:A.op with
 | call g args ids =>
   rw[hop] at hh;obtain ⟨xs,r,h1,h2,h3,h4⟩:=hh;exact ⟨.iv r,none,.call g args ids _ xs r h1 h2 h3,h4⟩
 | y3 g args ids id =>
   rw[hop] at hh;obtain ⟨xs,q,t,sz,rows,mv,h0,h1,h2,h3,h4⟩:=hh;subst h0;exact ⟨_,_,.y3 g args id _ xs q t sz rows mv h1 h2 h3,h4⟩
 | yz x args ids =>
   rw[hop] at hh;simp only[Qia] at hh;generalize hxv:x.av (look e)=xv at hh;unfold QqS at hh;split at hh
   ·rename_i g;obtain ⟨xs,r,h1,h2,h3,h4,h5⟩:=hh;exact ⟨.iv r,none,.yz x g args ids _ xs r hxv h1 h2 h3 h4,h5⟩
   obtain ⟨g,fs,cs,xs,r,h1,h2,h3,h4,h5⟩:=hh;exact ⟨.iv r,none,.caldc x g fs cs args ids _ xs r h1 (by show Qca (Qc o) ids (x.av (look e)::_)=_;rw[hxv];exact h2) h3 h4,h5⟩
 | yu x args id =>
   rw[hop] at hh;obtain ⟨xs,s,s',y,h1,h2,h3,h4,h5⟩:=hh;exact ⟨.iv y,some (id,.ext s'),.yu x args id _ xs s s' y h1 h2 h3 h4,h5⟩
 | yr g args id =>
   rw[hop] at hh;rcases hh with ⟨xs,s,s',y,h1,h2,h3,h4,h5,h6⟩ | ⟨xs,s,s',y,h1,h2,h3,h4,h5⟩
   case inr=>exact ⟨.iv y,some (id,.ext s'),.callz g args id _ xs s s' y h1 h2 h3 h4,h5⟩
   obtain ⟨x,hx,hxv⟩:=QKK.1 h1;have hargs:args=args.dropLast++[x]:=by
    obtain ⟨hne,hx'⟩:=List.getLast?_eq_some_iff.1 hx;rw[hx'];simp
   refine ⟨.iv y,some (id,.ext s'),?_,h6⟩;have:=YE.yr (P:=P) (K:=K) g args.dropLast x id (sig e o) xs s s' y hxv h2 h3 h4 h5;rw[<- hargs] at this;exact this
 | yw g x args id =>
   rw[hop] at hh;simp only[Qia] at hh;generalize hxv:x.av (look e)=xv at hh;generalize hov:Qc o id=ov at hh;unfold QDt at hh;split at hh
   ·rename_i i n t sz es mv;obtain ⟨ys,rows,rows',rfl,h1,h2,rfl,h4,h5⟩:=hh;have hes:=JY h2;exact ⟨_,_,.yw g x args i _ ys t sz rows rows' mv (by show x.av (look e)=_;rw[hxv,hes,QKX]) (by show Qc o i=_;rw[hov,hes];rfl) h1 h4,h5⟩
   ·rename_i i k n t sz kvs;obtain ⟨ys,rows',rfl,h1,h2,h3,h4⟩:=hh;exact ⟨_,_,.callm g x args i _ ys t sz kvs k n rows' hxv h2 hov h1 h3,h4⟩
   exact hh.elim
 | cpy id x y =>
   rw[hop] at hh;simp only[Qia] at hh;generalize hxv:x.av (look e)=xv at hh;generalize hyv:y.av (look e)=yv at hh;generalize hov:Qc o id=ov at hh;unfold QDT at hh;split at hh
   ·rename_i i n s ys t sz es mv;obtain ⟨rfl,rfl,⟨rows,h2⟩,rfl,rfl,h5,h6⟩:=hh;have hes:=JY h2;refine ⟨_,_,?_,h6⟩;have hlr:es.length=rows.length:=by rw[hes,QKX]
    have:=YE.cpy (P:=P) (K:=K) i x y (sig e o) t rows ys mv (by show x.av (look e)=_;rw[hxv,hlr]) (by show Qc o i=_;rw[hov,hes];rfl) hyv (by rw[h5,hlr]);rw[<- hlr] at this;exact this
   exact hh.elim
 | _ =>
   rw[<- hop];exact plain (by rw[hop] at hh |-;exact hh)
theorem Qnt {A:Zf} {p:Oper} {σ:Fs} {v:AV} {up:Option (Nat × AO)} (c:Ctx P K ok0 w0) (h:Rel ok0 N w0 σ.lk σ.lo a w L) (hd:Vu N A.d p.dst=true) (hf:A.op.fits P p.op=true)
  (hy:YE P K A.op σ v up):∃ w1 a' w' L',w0.le w1/\Rel ok0 N w1 (σ.app A.d v up).lk (σ.app A.d v up).lo a' w' L':=by
 have:=Qfw (ops:=#[{ p with guard:=none }]) (i:=0) (o:={ p with guard:=none }) (C:=fun a' w'=>∃ w1 L',w0.le w1/\Rel ok0 N w1 (σ.app A.d v up).lk (σ.app A.d v up).lo a' w' L') c h rfl (by simp[Region.wanted]) hd hf hy
  (fun w1 a' w' L' hl hr=>⟨w1,L',hl,hr⟩)
 obtain ⟨a',w',⟨w1,L',hl,hr⟩,_⟩:=this default [] [] [];exact ⟨w1,a',w',L',hl,hr⟩
theorem Qjk {A:Zf} {p:Oper} {σ σ':Fs} (c:Ctx P K ok0 w0) (h:Rel ok0 N w0 σ.lk σ.lo a w L) (hd:Vu N A.d p.dst=true) (hf:A.op.fits P p.op=true)
  (hy:U3 P K A.d σ A.op σ'):∃ a' w' L',Rel ok0 N w0 σ'.lk σ'.lo a' w' L':=by
 have hnd:∀ c,p.op≠.defer c:=fun c e=>by rw[e,Qaa] at hf;cases hf
 have:=J8 (ops:=#[{ p with guard:=none }]) (i:=0) (o:={ p with guard:=none }) (C:=fun a' w'=>∃ L',Rel ok0 N w0 σ'.lk σ'.lo a' w' L') (a:=a) (w:=w) rfl (by simp[Region.wanted]) hnd (Qht (o:={ p with guard:=none }) c h hd hf hy (fun a' w' L' hr=>⟨L',hr⟩));obtain ⟨a',w',⟨L',hr⟩,_⟩:=this default [] [] [];exact ⟨a',w',L',hr⟩
theorem extract {ops:Array Oper} {C:Env->Qm->Prop}:∀ (l:List Zf) (ps:List Oper) (e:Env) (o:Qm) (w0:XH) (c:Ctx P K ok0 w0) (a:Act) (w:World) (L:Nat->Lay),XP P N ops l ps=true ->
  Rel ok0 N w0 (look e) (Qc o) a w L->Qq P K C l e o->∃ e' o',Qr1 P K l (sig e o) (sig e' o')/\C e' o'
 | [],ps,e,o,w0,c,a,w,L,_,_,hh=>⟨e,o,.nil _,hh⟩
 | A::l,[],e,o,w0,c,a,w,L,hf,_,_=>by simp[XP] at hf
 | A::l,p::ps,e,o,w0,c,a,w,L,hf,hr,hh=>by
   simp only[XP,QKI] at hf;obtain ⟨hop,hf⟩:=hf;have hop':=hop;simp only[Vd,QKI] at hop';obtain ⟨⟨hd,hg⟩,hfit⟩:=hop';simp only[Qq] at hh
   have wanted:∀ e1:Env,look e1=look e->Qia P K A.op (fun v up=>Qq P K C l (bnd A.d v e1) (upL up o)) e1 o ->
     (∀ v up,YE P K A.op (sig e o) v up->Yields P K A (sig e o) v up)->∃ e' o',Qr1 P K (A::l) (sig e o) (sig e' o')/\C e' o':=by
    intro e1 he1 h1 hy;have hr1:Rel ok0 N w0 (look e1) (Qc o) a w L:=by rw[he1];exact hr
    obtain ⟨v,up,hgv,hc⟩:=Qna c hr1 hfit h1;have hs1:sig e1 o=sig e o:=by simp[sig,he1]
    rw[hs1] at hgv;obtain ⟨w1,a',w',L',hle,hr'⟩:=Qnt (σ:=sig e o) c hr hd hfit hgv;have hs2:(sig e o).app A.d v up=sig (bnd A.d v e1) (upL up o):=by rw[<- hs1,Qoe]
    rw[hs2] at hr';obtain ⟨e',o',hp,hc'⟩:=extract l ps _ _ w1 (c.le hle) a' w' L' hf hr' hc;exact ⟨e',o',.cons A l _ _ _ (.app v up (hy v up hgv)) (by rw[hs2];exact hp),hc'⟩
   have unwanted:∀ (t:Nat) (b:Bool),A.g=some (t,b)->∀ x:AV,look e t=x->(look e t=.iv (.bool (!b))\/look e t=.iv (.xd []))->Qq P K C l (bnd A.d (.iv (.xd [])) (Qa9 t x e)) o ->
     ∃ e' o',Qr1 P K (A::l) (sig e o) (sig e' o')/\C e' o':=by
    intro t b hag x hx hor hun;have hle:=WW (e:=e) hx;have hs:(sig e o).app A.d (.iv (.xd [])) none=sig (bnd A.d (.iv (.xd [])) (Qa9 t x e)) o:=by
     have:sig e o=sig (Qa9 t x e) o:=by simp[sig,hle]
     rw[this,Qoe];rfl
    obtain ⟨hde,hdlt⟩:=qf hd;have hr':=hr.put p.dst hdlt (x:=.iv (.xd [])) (v:=undef) (.iv _ _ Qb1);rw[<- hde] at hr';have hr2:Rel ok0 N w0 (look (bnd A.d (.iv (.xd [])) (Qa9 t x e))) (Qc o) (a.put A.d undef) w L:=by
     rw[Jp,hle];exact hr'
    obtain ⟨e',o',hp,hc'⟩:=extract l ps _ _ w0 c _ w L hf hr2 hun;exact ⟨e',o',.cons A l _ _ _ (.app (.iv (.xd [])) none (by unfold Yields;rw[hag];exact .inr ⟨hor,rfl,rfl⟩)) (by rw[hs];exact hp),hc'⟩
   have hwant:∀ e1:Env,look e1=look e->(A.g=none\/∃ t b,A.g=some (t,b)/\(sig e o).lk t=.iv (.bool b))->QiD P K A.op A.d (Qq P K C l) e1 o->∃ e' o',Qr1 P K (A::l) (sig e o) (sig e' o')/\C e' o':=by
    intro e1 he1 hag hh;have hse:sig e1 o=sig e o:=by simp[sig,he1]
    obtain ⟨σ',hgv,e',o',hs,hc⟩:∃ σ',U3 P K A.d (sig e o) A.op σ'/\∃ e' o',sig e' o'=σ'/\Qq P K C l e' o':=by
     rw[<- hse];unfold QiD at hh;split at hh
     ·obtain ⟨keep,y',lo',args0,lo0,st,y,lo1,dom,e',o',h1,h2,h3,h4⟩:=QDl hh;rename_i hAop;rw[hAop];refine ⟨_,U3.yx _ _ _ keep y' lo' args0 lo0 st y lo1 dom h1,e',o',?_,h4⟩;simp[sig,h2,h3]
     ·obtain ⟨g,fs,cs,hx,hcal,hh⟩:=hh;obtain ⟨keep,y',lo',args0,lo0,st,y,lo1,dom,e',o',h1,h2,h3,h4⟩:=QDl hh;rename_i hAop;rw[hAop];refine ⟨_,U3.y4 _ g fs cs _ _ keep y' lo' args0 lo0 st y lo1 dom hx hcal h1,e',o',?_,h4⟩;simp[sig,h2,h3]
     exact hh.elim
    obtain ⟨a',w',L',hr'⟩:=Qjk (σ:=sig e o) c hr hd hfit hgv;rw[<- hs] at hr';obtain ⟨e2,o2,hp,hc'⟩:=extract l ps e' o' w0 c a' w' L' hf hr' hc;exact ⟨e2,o2,.cons A l _ _ _ (.h σ' hag hgv) (by rw[<- hs];exact hp),hc'⟩
   split at hh
   ·rename_i hag;split at hh
    ·exact hwant e rfl (.inl hag) hh
    exact wanted e rfl hh (fun v up h=>by unfold Yields;rw[hag];exact h)
   ·rename_i t b hag;unfold Qpl at hh;split at hh
    ·rename_i cb hcb;by_cases hbc:cb=b
     ·subst hbc;have hh1:=hh.1 rfl;dsimp only at hh1;split at hh1
      ·exact hwant _ (WW hcb) (.inr ⟨_,_,hag,hcb⟩) hh1
      exact wanted _ (WW hcb) hh1 (fun v up h=>by unfold Yields;rw[hag];exact .inl ⟨hcb,h⟩)
     have hcb':cb=!b:=by cases cb<;>cases b<;>simp_all
     grind
    all_goals grind
end
def QiY (N:Fm) (d dx:Nat) (x:Opd) (ops:Array Oper):Bool :=
 match ops.toList with
 | [p,q]=>p.dst==some d&&q.dst==some dx&&N.dst d&&N.dst dx&&p.guard.isNone&&q.guard.isNone &&
   (match p.op with | .next y s=>x.is y&&!s | _=>false)&&(match q.op with | .extract (.tmp m) j=>m==d&&j==0 | _=>false)
 | _=>false
section
variable {P:Program} {K:World->Prop} {ok0:Nat->Prop} {N:Fm} {w0:XH} {lk:Nat->AV} {lo:Nat->Option AO} {a:Act} {w:World} {L:Nat->Lay}
theorem QoI {p:Oper} {y:Operand} {x:Opd} {d id:Nat} {kvs:List (MK × IV)} {seen:List Nat} (h:Rel ok0 N w0 lk lo a w L) (hd:p.dst=some d) (hdN:N.dst d=true) (ho:p.op=.next y false) (hx:x.is y=true) (hxv:x.av lk=.yk id) (hid:lo id=some (.yq kvs seen)) :
  ∃ u w' L',(execOp a.eval p).run P w=.ok (.value u) w' /\
   (((∀ i,i<kvs.length->i∈seen)/\Rel ok0 N w0 (Jx lk (some d) (.iv (.xd [.bool false]))) lo (a.put p.dst u) w' L') \/
    ∃ i q,kvs[i]?=some q/\i ∉ seen/\Rel ok0 N w0 (Jx lk (some d) (.iv (.xd [.bool true,q.1.iv,q.2]))) (Za lo id (.yq kvs (i::seen))) (a.put p.dst u) w' L'):=by
 have rx:=Opd.rep h hx;rw[hxv] at rx;obtain ⟨_,b,hL,hv⟩:=QdP hid (Xq id) rx;have hob:=h.y9 _ _ hid;rw[hL] at hob;obtain ⟨hF,r,since,sn,hb,hit⟩:=hob
 have over:(∀ i,i<kvs.length->i∈seen)->(Instr.next (.pointer (some ⟨b,0,none⟩)) false p.type).run P w=.ok (.tuple #[.bool false]) w ->
   ∃ u w' L',(execOp a.eval p).run P w=.ok (.value u) w' /\
   (((∀ i,i<kvs.length->i∈seen)/\Rel ok0 N w0 (Jx lk (some d) (.iv (.xd [.bool false]))) lo (a.put p.dst u) w' L') \/
    ∃ i q,kvs[i]?=some q/\i ∉ seen/\Rel ok0 N w0 (Jx lk (some d) (.iv (.xd [.bool true,q.1.iv,q.2]))) (Za lo id (.yq kvs (i::seen))) (a.put p.dst u) w' L'):=by
  intro xc hrun;refine ⟨.tuple #[.bool false],w,L,by simp[execOp,ho,hv,hrun],.inl ⟨xc,?_⟩⟩;rw[hd];refine h.put (some d) (fun t ht=>by injection ht with ht;subst ht;exact hdN) (.iv _ _ (.xd _ [_] rfl fun k x u hk hu=>?_))
  match k with
  | 0=>simp at hk hu;subst hk hu;exact .bool _
  | k+1=>simp at hk
 cases r with
 | none =>
   have hk:kvs=[]:=hit;subst hk;refine over (fun i hi=>by simp at hi) ?_;have hb':w.heap[b]?=some (.mapIter none since sn since):=hb;simp[Instr.next,getObj,Sem.run,hb']
 | some r =>
   obtain ⟨es,h1,h2,h3,h4,h5,h6⟩:=hit;have hold:∀ x∈es.toList,x.born<since:=fun x hx=>by
    obtain ⟨i,hi⟩:=QLj hx;exact h3.born i x (by simpa using hi)
   have stamp:∀ (i:Nat) (e:MapEntry),es[i]?=some e->(sn.contains e.born=true↔i∈seen):=by
    intro i e he;constructor
    ·intro hc;simp only[Array.contains_iff_mem] at hc;obtain ⟨j,hj⟩:=Array.getElem?_of_mem hc;have hjl:j<seen.reverse.length:=by rw[List.length_reverse,<- h5];exact (QKQ.1 hj).1
     obtain ⟨e',h7,h8⟩:=h6 j _ (QKF hjl);rw[hj] at h8;injection h8 with h8;have:=h3.apart i _ e e' he h7 h8;rw[this,<- List.mem_reverse];exact QKL hjl
    intro hm;rw[<- List.mem_reverse] at hm;obtain ⟨j,hj⟩:=QLj hm;grind
   rcases run_next_at (P:=P) w p.type b r since since sn es since hb h2 hold (QKJ _) with ⟨h7,hrun⟩ | ⟨e,he,w1,hw1,hrun⟩
   ·refine over (fun i hi=>?_) hrun;have hi':i<es.size:=by rw[h3.size];exact hi
    have hel:es[i] ∉ (leftOf es sn).toList:=by
     grind
    simp only[leftOf,Array.mem_toList_iff,Array.mem_filter,Array.getElem_mem,true_and,QLb,Bool.not_eq_false] at hel;exact (stamp i _ (QK7 hi')).1 hel
   ·simp only[leftOf,Array.mem_toList_iff,Array.mem_filter,QLb] at he;obtain ⟨i,hi⟩:=Array.getElem?_of_mem he.1;have hil:i<kvs.length:=by rw[<- h3.size];exact (QKQ.1 hi).1
    have hq:=QKF hil;have hns:i ∉ seen:=fun hm=>by
     have:=(stamp i e hi).2 hm;rw[he.2] at this;cases this
    obtain ⟨k',hk1,hk2⟩:=h3.keys i e hi;rw[hq] at hk1;injection hk1 with hk1;have hw1h:w1.heap=w.heap:=by rcases hw1 with rfl | rfl<;>rfl
    have hblt:b<w.heap.size:=(QKQ.1 hb).1;have hg:Qlj (fun k=>b=k) w (ChangeMaps.setBlock w1 b (.mapIter (some r) since (sn.push e.born) since)):=by
     refine ⟨?_,?_,?_,by simp[ChangeMaps.setBlock,hw1h],fun k _ hn=>by simp[ChangeMaps.setBlock,hw1h,QLN,hn]⟩<;>rcases hw1 with rfl | rfl<;>rfl
    refine ⟨.tuple #[.bool true,e.key,e.val],_,QV L id (.one b),by simp[execOp,ho,hv,hrun];rfl,.inr ⟨i,kvs[i],hq,hns,?_⟩⟩
    have hrel:=h.turnOne (ob':=.yq kvs (i::seen)) hid hL hg (fun ok lo' L' x' v' a1 a2 hx' hr=>by
     grind) (fun ok lo' L' hok _=>by
     have hrne:r≠b:=fun e=>by rw[e,hb] at h2;cases h2
     refine ⟨hF,some r,since,sn.push e.born,by simp[ChangeMaps.setBlock,hw1h,hblt],es,(hok r h1 (QKQ.1 h2).1).1,(hok r h1 (QKQ.1 h2).1).2.trans h2,h3,fun i e p a1 a2=>(h4 i e p a1 a2).mono fun b' hb' xa=>hok b' hb' xa,by simp[h5],fun j x hj=>?_⟩;rw[List.reverse_cons,List.getElem?_append] at hj;rw[QL6];split at hj
     ·grind
     grind)
    rw[hd];refine hrel.put (some d) (fun t ht=>by injection ht with ht;subst ht;exact hdN) (.iv _ _ (.xd _ [_,_,_] rfl fun k x u hk hu=>?_))
    match k with
    | 0=>simp at hk hu;subst hk hu;exact .bool _
    | 1=>simp at hk hu;subst hk hu;rw[hk2,<- hk1];exact Qot _ _ _
    | 2 =>
      simp at hk hu;subst hk hu;refine (h4 i e kvs[i] hi hq).mono fun b' hb' xa=>⟨h.okL_turn hid (fun k hk=>.inl (by rw[hL];exact hk)) hb' xa,hg.block b' xa fun e=>?_⟩;subst e;exact hb'.2 id _ hid (by rw[hL];rfl)
    | k+3=>simp at hk
theorem QoE {ops:Array Oper} {d dx cid id:Nat} {x:Opd} {kvs:List (MK × IV)} {seen:List Nat} {Q:Act->World->Prop} (c:Ctx P K ok0 w0) (h:Rel ok0 N w0 lk lo a w L) (hf:QiY N d dx x ops=true) (hxv:x.av lk=.yk id) (hid:lo id=some (.yq kvs seen))
  (hend:(∀ i,i<kvs.length->i∈seen)->∀ a' w' L',Rel ok0 N w0 (Jx (Jx lk (some d) (.iv (.xd [.bool false]))) (some dx) (.iv (.bool false))) lo a' w' L'->Q a' w')
  (hmore:∀ i q,kvs[i]?=some q->i ∉ seen->∀ a' w' L',Rel ok0 N w0 (Jx (Jx lk (some d) (.iv (.xd [.bool true,q.1.iv,q.2]))) (some dx) (.iv (.bool true))) (Za lo id (.yq kvs (i::seen))) a' w' L'->Q a' w')
  (b:Frame) (k:List Item) (cs:List Frame):∃ a' w',Q a' w'/\Steps P (lone (b.atR a (.code (.region cid ops false)::k)) cs w) (lone (b.atR a' k) cs w'):=by
 unfold QiY at hf;split at hf
 ·rename_i p q hops;simp only[QKI,beq_iff_eq,Option.isNone_iff_eq_none] at hf;obtain ⟨⟨⟨⟨⟨⟨⟨hpd,hqd⟩,hdN⟩,hdxN⟩,hpg⟩,hqg⟩,hp⟩,hq⟩:=hf;have hops':ops=#[p,q]:=by rw[<- Array.toList_inj];exact hops
  subst hops';split at hp
  ·rename_i y s hpo;simp only[QKI,QLb] at hp;obtain ⟨hx,rfl⟩:=hp;split at hq
   ·rename_i m j hqo;simp only[QKI,beq_iff_eq] at hq;obtain ⟨rfl,rfl⟩:=hq;refine QgS (Q:=Q) ?_ b k cs;have hr2:List.range (#[p,q]:Array Oper).size=[0,1]:=rfl;rw[hr2];obtain ⟨u,w1,L1,hrun,hor⟩:=QoI (P:=P) h hpd hdN hpo hx hxv hid;have w1t:Region.wanted p (yielded #[p,q] a.tmps)=true:=by simp[Region.wanted,hpg]
    simp only[QaW];refine J8 (o:=p) rfl w1t (fun c e=>by rw[hpo] at e;cases e) ?_;unfold Oper.wp;rw[hrun];simp only[Oper.upon];have w2t:Region.wanted q (yielded #[p,q] (a.put p.dst u).tmps)=true:=by simp[Region.wanted,hqg]
    refine J8 (o:=q) rfl w2t (fun c e=>by rw[hqo] at e;cases e) ?_
    have ext:∀ (lk1:Nat->AV) (lo1:Nat->Option AO) (cs:List IV) (bv:Bool),Rel ok0 N w0 (Jx lk1 (some m) (.iv (.xd (.bool bv::cs)))) lo1 (a.put p.dst u) w1 L1 ->
      (∀ a' w' L',Rel ok0 N w0 (Jx (Jx lk1 (some m) (.iv (.xd (.bool bv::cs)))) (some dx) (.iv (.bool bv))) lo1 a' w' L'->Q a' w') ->
      q.wp P (a.put p.dst u) w1 Q (fun _ _ _=>False):=by
     intro lk1 lo1 cs bv hr hQ
     exact Qmc (A:=⟨some dx,none,.ext (.t m) 0⟩) (σ:=⟨Jx lk1 (some m) (.iv (.xd (.bool bv::cs))),lo1⟩) (v:=.iv (.bool bv)) (up:=none) c hr (by simp[Vu,hqd,hdxN]) (by simp[AOp.fits,hqo,QDH,Opd.is,Opd.isTmp])
      (.plain _ _ True True _ _ (by simp[ev,Opd.av,Jx,QnF]) trivial) rfl (fun a' w' L' h=>hQ a' w' L' h)
    grind
   cases hq
  cases hp
 ·cases hf
theorem QCe {id bid off e sz cs} (h:Rel ok0 N w0 lk lo a w L) (hid:lo id=none) (hb:lo bid=some (.box cs)) (hc:cs[off]?=some (.ym sz)) :
  ∃ L',Rel ok0 N w0 lk (Za (Za lo id (.arr e sz [] 0)) bid (.box (cs.set off (.yl id 0)))) a w L':=by
 have hne:bid≠id:=fun e=>by rw[e,hid] at hb;cases hb
 have h1:=h.new id hid (.arr e sz [] 0) (.arr (.slice none 0 0) []) (Below.refl _ w) (fun b hb=>by simp[Lay.has,Value.ownBlock] at hb)
  ⟨⟨⟨by simp,.inl ⟨rfl,rfl⟩⟩,fun b hb=>by simp[Value.ownBlock] at hb⟩,QKJ _,by simp,by simp,by simp⟩
 have hb1:Za lo id (.arr e sz [] 0) bid=some (.box cs):=by simp[Za,hne,hb]
 have hob:=h1.y9 _ _ hb1
 have hok:∀ k,okL ok0 (Za lo id (.arr e sz [] 0)) (QV L id (.arr (.slice none 0 0) [])) k->k<w.heap.size->okL ok0 (Za (Za lo id (.arr e sz [] 0)) bid (.box (cs.set off (.yl id 0)))) (QV (QV L id (.arr (.slice none 0 0) [])) bid (QV L id (.arr (.slice none 0 0) []) bid)) k :=
  fun k hk xa=>h1.okL_turn hb1 (fun b hb=>.inl hb) hk xa
 refine ⟨_,h1.turn (o':=.box (cs.set off (.yl id 0))) (l':=QV L id (.arr (.slice none 0 0) []) bid) bid hb1 ⟨rfl,rfl,rfl,QKJ _,fun _ _ _=>rfl⟩ (fun b hb=>.inl hb) (fun z u hz hu=>?_) (fun all=>?_)⟩
 ·cases hu with
  | _=>grind
 revert hob all
 generalize QV L id (.arr (.slice none 0 0) []) bid=l;intro hob all;cases l with
 | box b =>
   obtain ⟨hB,t,vs,hbk,hl,h1',hx⟩:=hob;refine ⟨hB,t,vs,hbk,by rw[List.length_set];exact hl,h1',fun k x u hk hu=>?_⟩;rw[QL2] at hk;split at hk
   ·rename_i hko;subst hko;have hk':x=.yl id 0:=by
     grind
    subst hk';have hu':u=.slice none 0 0:=by
     have:=hx off _ u hc hu;cases this;rfl
    subst hu';exact .yl id e sz [] 0 (.slice none 0 0) [] (by simp[Za,Ne.symm hne]) (by simp[QV,Ne.symm hne]) rfl
   exact all _ _ (hx k x u hk hu)
 | _=>exact hob.elim
end
inductive AC where
 | skip
 | ops (l:List Zf) (draw:Bool)
 | seq (x y:AC)
 | cond (c:Opd) (x y:AC)
 | block (id:Nat) (c:AC)
 | loop (c:AC) (ks ids:List Nat)
 | exit (id:Nat)
 | scope (c:AC)
 | label (l:Nat)
 | ret
 | nxt (d dx:Nat) (x:Opd) (id:Nat)
 | gh (id bid off:Nat) (e:TypeId) (sz:Nat) (c:AC)
 | frz (t id:Nat) (ks ids:List Nat) (c:AC)
 | range (f:Opd) (ps:List Nat) (asn body:AC) (ks ids:List Nat)
 | fz (ks ids:List Nat) (c:AC)
 deriving Inhabited
inductive Way where
 | fall
 | ret
 | exit (id:Nat)
 deriving DecidableEq
inductive AI where
 | code (c:AC)
 | inBlock (id:Nat)
 | inLoop (c:AC) (ks ids:List Nat)
 | inScope
inductive Qdt where
 | tmp (t:Nat)
 | cell (t n:Nat) (ag:Bool)
def Qs (P:Program) (N:Fm):AC->Code->Bool
 | .gh _ _ _ _ _ c,c'=>Qs P N c c'
 | .frz _ _ _ _ c,c'=>Qs P N c c'
 | .fz _ _ c,c'=>Qs P N c c'
 | .range f ps x y ks _,.rangeFunc f' ps' x' y'=>f.is f'&&ps==ps'.toList&&ps.all (fun p=>decide (p<N.n)&&!ks.contains p)&&Qs P ⟨N.n,ks⟩ x x'&&Qs P ⟨N.n,ks⟩ y y'
 | .nxt d dx x _,.region _ ops d'=>!d'&&QiY N d dx x ops
 | .skip,.skip=>true
 | .ops l d,.region _ ops d'=>d==d'&&Uz P N l ops d
 | .seq x y,.seq x' y'=>Qs P N x x'&&Qs P N y y'
 | .cond c x y,.cond c' x' y'=>c.is c'&&Qs P N x x'&&Qs P N y y'
 | .block id c,.block id' c'=>id==id'&&Qs P N c c'
 | .loop c _ _,.loop c'=>Qs P N c c'
 | .exit id,.exit id'=>id==id'
 | .scope c,.scope c'=>Qs P N c c'
 | .label l,.label l'=>l==l'
 | .ret,.ret=>true
 | _,_=>false
def Ug (id:Nat):List AI->Option (List AI)
 | .inBlock id'::k=>if id'==id then some k else Ug id k
 | _::k=>Ug id k
 | []=>none
def Q5 (ks ids:List Nat) (e:Env):Env:=ks.map fun t=>(t,scr ids (look e t))
def ZR (all:List Nat) (o:Qm):List Nat->Qm
 | []=>[]
 | id::r=>match Qc o id with
   | some x=>(id,QdL all x)::ZR all o r
   | none=>ZR all o r
def Qsw (ids:List Nat) (o:Qm):Nat->Option AO:=fun i=>if ids.contains i then none else Qc o i
def Qr7 (lod:Nat->Option AO) (ids:List Nat) (x:AV):AV:=match imm lod 40 x with
 | some y=>.iv y
 | none=>scr ids x
def Qoa (lod:Nat->Option AO) (ids:List Nat):List AV->List AV
 | []=>[]
 | x::r=>Qr7 lod ids x::Qoa lod ids r
def Qvn (lod:Nat->Option AO) (ids:List Nat):AO->AO
 | .box cs=>.box (Qoa lod ids cs)
 | .arr e sz es mv=>.arr e sz (es.map (Qoa lod ids)) mv
 | o=>o
def Qvo (lod:Nat->Option AO) (ks ids:List Nat) (e:Env):Env:=match ks with
 | []=>[]
 | t::r=>(t,Qr7 lod ids (look e t))::Qvo lod r ids e
def qC (lod:Nat->Option AO) (all:List Nat) (o:Qm):List Nat->Qm
 | []=>[]
 | id::r=>match Qc o id with
   | some x=>(id,Qvn lod all x)::qC lod all o r
   | none=>qC lod all o r
def QDw (e:Env) (o:Qm):Qdt->Option IV
 | .tmp t=>imm (Qc o) 40 (look e t)
 | .cell t n ag=>match look e t with
   | .loc id off=>match Qc o id with
     | some (.box cs)=>match ag with
       | true=>if off+n<=cs.length then (imms (Qc o) 40 ((cs.drop off).take n)).map .agg else none
       | false=>if n=1 then (match cs[off]? with | some c=>imm (Qc o) 40 c | none=>none) else none
     | _=>none
   | _=>none
def Qnd (e:Env) (o:Qm):List Qdt->Option (List IV)
 | []=>some []
 | x::r=>match QDw e o x,Qnd e o r with
   | some y,some ys=>some (y::ys)
   | _,_=>none
def QwQ (res:List Qdt) (e:Env) (o:Qm):Option IV :=
 match Qnd e o res with
 | some [x]=>some x
 | some xs=>some (.xd xs)
 | none=>none
def QY (P:Program):List Qdt->List ResultVar->Bool
 | [],[]=>true
 | .tmp t::r,.tmp t'::s=>t==t'&&QY P r s
 | .cell t n ag::r,.cell t' T::s=>t==t'&&Program.agg P T==some ag&&Program.sizeIs P T n&&QY P r s
 | _,_=>false
def Qaf:List Nat->List IV->Env->Env
 | p::ps,x::xs,e=>Qaf ps xs ((p,.iv x)::e)
 | _,_,e=>e
def QfI:AV->Option (FuncId × List IV × List IV)
 | .iv (.fn g)=>some (g,[],[])
 | .iv (.clo g fs cs)=>some (g,fs,cs)
 | _=>none
def Way.jump:Way->Option AC
 | .fall=>none
 | .ret=>some .ret
 | .exit id=>some (.exit id)
def Qjb (wy:Way) (k:List AI):List AI :=
 match wy.jump with
 | none=>k
 | some c=>.code c::k
inductive WpF (P:Program) (K:World->Prop):(Way->Env->Qm->Prop)->List AI->Env->Qm->Prop
 | skip (F:Way->Env->Qm->Prop) (k:List AI) (e:Env) (o:Qm) (h:WpF P K F k e o):WpF P K F (.code .skip::k) e o
 | region (F:Way->Env->Qm->Prop) (l:List Zf) (draw:Bool) (k:List AI) (e:Env) (o:Qm) (C:Env->Qm->Prop) (h:Qq P K C l e o) (hC:∀ e o,C e o->WpF P K F k e o):WpF P K F (.code (.ops l draw)::k) e o
 | seq (F:Way->Env->Qm->Prop) (x y:AC) (k:List AI) (e:Env) (o:Qm) (h:WpF P K F (.code x::.code y::k) e o):WpF P K F (.code (.seq x y)::k) e o
 | cond (F:Way->Env->Qm->Prop) (c:Opd) (x y:AC) (k:List AI) (e:Env) (o:Qm) (b:Bool) (hc:c.av (look e)=.iv (.bool b)) (ht:b=true->WpF P K F (.code x::k) e o) (hf:b=false->WpF P K F (.code y::k) e o) :
   WpF P K F (.code (.cond c x y)::k) e o
 | block (F:Way->Env->Qm->Prop) (id:Nat) (c:AC) (k:List AI) (e:Env) (o:Qm) (h:WpF P K F (.code c::.inBlock id::k) e o):WpF P K F (.code (.block id c)::k) e o
 | inBlock (F:Way->Env->Qm->Prop) (id:Nat) (k:List AI) (e:Env) (o:Qm) (h:WpF P K F k e o):WpF P K F (.inBlock id::k) e o
 | loop (F:Way->Env->Qm->Prop) (c:AC) (ks ids:List Nat) (k:List AI) (e:Env) (o:Qm) (h:WpF P K F (.code c::.inLoop c ks ids::k) (Q5 ks ids e) (ZR ids o ids)):WpF P K F (.code (.loop c ks ids)::k) e o
 | inLoop (F:Way->Env->Qm->Prop) (c:AC) (ks ids:List Nat) (k:List AI) (e:Env) (o:Qm) (h:WpF P K F (.code c::.inLoop c ks ids::k) (Q5 ks ids e) (ZR ids o ids)):WpF P K F (.inLoop c ks ids::k) e o
 | scope (F:Way->Env->Qm->Prop) (c:AC) (k:List AI) (e:Env) (o:Qm) (h:WpF P K F (.code c::.inScope::k) e o):WpF P K F (.code (.scope c)::k) e o
 | inScope (F:Way->Env->Qm->Prop) (k:List AI) (e:Env) (o:Qm) (h:WpF P K F k e o):WpF P K F (.inScope::k) e o
 | label (F:Way->Env->Qm->Prop) (l:Nat) (k:List AI) (e:Env) (o:Qm) (h:WpF P K F k e o):WpF P K F (.code (.label l)::k) e o
 | exit (F:Way->Env->Qm->Prop) (id:Nat) (k k':List AI) (e:Env) (o:Qm) (hk:Ug id k=some k') (h:WpF P K F k' e o):WpF P K F (.code (.exit id)::k) e o
 | nxt (F:Way->Env->Qm->Prop) (d dx:Nat) (x:Opd) (id:Nat) (k:List AI) (e:Env) (o:Qm) (kvs:List (MK × IV)) (seen:List Nat) (hx:x.av (look e)=.yk id) (ho:Qc o id=some (.yq kvs seen))
   (hend:(∀ i,i<kvs.length->i∈seen)->WpF P K F k (bnd (some dx) (.iv (.bool false)) (bnd (some d) (.iv (.xd [.bool false])) e)) o)
   (hmore:∀ i q,kvs[i]?=some q->i ∉ seen->WpF P K F k (bnd (some dx) (.iv (.bool true)) (bnd (some d) (.iv (.xd [.bool true,q.1.iv,q.2])) e)) (Yu id (.yq kvs (i::seen)) o)):WpF P K F (.code (.nxt d dx x id)::k) e o
 | gh (F:Way->Env->Qm->Prop) (id bid off:Nat) (t:TypeId) (sz:Nat) (c:AC) (k:List AI) (e:Env) (o:Qm) (cs:List AV) (hid:Qc o id=none) (hb:Qc o bid=some (.box cs)) (hc:cs[off]?=some (.ym sz))
   (h:WpF P K F (.code c::k) e (Yu bid (.box (cs.set off (.yl id 0))) (Yu id (.arr t sz [] 0) o))):WpF P K F (.code (.gh id bid off t sz c)::k) e o
 | ret (F:Way->Env->Qm->Prop) (k:List AI) (e:Env) (o:Qm) (h:F .ret e o):WpF P K F (.code .ret::k) e o
 | done (F:Way->Env->Qm->Prop) (e:Env) (o:Qm) (h:F .fall e o):WpF P K F [] e o
 | exitOut (F:Way->Env->Qm->Prop) (id:Nat) (k:List AI) (e:Env) (o:Qm) (hk:Ug id k=none) (h:F (.exit id) e o):WpF P K F (.code (.exit id)::k) e o
 | frz (F:Way->Env->Qm->Prop) (t id:Nat) (ks ids:List Nat) (c:AC) (k:List AI) (e:Env) (o:Qm) (cs:List AV) (xs:List IV) (ht:look e t=.loc id 0) (hb:Qc o id=some (.box cs)) (hc:ivs cs=some xs) (hn:ids.contains id=false)
   (h:WpF P K F (.code c::k) (bnd (some t) (.iv (.ptr xs)) (Q5 ks ids e)) (ZR ids o ids)):WpF P K F (.code (.frz t id ks ids c)::k) e o
 | range (F:Way->Env->Qm->Prop) (f:Opd) (ps:List Nat) (asn body:AC) (ks ids:List Nat) (k:List AI) (e:Env) (o:Qm) (g:FuncId) (fs cs:List IV) (L:List (List IV)) (St:Nat->Qm) (Wy:Nat->Way) (m:Nat) (M:Nat->Env->Qm->Prop)
   (hf:QfI (f.av (look e))=some (g,fs,cs)) (hc:callee P g=true) (hit:qv P K g fs cs L) (h0:St 0=ZR ids o ids) (hm:m<=L.length) (xc:∀ i,i+1<m->Wy i=.fall) (hend:m=L.length\/(0<m/\Wy (m-1)≠.fall))
   (hlen:∀ i x,i<m->L[i]?=some x->x.length=ps.length)
   (h1:∀ i x,i<m->L[i]?=some x->WpF P K (fun wy e1 o1=>wy=.fall/\M i e1 o1) [.code asn] (Qaf ps x (Q5 ks ids e)) (St i))
   (h2:∀ i e1 o1,i<m->M i e1 o1->WpF P K (fun wy e2 o2=>wy=Wy i/\Q5 ks ids e2=Q5 ks ids e/\ZR ids o2 ids=St (i+1)) [.code body] e1 o1)
   (h3:WpF P K F (Qjb (if m=0 then .fall else Wy (m-1)) k) (Q5 ks ids e) (St m)):WpF P K F (.code (.range f ps asn body ks ids)::k) e o
 | fz (F:Way->Env->Qm->Prop) (ks ids:List Nat) (c:AC) (k:List AI) (e:Env) (o:Qm)
   (h:WpF P K F (.code c::k) (Qvo (Qsw ids o) ks ids e) (qC (Qsw ids o) ids o ids)):WpF P K F (.code (.fz ks ids c)::k) e o
 | rangeS (F:Way->Env->Qm->Prop) (f:Opd) (ps:List Nat) (asn body:AC) (ks ids:List Nat) (k:List AI) (e:Env) (o:Qm) (g:FuncId) (fs cs:List IV) (S:List (List IV)->Prop) (St:List (List IV)->Qm) (M:List (List IV)->Env->Qm->Prop)
   (hf:QfI (f.av (look e))=some (g,fs,cs)) (hc:callee P g=true) (hit:QrW P K g fs cs S) (h0:St []=ZR ids o ids)
   (hlen:∀ p x,Beg S (p++[x])->x.length=ps.length)
   (h1:∀ p x,Beg S (p++[x])->WpF P K (fun wy e1 o1=>wy=.fall/\M (p++[x]) e1 o1) [.code asn] (Qaf ps x (Q5 ks ids e)) (St p))
   (h2:∀ p x e1 o1,Beg S (p++[x])->M (p++[x]) e1 o1->WpF P K (fun wy e2 o2=>wy=.fall/\Q5 ks ids e2=Q5 ks ids e/\ZR ids o2 ids=St (p++[x])) [.code body] e1 o1)
   (h3:∀ Lx,S Lx->WpF P K F k (Q5 ks ids e) (St Lx)):WpF P K F (.code (.range f ps asn body ks ids)::k) e o
def QnU (res:List Qdt) (r:IV) (e:Env) (o:Qm):Prop:=QwQ res e o=some r
inductive Fit (P:Program) (N:Fm) (tl:List Item):List AI->List Item->Prop
 | nil:Fit P N tl [] tl
 | code (c:AC) (c':Code) (k:List AI) (k':List Item) (h:Qs P N c c'=true) (hk:Fit P N tl k k'):Fit P N tl (.code c::k) (.code c'::k')
 | inBlock (id:Nat) (k:List AI) (k':List Item) (hk:Fit P N tl k k'):Fit P N tl (.inBlock id::k) (.inBlock id::k')
 | inScope (c':Code) (k:List AI) (k':List Item) (hk:Fit P N tl k k'):Fit P N tl (.inScope::k) (.inScope c'::k')
 | inLoop (c:AC) (c':Code) (ks ids:List Nat) (k:List AI) (k':List Item) (h:Qs P N c c'=true) (hk:Fit P N tl k k'):Fit P N tl (.inLoop c ks ids::k) (.inLoop c'::k')
theorem Fit.exit {P:Program} {N:Fm} {tl:List Item} {id:Nat} {k:List AI} {k':List Item} (h:Fit P N tl k k'):∀ {j:List AI},Ug id k=some j->∃ j',exitTo id k'=some j'/\Fit P N tl j j':=by
 induction h with
 | nil=>intro j hj;simp[Ug] at hj
 | code c c' k k' h hk ih=>intro j hj;simp only[Ug] at hj;simp only[exitTo];exact ih hj
 | inBlock id' k k' hk ih =>
   intro j hj;simp only[Ug] at hj;simp only[exitTo];grind
 | inScope c' k k' hk ih=>intro j hj;simp only[Ug] at hj;simp only[exitTo];exact ih hj
 | inLoop c c' ks ids k k' h hk ih=>intro j hj;simp only[Ug] at hj;simp only[exitTo];exact ih hj
theorem Fit.exitOut {P:Program} {N:Fm} {tl:List Item} {id:Nat} (htl:exitTo id tl=none) {k:List AI} {k':List Item} (h:Fit P N tl k k') (hj:Ug id k=none):exitTo id k'=none:=by
 induction h with
 | nil=>exact htl
 | code c c' k k' h hk ih=>simp only[Ug] at hj;simp only[exitTo];exact ih hj
 | inBlock id' k k' hk ih =>
   simp only[Ug] at hj;simp only[exitTo];grind
 | inScope c' k k' hk ih=>simp only[Ug] at hj;simp only[exitTo];exact ih hj
 | inLoop c c' ks ids k k' h hk ih=>simp only[Ug] at hj;simp only[exitTo];exact ih hj
def Reach (P:Program) (f:FuncId) (cs:List Frame) (m:Machine) (R:Value->World->Prop):Prop :=
 ∃ w' fr v,Steps P m (lone fr cs w')/\fr.fn=f/\fr.leaving P w' (.returned v)/\R v w'
theorem Reach.steps {P f cs m m' R} (h:Steps P m m') (hr:Reach P f cs m' R):Reach P f cs m R :=
 let ⟨w',fr,v,h1,h2⟩:=hr
 ⟨w',fr,v,h.trans h1,h2⟩
section
variable {P:Program} {K:World->Prop} {ok0:Nat->Prop} {N:Fm} {w0:XH} {a:Act} {w:World} {L:Nat->Lay}
theorem Qoi {ok ok' lo lo' ids} (hok:∀ b,ok b->ok' b) (xb:∀ id o,ids.contains id=true->lo id=some o->lo' id=some (QdL ids o)) {x v} (h:QA ok w lo L x v):QA ok' w lo' L (scr ids x) v:=by
 induction h with
 | iv x v h=>simp only[scr];exact .iv _ _ (h.mono fun b hb _=>⟨hok b hb,rfl⟩)
 | zsl sz rs v h hz=>simp only[scr];exact .zsl _ _ _ h (hz.mono fun b hb _=>⟨hok b hb,rfl⟩)
 | yk id b o ho hn hL =>
   simp only[scr];split
   ·cases o<;>cases hn<;>grind [QdL]
   exact .iv _ _ (.any _)
 | _ =>
   simp only[scr]
   try split
   all_goals first | exact .iv _ _ (.any _) | grind [QdL,WK,VS]
theorem QdY (ids e):∀ ks t,look (Q5 ks ids e) t=.iv .any\/look (Q5 ks ids e) t=scr ids (look e t)
 | [],t=>.inl rfl
 | k::r,t=>by
   simp only[Q5,QKZ,look];split
   ·rename_i h;subst h;exact .inr rfl
   ·exact QdY ids e r t
theorem Xz (all o):∀ l id,Qc (ZR all o l) id=if l.contains id then (Qc o id).map (QdL all) else none
 | [],id=>by simp[ZR,Qc]
 | i::r,id=>by
   simp only[ZR];split
   ·rename_i x hx;simp only[Qc,Xz all o r id];by_cases h:id=i
    ·subst h;simp[hx]
    simp[h]
   ·rename_i hx;rw[Xz all o r id];by_cases h:id=i
    ·subst h;simp[hx]
    ·simp[h]
theorem Rel.keep {e o} (h:Rel ok0 N w0 (look e) (Qc o) a w L) (ks ids):Rel ok0 N w0 (look (Q5 ks ids e)) (Qc (ZR ids o ids)) a w L:=by
 have xb:∀ id ob,ids.contains id=true->Qc o id=some ob->Qc (ZR ids o ids) id=some (QdL ids ob):=by
  intro id ob hc hob;rw[Xz,if_pos hc,hob];rfl
 have hinv:∀ id ob,Qc (ZR ids o ids) id=some ob->∃ ob0,Qc o id=some ob0/\ob=QdL ids ob0:=by
  intro id ob hob;rw[Xz] at hob;split at hob
  ·cases hq:Qc o id with
   | _=>grind
  cases hob
 have hok:∀ b,okL ok0 (Qc o) L b->okL ok0 (Qc (ZR ids o ids)) L b:=fun b hb =>
  ⟨hb.1,fun id ob hob=>by obtain ⟨q,hq,_⟩:=hinv id ob hob;exact hb.2 id q hq⟩
 refine ⟨h.below,h.defers.stay (fun _ _ _=>rfl) (fun r _ hn i oi hi=>by obtain ⟨q,hq,_⟩:=hinv i oi hi;exact hn i q hq),h.size,fun t=>?_,fun id ob hob=>?_,fun i j oi oj b hij hi hj=>?_,h.pin⟩
 ·rcases QdY ids e ks t with hq | hq
  ·rw[hq];exact .iv _ _ (.any _)
  rw[hq];exact Qoi hok xb (h.env t)
 ·obtain ⟨q,hq,rfl⟩:=hinv id ob hob;exact Qgw ⟨rfl,rfl,rfl,QKJ _⟩ (fun b hb _=>⟨hok b hb,rfl⟩) (fun b hb=>⟨((h.y9 id q hq).lt hb).1,rfl⟩) (fun b h1 h2=>⟨h1,hok b h2,rfl⟩) (fun x v hx=>Qoi hok xb hx) (h.y9 id q hq)
 ·obtain ⟨p,hp,_⟩:=hinv i oi hi;obtain ⟨q,hq,_⟩:=hinv j oj hj;exact h.apart i j p q b hij hp hq
end
def Qc7 (b:Frame) (w0:XH):Prop:=∀ l,b.roundOf=some l->w0.fr l/\∃ r,w0.w.heap[l]?=some (.loop r)
theorem Qc7.le {b w0 w1} (h:Qc7 b w0) (hl:w0.le w1):Qc7 b w1:=fun l hb=>by
 obtain ⟨h1,r,h2⟩:=h l hb;exact ⟨hl.fr l h1,r,(hl.keep.block l h1).trans h2⟩
def QDo (tl:List Item):Way->List Item->Prop
 | .fall,k=>k=tl
 | .ret,k=>∃ k1,k=.code .ret::k1
 | .exit id,k=>∃ k1,k=.code (.exit id)::k1/\exitTo id k1=none
def Ends (P:Program) (F:Way->Env->Qm->Prop) (b:Frame) (cs:List Frame) (tl:List Item) (N:Fm) (ok0:Nat->Prop) (w0:XH) (m:Machine):Prop :=
 ∃ wy e o a w w1 L k,F wy e o/\w0.le w1/\Rel ok0 N w1 (look e) (Qc o) a w L/\QDo tl wy k/\Steps P m (lone (b.atR a k) cs w)
theorem Ends.steps {P F b cs tl N ok0 w0 w1 m m'} (hs:Steps P m m') (hl:w0.le w1) (h:Ends P F b cs tl N ok0 w1 m'):Ends P F b cs tl N ok0 w0 m:=by
 obtain ⟨wy,e,o,a,w,w2,L,k,h1,h2,h3,h4,h5⟩:=h;exact ⟨wy,e,o,a,w,w2,L,k,h1,hl.trans h2,h3,h4,hs.trans h5⟩
def Un (P:Program) (K:World->Prop) (F:Way->Env->Qm->Prop) (k:List AI) (e:Env) (o:Qm):Prop :=
 ∀ (b cs tl) (_:∀ id,exitTo id tl=none) (N ok0 w0) (_:Ctx P K ok0 w0) (_:Qc7 b w0) (k' a w L),
  Fit P N tl k k'->Rel ok0 N w0 (look e) (Qc o) a w L->Ends P F b cs tl N ok0 w0 (lone (b.atR a k') cs w)
theorem Below.trans' {n a b c} (h:Below n a b) (k:Below b.heap.size b c) (hn:n<=b.heap.size):Below n a c :=
 ⟨k.os.trans h.os,k.tape.trans h.tape,k.output.trans h.output,QLv h.size k.size,fun i hi=>(k.block i (QLn hi hn)).trans (h.block i hi)⟩
section
variable {P:Program} {K:World->Prop} {ok0:Nat->Prop} {N:Fm} {w0:XH} {lk:Nat->AV} {lo:Nat->Option AO} {a:Act} {w:World} {L:Nat->Lay} {b:Frame}
theorem Rel.redefer {ds} (h:Rel ok0 N w0 lk lo a w L) (hd:Qa2 w0.fr lo L w ds):Rel ok0 N w0 lk lo { a with defers:=ds } w L :=
 ⟨h.below,hd,h.size,h.env,h.y9,h.apart,h.pin⟩
theorem QhJ (hro:Qc7 b w0) (h:Rel ok0 N w0 lk lo a w L) (ps:Array Tmp) (assign body) :
  ∃ (l:Nat) (mk:List Deferred) (w2:World) (r:Loop),(Instr.enterLoop b.fn a.tmps ps assign body b.roundOf).run P w=.ok (l,mk) w2/\Below w.heap.size w w2/\w.heap.size<=l/\w2.heap[l]?=some (.loop r) /\
   (r.fn=b.fn/\r.tmps=a.tmps/\r.params=ps/\r.assign=assign/\r.body=body/\r.state=.ready/\r.pending=none) /\
   Rel ok0 N w0 lk lo { a with defers:=mk++a.defers } w2 L/\mark l ∉ mk++a.defers:=by
 have old:∀ x,mark x∈a.defers->x<w.heap.size:=by
  intro x hx;obtain ⟨rs,h1,h2,h3⟩:=h.defers;rw[h1] at hx;obtain ⟨y,hy,he⟩:=QKT.1 hx;have:y=x:=by injection he with he;injection he
  subst this;exact (QKQ.1 (h3 y hy).1).1
 cases hb:b.roundOf with
 | none =>
   let w1:=w.alloc (.deferred (some []))
   let r:Loop:={ state:=.ready,pending:=none,fn:=b.fn,tmps:=a.tmps,params:=ps,assign,body,defers:=w.heap.size }
   have hb1:Below w.heap.size w w1:=QB w _;have hs1:w1.heap.size=w.heap.size+1:=World.size_alloc ..;have hb2:Below w.heap.size w (w1.alloc (.loop r)):=Below.trans' hb1 (QB w1 _) hb1.size;refine ⟨w.heap.size+1,[mark w.heap.size],w1.alloc (.loop r),r,run_enterLoop_outer _ _ _ _ _,hb2,Nat.le_succ _,?_,⟨rfl,rfl,rfl,rfl,rfl,rfl,rfl⟩,?_,?_⟩
   ·rw[<- hs1];exact World.alloc_heap_new w1 _
   ·have hr:=h.ext hb2;refine hr.redefer ?_;obtain ⟨rs,h1,h2,h3⟩:=hr.defers;refine ⟨w.heap.size::rs,by rw[h1];rfl,QMb.2 ⟨fun hm=>?_,h2⟩,fun x hx=>?_⟩
    ·have:=old w.heap.size (by rw[h1];exact QKT.2 ⟨_,hm,rfl⟩);omega
    rcases QKU.1 hx with rfl | hx
    ·refine ⟨?_,h.frlt (QKJ _),fun id o ho hbad=>?_⟩
     ·have h4:=(QB w1 (.loop r)).block w.heap.size (by omega);rw[h4];exact World.alloc_heap_new w _
     have:=((h.y9 id o ho).lt hbad).2;omega
    exact h3 x hx
   intro hm;rcases QK2.1 hm with hm | hm
   ·simp[mark] at hm
   have:=old _ hm;omega
 | some l0 =>
   obtain ⟨hf0,r0,hr0⟩:=hro l0 hb;have hr0':w.heap[l0]?=some (.loop r0):=(h.below.block l0 hf0).trans hr0
   let r:Loop:={ state:=.ready,pending:=none,fn:=b.fn,tmps:=a.tmps,params:=ps,assign,body,defers:=r0.defers }
   have hb1:Below w.heap.size w (w.alloc (.loop r)):=QB w _;refine ⟨w.heap.size,[],w.alloc (.loop r),r,?_,hb1,QKJ _,World.alloc_heap_new w _,⟨rfl,rfl,rfl,rfl,rfl,rfl,rfl⟩,h.ext hb1,fun hm=>?_⟩
   ·unfold Instr.enterLoop;simp only[Sem.run_bind,run_getLoop hr0',run_newObj_alloc,Result.andThen,Sem.run_pure];rfl
   ·have:=old _ hm;omega
theorem QoS (p x e):look ((p,x)::e)=Jx (look e) (some p) x:=rfl
theorem Rel.params:∀ ps xs vs e a,Rel ok0 N w0 (look e) lo a w L->(∀ p∈ps,N.dst p=true)->vs.length=xs.length ->
  (∀ (k:Nat) (x:IV) (u:Value),xs[k]?=some x->vs[k]?=some u->QF (okL ok0 lo L) w x u)->Rel ok0 N w0 (look (Qaf ps xs e)) lo { a with tmps:=(ps.zip vs).foldl (fun t p=>t.setIfInBounds p.1 p.2) a.tmps } w L
 | [],xs,vs,e,a,h,_,_,_=>by simpa[Qaf] using h
 | p::ps,[],[],e,a,h,_,_,_=>by simpa[Qaf] using h
 | p::ps,[],v::vs,e,a,h,_,hl,_=>by simp at hl
 | p::ps,x::xs,[],e,a,h,_,hl,_=>by simp at hl
 | p::ps,x::xs,v::vs,e,a,h,hp,hl,hx=>by
   have h1:=h.put (some p) (fun t ht=>by injection ht with ht;subst ht;exact hp p (by simp)) (x:=.iv x) (v:=v) (.iv _ _ (hx 0 x v rfl rfl));rw[<- QoS] at h1;have:=Rel.params ps xs vs _ _ h1 (fun q hq=>hp q (by simp[hq])) (by simpa using hl) (fun k y u h2 h3=>hx (k+1) y u (by simpa using h2) (by simpa using h3));simpa[Qaf,Act.put] using this
def Way.code:Way->Option Code
 | .fall=>none
 | .ret=>some .ret
 | .exit id=>some (.exit id)
def Jz (r:Loop) (wy:Way):Loop:={ r with state:=if wy.code.isNone then .ready else .done,pending:=wy.code }
def Qvc (N:Fm) (a:Act) (eK:Env) (r:Loop) (l:Nat) (o:Qm) (wy:Way) (O D:Nat->Prop) (W:World):Prop :=
 ∃ (L:Nat->Lay) (xa:∀ b,D b->b<W.heap.size),Rel D N ⟨W,fun b=>D b/\¬ O b,fun b hb=>xa b hb.1,fun t=>a.tmps.getD t undef⟩ (look eK) (Qc o) a W L/\W.heap[l]?=some (.loop (Jz r wy)) /\
  (∀ b,O b↔b=l\/mark b∈a.defers\/∃ id ob,Qc o id=some ob/\(L id).has b)/\(∀ b,O b->D b)/\(∀ id ob,Qc o id=some ob->¬ (L id).has l)/\mark l ∉ a.defers
theorem Qa2.block {fr ds x} (h:Qa2 fr lo L w ds) (hx:mark x∈ds):w.heap[x]?=some (.deferred (some []))/\¬ fr x/\∀ id o,lo id=some o->¬ (L id).has x:=by
 obtain ⟨rs,h1,h2,h3⟩:=h;rw[h1] at hx;obtain ⟨y,hy,he⟩:=QKT.1 hx;have:y=x:=by injection he with he;injection he
 subst this;exact h3 y hy
theorem Qa2.az {fr fr' lo' L' w' ds} (h:Qa2 fr lo L w ds) (hx:∀ x,mark x∈ds->w'.heap[x]?=w.heap[x]?/\¬ fr' x/\∀ id o,lo' id=some o->¬ (L' id).has x):Qa2 fr' lo' L' w' ds:=by
 obtain ⟨rs,h1,h2,h3⟩:=h;refine ⟨rs,h1,h2,fun x hm=>?_⟩;grind
theorem Y3 {x o} (h:w.heap[x]?=some o) (ho:(∀ c t f,o≠.cells c t f)/\∀ es k,o≠.map es k):¬ Y0 w x:=by
 rintro (⟨c,t,f,h1⟩ | ⟨es,k,h1⟩)<;>rw[h] at h1<;>injection h1 with h1
 ·exact ho.1 _ _ _ h1
 ·exact ho.2 _ _ h1
theorem Qvc.stay {eK r l o wy O D W W'} (h:Qvc N a eK r l o wy O D W) (hk:Q8 D W W'):Qvc N a eK r l o wy O D W':=by
 obtain ⟨L,xa,h1,h2,h3,h4,h5,h6⟩:=h;have hO:∀ x,O x->W'.heap[x]?=W.heap[x]?:=fun x hx=>hk.block x (h4 x hx);refine ⟨L,fun b hb=>QLn (xa b hb) hk.size,?_,(hO l ((h3 l).2 (.inl rfl))).trans h2,h3,h4,h5,h6⟩;refine h1.move ⟨hk.os,hk.tape,hk.output,hk.size⟩ (Q8.refl _ _) (h1.defers.az fun x hx=>?_) h1.size h1.env (fun t ht=>rfl) (fun b hb _=>⟨hb.1,hk.block b hb.1⟩) (fun id ob b ho hb=>?_) (fun b hb _=>⟨hb,hb.1,hk.block b hb.1⟩)
 ·have:=h1.defers.block hx;exact ⟨hO x ((h3 x).2 (.inr (.inl hx))),this.2.1,this.2.2⟩
 grind
def Qsv (N:Fm) (a:Act) (eK:Env) (r:Loop) (l:Nat) (o:Qm) (wy:Way):Ext :=
 ⟨.func (.yield l) #[] #[],rfl,Qvc N a eK r l o wy,fun _ _ _ _ h hk=>h.stay hk⟩
theorem Qr3 (ps:Array Tmp) (vs:List Value) (t0:Array Value):(ps.zip vs.toArray).foldl (fun tmps (t,a)=>tmps.setIfInBounds t a) t0=(ps.toList.zip vs).foldl (fun t p=>t.setIfInBounds p.1 p.2) t0:=by
 rw[<- Array.foldl_toList,Array.toList_zip]
end
theorem putObj_size (w:World) (l:Nat) (o:Obj):(w.putObj l o).heap.size=w.heap.size:=World.putObj_size
theorem Qw {w:World} {l x:Nat} {o:Obj} (h:x≠l):(w.putObj l o).heap[x]?=w.heap[x]?:=World.putObj_heap_other h
theorem Qb5 {w:World} {l:Nat} {r o:Obj} (h:w.heap[l]?=some r):(w.putObj l o).heap[l]?=some o:=World.putObj_heap_same (QKQ.1 h).1
theorem Q8.put {Fr:Nat->Prop} (w:World) (l:Nat) (o:Obj) (h:¬ Fr l):Q8 Fr w (w.putObj l o) :=
 ⟨rfl,rfl,rfl,by rw[putObj_size];exact QKJ _,fun k hk=>Qw (fun e=>h (e▸hk))⟩
section
variable {P:Program} {K:World->Prop} {N:Fm} {a:Act}
theorem Qon {b c:Frame} {cs:List Frame} {ac:Act} {l:Nat} {w:World} {r:Loop} {wy:Way} {k:List Item} (hb:b.roundOf=some l) (hk:b.kind=.normal) (hw:QDo [] wy k) (hr:w.heap[l]?=some (.loop r)) :
  step P (lone (b.atR ac k) (c::cs) w)=.next (lone (c.finish (.bool wy.code.isNone)) cs (w.putObj l (.loop { r with state:=if wy.code.isNone then .ready else .done,pending:=wy.code }))):=by
 have he:=run_endRound (P:=P) wy.code hr;cases wy with
 | fall =>
   have hk':k=[]:=hw;subst hk';exact stepR_round_end hb hk he
 | ret =>
   obtain ⟨k1,rfl⟩:=hw;exact stepR_round_ret hb hk he
 | exit id =>
   obtain ⟨k1,rfl,hx⟩:=hw;exact stepR_round_exit hb hk hx he
theorem QbX {eK:Env} {r:Loop} {l:Nat} {o o':Qm} {wy:Way} {ps:List Nat} {ks ids:List Nat} {asn body:AC} {casn cbody:Code} {x:List IV} {M:Env->Qm->Prop}
  (hks:∀ t,ks.contains t=false->look eK t=.iv .any)
  (hps:∀ p∈ps,p<N.n/\ks.contains p=false) (hr1:r.tmps=a.tmps) (hr2:r.params=ps.toArray) (hr3:r.assign=casn) (hr4:r.body=cbody)
  (hc1:Qs P ⟨N.n,ks⟩ asn casn=true) (hc2:Qs P ⟨N.n,ks⟩ body cbody=true) (hx:x.length=ps.length)
  (h1:Un P K (fun wy e1 o1=>wy=.fall/\M e1 o1) [.code asn] (Qaf ps x eK) o)
  (h2:∀ e1 o1,M e1 o1->Un P K (fun w2 e2 o2=>w2=wy/\Q5 ks ids e2=eK/\ZR ids o2 ids=o') [.code body] e1 o1) :
  Yk P K (Qsv N a eK r l o .fall) x (.bool wy.code.isNone) (Qsv N a eK r l o' wy):=by
 refine ⟨rfl,fun ok O D w vs hp=>?_⟩;obtain ⟨L,xa,hrel,hrec,hO,hOD,hnl,hml⟩:=hp.J;have hOl:O l:=(hO l).2 (.inl rfl);have hlsz:l<w.heap.size:=xa l (hOD l hOl);have hmk:∀ y,mark y∈a.defers->O y/\y≠l:=fun y hy=>⟨(hO y).2 (.inr (.inl hy)),fun e=>hml (e▸hy)⟩;have hob:∀ id ob y,Qc o id=some ob->(L id).has y->O y:=fun id ob y h3 h4=>(hO y).2 (.inr (.inr ⟨id,ob,h3,h4⟩))
 let bR:Frame:={ (default:Frame) with fn:=r.fn,kind:=.normal,roundOf:=some l }
 have hrec':w.heap[l]?=some (.loop (Jz r .fall)):=hrec;have hsz:vs.toArray.size=(Jz r .fall).params.size:=by simp[Jz,hr2,hp.len,hx]
 let tm:Array Value:=(ps.zip vs).foldl (fun t p=>t.setIfInBounds p.1 p.2) a.tmps
 have hyrun:(Instr.yield l vs.toArray).run P w=.ok (.round l r.fn tm casn cbody) w:=by
  rw[run_yield hrec' hsz,Qr3];simp[Jz,hr2,hr1,hr3,hr4,tm]
 refine ⟨_,.yield l vs w r.fn tm casn cbody hyrun,fun c cs=>?_⟩;have hbegun:begun P c cs w (.round l r.fn tm casn cbody)=lone (bR.atR { tmps:=tm,defers:=[] } [.code casn,.beginRound,.code cbody]) (c::cs) w:=by
  simp[begun,Frame.round,Frame.atR,bR]
 rw[hbegun]
 let frR:Nat->Prop:=fun y=>y<w.heap.size/\(¬ O y\/y=l\/mark y∈a.defers)
 let wR:XH:={ w:=w,fr:=frR,lt:=fun y hy=>hy.1,pin:=fun t=>a.tmps.getD t undef }
 let okR:Nat->Prop:=fun y=>ok y/\y≠l/\mark y ∉ a.defers
 have hDok:∀ y,D y->ok y:=fun y hy=>(hp.okd y hy).elim (hp.own y) (fun h=>h);have hctx:Ctx P K okR wR:=by
  refine ⟨fun w' hk=>hp.hK w' (hk.mono fun y hy=>⟨hy.1,.inl hy.2⟩),fun y hy=>?_⟩;by_cases hys:y<w.heap.size
  ·grind
  refine ⟨hp.new y (QLW.1 hys),fun e=>by omega,fun e=>?_⟩;grind
 have hfrl:frR l:=⟨hlsz,.inr (.inl rfl)⟩;have harR:Qc7 bR wR:=fun l' hl'=>by
  grind
 have hrel0:Rel okR ⟨N.n,ks⟩ wR (look eK) (Qc o) { tmps:=a.tmps,defers:=[] } w L:=by
  refine hrel.move ⟨rfl,rfl,rfl,QKJ _⟩ (Q8.refl _ _) ⟨[],rfl,QMa,by simp⟩ hrel.size hrel.env (fun t _=>rfl) (fun y hy hpl=>⟨⟨hDok y hy.1,?_,?_⟩,rfl⟩) (fun id ob y ho hy=>⟨?_,rfl⟩) (fun y hy hok=>⟨⟨xa y hy.1,.inl hy.2⟩,⟨hDok y hy.1,?_,?_⟩,rfl⟩)
  ·rintro rfl;exact Y3 hrec' ⟨by simp,by simp⟩ hpl
  ·intro hm;exact Y3 (hrel.defers.block hm).1 ⟨by simp,by simp⟩ hpl
  ·rintro ⟨_,h3 | rfl | h3⟩
   ·exact h3 (hob id ob y ho hy)
   ·exact hnl id ob ho hy
   exact (hrel.defers.block h3).2.2 id ob ho hy
  all_goals grind
 have hrelP:=Rel.params ps x vs eK _ hrel0 (fun p hp'=>by have h3:=(hps p hp').2;simp only[Fm.dst,(hps p hp').1,h3];rfl) hp.len (fun k z u h3 h4=>(hp.args k z u h3 h4).move fun y hy hpl=>⟨⟨⟨hy.1,fun e=>hy.2 (e▸hOl),fun hm=>hy.2 (hmk y hm).1⟩,fun id ob ho hb=>hy.2 (hob id ob y ho hb)⟩,rfl⟩);obtain ⟨wy1,e1,o1,a1,w1,wB,L1,k1,⟨rfl,hM⟩,hle1,hr1',hat1,hst1⟩:=h1 bR (c::cs) [.beginRound,.code cbody] (fun id=>by simp[exitTo]) ⟨N.n,ks⟩ okR wR hctx harR _ _ w L (.code asn casn [] _ hc1 .nil) hrelP;have hk1:k1=[.beginRound,.code cbody]:=hat1;subst hk1;have hkR1:Q8 frR w w1:=hle1.keeps hr1'.below;have hrec1:w1.heap[l]?=some (.loop (Jz r .fall)):=(hkR1.block l hfrl).trans hrec';have hready:(Jz r .fall).state=.ready:=rfl;have hbegin:=stepR_beginRound (P:=P) (b:=bR) (a:=a1) (k:=[.code cbody]) (cs:=c::cs) (l:=l) rfl (run_beginRound hrec1 hready)
 let w1':World:=w1.putObj l (.loop { Jz r .fall with state:=.busy })
 have hs1':w1'.heap.size=w1.heap.size:=putObj_size _ _ _;have hfB:∀ y,frR y->wB.fr y:=hle1.fr
 let wB':XH:={ w:=w1',fr:=wB.fr,lt:=fun y hy=>by rw[hs1'];exact hr1'.frl y hy,pin:=wB.pin }
 have hrec1':w1'.heap[l]?=some (.loop { Jz r .fall with state:=.busy }):=Qb5 hrec1;have hkO1:Q8 (fun y=>y<w.heap.size/\¬ O y) w w1':=(hkR1.mono fun y hy=>⟨hy.1,.inl hy.2⟩).trans (Q8.put w1 l _ fun hf=>hf.2 hOl);have hctx':Ctx P K okR wB':=⟨fun w' hk=>hp.hK w' (hkO1.trans (hk.mono fun y hy=>hfB y ⟨hy.1,.inl hy.2⟩)),fun y hy=>(hctx.le hle1).ok y hy⟩;have harB':Qc7 bR wB':=fun l' hl'=>by
  grind
 have hrelB:Rel okR ⟨N.n,ks⟩ wB' (look e1) (Qc o1) a1 w1' L1:=by
  have hne:∀ y,okR y->y≠l:=fun y hy=>hy.2.1;refine hr1'.move ⟨rfl,rfl,rfl,by rw[hs1'];exact QKJ _⟩ (Q8.refl _ _) (hr1'.defers.az fun y hy=>?_) hr1'.size hr1'.env hr1'.pin (fun y hy _=>⟨hy.1,Qw (hne y hy.1)⟩) (fun id ob y ho hy=>?_) (fun y hy hok=>⟨hy,hok.1,Qw (hne y hok.1)⟩)
  ·have h3:=hr1'.defers.block hy;exact ⟨Qw (fun e=>by rw[e,hrec1] at h3;cases h3.1),h3.2.1,h3.2.2⟩
  have h3:=((hr1'.y9 id ob ho).lt hy).1;exact ⟨h3,Qw fun e=>h3 (e▸hfB l hfrl)⟩
 obtain ⟨wy2,e2,o2,a3,w3,wC,L3,k3,⟨hwy,hkE,hkO⟩,hle2,hr3',hat3,hst3⟩:=h2 e1 o1 hM bR (c::cs) [] (fun id=>by simp[exitTo]) ⟨N.n,ks⟩ okR wB' hctx' harB' _ a1 w1' L1 (.code body cbody [] _ hc2 .nil) hrelB;subst hwy;have hfC:∀ y,frR y->wC.fr y:=fun y hy=>hle2.fr y (hfB y hy);have hkB3:Q8 wB.fr w1' w3:=hle2.keeps hr3'.below;have hrec3:w3.heap[l]?=some (.loop { Jz r .fall with state:=.busy }):=(hkB3.block l (hfB l hfrl)).trans hrec1';have hend:=Qon (P:=P) (b:=bR) (c:=c) (cs:=cs) (ac:=a3) (l:=l) rfl rfl hat3 hrec3
 let w4:World:=w3.putObj l (.loop { Jz r .fall with state:=if wy2.code.isNone then .ready else .done,pending:=wy2.code })
 have hs4:w4.heap.size=w3.heap.size:=putObj_size _ _ _;have hother:∀ y,y≠l->w4.heap[y]?=w3.heap[y]?:=fun y hy=>Qw hy;have hkO4:Q8 (fun y=>y<w.heap.size/\¬ O y) w w4:=(hkO1.trans (hkB3.mono fun y hy=>hfB y ⟨hy.1,.inl hy.2⟩)).trans (Q8.put w3 l _ fun hf=>hf.2 hOl);refine ⟨.bool wy2.code.isNone,w4,?_,(hst1.trans (.head hbegin hst3)).trans (.one hend)⟩;have hr3k:=hr3'.keep ks ids;rw[hkE,hkO] at hr3k;have hnC:∀ id ob y,Qc o' id=some ob->(L3 id).has y->¬ wC.fr y:=fun id ob y ho hy=>((hr3k.y9 id ob ho).lt hy).1;have hmC:∀ y,mark y∈a.defers->wC.fr y:=fun y hy=>hfC y ⟨xa y (hOD y (hmk y hy).1),.inr (.inr hy)⟩
 let O':Nat->Prop:=fun y=>y=l\/mark y∈a.defers\/∃ id ob,Qc o' id=some ob/\(L3 id).has y
 have hlt4:∀ y,O' y->y<w4.heap.size:=by
  rintro y (rfl | hy | ⟨id,ob,ho,hy⟩)
  ·rw[hs4];exact (QKQ.1 hrec3).1
  ·rw[hs4];exact hr3'.frl y (hmC y hy)
  rw[hs4];exact ((hr3k.y9 id ob ho).lt hy).2
 let D':Nat->Prop:=fun y=>y<w4.heap.size/\(O' y\/ok y)
 refine ⟨O',D',X6 (ok:=fun _=>True) rfl (.bool _),hkO4,?_,?_,fun y hy=>⟨hlt4 y hy,.inl hy⟩,fun y hy=>hy.1,fun y hy=>hy.2⟩
 ·refine ⟨L3,fun y hy=>hy.1,?_,?_,fun y=>Iff.rfl,fun y hy=>⟨hlt4 y hy,.inl hy⟩,fun id ob ho hb=>hnC id ob l ho hb (hfC l hfrl),hml⟩
  ·refine hr3k.move ⟨rfl,rfl,rfl,by rw[hs4];exact QKJ _⟩ (Q8.refl _ _) (hrel.defers.az fun y hy=>?_) hrel.size (fun t=>?_) (fun t _=>rfl) (fun y hy hpl=>⟨⟨by rw[hs4];exact hpl.lt,.inr hy.1.1⟩,hother y hy.1.2.1⟩) (fun id ob y ho hy=>⟨fun hf=>hf.2 (.inr (.inr ⟨id,ob,ho,hy⟩)),hother y fun e=>hnC id ob y ho hy (e▸hfC l hfrl)⟩)
    (fun y hy hok=>⟨⟨⟨by rw[hs4];exact hr3'.frl y hy,.inr hok.1.1⟩,?_⟩,⟨by rw[hs4];exact hr3'.frl y hy,.inr hok.1.1⟩,hother y hok.1.2.1⟩)
   ·have hyl:=(hmk y hy).2;have hfy:frR y:=⟨xa y (hOD y (hmk y hy).1),.inr (.inr hy)⟩;refine ⟨(hother y hyl).trans ((hkB3.block y (hfB y hfy)).trans ((Qw hyl).trans (hkR1.block y hfy))),fun hf=>hf.2 (.inr (.inl hy)),fun id ob ho hb=>hnC id ob y ho hb (hmC y hy)⟩
   ·by_cases ht:ks.contains t=true
    ·have h3:=hr3k.env t;have h4:=hr3'.pin t ht;have hpin:wC.pin t=a.tmps.getD t undef:=by
      rw[hle2.pin];show wB.pin t=_;rw[hle1.pin]
     rw[h4,hpin] at h3;exact h3
    rw[hks t (by simpa using ht)]
    exact .iv _ _ (.any _)
   grind
  rw[show w4.heap[l]?=_ from Qb5 hrec3]
  rfl
 grind
end
theorem JC (ids e):∀ ks t,ks.contains t=false->look (Q5 ks ids e) t=.iv .any
 | [],t,_=>rfl
 | k::r,t,h=>by
   simp only[List.contains_cons,Bool.or_eq_false_iff,beq_eq_false_iff_ne,ne_eq] at h;simp only[Q5,QKZ,look,h.1,if_false];exact JC ids e r t h.2
theorem QqL {ok:Nat->Prop} {w:World} {lo:Nat->Option AO} {L:Nat->Lay} {x:AV} {v:Value} {g:FuncId} {fs cs:List IV} (h:QfI x=some (g,fs,cs)) (hr:QA ok w lo L x v) :
  ∃ us vs:List Value,v=.func (.func g) us.toArray vs.toArray/\us.length=fs.length/\vs.length=cs.length/\(∀ (k:Nat) (x:IV) (u:Value),fs[k]?=some x->us[k]?=some u->QF ok w x u) /\
   (∀ (k:Nat) (x:IV) (u:Value),cs[k]?=some x->vs[k]?=some u->QF ok w x u):=by
 unfold QfI at h;split at h
 ·injection h with h;injection h with h1 h2;injection h2 with h2 h3;subst h1 h2 h3;cases hr with
  | iv _ _ r =>
    cases r;exact ⟨[],[],rfl,rfl,rfl,by simp,by simp⟩
 ·injection h with h;injection h with h1 h2;injection h2 with h2 h3;subst h1 h2 h3;cases hr with
  | iv _ _ r =>
    cases r with
    | clo _ _ _ us vs l1 l2 hf hc=>exact ⟨us,vs,rfl,l1,l2,hf,hc⟩
 ·cases h
section
variable {P:Program} {K:World->Prop}
theorem Qaz {a:Act} {f':Operand} {g:FuncId} {us vs:List Value} {l:Nat} {w:World} (hc:callee P g=true) (hv:a.eval f'=.func (.func g) us.toArray vs.toArray) :
  ∃ d:Deferred,(resolve a.eval (rangeCall f' l) 0).run P w=.ok d w/\(invoke d.target d.args).run P w=.ok (.enter g (us++.func (.yield l) #[] #[]::vs).toArray) w:=by
 refine ⟨{ target:=.fn (.func g) vs.toArray,args:=us.toArray++#[.func (.yield l) #[] #[]] },?_,?_⟩
 ·have e:a.eval (.const (.func (.yield l) #[] #[]))=.func (.yield l) #[] #[]:=rfl;simp[resolve,hv,Deferred.ofValue,e]
 ·unfold callee at hc;split at hc
  ·rename_i fn hfn;simp only[QKI,QLb,beq_eq_false_iff_ne,ne_eq] at hc;obtain ⟨hb,hn⟩:=hc;have hb':fn.body≠none:=by cases h:fn.body<;>simp_all
   simp[invoke,callFunc,program,Sem.run,hfn,hn,hb']
  ·cases hc
theorem Qtm {N tl k k1} (wy) (h:Fit P N tl k k1):Fit P N tl (Qjb wy k) ((wy.code.map Item.code).toList++k1):=by
 cases wy with
 | fall=>exact h
 | ret=>exact .code .ret .ret _ _ rfl h
 | exit id=>exact .code (.exit id) (.exit id) _ _ (by simp[Qs]) h
theorem Qov {F:Way->Env->Qm->Prop} {f:Opd} {ps:List Nat} {asn body:AC} {ks ids:List Nat} {k:List AI} {e:Env} {o:Qm} {g:FuncId} {fs cs:List IV} {Lx:List (List IV)} {St:Nat->Qm} {Wy:Nat->Way} {m:Nat} {M:Nat->Env->Qm->Prop}
  (hf:QfI (f.av (look e))=some (g,fs,cs)) (hc:callee P g=true) (hit:qv P K g fs cs Lx) (h0:St 0=ZR ids o ids) (hm:m<=Lx.length) (xc:∀ i,i+1<m->Wy i=.fall) (hend:m=Lx.length\/(0<m/\Wy (m-1)≠.fall))
  (hlen:∀ i x,i<m->Lx[i]?=some x->x.length=ps.length)
  (h1:∀ i x,i<m->Lx[i]?=some x->Un P K (fun wy e1 o1=>wy=.fall/\M i e1 o1) [.code asn] (Qaf ps x (Q5 ks ids e)) (St i))
  (h2:∀ i e1 o1,i<m->M i e1 o1->Un P K (fun wy e2 o2=>wy=Wy i/\Q5 ks ids e2=Q5 ks ids e/\ZR ids o2 ids=St (i+1)) [.code body] e1 o1)
  (h3:Un P K F (Qjb (if m=0 then .fall else Wy (m-1)) k) (Q5 ks ids e) (St m)):Un P K F (.code (.range f ps asn body ks ids)::k) e o:=by
 intro b fr tl htl N ok0 w0 c hro k' a w L hfit hr;cases hfit with
 | code _ c' _ k1 h hk =>
   cases c'<;>simp only[Qs,QLi] at h;rename_i f' ps' casn cbody;simp only[QKI,beq_iff_eq,QLk,decide_eq_true_eq,QLb] at h;obtain ⟨⟨⟨⟨hff,hps'⟩,hps⟩,hc1⟩,hc2⟩:=h;obtain ⟨us,vs,hv,lu,lv,hus,hvs⟩:=QqL hf (Opd.rep hr hff);have hr1:=hr.keep ks ids;rw[<- h0] at hr1;obtain ⟨l,mk,w2,r,henter,hbel,hlw,hrec,⟨hr_fn,hr_tmps,hr_params,hr_assign,hr_body,hr_state,hr_pend⟩,hr2,hml⟩:=QhJ hro hr1 ps' casn cbody;obtain ⟨d,hres,hinv⟩:=Qaz (a:=a) (f':=f') (l:=l) (w:=w2) hc hv;have hstep:=stepR_rangeFunc (P:=P) (b:=b) (a:=a) (k:=k1) (cs:=fr) (w:=w) henter hres hinv;generalize ha2:({ a with defers:=mk++a.defers }:Act)=a2 at hr2 hstep;have hat:a2.tmps=a.tmps:=by rw[<- ha2]
   have had:a2.defers=mk++a.defers:=by rw[<- ha2]
   rw[<- had] at hml;generalize heK:Q5 ks ids e=eK at hr1 hr2 h1 h2 h3;have hks:∀ t,ks.contains t=false->look eK t=.iv .any:=fun t ht=>by rw[<- heK];exact JC ids e ks t ht
   let WyAt:Nat->Way:=fun i=>if i=0 then .fall else Wy (i-1)
   let E:Nat->Ext:=fun i=>Qsv N a2 eK r l (St i) (WyAt i)
   have hrnd:∀ i x,i<m->Lx[i]?=some x->Yk P K (E i) x (.bool (Wy i).code.isNone) (E (i+1)):=by
    intro i x hi hx;have hfall:WyAt i=.fall:=by
     grind
    have:=QbX (N:=N) (a:=a2) (eK:=eK) (r:=r) (l:=l) (o:=St i) (o':=St (i+1)) (wy:=Wy i) (ps:=ps) (ks:=ks) (ids:=ids) (x:=x) (M:=M i) hks hps (by rw[hat];exact hr_tmps) (by rw[hr_params,hps']) hr_assign hr_body hc1 hc2 (hlen i x hi hx) (h1 i x hi hx) (fun e1 o1=>h2 i e1 o1 hi);grind
   have hfeeds:∀ n i,i+n=m->(n=0->m=Lx.length)->∃ bb,Q9 P K (Lx.drop i) (E i) bb (E m):=by
    intro n;induction n with
    | zero =>
      intro i hi hn;have:Lx.drop i=[]:=QLu (by have:=hn rfl;omega);rw[this];have him:i=m:=by omega
      subst him;exact ⟨true,.nil _⟩
    | succ n ih =>
      intro i hi _;have hil:i<Lx.length:=by omega
      have hx:=QKF hil;rw[QLg hil];have hg:=hrnd i _ (by omega) hx;by_cases hw:Wy i=.fall
      ·rw[hw] at hg
       obtain ⟨bb,hb⟩:=ih (i+1) (by omega) (fun hn=>by
        rcases hend with h | ⟨_,h⟩
        ·exact h
        have:m-1=i:=by omega
        rw[this] at h;exact absurd hw h)
       exact ⟨bb,.next _ _ _ _ _ _ hg hb⟩
      have him:i+1=m:=Classical.byContradiction fun hn=>hw (xc i (by omega));have hfalse:(Wy i).code.isNone=false:=by cases hwy:Wy i<;>first | exact absurd hwy hw | rfl
      rw[hfalse] at hg;rw[him] at hg;exact ⟨false,.stop _ _ _ _ hg⟩
   obtain ⟨bb,hfd⟩:=hfeeds m 0 (by omega) (fun hm0=>by rcases hend with h | ⟨h,_⟩;exact h;omega);rw[List.drop_zero] at hfd;have hgood:=hit _ _ _ hfd;have hmk:∀ y,mark y∈a2.defers->w2.heap[y]?=some (.deferred (some []))/\¬ w0.fr y/\∀ id ob,Qc (St 0) id=some ob->¬ (L id).has y:=fun y hy=>hr2.defers.block hy
   let O:Nat->Prop:=fun y=>y=l\/mark y∈a2.defers\/∃ id ob,Qc (St 0) id=some ob/\(L id).has y
   let D:Nat->Prop:=fun y=>y<w2.heap.size/\(O y\/ok0 y)
   have hnl0:∀ id ob,Qc (St 0) id=some ob->¬ (L id).has l:=fun id ob ho hb=>by
    have:=((hr1.y9 id ob ho).lt hb).2;omega
   have hOf:∀ y,O y->¬ w0.fr y:=by
    rintro y (rfl | hy | ⟨id,ob,ho,hy⟩)
    ·exact hr1.frlt hlw
    ·exact (hmk y hy).2.1
    exact ((hr1.y9 id ob ho).lt hy).1
   have hOlt:∀ y,O y->y<w2.heap.size:=by
    rintro y (rfl | hy | ⟨id,ob,ho,hy⟩)
    ·exact (QKQ.1 hrec).1
    ·exact (QKQ.1 (hmk y hy).1).1
    exact ((hr2.y9 id ob ho).lt hy).2
   have hargs:∀ (k:Nat) (x:IV) (u:Value),(fs++cs)[k]?=some x->(us++vs)[k]?=some u->QF (fun y=>ok0 y/\¬ O y) w2 x u:=by
    have one:∀ (x:IV) (u:Value),QF (okL ok0 (Qc o) L) w x u->QF (fun y=>ok0 y/\¬ O y) w2 x u:=fun x u hxu=>hxu.move fun y hy hpl=>by
     have hylt:=hpl.lt;refine ⟨⟨hy.1,?_⟩,hbel.block y hylt⟩;rintro (rfl | hm | ⟨id,ob,ho,hb⟩)
     ·omega
     ·have h4:=(hmk y hm).1;rw[hbel.block y hylt] at h4;exact Y3 h4 ⟨by simp,by simp⟩ hpl
     rw[h0,Xz] at ho;split at ho
     ·cases hq:Qc o id with
      | none=>simp[hq] at ho
      | some q=>exact hy.2 id q hq hb
     cases ho
    grind
   have hpre:Qh8 K ok0 O D w2 (E 0) (fs++cs) (us++vs):=by
    refine ⟨fun w' hk=>c.hK w' (hr2.below.trans (hk.mono fun y hy=>⟨hr2.frl y hy,fun ho=>hOf y ho hy⟩)),?_,fun y hy=>⟨hOlt y hy,.inl hy⟩,fun y hy=>hy.1,fun y hy=>hy.2,fun y hy=>c.ok y (hr2.frlt hy),fun y hy=>c.ok y (hOf y hy),by simp[lu,lv],hargs⟩;refine ⟨L,fun y hy=>hy.1,?_,?_,fun y=>Iff.rfl,fun y hy=>⟨hOlt y hy,.inl hy⟩,hnl0,hml⟩
    ·refine hr2.move ⟨rfl,rfl,rfl,QKJ _⟩ (Q8.refl _ _) (hr2.defers.az fun y hy=>⟨rfl,fun hf=>hf.2 (.inr (.inl hy)),(hmk y hy).2.2⟩) hr2.size hr2.env (fun t _=>rfl) (fun y hy hpl=>⟨⟨hpl.lt,.inr hy.1⟩,rfl⟩) (fun id ob y ho hy=>⟨fun hf=>hf.2 (.inr (.inr ⟨id,ob,ho,hy⟩)),rfl⟩)
      (fun y hy hok=>⟨⟨⟨hr2.frl y hy,.inr hok.1⟩,fun ho=>hOf y ho hy⟩,⟨hr2.frl y hy,.inr hok.1⟩,rfl⟩)
    show w2.heap[l]?=some (.loop (Jz r .fall));rw[hrec];cases r;simp only[Jz,Way.code] at hr_state hr_pend |-;subst hr_state hr_pend;rfl
   obtain ⟨en,w3,frx,⟨v,rfl,O',D',hpost⟩,hcomes,_,hleave⟩:=hgood.2 ok0 O D w2 us vs hpre lu (b.atR a2 (.inRangeFunc l::k1)::fr);obtain ⟨L',hlt',hrelE,hrecE,hOE,hODE,hnlE,_⟩:=hpost.J;have hsz3:=hpost.keep.size;have hback:step P (lone frx (b.atR a2 (.inRangeFunc l::k1)::fr) w3)=.next (lone (b.atR a2 (.endRangeFunc l::k1)) fr w3):=by
    rw[<- finish_atR_inRangeFunc l v];exact step_leave_returned hleave
   have hnb:(Jz r (WyAt m)).state≠.busy:=by
    simp only[Jz];split<;>simp
   have hendl:=stepR_endRangeFunc (P:=P) (b:=b) (a:=a2) (k:=k1) (cs:=fr) (run_endLoop hrecE hnb)
   let w4:World:=w3.putObj l (.loop { Jz r (WyAt m) with state:=.exhausted })
   have hs4:w4.heap.size=w3.heap.size:=putObj_size _ _ _;have hOl':O' l:=(hOE l).2 (.inl rfl);have hnew:∀ y,O' y->¬ w0.fr y:=fun y hy=>(hpost.new y hy).elim (hOf y) (fun h4=>hr2.frlt h4);have hk23:Q8 w0.fr w2 w3:=hpost.keep.mono fun y hy=>⟨hr2.frl y hy,fun ho=>hOf y ho hy⟩;have hk04:Q8 w0.fr w0.w w4:=(hr2.below.trans hk23).trans (Q8.put w3 l _ (hnew l hOl'));have hlt5:∀ y,(w0.fr y\/(D' y/\¬ O' y))->y<w4.heap.size:=by
    intro y hy;rw[hs4];rcases hy with hy | hy
    ·exact QLn (hr2.frl y hy) hsz3
    exact hlt' y hy.1
   let w5:XH:={ w:=w4,fr:=fun y=>w0.fr y\/(D' y/\¬ O' y),lt:=hlt5,pin:=w0.pin }
   have hle5:w0.le w5:=⟨hk04,fun y hy=>.inl hy,rfl⟩;have hO5:∀ y,O' y->¬ w5.fr y:=fun y hy hf=>hf.elim (hnew y hy) (fun h4=>h4.2 hy);have hrel5:Rel ok0 N w5 (look eK) (Qc (St m)) a2 w4 L':=by
    refine hrelE.move ⟨rfl,rfl,rfl,by rw[hs4];exact QKJ _⟩ (Q8.refl _ _) (hrelE.defers.az fun y hy=>?_) hrelE.size hrelE.env (fun t ht=>?_) (fun y hy hpl=>?_) (fun id ob y ho hy=>?_) (fun y hy hok=>?_)
    ·have h4:=hrelE.defers.block hy;have hyO:O' y:=(hOE y).2 (.inr (.inl hy));exact ⟨Qw fun e=>hml (e▸hy),hO5 y hyO,h4.2.2⟩
    ·rw[hat];exact hr.pin t ht
    ·have hyl:y≠l:=fun e=>by subst e;exact Y3 hrecE ⟨by simp,by simp⟩ hpl
     refine ⟨?_,Qw hyl⟩;rcases hpost.okd y hy.1 with h4 | h4
     ·exact c.ok y (hnew y h4)
     exact h4
    ·have hyO:O' y:=(hOE y).2 (.inr (.inr ⟨id,ob,ho,hy⟩));exact ⟨hO5 y hyO,Qw fun e=>hnlE id ob ho (e▸hy)⟩
    exact ⟨.inr hy,(hpost.okd y hy.1).resolve_left hy.2,Qw fun e=>hy.2 (e▸hOl')⟩
   have hends:=h3 b fr tl htl N ok0 w5 (c.le hle5) (hro.le hle5) _ a2 w4 L' (Qtm (WyAt m) hk) hrel5;exact Ends.steps (.head hstep (hcomes.trans (.head hback (.one hendl)))) hle5 hends
theorem Qne {F:Way->Env->Qm->Prop} {f:Opd} {ps:List Nat} {asn body:AC} {ks ids:List Nat} {k:List AI} {e:Env} {o:Qm} {g:FuncId} {fs cs:List IV} {S:List (List IV)->Prop} {St:List (List IV)->Qm} {M:List (List IV)->Env->Qm->Prop}
  (hf:QfI (f.av (look e))=some (g,fs,cs)) (hc:callee P g=true) (hit:QrW P K g fs cs S) (h0:St []=ZR ids o ids)
  (hlen:∀ p x,Beg S (p++[x])->x.length=ps.length)
  (h1:∀ p x,Beg S (p++[x])->Un P K (fun wy e1 o1=>wy=.fall/\M (p++[x]) e1 o1) [.code asn] (Qaf ps x (Q5 ks ids e)) (St p))
  (h2:∀ p x e1 o1,Beg S (p++[x])->M (p++[x]) e1 o1->Un P K (fun wy e2 o2=>wy=.fall/\Q5 ks ids e2=Q5 ks ids e/\ZR ids o2 ids=St (p++[x])) [.code body] e1 o1)
  (h3:∀ Lx,S Lx->Un P K F k (Q5 ks ids e) (St Lx)):Un P K F (.code (.range f ps asn body ks ids)::k) e o:=by
 intro b fr tl htl N ok0 w0 c hro k' a w L hfit hr;cases hfit with
 | code _ c' _ k1 h hk =>
   cases c'<;>simp only[Qs,QLi] at h;rename_i f' ps' casn cbody;simp only[QKI,beq_iff_eq,QLk,decide_eq_true_eq,QLb] at h;obtain ⟨⟨⟨⟨hff,hps'⟩,hps⟩,hc1⟩,hc2⟩:=h;obtain ⟨us,vs,hv,lu,lv,hus,hvs⟩:=QqL hf (Opd.rep hr hff);have hr1:=hr.keep ks ids;rw[<- h0] at hr1;obtain ⟨l,mk,w2,r,henter,hbel,hlw,hrec,⟨hr_fn,hr_tmps,hr_params,hr_assign,hr_body,hr_state,hr_pend⟩,hr2,hml⟩:=QhJ hro hr1 ps' casn cbody;obtain ⟨d,hres,hinv⟩:=Qaz (a:=a) (f':=f') (l:=l) (w:=w2) hc hv;have hstep:=stepR_rangeFunc (P:=P) (b:=b) (a:=a) (k:=k1) (cs:=fr) (w:=w) henter hres hinv;generalize ha2:({ a with defers:=mk++a.defers }:Act)=a2 at hr2 hstep;have hat:a2.tmps=a.tmps:=by rw[<- ha2]
   have had:a2.defers=mk++a.defers:=by rw[<- ha2]
   rw[<- had] at hml;generalize heK:Q5 ks ids e=eK at hr1 hr2 h1 h2 h3;have hks:∀ t,ks.contains t=false->look eK t=.iv .any:=fun t ht=>by rw[<- heK];exact JC ids e ks t ht
   let E:List (List IV)->Ext:=fun p=>Qsv N a2 eK r l (St p) .fall
   have hrnd:∀ p x,Beg S (p++[x])->Yk P K (E p) x (.bool true) (E (p++[x])):=by
    intro p x hx;exact QbX (N:=N) (a:=a2) (eK:=eK) (r:=r) (l:=l) (o:=St p) (o':=St (p++[x])) (wy:=.fall) (ps:=ps) (ks:=ks) (ids:=ids) (x:=x) (M:=M (p++[x])) hks hps (by rw[hat];exact hr_tmps) (by rw[hr_params,hps']) hr_assign hr_body hc1 hc2 (hlen p x hx) (h1 p x hx) (fun e1 o1=>h2 p x e1 o1 hx)
   have hgood:=hit E hrnd;have hmk:∀ y,mark y∈a2.defers->w2.heap[y]?=some (.deferred (some []))/\¬ w0.fr y/\∀ id ob,Qc (St []) id=some ob->¬ (L id).has y:=fun y hy=>hr2.defers.block hy
   let O:Nat->Prop:=fun y=>y=l\/mark y∈a2.defers\/∃ id ob,Qc (St []) id=some ob/\(L id).has y
   let D:Nat->Prop:=fun y=>y<w2.heap.size/\(O y\/ok0 y)
   have hnl0:∀ id ob,Qc (St []) id=some ob->¬ (L id).has l:=fun id ob ho hb=>by
    have:=((hr1.y9 id ob ho).lt hb).2;omega
   have hOf:∀ y,O y->¬ w0.fr y:=by
    rintro y (rfl | hy | ⟨id,ob,ho,hy⟩)
    ·exact hr1.frlt hlw
    ·exact (hmk y hy).2.1
    exact ((hr1.y9 id ob ho).lt hy).1
   have hOlt:∀ y,O y->y<w2.heap.size:=by
    rintro y (rfl | hy | ⟨id,ob,ho,hy⟩)
    ·exact (QKQ.1 hrec).1
    ·exact (QKQ.1 (hmk y hy).1).1
    exact ((hr2.y9 id ob ho).lt hy).2
   have hargs:∀ (k:Nat) (x:IV) (u:Value),(fs++cs)[k]?=some x->(us++vs)[k]?=some u->QF (fun y=>ok0 y/\¬ O y) w2 x u:=by
    have one:∀ (x:IV) (u:Value),QF (okL ok0 (Qc o) L) w x u->QF (fun y=>ok0 y/\¬ O y) w2 x u:=fun x u hxu=>hxu.move fun y hy hpl=>by
     have hylt:=hpl.lt;refine ⟨⟨hy.1,?_⟩,hbel.block y hylt⟩;rintro (rfl | hm | ⟨id,ob,ho,hb⟩)
     ·omega
     ·have h4:=(hmk y hm).1;rw[hbel.block y hylt] at h4;exact Y3 h4 ⟨by simp,by simp⟩ hpl
     rw[h0,Xz] at ho;split at ho
     ·cases hq:Qc o id with
      | none=>simp[hq] at ho
      | some q=>exact hy.2 id q hq hb
     cases ho
    grind
   have hpre:Qh8 K ok0 O D w2 (E []) (fs++cs) (us++vs):=by
    refine ⟨fun w' hk=>c.hK w' (hr2.below.trans (hk.mono fun y hy=>⟨hr2.frl y hy,fun ho=>hOf y ho hy⟩)),?_,fun y hy=>⟨hOlt y hy,.inl hy⟩,fun y hy=>hy.1,fun y hy=>hy.2,fun y hy=>c.ok y (hr2.frlt hy),fun y hy=>c.ok y (hOf y hy),by simp[lu,lv],hargs⟩;refine ⟨L,fun y hy=>hy.1,?_,?_,fun y=>Iff.rfl,fun y hy=>⟨hOlt y hy,.inl hy⟩,hnl0,hml⟩
    ·refine hr2.move ⟨rfl,rfl,rfl,QKJ _⟩ (Q8.refl _ _) (hr2.defers.az fun y hy=>⟨rfl,fun hf=>hf.2 (.inr (.inl hy)),(hmk y hy).2.2⟩) hr2.size hr2.env (fun t _=>rfl) (fun y hy hpl=>⟨⟨hpl.lt,.inr hy.1⟩,rfl⟩) (fun id ob y ho hy=>⟨fun hf=>hf.2 (.inr (.inr ⟨id,ob,ho,hy⟩)),rfl⟩)
      (fun y hy hok=>⟨⟨⟨hr2.frl y hy,.inr hok.1⟩,fun ho=>hOf y ho hy⟩,⟨hr2.frl y hy,.inr hok.1⟩,rfl⟩)
    show w2.heap[l]?=some (.loop (Jz r .fall));rw[hrec];cases r;simp only[Jz,Way.code] at hr_state hr_pend |-;subst hr_state hr_pend;rfl
   obtain ⟨en,w3,frx,⟨v,rfl,_,⟨Lx,hLx,rfl⟩,O',D',hpost⟩,hcomes,_,hleave⟩:=hgood.2 ok0 O D w2 us vs hpre lu (b.atR a2 (.inRangeFunc l::k1)::fr);obtain ⟨L',hlt',hrelE,hrecE,hOE,hODE,hnlE,_⟩:=hpost.J;have hsz3:=hpost.keep.size;have hback:step P (lone frx (b.atR a2 (.inRangeFunc l::k1)::fr) w3)=.next (lone (b.atR a2 (.endRangeFunc l::k1)) fr w3):=by
    rw[<- finish_atR_inRangeFunc l v];exact step_leave_returned hleave
   have hnb:(Jz r .fall).state≠.busy:=by
    simp only[Jz];split<;>simp
   have hendl:=stepR_endRangeFunc (P:=P) (b:=b) (a:=a2) (k:=k1) (cs:=fr) (run_endLoop hrecE hnb)
   let w4:World:=w3.putObj l (.loop { Jz r .fall with state:=.exhausted })
   have hs4:w4.heap.size=w3.heap.size:=putObj_size _ _ _;have hOl':O' l:=(hOE l).2 (.inl rfl);have hnew:∀ y,O' y->¬ w0.fr y:=fun y hy=>(hpost.new y hy).elim (hOf y) (fun h4=>hr2.frlt h4);have hk23:Q8 w0.fr w2 w3:=hpost.keep.mono fun y hy=>⟨hr2.frl y hy,fun ho=>hOf y ho hy⟩;have hk04:Q8 w0.fr w0.w w4:=(hr2.below.trans hk23).trans (Q8.put w3 l _ (hnew l hOl'));have hlt5:∀ y,(w0.fr y\/(D' y/\¬ O' y))->y<w4.heap.size:=by
    intro y hy;rw[hs4];rcases hy with hy | hy
    ·exact QLn (hr2.frl y hy) hsz3
    exact hlt' y hy.1
   let w5:XH:={ w:=w4,fr:=fun y=>w0.fr y\/(D' y/\¬ O' y),lt:=hlt5,pin:=w0.pin }
   have hle5:w0.le w5:=⟨hk04,fun y hy=>.inl hy,rfl⟩;have hO5:∀ y,O' y->¬ w5.fr y:=fun y hy hf=>hf.elim (hnew y hy) (fun h4=>h4.2 hy);have hrel5:Rel ok0 N w5 (look eK) (Qc (St Lx)) a2 w4 L':=by
    refine hrelE.move ⟨rfl,rfl,rfl,by rw[hs4];exact QKJ _⟩ (Q8.refl _ _) (hrelE.defers.az fun y hy=>?_) hrelE.size hrelE.env (fun t ht=>?_) (fun y hy hpl=>?_) (fun id ob y ho hy=>?_) (fun y hy hok=>?_)
    ·have h4:=hrelE.defers.block hy;have hyO:O' y:=(hOE y).2 (.inr (.inl hy));exact ⟨Qw fun e=>hml (e▸hy),hO5 y hyO,h4.2.2⟩
    ·rw[hat];exact hr.pin t ht
    ·have hyl:y≠l:=fun e=>by subst e;exact Y3 hrecE ⟨by simp,by simp⟩ hpl
     refine ⟨?_,Qw hyl⟩;rcases hpost.okd y hy.1 with h4 | h4
     ·exact c.ok y (hnew y h4)
     exact h4
    ·have hyO:O' y:=(hOE y).2 (.inr (.inr ⟨id,ob,ho,hy⟩));exact ⟨hO5 y hyO,Qw fun e=>hnlE id ob ho (e▸hy)⟩
    exact ⟨.inr hy,(hpost.okd y hy.1).resolve_left hy.2,Qw fun e=>hy.2 (e▸hOl')⟩
   have hends:=h3 Lx hLx b fr tl htl N ok0 w5 (c.le hle5) (hro.le hle5) _ a2 w4 L' hk hrel5;exact Ends.steps (.head hstep (hcomes.trans (.head hback (.one hendl)))) hle5 hends
end
end Go.Ev
