/- The program's settings: the iterators of zd. -/
import Derived.Test.YtenlhiebmnojhaaGreatDoorCabThree
import Derived.Ground.SlgnProg
import Derived.Shelf.SlicesE.Clone
import Derived.Shelf.SlicesE.Reverse
import Derived.Shelf.SlicesE.Delete
import Derived.Lib.SliceRun
import Derived.Lib.JoinLaws
import Derived.Test.YtenlhiebmnojhaaGreatDoorProg
import Derived.KernelRfl
import Derived.Shelf.Spec.SlicesInsertGrow
import Derived.Shelf.SlIterI.Nil
import Derived.Shelf.SortM.Plain
import Derived.Shelf.SortM.SortNone
import Derived.Ground.GgzProg
import Derived.Ground.SlgmProg
import Derived.Lib.ItoaNum
import Derived.Lib.ItoaMem
import Derived.Lib.AtoiTie
import Derived.Lib.Strings
import Derived.Lib.SplitLaws
set_option linter.all false
namespace Go.Pf
open Go Go.Ev Go.Proofs Go.RowKit Go.Proofs.Tryz
variable {K:World->Prop} (hK:∀ w w',K w->Below w.heap.size w w'->K w')
set_option maxRecDepth 8000
include hK
theorem Qg4 (m:Machine) (hm:OkM m) (first:List Int) (leak0:Int) (hlen:first.length=m.zd.length) (hr:∀ i (h:i<m.zd.length) (h':i<first.length),inR first[i] m.zd[i].lo m.zd[i].hi) :
  qk prog K 342 [.ptr (wkC m),.agg (stC first leak0 (Q7 id first)),.int .i64 first.length] [] ((QT m first []).map (qI m)) (fun b=>.bool b):=by
 intro s b s' hf;refine Qt QqP (by simp) hf.v rfl ?_
 rw[QbB,Vt] at hf;have hlk:=hm.zx;have hlh:=hm.zw;simp only[inR] at hlk;simp[hlen]
 (repeat' first | omega | (with_reducible apply And.intro) | intro _)
 have e0:AV.iv (IV.int .i64 m.zu)=AV.iv (.int .i64 (m.zu+((0:Nat):Int))):=by simp
 refine Xj (m.zw+1-m.zu).toNat (fun i e o=>∃ si,e=[(0,AV.iv (.ptr (wkC m))),(3,AV.cb 0),(5,AV.loc 5 0)]/\o=[(0,.ext si),(5,.box [.iv (.int .i64 (first.getD 0 0)),.iv (.int .i64 (first.getD 1 0)),.iv (.int .i64 (first.getD 2 0)),.iv (.int .i64 (m.zu+(i:Nat))),.iv (.int .i64 (Q7 id first))])] /\
  Q4 prog K ((Zo (QgH m first) i ((m.zw+1-m.zu).toNat-i)).map (qI m)) si b s') ?_ ?_ _ _ ⟨s,rfl,by simp,by simpa using hf⟩
 ·rintro e o ⟨si,rfl,rfl,hfd⟩
  have q1:m.zu+((m.zw+1-m.zu).toNat:Int)=m.zw+1:=by omega
  have q2:¬ m.zw+1<=m.zw:=by omega
  rw[QKK] at hfd;cases hfd;rw[q1,Qa QjU.eq_1];simp[q2]
 ·rintro i e o hi ⟨si,rfl,rfl,hfd⟩ ih
  have q1:m.zu+(i:Int)<=m.zw:=by omega
  have q3:m.zu+((i:Int)+1)=m.zu+i+1:=by omega
  have hos:okS m ⟨first,m.zu+i⟩:=⟨hlen,by simp only[inR];omega,hr⟩
  have e1:(m.zw+1-m.zu).toNat-i=((m.zw+1-m.zu).toNat-(i+1))+1:=by omega
  rw[e1] at hfd;simp only[Zo,QgH,QJE,QJC,QKE,List.singleton_append] at hfd;have hbl:=hm.blen;rw[Qa QjU.eq_1];simp[q1]
  (repeat' first | omega | (with_reducible apply And.intro) | intro _)
  refine Qw (fun k=>[(0,AV.iv (.ptr (wkC m))),(3,AV.cb 0),(5,AV.loc 5 0),(11,AV.iv (IV.int IntKind.i64 (ZP m (m.zk.take k) ⟨first,m.zu+i⟩:Nat))),(87,AV.iv (Ud m.zk)),(88,AV.iv (.int .i64 m.zk.length)),(89,AV.iv (IV.int IntKind.i64 (k:Nat)))])
   (fun k=>[(0,.ext si),(5,.box [.iv (.int .i64 (first.getD 0 0)),.iv (.int .i64 (first.getD 1 0)),.iv (.int .i64 (first.getD 2 0)),.iv (.int .i64 (m.zu+(i:Nat))),.iv (.int .i64 (Q7 id first))])]) m.zk.length (fun i=>True) trivial ?_ ?_
  ·intro _
   rw[Qa QjV.eq_1];simp;have hit:qI m ⟨first,m.zu+i⟩=[.agg (stC first (m.zu+i) (Q7 id first)),.int .i64 (ZP m m.zk ⟨first,m.zu+i⟩)]:=rfl
   rw[hit] at hfd;cases hfd with
   | stop _ _ _ _ hg =>
     refine QM (by simpa using hg) rfl ?_
     simp
   | next _ _ _ s1 _ _ hg hr2 =>
     refine QM (by simpa using hg) rfl ?_
     simp
     (repeat' first | omega | (with_reducible apply And.intro) | intro _)
     exact ih _ _ ⟨s1,rfl,by simp[q3],hr2⟩
  ·intro k hk _ ih2
   have hle:=QmC m (m.zk.take k) ⟨first,m.zu+i⟩
   simp at hle;rw[Qa QjV.eq_1];rw[QfU _ _ _ _ hk] at ih2;simp[hk] at ih2 |-;have hg:=QwU hK m ⟨first,m.zu+i⟩ m.zk[k] hm hos (QJo hk)
   refine cK (by simpa[den] using hg) ?_
   cases hrr:QdD m ⟨first,m.zu+i⟩ m.zk[k]
   ·simp[hrr] at ih2 |-
    grind
   ·simp[hrr] at ih2 |-
    grind
theorem QoW (m:Machine) (hm:OkM m):∀ (n:Nat) (first:List Int),first.length+n=m.zd.length->(∀ i (h:i<m.zd.length) (h':i<first.length),inR first[i] m.zd[i].lo m.zd[i].hi) ->
  qk prog K 342 [.ptr (wkC m),.agg (stC first 0 (Q7 id first)),.int .i64 first.length] [] ((QT m first (m.zd.drop first.length)).map (qI m)) (fun b=>.bool b)
 | 0,first,hn,hr=>by
   have e1:m.zd.drop first.length=[]:=QJ6 (by omega)
   rw[e1];exact Qg4 hK m hm first 0 (by omega) hr
 | n+1,first,hn,hr=>by
   have ihn:=QoW m hm n;have xa:first.length<m.zd.length:=by omega
   have hl3:=hm.len;have e1:m.zd.drop first.length=m.zd[first.length]::m.zd.drop (first.length+1):=QJU xa
   have hlv:=hm.lever (QJo xa);rw[e1,Qai]
   have hpb:∀ x:Int,inR x m.zd[first.length].lo m.zd[first.length].hi->1<=Q7 id (first++[x])/\Q7 id (first++[x])<=1000000000:=fun x hx=>by
    refine QbV _ _ (fun a ha=>?_) (by simp;omega)
    simp only[inR] at hx;rcases QJG.1 ha with ha | ha
    ·obtain ⟨k,hk,rfl⟩:=QJR ha
     have h1:=hr k (by omega) hk
     have h2:=hm.lever (QJo (show k<m.zd.length by omega))
     simp only[inR,id] at *;omega
    grind
   have ih2:∀ i:Nat,m.zd[first.length].lo+(i:Int)<=m.zd[first.length].hi->qk prog K 342 [.ptr (wkC m),.agg (stC (first++[m.zd[first.length].lo+(i:Int)]) 0 (Q7 id (first++[m.zd[first.length].lo+(i:Int)]))),.int .i64 (first.length+1:Nat)] []
     (((fun i:Nat=>QT m (first++[m.zd[first.length].lo+(i:Nat)]) (m.zd.drop (first.length+1))) i).map (qI m)) (fun b=>.bool b):=fun i hi=>by
    have:=ihn (first++[m.zd[first.length].lo+(i:Int)]) (by simp;omega) (fun k h h'=>by
     rcases QKu k first.length with hk | hk
     ·grind
     have:k=first.length:=by simp at h';omega
     subst this;simp only[List.getElem_append_right (QJn _),QKK,QKJ,inR];omega)
    grind
   generalize (fun i:Nat=>QT m (first++[m.zd[first.length].lo+(i:Nat)]) (m.zd.drop (first.length+1)))=pc at *
   intro s b s' hf;refine Qt QqP (by simp) hf.v rfl ?_
   rw[Vt] at hf;have hlt':(first.length:Int)<m.zd.length:=by omega
   simp[xa]
   (repeat' first | omega | (with_reducible apply And.intro) | intro _)
   refine Xj (m.zd[first.length].hi+1-m.zd[first.length].lo).toNat (fun i e o=>∃ si,e=[(0,AV.iv (.ptr (wkC m))),(2,AV.iv (IV.int IntKind.i64 (first.length:Nat))),(3,AV.cb 0),(5,AV.loc 5 0),(9,AV.iv (.int .i64 (m.zd[first.length].lo+(i:Nat))))] /\
    o=[(0,.ext si),(5,.box [.iv (.int .i64 (first.getD 0 0)),.iv (.int .i64 (first.getD 1 0)),.iv (.int .i64 (first.getD 2 0)),.iv (.int .i64 0),.iv (.int .i64 (Q7 id first))])] /\
    Q4 prog K ((Zo pc i ((m.zd[first.length].hi+1-m.zd[first.length].lo).toNat-i)).map (qI m)) si b s') ?_ ?_ _ _ ⟨s,by simp,by simp,by simpa using hf⟩
   ·rintro e o ⟨si,rfl,rfl,hfd⟩
    have q1:m.zd[first.length].lo+((m.zd[first.length].hi+1-m.zd[first.length].lo).toNat:Int)=m.zd[first.length].hi+1:=by omega
    have q2:¬ m.zd[first.length].hi+1<=m.zd[first.length].hi:=by omega
    rw[QKK] at hfd;cases hfd;rw[q1,Qa QjW.eq_1];simp[xa,q2]
   ·rintro i e o hi ⟨si,rfl,rfl,hfd⟩ ih
    have q1:m.zd[first.length].lo+(i:Int)<=m.zd[first.length].hi:=by omega
    have q3:m.zd[first.length].lo+((i:Int)+1)=m.zd[first.length].lo+i+1:=by omega
    have e1:(m.zd[first.length].hi+1-m.zd[first.length].lo).toNat-i=((m.zd[first.length].hi+1-m.zd[first.length].lo).toNat-(i+1))+1:=by omega
    rw[e1] at hfd;simp only[Zo,QJE] at hfd;have hg:=ih2 i q1;have hb:=hpb (m.zd[first.length].lo+(i:Int)) (by simp only[inR];omega)
    have hpr:Q7 id (first++[m.zd[first.length].lo+(i:Int)])=Q7 id first*(m.zd[first.length].lo+(i:Int)):=QgF _ _ _
    rw[hpr] at hg hb;rw[Qa QjW.eq_1]
    have hcase:(∃ s1 b1,Q4 prog K ((pc i).map (qI m)) si b1 s1/\(b1=true->Q4 prog K ((Zo pc (i+1) ((m.zd[first.length].hi+1-m.zd[first.length].lo).toNat-(i+1))).map (qI m)) s1 b s')/\(b1=false->b=false/\s1=s')):=by
     rcases Q4.append hfd with ⟨s1,h1,h2⟩ | ⟨h1,h2⟩
     all_goals grind
    obtain ⟨s1,b1,f1,f2,f3⟩:=hcase;have hgx:=hg _ _ _ f1
    have hfl:first=[]\/(∃ a,first=[a])\/∃ a c,first=[a,c]:=by
     match first,xa,hl3 with
     | [],_,_=>exact .inl rfl
     | [a],_,_=>grind
     | [a,c],_,_=>grind
     | _::_::_::_,h,h'=>simp at h;omega
    rcases hfl with rfl | ⟨a,rfl⟩ | ⟨a,c,rfl⟩
    all_goals
     try simp only[QJH,QJy,QJB,Nat.reduceAdd] at xa
     try simp only[QJH,QJy,QJB,Nat.reduceAdd] at q1
     try simp only[QJH,QJy,QJB,Nat.reduceAdd] at q3
     try simp only[QJH,QJy,QJB,Nat.reduceAdd] at hb
     try simp only[QJH,QJy,QJB,Nat.reduceAdd] at hgx
     try simp only[QJH,QJy,QJB,Nat.reduceAdd] at ih
     try simp only[QJH,QJy,QJB,Nat.reduceAdd] at f2
     try simp only[QJH,QJy,QJB,Nat.reduceAdd] at hlt'
     try simp only[QJH,QJy,QJB,Nat.reduceAdd] at hlv
     try simp only[QJH,QJy,QJB,Nat.reduceAdd]
     simp[q1,xa]
     (repeat' first | omega | (with_reducible apply And.intro) | intro _)
     refine Zc (by simpa using hgx) rfl ?_
     cases b1
     ·obtain ⟨rfl,rfl⟩:=f3 rfl
      simp
     ·simp
      (repeat' first | omega | (with_reducible apply And.intro) | intro _)
      exact ih _ _ ⟨s1,by simp[q3],by simp,f2 rfl⟩
omit hK
section
variable {K:World->Prop}
def stI (s:Qd):List IV:=[.agg (stC s.zy s.zx (den s))]
theorem QbK {m:Machine} {ks:Env} (hks:QZ [2,3] [0,3] ks=[(2,.iv (.ptr [.ptr (wkC m)])),(3,.loc 3 0)]) :
  ∀ (Ls:List Qd) (s:Ext) (b:Bool) (s':Ext),Q4 prog K ((Ls.filter fun t=>decide ((ZP m m.zk t:Int)<=m.zh)).map stI) s b s' ->
   ∃ wy,(wy=.fall\/wy=.ret)/\VB prog K [8,9] qd QcO [2,3] [0,3] (QZ [2,3] [0,3] ks) (Ls.map (qI m)) [(0,.ext s),(3,.box [.cb 0])] wy [(0,.ext s'),(3,.box [.cb 0])]
 | [],s,b,s',h=>by
   cases h;exact ⟨.fall,.inl rfl,.nil _⟩
 | t::Ls,s,b,s',h=>by
   by_cases ht:(ZP m m.zk t:Int)<=m.zh
   ·rw[QKq (by simpa using ht)] at h
    cases h with
    | stop _ _ _ _ hg =>
      refine ⟨.ret,.inr rfl,.stop _ _ _ _ _ (by simp) ?_⟩
      rw[hks];refine ⟨rfl,?_⟩;simp[qI,qd,QcO,ht];refine QM (by simpa[stI] using hg) rfl ?_
      simp
    | next _ _ _ s1 _ _ hg hr =>
      obtain ⟨wy,h1,h2⟩:=QbK hks Ls s1 b s' hr;refine ⟨wy,h1,.next _ _ _ _ _ _ ?_ h2⟩;rw[hks];refine ⟨rfl,?_⟩;simp[qI,qd,QcO,ht];refine QM (by simpa[stI] using hg) rfl ?_
      simp
   ·rw[QKr (by simpa using ht)] at h
    obtain ⟨wy,h1,h2⟩:=QbK hks Ls s b s' h;refine ⟨wy,h1,.next _ _ _ _ _ _ ?_ h2⟩;rw[hks];refine ⟨rfl,?_⟩;simp[qI,qd,QcO,ht]
theorem Qga (m:Machine):QX m [] m.zd=(QT m [] m.zd).filter fun t=>decide ((ZP m m.zk t:Int)<=m.zh):=by
 unfold QX;refine List.filter_congr fun s hs=>?_
 have:=Qdz hs;simp[WT,this]
end
include hK
theorem Qwy (m:Machine) (hm:OkM m):ql prog K 275 [.ptr (wkC m)] [] ((QT m [] m.zd).map (qI m)):=by
 intro s b s' hf;have h:=QoW hK m hm m.zd.length [] (by simp) (fun i h h'=>by simp at h')
 simp only[QJH,List.drop_zero] at h;have hgx:=h _ _ _ hf;refine Qt (fk func275 QGK (by kernel_rfl)) (by simp) hf.v rfl ?_
 simp;refine Zc (by simpa[Q7] using hgx) rfl ?_
 simp
theorem Qco (m:Machine) (hm:OkM m):ql prog K 196 [.ptr (wkC m)] [] ((QX m [] m.zd).map stI):=by
 intro s b s' hfd;refine Qt (fk func196 QHO (by kernel_rfl)) (by simp) hfd.v rfl ?_
 rw[Qga] at hfd;obtain ⟨wy,h1,h2⟩:=QbK (m:=m) (ks:=[(2,.iv (.ptr [.ptr (wkC m)])),(3,.loc 3 0)]) rfl (QT m [] m.zd) s b s' hfd;simp;refine QN (wy:=wy) (o':=[(0,.ext s'),(3,.box [.cb 0])]) rfl (by kernel_rfl) (Qwy hK m hm) (by simpa using h2) ?_
 rcases h1 with rfl | rfl<;>simp
theorem Qjj (m:Machine) (is:Bool) (hl:m.zd.length<=1000) (hb:m.zk.length<=1000):Gd K 194 [maV m,.bool is] (.xd [if tE m is=0 then .ptr (wkC m) else .nilp,.int .i64 (tE m is)]):=by
 refine Qb hK (fk func194 QHQ (by kernel_rfl)) (by simp) ?_
 simp;refine cK (QpB hK m hl hb) ?_;by_cases h1:OkM m
 ·cases is
  ·simp[h1,tE]
  simp[h1];refine cK (Qxw hK m h1) ?_;simp;cases hL:QX m [] m.zd with
  | nil =>
    refine QN (wy:=.fall) (o':=[(4,.box [.iv .nilp]),(5,.box [.iv (.int .i64 0)]),(7,.box [.iv (.ptr (wkC m))])]) rfl (by kernel_rfl) (Qco hK m h1) (by rw[hL];simpa using VB.nil _) ?_
    simp[tE,h1,hL]
  | cons a r =>
    refine QN (wy:=.ret) (o':=[(4,.box [.iv (.ptr (wkC m))]),(5,.box [.iv (.int .i64 0)]),(7,.box [.iv (.ptr (wkC m))])]) rfl (by kernel_rfl) (Qco hK m h1) (by
     rw[hL];refine .stop _ _ _ _ _ (by simp) ?_
     refine ⟨rfl,?_⟩;simp[stI,Qmr,Qq5]) ?_
    simp[tE,h1,hL]
 ·simp[h1,tE]
theorem Qw3 (m:Machine) (hl:m.zd.length<=1000) (hb:m.zk.length<=1000) (hs:OkM m->sets m m.zd.length<=1000000):Gd K 347 [maV m] (.xd [.int .i64 (tL m true).length,.int .i64 (tE m true)]):=by
 refine Qb hK (fk func347 QF0 (by kernel_rfl)) (by simp) ?_
 simp;refine cK (Qjj hK m true hl hb) ?_;by_cases he:tE m true=0
 ·obtain ⟨hm,_,htl,hne⟩:=QvN he
  have hln:=Qld hm;have hln2:=hs hm;simp[he,htl];refine QN (wy:=.fall) (o':=[(2,.box [.iv (.int .i64 ((QX m [] m.zd).length:Nat))])]) rfl (by kernel_rfl) (Qco hK m hm) ?_ ?_
  ·have:=VB.all (P:=prog) (K:=K) (ps:=[15]) (asn:=Qfx) (body:=QjQ) (ks:=[2]) (ids:=[2]) (eK:=[(2,.loc 2 0)]) ((QX m [] m.zd).map stI) (fun i=>[(2,.box [.iv (.int .i64 (i:Int))])]) fun i x hi=>by
    simp only[QJq,QJm] at hi;obtain ⟨y,hy,rfl⟩:=hi;have xa:=(QJj.1 hy).1;refine ⟨rfl,?_⟩;simp[stI,Qfx,QjQ];omega
   simpa using this
  simp
 ·have:tL m true=[]:=by
   unfold tE at he;unfold tL
   grind
  simp[he,this]
omit hK
@[simp] theorem QCO:span []=(0,0):=rfl
theorem Qz8 {m:Machine} {is:Bool} (h:¬ tE m is=0):tL m is=[]:=by
 unfold tE at h;unfold tL
 grind
def QiQ (m:Machine) (mn load:Int) (s:Qd):Int:=(load*den s+VA m-1).tdiv (VA m)-U4 m s.zx 0 mn
def UD (m:Machine) (mn load:Int) (l:List Qd):Int:=l.foldl (fun b s=>max b (QiQ m mn load s)) 0
theorem Qr1 (m:Machine) (mn load:Int) (l:List Qd) (w:Int) (hw:0<=w):UD m mn load l<=w↔∀ s∈l,QiQ m mn load s<=w:=by
 have:∀ (l:List Qd) (b:Int),(l.foldl (fun b s=>max b (QiQ m mn load s)) b<=w↔b<=w/\∀ s∈l,QiQ m mn load s<=w):=by
  intro l
  induction l with
  | _=>grind
 have h:=this l 0;simpa[UD,hw] using h
theorem Qat (m:Machine) (mn load:Int) (l:List Qd):0<=UD m mn load l:=by
 have:∀ (l:List Qd) (b:Int),b<=l.foldl (fun b s=>max b (QiQ m mn load s)) b:=by
  intro l
  induction l with
  | _=>grind
 exact this l 0
theorem QlL {m:Machine} (hm:OkM m) {s:Qd} (hs:okS m s) {mn load w:Int} (hmn:inR mn 0 99) (hld:inR load 0 999999999):QiQ m mn load s<=w↔load*den s<=num m s w mn:=by
 have ha:=hm.aboveB;have hd:=hm.denB hs;simp only[inR] at hld;have hn:=QKi hld.1 (Int.le_trans (by omega) hd.1)
 have e1:num m s w mn=(w+U4 m s.zx 0 mn)*VA m:=by
  unfold num U4
  congr 1
  omega
 unfold QiQ;rw[e1,QJS (by omega)]
 generalize U4 m s.zx 0 mn=r;generalize load*den s=N at *;generalize VA m=A at *;have e2:=Int.emod_def (N+A-1) A;have e3:=Int.emod_nonneg (N+A-1) (b:=A) (by omega)
 have e4:=Int.emod_lt_of_pos (N+A-1) (b:=A) (by omega)
 generalize (N+A-1) / A=Q at *;constructor
 ·intro h
  have h1:Q*A<=(w+r)*A:=QKf (by omega) (by omega)
  grind
 ·intro h
  apply Int.not_lt.1;intro xa;have h1:(w+r+1)*A<=Q*A:=QKf (by omega) (by omega)
  grind
theorem QiJ {m:Machine} (hm:OkM m) {l:List Qd} (hs:∀ s∈l,okS m s) {mn load:Int} (hmn:inR mn 0 99) (hld:inR load 0 999999999):Vw m l mn load=min (UD m mn load l) 10000:=by
 have h0:=Qat m mn load l
 have xc:∀ w,0<=w->(Xc m l w mn load↔UD m mn load l<=w):=fun w hw=>by
  rw[Qr1 m mn load l w hw];exact ⟨fun h s hsl=>(QlL hm (hs s hsl) hmn hld).2 (h s hsl),fun h s hsl=>(QlL hm (hs s hsl) hmn hld).1 (h s hsl)⟩
 refine QgZ (by omega) (fun h=>(xc _ (by omega)).2 (by omega)) (fun w h1 h2=>fun c=>?_)
 grind
include hK
theorem QpG (m:Machine) (w mn:Int) (hl:m.zd.length<=1000) (hb:m.zk.length<=1000):Gd K 109 [maV m,.int .i64 w,.int .i64 mn] (.xd [.agg [.int .i64 (JS m w mn).1,.int .i64 (JS m w mn).2],.int .i64 (tE m (qh w mn 0))]):=by
 refine Qb hK (fk func109 QIJ (by kernel_rfl)) (by simp) ?_
 simp;refine cK (Qji hK w mn 0) ?_;have hask:decide (inR w 0 9999/\inR mn 0 99/\inR 0 0 999999999)=qh w mn 0:=rfl;rw[hask];simp;refine cK (Qjj hK m (qh w mn 0) hl hb) ?_;unfold JS;by_cases he:tE m (qh w mn 0)=0;rotate_left
 ·have:=Qz8 he
  simp[he,this]
 ·obtain ⟨hm,ha,htl,hne⟩:=QvN he
  have ha:=of_decide_eq_true ha;rw[htl];simp[he];refine QN (wy:=.fall) (o':=[(6,.box [.iv (.int .i64 0),.iv (.int .i64 0)]),(8,.box [.iv (.ptr (wkC m))]),(10,.box [.iv (.int .i64 (span ((QX m [] m.zd).map (Qcb m w mn))).1),.iv (.int .i64 (span ((QX m [] m.zd).map (upS m w mn))).2)]),(11,.box [.iv (.bool (decide ((QX m [] m.zd).length=0)))])]) rfl (by kernel_rfl) (Qco hK m hm) ?_ ?_
  ·have hok:∀ s∈QX m [] m.zd,okS m s:=fun s h=>(J7 h).1
   generalize QX m [] m.zd=l at *
   have:=VB.all (P:=prog) (K:=K) (ps:=[30]) (asn:=Qbg) (body:=QfK) (ks:=[4,5,6,8,10,11]) (ids:=[6,8,10,11]) (eK:=[(4,.iv (.ptr [.int .i64 w])),(5,.iv (.ptr [.int .i64 mn])),(6,.loc 6 0),(8,.loc 8 0),(10,.loc 10 0),(11,.loc 11 0)]) (l.map stI)
    (fun i=>[(6,.box [.iv (.int .i64 0),.iv (.int .i64 0)]),(8,.box [.iv (.ptr (wkC m))]),(10,.box [.iv (.int .i64 (span ((l.take i).map (Qcb m w mn))).1),.iv (.int .i64 (span ((l.take i).map (upS m w mn))).2)]),(11,.box [.iv (.bool (decide (i=0)))])]) fun i x hi=>by
    simp only[QJq,QJm] at hi;obtain ⟨y,hy,rfl⟩:=hi;obtain ⟨xa,rfl⟩:=QJj.1 hy;have hsi:=hok _ (QJo xa);have hn:=hm.numB hsi ha.1 ha.2.1;have hd:=hm.denB hsi;have td1:=Qbu hn.1 hd.1;have td2:=Qbu (a:=num m l[i] w mn+den l[i]-1) (b:=den l[i]) (by omega) (by omega)
    have hd0:¬ den l[i]=0:=by omega
    have hlow:Qcb m w mn l[i]=(num m l[i] w mn).tdiv (den l[i]):=rfl;have hup:upS m w mn l[i]=(num m l[i] w mn+den l[i]-1).tdiv (den l[i]):=rfl;have hnum:U4 m l[i].zx w mn*VA m=num m l[i] w mn:=rfl;rw[QJk xa,QJE,QKV,Qby,QJE,QKV,Qby];refine ⟨rfl,?_⟩;have hg:=Qjh hK m l[i] w mn hm hsi.2.1 ha.1 ha.2.1;by_cases h0:i=0
    ·subst h0
     simp[stI,Qbg,QfK];refine cK (by simpa using hg) ?_
     simp[hnum,hd0,hlow,hup];omega
    have hne1:¬ (l.take i).map (Qcb m w mn)=[]:=by
     intro c;have hli:((l.take i).map (Qcb m w mn)).length=i:=by simp;omega
     grind
    have hne2:¬ (l.take i).map (upS m w mn)=[]:=by
     intro c;have hli:((l.take i).map (upS m w mn)).length=i:=by simp;omega
     grind
    rw[if_neg hne1,if_neg hne2];generalize span ((l.take i).map (Qcb m w mn))=A at *;generalize span ((l.take i).map (upS m w mn))=B at *;simp[stI,Qbg,QfK,h0];refine cK (by simpa using hg) ?_
    simp[hnum,hd0,hlow,hup,QdL,QdM];omega
   simpa using this
  ·simp
theorem QxW (m:Machine) (mn load:Int) (hl:m.zd.length<=1000) (hb:m.zk.length<=1000):Gd K 216 [maV m,.int .i64 mn,.int .i64 load] (.xd [.int .i64 (JA m mn load).1,.int .i64 (JA m mn load).2]):=by
 refine Qb hK (fk func216 QHv (by kernel_rfl)) (by simp) ?_
 simp;refine cK (Qji hK 0 mn load) ?_;have hask:decide (inR 0 0 9999/\inR mn 0 99/\inR load 0 999999999)=qh 0 mn load:=rfl;rw[hask];simp;refine cK (Qjj hK m (qh 0 mn load) hl hb) ?_;unfold JA;by_cases he:tE m (qh 0 mn load)=0;rotate_left
 ·simp[he]
 ·obtain ⟨hm,ha,htl,hne⟩:=QvN he
  have ha:=of_decide_eq_true ha;have hok:∀ s∈QX m [] m.zd,okS m s:=fun s h=>(J7 h).1
  have hml:=QiJ hm hok ha.2.1 ha.2.2;have hmn:=Qat m mn load (QX m [] m.zd);rw[htl,hml];simp[he];refine QN (wy:=.fall) (o':=[(8,.box [.iv (.ptr (wkC m))]),(10,.box [.iv (.int .i64 (UD m mn load (QX m [] m.zd)))])]) rfl (by kernel_rfl) (Qco hK m hm) ?_ ?_
  ·clear hml hmn hne htl
   generalize QX m [] m.zd=l at *
   have:=VB.all (P:=prog) (K:=K) (ps:=[26]) (asn:=QfD) (body:=Qkt) (ks:=[4,5,8,10]) (ids:=[8,10]) (eK:=[(4,.iv (.ptr [.int .i64 mn])),(5,.iv (.ptr [.int .i64 load])),(8,.loc 8 0),(10,.loc 10 0)]) (l.map stI)
    (fun i=>[(8,.box [.iv (.ptr (wkC m))]),(10,.box [.iv (.int .i64 (UD m mn load (l.take i)))])]) fun i x hi=>by
    simp only[QJq,QJm] at hi;obtain ⟨y,hy,rfl⟩:=hi;obtain ⟨xa,rfl⟩:=QJj.1 hy;have hsi:=hok _ (QJo xa);have hd:=hm.denB hsi;have hab:=hm.aboveB;have hld:=ha.2.2;simp only[inR] at hld;have h4:=QKo hld.2 hd.2 (by omega) (by omega)
    have h5:=QKi hld.1 (Int.le_trans (by omega) hd.1)
    have td:=Qbu (a:=load*den l[i]+VA m-1) (b:=VA m) (by omega) (by omega)
    have ha0:¬ VA m=0:=by omega
    have hp:=(hm.zq (w:=0) hsi.2.1 (by simp[inR]) ha.2.1).2
    have hst:UD m mn load (l.take (i+1))=max (UD m mn load (l.take i)) ((load*den l[i]+VA m-1).tdiv (VA m)-U4 m l[i].zx 0 mn):=by
     unfold UD;rw[QJk xa,QKO];rfl
    rw[hst];refine ⟨rfl,?_⟩;have hg:=Qjh hK m l[i] 0 mn hm hsi.2.1 (by simp[inR]) ha.2.1
    generalize UD m mn load (l.take i)=A at *;simp[stI,QfD,Qkt,ha0]
    (repeat' first | omega | (with_reducible apply And.intro) | intro _)
    refine cK (by simpa using hg) ?_
    simp[QdM];omega
   simpa[UD] using this
  ·by_cases h9:9999<UD m mn load (QX m [] m.zd)
   ·have:9999<min (UD m mn load (QX m [] m.zd)) 10000:=by omega
    simp[h9,this]
   ·have:min (UD m mn load (QX m [] m.zd)) 10000=UD m mn load (QX m [] m.zd):=by omega
    simp[h9,this]
omit hK
def Z8 (ds:List Qu):List Qu:=ds.filter ZA
@[simp] def lkC (d:Qu):List IV:=[.int .i64 d.bar,.int .i64 d.z1]
@[simp] def YL (ds:List Qu) (e:Nat->Int) (pm:IV):List IV:=[QEp (QqE ds e ds.length),.sl 2 ((Z8 ds).map lkC),pm]
theorem Qcr (p:Qu->Bool):∀ (l:List Qu) (i k:Nat),(l.filter p)[k]?=((Yh p l i)[k]?).bind fun j=>l[j-i]?
 | [],i,k=>by simp[Yh]
 | d::l,i,k=>by
   have ih:=Qcr p l (i+1);have hge:∀ j∈Yh p l (i+1),i+1<=j:=fun j hj=>(qJ p l (i+1) j hj).1
   have sh:∀ k:Nat,((Yh p l (i+1))[k]?).bind (fun j=>l[j-(i+1)]?)=((Yh p l (i+1))[k]?).bind (fun j=>(d::l)[j-i]?):=fun k=>by
    cases hk:(Yh p l (i+1))[k]? with
    | none=>rfl
    | some j =>
      have:=hge j (QJx hk)
      grind
   by_cases hp:p d=true
   ·simp only[QKq hp,Yh,hp,if_true]
    grind
   simp only[QKr hp,Yh,hp]
   grind
theorem X7 (ds:List Qu):(Z8 ds).length=(VD ds).length:=by
 have:∀ (l:List Qu) (i:Nat),(l.filter ZA).length=(Yh ZA l i).length:=by
  intro l
  induction l with
  | nil=>intro i;rfl
  | cons d l ih =>
    intro i;by_cases hp:ZA d=true
    ·simp only[QKq hp,Yh,hp,if_true,QJy,ih (i+1)]
    simp only[QKr hp,Yh,hp,ih (i+1)];simp
 exact this ds 0
theorem qC (ds:List Qu) (k:Nat) (h:k<(Z8 ds).length):(Z8 ds)[k]=U6 ds k:=by
 have h':k<(VD ds).length:=by rw[<- X7];exact h
 have h1:=Qcr ZA ds 0 k;have h2:(VD ds)[k]<ds.length:=QrF (QJo h');have e:(Yh ZA ds 0)[k]?=some (VD ds)[k]:=QJi h';rw[e] at h1;simp only[Option.bind_some,Nat.sub_zero,QJi h2] at h1;have h3:(Z8 ds)[k]?=some ds[(VD ds)[k]]:=h1;rw[QJi h] at h3;injection h3 with h3
 rw[h3];simp[U6,List.getD_eq_getElem?_getD,h',h2]
include hK
theorem Qw5 (ds:List Qu) (e:Nat->Int) (pm:IV) (s:Yz) (hc:OkD ds ds.length) (hl:ds.length<=1000) (hs:Yg s ds):Gd K 341 [.agg (YL ds e pm),.agg (sC s)] (.bool (QdE ds e s)):=by
 refine Qb hK (fk func341 QF6 (by kernel_rfl)) (by simp) ?_
 obtain ⟨s1,s2,s3,s4,s5⟩:=hs;simp only[inR] at s1 s2 s3;have xa:s.after.toNat<ds.length+1:=by omega
 have hcl:=Xb e hc s.after.toNat (by omega) (by omega)
 have hcg:=Qft ds e ds.length s.after.toNat (by omega)
 have hcb:=hc.cnt s.after.toNat (by omega) (by omega)
 have hclt:=W9 ds e s.after.toNat;have hww:=Qep ds s.after.toNat
 have hp:(if s.z2=1 then ((cab ds e s.after.toNat).length:Int)-1-s.pos else s.pos)=(plc s.pos s.z2 (cab ds e s.after.toNat).length:Nat):=by
  unfold plc;split<;>omega
 have hpl:plc s.pos s.z2 (cab ds e s.after.toNat).length<(cab ds e s.after.toNat).length:=Qop (by omega)
 simp[xa,hcg]
 (repeat' first | omega | (with_reducible apply And.intro) | intro _)
 refine cK (Qi4 hK s.pos s.z2 (cab ds e s.after.toNat).length (by omega) (by omega)) ?_
 rw[hp];have hr:QdE ds e s=Qlm ds s (cab ds e s.after.toNat):=rfl;rw[hr];unfold Qlm;generalize plc s.pos s.z2 (cab ds e s.after.toNat).length=at_ at *;generalize cab ds e s.after.toNat=now at *
 have h1:now[at_]<(Z8 ds).length:=by
  have:=hclt now[at_] (QJo hpl);rw[X7];omega
 have hm:U6 ds (now.getD at_ 0)=(Z8 ds)[now[at_]]:=by
  rw[qC ds _ h1]
  grind
 rw[hm];simp[hpl,h1]
 grind
theorem Qpp (ds:List Qu) (e:Nat->Int) (pm:IV) (ss:List Yz) (hc:OkD ds ds.length) (hl:ds.length<=1000) (hs:∀ s∈ss,Yg s ds) (hsl:ss.length<=1000):Gd K 273 [.agg (YL ds e pm),QD ss] (.int .i64 (QY ds ss e)):=by
 refine Qb hK (fk func273 QGM (by kernel_rfl)) (by simp) ?_
 simp;intro _;refine Qw (fun i=>[(2,AV.iv (.ptr (YL ds e pm))),(5,AV.iv (IV.int IntKind.i64 (QY ds (ss.take i) e:Nat))),(8,AV.iv (QD ss)),(9,AV.iv (.int .i64 ss.length)),(10,AV.iv (IV.int IntKind.i64 (i:Nat)))]) (fun _=>[]) ss.length (fun i=>True) trivial ?_ ?_
 ·intro _
  rw[Qa Qkg.eq_1];simp
 ·intro i hi _ ih
  have hle:=Qdm ds (ss.take i) e;simp at hle;rw[Qa Qkg.eq_1];rw[QfW _ _ _ _ hi] at ih;simp[hi] at ih |-;have hg:=Qw5 hK ds e pm ss[i] hc hl (hs _ (QJo hi));refine cK (by simpa using hg) ?_
  cases hr:QdE ds e ss[i]
  ·simp[hr] at ih |-
   grind
  ·simp[hr] at ih |-
   grind
theorem Qjl (ds:List Qu) (e:Nat->Int) (pm:IV) (hl:ds.length<=1000):Gd K 188 [.agg (YL ds e pm)] (Yr (cab ds e ds.length)):=by
 refine Qb hK (fk func188 QHW (by kernel_rfl)) (by simp) ?_
 have hcg:=Qft ds e ds.length ds.length (by omega)
 simp[hcg];omega
theorem Qi7 (left all n:Int) (h : -1000000<=left/\left<=1000000):Gd K 270 [.int .i64 left,.int .i64 all,.ptr [.int .i64 n]] (.bool (decide (inR n 0 (left-1)))):=by
 refine Qb hK (fk func270 QGP (by kernel_rfl)) (by simp) ?_
 simp
 (repeat' first | omega | (with_reducible apply And.intro) | intro _)
 exact cK (YI hK _ _ _) (by simp)
theorem Qjm (n:Int):Gd K 186 [.int .i64 n] (.clo 270 [] [.ptr [.int .i64 n]]):=by
 refine Qb hK (fk func186 QHY (by kernel_rfl)) (by simp) ?_
 simp
theorem QwT (a b:Int):Gd K 384 [.int .i64 a,.int .i64 b] (.bool true):=by
 refine Qb hK (fk func384 QFN (by kernel_rfl)) (by simp) ?_
 simp
theorem Qx8 (ds:List Qu) (e:Nat->Int) (pm:IV) (hl:ds.length<=1000) (n:Nat) (hn:n<(cab ds e ds.length).length):Gd K 187 [.agg (YL ds e pm),.ptr [.int .i64 n]] (.int .i64 ((cab ds e ds.length)[n]:Nat)):=by
 refine Qb hK (fk func187 QHX (by kernel_rfl)) (by simp) ?_
 simp;have hg:=Qjl hK ds e pm hl;refine cK (by simpa using hg) ?_
 simp[hn]
omit hK
def ZB (d:Qu):Bool:=decide (d.z2=2)
def QcQ:List Nat->Nat->List (MK × IV)
 | [],_=>[]
 | j::t,r=>(.int .i64 (j:Nat),.int .i64 (r:Nat))::QcQ t (r+1)
theorem Qmw (j:Nat):∀ (l:List Nat) (r:Nat),QcQ (l++[j]) r=QcQ l r++[(.int .i64 (j:Nat),.int .i64 ((r+l.length:Nat):Int))]
 | [],r=>by simp[QcQ]
 | a::l,r=>by
   have e:r+1+l.length=r+(l.length+1):=by omega
   simp only[QJ2,QcQ,Qmw j l (r+1),QJy,e]
@[simp] theorem Qmv:∀ (l:List Nat) (r:Nat),(QcQ l r).length=l.length
 | [],_=>rfl
 | _::l,r=>by simp[QcQ,Qmv l (r+1)]
theorem Qeg (j:Nat):∀ (l:List Nat) (r:Nat),j ∉ l->∀ y:IV,zn (.int .i64 (j:Nat)) y (QcQ l r)=QcQ l r++[(.int .i64 (j:Nat),y)]
 | [],_,_,y=>rfl
 | a::l,r,h,y=>by
   have h1:¬ a=j:=fun c=>h (by simp[c])
   have h2:=Qeg j l (r+1) (fun c=>h (by simp[c])) y
   have h3:¬ (MK.int .i64 (a:Nat)=MK.int .i64 (j:Nat)):=by simp;omega
   simp only[QcQ,zn,h3,if_false,h2,QJ2]
theorem QhK (j:Nat):∀ (l:List Nat) (r:Nat),j∈l->Qh (.int .i64 (j:Nat)) (QcQ l r)=some (.int .i64 ((r+l.idxOf j:Nat):Int))
 | a::l,r,h=>by
   by_cases h1:a=j
   ·subst h1;simp[QcQ,Qh]
   have h2:j∈l:=by
    grind
   have h3:¬ (MK.int .i64 (a:Nat)=MK.int .i64 (j:Nat)):=by simp;omega
   have e:r+1+l.idxOf j=r+(l.idxOf j+1):=by omega
   have hi:(a::l).idxOf j=l.idxOf j+1:=by
    grind
   simp only[QcQ,Qh,h3,if_false,QhK j l (r+1) h2,hi,e]
theorem qV:∀ (l:List Nat) (r:Nat),QK (.int .i64) (QcQ l r)
 | [],_=>trivial
 | _::l,r=>⟨rfl,qV l (r+1)⟩
def UJ (ds:List Qu):List Nat:=Yh ZB ds 0
theorem Qeb (ds:List Qu):(UJ ds).length=Xr ds:=by
 have:∀ (l:List Qu) (i:Nat),(Yh ZB l i).length=Xr l:=by
  intro l
  induction l with
  | nil=>intro i;rfl
  | cons d l ih =>
    intro i;by_cases h:d.z2=2
    ·simp[Yh,ZB,h,ih,Xr,QKB]
    simp[Yh,ZB,h,ih,Xr,QKB]
 exact this ds 0
@[simp] def Uc (c:Qg):List IV:=[QG c.za,QD c.zg,.int .i64 c.zh,.map (QcQ (UJ c.za) 0)]
include hK
theorem Qjk (c:Qg) (hl:c.za.length<=1000):Gd K 192 [chV c] (.agg (Uc c)):=by
 refine Qb hK (fk func192 QHS (by kernel_rfl)) (by simp) ?_
 simp;intro _
 refine Qw (fun i=>[(2,AV.loc 2 0),(3,AV.loc 3 0),(10,AV.iv (QG c.za)),(11,AV.iv (.int .i64 c.za.length)),(12,AV.iv (IV.int IntKind.i64 (i:Nat)))])
  (fun i=>[(2,.box [.iv (.sl 5 []),.iv (.sl 5 []),.iv (.int .i64 0),.iv (.map [])]),(3,.box [.iv (QG c.za),.iv (QD c.zg),.iv (.int .i64 c.zh),.yk 7]),(7,.xg (QcQ (Yh ZB (c.za.take i) 0) 0))]) c.za.length (fun i=>True) trivial ?_ ?_
 ·intro _
  rw[Qa QkB.eq_1];simp[UJ]
 ·intro i hi _ ih
  rw[Qha _ _ _ hi] at ih;rw[Qa QkB.eq_1]
  have hnm:i ∉ Yh ZB (c.za.take i) 0:=fun h=>by
   have:=qJ ZB (c.za.take i) 0 i h
   grind
  have hfr:=Qeg i (Yh ZB (c.za.take i) 0) 0 hnm;by_cases hw:c.za[i].z2=2
  ·rw[if_pos (by simp[ZB,hw]),Qmw] at ih
   simp[hi,hw] at ih |-;rw[hfr];have hkd:=qV (Yh ZB (c.za.take i) 0) 0
   grind
  ·simp[hi,ZB,hw] at ih |-
   grind
end Go.Pf
namespace Go.Ev
open Go Go.RowKit
section
variable {P:Program} {K:World->Prop}
theorem Vq {f:FuncId} {e:TypeId} {sz bytes:Nat}
  (hcl:∀ (b off n c:Nat) (news:List Value) (w:World),news.length=n*sz->n<=maxLen->n*bytes<=140737488355328->(∀ (j:Nat) (u:Value),news[j]?=some u->w.cell? ⟨b,off+j,none⟩=some u)->(∀ u∈news,u.oneCell'=true) ->
    Calls P f #[.slice (some ⟨b,off,none⟩) n c] w fun x w'=>∃ v',x=.returned v'/\w'.ownsRow w.heap.size e sz v' n news/\v'≠.slice none 0 0/\Below w.heap.size w w')
  (rows:List (List IV)) (hb:rows.length*bytes<=140737488355328) (hsz:∀ c∈rows,c.length=sz) (hne:rows≠[]):QhS P K f [.sl sz rows] (.yl 0 rows.length) e sz rows 0:=by
 intro w ok vs hk hnew hl hvs
 obtain ⟨v0,rfl⟩:∃ v0,vs=[v0]:=by
  match vs,hl with
  | [v],_=>exact ⟨v,rfl⟩
 have hrep:=hvs 0 _ v0 rfl rfl
 have fin:∀ (v':Value) (w':World) (news:List Value),w'.ownsRow w.heap.size e sz v' rows.length news->Below w.heap.size w w'->(∀ u∈news,u.oneCell'=true) ->
   (∀ (i j:Nat) (c:List IV) (x:IV) (u:Value),rows[i]?=some c->c[j]?=some x->news[i*sz+j]?=some u->QA ok w x u) ->
   ∃ v l,Ending.returned v'=.returned v/\QB (fun b=>b<w.heap.size) (okL ok (one (XC e sz rows 0)) (fun _=>l)) w' (one (XC e sz rows 0)) (fun _=>l) (XC e sz rows 0) l /\
    Qv (okL ok (one (XC e sz rows 0)) (fun _=>l)) w' (one (XC e sz rows 0)) (fun _=>l) (ren 0 (.yl 0 rows.length)) v/\Below w.heap.size w w':=by
  intro v' w' news hown hbel hone hcx;have hsl:=Jk hown;have hge:∀ b,v'.ownBlock=some b->w.heap.size<=b:=fun b h=>(hown.lt b h).1
  have hown0:w'.ownsRow 0 e sz v' rows.length news:=by
   obtain ⟨h1,h2⟩:=hown;refine ⟨h1,?_⟩
   grind
  refine ⟨v',.arr v' news,rfl,⟨⟨by grind,fun b h1 h2=>by grind⟩,QKv _,fun c hc=>?_,hone,fun i j c x u hi hj hu=>?_⟩,?_,hbel⟩
  ·grind
  ·rw[QJq,QJm] at hi
   obtain ⟨d,hd,rfl⟩:=hi;rw[QJq,QJm] at hj;obtain ⟨y,hy,rfl⟩:=hj;refine .iv _ _ ((hcx i j d y u hd hy hu).mono fun b hb xa=>⟨⟨hb,fun id o _ hh=>?_⟩,hbel.block b xa⟩)
   grind
  have:=Qv.yl (ok:=okL ok (one (XC e sz rows 0)) (fun _=>.arr v' news)) (w:=w') (lo:=one (XC e sz rows 0)) (L:=fun _=>.arr v' news) 0 e sz (rows.map (List.map AV.iv)) 0 v' news (by simp[one,XC]) rfl hsl
  rw[QJA] at this;exact this
 cases hrep with
 | sl _ _ b off cap u hlc hc hs hu hx =>
   refine (hcl b off rows.length cap ((List.range (rows.length*sz)).map u) w (by simp) (by omega) hb (fun j v hj=>?_) (fun v hv=>?_)).mono fun x w' ⟨v',hx',hown,_,hbel⟩=>?_
   all_goals grind
 | _=>grind
end
end Go.Ev
namespace Go.Pf
open Go Go.Ev Go.Proofs Go.RowKit Go.Shelf Go.Proofs.Tryz
set_option maxRecDepth 8000
noncomputable def QEh:TypeInfo:=(prog.info? 91).get (by kernel_rfl)
noncomputable def Qu6:TypeInfo:=(prog.info? 178).get (by kernel_rfl)
noncomputable def QAN:Value:=Qu6.zero.get (by kernel_rfl)
section
variable {K:World->Prop}
theorem clone84 (l:List Qu) (hl:l.length<=1000) (hne:l≠[]):Gp K 84 [QG l] (.yl 0 l.length) 91 5 (l.map dC) 0:=by
 have h:=Vq (P:=prog) (K:=K) (f:=84) (e:=91) (sz:=5) (bytes:=40) (AnyE.slices_Clone Tryz.clone84 QEh (.agg #[.int .i64 0,.int .i64 0,.int .i64 0,.int .i64 0,.int .i64 0]) 5 40 (by kernel_rfl) (by kernel_rfl) (by kernel_rfl) (by kernel_rfl) rfl (by decide) sizeOf91) (l.map dC) (by simp;omega) (by simp) (by simpa using hne)
 simpa using h
theorem clone86 (l:List Zy) (hl:l.length<=1000) (hne:l≠[]):Gp K 86 [ZD l] (.yl 0 l.length) 178 3 (l.map leC) 0:=by
 have h:=Vq (P:=prog) (K:=K) (f:=86) (e:=178) (sz:=3) (bytes:=24) (AnyE.slices_Clone Tryz.clone86 Qu6 QAN 3 24 (by kernel_rfl) (by kernel_rfl) (by kernel_rfl) (by kernel_rfl) (by kernel_rfl) (by decide) sizeOf178) (l.map leC) (by simp;omega) (by simp) (by simpa using hne)
 simpa using h
end
end Go.Pf
namespace Go.Pf
open Go Go.Ev Go.Proofs Go.RowKit Go.Proofs.Tryz
variable {K:World->Prop} (hK:∀ w w',K w->Below w.heap.size w w'->K w')
set_option maxRecDepth 8000
def Q2 (ds:List Qu) (n:Nat) (i:Nat):Int:=match ds[i]? with
 | some d=>if d.z2=2 then ((n.testBit ((UJ ds).idxOf i)).toNat:Int) else d.z2
 | none=>0
theorem Qmd (ds:List Qu) (n i:Nat) (h:i<ds.length):Q2 ds n i=if ds[i].z2=2 then ((n.testBit ((UJ ds).idxOf i)).toNat:Int) else ds[i].z2:=by
 simp[Q2,h]
theorem Qqb (ds:List Qu) (i:Nat) (h:i<ds.length) (h2:ds[i].z2=2):i∈UJ ds:=by
 have:∀ (l:List Qu) (k i:Nat) (h:i<l.length),l[i].z2=2->k+i∈Yh ZB l k:=by
  intro l
  induction l with
  | cons d l ih =>
    intro k i h h2;cases i with
    | zero =>
      have h3:d.z2=2:=h2;simp[Yh,ZB,h3]
    | succ i =>
      have:=ih (k+1) i (by simpa using h) (by simpa using h2)
      have e:k+1+i=k+(i+1):=by omega
      rw[e] at this;simp only[Yh]
      grind
  | _=>grind
 simpa[UJ] using this ds 0 i h h2
include hK
theorem Qw6 (c:Qg) (n i:Nat) (hn:n<2 ^ 63) (hi:i<c.za.length) (h2:c.za[i].z2=2):Gd K 340 [.int .i64 i,.ptr [.int .i64 n],.ptr (Uc c)] (.int .i64 (Q2 c.za n i)):=by
 refine Qb hK (fk func340 QF7 (by kernel_rfl)) (by simp) ?_
 have hf:=QhK i (UJ c.za) 0 (Qqb c.za i hi h2);have hkk:=qV (UJ c.za) 0;rw[Qmd _ _ _ hi,if_pos h2];simp only[QJB] at hf;simp[hkk,hf];exact Qzy n _ hn
omit hK
def XI (ds:List Qu) (pm:Nat->IV) (n:Nat):List IV:=[.agg (YL ds (Q2 ds n) (pm n))]
theorem Qv1 {n:Nat} (h:n<=12):Qv2 IntKind.i64 1 (n:Int)=((2 ^ n:Nat):Int):=by
 have:n=0\/n=1\/n=2\/n=3\/n=4\/n=5\/n=6\/n=7\/n=8\/n=9\/n=10\/n=11\/n=12:=by omega
 rcases this with rfl | rfl | rfl | rfl | rfl | rfl | rfl | rfl | rfl | rfl | rfl | rfl | rfl<;>decide
include hK
theorem QoY (c:Qg) (pm:Nat->IV) (ht:Xr c.za<=12) (h201:∀ n:Nat,n<2 ^ Xr c.za->Gd K 339 [QG c.za,.clo 340 [] [.ptr [.int .i64 n],.ptr (Uc c)]] (.agg (YL c.za (Q2 c.za n) (pm n)))) :
  ql prog K 272 [.agg (Uc c)] [] ((List.range (2 ^ Xr c.za)).map (XI c.za pm)):=by
 intro s b s' hf;have hp:=J8 ht;refine Qt (fk func272 QGN (by kernel_rfl)) (by simp) hf.v rfl ?_
 have hlen:(QcQ (UJ c.za) 0).length=Xr c.za:=by rw[Qmv,Qeb]
 simp[Qeb,Qv1 ht];have hN:0<2 ^ Xr c.za:=Nat.pos_of_ne_zero (by simp)
 have hcast:((2:Int) ^ Xr c.za)=((2 ^ Xr c.za:Nat):Int):=by push_cast;rfl
 rw[hcast];generalize 2 ^ Xr c.za=N at *
 refine Xj N (fun i e o=>∃ si,e=[(1,AV.cb 0),(2,AV.iv (.ptr (Uc c))),(8,AV.iv (.int .i64 (N:Nat))),(9,AV.iv (.int .i64 (i:Nat)))]/\o=[(0,.ext si)] /\
  Q4 prog K (((List.range N).drop i).map (XI c.za pm)) si b s') ?_ ?_ _ _ ⟨s,rfl,rfl,by simpa using hf⟩
 ·rintro e o ⟨si,rfl,rfl,hfd⟩
  rw[QJ6 (by simp)] at hfd
  cases hfd;rw[Qa Qkh.eq_1];simp
 ·rintro i e o hi ⟨si,rfl,rfl,hfd⟩ ih
  rw[QJU (by simpa using hi)] at hfd
  simp only[List.getElem_range,QJC] at hfd;have hg:=h201 i hi;rw[Qa Qkh.eq_1];simp[hi];refine QhP _ _ _ _ _ _ _ _ ?_;simp;refine cK (by simpa using hg) ?_
  have hst:XI c.za pm i=[.agg (YL c.za (Q2 c.za i) (pm i))]:=rfl;rw[hst] at hfd;simp;cases hfd with
  | stop _ _ _ _ hg =>
    refine QM (by simpa using hg) rfl ?_
    simp
  | next _ _ _ s1 _ _ hg hr =>
    refine QM (by simpa using hg) rfl ?_
    simp
    (repeat' first | omega | (with_reducible apply And.intro) | intro _)
    exact ih _ _ ⟨s1,by simp,rfl,hr⟩
omit hK
section
variable {K:World->Prop}
def Qp (c:Qg):List Nat:=(List.range (2 ^ Xr c.za)).filter fun n=>decide ((QY c.za c.zg (Q2 c.za n):Int)<=c.zh)
theorem QbJ (hK:∀ w w',K w->Below w.heap.size w w'->K w') {c:Qg} (hc:OkC c) {pm:Nat->IV} {ks:Env} (hks:QZ [2,3] [0,3] ks=[(2,.iv (.ptr (Uc c))),(3,.loc 3 0)]) :
  ∀ (Ls:List Nat) (s:Ext) (b:Bool) (s':Ext),Q4 prog K ((Ls.filter fun n=>decide ((QY c.za c.zg (Q2 c.za n):Int)<=c.zh)).map (XI c.za pm)) s b s' ->
   ∃ wy,(wy=.fall\/wy=.ret)/\VB prog K [7] qc QcM [2,3] [0,3] (QZ [2,3] [0,3] ks) (Ls.map (XI c.za pm)) [(0,.ext s),(3,.box [.cb 0])] wy [(0,.ext s'),(3,.box [.cb 0])]
 | [],s,b,s',h=>by
   cases h;exact ⟨.fall,.inl rfl,.nil _⟩
 | t::Ls,s,b,s',h=>by
   have hl:=hc.len;have hsl:=hc.slen;have hw:=Qpp hK c.za (Q2 c.za t) (pm t) c.zg hc.za (by omega) hc.zg (by omega)
   by_cases ht:(QY c.za c.zg (Q2 c.za t):Int)<=c.zh
   ·rw[QKq (by simpa using ht)] at h
    cases h with
    | stop _ _ _ _ hg =>
      refine ⟨.ret,.inr rfl,.stop _ _ _ _ _ (by simp) ?_⟩
      rw[hks];refine ⟨rfl,?_⟩;simp[XI,qc,QcM];refine cK (by simpa using hw) ?_
      simp[ht];refine QM (by simpa[XI] using hg) rfl ?_
      simp
    | next _ _ _ s1 _ _ hg hr =>
      obtain ⟨wy,h1,h2⟩:=QbJ hK hc hks Ls s1 b s' hr;refine ⟨wy,h1,.next _ _ _ _ _ _ ?_ h2⟩;rw[hks];refine ⟨rfl,?_⟩;simp[XI,qc,QcM];refine cK (by simpa using hw) ?_
      simp[ht];refine QM (by simpa[XI] using hg) rfl ?_
      simp
   ·rw[QKr (by simpa using ht)] at h
    obtain ⟨wy,h1,h2⟩:=QbJ hK hc hks Ls s b s' h;refine ⟨wy,h1,.next _ _ _ _ _ _ ?_ h2⟩;rw[hks];refine ⟨rfl,?_⟩;simp[XI,qc,QcM];refine cK (by simpa using hw) ?_
    simp[ht]
end
def QhQ (K:World->Prop) (c:Qg) (pm:Nat->IV):Prop:=∀ n:Nat,n<2 ^ Xr c.za->Gd K 339 [QG c.za,.clo 340 [] [.ptr [.int .i64 n],.ptr (Uc c)]] (.agg (YL c.za (Q2 c.za n) (pm n)))
theorem U0 (ds:List Qu):Xr ds<=ds.length:=QJ4
include hK
theorem qH (c:Qg) (hc:OkC c) (pm:Nat->IV) (ht:QhQ K c pm):ql prog K 269 [.agg (Uc c)] [] ((Qp c).map (XI c.za pm)):=by
 intro s b s' hfd;have h12:=hc.len;have htw:=U0 c.za;refine Qt (fk func269 QGQ (by kernel_rfl)) (by simp) hfd.v rfl ?_
 obtain ⟨wy,h1,h2⟩:=QbJ (pm:=pm) hK hc (ks:=[(2,.iv (.ptr (Uc c))),(3,.loc 3 0)]) rfl (List.range (2 ^ Xr c.za)) s b s' hfd;simp;refine QN (wy:=wy) (o':=[(0,.ext s'),(3,.box [.cb 0])]) rfl (by kernel_rfl) (QoY hK c pm (by omega) ht) (by simpa using h2) ?_
 rcases h1 with rfl | rfl<;>simp
noncomputable def Xn (c:Qg) (is:Bool):Int:=if OkC c then (if is=true then (if Qp c=[] then 3 else 0) else 1) else 20
theorem Qxx (c:Qg) (pm:Nat->IV) (ht:OkC c->QhQ K c pm) (g:FuncId) (fs cs:List IV) (is:Bool) (hg:OkC c->Gd K g (fs++[.int .i64 (Qs c.za),.int .i64 (Qbj c.za)]++cs) (.bool is)) (hcg:callee prog g=true) (hl:c.za.length<=1000) (hs:c.zg.length<=1000) :
  Gd K 268 [chV c,.clo g fs cs] (.xd [if OkC c/\is=true then .agg (Uc c) else .agg [.sl 5 [],.sl 5 [],.int .i64 0,.map []],.int .i64 (Xn c is)]):=by
 refine Qb hK QqV (by simp) ?_
 simp;refine cK (qM hK c hl hs) ?_;by_cases h1:OkC c
 ·simp[h1]
  refine cK (Qi8 hK c hl) ?_;simp;refine ⟨hcg,cK (by simpa using hg h1) ?_⟩
  cases is
  ·simp[Xn,h1]
  simp;refine cK (by simpa using Qjk hK c hl) ?_
  simp;cases hR:Qp c with
  | nil =>
    refine QN (wy:=.fall) (o':=[(4,.box [.iv (.sl 5 []),.iv (.sl 5 []),.iv (.int .i64 0),.iv (.map [])]),(5,.box [.iv (.int .i64 0)]),(7,.box [.iv (QG c.za),.iv (QD c.zg),.iv (.int .i64 c.zh),.iv (.map (QcQ (UJ c.za) 0))])]) rfl (by kernel_rfl) (qH hK c h1 pm (ht h1)) (by rw[hR];simpa using VB.nil _) ?_
    simp[Xn,h1,hR]
  | cons a r =>
    refine QN (wy:=.ret) (o':=[(4,.box [.iv (QG c.za),.iv (QD c.zg),.iv (.int .i64 c.zh),.iv (.map (QcQ (UJ c.za) 0))]),(5,.box [.iv (.int .i64 0)]),(7,.box [.iv (QG c.za),.iv (QD c.zg),.iv (.int .i64 c.zh),.iv (.map (QcQ (UJ c.za) 0))])]) rfl (by kernel_rfl) (qH hK c h1 pm (ht h1)) (by
     rw[hR];refine .stop _ _ _ _ _ (by simp) ?_
     refine ⟨rfl,?_⟩;simp[XI,QfB,Qki]) ?_
    simp[Xn,h1,hR]
 ·simp[h1,Xn]
theorem QsK (c:Qg) (pm:Nat->IV) (ht:OkC c->QhQ K c pm) (g:FuncId) (is:Bool) (hg:OkC c->Gd K g [.int .i64 (Qs c.za),.int .i64 (Qbj c.za)] (.bool is)) (hcg:callee prog g=true) (hl:c.za.length<=1000) (hs:c.zg.length<=1000) :
  Gd K 268 [chV c,.fn g] (.xd [if OkC c/\is=true then .agg (Uc c) else .agg [.sl 5 [],.sl 5 [],.int .i64 0,.map []],.int .i64 (Xn c is)]):=by
 refine Qb hK QqV (by simp) ?_
 simp;refine cK (qM hK c hl hs) ?_;by_cases h1:OkC c
 ·simp[h1]
  refine cK (Qi8 hK c hl) ?_;simp;refine ⟨hcg,cK (by simpa using hg h1) ?_⟩
  cases is
  ·simp[Xn,h1]
  simp;refine cK (by simpa using Qjk hK c hl) ?_
  simp;cases hR:Qp c with
  | nil =>
    refine QN (wy:=.fall) (o':=[(4,.box [.iv (.sl 5 []),.iv (.sl 5 []),.iv (.int .i64 0),.iv (.map [])]),(5,.box [.iv (.int .i64 0)]),(7,.box [.iv (QG c.za),.iv (QD c.zg),.iv (.int .i64 c.zh),.iv (.map (QcQ (UJ c.za) 0))])]) rfl (by kernel_rfl) (qH hK c h1 pm (ht h1)) (by rw[hR];simpa using VB.nil _) ?_
    simp[Xn,h1,hR]
  | cons a r =>
    refine QN (wy:=.ret) (o':=[(4,.box [.iv (QG c.za),.iv (QD c.zg),.iv (.int .i64 c.zh),.iv (.map (QcQ (UJ c.za) 0))]),(5,.box [.iv (.int .i64 0)]),(7,.box [.iv (QG c.za),.iv (QD c.zg),.iv (.int .i64 c.zh),.iv (.map (QcQ (UJ c.za) 0))])]) rfl (by kernel_rfl) (qH hK c h1 pm (ht h1)) (by
     rw[hR];refine .stop _ _ _ _ _ (by simp) ?_
     refine ⟨rfl,?_⟩;simp[XI,QfB,Qki]) ?_
    simp[Xn,h1,hR]
 ·simp[h1,Xn]
theorem Qpi (c:Qg) (pm:Nat->IV) (ht:OkC c->QhQ K c pm) (hl:c.za.length<=1000) (hs:c.zg.length<=1000):Gd K 345 [chV c] (.xd [.int .i64 (if Xn c true=0 then (Qp c).length else 0),.int .i64 (Xn c true)]):=by
 refine Qb hK (fk func345 QF2 (by kernel_rfl)) (by simp) ?_
 simp;refine cK (QsK hK c pm ht 384 true (fun _=>QwT hK _ _) (by kernel_rfl) hl hs) ?_
 by_cases he:Xn c true=0;rotate_left
 ·by_cases h1:OkC c<;>simp[he,h1]
 ·have h1:OkC c:=by
   unfold Xn at he
   grind
  have hlen:(Qp c).length<=4096:=by
   have h1':=QJI (fun n=>decide ((QY c.za c.zg (Q2 c.za n):Int)<=c.zh)) (List.range (2 ^ Xr c.za))
   have h2':=J8 (n:=Xr c.za) (by have:=U0 c.za;have:=h1.len;omega)
   simp at h1';unfold Qp;omega
  simp[he,h1];refine QN (wy:=.fall) (o':=[(6,.box [.iv (.int .i64 ((Qp c).length:Nat))])]) rfl (by kernel_rfl) (qH hK c h1 pm (ht h1)) ?_ ?_
  ·have:=VB.all (P:=prog) (K:=K) (ps:=[17]) (asn:=Qfy) (body:=QjS) (ks:=[6]) (ids:=[6]) (eK:=[(6,.loc 6 0)]) ((Qp c).map (XI c.za pm)) (fun i=>[(6,.box [.iv (.int .i64 (i:Int))])]) fun i x hi=>by
    simp only[QJq,QJm] at hi;obtain ⟨y,hy,rfl⟩:=hi;have xa:=(QJj.1 hy).1;refine ⟨rfl,?_⟩;simp[XI,Qfy,QjS];omega
   simpa using this
  ·simp
theorem Qpj (d:Qu):Gd K 344 [.agg (dC d)] (.bool (ZB d)):=by
 refine Qb hK (fk func344 QF3 (by kernel_rfl)) (by simp) ?_
 simp[ZB]
omit hK
def XS (m:Machine) (n:Int):Machine:={ m with zu:=n,zw:=n }
noncomputable def Qaq (m:Machine) (k:Nat):List Machine:=if tE (XS m (m.zu+k)) true=0 then [XS m (m.zu+k)] else []
def Qg6 (m:Machine):List IV:=[maV m]
include hK
theorem Qg5 (m:Machine) (hl:m.zd.length<=1000) (hb:m.zk.length<=1000) (hr:inR m.zu 0 m.zw) (hr2:m.zw<=20) (hs:∀ n,OkM (XS m n)->sets (XS m n) m.zd.length<=1000000) :
  qk prog K 279 [maV m,.int .i64 m.zd.length] [] ((acc (Qaq m) (m.zw+1-m.zu).toNat).map Qg6) (fun b=>.bool b):=by
 intro s b s' hf;refine Qt QqS (by simp) hf.v rfl ?_
 rw[Vt] at hf;simp only[inR] at hr;simp;intro _
 refine Xj (m.zw+1-m.zu).toNat (fun i e o=>∃ si x y,e=[(2,AV.cb 0),(3,AV.iv (.ptr [ZD m.zd,.int .i64 m.zr,.int .i64 m.zu,.int .i64 m.zw,Ud m.zk,.int .i64 m.zh])),(7,AV.loc 7 0),(8,AV.iv (.int .i64 (m.zu+(i:Nat))))] /\
  o=[(0,.ext si),(7,.box [.iv (ZD m.zd),.iv (.int .i64 m.zr),.iv (.int .i64 x),.iv (.int .i64 y),.iv (Ud m.zk),.iv (.int .i64 m.zh)])] /\
  Q4 prog K ((Zo (Qaq m) i ((m.zw+1-m.zu).toNat-i)).map Qg6) si b s') ?_ ?_ _ _ ⟨s,m.zu,m.zw,by simp,by simp,by simpa using hf⟩
 ·rintro e o ⟨si,x,y,rfl,rfl,hfd⟩
  have q1:m.zu+((m.zw+1-m.zu).toNat:Int)=m.zw+1:=by omega
  have q2:¬ m.zw+1<=m.zw:=by omega
  rw[QKK] at hfd;cases hfd;rw[q1,Qa Qkb.eq_1];simp[q2]
 ·rintro i e o hi ⟨si,x,y,rfl,rfl,hfd⟩ ih
  have q1:m.zu+(i:Int)<=m.zw:=by omega
  have q3:m.zu+((i:Int)+1)=m.zu+i+1:=by omega
  have e1:(m.zw+1-m.zu).toNat-i=((m.zw+1-m.zu).toNat-(i+1))+1:=by omega
  rw[e1] at hfd;simp only[Zo,QJE] at hfd;have hg:=Qw3 hK (XS m (m.zu+i)) hl hb (hs _);rw[Qa Qkb.eq_1];simp[q1];refine YO (by simpa[XS] using hg) (.inr rfl) ?_
  by_cases he:tE (XS m (m.zu+i)) true=0
  ·have hp:Qaq m i=[XS m (m.zu+i)]:=by simp[Qaq,he]
   rw[hp] at hfd;simp only[QJC,QKE,List.singleton_append] at hfd;have he':=he;simp only[XS] at he';simp[he'];cases hfd with
   | stop _ _ _ _ hg =>
     refine QM (by simpa[Qg6,XS] using hg) rfl ?_
     simp
   | next _ _ _ s1 _ _ hg hr2 =>
     refine QM (by simpa[Qg6,XS] using hg) rfl ?_
     simp
     (repeat' first | omega | (with_reducible apply And.intro) | intro _)
     exact ih _ _ ⟨s1,m.zu+i,m.zu+i,by simp[q3],by simp,hr2⟩
  ·have hp:Qaq m i=[]:=by simp[Qaq,he]
   rw[hp] at hfd;simp only[QKE,QJ0] at hfd;have he':=he;simp only[XS] at he';simp[he']
   (repeat' first | omega | (with_reducible apply And.intro) | intro _)
   exact ih _ _ ⟨si,m.zu+i,m.zu+i,by simp[q3],by simp,hfd⟩
end Go.Pf
namespace Go.Ev
open Go Go.RowKit Go.Sort
section
variable {P:Program} {K:World->Prop}
@[reducible] def Zk (zs:List Int) (mv:Nat):AO:=.arr 3 1 (zs.map fun z=>[AV.iv (.int .i64 z)]) mv
@[reducible] def QnL (zs:List Int):IV:=.sl 1 (zs.map fun z=>[IV.int .i64 z])
theorem Qca {w:World} {g:Nat} {f:Array Value->Array Value} {c:Array Value} {e:TypeId} {fr:Nat × Nat} (h:w.heap[g]?=some (.cells c e fr)):(mapBlock w g f).heap[g]?=some (.cells (f c) e fr):=by
 simp only[mapBlock,QKL,if_true,h,QKg,onCells]
theorem QiO {w:World} {g k:Nat} {f:Array Value->Array Value} (h:k≠g):(mapBlock w g f).heap[k]?=w.heap[k]?:=by
 simp only[mapBlock,QKL,if_neg (Ne.symm h)]
theorem QeY {w:World} {g:Nat} {f:Array Value->Array Value}:(mapBlock w g f).heap.size=w.heap.size:=by
 simp only[mapBlock,Array.size_modify]
theorem XP {Fr:Nat->Prop} {w:World} {g:Nat} {f:Array Value->Array Value} (h:¬ Fr g):Q3 Fr w (mapBlock w g f) :=
 ⟨rfl,rfl,rfl,by rw[QeY];omega,fun k hk=>QiO fun e=>h (e▸hk)⟩
theorem ZZ {Fr:Nat->Prop} {g:Nat} (h:¬ Fr g):∀ (vs:List Value) (o:Nat) (w:World),Q3 Fr w (w.setCells g o vs)
 | [],_,w=>Q3.refl _ _
 | v::r,o,w=>by
   rw[World.setCells];have h1:Q3 Fr w (w.setCell ⟨g,o,none⟩ v):=by rw[setCell_eq];exact XP h
   have h2:=ZZ h r (o+1) (w.setCell ⟨g,o,none⟩ v);exact ⟨h2.os.trans h1.os,h2.tape.trans h1.tape,h2.output.trans h1.output,QJ7 h1.size h2.size,fun k hk=>(h2.block k hk).trans (h1.block k hk)⟩
theorem Qej (w:World) (o:Obj):Q3 (fun b=>b<w.heap.size) w (w.alloc o) :=
 ⟨rfl,rfl,rfl,by show _<=(w.heap.push o).size;grind,fun k hk=>by
  show (w.heap.push o)[k]?=_
  grind⟩
structure Qdj (w:World) (v:Value) (zs:List Int) (g cap:Nat) (cur:Array Value):Prop where
 v:v=.slice (some ⟨g,0,none⟩) zs.length cap
 at_:w.heap[g]?=some (.cells cur 3 (0,0))
 le:zs.length<=cap
 max:cap<=maxLen
 size:cur.size=cap
 take:cur.toList.take zs.length=zs.map (.int .i64)
theorem Qdj.cell {w:World} {v:Value} {zs:List Int} {g cap:Nat} {cur:Array Value} (h:Qdj w v zs g cap cur) (j:Nat):w.cell? ⟨g,j,none⟩=cur[j]?:=by
 simp[World.cell?,h.at_]
theorem Qdj.frozen {w:World} {v:Value} {zs:List Int} {g cap:Nat} {cur:Array Value} (h:Qdj w v zs g cap cur) (j:Nat):w.frozen? ⟨g,j,none⟩=false:=by
 simp[World.frozen?,h.at_]
theorem Qdj.get {w:World} {v:Value} {zs:List Int} {g cap:Nat} {cur:Array Value} (h:Qdj w v zs g cap cur) (j:Nat) (hj:j<zs.length):cur[j]?=some (.int .i64 zs[j]):=by
 have h1:(cur.toList.take zs.length)[j]?=some (.int .i64 zs[j]):=by rw[h.take];simp[hj]
 grind
theorem Qdj.holds {w:World} {v:Value} {zs:List Int} {g cap:Nat} {cur:Array Value} (h:Qdj w v zs g cap cur):Holds (Value.int .i64) w g 0 zs.toArray:=by
 intro j hj;have hj':j<zs.length:=by simpa using hj
 refine ⟨?_,by rw[QJB];exact h.frozen j⟩
 rw[QJB,h.cell,h.get j hj',getElem!_pos _ j hj];simp
theorem QdC {Fr ok:Nat->Prop} {w:World} {lo:Nat->Option AO} {L:Nat->Lay} {zs:List Int} {mv:Nat} {l:Lay} (h:QB Fr ok w lo L (Zk zs mv) l) :
  ∃ v xs,l=.arr v xs/\((v=.slice none 0 0/\zs=[])\/∃ g cap cur,Qdj w v zs g cap cur/\¬ Fr g):=by
 cases l with
 | arr v xs =>
   obtain ⟨⟨⟨h1,h2⟩,h3⟩,h4,h5,h6,h7⟩:=h;refine ⟨v,xs,rfl,?_⟩;simp only[QJA] at h1 h2;rcases h2 with ⟨h2,h8⟩ | ⟨g,cap,cur,h8,h9,h10,h11,h12,h13,h14⟩
   ·grind
   refine .inr ⟨g,cap,cur,⟨h8,h10,h11,h12,by omega,?_⟩,h3 g (by simp[h8,Value.ownBlock])⟩
   rw[QKG] at h14;rw[h14];refine QKP fun i=>?_
   by_cases hi:i<zs.length
   ·have hx:i<xs.length:=by omega
    rw[QJi hx];have:=h7 i 0 [AV.iv (.int .i64 zs[i])] (.iv (.int .i64 zs[i])) xs[i] (by simp[hi]) (by simp) (by simp[hx])
    cases this with
    | iv _ _ r =>
      generalize hz:xs[i]=z at r;cases r;simp[hi,hz]
   grind
 | _=>exact absurd h (by simp[QB])
theorem Qei {ok:Nat->Prop} {w:World} {lo:Nat->Option AO} {L:Nat->Lay} {zs:List Int} {mv id n:Nat} {v u:Value} {xs:List Value} (hid:lo id=some (Zk zs mv)) (hL:L id=.arr v xs) (hn:n=zs.length) (h:Qv ok w lo L (.yl id n) u):u=v:=by
 grind
theorem Uo {ok:Nat->Prop} {w:World} (zs:List Int) (b cap:Nat) (hcap:zs.length<=cap) (hmax:cap<=maxLen) (hb:ok b) (hc:∀ j z,zs[j]?=some z->w.cell? ⟨b,j,none⟩=some (.int .i64 z)) :
  QA ok w (QnL zs) (.slice (some ⟨b,0,none⟩) zs.length cap):=by
 have h:=QA.sl (ok:=ok) (w:=w) 1 (zs.map fun z=>[IV.int .i64 z]) b 0 cap (fun k=>.int .i64 (zs.getD k 0)) (by simpa using hcap) hmax (by simp) (fun k hk=>?_) (fun i j c x hi hj=>?_)
 ·simpa using h
 ·simp only[QJA,QKG] at hk
  refine ⟨hb,?_,rfl⟩
  grind
 ·rw[QJq,QJm] at hi
  obtain ⟨z,hz,rfl⟩:=hi;cases j with
  | zero =>
    simp at hj;subst hj;rw[QKG,QKx,List.getD_eq_getElem?_getD,hz];exact .int _ _
  | succ j=>simp at hj
theorem WQ {Fr ok:Nat->Prop} {w:World} {L:Nat->Lay}:QkZ Fr ok w (Qc []) L:=⟨by simp[Qc],by simp[Qc]⟩
theorem QeJ {f:FuncId}
  (he:∀ (a:Option Addr) (cap:Nat) (w:World),Calls P f #[.slice a 0 cap] w fun e w'=>e=.returned (.tuple #[])/\w'=w)
  (hr:∀ (blk off cap:Nat) (zs:List Int) (w:World),Holds (Value.int .i64) w blk off zs.toArray->zs.length<=9223372036854775807 ->
    Calls P f #[.slice (some ⟨blk,off,none⟩) zs.length cap] w fun e w'=>e=.returned (.tuple #[])/\∃ n,w'=putRow (Value.int .i64) (Sort.ahead w n) blk off zs.reverse.toArray)
  (zs:List Int) (mv:Nat):YA P K f [.yl 0 zs.length] [(0,Zk zs mv)] [0] (.iv (.xd [])) [(0,Zk zs.reverse zs.length)]:=by
 intro w ok L vs hK hnew hown hlaid hvl hvs
 obtain ⟨v0,rfl⟩:∃ v0,vs=[v0]:=by
  match vs,hvl with
  | [v],_=>exact ⟨v,rfl⟩
 have hob:=hlaid.y9 0 (Zk zs mv) rfl;obtain ⟨v,xs,hL,hrow⟩:=QdC hob;have hv:v0=v:=Qei (id:=0) (zs:=zs) (mv:=mv) rfl hL rfl (hvs 0 _ v0 rfl rfl);subst hv
 have fin:∀ (w':World) (xs':List Value),Q3 (FrO w (Qc [(0,Zk zs mv)]) L) w w'->YF (FrO w (Qc [(0,Zk zs mv)]) L) w' 3 1 v0 zs.length xs'->xs'=zs.reverse.map (.int .i64) ->
   ∃ v1 L',(Ending.returned (.tuple #[]):Ending)=.returned v1/\QkZ (FrO w (Qc [(0,Zk zs mv)]) L) ok w' (Qc [(0,Zk zs.reverse zs.length)]) L'/\Qv (okL ok (Qc [(0,Zk zs.reverse zs.length)]) L') w' (Qc [(0,Zk zs.reverse zs.length)]) L' (.iv (.xd [])) v1/\Q3 (FrO w (Qc [(0,Zk zs mv)]) L) w w' /\
    ∀ i∈[0],∀ o,Qc [(0,Zk zs mv)] i=some o->∃ o',Qc [(0,Zk zs.reverse zs.length)] i=some o'/\Jg o o' (L i) (L' i):=by
  intro w' xs' hk ho hx;refine ⟨.tuple #[],fun _=>.arr v0 xs',rfl,⟨fun id o hid=>?_,fun i j oi oj b hij hi hj=>?_⟩,.iv _ _ (.xd [] [] rfl (by simp)),hk,fun i hi o h=>?_⟩
  ·simp only[Qc] at hid
   split at hid
   ·injection hid with hid
    subst hid;refine ⟨by simpa using ho,by simp,by simp,fun u hu=>?_,fun i j c x u hi hj hu=>?_⟩
    ·rw[hx] at hu
     obtain ⟨z,_,rfl⟩:=QJz.1 hu;rfl
    rw[QJq,QJm] at hi;obtain ⟨z,hz,rfl⟩:=hi;cases j with
    | zero =>
      simp at hj;subst hj;rw[hx,QKG,QKx,QJq,hz] at hu;simp at hu;subst hu;exact .iv _ _ (.int _ _)
    | succ j=>simp at hj
   cases hid
  ·simp only[Qc] at hi hj
   grind
  simp at hi;subst hi;simp only[Qc,if_true] at h;injection h with h
  subst h;refine ⟨Zk zs.reverse zs.length,by simp[Qc],?_⟩
  rw[hL];simp[Jg]
 rcases hrow with ⟨rfl,rfl⟩ | ⟨g,cap,cur,hr1,hfr⟩
 ·refine (he none 0 w).mono fun e w' ⟨h1,h2⟩=>?_
  subst h1 h2;exact fin w' [] (Q3.refl _ _) ⟨⟨by simp,.inl ⟨rfl,rfl⟩⟩,by simp[Value.ownBlock]⟩ (by simp)
 ·have hv:=hr1.v
  subst hv;refine (hr g 0 cap zs w hr1.holds (by have:=hr1.max;have:=hr1.le;unfold maxLen at *;omega)).mono fun e w' ⟨h1,n,h2⟩=>?_
  subst h1
  have hk:Q3 (FrO w (Qc [(0,Zk zs mv)]) L) w w':=by
   have h3:Q3 (FrO w (Qc [(0,Zk zs mv)]) L) (Sort.ahead w n) w':=by rw[h2];exact XP hfr
   exact ⟨h3.os,h3.tape,h3.output,h3.size,h3.block⟩
  have hh:w'.heap[g]?=some (.cells (putCells (Value.int .i64) 0 zs.reverse.toArray cur) 3 (0,0)):=by
   rw[h2];exact Qca (w:=Sort.ahead w n) hr1.at_
  refine fin w' _ hk ⟨⟨?_,.inr ⟨g,cap,_,rfl,QKv _,hh,hr1.le,hr1.max,?_,rfl⟩⟩,fun b hb=>?_⟩ ?_
  ·simp[putCells,hr1.size,hr1.le]
  ·simp[putCells,hr1.size]
  ·simp[Value.ownBlock] at hb
   grind
  ·refine QKP fun i=>?_
   rw[QJ1];by_cases hi:i<zs.length
   ·have h1:=hr1.size
    have h2:=hr1.le;have h3:i<cur.size:=by omega
    rw[QKG,if_pos hi];simp only[putCells,QKZ,Array.getElem?_mapIdx,QJJ h3,QKg,QJq]
    grind
   grind
theorem QhA {f:FuncId}
  (hd:∀ (blk off cap i j:Nat) (d:Array Int) (w:World),Holds (Value.int .i64) w blk off d->d.size<=cap->cap<=9223372036854775807->i<=j->j<=d.size ->
    Calls P f #[.slice (some ⟨blk,off,none⟩) d.size cap,.int .i64 i,.int .i64 j] w fun e w'=>e=.returned (.slice (some ⟨blk,off,none⟩) (d.size-(j-i)) cap)/\∃ q,w'=putRow (Value.int .i64) (Sort.ahead w q) blk off (d.toList.take i++d.toList.drop j++List.replicate (j-i) 0).toArray)
  (zs:List Int) (mv:Nat) (i:Nat) (hi:i<zs.length):YA P K f [.yl 0 zs.length,.iv (.int .i64 (i:Nat)),.iv (.int .i64 ((i+1:Nat):Int))] [(0,Zk zs mv)] [] (.iv (QnL (zs.eraseIdx i))) []:=by
 intro w ok L vs hK hnew hown hlaid hvl hvs
 obtain ⟨v0,v1,v2,rfl⟩:∃ v0 v1 v2,vs=[v0,v1,v2]:=by
  match vs,hvl with
  | [v,u,z],_=>grind
 have hob:=hlaid.y9 0 (Zk zs mv) rfl;obtain ⟨v,xs,hL,hrow⟩:=QdC hob;have hv:v0=v:=Qei (id:=0) (zs:=zs) (mv:=mv) rfl hL rfl (hvs 0 _ v0 rfl rfl);subst hv
 have e1:v1=.int .i64 (i:Nat):=by
  have:=hvs 1 _ v1 rfl rfl;cases this with
  | iv _ _ r=>cases r;rfl
 have e2:v2=.int .i64 ((i+1:Nat):Int):=by
  have:=hvs 2 _ v2 rfl rfl;cases this with
  | iv _ _ r=>cases r;rfl
 subst e1 e2;rcases hrow with ⟨rfl,rfl⟩ | ⟨g,cap,cur,hr1,hfr⟩
 ·simp at hi
 ·have hv:=hr1.v
  subst hv;have hm:=hr1.max;have hle:=hr1.le;have:=hd g 0 cap i (i+1) zs.toArray w hr1.holds (by simpa using hle) (by unfold maxLen at *;omega) (by omega) (by simp;omega)
  have es:zs.toArray.size=zs.length:=by simp
  rw[es] at this;refine this.mono fun e w' ⟨h1,q,h2⟩=>?_
  have hgo:ok g:=hown g ⟨0,Zk zs mv,rfl,by rw[hL];simp[Lay.has,Value.ownBlock]⟩
  have hk:Q3 (FrO w (Qc [(0,Zk zs mv)]) L) w w':=by
   have h3:Q3 (FrO w (Qc [(0,Zk zs mv)]) L) (Sort.ahead w q) w':=by rw[h2];exact XP hfr
   exact ⟨h3.os,h3.tape,h3.output,h3.size,h3.block⟩
  have hnew:Holds (Value.int .i64) w' g 0 (zs.take i++zs.drop (i+1)++List.replicate (i+1-i) 0).toArray:=by
   have h3:=holds_putRow (Value.int .i64) (Sort.ahead w q) g 0 zs.toArray (zs.take i++zs.drop (i+1)++List.replicate (i+1-i) 0).toArray (holds_ahead _ w q g 0 _ hr1.holds) (by simp;omega)
   grind
  have hlen:(zs.eraseIdx i).length=zs.length-(i+1-i):=by grind
  subst h1;refine ⟨_,fun _=>.one 0,rfl,WQ,.iv _ _ ?_,hk,by simp⟩
  rw[<- hlen];refine Uo _ _ _ (by omega) hm ⟨hgo,by simp[Qc]⟩ fun j z hj=>?_
  rw[List.eraseIdx_eq_take_drop_succ] at hj;have hjl:=(QJj.1 hj).1;have h3:=(hnew j (by grind)).1
  grind
theorem Qg8 {f:FuncId}
  (hshift:∀ (b n c i vb vc:Nat) (cs:List Value) (x:Value) (w:World),i<n->n+1<=c->c<=9223372036854775807->vb≠b->cs.length=n ->
    (∀ j v,cs[j]?=some v->w.cell? ⟨b,0+j,none⟩=some v)->(∀ j,j<n+1->(w.cell? ⟨b,0+j,none⟩).isSome=true)->(∀ j,j<n+1->w.frozen? ⟨b,0+j,none⟩=false) ->
    (∀ j v,[x][j]?=some v->w.cell? ⟨vb,0+j,none⟩=some v)->(∀ v∈cs,v.oneCell'=true)->(∀ v∈[x],v.oneCell'=true) ->
    ∀ (tA tB:TypeId) (kA kB:Nat),w.shape? vb=some (tA,kA)->w.shape? b=some (tB,kB)->kB≠0->w.frozen? ⟨vb,0,none⟩=false->w.frozen? ⟨vb,kA,none⟩=false ->
    Calls P f #[.slice (some ⟨b,0,none⟩) n c,.int .i64 i,.slice (some ⟨vb,0,none⟩) 1 vc] w fun e w' =>
     e=.returned (.slice (some ⟨b,0,none⟩) (n+1) c)/\w'=(w.drew.setCells b (0+(i+1)) (cs.drop i)).setCells b (0+i) [x])
  (hroom:∀ (b n c vb vc:Nat) (x:Value) (w:World),n+1<=c->c<=9223372036854775807->(∀ j,j<1->(w.cell? ⟨b,0+n+j,none⟩).isSome=true)->(∀ j,j<1->w.frozen? ⟨b,0+n+j,none⟩=false) ->
    (∀ j v,[x][j]?=some v->w.cell? ⟨vb,0+j,none⟩=some v)->(∀ v∈[x],v.oneCell'=true) ->
    Calls P f #[.slice (some ⟨b,0,none⟩) n c,.int .i64 n,.slice (some ⟨vb,0,none⟩) 1 vc] w fun e w' =>
     e=.returned (.slice (some ⟨b,0,none⟩) (n+1) c)/\w'=w.setCells b (0+n) [x])
  (hend:∀ (base:Option Addr) (n c vb vc:Nat) (cs:List Value) (x:Value) (w:World),n<=c->c<n+1->(n+1)*8<=140737488355328->cs.length=n->(base=none->n=0) ->
    (∀ a,base=some a->∀ j v,cs[j]?=some v->w.cell? (a.add j)=some v)->(∀ j v,[x][j]?=some v->w.cell? ⟨vb,0+j,none⟩=some v)->(∀ v∈[x],v.oneCell'=true) ->
    Calls P f #[.slice base n c,.int .i64 n,.slice (some ⟨vb,0,none⟩) 1 vc] w fun e w' =>
     e=.returned (.slice (some ⟨w.heap.size,0,none⟩) (n+1) (grownCap w (n+1) c 3)) /\
     w'=w.drew.alloc (.cells ((cs++[x]).toArray++Builtin.zeroCells (Value.int .i64 0).cells (grownCap w (n+1) c 3-(n+1))) 3))
  (hgrow:∀ (b n c i vb vc:Nat) (cs:List Value) (x:Value) (w:World),i<n->n<=c->c<n+1->(n+1)*8<=140737488355328->cs.length=n ->
    (∀ j v,cs[j]?=some v->w.cell? ⟨b,0+j,none⟩=some v)->(∀ j v,[x][j]?=some v->w.cell? ⟨vb,0+j,none⟩=some v)->(∀ v∈cs,v.oneCell'=true)->(∀ v∈[x],v.oneCell'=true) ->
    Calls P f #[.slice (some ⟨b,0,none⟩) n c,.int .i64 i,.slice (some ⟨vb,0,none⟩) 1 vc] w fun e w' =>
     e=.returned (.slice (some ⟨w.heap.size,0,none⟩) (n+1) (grownCap w (n+1) c 3)) /\
     w'=(((w.alloc (.cells ((cs.take i).toArray++Builtin.zeroCells (Value.int .i64 0).cells (n+1-i)++Builtin.zeroCells (Value.int .i64 0).cells (grownCap w (n+1) c 3-(n+1))) 3)).drew.setCells w.heap.size i [x]).drew).setCells w.heap.size (i+1) (cs.drop i))
  (zs:List Int) (mv:Nat) (i:Nat) (hi:i<=zs.length) (x:Int) (mv':Nat) (hlen:zs.length<=1000000):YA P K f [.yl 0 zs.length,.iv (.int .i64 (i:Nat)),.yl 1 1] [(0,Zk zs mv),(1,Zk [x] mv')] [] (.iv (QnL (zs.take i++x::zs.drop i))) []:=by
 intro w ok L vs hK hnew hown hlaid hvl hvs
 obtain ⟨v0,v1,v2,rfl⟩:∃ v0 v1 v2,vs=[v0,v1,v2]:=by
  match vs,hvl with
  | [v,u,z],_=>grind
 obtain ⟨v,xs,hL,hrow⟩:=QdC (hlaid.y9 0 (Zk zs mv) rfl);obtain ⟨v',xs',hL',hrow'⟩:=QdC (zs:=[x]) (hlaid.y9 1 (Zk [x] mv') rfl);have hv:v0=v:=Qei (id:=0) (zs:=zs) (mv:=mv) rfl hL rfl (hvs 0 _ v0 rfl rfl);have hv':v2=v':=Qei (id:=1) (zs:=[x]) (mv:=mv') rfl hL' rfl (hvs 2 _ v2 rfl rfl)
 have e1:v1=.int .i64 (i:Nat):=by
  have:=hvs 1 _ v1 rfl rfl;cases this with
  | iv _ _ r=>cases r;rfl
 subst hv hv' e1;have hmax:maxLen=1099511627775\/2000000<=maxLen/\maxLen<=9223372036854775807:=by unfold maxLen;omega
 rcases hrow' with ⟨_,h⟩ | ⟨vb,vc,cur',hr2,hfr2⟩
 ·cases h
 have hv2:=hr2.v;subst hv2
 have hx:∀ j v,[Value.int .i64 x][j]?=some v->w.cell? ⟨vb,0+j,none⟩=some v:=fun j v hj=>by
  cases j with
  | zero =>
    simp at hj;subst hj;rw[hr2.cell,hr2.get 0 (by simp)]
    simp
  | succ j=>simp at hj
 have hone:∀ v∈[Value.int .i64 x],v.oneCell'=true:=by simp[Value.oneCell']
 have hvw:vb<w.heap.size:=(QJt.1 hr2.at_).1;have hlen':(zs.take i++x::zs.drop i).length=zs.length+1:=by simp;omega
 have fresh:∀ (w':World) (cap:Nat),Q3 (fun b=>b<w.heap.size) w w'->zs.length+1<=cap->cap<=maxLen->(∀ j z,(zs.take i++x::zs.drop i)[j]?=some z->w'.cell? ⟨w.heap.size,j,none⟩=some (.int .i64 z)) ->
   ∃ v1 L',(Ending.returned (.slice (some ⟨w.heap.size,0,none⟩) (zs.length+1) cap):Ending)=.returned v1/\QkZ (FrO w (Qc [(0,Zk zs mv),(1,Zk [x] mv')]) L) ok w' (Qc []) L'/\Qv (okL ok (Qc []) L') w' (Qc []) L' (.iv (QnL (zs.take i++x::zs.drop i))) v1/\Q3 (FrO w (Qc [(0,Zk zs mv),(1,Zk [x] mv')]) L) w w' /\
    ∀ i∈([]:List Nat),∀ o,Qc [(0,Zk zs mv),(1,Zk [x] mv')] i=some o->∃ o',Qc [] i=some o'/\Jg o o' (L i) (L' i):=fun w' cap hk h1 h2 h3=>by
  refine ⟨_,fun _=>.one 0,rfl,WQ,.iv _ _ ?_,⟨hk.os,hk.tape,hk.output,hk.size,fun k hkk=>hk.block k hkk.1⟩,by simp⟩
  rw[<- hlen'] at h1 |-;exact Uo _ _ _ h1 h2 ⟨hnew _ (QJn _),by simp[Qc]⟩ h3
 have inplace:∀ (g cap:Nat) (cur:Array Value) (w':World),Qdj w v0 zs g cap cur->¬ FrO w (Qc [(0,Zk zs mv),(1,Zk [x] mv')]) L g->Q3 (FrO w (Qc [(0,Zk zs mv),(1,Zk [x] mv')]) L) w w'->zs.length+1<=cap->(∀ j z,(zs.take i++x::zs.drop i)[j]?=some z->w'.cell? ⟨g,j,none⟩=some (.int .i64 z)) ->
   ∃ v1 L',(Ending.returned (.slice (some ⟨g,0,none⟩) (zs.length+1) cap):Ending)=.returned v1/\QkZ (FrO w (Qc [(0,Zk zs mv),(1,Zk [x] mv')]) L) ok w' (Qc []) L'/\Qv (okL ok (Qc []) L') w' (Qc []) L' (.iv (QnL (zs.take i++x::zs.drop i))) v1/\Q3 (FrO w (Qc [(0,Zk zs mv),(1,Zk [x] mv')]) L) w w' /\
    ∀ i∈([]:List Nat),∀ o,Qc [(0,Zk zs mv),(1,Zk [x] mv')] i=some o->∃ o',Qc [] i=some o'/\Jg o o' (L i) (L' i):=fun g cap cur w' hr1 _ hk h1 h3=>by
  have hgo:ok g:=hown g ⟨0,Zk zs mv,rfl,by rw[hL,hr1.v];simp[Lay.has,Value.ownBlock]⟩
  refine ⟨_,fun _=>.one 0,rfl,WQ,.iv _ _ ?_,hk,by simp⟩
  have h2:=hr1.max;rw[<- hlen'] at h1 |-;exact Uo _ _ _ h1 h2 ⟨hgo,by simp[Qc]⟩ h3
 have hcs:∀ j,j<zs.length->(zs.map (Value.int .i64))[j]?=some (.int .i64 zs[j]!):=fun j hj=>by simp[hj]
 have onev:∀ v∈zs.map (Value.int .i64),v.oneCell'=true:=fun v hv=>by
  obtain ⟨z,_,rfl⟩:=QJz.1 hv;rfl
 rcases QKu i zs.length with xa | hge;rotate_left
 ·
  have hie:i=zs.length:=by omega
  subst hie;have hsame:zs.take zs.length++x::zs.drop zs.length=zs++[x]:=by simp
  have grow:∀ (base:Option Addr) (c:Nat),v0=.slice base zs.length c->zs.length<=c->c<zs.length+1->(base=none->zs.length=0)->(∀ a,base=some a->∀ j v,(zs.map (Value.int .i64))[j]?=some v->w.cell? (a.add j)=some v) ->
    Calls P f [v0,Value.int .i64 (zs.length:Nat),Value.slice (some ⟨vb,0,none⟩) [x].length vc].toArray w (fun e w'=>∃ v1 L',e=.returned v1/\QkZ (FrO w (Qc [(0,Zk zs mv),(1,Zk [x] mv')]) L) ok w' (Qc []) L'/\Qv (okL ok (Qc []) L') w' (Qc []) L' (.iv (QnL (zs.take zs.length++x::zs.drop zs.length))) v1/\Q3 (FrO w (Qc [(0,Zk zs mv),(1,Zk [x] mv')]) L) w w' /\
     ∀ i∈([]:List Nat),∀ o,Qc [(0,Zk zs mv),(1,Zk [x] mv')] i=some o->∃ o',Qc [] i=some o'/\Jg o o' (L i) (L' i)):=fun base c hv h1 h2 h3 h4=>by
   have h0:=hend base zs.length c vb vc (zs.map (.int .i64)) (.int .i64 x) w h1 h2 (by omega) (by simp) h3 h4 hx hone
   rw[<- hv] at h0;have hgc1:=grownCap_ge w (zs.length+1) c 3;have hgc2:=grownCap_le_maxLen w (zs.length+1) c 3 (by omega)
   generalize grownCap w (zs.length+1) c 3=G at *;refine h0.mono fun e w' ⟨h5,h6⟩=>?_
   subst h5;obtain ⟨ROW,hROW⟩:∃ ROW:Array Value,ROW=(zs.map (Value.int .i64)++[Value.int .i64 x]).toArray++Builtin.zeroCells (Value.int .i64 0).cells (G-(zs.length+1)):=⟨_,rfl⟩
   rw[<- hROW] at h6;refine fresh w' G ?_ hgc1 hgc2 fun j z hj=>?_
   ·rw[h6]
    have:=Qej w.drew (.cells ROW 3);exact ⟨this.os,this.tape,this.output,this.size,this.block⟩
   rw[h6,World.cell?_alloc_at (w:=w.drew) ROW _ w.heap.size j rfl,hROW];rw[hsame] at hj;have hjl:=(QJj.1 hj).1;simp at hjl;rw[Array.getElem?_append_left (by simp;omega)]
   have:(zs.map (Value.int .i64)++[Value.int .i64 x])=(zs++[x]).map (.int .i64):=by simp
   rw[this,QKX,QJq,hj];rfl
  rcases hrow with ⟨h1,h2⟩ | ⟨g,cap,cur,hr1,hfr⟩
  ·subst h2
   grind
  have hv:=hr1.v;have hm:=hr1.max;have hle:=hr1.le;rcases QKu zs.length cap with hcap | hcap;rotate_left
  ·refine grow (some ⟨g,0,none⟩) cap hv hle (by omega) (by simp) (fun a ha j v hj=>?_)
   injection ha with ha
   subst ha;rw[QJq,QJm] at hj;obtain ⟨z,hz,rfl⟩:=hj;obtain ⟨h1,h2⟩:=QJj.1 hz;rw[Addr.add_lit,QJB,hr1.cell,hr1.get j h1,h2]
  have h0:=hroom g zs.length cap vb vc (.int .i64 x) w (by omega) (by omega) (fun j hj=>by
   rw[hr1.cell,QJJ (by have:=hr1.size;omega)];rfl) (fun j _=>hr1.frozen _) hx hone
  rw[<- hv] at h0;refine h0.mono fun e w' ⟨h1,h2⟩=>?_
  subst h1
  have hk:Q3 (FrO w (Qc [(0,Zk zs mv),(1,Zk [x] mv')]) L) w w':=by
   rw[h2];exact ZZ hfr _ _ _
  refine inplace g cap cur w' hr1 hfr hk (by omega) fun j z hj=>?_
  rw[hsame] at hj;rw[h2];rcases QKu j zs.length with h | h
  ·rw[QJv h] at hj
   rw[World.cell?_setCells_out g [_] (0+zs.length) _ ⟨g,j,none⟩ (fun _ _=>by grind),hr1.cell,hr1.get j h]
   obtain ⟨h3,h4⟩:=QJj.1 hj;rw[h4]
  have hj':j=zs.length:=by have:=(QJj.1 hj).1;grind
  subst hj';simp at hj;subst hj
  have:=World.cell?_setCells_in g [Value.int .i64 x] (0+zs.length) w (fun k hk=>by
   simp at hk;subst hk;rw[hr1.cell,QJJ (by have:=hr1.size;omega)];rfl) 0 (by simp)
  simpa using this
 rcases hrow with ⟨_,h⟩ | ⟨g,cap,cur,hr1,hfr⟩
 ·grind
 have hv:=hr1.v;have hm:=hr1.max;have hle:=hr1.le;have hgw:g<w.heap.size:=(QJt.1 hr1.at_).1;have hne:vb≠g:=fun e=>hlaid.apart 0 1 (Zk zs mv) (Zk [x] mv') g (by simp) rfl rfl (by rw[hL,hv];simp[Lay.has,Value.ownBlock]) (by rw[hL',e];simp[Lay.has,Value.ownBlock])
 have hc:∀ j v,(zs.map (Value.int .i64))[j]?=some v->w.cell? ⟨g,0+j,none⟩=some v:=fun j v hj=>by
  rw[QJq,QJm] at hj;obtain ⟨z,hz,rfl⟩:=hj;obtain ⟨h1,h2⟩:=QJj.1 hz;rw[QJB,hr1.cell,hr1.get j h1,h2]
 have hmid:∀ j z,(zs.take i++x::zs.drop i)[j]?=some z->(j<i/\zs[j]?=some z)\/(j=i/\z=x)\/(i+1<=j/\(zs.drop i)[j-(i+1)]?=some z):=fun j z hj=>by
  rcases Nat.lt_trichotomy j i with h | h | h
  ·rw[QJv (by simp;omega),QJ1,if_pos h] at hj
   grind
  ·subst h
   rw[QJs (by simp;omega),QKT,Nat.min_eq_left (by omega),QKK] at hj
   grind
  rw[QJs (by simp;omega),QKT,Nat.min_eq_left (by omega)] at hj
  obtain ⟨k,rfl⟩:∃ k,j=i+1+k:=⟨j-(i+1),by omega⟩
  rw[show i+1+k-i=k+1 by omega,List.getElem?_cons_succ] at hj
  exact .inr (.inr ⟨by omega,by rw[show i+1+k-(i+1)=k by omega];exact hj⟩)
 rcases QKu zs.length cap with hcap | hcap
 ·
  have hsome:∀ j,j<zs.length+1->(w.cell? ⟨g,0+j,none⟩).isSome=true:=fun j hj=>by
   rw[QJB,hr1.cell,QJJ (by have:=hr1.size;omega)];rfl
  have h0:=hshift g zs.length cap i vb vc (zs.map (.int .i64)) (.int .i64 x) w xa (by omega) (by omega) hne (by simp) hc hsome (fun j _=>hr1.frozen _) hx onev hone 3 3 cur'.size cur.size
   (by simp[World.shape?,hr2.at_]) (by simp[World.shape?,hr1.at_]) (by have:=hr1.size;omega) (hr2.frozen _) (hr2.frozen _)
  rw[<- hv] at h0;refine h0.mono fun e w' ⟨h1,h2⟩=>?_
  subst h1
  have hk:Q3 (FrO w (Qc [(0,Zk zs mv),(1,Zk [x] mv')]) L) w w':=by
   have k1:=ZZ (Fr:=FrO w (Qc [(0,Zk zs mv),(1,Zk [x] mv')]) L) hfr ((zs.map (Value.int .i64)).drop i) (0+(i+1)) w.drew;have k2:=ZZ (Fr:=FrO w (Qc [(0,Zk zs mv),(1,Zk [x] mv')]) L) hfr [Value.int .i64 x] (0+i) (w.drew.setCells g (0+(i+1)) ((zs.map (Value.int .i64)).drop i));rw[h2];exact ⟨k2.os.trans k1.os,k2.tape.trans k1.tape,k2.output.trans k1.output,QJ7 k1.size k2.size,fun k hk=>(k2.block k hk).trans (k1.block k hk)⟩
  refine inplace g cap cur w' hr1 hfr hk (by omega) fun j z hj=>?_
  have in1:∀ k,k<((zs.map (Value.int .i64)).drop i).length->(w.drew.cell? ⟨g,0+(i+1)+k,none⟩).isSome=true:=fun k hk=>by
   have:=hsome (i+1+k) (by simp at hk;omega)
   rw[show 0+(i+1)+k=0+(i+1+k) by omega]
   exact this
  have sm1:∀ k,(w.cell? ⟨g,k,none⟩).isSome=true->((w.drew.setCells g (0+(i+1)) ((zs.map (Value.int .i64)).drop i)).cell? ⟨g,k,none⟩).isSome=true:=fun k hk=>by
   by_cases hin:0+(i+1)<=k/\k<0+(i+1)+((zs.map (Value.int .i64)).drop i).length
   ·have:=World.cell?_setCells_in g _ (0+(i+1)) w.drew in1 (k-(0+(i+1))) (by omega)
    rw[show 0+(i+1)+(k-(0+(i+1)))=k by omega] at this
    rw[this];rfl
   rw[World.cell?_setCells_out g _ (0+(i+1)) w.drew ⟨g,k,none⟩ (fun _ _=>by grind)]
   exact hk
  rw[h2];rcases hmid j z hj with ⟨h3,h4⟩ | ⟨h3,h4⟩ | ⟨h3,h4⟩
  ·rw[World.cell?_setCells_out g [_] (0+i) _ ⟨g,j,none⟩ (fun _ _=>by grind),World.cell?_setCells_out g _ (0+(i+1)) w.drew ⟨g,j,none⟩ (fun _ _=>by grind)]
   have:=hc j (.int .i64 z) (by simp[h4])
   rw[QJB] at this;exact this
  ·subst h3 h4
   have:=World.cell?_setCells_in g [Value.int .i64 z] (0+j) (w.drew.setCells g (0+(j+1)) ((zs.map (Value.int .i64)).drop j)) (fun k hk=>sm1 _ (by
    have:=hsome j (by omega)
    simp at hk;subst hk;simpa using this)) 0 (by simp)
   simpa using this
  obtain ⟨k,rfl⟩:∃ k,j=i+1+k:=⟨j-(i+1),by omega⟩
  rw[show i+1+k-(i+1)=k by omega] at h4
  have hkl:=(QJj.1 h4).1;rw[World.cell?_setCells_out g [_] (0+i) _ ⟨g,i+1+k,none⟩ (fun _ _=>by show i+1+k<_\/_<=i+1+k;simp)]
  have:=World.cell?_setCells_in g ((zs.map (Value.int .i64)).drop i) (0+(i+1)) w.drew in1 k (by simpa using hkl)
  rw[QJB] at this;rw[QJB,this]
  have h5:(List.drop i (zs.map (Value.int .i64)))[k]?=some (.int .i64 z):=by
   rw[<- List.map_drop,QJq,h4];rfl
  rw[QJi (by simpa using hkl)] at h5
  exact h5
 have hcap':cap=zs.length:=by omega
 have h0:=hgrow g zs.length cap i vb vc (zs.map (.int .i64)) (.int .i64 x) w xa (by omega) (by omega) (by omega) (by simp) hc hx onev hone
 rw[<- hv] at h0;have hgc1:=grownCap_ge w (zs.length+1) cap 3;have hgc2:=grownCap_le_maxLen w (zs.length+1) cap 3 (by omega)
 generalize grownCap w (zs.length+1) cap 3=G at *;refine h0.mono fun e w' ⟨h1,h2⟩=>?_
 subst h1;obtain ⟨ROW,hROW⟩:∃ ROW:Array Value,ROW=((zs.map (Value.int .i64)).take i).toArray++Builtin.zeroCells (Value.int .i64 0).cells (zs.length+1-i)++Builtin.zeroCells (Value.int .i64 0).cells (G-(zs.length+1)):=⟨_,rfl⟩
 rw[<- hROW] at h2
 have hRs:zs.length+1<=ROW.size:=by
  rw[hROW];simp[Builtin.zeroCells,Value.cells];omega
 have hRt:∀ j z,j<i->zs[j]?=some z->ROW[j]?=some (.int .i64 z):=fun j z hj hz=>by
  rw[hROW,Array.append_assoc,Array.getElem?_append_left (by simp;omega)]
  simp[QJ1,hj,hz]
 have hN:∀ j,j<zs.length+1->((w.alloc (.cells ROW 3)).cell? ⟨w.heap.size,j,none⟩).isSome=true:=fun j hj=>by
  rw[World.cell?_alloc_at (w:=w) ROW _ w.heap.size j rfl,QJJ (by omega)];rfl
 obtain ⟨W1,hW1⟩:∃ W1,W1=(w.alloc (.cells ROW 3)).drew.setCells w.heap.size i [Value.int .i64 x]:=⟨_,rfl⟩
 rw[<- hW1] at h2;have hkA:Q3 (fun b=>b<w.heap.size) w (w.alloc (.cells ROW 3)):=Qej w _
 have hk1:Q3 (fun b=>b<w.heap.size) w W1:=by
  have k2:=ZZ (Fr:=fun b=>b<w.heap.size) (g:=w.heap.size) (by simp) [Value.int .i64 x] i (w.alloc (.cells ROW 3)).drew
  rw[hW1];exact ⟨k2.os.trans hkA.os,k2.tape.trans hkA.tape,k2.output.trans hkA.output,QJ7 hkA.size k2.size,fun k hk=>(k2.block k hk).trans (hkA.block k hk)⟩
 have hk2:Q3 (fun b=>b<w.heap.size) w w':=by
  have k2:=ZZ (Fr:=fun b=>b<w.heap.size) (g:=w.heap.size) (by simp) ((zs.map (Value.int .i64)).drop i) (i+1) W1.drew
  rw[h2];exact ⟨k2.os.trans hk1.os,k2.tape.trans hk1.tape,k2.output.trans hk1.output,QJ7 hk1.size k2.size,fun k hk=>(k2.block k hk).trans (hk1.block k hk)⟩
 have sm1:∀ k,k<zs.length+1->(W1.cell? ⟨w.heap.size,k,none⟩).isSome=true:=fun k hk=>by
  rw[hW1];by_cases hin:k=i
  ·subst hin
   have:=World.cell?_setCells_in w.heap.size [Value.int .i64 x] k (w.alloc (.cells ROW 3)).drew (fun t ht=>by simp at ht;subst ht;exact hN k hk) 0 (by simp)
   rw[QKx] at this;rw[this];rfl
  rw[World.cell?_setCells_out w.heap.size [_] i _ ⟨w.heap.size,k,none⟩ (fun _ _=>by show k<_\/_<=k;simp;omega)]
  exact hN k hk
 refine fresh w' G hk2 hgc1 hgc2 fun j z hj=>?_
 have in2:∀ k,k<((zs.map (Value.int .i64)).drop i).length->(W1.drew.cell? ⟨w.heap.size,i+1+k,none⟩).isSome=true:=fun k hk=>sm1 _ (by simp at hk;omega)
 rw[h2];rcases hmid j z hj with ⟨h3,h4⟩ | ⟨h3,h4⟩ | ⟨h3,h4⟩
 ·rw[World.cell?_setCells_out w.heap.size _ (i+1) W1.drew ⟨w.heap.size,j,none⟩ (fun _ _=>by grind)]
  show W1.cell? _=_
  rw[hW1,World.cell?_setCells_out w.heap.size [_] i _ ⟨w.heap.size,j,none⟩ (fun _ _=>by grind)]
  show (w.alloc (.cells ROW 3)).cell? _=_
  rw[World.cell?_alloc_at (w:=w) ROW _ w.heap.size j rfl];exact hRt j z h3 h4
 ·subst h3 h4
  rw[World.cell?_setCells_out w.heap.size _ (j+1) W1.drew ⟨w.heap.size,j,none⟩ (fun _ _=>by grind)]
  show W1.cell? _=_
  rw[hW1];have:=World.cell?_setCells_in w.heap.size [Value.int .i64 z] j (w.alloc (.cells ROW 3)).drew (fun t ht=>by simp at ht;subst ht;exact hN j (by omega)) 0 (by simp)
  simpa using this
 obtain ⟨k,rfl⟩:∃ k,j=i+1+k:=⟨j-(i+1),by omega⟩
 rw[show i+1+k-(i+1)=k by omega] at h4
 have hkl:=(QJj.1 h4).1;have:=World.cell?_setCells_in w.heap.size ((zs.map (Value.int .i64)).drop i) (i+1) W1.drew in2 k (by simpa using hkl)
 rw[this]
 have h5:(List.drop i (zs.map (Value.int .i64)))[k]?=some (.int .i64 z):=by
  rw[<- List.map_drop,QJq,h4];rfl
 rw[QJi (by simpa using hkl)] at h5
 exact h5
end
end Go.Ev
namespace Go.Pf
open Go Go.Proofs Go.Shelf Go.RowKit Go.Lib Go.Proofs.Tryz
set_option linter.unusedVariables false
set_option linter.unusedSimpArgs false
theorem i3z:(prog.info? 3).map (fun i=>(i.zero,i.size,i.bytes))=some (some (Value.int IntKind.i64 0),1,8):=by kernel_rfl
theorem QlE:prog.follows .mixedOrders=true:=by kernel_rfl
set_option maxHeartbeats 4000000 in
set_option maxRecDepth 100000 in
theorem Qcp (b off n c i vb voff m vc:Nat) (cs vs:List Value) (w:World) (hi:i<n) (hm:0<m) (hroom:n+m<=c) (hc63:c<=9223372036854775807) (hvb:vb≠b)
  (hcl:cs.length=n) (hvl:vs.length=m)
  (hcs:∀ j v,cs[j]?=some v->w.cell? ⟨b,off+j,none⟩=some v) (hsp:∀ j,j<n+m->(w.cell? ⟨b,off+j,none⟩).isSome=true) (hfz:∀ j,j<n+m->w.frozen? ⟨b,off+j,none⟩=false)
  (hvs:∀ j v,vs[j]?=some v->w.cell? ⟨vb,voff+j,none⟩=some v) (h1c:∀ v∈cs,v.oneCell'=true) (h1v:∀ v∈vs,v.oneCell'=true)
  (tA tB:TypeId) (kA kB:Nat) (hsa:w.shape? vb=some (tA,kA)) (hsb:w.shape? b=some (tB,kB)) (hkB:kB≠0) (hfa:w.frozen? ⟨vb,voff,none⟩=false) (hfe:w.frozen? ⟨vb,kA,none⟩=false) :
  Calls prog 379 #[.slice (some ⟨b,off,none⟩) n c,.int .i64 i,.slice (some ⟨vb,voff,none⟩) m vc] w fun e w' =>
   e=.returned (.slice (some ⟨b,off,none⟩) (n+m) c)/\w'=(w.drew.setCells b (off+(i+m)) (cs.drop i)).setCells b (off+i) vs:=by
 have t0:=underlying0;have a0:=isAgg0;have z0:=sizeOf0;have v0:=zeroValue0;have t3:=underlying3;have a3:=isAgg3;have z3:=sizeOf3;have v3:=zeroValue3;have t4:=underlying4;have a4:=isAgg4;have z4:=sizeOf4;have v4:=zeroValue4;have t186:=underlying253;have a186:=isAgg253;have z186:=sizeOf253;have v186:=zeroValue253;have t74:=underlying57;have a74:=isAgg57;have z74:=sizeOf57;have v74:=zeroValue57;have u0:=run_underlying t0;have u3:=run_underlying t3;have u4:=run_underlying t4;have u186:=run_underlying t186;have u74:=run_underlying t74;have hz1:¬ ((m:Int)=0):=by omega
 have hz2:¬ ((i:Int)=(n:Int)):=by omega
 have hsz:(prog.info? 3).map (·.size)=some 1:=by
  obtain ⟨i0,hi0,h0,h1,h2⟩:=info_parts i3z
  grind
 have hov:∀ lb cb,(callFunc 403 #[.slice (some ⟨vb,voff,none⟩) m vc,.slice (some ⟨b,off+(i+m),none⟩) lb cb]).run prog w=.ok (.value (.bool false)) w:=fun lb cb=>by
  rw[run_callFunc_extern func403 (by kernel_rfl) (by kernel_rfl) (by kernel_rfl) (e:=Extern.SlicesOverlaps.overlaps #[57,57] #[4]) (by kernel_rfl),
   Lib.run_overlaps_apart w 57 4 3 t74 1 z3 ⟨vb,voff,none⟩ ⟨b,off+(i+m),none⟩ m vc lb cb hvb tA tB kA kB hsa hsb hkB hfa hfe]
  rfl
 have hdl:(cs.drop i).length=n-i:=by grind
 have mixed:=QlE;have hw1:IntKind.i64.wrap ((i:Int)+(m:Int))=(i:Int)+(m:Int):=by rw[IntKind.wrap_i64];omega
 have hb1:(0:Int)<=(i:Int)+(m:Int):=by omega
 have hin:i<=n:=by omega
 have htn:((i:Int)+(m:Int)).toNat=i+m:=by omega
 have hb2:¬ (c=i+m):=by omega
 have hb3:(i:Int)<=(n:Int)+(m:Int):=by omega
 have hb4:¬ (c=i):=by omega
 have hcp1:∀ ty dc sc,(Builtin.copy_ #[253,253] ty #[.slice (some ⟨b,off+(i+m),none⟩) (n+m-(i+m)) dc,.slice (some ⟨b,off+i,none⟩) (n+m-i) sc]).run prog w.drew=.ok (goInt (cs.drop i).length) (w.drew.setCells b (off+(i+m)) (cs.drop i)):=fun ty dc sc =>
  run_copy_cells w.drew _ _ ty 3 b (off+(i+m)) (n+m-(i+m)) dc ⟨b,off+i,none⟩ (n+m-i) sc (cs.drop i) t186 hsz (by grind)
   (fun j v hj=>by rw[Addr.add_lit,QKe];exact hcs (i+j) v (by grind))
   (fun j hj=>by rw[QKe];exact hsp _ (by omega)) (fun j hj=>by rw[QKe];exact hfz _ (by omega)) (fun v hv=>h1c v (QKt hv))
 obtain ⟨W1,hW1⟩:∃ W1,W1=w.drew.setCells b (off+(i+m)) (cs.drop i):=⟨_,rfl⟩
 have hsp1:∀ k,k<n+m->(W1.cell? ⟨b,off+k,none⟩).isSome=true:=fun k hk=>by
  rw[hW1];exact isSome_setCells b _ _ _ (fun j hj=>by rw[QKe];exact hsp _ (by omega)) _ (hsp k hk)
 have hcp2:∀ (W:World),(∀ x,W.cell? x=W1.cell? x)->(∀ x,W.frozen? x=W1.frozen? x)->∀ ty dc,(Builtin.copy_ #[253,57] ty #[.slice (some ⟨b,off+i,none⟩) (n+m-i) dc,.slice (some ⟨vb,voff,none⟩) m vc]).run prog W=.ok (goInt vs.length) (W.setCells b (off+i) vs):=fun W hWc hWf ty dc =>
  run_copy_cells W _ _ ty 3 b (off+i) (n+m-i) dc ⟨vb,voff,none⟩ m vc vs t186 hsz (by grind)
   (fun j v hj=>by
     rw[Addr.add_lit,hWc,hW1,World.cell?_setCells_out b _ _ _ _ (fun h _=>absurd h hvb)]
     exact hvs j v hj)
   (fun j hj=>by rw[hWc,QKe];exact hsp1 _ (by omega)) (fun j hj=>by rw[hWf,hW1,World.frozen?_setCells,QKe];exact hfz _ (by omega)) h1v
 rw[<- hW1] at hcp1
 go_enter func379,ntmps379
 go_wp2_with (simp only[hov])
 go_region_law_o (refine step_copy_runI rfl _ _ 253 253 rfl _ _ (by simp[Act.eval,Act.put]) (by simp[Act.eval,Act.put]) (hcp1 _ _ _) ?_)
 go_wp2_with (at_builtin;refine wpList_copy_runI _ rfl _ _ 253 57 rfl _ _ rfl rfl (hcp2 _ (fun _=>rfl) (fun _=>rfl) _ _) ?_)
 go_ret
 first | exact ⟨rfl,rfl⟩ | exact ⟨rfl,by rw[hW1]⟩
set_option maxHeartbeats 4000000 in
set_option maxRecDepth 100000 in
theorem WU (b off n c vb voff m vc:Nat) (vs:List Value) (w:World) (hm:0<m) (hroom:n+m<=c) (hc63:c<=9223372036854775807)
  (hvl:vs.length=m) (hsp:∀ j,j<m->(w.cell? ⟨b,off+n+j,none⟩).isSome=true) (hfz:∀ j,j<m->w.frozen? ⟨b,off+n+j,none⟩=false)
  (hvs:∀ j v,vs[j]?=some v->w.cell? ⟨vb,voff+j,none⟩=some v) (h1v:∀ v∈vs,v.oneCell'=true) :
  Calls prog 379 #[.slice (some ⟨b,off,none⟩) n c,.int .i64 n,.slice (some ⟨vb,voff,none⟩) m vc] w fun e w' =>
   e=.returned (.slice (some ⟨b,off,none⟩) (n+m) c)/\w'=w.setCells b (off+n) vs:=by
 have t0:=underlying0;have a0:=isAgg0;have z0:=sizeOf0;have v0:=zeroValue0;have t3:=underlying3;have a3:=isAgg3;have z3:=sizeOf3;have v3:=zeroValue3;have t4:=underlying4;have a4:=isAgg4;have z4:=sizeOf4;have v4:=zeroValue4;have t186:=underlying253;have a186:=isAgg253;have z186:=sizeOf253;have v186:=zeroValue253;have t74:=underlying57;have a74:=isAgg57;have z74:=sizeOf57;have v74:=zeroValue57;have u0:=run_underlying t0;have u3:=run_underlying t3;have u4:=run_underlying t4;have u186:=run_underlying t186;have u74:=run_underlying t74;have mixed:=QlE;have hz1:¬ ((m:Int)=0):=by omega
 have hsrc:Src prog 1 57 (.slice (some ⟨vb,voff,none⟩) m vc) m vs w:=Src.ofSlice w t74 ⟨vb,voff,none⟩ m vc vs (by omega) (fun j u hj=>by rw[Addr.add_lit];exact hvs j u hj) h1v
 go_enter func379,ntmps379
 go_wp2_with (at_builtin;refine wpList_append_room1 _ rfl _ _ 253 57 rfl 3 _ _ t186 i3z b off n c rfl _ rfl m vs hsrc hroom (by grind) (by grind) ?_)
 go_ret
 exact ⟨rfl,rfl⟩
set_option maxHeartbeats 4000000 in
set_option maxRecDepth 100000 in
theorem WV (base:Option Addr) (n c vb voff m vc:Nat) (cs vs:List Value) (w:World) (hm:0<m) (hnc:n<=c) (hroom:c<n+m) (hbig:(n+m)*8<=140737488355328)
  (hcl:cs.length=n) (hvl:vs.length=m) (hnil:base=none->n=0)
  (hcs:∀ a,base=some a->∀ j v,cs[j]?=some v->w.cell? (a.add j)=some v)
  (hvs:∀ j v,vs[j]?=some v->w.cell? ⟨vb,voff+j,none⟩=some v) (h1v:∀ v∈vs,v.oneCell'=true) :
  Calls prog 379 #[.slice base n c,.int .i64 n,.slice (some ⟨vb,voff,none⟩) m vc] w fun e w' =>
   e=.returned (.slice (some ⟨w.heap.size,0,none⟩) (n+m) (grownCap w (n+m) c 3)) /\
   w'=w.drew.alloc (.cells ((cs++vs).toArray++Builtin.zeroCells (Value.int .i64 0).cells (grownCap w (n+m) c 3-(n+m))) 3):=by
 have t0:=underlying0;have a0:=isAgg0;have z0:=sizeOf0;have v0:=zeroValue0;have t3:=underlying3;have a3:=isAgg3;have z3:=sizeOf3;have v3:=zeroValue3;have t4:=underlying4;have a4:=isAgg4;have z4:=sizeOf4;have v4:=zeroValue4;have t186:=underlying253;have a186:=isAgg253;have z186:=sizeOf253;have v186:=zeroValue253;have t74:=underlying57;have a74:=isAgg57;have z74:=sizeOf57;have v74:=zeroValue57;have u0:=run_underlying t0;have u3:=run_underlying t3;have u4:=run_underlying t4;have u186:=run_underlying t186;have u74:=run_underlying t74;have mixed:=QlE;obtain ⟨i0,hi0,hz0,hzs,hzb⟩:=info_parts i3z;have hz1:¬ ((m:Int)=0):=by omega
 have hsrc:Src prog i0.size 57 (.slice (some ⟨vb,voff,none⟩) m vc) m vs w:=by
  rw[hzs];exact Src.ofSlice w t74 ⟨vb,voff,none⟩ m vc vs (by omega) (fun j u hj=>by rw[Addr.add_lit];exact hvs j u hj) h1v
 have hold:(Builtin.firstCells i0.size n (.slice base n c)).run prog w.drew=.ok cs.toArray w.drew:=by
  rw[hzs];cases base with
  | none =>
    have h0:=hnil rfl;subst h0;rw[List.length_eq_zero_iff.1 hcl];exact run_firstCells_none w.drew 1 0 0 c
  | some a=>exact run_firstCells_some w.drew 1 n a n c cs (by omega) (fun j v hj=>hcs a rfl j v hj)
 have hrun:∀ ty,(Builtin.append_ #[253,57] ty #[.slice base n c,.slice (some ⟨vb,voff,none⟩) m vc]).run prog w=_:=fun ty =>
  run_append_grow_src w 253 57 ty 3 i0 _ t186 hi0 hz0 base n c cs hold _ m vs hsrc hroom (by omega) (by rw[hzb];exact growslice_fits hroom hbig)
 go_enter func379,ntmps379
 cases base with
 | none =>
   have h0:=hnil rfl;subst h0
   go_wp2_with (at_builtin;refine Lib.wpList_append_run _ rfl _ _ _ _ rfl _ _ rfl rfl _ _ (hrun _) ?_)
   go_ret
   exact ⟨rfl,rfl⟩
 | some a =>
   obtain ⟨ab,ao,asp⟩:=a
   go_wp2_with (at_builtin;refine Lib.wpList_append_run _ rfl _ _ _ _ rfl _ _ rfl rfl _ _ (hrun _) ?_)
   all_goals (go_ret;exact ⟨rfl,rfl⟩)
set_option maxHeartbeats 4000000 in
set_option maxRecDepth 100000 in
theorem Qc8 (b off n c i vb voff m vc:Nat) (cs vs:List Value) (w:World) (hi:i<n) (hm:0<m) (hnc:n<=c) (hroom:c<n+m) (hbig:(n+m)*8<=140737488355328)
  (hcl:cs.length=n) (hvl:vs.length=m)
  (hcs:∀ j v,cs[j]?=some v->w.cell? ⟨b,off+j,none⟩=some v)
  (hvs:∀ j v,vs[j]?=some v->w.cell? ⟨vb,voff+j,none⟩=some v) (h1c:∀ v∈cs,v.oneCell'=true) (h1v:∀ v∈vs,v.oneCell'=true) :
  Calls prog 379 #[.slice (some ⟨b,off,none⟩) n c,.int .i64 i,.slice (some ⟨vb,voff,none⟩) m vc] w fun e w' =>
   e=.returned (.slice (some ⟨w.heap.size,0,none⟩) (n+m) (grownCap w (n+m) c 3)) /\
   w'=(((w.alloc (.cells ((cs.take i).toArray++Builtin.zeroCells (Value.int .i64 0).cells (n+m-i)++Builtin.zeroCells (Value.int .i64 0).cells (grownCap w (n+m) c 3-(n+m))) 3)).drew.setCells w.heap.size i vs).drew).setCells w.heap.size (i+m) (cs.drop i):=by
 have t0:=underlying0;have a0:=isAgg0;have z0:=sizeOf0;have v0:=zeroValue0;have t3:=underlying3;have a3:=isAgg3;have z3:=sizeOf3;have v3:=zeroValue3;have t4:=underlying4;have a4:=isAgg4;have z4:=sizeOf4;have v4:=zeroValue4;have t186:=underlying253;have a186:=isAgg253;have z186:=sizeOf253;have v186:=zeroValue253;have t74:=underlying57;have a74:=isAgg57;have z74:=sizeOf57;have v74:=zeroValue57;have u0:=run_underlying t0;have u3:=run_underlying t3;have u4:=run_underlying t4;have u186:=run_underlying t186;have u74:=run_underlying t74;have mixed:=QlE;obtain ⟨i0,hi0,hz0,hzs,hzb⟩:=info_parts i3z;have hz1:¬ ((m:Int)=0):=by omega
 have hz2:¬ ((i:Int)=(n:Int)):=by omega
 have hz3:(c:Int)<(n:Int)+(m:Int):=by omega
 have hsz:(prog.info? 3).map (·.size)=some 1:=by grind
 have hbw:b<w.heap.size:=block_lt_of_cell (hcs 0 _ (QJi (by omega)))
 have hvw:vb<w.heap.size:=block_lt_of_cell (hvs 0 _ (QJi (by omega)))
 have hkk:(n:Int)+(m:Int)-(i:Int)=((n+m-i:Nat):Int):=by omega
 have hik:i+(n+m-i)=n+m:=by omega
 have hold:(Builtin.firstCells i0.size i (.slice (some ⟨b,off,none⟩) i c)).run prog w.drew=.ok (cs.take i).toArray w.drew:=by
  rw[hzs]
  exact run_firstCells_some w.drew 1 i ⟨b,off,none⟩ i c (cs.take i) (by grind) (fun j v hj=>by
   rw[Addr.add_lit];rw[QJ1] at hj;split at hj
   ·exact hcs j v hj
   cases hj)
 have hrz:∀ ty,(Builtin.append_ #[253,3] ty #[.slice (some ⟨b,off,none⟩) i c,.int .i64 ((n:Int)+(m:Int)-(i:Int))]).run prog w =
   .ok (.slice (some ⟨w.heap.size,0,none⟩) (n+m) (grownCap w (n+m) c 3)) (w.drew.alloc (.cells ((cs.take i).toArray++Builtin.zeroCells (Value.int .i64 0).cells (n+m-i)++Builtin.zeroCells (Value.int .i64 0).cells (grownCap w (n+m) c 3-(n+m))) 3)):=fun ty=>by
  have h:=Lib.run_append_grow_zeros w 253 3 ty 3 i0 _ .i64 .i64 t186 t3 hi0 hz0 (some ⟨b,off,none⟩) i c (cs.take i) hold (n+m-i) (by omega) (by omega) (by omega) (by omega) (by rw[hzb];omega) (by rw[hzb,hik];exact growslice_fits hroom hbig)
  grind
 obtain ⟨G,hG⟩:∃ G,G=grownCap w (n+m) c 3:=⟨_,rfl⟩
 obtain ⟨ROW,hROW⟩:∃ ROW:Array Value,ROW=(cs.take i).toArray++Builtin.zeroCells (Value.int .i64 0).cells (n+m-i)++Builtin.zeroCells (Value.int .i64 0).cells (G-(n+m)):=⟨_,rfl⟩
 rw[<- hG] at hrz |-;rw[<- hROW] at hrz |-
 have hRl:n+m<=ROW.size:=by
  rw[hROW];simp[Builtin.zeroCells,Value.cells];omega
 obtain ⟨W1,hW1⟩:∃ W1,W1=w.drew.alloc (.cells ROW 3):=⟨_,rfl⟩
 rw[<- hW1] at hrz
 have hN:∀ j,j<n+m->(W1.cell? ⟨w.heap.size,j,none⟩).isSome=true:=fun j hj=>by
  rw[hW1,World.cell?_alloc_at (w:=w.drew) ROW _ w.heap.size j rfl,QJJ (by omega)];rfl
 have hNf:∀ j,W1.frozen? ⟨w.heap.size,j,none⟩=false:=fun j=>by rw[hW1];exact World.frozen?_alloc_at (w:=w.drew) ROW _ w.heap.size j rfl
 have hOb:∀ j v,w.cell? ⟨b,j,none⟩=some v->W1.cell? ⟨b,j,none⟩=some v:=fun j v h=>by rw[hW1,World.cell?_alloc_past (w:=w.drew) _ b j hbw];exact h
 have hOv:∀ j v,w.cell? ⟨vb,j,none⟩=some v->W1.cell? ⟨vb,j,none⟩=some v:=fun j v h=>by rw[hW1,World.cell?_alloc_past (w:=w.drew) _ vb j hvw];exact h
 have hcpA:∀ (W:World),(∀ x,W.cell? x=W1.cell? x)->(∀ x,W.frozen? x=W1.frozen? x)->∀ ty dc,(Builtin.copy_ #[253,57] ty #[.slice (some ⟨w.heap.size,i,none⟩) (n+m-i) dc,.slice (some ⟨vb,voff,none⟩) m vc]).run prog W=.ok (goInt vs.length) (W.setCells w.heap.size i vs):=fun W hWc hWf ty dc =>
  run_copy_cells W _ _ ty 3 w.heap.size i (n+m-i) dc ⟨vb,voff,none⟩ m vc vs t186 hsz (by grind)
   (fun j v hj=>by rw[Addr.add_lit,hWc];grind)
   (fun j hj=>by grind) (fun j hj=>by grind) h1v
 have hGn:n+m<=G:=by rw[hG];exact grownCap_ge w _ _ _
 have hG63:G<=9223372036854775807:=by
  have:=grownCap_le_maxLen w (n+m) c 3 (by unfold maxLen;omega)
  rw[<- hG] at this;unfold maxLen at this;omega
 have hGi:¬ (G=i):=by omega
 have hGim:¬ (G=i+m):=by omega
 have hci:¬ (c=i):=by omega
 have hbN:b≠w.heap.size:=by omega
 have hdl:(cs.drop i).length=n-i:=by grind
 have hcpB:∀ (W:World),(∀ x,W.cell? x=(W1.setCells w.heap.size i vs).cell? x)->(∀ x,W.frozen? x=(W1.setCells w.heap.size i vs).frozen? x)->∀ ty dc sc,(Builtin.copy_ #[253,253] ty #[.slice (some ⟨w.heap.size,i+m,none⟩) (n+m-(i+m)) dc,.slice (some ⟨b,off+i,none⟩) (n-i) sc]).run prog W=.ok (goInt (cs.drop i).length) (W.setCells w.heap.size (i+m) (cs.drop i)):=fun W hWc hWf ty dc sc =>
  run_copy_cells W _ _ ty 3 w.heap.size (i+m) (n+m-(i+m)) dc ⟨b,off+i,none⟩ (n-i) sc (cs.drop i) t186 hsz (by grind)
   (fun j v hj=>by
     rw[Addr.add_lit,hWc,World.cell?_setCells_out _ _ _ _ _ (fun h _=>absurd h hbN),QKe]
     grind)
   (fun j hj=>by rw[hWc];exact isSome_setCells _ _ _ _ (fun t ht=>hN _ (by omega)) _ (hN _ (by omega)))
   (fun j hj=>by rw[hWf,World.frozen?_setCells];exact hNf _) (fun v hv=>h1c v (QKt hv))
 subst hW1;have hE1:∀ x,((w.alloc (.cells ROW 3)).drew).cell? x=(w.drew.alloc (.cells ROW 3)).cell? x:=fun x=>rfl
 have hE2:∀ x,((w.alloc (.cells ROW 3)).drew).frozen? x=(w.drew.alloc (.cells ROW 3)).frozen? x:=fun x=>rfl
 have hF1:∀ x,(((w.alloc (.cells ROW 3)).drew.setCells w.heap.size i vs).drew).cell? x=((w.drew.alloc (.cells ROW 3)).setCells w.heap.size i vs).cell? x:=fun x=>rfl
 have hF2:∀ x,(((w.alloc (.cells ROW 3)).drew.setCells w.heap.size i vs).drew).frozen? x=((w.drew.alloc (.cells ROW 3)).setCells w.heap.size i vs).frozen? x:=fun x=>rfl
 have hw1:IntKind.i64.wrap ((i:Int)+(m:Int))=(i:Int)+(m:Int):=by rw[IntKind.wrap_i64];omega
 have hb1:(0:Int)<=(i:Int)+(m:Int):=by omega
 have hin:i<=n:=by omega
 have htn:((i:Int)+(m:Int)).toNat=i+m:=by omega
 have hb3:(i:Int)<=(n:Int):=by omega
 clear hkk hik hold hROW hG hRl
 go_enter func379,ntmps379
 go_wp2_with (first
  | (at_builtin;refine Lib.wpList_append_run _ rfl _ _ _ _ rfl _ _ rfl rfl _ _ (hrz _) ?_)
  | (at_builtin;refine wpList_copy_runI _ rfl _ _ 253 57 rfl _ _ rfl rfl (hcpA _ hE1 hE2 _ _) ?_)
  | (at_builtin;refine wpList_copy_runI _ rfl _ _ 253 253 rfl _ _ rfl rfl (hcpB _ (fun _=>rfl) (fun _=>rfl) _ _ _) ?_))
 go_region_law_o (refine step_copy_runI rfl _ _ 253 253 rfl (.slice (some ⟨w.heap.size,i+m,none⟩) (n+m-(i+m)) (G-(i+m))) (.slice (some ⟨b,off+i,none⟩) (n-i) (c-i)) (by simp[Act.eval,Act.put]) (by simp[Act.eval,Act.put]) (hcpB _ hF1 hF2 3 (G-(i+m)) (c-i)) ?_)
 go_wp2
 go_ret
 exact ⟨rfl,rfl⟩
end Go.Pf
namespace Go.Pf
open Go Go.Ev Go.Proofs Go.RowKit Go.Shelf Go.Proofs.Tryz
set_option maxRecDepth 8000
noncomputable def QDI:TypeInfo:=(prog.info? 3).get (by kernel_rfl)
section
variable {K:World->Prop}
theorem Qsf (zs:List Int) (mv:Nat):YA prog K 382 [.yl 0 zs.length] [(0,Zk zs mv)] [0] (.iv (.xd [])) [(0,Zk zs.reverse zs.length)] :=
 QeJ (fun a cap w=>AnyE.slices_Reverse_empty Tryz.rev382 a cap w) (fun blk off cap zs w hh hl=>AnyE.slices_Reverse Tryz.rev382 (Value.int .i64) (fun _=>rfl) blk off cap zs w hh hl) zs mv
theorem Qsg (zs:List Int) (mv i:Nat) (hi:i<zs.length):YA prog K 381 [.yl 0 zs.length,.iv (.int .i64 (i:Nat)),.iv (.int .i64 ((i+1:Nat):Int))] [(0,Zk zs mv)] [] (.iv (QnL (zs.eraseIdx i))) [] :=
 QhA (fun blk off cap i j d w hh h1 h2 h3 h4=>AnyE.slices_Delete Tryz.del381 (Value.int .i64) (fun _=>rfl) 0 zeroValue3 QDI (by kernel_rfl) (by kernel_rfl) blk off cap i j d w hh h1 h2 h3 h4) zs mv i hi
theorem Qsh (zs:List Int) (mv i:Nat) (hi:i<=zs.length) (x:Int) (mv':Nat) (hlen:zs.length<=1000000):YA prog K 379 [.yl 0 zs.length,.iv (.int .i64 (i:Nat)),.yl 1 1] [(0,Zk zs mv),(1,Zk [x] mv')] [] (.iv (QnL (zs.take i++x::zs.drop i))) [] :=
 Qg8
  (fun b n c i vb vc cs x w h1 h2 h3 h4 h5 h6 h7 h8 h9 h10 h11 tA tB kA kB h12 h13 h14 h15 h16=>Qcp b 0 n c i vb 0 1 vc cs [x] w h1 (by omega) h2 h3 h4 h5 rfl h6 h7 h8 h9 h10 h11 tA tB kA kB h12 h13 h14 h15 h16)
  (fun b n c vb vc x w h1 h2 h3 h4 h5 h6=>WU b 0 n c vb 0 1 vc [x] w (by omega) h1 h2 rfl h3 h4 h5 h6)
  (fun base n c vb vc cs x w h1 h2 h3 h4 h5 h6 h7 h8=>WV base n c vb 0 1 vc cs [x] w (by omega) h1 h2 h3 h4 rfl h5 h6 h7 h8)
  (fun b n c i vb vc cs x w h1 h2 h3 h4 h5 h6 h7 h8 h9=>Qc8 b 0 n c i vb 0 1 vc cs [x] w h1 (by omega) h2 h3 h4 h5 rfl h6 h7 h8 h9)
  zs mv i hi x mv' hlen
end
end Go.Pf
namespace Go.Pf
open Go Go.Ev Go.Proofs Go.RowKit Go.Proofs.Tryz
set_option maxRecDepth 8000
def Quw (i:Nat) (kvs:List (MK × List (List IV))) (n:Nat):List (MK × List (List IV)):=zn (.int .i64 (n:Int)) (((Qh (.int .i64 (n:Int)) kvs).getD [])++[[.int .i64 (i:Nat)]]) kvs
def prf (ds:List Qu) (e:Nat->Int):Nat->List (MK × List (List IV))
 | 0=>[]
 | i+1=>match ds[i]? with
   | some d=>if d.zp=4 then (cab ds e i).foldl (Quw i) (prf ds e i) else prf ds e i
   | none=>prf ds e i
theorem Qlr (ds:List Qu) (e:Nat->Int) (i:Nat) (h:i<ds.length):prf ds e (i+1)=if ds[i].zp=4 then (cab ds e i).foldl (Quw i) (prf ds e i) else prf ds e i:=by
 simp only[prf,QJi h]
theorem JY (n:Int) (y:List (List IV)):∀ kvs:List (MK × List (List IV)),QK (.int .i64) kvs->QK (.int .i64) (zn (.int .i64 n) y kvs)
 | [],_=>⟨rfl,trivial⟩
 | p::r,h=>by
   unfold zn;split
   ·exact ⟨rfl,h.2⟩
   exact ⟨h.1,JY n y r h.2⟩
theorem V3 (k j:MK) (y:List (List IV)):∀ kvs:List (MK × List (List IV)),Qh j (zn k y kvs)=if k=j then some y else Qh j kvs
 | []=>by simp[zn,Qh]
 | p::r=>by
   unfold zn;split
   ·rename_i h
    simp only[Qh]
    grind
   rename_i h;simp only[Qh,V3 k j y r]
   grind
def Low (m:Nat) (kvs:List (MK × List (List IV))):Prop:=QK (.int .i64) kvs/\∀ k rows,Qh k kvs=some rows->rows.length<=m
theorem Low.add {m i:Nat} {kvs:List (MK × List (List IV))} (h:Low m kvs) (n:Nat):Low (m+1) (Quw i kvs n):=by
 refine ⟨JY _ _ _ h.1,fun k rows hk=>?_⟩
 unfold Quw at hk;rw[V3] at hk;split at hk
 ·injection hk with hk
  subst hk;cases hf:Qh (.int .i64 (n:Int)) kvs with
  | none=>simp
  | some r=>have:=h.2 _ _ hf;simp;omega
 have:=h.2 _ _ hk;omega
theorem Low.fold {i:Nat}:∀ (l:List Nat) {m:Nat} {kvs:List (MK × List (List IV))},Low m kvs->Low (m+l.length) (l.foldl (Quw i) kvs)
 | [],m,kvs,h=>h
 | n::l,m,kvs,h=>by
   have:=Low.fold (i:=i) l (h.add (i:=i) n)
   grind
theorem Low.mono {m m':Nat} {kvs:List (MK × List (List IV))} (h:Low m kvs) (hm:m<=m'):Low m' kvs:=⟨h.1,fun k rows hk=>QJ7 (h.2 k rows hk) hm⟩
theorem QeQ (ds:List Qu) (e:Nat->Int) (hc:OkD ds ds.length):∀ i,i<=ds.length->Low (i*ds.length) (prf ds e i)
 | 0,_=>⟨trivial,fun k rows h=>by simp[prf,Qh] at h⟩
 | i+1,h=>by
   have ih:=QeQ ds e hc i (by omega)
   rw[Qlr ds e i (by omega)]
   have e1:(i+1)*ds.length=i*ds.length+ds.length:=by grind
   rw[e1];split
   ·have hcl:=Xb e hc i (by omega) (by omega)
    have hcb:=hc.cnt i (by omega) (by omega)
    exact (ih.fold _).mono (by omega)
   exact ih.mono (by omega)
theorem Low.len {m:Nat} {kvs:List (MK × List (List IV))} (h:Low m kvs) (k:MK):((Qh k kvs).getD []).length<=m:=by
 cases hf:Qh k kvs with
 | none=>simp
 | some r=>exact h.2 _ _ hf
theorem QiP (ds:List Qu) (i:Nat) (h:i<ds.length):Z8 (ds.take (i+1))=if ds[i].zp=1 then Z8 (ds.take i)++[ds[i]] else Z8 (ds.take i):=by
 rw[QJk h];unfold Z8;rw[QKW];generalize List.filter ZA (List.take i ds)=l;by_cases hw:ds[i].zp=1<;>simp[ZA,hw]
theorem QoK (ds:List Qu) (i:Nat):(Z8 (ds.take i)).length=wn ds i:=by rw[X7];rfl
@[simp] def QFe (kvs:List (MK × List (List IV))):IV:=.map (kvs.map fun p=>(p.1,.sl 1 p.2))
theorem Qr9 (n:Nat) (z:IV):QdT (List.replicate n [AV.iv z])=some (List.replicate n [z]):=by
 have:=Qr (List.replicate n [z]);simpa[emb] using this
theorem Qa2 (l:List Nat) (mv:Nat):Zk (l.map fun (n:Nat)=>(n:Int)) mv=AO.arr 3 1 (emb (l.map fun (n:Nat)=>[IV.int .i64 (n:Int)])) mv:=by simp[Zk,emb]
theorem Qg7 (l:List Nat):QnL (l.map fun (n:Nat)=>(n:Int))=Yr l:=by simp[QnL]
section
variable {K:World->Prop} {C:Env->Ql->Prop}
theorem X4 (m:Nat->Nat) (e:TypeId) (sz:Nat) (xs:List (List IV)) (mv:Nat):rnO m (.arr e sz (emb xs) mv)=.arr e sz (emb xs) mv:=Qoe m e sz xs mv
theorem Vr (dom:List Nat) (e:TypeId) (sz:Nat) (xs:List (List IV)) (mv:Nat):clO dom (.arr e sz (emb xs) mv)=true:=Qqx dom e sz xs mv
theorem QnA {id n mv:Nat} {d:Option Nat} {e:Env} {o:Ql} (l:List Nat) (hid:Qc o id=some (.arr 3 1 (emb (l.map fun (n:Nat)=>[IV.int .i64 (n:Int)])) mv)) (hn:n=l.length)
  (h:C (bnd d (.iv (.xd [])) (QrN (Y4 [id] [0] o) e)) (Qwj [id] (Y4 [id] [0] o) o [(0,.arr 3 1 (emb (l.reverse.map fun (n:Nat)=>[IV.int .i64 (n:Int)])) n)])):HK prog K 382 [id] d C e o [.yl id n]:=by
 have hg:=Qsf (K:=K) (l.map fun (n:Nat)=>(n:Int)) mv
 rw[<- List.map_reverse,Qa2,Qa2,QJA] at hg;subst hn;refine QC hg (by simp[rn,nth]) ?_ ?_
 ·refine ⟨by simp,by simp[clA],?_,?_,by simp[XN]⟩
  ·intro p hp
   simp only[QKb] at hp;subst hp;exact ⟨by simp,by rw[X4];simpa[nth] using hid,Vr _ _ _ _ _,rfl⟩
  intro i hi h;simp at hi;subst hi;simp[Qc] at h
 ·simpa[rn] using h
theorem Qed {id n mv:Nat} {d:Option Nat} {e:Env} {o:Ql} (l:List Nat) (i:Nat) (hi:i<l.length) (hid:Qc o id=some (.arr 3 1 (emb (l.map fun (n:Nat)=>[IV.int .i64 (n:Int)])) mv)) (hn:n=l.length) {avs:List AV} (ha:avs=[.yl id n,.iv (.int .i64 (i:Nat)),.iv (.int .i64 ((i+1:Nat):Int))])
  (h:C (bnd d (.iv (Yr (l.eraseIdx i))) (QrN (Y4 [id] [] o) e)) (Qwj [id] (Y4 [id] [] o) o [])):HK prog K 381 [id] d C e o avs:=by
 have hg:=Qsg (K:=K) (l.map fun (n:Nat)=>(n:Int)) mv i (by simpa using hi)
 have e1:(l.map fun (n:Nat)=>(n:Int)).eraseIdx i=(l.eraseIdx i).map fun (n:Nat)=>(n:Int):=by simp[List.eraseIdx_eq_take_drop_succ]
 rw[e1,Qa2,Qg7,QJA] at hg;subst hn;refine QC hg (by rw[ha];simp[rn,nth]) ?_ ?_
 ·refine ⟨by simp,by simp[clA],?_,?_,by simp⟩
  ·intro p hp
   simp only[QKb] at hp;subst hp;exact ⟨by simp,by rw[X4];simpa[nth] using hid,Vr _ _ _ _ _,rfl⟩
  intro i hi h;simp at hi;subst hi;simp[Qc] at h
 ·simpa[rn] using h
theorem Qec {id id' n mv mv':Nat} {d:Option Nat} {e:Env} {o:Ql} (l:List Nat) (i:Nat) (hi:i<=l.length) (x:Nat) (hlen:l.length<=1000000) (hne:id≠id') (hid:Qc o id=some (.arr 3 1 (emb (l.map fun (n:Nat)=>[IV.int .i64 (n:Int)])) mv)) (hid':Qc o id'=some (.arr 3 1 [[.iv (.int .i64 (x:Nat))]] mv')) (hn:n=l.length)
  (h:C (bnd d (.iv (Yr (l.take i++x::l.drop i))) (QrN (Y4 [id,id'] [] o) e)) (Qwj [id,id'] (Y4 [id,id'] [] o) o [])):HK prog K 379 [id,id'] d C e o [.yl id n,.iv (.int .i64 (i:Nat)),.yl id' 1]:=by
 have hg:=Qsh (K:=K) (l.map fun (n:Nat)=>(n:Int)) mv i (by simpa using hi) x mv' (by simpa using hlen)
 have e1:(l.map fun (n:Nat)=>(n:Int)).take i++(x:Int)::(l.map fun (n:Nat)=>(n:Int)).drop i=(l.take i++x::l.drop i).map fun (n:Nat)=>(n:Int):=by simp
 rw[e1,Qa2,Qg7,QJA] at hg;subst hn;refine QC hg (by simp[rn,nth]) ?_ ?_
 ·refine ⟨by simpa using hne,by simp[clA],?_,?_,by simp⟩
  ·intro p hp
   simp only[QJw,QJD,or_false] at hp;rcases hp with rfl | rfl
   ·exact ⟨by simp,by rw[X4];simpa[nth] using hid,Vr _ _ _ _ _,rfl⟩
   exact ⟨by simp,by simpa[nth,rnO,rnL,rn] using hid',by simp[clO,clAL,clA],rfl⟩
  intro i hi h;simp at hi;have:i=0\/i=1:=by omega
  rcases this with rfl | rfl<;>simp[Qc] at h
 simpa[rn] using h
end
section
variable {K:World->Prop} (hK:∀ w w',K w->Below w.heap.size w w'->K w')
include hK
theorem Qw7 (c:Qg) (n:Nat) (hn:n<2 ^ 63) (hc:OkD c.za c.za.length) (hl:c.za.length<=100) :
  Gd K 339 [QG c.za,.clo 340 [] [.ptr [.int .i64 n],.ptr (Uc c)]] (.agg (YL c.za (Q2 c.za n) (QFe (prf c.za (Q2 c.za n) c.za.length)))):=by
 refine Qb hK (fk func339 QF8 (by kernel_rfl)) (by simp) ?_
 simp;intros
 refine Qw (fun i=>[(1,AV.iv (.clo 340 [] [.ptr [.int .i64 n],.ptr (Uc c)])),(4,.loc 4 0),(5,.loc 5 0),(16,AV.iv (QG c.za)),(17,AV.iv (.int .i64 c.za.length)),(18,AV.iv (IV.int IntKind.i64 (i:Nat)))])
  (fun i=>[(4,AO.box [.iv (.sl 1 []),.iv (.sl 2 []),.iv (.map [])]),(5,AO.box [.yl 13 (i+1),.yl 6001 (Z8 (c.za.take i)).length,.yk 14]),(13,AO.arr 253 1 (emb ((QqE c.za (Q2 c.za n) i).map fun c=>[Yr c])) 0),
    (14,.yo 3 1 (prf c.za (Q2 c.za n) i) none),(6001,.arr 373 2 (emb ((Z8 (c.za.take i)).map lkC)) 0)]) c.za.length (fun i=>True) trivial ?_ ?_
 ·intro _
  rw[Qa QjX.eq_1];simp[-List.map_map,QI,Q0,QV,Qr,QJp]
 ·intro i hi _ ih
  have hcl:=Xb (Q2 c.za n) hc i (by omega) (by omega)
  have hcb:=hc.cnt i (by omega) (by omega)
  have hd:=hc i hi hi;have hw:=QmG c.za i;have hlw:=QoK c.za i;have xb:=QeQ c.za (Q2 c.za n) hc i (by omega)
  have hg202:=Qw6 hK c n i hn hi;have hei:=Qmd c.za n i hi;have hii:i*c.za.length<=100*100:=Nat.mul_le_mul (by omega) (by omega)
  rw[QqD,QiP _ _ hi,Qbc _ _ _ hi,Qlr _ _ _ hi] at ih;rw[Qa QjX.eq_1]
  have hcg:(QqE c.za (Q2 c.za n) i)[i]?=some (cab c.za (Q2 c.za n) i):=by
   rw[QJi (by simp),Qft _ _ _ _ (by omega)]
  have hcl2:=QtS c.za (Q2 c.za n) i;generalize Q2 c.za n i=ei at *;generalize QqE c.za (Q2 c.za n) i=cs at *;generalize prf c.za (Q2 c.za n) i=kvs at *;generalize Z8 (c.za.take i)=lk at *;generalize cab c.za (Q2 c.za n) i=now at *
  have hcg2:cs[i]'(by omega)=now:=by
   grind
  have hnl:now.length<=100:=by omega
  simp[hi,hcl2,hcg2,-List.map_map,QI,Q0,QV,Qr];intro _;refine ⟨by omega,?_⟩
  refine Qy5 (rows:=List.replicate now.length [IV.int .i64 0]) (Qr9 _ _) (by simp) (by simp) ?_
  rcases hd with ⟨h1,h2,h3,h4⟩ | ⟨h1,h2,h3,h4⟩ | ⟨h1,h4⟩
  ·simp only[inR] at h3 h2
   have hp:(if ei=1 then (now.length:Int)+1-1-c.za[i].pos else c.za[i].pos)=(plc c.za[i].pos ei (now.length+1):Nat):=by
    unfold plc;omega
   have hpl:plc c.za[i].pos ei (now.length+1)<=now.length:=QuX (by omega)
   have hg214:=Qi4 hK c.za[i].pos ei (now.length+1) (by omega) (by omega)
   rw[hp] at hg214;simp[VG,h1,<- hlw] at ih;generalize plc c.za[i].pos ei (now.length+1)=at_ at *;by_cases hf:c.za[i].z2=2
   ·have hg:=hg202 hf
    simp[hi,hf,h1,-List.map_map,QI,Q0,QV,Qr];refine ⟨by kernel_rfl,cK (by simpa using hg) ?_⟩
    simp[hi,hf,h1,-List.map_map,QI,Q0,QV,Qr];intro _;refine ⟨by omega,cK hg214 ?_⟩
    simp[hi,hf,h1,-List.map_map,QI,Q0,QV,Qr];intro _;refine Qec (mv:=now.length) (mv':=0) now at_ hpl lk.length (by omega) (by simp) (by simp[emb,-List.map_map]) (by simp) rfl ?_
    simp[hi,hf,h1,-List.map_map,QI,Q0,QV,Qr]
    grind
   rw[if_neg hf] at hei;simp[hi,hf,h1,-List.map_map,QI,Q0,QV,Qr];rw[<- hei];intro _;refine ⟨by omega,cK hg214 ?_⟩
   simp[hi,hf,h1,-List.map_map,QI,Q0,QV,Qr];intro _;refine Qec (mv:=now.length) (mv':=0) now at_ hpl lk.length (by omega) (by simp) (by simp[emb,-List.map_map]) (by simp) rfl ?_
   simp[hi,hf,h1,-List.map_map,QI,Q0,QV,Qr]
   grind
  ·have h11:¬ c.za[i].zp=1:=by omega
   simp only[inR] at h3 h2
   have hp:(if ei=1 then (now.length:Int)-1-c.za[i].pos else c.za[i].pos)=(plc c.za[i].pos ei now.length:Nat):=by
    unfold plc;split<;>omega
   have hpl:plc c.za[i].pos ei now.length<now.length:=Qop (by omega)
   have hg214:=Qi4 hK c.za[i].pos ei now.length (by omega) (by omega)
   rw[hp] at hg214;simp[VG,h1] at ih;generalize plc c.za[i].pos ei now.length=at_ at *;have he:now.take at_++now.drop (at_+1)=now.eraseIdx at_:=by grind
   rw[<- QK6,<- List.map_drop,<- QJE,he] at ih;by_cases hf:c.za[i].z2=2
   ·have hg:=hg202 hf
    simp[hi,hf,h1,-List.map_map,QI,Q0,QV,Qr];refine ⟨by kernel_rfl,cK (by simpa using hg) ?_⟩
    simp[hi,hf,h1,-List.map_map,QI,Q0,QV,Qr];intro _;refine cK hg214 ?_;simp[hi,hf,h1,-List.map_map,QI,Q0,QV,Qr];refine ⟨by omega,?_⟩
    refine Qed (mv:=now.length) now at_ hpl (by simp[emb,-List.map_map]) rfl (by simp) ?_
    simp[hi,hf,h1,-List.map_map,QI,Q0,QV,Qr]
    grind
   rw[if_neg hf] at hei;simp[hi,hf,h1,-List.map_map,QI,Q0,QV,Qr];rw[<- hei];intro _;refine cK hg214 ?_;simp[hi,hf,h1,-List.map_map,QI,Q0,QV,Qr];refine ⟨by omega,?_⟩
   refine Qed (mv:=now.length) now at_ hpl (by simp[emb,-List.map_map]) rfl (by simp) ?_
   simp[hi,hf,h1,-List.map_map,QI,Q0,QV,Qr]
   grind
  ·have hf:¬ c.za[i].z2=2:=by omega
   rcases h1 with h1 | h1
   ·simp[VG,h1] at ih
    simp[hi,hf,h1,-List.map_map,QI,Q0,QV,Qr];refine QnA (mv:=now.length) now (by simp[emb,-List.map_map]) rfl ?_
    simp[hi,hf,h1,-List.map_map,QI,Q0,QV,Qr,QJp]
    grind
   ·simp[VG,h1] at ih
    simp[hi,hf,h1,-List.map_map,QI,Q0,QV,Qr];intro _
    refine Qw (fun k=>[(1,AV.iv (.clo 340 [] [.ptr [.int .i64 n],.ptr (Uc c)])),(4,.loc 4 0),(5,.loc 5 0),(6,AV.iv (IV.int IntKind.i64 (i:Nat))),(8,AV.yl 29 now.length),(16,AV.iv (QG c.za)),(17,AV.iv (.int .i64 c.za.length)),(18,AV.iv (IV.int IntKind.i64 (i:Nat))),(90,AV.yl 29 now.length),(91,AV.iv (.int .i64 now.length)),(92,AV.iv (.int .i64 (k:Nat)))])
     (fun k=>[(4,AO.box [.iv (.sl 1 []),.iv (.sl 2 []),.iv (.map [])]),(5,AO.box [.yl 13 (i+1),.yl 6001 lk.length,.yk 14]),(13,AO.arr 253 1 (emb (cs.map fun c=>[Yr c])) 0),
       (14,.yo 3 1 ((now.take k).foldl (Quw i) kvs) none),(29,AO.arr 3 1 (emb (now.map fun (n:Nat)=>[.int .i64 (n:Int)])) now.length),(6001,AO.arr 373 2 (emb (lk.map lkC)) 0)]) now.length (fun _=>True) trivial ?_ ?_
    ·intro _
     rw[Qa QjY.eq_1];simp[-List.map_map,QI,Q0,QV,Qr,QJp]
     grind
    ·intro k hk _ ih2
     rw[Qa QjY.eq_1];have hlk:Low (i*c.za.length+(now.take k).length) ((now.take k).foldl (Quw i) kvs):=xb.fold _;rw[QJk hk,QKO] at ih2;generalize (now.take k).foldl (Quw i) kvs=kv at *;have hkl:(List.take k now).length<=100:=by simp;omega
     have hle:=hlk.len (.int .i64 (now[k]:Nat));have hkk:=hlk.1;have hkk2:=JY (now[k]:Nat) (((Qh (.int .i64 ((now[k]:Nat):Int)) kv).getD [])++[[.int .i64 (i:Nat)]]) kv hkk;have hfm:=V3 (.int .i64 ((now[k]:Nat):Int)) (.int .i64 ((now[k]:Nat):Int)) (((Qh (.int .i64 ((now[k]:Nat):Int)) kv).getD [])++[[.int .i64 (i:Nat)]]) kv;rw[if_pos rfl] at hfm;simp[Quw] at ih2;simp[hk,hkk,hkk2,hfm,-List.map_map,QI,Q0,QV,Qr]
     grind
def pmC (c:Qg) (n:Nat):IV:=QFe (prf c.za (Q2 c.za n) c.za.length)
theorem Qf4 (c:Qg) (hc:OkC c):QhQ K c (pmC c):=fun n hn=>by
 have h:=hc.len;have h2:=U0 c.za;have h3:=J8 (show Xr c.za<=12 by omega)
 exact Qw7 hK c n (by omega) hc.za (by omega)
end
end Go.Pf
namespace Go.Pf
open Go Go.Proofs Go.RowKit Go.Maps Go.Sort Go.Shelf
variable {P:Program} {ρ:Ren}
set_option maxRecDepth 100000 in
set_option maxHeartbeats 1000000 in
theorem QfL (L:SlLaysZI.n10 P ρ) {H:Type} (F:Fence) (n:Nat) (h10:F.fn (ρ.f 10)) (hro:F.round=none) (hn:1<=n) (l Bm om b nn:Nat) (D0:DataW H) {R:Value->Option (DataW H × List MemPlace)} (J:List Int->World->Prop)
  (hY:∀ pre x W,J pre W->pre.length<Maps.size D0->YieldAt F (n-1) P l #[encZ x] W fun e W'=>e=.returned (.bool true)/\J (pre++[x]) W'/\KeepsWalks W W')
  (W:World) (hJ:AbidesFrom W.heap.size J) (hm:W.cell? ⟨Bm,om,none⟩=some (.map (some b))) (hown:W.ownsMap P (ρ.t 26) R b nn D0) (h0:J [] W) :
  CallsIn F n P (ρ.f 10) #[.func (.yield l) #[] #[],.pointer (some ⟨Bm,om,none⟩)] W fun e W'=>(∃ v,e=.returned v)/\∃ ss:List Int,ss.Perm (intKeys D0)/\J ss W':=by
 have mixed:=L.mixed;have t0:=L.t0;have a0:=L.a0;have z0:=L.z0;have v0:=L.v0;have t4:=L.t4;have a4:=L.a4;have z4:=L.z4;have v4:=L.v4;have t23:=L.t23;have a23:=L.a23;have z23:=L.z23;have v23:=L.v23;have t26:=L.t26;have a26:=L.a26;have z26:=L.z26;have v26:=L.v26;have t33:=L.t33;have a33:=L.a33;have z33:=L.z33;have v33:=L.v33;have u0:=run_underlying L.t0;have u4:=run_underlying L.t4;have u23:=run_underlying L.t23;have u26:=run_underlying L.t26;have u33:=run_underlying L.t33;obtain ⟨_,_,FG⟩:=L.f10;refine callsIn_of_wp FG rfl h10 ?_ hro;simp only[SlBodyZ.n10_ntmps ρ,QKl,QJy,QJH,Nat.reduceAdd,Nat.reduceSub,Array.replicate_succ,Array.replicate_zero,List.push_toArray,List.append_toArray,QJ0,QJ2]
 gi_wp2_with (first
  | (gi_at_range;refine wpListIn_range_own _ rfl _ (ρ.t 23) rfl (ρ.t 26) (ρ.t 3) (int_keyed L.t26) L.t23 _ b nn _ rfl hown ?_;intro w0 hrg0 hg0 hs0)
  | gi_in)
 go_frame
 gi_loopw [3] (fun _ wr=>∃ (left:Lit->Bool) (cnt:Nat) (ss:List Int),wr.ranges P (ρ.t 26) R b W.heap.size nn D0 left cnt/\ss.length+cnt<=Maps.size D0/\CollectedI D0 left ss/\J ss wr)
  (fun _ wr=>wr.rangeLeft b W.heap.size)
 case atStart =>
  exact ⟨_,_,[],hrg0,by simp,CollectedI.start D0,hJ [] W w0 none h0 hg0 (fun r e=>by cases e)⟩
 case round =>
  obtain ⟨left,cnt,ss,hrg,hcs,hC,hJs⟩:=hrel
  gi_wp2_with (first
   | (gi_at_next;refine wpListIn_next_ranges _ rfl _ rfl (ρ.t 26) (int_keyed L.t26) R encZ id (fun key kl hk=>by obtain ⟨x,hx,_⟩:=Maps.keyOf_i64 L.t26 hk;exact ⟨x,hx⟩) (fun v _ _=>⟨v,rfl⟩) b W.heap.size nn _ _ _ rfl hrg ?_ ?_)
   | gi_in)
  ·
   intro hc0 hl0
   gi_wp2
   go_end0
   exact ⟨⟨_,rfl⟩,ss,hC.perm hown (int_keyed L.t26) L.t26 hl0,hJs⟩
  ·
   intro x c kl yd yp w2 cnt2 hkey hlk hv hat hrg2 xa hg2 hs2 hen;obtain ⟨x',ex,rfl,_⟩:=Maps.keyOf_i64 L.t26 hkey;obtain rfl:x=x':=encZ_inj ex;have hJ2:J ss w2:=hJ ss wr w2 (some W.heap.size) hJs hg2 (fun r e=>by cases e;exact ⟨QJn _,hrg.iter_walk⟩)
   obtain ⟨fn,tmps,assign,body,hy,hR⟩:=hY ss x w2 hJ2 (by omega)
   clear hs2
   gi_wp2
   refine hR.mono ?_
   rintro e W3 ⟨rfl,hJ3,hk3⟩
   gi_wp2
   have hrg3:=hrg2.of_walks hk3
   go_roundw
   case rel=>exact ⟨_,cnt2,ss++[x],hrg3,by simp;omega,hC.step hlk hat,hJ3⟩
   case measure=>rw[hrg3.left_eq,hrg.left_eq];exact xa
set_option maxRecDepth 100000 in
set_option maxHeartbeats 1000000 in
theorem UV (L:SlLaysZI.n10 P ρ) {H:Type} (F:Fence) (n:Nat) (h10:F.fn (ρ.f 10)) (hro:F.round=none) (hn:1<=n) (Bm om b nn:Nat) (D0:DataW H) {R:Value->Option (DataW H × List MemPlace)} (w:World) (hBm:Bm<w.heap.size)
  (hm:w.cell? ⟨Bm,om,none⟩=some (.map (some b))) (hown:w.ownsMap P (ρ.t 26) R b nn D0) :
  SeqGives F n P (ρ.f 10) #[.pointer (some ⟨Bm,om,none⟩)] encZ (fun ss=>ss.Perm (intKeys D0)) (Maps.size D0) w:=fun l J W hW hJ hY h0=>by
 have hown':W.ownsMap P (ρ.t 26) R b nn D0:=by
  have hbl:=hown.lt;obtain ⟨es,clock,hb,Ft,hs,hD⟩:=hown;exact ⟨es,clock,(hW.block b hbl).trans hb,Ft,hs,hD⟩
 exact QfL { L with } F n h10 hro hn l Bm om b nn D0 J hY W hJ ((hW.cell (p:=⟨Bm,om,none⟩) hBm).trans hm) hown' h0
set_option maxRecDepth 100000 in
set_option maxHeartbeats 1000000 in
theorem QaM (L:SlLaysZI.n10 P ρ) (F:Fence) (n:Nat) (h10:F.fn (ρ.f 10)) (hro:F.round=none) (l Bm om:Nat) (J:List Int->World->Prop) (W:World) (hJ:AbidesFrom W.heap.size J)
  (hm:W.cell? ⟨Bm,om,none⟩=some (.map none)) (h0:J [] W) :
  CallsIn F n P (ρ.f 10) #[.func (.yield l) #[] #[],.pointer (some ⟨Bm,om,none⟩)] W fun e W'=>(∃ v,e=.returned v)/\∃ ss:List Int,ss=[]/\J ss W':=by
 have mixed:=L.mixed;have t0:=L.t0;have a0:=L.a0;have z0:=L.z0;have v0:=L.v0;have t4:=L.t4;have a4:=L.a4;have z4:=L.z4;have v4:=L.v4;have t23:=L.t23;have a23:=L.a23;have z23:=L.z23;have v23:=L.v23;have t26:=L.t26;have a26:=L.a26;have z26:=L.z26;have v26:=L.v26;have t33:=L.t33;have a33:=L.a33;have z33:=L.z33;have v33:=L.v33;have u0:=run_underlying L.t0;have u4:=run_underlying L.t4;have u23:=run_underlying L.t23;have u26:=run_underlying L.t26;have u33:=run_underlying L.t33;obtain ⟨_,_,FG⟩:=L.f10;refine callsIn_of_wp FG rfl h10 ?_ hro;simp only[SlBodyZ.n10_ntmps ρ,QKl,QJy,QJH,Nat.reduceAdd,Nat.reduceSub,Array.replicate_succ,Array.replicate_zero,List.push_toArray,List.append_toArray,QJ0,QJ2];have hrg:=run_range_nilMap (P:=P) W (ρ.t 23) (ρ.t 26) (ρ.t 3) L.t23;have hnx:∀ ty,(Instr.next (.pointer (some ⟨W.heap.size,0,none⟩)) false ty).run P (W.alloc (.mapIter none 0 #[] 0))=_:=fun ty=>run_next_nilMap _ ty 0 0 #[]
 gi_wp2
 refine wpIn_loop_rounds 1 ?_;rw[roundsIn_succ]
 gi_wp2
 go_end0
 exact ⟨⟨_,rfl⟩,[],rfl,hJ [] W _ none h0 (World.grownBy_alloc W _ none) (fun r e=>by cases e)⟩
set_option maxRecDepth 100000 in
set_option maxHeartbeats 1000000 in
theorem Jt (L:SlLaysZI.n10 P ρ) (F:Fence) (n:Nat) (h10:F.fn (ρ.f 10)) (hro:F.round=none) (Bm om:Nat) (w:World) (hBm:Bm<w.heap.size) (hm:w.cell? ⟨Bm,om,none⟩=some (.map none)) :
  SeqGives F n P (ρ.f 10) #[.pointer (some ⟨Bm,om,none⟩)] encZ (fun ss:List Int=>ss=[]) 0 w:=fun l J W hW hJ _ h0 =>
 QaM { L with } F n h10 hro l Bm om J W hJ ((hW.cell (p:=⟨Bm,om,none⟩) hBm).trans hm) h0
end Go.Pf
namespace Go.Proofs
open Go.Proofs.Tryz
open Go.Shelf Go.RowKit Go.Maps Go.Sort
theorem Tryz.sorts145 (m:Nat):AnyZI.SortsIn prog Tryz.sorted200_ren Fence.wide m :=
 ⟨fun blk off cap ss W hH hblk hsz=>callsIn_wide.2 (AnyM.slices_Sort_int Tryz.sort145 blk off cap ss W hH hblk hsz),
  fun p cap W=>callsIn_wide.2 (AnyM.slices_Sort_int_none Tryz.sort145 p cap W)⟩
end Go.Proofs
namespace Go.Pf
open Go Go.Ev Go.Proofs Go.RowKit Go.Shelf Go.Proofs.Tryz
set_option maxRecDepth 8000
theorem Qad (lb:Array Value) (S:List Int->Prop) (N:Nat) (hN:N<=1000000) (w:World) (hseq:SeqGives Fence.wide 2 prog 282 lb encZ S N w) :
  Calls prog 200 #[.func (.func 282) #[] lb] w fun e w'=>∃ (v:Value) (ss:List Int),e=.returned v/\S ss /\
   w'.ownsRow w.heap.size 3 1 v ss.length ((ss.mergeSort (fun x y=>decide (x<=y))).map encZ)/\(v=.slice none 0 0↔ss=[])/\Below w.heap.size w w':=by
 refine (callsIn_wide (n:=5)).1 ?_;exact AnyZI.sorted_in Tryz.sorted200 Fence.wide 5 trivial trivial trivial trivial rfl (by omega) (Tryz.sorts145 _) (enters_of func145 (by kernel_rfl) rfl) 282 lb trivial (enters_of func282 (by kernel_rfl) rfl) S N (by unfold maxLen;omega) (by omega) w hseq
theorem insert_perm {H:Type} (x:Lit × DataW H):∀ l:List (Lit × DataW H),(DataW.insert x l).Perm (x::l)
 | []=>List.Perm.refl _
 | y::r=>by
   unfold DataW.insert;split
   ·exact List.Perm.refl _
   exact ((insert_perm x r).cons y).trans (List.Perm.swap x y r)
theorem sorted_perm {H:Type}:∀ l:List (Lit × DataW H),(l.foldr DataW.insert []).Perm l
 | []=>List.Perm.refl _
 | x::r=>by
   rw[List.foldr_cons];exact (insert_perm x _).trans ((sorted_perm r).cons x)
def QhX:Value->Option (DataW Nat × List MemPlace):=fun _=>some (.nil,[])
theorem QuV {x:MapEntry} {n:Int} (h:x.key=.int .i64 n) (hn : -9223372036854775808<=n/\n<9223372036854775808):WideElems.rd prog 3 QhX x=some (.int .i64 n,.nil):=by
 have hw:(Lit.int .i64 n).wf=true:=by
  have h1:=hn.1;have h2:=hn.2;simp[Lit.wf,IntKind.inR,IntKind.min,IntKind.max,IntKind.bits,IntKind.signed];omega
 simp[WideElems.rd,h,QhX,keyOf,underlying3,mapKey,hw]
section
variable {K:World->Prop}
theorem Qx4 (kvs:List (MK × IV)) (ks:List Int) (hk:kvs.map (·.1)=ks.map (fun x=>MK.int .i64 x)) (hwf:∀ x∈ks,-9223372036854775808<=x/\x<9223372036854775808) (hlen:ks.length<=1000000) :
  Gd K 200 [.clo 282 [] [.ptr [.map kvs]]] (Q6 (ks.mergeSort fun x y=>decide (x<=y))):=by
 intro w ok vs hK hnew hl hvs
 obtain ⟨v0,rfl⟩:∃ v0,vs=[v0]:=by
  match vs,hl with
  | [v],_=>exact ⟨v,rfl⟩
 have hrep:=hvs 0 _ v0 rfl rfl
 have fin:∀ (v:Value) (w':World) (ss:List Int),ss.Perm ks->w'.ownsRow w.heap.size 3 1 v ss.length ((ss.mergeSort (fun x y=>decide (x<=y))).map encZ)->Below w.heap.size w w' ->
   ∃ v1,Ending.returned v=.returned v1/\QA ok w' (Q6 (ks.mergeSort fun x y=>decide (x<=y))) v1/\Below w.heap.size w w':=fun v w' ss hp ho hb=>by
  refine ⟨v,rfl,?_,hb⟩;have e1:ss.mergeSort (fun x y=>decide (x<=y))=ks.mergeSort fun x y=>decide (x<=y):=mergeSort_of_perm_i hp
  rw[e1] at ho;have hl2:ss.length=ks.length:=hp.length_eq;have e3:(ks.mergeSort fun x y=>decide (x<=y)).length=ss.length:=by simp[hl2]
  generalize (ks.mergeSort fun x y=>decide (x<=y))=zs at *
  obtain ⟨h1,h2 | ⟨g,cap,cur,h2,h3,h4,h5,h6,h7,h8⟩⟩:=ho
  ·obtain ⟨rfl,h2⟩:=h2
   have:zs=[]:=QJu (by omega)
   subst this;exact .nils _
  subst h2;rw[<- e3];refine Uo zs g cap (by omega) h6 (hnew g h3) fun j z hj=>?_
  have hjl:=(QJj.1 hj).1;have:(cur.toList.take (ss.length*1))[j]?=some (.int .i64 z):=by grind
  rw[QJ1,if_pos (by omega)] at this
  simp only[World.cell?,h4];simpa using this
 cases hrep with
 | clo _ _ _ us vs' h1 h2 hf hc =>
   obtain rfl:us=[]:=QJu h1
   obtain ⟨p,rfl⟩:∃ p,vs'=[p]:=by
    match vs',h2 with
    | [v],_=>exact ⟨v,rfl⟩
   have hp:=hc 0 _ p rfl rfl;cases hp with
   | ptr _ b off u hu hx =>
     have hcell:=(hu 0 (by simp)).2.1
     rw[QKx] at hcell;have hbw:b<w.heap.size:=QKc w ⟨b,off,none⟩ hcell;have hm:=hx 0 _ rfl;generalize u 0=u0 at hcell hm;cases hm with
     | mapn =>
       have hk0:ks=[]:=by simpa using hk.symm
       subst hk0;refine (Qad _ _ 0 (by omega) w (Jt (ρ:=Tryz.keys201_ren) { Tryz.keys201 with } Fence.wide 2 trivial rfl b off w hbw hcell)).mono ?_
       grind
     | map _ r es clock hok hr hmr hd hxx =>
       have hks:kvs.length=ks.length:=by simpa using congrArg List.length hk
       have hkey:∀ (i:Nat) (x:MapEntry),es[i]?=some x->∃ n:Int,ks[i]?=some n/\x.key=.int .i64 n:=fun i x hx=>by
        obtain ⟨k,h3,h4⟩:=hmr.keys i x hx;rw[<- QJq,hk,QJq,QJm] at h3;obtain ⟨n,h5,rfl⟩:=h3;exact ⟨n,h5,h4⟩
       have hrd:∀ (i:Nat) (x:MapEntry),es[i]?=some x->∃ n:Int,ks[i]?=some n/\x.key=.int .i64 n/\WideElems.rd prog 3 QhX x=some (.int .i64 n,.nil):=fun i x hx=>by
        obtain ⟨n,h3,h4⟩:=hkey i x hx;exact ⟨n,h3,h4,QuV h4 (hwf n (QJx h3))⟩
       have hlist:es.toList.map (fun x=>intOf (WideElems.rg prog 3 QhX x).1)=ks:=by
        refine QKP fun i=>?_
        rw[QJq];cases hx:es[i]? with
        | none =>
          have:es.size<=i:=by
           grind
          have hz:=hmr.size
          grind
        | some x =>
          obtain ⟨n,h3,h4,h5⟩:=hrd i x hx;rw[QKZ,hx,h3];simp[WideElems.rg,h5,intOf]
       have hown:w.ownsMap prog 3 QhX r ks.length (DataW.map ((es.toList.map (WideElems.rg prog 3 QhX)).foldr DataW.insert [])):=by
        refine ⟨es,clock,hr,⟨by have:=hmr.size;unfold maxLen;omega,⟨fun x hx=>?_,?_,?_⟩,fun x hx=>?_⟩,by grind,rfl⟩
        ·obtain ⟨i,hi⟩:=QJW hx
         exact hmr.born i x (by simpa using hi)
        ·rw[List.nodup_iff_pairwise_ne] at *
         refine QKh.2 fun i j hi hj hij heq=>?_
         simp at hi hj heq;have:=hmr.apart i j es[i] es[j] (by simp[hi]) (by simp[hj]) heq
         omega
        ·refine QKh.2 fun i j hi hj hij heq=>?_
         simp at hi hj heq;obtain ⟨k1,h3,h4⟩:=hmr.keys i es[i] (by simp[hi])
         obtain ⟨k2,h5,h6⟩:=hmr.keys j es[j] (by simp[hj])
         rw[QJm] at h3 h5;obtain ⟨p,h7,rfl⟩:=h3;obtain ⟨q,h8,rfl⟩:=h5;rw[h4,h6] at heq
         have:p.1=q.1:=by
          have e1:(kvs.map (·.1))[i]?=some p.1:=by simp[h7]
          have e2:(kvs.map (·.1))[j]?=some q.1:=by simp[h8]
          rw[hk,QJq,QJm] at e1 e2;obtain ⟨n1,_,e1⟩:=e1;obtain ⟨n2,_,e2⟩:=e2;rw[<- e1,<- e2] at heq |-;simpa[MK.val] using heq
         grind
        obtain ⟨i,hi⟩:=QJW hx
        grind
       have hperm:(intKeys (DataW.map ((es.toList.map (WideElems.rg prog 3 QhX)).foldr DataW.insert []))).Perm ks:=by
        have:=(sorted_perm (es.toList.map (WideElems.rg prog 3 QhX))).map fun p=>intOf p.1
        rw[List.map_map] at this;refine this.trans ?_;rw[show es.toList.map ((fun p=>intOf p.1)∘WideElems.rg prog 3 QhX)=ks from hlist]
       have hsz:=hown.size_le;refine (Qad _ _ _ (by omega) w (UV (ρ:=Tryz.keys201_ren) { Tryz.keys201 with } Fence.wide 2 trivial rfl (by omega) b off r _ _ w hbw hcell hown)).mono ?_
       grind
end
end Go.Pf
namespace Go.Pf
open Go Go.Ev Go.Proofs Go.RowKit Go.Proofs.Tryz
variable {K:World->Prop} (hK:∀ w w',K w->Below w.heap.size w w'->K w')
set_option maxRecDepth 8000
theorem ZM {α:Type} {p:List α->Prop} (h0:p []) (h1:∀ l x,p l->p (l++[x])) (l:List α):p l:=by
 have:∀ r:List α,p r.reverse:=by
  intro r
  induction r with
  | _=>grind
 have h:=this l.reverse
 grind
def Qcq:List (Int × Nat)->Int->List (Int × Nat)
 | [],x=>[(x,1)]
 | p::r,x=>if p.1=x then (x,p.2+1)::r else p::Qcq r x
def Qcx:List (Int × Nat)->Int->Nat
 | [],_=>0
 | p::r,x=>if p.1=x then p.2 else Qcx r x
def J3 (l:List (Int × Nat)):List (MK × IV):=l.map fun p=>(.int .i64 p.1,.int .i64 (p.2:Nat))
theorem Yv (x:Int):∀ l,(Qh (.int .i64 x) (J3 l)).getD (.int .i64 0)=.int .i64 (Qcx l x:Nat)
 | []=>rfl
 | p::r=>by
   by_cases h:p.1=x
   ·simp[J3,Qh,Qcx,h]
   have:=Yv x r;simp[J3,Qh,Qcx,h] at this |-;exact this
theorem Vn (x:Int):∀ l,zn (.int .i64 x) (.int .i64 ((Qcx l x:Nat)+1)) (J3 l)=J3 (Qcq l x)
 | []=>by simp[J3,zn,Qcx,Qcq]
 | p::r=>by
   by_cases h:p.1=x
   ·simp[J3,zn,Qcx,Qcq,h]
   have:=Vn x r;simp[J3,zn,Qcx,Qcq,h] at this |-;exact this
theorem XE:∀ l,QK (.int .i64) (J3 l)
 | []=>trivial
 | _::r=>⟨rfl,XE r⟩
theorem QlY (x y:Int):∀ l,Qcx (Qcq l x) y<=Qcx l y+1
 | []=>by simp[Qcq,Qcx];split<;>omega
 | p::r=>by
   unfold Qcq;split
   ·simp only[Qcx];grind
   simp only[Qcx];split
   ·omega
   exact QlY x y r
def ZE (l:List Int):List (Int × Nat):=l.foldl Qcq []
theorem ZG (l:List Int) (x:Int):ZE (l++[x])=Qcq (ZE l) x:=by simp[ZE]
theorem qP (y:Int):∀ l:List Int,Qcx (ZE l) y<=l.length:=by
 refine ZM (by simp[ZE,Qcx]) fun l x ih=>?_
 rw[ZG];have:=QlY x y (ZE l);simp;omega
def ZC (l:List Int):List Int:=((ZE l).map (·.1)).mergeSort fun x y=>decide (x<=y)
theorem Qe6 (x y:Int):∀ l,y∈(Qcq l x).map (·.1)↔y∈l.map (·.1)\/y=x
 | []=>by simp[Qcq]
 | p::r=>by
   unfold Qcq;split
   ·grind
   have:=Qe6 x y r
   grind
theorem QdV (x:Int):∀ l,(l.map (·.1)).Nodup->((Qcq l x).map (·.1)).Nodup
 | [],_=>by simp[Qcq]
 | p::r,h=>by
   rw[QJC,QKN] at h;unfold Qcq;split
   ·grind
   rename_i hp;rw[QJC,QKN];refine ⟨fun hb=>?_,QdV x r h.2⟩
   rcases (Qe6 x p.1 r).1 hb with hb | hb
   all_goals grind
theorem Qfp (y:Int):∀ l:List Int,y∈(ZE l).map (·.1)↔y∈l:=by
 refine ZM (by simp[ZE]) fun l x ih=>?_
 rw[ZG,Qe6,ih];simp
theorem Qny:∀ l:List Int,((ZE l).map (·.1)).Nodup:=by
 refine ZM (by simp[ZE]) fun l x ih=>?_
 rw[ZG];exact QdV x _ ih
theorem QlO (x:Int):∀ k,(Qcq k x).length<=k.length+1
 | []=>by simp[Qcq]
 | p::r=>by
   have:=QlO x r;unfold Qcq
   grind
theorem W7:∀ l:List Int,(ZE l).length<=l.length:=by
 refine ZM (by simp[ZE]) fun l x ih=>?_
 rw[ZG];have:=QlO x (ZE l);simp;omega
theorem YW (y:Int) (l:List Int):y∈ZC l↔y∈l:=by
 unfold ZC;rw[List.mem_mergeSort,Qfp]
theorem Uk (l:List Int):(ZC l).Pairwise (·<·):=by
 have h1:=List.pairwise_mergeSort (le:=fun x y:Int=>decide (x<=y)) (fun a b c h1 h2=>by simp at *;omega) (fun a b=>by simp;omega) ((ZE l).map (·.1))
 have h2:(((ZE l).map (·.1)).mergeSort (fun x y:Int=>decide (x<=y))).Nodup:=(List.mergeSort_perm ((ZE l).map (·.1)) (fun x y:Int=>decide (x<=y))).nodup_iff.2 (Qny l)
 have h3:=h1.and h2;refine h3.imp fun {a b} h=>?_
 grind
theorem QiC:∀ {l l':List Int},l.Pairwise (·<·)->l'.Pairwise (·<·)->(∀ x,x∈l↔x∈l')->l=l'
 | [],[],_,_,_=>rfl
 | [],b::l',_,_,h=>absurd ((h b).2 (by simp)) (by simp)
 | a::l,[],_,_,h=>absurd ((h a).1 (by simp)) (by simp)
 | a::l,b::l',h1,h2,h=>by
   rw[List.pairwise_cons] at h1 h2
   have hab:a=b:=by
    have p1:=(h a).1 (by simp)
    have p2:=(h b).2 (by simp)
    grind
   subst hab;refine congrArg (a::·) (QiC h1.2 h2.2 fun x=>?_)
   grind
include hK
theorem Qfa (kvs:List (MK × IV)):Gd K 201 [.map kvs] (.clo 282 [] [.ptr [.map kvs]]):=by
 refine Qb hK (fk func201 QHK (by kernel_rfl)) (by simp) ?_
 simp
omit hK in
theorem Uy (l:List Int) (hw:∀ x∈l,-1000000<=x/\x<=1000000) (hl:l.length<=1000000):Gd K 200 [.clo 282 [] [.ptr [.map (J3 (ZE l))]]] (Q6 (ZC l)):=by
 have hlen:(ZE l).length<=l.length:=by
  exact W7 l
 refine Qx4 (K:=K) (J3 (ZE l)) ((ZE l).map (·.1)) (by simp[J3]) (fun x hx=>?_) (by simp;omega)
 have:=hw x ((Qfp x l).1 hx);omega
theorem Qcv (c:Qg) (hl:c.za.length<=1000) (hs:c.zg.length<=1000) (g1:FuncId) (cs1:List IV) (is:Bool) (hg1:OkC c->Gd K g1 ([.int .i64 (Qs c.za),.int .i64 (Qbj c.za)]++cs1) (.bool is)) (hc1:callee prog g1=true)
  (g2:FuncId) (cs2:List IV) (v:Nat->Int) (hg2:OkC c->is=true->∀ n∈Qp c,Gd K g2 ([.agg (YL c.za (Q2 c.za n) (pmC c n))]++cs2) (.int .i64 (v n))) (hc2:callee prog g2=true) (hv:OkC c->is=true->∀ n∈Qp c,-1000000<=v n/\v n<=1000000) :
  Gd K 185 [chV c,.clo g1 [] cs1,.clo g2 [] cs2] (.xd [Q6 (if Xn c is=0 then ZC ((Qp c).map v) else []),.int .i64 (Xn c is)]):=by
 refine Qb hK (fk func185 QHZ (by kernel_rfl)) (by simp) ?_
 simp;refine cK (by simpa using Qxx hK c (pmC c) (Qf4 hK c) g1 [] cs1 is (fun h=>by simpa using hg1 h) hc1 hl hs) ?_
 by_cases he:Xn c is=0;rotate_left
 ·by_cases h1:OkC c<;>cases is<;>simp[he,h1]
 ·have h1:OkC c:=by
   unfold Xn at he
   grind
  have h2:is=true:=by
   unfold Xn at he
   grind
  have hlen:(Qp c).length<=4096:=by
   have h1':=QJI (fun n=>decide ((QY c.za c.zg (Q2 c.za n):Int)<=c.zh)) (List.range (2 ^ Xr c.za))
   have h2':=J8 (n:=Xr c.za) (by have:=U0 c.za;have:=h1.len;omega)
   simp at h1';unfold Qp;omega
  have hG:=hg2 h1 h2;have hV:=hv h1 h2;clear hg2 hv hg1;subst h2;simp[he,h1];refine QN (wy:=.fall) (o':=[(10,.box [.yk 21]),(21,.xg (J3 (ZE ((Qp c).map v))))]) rfl (by kernel_rfl) (qH hK c h1 (pmC c) (Qf4 hK c h1)) ?_ ?_
  ·have:=VB.all (P:=prog) (K:=K) (ps:=[24]) (asn:=QfG) (body:=QkD) (ks:=[5,10]) (ids:=[10,21]) (eK:=[(5,.iv (.ptr [.clo g2 [] cs2])),(10,.loc 10 0)]) ((Qp c).map (XI c.za (pmC c)))
    (fun i=>[(10,.box [.yk 21]),(21,.xg (J3 (ZE (((Qp c).map v).take i))))]) fun i x hi=>by
    simp only[QJq,QJm] at hi;obtain ⟨y,hy,rfl⟩:=hi;have xa:=(QJj.1 hy).1
    have hyv:((Qp c).map v)[i]'(by simpa using xa)=v y:=by
     grind
    have hg:=hG y (QJx hy);refine ⟨rfl,?_⟩;rw[QJk (by simpa using xa),ZG,hyv]
    have hle:=qP (v y) (((Qp c).map v).take i);have hkk:=XE (ZE (((Qp c).map v).take i));have hf:=Yv (v y) (ZE (((Qp c).map v).take i));have hi:=Vn (v y) (ZE (((Qp c).map v).take i));have hle2:(((Qp c).map v).take i).length<=4096:=by simp;omega
    generalize ZE (((Qp c).map v).take i)=kv at *;simp[XI,QfG,QkD];refine ⟨hc2,cK (by simpa using hg) ?_⟩
    simp[hkk,hf,hi];omega
   simpa[ZE,J3,QJp] using this
  ·simp
   refine cK (by simpa using Qfa hK (J3 (ZE ((Qp c).map v)))) ?_
   simp;refine cK (Uy ((Qp c).map v) (fun x hx=>?_) (by simp;omega)) ?_
   ·grind
   ·simp
def qr (c:Qg) (pos:Int) (n:Nat):Int:=((cab c.za (Q2 c.za n) c.za.length).getD pos.toNat 0:Nat)
theorem Qfh (c:Qg) (pos:Int) (hl:c.za.length<=1000) (hs:c.zg.length<=1000) :
  Gd K 101 [chV c,.int .i64 pos] (.xd [Q6 (if Xn c (decide (inR pos 0 (Qs c.za-1)))=0 then ZC ((Qp c).map (qr c pos)) else []),.int .i64 (Xn c (decide (inR pos 0 (Qs c.za-1))))]):=by
 refine Qb hK (fk func101 QIO (by kernel_rfl)) (by simp) ?_
 simp;refine cK (by simpa using Qjm hK pos) ?_
 simp
 have hcl:∀ n,OkC c->((cab c.za (Q2 c.za n) c.za.length).length:Int)=Qs c.za:=fun n h=>by
  rw[Xb _ h.za _ (QJn _) (QJn _)];rfl
 have hg:=Qcv hK c hl hs 270 [.ptr [.int .i64 pos]] (decide (inR pos 0 (Qs c.za-1))) (fun h=>by
   have:=hcl 0 h;have h2:=h.za.cnt c.za.length (QJn _) (QJn _);have h3:=Xb (Q2 c.za 0) h.za c.za.length (QJn _) (QJn _);simpa using Qi7 hK (Qs c.za) (Qbj c.za) pos (by omega)) (by kernel_rfl) 187 [.ptr [.int .i64 pos]] (qr c pos) (fun h hi n _=>by
   have h3:=hcl n h;have hi:=of_decide_eq_true hi;simp only[inR] at hi;have h4:pos=((pos.toNat:Nat):Int):=by omega
   have h5:pos.toNat<(cab c.za (Q2 c.za n) c.za.length).length:=by omega
   have h6:=Qx8 hK c.za (Q2 c.za n) (pmC c n) hl pos.toNat h5;rw[<- h4] at h6;have h7:(cab c.za (Q2 c.za n) c.za.length).getD pos.toNat 0=(cab c.za (Q2 c.za n) c.za.length)[pos.toNat]:=by grind
   unfold qr
   grind) (by kernel_rfl) (fun h hi n _=>by
   have h3:=hcl n h;have hi:=of_decide_eq_true hi;simp only[inR] at hi;have h5:pos.toNat<(cab c.za (Q2 c.za n) c.za.length).length:=by omega
   have h7:(cab c.za (Q2 c.za n) c.za.length).getD pos.toNat 0=(cab c.za (Q2 c.za n) c.za.length)[pos.toNat]:=by grind
   have h8:=W9 c.za (Q2 c.za n) c.za.length _ (QJo h5);have h9:=QmG c.za c.za.length;unfold qr;omega)
 refine cK (by simpa using hg) ?_
 simp
omit hK in
theorem JP (x:Int):ZC [x]=[x]:=by simp[ZC,ZE,Qcq]
omit hK in
theorem qv (c:Qg) (hc:OkC c) (h2:Xr c.za=0) (hs:c.zg=[]):Qp c=[0]:=by
 have:=hc.zh;simp only[inR] at this;simp[Qp,h2,hs,QY,this]
theorem Qw4 (c:Qg) (hc:OkC c) (h2:Xr c.za=0) (hs:c.zg=[]):Gd K 346 [chV c] (Yr (cab c.za (Q2 c.za 0) c.za.length)):=by
 have hl:=hc.len;have hr:=qv c hc h2 hs;have hcl:=Xb (Q2 c.za 0) hc.za c.za.length (QJn _) (QJn _);have hcb:=hc.za.cnt c.za.length (QJn _) (QJn _);have hcl2:Qs c.za=((cab c.za (Q2 c.za 0) c.za.length).length:Int):=hcl.symm
 have hw:∀ i:Nat,i<(cab c.za (Q2 c.za 0) c.za.length).length->Gd K 101 [chV c,.int .i64 i] (.xd [Q6 [((cab c.za (Q2 c.za 0) c.za.length).getD i 0:Nat)],.int .i64 0]):=fun i hi=>by
  have:=Qfh hK c i (by omega) (by simp[hs])
  have h3:inR (i:Int) 0 (Qs c.za-1):=by simp only[inR];omega
  have h4:Xn c true=0:=by simp[Xn,hc,hr]
  rw[decide_eq_true h3,h4,hr] at this;simpa[JP,qr] using this
 refine Qb hK (fk func346 QF1 (by kernel_rfl)) (by simp) ?_
 have hg83:=qL hK c (by omega) (by simp[hs])
 simp[hc] at hg83;simp;refine cK hg83 ?_;rw[hcl2];generalize cab c.za (Q2 c.za 0) c.za.length=now at *;simp
 refine Qw (fun i=>[(1,AV.iv (.ptr [QG c.za,QD c.zg,.int .i64 c.zh])),(5,AV.yl 5 i),(14,AV.iv (.int .i64 now.length)),(15,AV.iv (IV.int IntKind.i64 (i:Nat)))])
  (fun i=>[(5,AO.arr 3 1 (emb ((now.take i).map fun (n:Nat)=>[.int .i64 (n:Int)])) 0)]) now.length (fun i=>True) trivial ?_ ?_
 ·intro _
  rw[Qa QjR.eq_1];simp[QJp]
 intro i hi _ ih;rw[Qa QjR.eq_1];rw[QJk hi,QJE] at ih;have hg:=hw i hi;have h7:now.getD i 0=now[i]:=by grind
 rw[h7] at hg;simp[hi] at ih |-;refine cK (by simpa using hg) ?_
 simp
 grind
omit hK
def VJ (d:Qu) (x:Int):Qu:={ d with z2:=x }
def Je:List Qu->List (List Qu)
 | []=>[[]]
 | d::r=>if d.z2=2 then (Je r).map (VJ d 0::·)++(Je r).map (VJ d 1::·) else (Je r).map (d::·)
theorem Qox (ds:List Qu) (h:Xr ds=0):∀ x∈ds,ZB x=false:=by
 intro x hx;have:=QKR.1 h x hx;simpa[ZB] using this
theorem Qdy:∀ ds:List Qu,Xr ds=0->Je ds=[ds]
 | [],_=>rfl
 | d::r,h=>by
   by_cases hd:d.z2=2
   ·simp[Xr,QKB,hd] at h
   have:=Qdy r (by simpa[Xr,QKB,hd] using h)
   simp[Je,hd,this]
theorem Qju:∀ ds:List Qu,Xr ds≠0->∃ i:Nat,(∀ x∈ds.take i,ZB x=false)/\∃ h:i<ds.length,ds[i].z2=2/\Je ds=Je (ds.set i (VJ ds[i] 0))++Je (ds.set i (VJ ds[i] 1))/\∀ x:Int,x≠2->Xr (ds.set i (VJ ds[i] x))+1=Xr ds
 | [],h=>absurd rfl h
 | d::r,h=>by
   by_cases hd:d.z2=2
   ·refine ⟨0,by simp,by simp,hd,?_,fun x hx=>?_⟩
    ·simp[Je,hd,VJ]
    simp[Xr,QKB,VJ,hx,hd]
   ·have h':Xr r≠0:=by simpa[Xr,QKB,hd] using h
    obtain ⟨i,h1,h2,h3,h4,h5⟩:=Qju r h';refine ⟨i+1,?_,by simpa using h2,by simpa using h3,?_,fun x hx=>?_⟩
    ·intro x hx
     rw[List.take_succ_cons,QJw] at hx;rcases hx with rfl | hx
     ·simp[ZB,hd]
     exact h1 x hx
    ·simp only[List.set_cons_succ,List.getElem_cons_succ,Je,hd,if_false]
     grind
    ·have:=h5 x hx
     simp only[List.set_cons_succ,List.getElem_cons_succ];simp[Xr,hd] at this |-;omega
noncomputable def QJ (c:Qg):List Qg:=((Je c.za).map fun ds=>{ c with za:=ds }).filter fun c'=>decide (Xn c' true=0)
def UE (c:Qg):List IV:=[chV c]
theorem Qcl (c:Qg) (h:Xr c.za=0):QJ c=if Xn c true=0 then [c] else []:=by
 unfold QJ;rw[Qdy _ h];by_cases h1:Xn c true=0<;>simp[h1]
include hK
theorem QiY:∀ (n:Nat) (c:Qg),Xr c.za=n->c.za.length<=1000->c.zg.length<=1000->qk prog K 276 [chV c] [] ((QJ c).map UE) (fun b=>.bool b)
 | 0,c,hn,hl,hs=>by
   intro s b s' hf;refine Qt QqT (by simp) hf.v rfl ?_
   have hfi:=YJ ZB c.za (Qox _ hn);have hg:=Qpk hK c.za 344 ZB (Qpj hK) (by kernel_rfl) hl
   rw[hfi] at hg;rw[Qcl c hn] at hf;simp;refine cK (by simpa using hg) ?_
   simp;refine cK (Qpi hK c (pmC c) (Qf4 hK c) hl hs) ?_;by_cases h1:Xn c true=0
   ·simp[h1] at hf |-
    cases hf with
    | stop _ _ _ _ hg =>
      refine QM (by simpa[UE] using hg) rfl ?_
      simp
    | next _ _ _ s1 _ _ hg hr =>
      cases hr;refine QM (by simpa[UE] using hg) rfl ?_
      simp
   simp[h1] at hf |-;cases hf
   grind
 | n+1,c,hn,hl,hs=>by
   intro s b s' hf;refine Qt QqT (by simp) hf.v rfl ?_
   obtain ⟨i,h1,h2,h3,h4,h5⟩:=Qju c.za (by omega)
   have hg:=Qpk hK c.za 344 ZB (Qpj hK) (by kernel_rfl) hl
   rw[QaJ ZB c.za i h2 (by simp[ZB,h3]) h1] at hg
   have hne:c.za≠[]:=fun e=>by grind
   have hgc:=clone84 (K:=K) c.za hl hne;have ih0:=QiY n { c with za:=c.za.set i (VJ c.za[i] 0) } (by grind) (by simpa using hl) hs
   have ih1:=QiY n { c with za:=c.za.set i (VJ c.za[i] 1) } (by grind) (by simpa using hl) hs
   have hkn:QJ c=QJ { c with za:=c.za.set i (VJ c.za[i] 0) }++QJ { c with za:=c.za.set i (VJ c.za[i] 1) }:=by
    unfold QJ
    grind
   rw[hkn,QJE] at hf;generalize hL0:QJ { c with za:=c.za.set i (VJ c.za[i] 0) }=L0 at *
   generalize hL1:QJ { c with za:=c.za.set i (VJ c.za[i] 1) }=L1 at *
   simp;refine cK hg ?_;simp
   refine Xj 2 (fun k e o=>∃ si,e=[(1,AV.cb 0),(2,AV.iv (.ptr [QG c.za,QD c.zg,.int .i64 c.zh])),(5,AV.iv (.int .i64 (i:Nat))),(25,AV.iv (.int .i64 (k:Nat)))]/\o=[(0,.ext si)] /\
    Q4 prog K (if k=0 then L0.map UE++L1.map UE else if k=1 then L1.map UE else []) si b s') ?_ ?_ _ _ ⟨s,by simp,by simp,by simpa using hf⟩
   ·rintro e o ⟨si,rfl,rfl,hfd⟩
    cases hfd;rw[Qa Qke.eq_1];simp
   rintro k e o hk ⟨si,rfl,rfl,hfd⟩ ih
   have hk2:k=0\/k=1:=by omega
   rw[Qa Qke.eq_1]
   have hset:∀ x:Int,(List.map (List.map AV.iv∘dC) c.za).set i [AV.iv (.int .i64 c.za[i].zp),AV.iv (.int .i64 c.za[i].pos),AV.iv (.int .i64 x),AV.iv (.int .i64 c.za[i].bar),AV.iv (.int .i64 c.za[i].z1)]=emb ((c.za.set i (VJ c.za[i] x)).map dC):=fun x=>by
    simp[emb,List.map_set,VJ]
   rcases hk2 with rfl | rfl
   ·simp only[if_true] at hfd
    simp;refine Z4 hgc (by simp) ?_
    simp[h2,hset,QJp];rcases hfd.append with ⟨s1,hf1,hf2⟩ | ⟨rfl,hf1⟩
    ·refine Zc (by simpa[QJp] using ih0 _ _ _ hf1) rfl ?_
     simp;exact ih _ _ ⟨s1,by simp,by simp,by simpa using hf2⟩
    refine Zc (by simpa[QJp] using ih0 _ _ _ hf1) rfl ?_
    simp
   simp only[if_true] at hfd;simp at hfd;simp;refine Z4 hgc (by simp) ?_
   simp[h2,hset,QJp];refine Zc (by simpa[QJp] using ih1 _ _ _ hfd) rfl ?_
   cases b
   ·simp
   simp;exact ih _ _ ⟨s',by simp,by simp,by simpa using Q4.nil _⟩
omit hK
theorem QgE {α:Type} (f:α->Int):∀ (l:List α) (k:Nat) (a:α),(∀ x∈l,1<=f x)->(∀ h:k<l.length,1<=f a/\f a<=f l[k])->Q7 f (l.set k a)<=Q7 f l
 | [],k,a,_,_=>by simp[Q7]
 | b::l,0,a,h,ha=>by
   have h1:=ha (by simp)
   have h2:=QbU f l fun x hx=>h x (by simp[hx])
   simp only[List.set_cons_zero,Q7];exact QKf h1.2 (by omega)
 | b::l,k+1,a,h,ha=>by
   have ih:=QgE f l k a (fun x hx=>h x (by simp[hx])) (fun hk=>ha (by simpa using hk))
   have h1:=h b (by simp)
   simp only[List.set_cons_succ,Q7];exact QKk ih (by omega)
def QdA (l:Zy) (n:Int):Zy:={ l with lo:=n,hi:=n }
def Y8 (m:Machine) (k:Nat) (l:Zy) (n:Int):Machine:={ m with zd:=m.zd.set k (QdA l n) }
noncomputable def UT:Nat->Machine->Nat->List Machine
 | 0,m,_=>acc (Qaq m) (m.zw+1-m.zu).toNat
 | r+1,m,k=>match m.zd[k]? with
   | some l=>acc (fun i=>UT r (Y8 m k l (l.lo+(i:Nat))) (k+1)) (l.hi+1-l.lo).toNat
   | none=>[]
structure QCH (m:Machine):Prop where
 len:m.zd.length<=3
 blen:m.zk.length<=6
 zx:inR m.zu 0 m.zw
 zw:m.zw<=20
 span:∀ l∈m.zd,1<=YV l
 lo:∀ l∈m.zd,0<=l.lo/\l.hi<=100000
 sets:sets m m.zd.length<=1000000
theorem QCH.fix {m:Machine} (h:QCH m) {k:Nat} (hk:k<m.zd.length) {n:Int} (hn:m.zd[k].lo<=n/\n<=m.zd[k].hi):QCH (Y8 m k m.zd[k] n):=by
 have hs:=h.span _ (QJo hk);have hl:=h.lo _ (QJo hk);refine ⟨by simpa[Y8] using h.len,h.blen,h.zx,h.zw,fun l hl=>?_,fun l hl'=>?_,?_⟩
 ·rcases QK3 hl with h1 | h1
  ·exact h.span l h1
  rw[h1];simp[YV,QdA]
 ·rcases QK3 hl' with h1 | h1
  ·exact h.lo l h1
  rw[h1];simp only[QdA];omega
 ·refine Int.le_trans ?_ h.sets
  have e1:(Y8 m k m.zd[k] n).zd.length=m.zd.length:=by simp[Y8]
  have h2:=h.zx;simp only[inR] at h2;unfold Pf.sets;rw[e1,QJp (QJn _),QJp (by omega)]
  refine QKk (QgE YV _ _ _ h.span fun hk'=>?_) (by simp only[Y8];omega)
  have:YV (QdA m.zd[k] n)=1:=by simp[YV,QdA]
  omega
include hK
theorem QoX:∀ (r:Nat) (m:Machine) (k:Nat),k+r=m.zd.length->QCH m->qk prog K 279 [maV m,.int .i64 k] [] ((UT r m k).map Qg6) (fun b=>.bool b)
 | 0,m,k,hk,ht=>by
   have:k=m.zd.length:=by omega
   subst this;have h1:=ht.len;have h2:=ht.blen;refine Qg5 hK m (by omega) (by omega) ht.zx ht.zw (fun n _=>?_)
   have h3:=ht.sets;have h4:=ht.zx;have h5:=QbU YV m.zd ht.span;simp only[inR] at h4;unfold Pf.sets at h3 |-;simp only[XS] at h3 |-;rw[QJp (QJn _)] at h3 |-;have h6:(m.zw-m.zu+1)*Q7 YV m.zd≥1*Q7 YV m.zd:=QKf (by omega) (by omega)
   omega
 | r+1,m,k,hk,ht=>by
   have xa:k<m.zd.length:=by omega
   have ih:=QoX r;intro s b s' hf;refine Qt QqS (by simp) hf.v rfl ?_
   simp only[UT,QJi xa] at hf;rw[Vt] at hf;have hne:¬ (k:Int)=m.zd.length:=by omega
   have xb:=ht.lo _ (QJo xa);have hln:=ht.len;have hnn:m.zd≠[]:=fun e=>by grind
   have hgc:=clone86 (K:=K) m.zd (by omega) hnn
   have hsp:=ht.span _ (QJo xa);simp only[YV] at hsp
   have hit:∀ i:Nat,i<(m.zd[k].hi+1-m.zd[k].lo).toNat->qk prog K 279 [maV (Y8 m k m.zd[k] (m.zd[k].lo+i)),.int .i64 ((k+1:Nat):Int)] [] ((UT r (Y8 m k m.zd[k] (m.zd[k].lo+i)) (k+1)).map Qg6) (fun b=>.bool b):=fun i hi =>
    ih _ _ (by simp[Y8];omega) (ht.fix xa (by omega))
   generalize hpc:(fun i:Nat=>UT r (Y8 m k m.zd[k] (m.zd[k].lo+i)) (k+1))=pc at hf
   have hpc':∀ i:Nat,UT r (Y8 m k m.zd[k] (m.zd[k].lo+i)) (k+1)=pc i:=fun i=>by rw[<- hpc]
   simp only[hpc'] at hit;simp[hne,xa];intros
   refine Xj (m.zd[k].hi+1-m.zd[k].lo).toNat (fun i e o=>∃ si ls,e=[(1,AV.iv (.int .i64 (k:Nat))),(2,AV.cb 0),(3,AV.iv (.ptr [ZD m.zd,.int .i64 m.zr,.int .i64 m.zu,.int .i64 m.zw,Ud m.zk,.int .i64 m.zh])),(7,AV.loc 7 0),(11,AV.iv (.int .i64 (m.zd[k].lo+(i:Nat))))] /\
    o=[(0,.ext si),(7,.box [.iv (ZD ls),.iv (.int .i64 m.zr),.iv (.int .i64 m.zu),.iv (.int .i64 m.zw),.iv (Ud m.zk),.iv (.int .i64 m.zh)])] /\
    Q4 prog K ((Zo pc i ((m.zd[k].hi+1-m.zd[k].lo).toNat-i)).map Qg6) si b s') ?_ ?_ _ _ ⟨s,m.zd,by simp,by simp,by simpa using hf⟩
   ·rintro e o ⟨si,ls,rfl,rfl,hfd⟩
    rw[QKK] at hfd;cases hfd;have q1:m.zd[k].lo+((m.zd[k].hi+1-m.zd[k].lo).toNat:Int)=m.zd[k].hi+1:=by omega
    have q2:¬ m.zd[k].hi+1<=m.zd[k].hi:=by omega
    rw[q1,Qa Qka.eq_1];simp[q2,xa]
   rintro i e o hi ⟨si,ls,rfl,rfl,hfd⟩ ihl
   have q1:m.zd[k].lo+(i:Int)<=m.zd[k].hi:=by omega
   have q3:m.zd[k].lo+((i:Int)+1)=m.zd[k].lo+i+1:=by omega
   have e1:(m.zd[k].hi+1-m.zd[k].lo).toNat-i=((m.zd[k].hi+1-m.zd[k].lo).toNat-(i+1))+1:=by omega
   rw[e1] at hfd;simp only[Zo,QJE] at hfd
   have hset:(List.map (List.map AV.iv∘leC) m.zd).set k [AV.iv (.int .i64 m.zd[k].long),AV.iv (.int .i64 (m.zd[k].lo+i)),AV.iv (.int .i64 (m.zd[k].lo+i))]=emb ((m.zd.set k (QdA m.zd[k] (m.zd[k].lo+i))).map leC):=by
    simp[emb,List.map_set,QdA]
   rw[Qa Qka.eq_1];simp[q1,xa];refine Z4 hgc (by simp) ?_
   simp[xa,hset,QJp];refine ⟨by omega,?_⟩
   have hiti:=hit i hi;rcases hfd.append with ⟨s1,hf1,hf2⟩ | ⟨rfl,hf1⟩
   ·refine Zc (by simpa[Y8] using hiti _ _ _ hf1) rfl ?_
    simp
    (repeat' first | omega | (with_reducible apply And.intro) | intro _)
    exact ihl _ _ ⟨s1,m.zd.set k (QdA m.zd[k] (m.zd[k].lo+i)),by simp[q3],by simp,hf2⟩
   refine Zc (by simpa[Y8] using hiti _ _ _ hf1) rfl ?_
   simp
omit hK
theorem JN (a:Nat) (h:a<2 ^ 64):(BitVec.ofInt 64 (a:Int)).toNat=a:=by
 grind
theorem Wu (a:Nat) (h:a<2 ^ 64):IntKind.wrap .u64 (a:Int)=(a:Int):=by
 have h':a<18446744073709551616:=h;simp only[IntKind.wrap,IntKind.bits,IntKind.signed];simp;omega
theorem Qlv (a b:Nat) (ha:a<2 ^ 64) (hb:b<2 ^ 64):qU .or .u64 (a:Int) (b:Int)=((a ||| b:Nat):Int):=by
 show IntKind.wrap .u64 (((BitVec.ofInt 64 (a:Int)) ||| (BitVec.ofInt 64 (b:Int))).toNat:Int)=_
 rw[BitVec.toNat_or,JN a ha,JN b hb,Wu _ (QK0 ha hb)]
theorem Qrn (a b:Nat) (ha:a<2 ^ 64) (hb:b<2 ^ 64):qU .and .u64 (a:Int) (b:Int)=((a &&& b:Nat):Int):=by
 show IntKind.wrap .u64 (((BitVec.ofInt 64 (a:Int)) &&& (BitVec.ofInt 64 (b:Int))).toNat:Int)=_
 rw[BitVec.toNat_and,JN a ha,JN b hb,Wu _ (Nat.and_lt_two_pow _ hb)]
def Qvt (a b:Nat):Nat:=a &&& (2 ^ 64-1-b)
theorem Qro {a b:Nat} (ha:a<2 ^ 64):Qvt a b<2 ^ 64:=QKU Nat.and_le_left ha
theorem QnG (a b:Nat) (ha:a<2 ^ 64) (hb:b<2 ^ 64):qU .andNot .u64 (a:Int) (b:Int)=(Qvt a b:Int):=by
 show IntKind.wrap .u64 (((BitVec.ofInt 64 (a:Int)) &&& ~~~(BitVec.ofInt 64 (b:Int))).toNat:Int)=_
 rw[BitVec.toNat_and,BitVec.toNat_not,JN a ha,JN b hb];exact Wu _ (Qro ha)
theorem Quu {a b i:Nat} (hb:b<2 ^ 64) (hi:i<64):(Qvt a b).testBit i=(a.testBit i&&!b.testBit i):=by
 unfold Qvt;rw[Nat.testBit_and,show 2 ^ 64-1-b=2 ^ 64-(b+1) by omega,Nat.testBit_two_pow_sub_succ hb]
 simp[hi]
theorem Qih {n:Nat} (h:n<64):Qv2 .u64 1 (n:Int)=((2 ^ n:Nat):Int):=by
 have h2:(2:Nat) ^ n<2 ^ 64:=QK1 (by decide) h
 unfold Qv2;rw[show min ((n:Int)).toNat IntKind.u64.bits=n by simp[IntKind.bits];omega,Int.one_mul]
 have:((2:Int) ^ n)=((2 ^ n:Nat):Int):=by push_cast;rfl
 rw[this];exact Wu _ h2
theorem QvZ (a n:Nat) (h:n<64):QuN .u64 (a:Int) (n:Int)=((a >>> n:Nat):Int):=by
 unfold QuN;rw[show min ((n:Int)).toNat IntKind.u64.bits=n by simp[IntKind.bits];omega,Nat.shiftRight_eq_div_pow]
 grind
theorem QwE (a n:Nat) (h:n<64) (ha:a<2 ^ 64):qU .and .u64 (QuN .u64 (a:Int) (n:Int)) 1=if a.testBit n then 1 else 0:=by
 rw[QvZ a n h];have h1:a >>> n<2 ^ 64:=QKU (Nat.shiftRight_le _ _) ha;have:=Qrn (a >>> n) 1 h1 (by decide)
 rw[show ((1:Nat):Int)=1 from rfl] at this
 rw[this]
 have e:a.testBit n=(decide ((a >>> n) &&& 1=1)):=by
  rw[Nat.testBit,Nat.and_comm]
  grind
 grind
def Xv (l:List Nat):Nat:=l.foldl (fun m n=>m ||| 2 ^ n) 0
theorem qB (l:List Nat) (n:Nat):Xv (l++[n])=Xv l ||| 2 ^ n:=by simp[Xv]
theorem QgS (i:Nat):∀ l:List Nat,(Xv l).testBit i=decide (i∈l):=by
 refine ZM (by simp[Xv]) fun l n ih=>?_
 rw[qB,Nat.testBit_or,ih,Nat.testBit_two_pow]
 grind
theorem QlG (k:Nat):∀ l:List Nat,(∀ n∈l,n<k)->Xv l<2 ^ k:=by
 refine ZM (fun _=>by simp[Xv];grind) fun l n ih h=>?_
 rw[qB];exact QK0 (ih fun m hm=>h m (by simp[hm])) (QK1 (by decide) (h n (by simp)))
theorem QhH (ds:List Qu) {e e':Nat->Int}:∀ k,(∀ i<k,e i=e' i)->cab ds e k=cab ds e' k
 | 0,_=>rfl
 | k+1,h=>by
   have ih:=QhH ds k fun i hi=>h i (by omega)
   have hk:=h k (by omega)
   simp only[cab,ih,hk]
theorem QvD (ds:List Qu) (k:Nat) {j:Nat} (h:j<=k):wn (ds.take k) j=wn ds j:=by
 unfold wn
 grind
theorem Qmn (ds:List Qu) (e:Nat->Int) (k:Nat):∀ j,j<=k->cab (ds.take k) e j=cab ds e j
 | 0,_=>rfl
 | j+1,h=>by
   have ih:=Qmn ds e k j (by omega)
   have hj:(ds.take k)[j]?=ds[j]?:=by grind
   simp only[cab,hj,ih,QvD ds k (show j<=k by omega)]
theorem Qqc (ds:List Qu) (k i:Nat) (h:i<k):Q2 (ds.take k) 0 i=Q2 ds 0 i:=by
 have hj:(ds.take k)[i]?=ds[i]?:=by grind
 unfold Q2
 grind
theorem QnB (ds:List Qu) (k:Nat):cab (ds.take k) (Q2 (ds.take k) 0) k=cab ds (Q2 ds 0) k:=by
 rw[Qmn ds _ k k (QJn _)];exact QhH ds k fun i hi=>Qqc ds k i hi
theorem QcY (ds:List Qu) (k:Nat) (h:Xr ds=0):Xr (ds.take k)=0:=by
 rw[Xr,QKR] at *
 grind
def ZQ (p:Qe) (e:Nat->Int):List IV :=
 [.sl 1 ((List.range p.zf.length).map fun i=>[.int .u64 (Xv (Zs p i e):Nat)]),.sl 1 ((List.range p.zf.length).map fun i=>[.int .i64 (QH p i e)]),Yr (JC p e)]
include hK
theorem Qgs (c:Qg) (hc:OkD c.za c.za.length) (hl:c.za.length<=12) (h2:Xr c.za=0) (k:Nat) (hk:k<=c.za.length):Gd K 346 [chV (Zu c k)] (Yr (cab c.za (Q2 c.za 0) k)):=by
 have hC:OkC (Zu c k):=qy hc hl hk;have:=Qw4 hK (Zu c k) hC (QcY _ _ h2) rfl;have e:(Zu c k).za=c.za.take k:=rfl;have e2:(c.za.take k).length=k:=by simp;omega
 rw[e,e2,QnB] at this;exact this
theorem Qxv (p:Qe) (hp:OkP p) (h2:Xr p.zc.za=0):Gd K 278 [chV p.zc,Jv p.zf] (.agg (ZQ p (Q2 p.zc.za 0))):=by
 have hl:=hp.deedsLen;have htl:=hp.trialsLen;have hd:=hp.zc.za;refine Qb hK (fk func278 QGI (by kernel_rfl)) (by simp) ?_
 simp;intro _;refine cK (by simpa using Qfc hK p.zc p.zc.za.length (QJn _)) ?_
 simp;refine cK (by simpa using Qgs hK p.zc hd hl h2 p.zc.za.length (QJn _)) ?_
 simp;refine cK (by simpa using QpA hK p.zc) ?_
 simp
 refine QN (wy:=.fall) (o':=[(4,.box [.iv (.sl 1 []),.iv (.sl 1 []),.iv (.sl 1 [])]),(5,.box [.yl 6000 p.zf.length,.yl 6001 p.zf.length,.iv (Yr (JC p (Q2 p.zc.za 0)))]),
  (6000,.arr 294 1 (emb ((List.range p.zf.length).map fun i=>[.int .u64 (Xv (Zs p i (Q2 p.zc.za 0)):Nat)])) 0),(6001,.arr 3 1 (emb ((List.range p.zf.length).map fun i=>[.int .i64 (QH p i (Q2 p.zc.za 0))])) 0)]) rfl (by kernel_rfl) (QiZ p.zc (by omega)) ?_ ?_
 ·have htrs:(trs (pv p.zc.za) 0).length=p.zf.length:=by
   have:∀ (l:List Nat) (t:Nat),(trs l t).length=l.length:=by
    intro l
    induction l with
    | nil=>intro t;rfl
    | cons a l ih=>intro t;simp[trs,ih]
   rw[this,hp.many]
  have:=VB.all (P:=prog) (K:=K) (ps:=[22,23]) (asn:=QfA) (body:=Qkc) (ks:=[2,3,4,5]) (ids:=[4,5,6000,6001]) (eK:=[(2,.iv (.ptr [QG p.zc.za,QD p.zc.zg,.int .i64 p.zc.zh])),(3,.iv (.ptr [Jv p.zf])),(4,.loc 4 0),(5,.loc 5 0)]) (trs (pv p.zc.za) 0)
   (fun i=>[(4,.box [.iv (.sl 1 []),.iv (.sl 1 []),.iv (.sl 1 [])]),(5,.box [.yl 6000 i,.yl 6001 i,.iv (Yr (JC p (Q2 p.zc.za 0)))]),
     (6000,.arr 294 1 (emb ((List.range i).map fun i=>[.int .u64 (Xv (Zs p i (Q2 p.zc.za 0)):Nat)])) 0),(6001,.arr 3 1 (emb ((List.range i).map fun i=>[.int .i64 (QH p i (Q2 p.zc.za 0))])) 0)]) fun i x hx=>by
   obtain ⟨hi,rfl⟩:=Qet _ _ _ _ hx;have hit:i<p.zf.length:=by grind
   have xa:=Qlp hi;have hthen:Zs p i (Q2 p.zc.za 0)=cab p.zc.za (Q2 p.zc.za 0) (pv p.zc.za)[i]:=by simp[Zs,List.getD_eq_getElem?_getD,hi]
   have hrow:=Qgs hK p.zc hd hl h2 (pv p.zc.za)[i] (by omega)
   rw[<- hthen] at hrow;have htr:=QnW hit;have hok:=hp.trial hit;have hbr:QH p i (Q2 p.zc.za 0)=if 0<=(tr p i).z5 then (((Zs p i (Q2 p.zc.za 0)).getD (tr p i).z5.toNat 0:Nat):Int) else -1:=rfl
   have hcl:((Zs p i (Q2 p.zc.za 0)).length:Int)=cnt p.zc.za (pv p.zc.za)[i]:=by rw[hthen];exact Xb _ hd _ (by omega) (by omega)
   have hcb:=hd.cnt (pv p.zc.za)[i] (by omega) (by omega)
   have hmem:∀ n∈Zs p i (Q2 p.zc.za 0),n<12:=fun n hn=>by
    rw[hthen] at hn;have:=W9 _ _ _ n hn;have:=QmG p.zc.za (pv p.zc.za)[i];omega
   have hpd:(pv p.zc.za).getD i 0=(pv p.zc.za)[i]:=by grind
   rw[hpd] at hok;rw[QJT,QJE,QJE];refine ⟨rfl,?_⟩;generalize hnow:Zs p i (Q2 p.zc.za 0)=now at *;simp[QfA,Qkc,-List.map_map,QI,Q0,QV,Qr];refine cK (by simpa using Qfc hK p.zc (pv p.zc.za)[i] (by omega)) ?_
   simp;refine cK (by simpa using hrow) ?_
   simp;intro _
   refine Qw (fun k=>[(2,.iv (.ptr [QG p.zc.za,QD p.zc.zg,.int .i64 p.zc.zh])),(3,.iv (.ptr [Jv p.zf])),(4,.loc 4 0),(5,.loc 5 0),(6,.iv (.int .i64 (i:Nat))),(8,.iv (Yr now)),(9,.iv (.int .u64 (Xv (now.take k):Nat))),(28,.iv (Yr now)),(29,.iv (.int .i64 now.length)),(30,.iv (.int .i64 (k:Nat)))])
    (fun _=>[(4,.box [.iv (.sl 1 []),.iv (.sl 1 []),.iv (.sl 1 [])]),(5,.box [.yl 6000 i,.yl 6001 i,.iv (Yr (JC p (Q2 p.zc.za 0)))]),
    (6000,.arr 294 1 (emb ((List.range i).map fun i=>[.int .u64 (Xv (Zs p i (Q2 p.zc.za 0)):Nat)])) 0),(6001,.arr 3 1 (emb ((List.range i).map fun i=>[.int .i64 (QH p i (Q2 p.zc.za 0))])) 0)]) now.length (fun _=>True) trivial ?_ ?_
   ·intro _
    rw[Qa Qkd.eq_1];by_cases hb:0<=(tr p i).z5
    ·have hb2:(tr p i).z5.toNat<now.length:=by
      have:=hok.2.2;simp only[inR] at this;omega
     have hgd:now.getD (tr p i).z5.toNat 0=now[(tr p i).z5.toNat]:=by grind
     rw[if_pos hb,hgd] at hbr;simp[hit,htr,hb,hb2,hbr,hnow,-List.map_map,QI,Q0,QV,Qr,QJp];omega
    rw[if_neg hb] at hbr;simp[hit,htr,hb,hbr,hnow,-List.map_map,QI,Q0,QV,Qr,QJp];omega
   intro k hk _ ih;rw[Qa Qkd.eq_1];have hn:=hmem now[k] (QJo hk);have hm1:Xv (now.take k)<2 ^ 12:=QlG 12 _ fun n hn=>hmem n (QJ3 hn)
   have hm2:(2:Nat) ^ now[k]<2 ^ 12:=QK1 (by decide) hn
   have hor:=Qlv (Xv (now.take k)) (2 ^ now[k]) (by omega) (by omega)
   rw[<- Qih (n:=now[k]) (by omega)] at hor
   rw[QJk hk,qB] at ih;simp at ih;simp[hk,hor]
   grind
  rw[htrs] at this;simpa[emb,JC] using this
 simp[ZQ,QJp]
 trace_state
omit hK
def Ze (p:Qe) (s:Qd):List (List IV):=(List.range p.zf.length).map fun i=>[.int .i64 (Qcb p.zb (tr p i).zm (tr p i).zn s),.int .i64 (upS p.zb (tr p i).zm (tr p i).zn s)]
def Zw (p:Qe) (t:Zb):List IV:=ZQ p (QR t.ends)++[.sl 2 (Ze p t.set)]
def nd (p:Qe) (zo:Int):Qe:={ p with zo:=zo }
theorem U1 {a b c:Int} (ha:0<=a) (hb:1<=b):(a+b-1).tdiv b<=c↔a<=c*b:=by
 rw[QJS (by omega)]
 constructor
 ·intro h
  have h1:=Int.mul_ediv_add_emod (a+b-1) b;have h2:=Int.emod_lt_of_pos (a+b-1) (show 0<b by omega)
  have h3:b*((a+b-1) / b)<=b*c:=QKk h (by omega)
  grind
 intro h
 have:(a+b-1) / b<c+1:=by
  rw[Int.ediv_lt_iff_lt_mul (by omega),Int.add_mul]
  omega
 omega
theorem Wa {a b c:Int} (ha:0<=a) (hb:1<=b):c<=a.tdiv b↔c*b<=a:=by
 rw[QJS ha];exact Int.le_ediv_iff_mul_le (by omega)
include hK
theorem Qxu (p:Qe) (t:Zb) (zo:Int) (hp:OkP p) (hs:okS p.zb t.set) (i:Nat) (hi:i<p.zf.length):Gd K 283 [.agg (Zw p t),.int .i64 i,.int .i64 zo] (.bool (YK (nd p zo) i t)):=by
 refine Qb hK (fk func283 QGF (by kernel_rfl)) (by simp) ?_
 have hbr:QH p i (QR t.ends)=if 0<=(tr p i).z5 then (((Zs p i (QR t.ends)).getD (tr p i).z5.toNat 0:Nat):Int) else -1:=rfl
 have hfd:YK (nd p zo) i t=(decide (0<=(tr p i).z5)&&decide (num p.zb t.set (tr p i).zm (tr p i).zn<=zo*den t.set)):=rfl;have hnum:0<=num p.zb t.set (tr p i).zm (tr p i).zn:=(hp.zb.numB hs (hp.trial hi).1 (hp.trial hi).2.1).1;have hden:1<=den t.set:=(hp.zb.denB hs).1;have hup:=U1 (c:=zo) hnum hden;rw[hfd];by_cases hb:0<=(tr p i).z5
 ·rw[if_pos hb] at hbr
  by_cases h2:num p.zb t.set (tr p i).zm (tr p i).zn<=zo*den t.set
  ·have h3:=hup.2 h2
   simp[Zw,ZQ,Ze,hi,hbr,hb,upS,h2,h3]
  have h3:=fun h=>h2 (hup.1 h)
  simp[Zw,ZQ,Ze,hi,hbr,hb,upS,h2,h3];omega
 ·rw[if_neg hb] at hbr
  simp[Zw,ZQ,Ze,hi,hbr,hb]
omit hK in
theorem Qnl (p:Qe) (t:Zb) (n:Nat):(List.range (n+1)).countP (fun i=>YK p i t)=(List.range n).countP (fun i=>YK p i t)+if YK p n t then 1 else 0:=by
 rw[QJT,QKA]
 grind
theorem Qjg (p:Qe) (t:Zb) (zo:Int) (hp:OkP p) (hs:okS p.zb t.set):Gd K 203 [.agg (Zw p t),.int .i64 zo] (.int .i64 (Xm (nd p zo) t:Nat)):=by
 refine Qb hK (fk func203 QHI (by kernel_rfl)) (by simp) ?_
 have htl:=hp.trialsLen;have hll:(Ze p t.set).length=p.zf.length:=by simp[Ze]
 have hf:Xm (nd p zo) t=(List.range p.zf.length).countP (fun i=>YK (nd p zo) i t):=rfl
 have hsv:Zw p t=[.sl 1 ((List.range p.zf.length).map fun i=>[.int .u64 (Xv (Zs p i (QR t.ends)):Nat)]),.sl 1 ((List.range p.zf.length).map fun i=>[.int .i64 (QH p i (QR t.ends))]),Yr (JC p (QR t.ends)),.sl 2 (Ze p t.set)]:=rfl
 rw[hsv];have hg:=fun i hi=>Qxu hK p t zo hp hs i hi
 rw[hsv] at hg;simp[hll];intro _
 refine Qw (fun i=>[(1,AV.iv (.int .i64 zo)),(2,.iv (.ptr [.sl 1 ((List.range p.zf.length).map fun i=>[.int .u64 (Xv (Zs p i (QR t.ends)):Nat)]),.sl 1 ((List.range p.zf.length).map fun i=>[.int .i64 (QH p i (QR t.ends))]),Yr (JC p (QR t.ends)),.sl 2 (Ze p t.set)])),
   (5,.iv (.int .i64 ((List.range i).countP (fun i=>YK (nd p zo) i t):Nat))),(9,.iv (.int .i64 p.zf.length)),(10,.iv (.int .i64 (i:Nat)))]) (fun _=>[]) p.zf.length (fun _=>True) trivial ?_ ?_
 ·intro _
  rw[Qa Qkx.eq_1];simp[hf]
 ·intro i hi _ ih
  have hle:(List.range i).countP (fun i=>YK (nd p zo) i t)<=i:=by
   have:=QJ4 (p:=fun i=>YK (nd p zo) i t) (l:=List.range i)
   simpa using this
  rw[Qa Qkx.eq_1];rw[Qnl] at ih;simp[hi] at ih |-;refine cK (by simpa using hg i hi) ?_
  cases hb:YK (nd p zo) i t
  ·simp[hb] at ih |-
   grind
  ·simp[hb] at ih |-
   grind
omit hK in
theorem QlH {p:Qe} (hp:OkP p) (i:Nat) (e:Nat->Int):Xv (Zs p i e)<2 ^ 12:=QlG 12 _ fun n hn=>by
 have h1:=OkP.thenLt (p:=p) e i hn;have h2:=X7 p.zc.za;have h3:(Z8 p.zc.za).length<=p.zc.za.length:=QJI _ _;have:=hp.deedsLen;omega
def QrW (p:Qe) (t:Zb) (m i:Nat):Nat :=
 if p.zo<=Qcb p.zb (tr p i).zm (tr p i).zn t.set then m ||| (if 0<=QH p i (QR t.ends) then Qvt (Xv (Zs p i (QR t.ends))) (2 ^ (QH p i (QR t.ends)).toNat) else Xv (Zs p i (QR t.ends))) else m
def pmN (p:Qe) (t:Zb) (n:Nat):Nat:=(List.range n).foldl (QrW p t) 0
omit hK in
theorem WI (p:Qe) (t:Zb) (n:Nat):pmN p t (n+1)=QrW p t (pmN p t n) n:=by simp[pmN,QJT]
omit hK in
theorem Qbh {p:Qe} (hp:OkP p) (e:Nat->Int) {i:Nat} (hi:i<p.zf.length) : -1<=QH p i e/\QH p i e<12:=by
 by_cases hb:0<=(tr p i).z5
 ·obtain ⟨h1,h2⟩:=hp.brokeIn e hi hb
  have h3:=OkP.thenLt (p:=p) e i (QJo h1);have h4:=X7 p.zc.za;have h5:(Z8 p.zc.za).length<=p.zc.za.length:=QJI _ _;have:=hp.deedsLen;omega
 simp[QH,hb]
omit hK in
theorem Qoo {p:Qe} (hp:OkP p) {t:Zb} (hs:okS p.zb t.set) (zo:Int) (m:Nat) {i:Nat} (hi:i<p.zf.length) {k:Nat} (hk:k<64):(QrW (nd p zo) t m i).testBit k=(m.testBit k||WH (nd p zo) k t i):=by
 have hnum:=(hp.zb.numB hs (hp.trial hi).1 (hp.trial hi).2.1).1;have hden:=(hp.zb.denB hs).1;have hbb:=Qbh hp (QR t.ends) hi;have hiff:=Wa (c:=zo) hnum hden
 have hin:inN (Zs p i (QR t.ends)) k=decide (k∈Zs p i (QR t.ends)):=by
  unfold inN
  grind
 have e1:WH (nd p zo) k t i=(decide (zo*den t.set<=num p.zb t.set (tr p i).zm (tr p i).zn)&&inN (Zs p i (QR t.ends)) k&&!decide (QH p i (QR t.ends)=k)):=rfl;have e2:QrW (nd p zo) t m i=if zo<=Qcb p.zb (tr p i).zm (tr p i).zn t.set then m ||| (if 0<=QH p i (QR t.ends) then Qvt (Xv (Zs p i (QR t.ends))) (2 ^ (QH p i (QR t.ends)).toNat) else Xv (Zs p i (QR t.ends))) else m:=rfl
 rw[e1,e2,hin];by_cases h1:zo<=Qcb p.zb (tr p i).zm (tr p i).zn t.set
 ·have h2:zo*den t.set<=num p.zb t.set (tr p i).zm (tr p i).zn:=hiff.1 h1
  rw[if_pos h1,Nat.testBit_or];by_cases h3:0<=QH p i (QR t.ends)
  ·rw[if_pos h3,Quu (QK1 (by decide) (by omega)) hk,QgS,Nat.testBit_two_pow]
   grind
  rw[if_neg h3,QgS]
  grind
 have h2:¬ zo*den t.set<=num p.zb t.set (tr p i).zm (tr p i).zn:=fun h=>h1 (hiff.2 h)
 grind
omit hK in
theorem QeR {p:Qe} (hp:OkP p) {t:Zb} (hs:okS p.zb t.set) {zo:Int} {k:Nat} (hk:k<64):(pmN (nd p zo) t p.zf.length).testBit k=Zi (nd p zo) k t:=by
 have hat:∀ (m:Nat) {i:Nat},i<p.zf.length->(QrW (nd p zo) t m i).testBit k=(m.testBit k||WH (nd p zo) k t i):=fun m i hi=>Qoo hp hs zo m hi hk
 have:∀ n,n<=p.zf.length->(pmN (nd p zo) t n).testBit k=(List.range n).any (WH (nd p zo) k t):=by
  intro n
  induction n with
  | zero=>intro _;simp[pmN]
  | succ n ih=>intro h;rw[WI,hat _ (by omega),ih (by omega),Qdh]
 exact this _ (QJn _)
omit hK in
theorem Qls {p:Qe} (hp:OkP p) (t:Zb) {zo:Int} (n:Nat):pmN (nd p zo) t n<2 ^ 64:=by
 have:∀ n,pmN (nd p zo) t n<2 ^ 12:=fun n=>by
  induction n with
  | zero=>simp[pmN]
  | succ n ih =>
    rw[WI];have h:=QlH hp n (QR t.ends);unfold QrW;split
    ·refine QK0 ih ?_
     split
     ·exact QKU Nat.and_le_left h
     exact h
    exact ih
 grind
theorem Qje (p:Qe) (t:Zb) (zo:Int) (hp:OkP p):Gd K 208 [.agg (Zw p t),.int .i64 zo] (.int .u64 (pmN (nd p zo) t p.zf.length:Nat)):=by
 refine Qb hK (fk func208 QHD (by kernel_rfl)) (by simp) ?_
 have htl:=hp.trialsLen
 have hpl:∀ i,pmN (nd p zo) t i<2 ^ 12:=fun i=>by
  have:∀ n,pmN (nd p zo) t n<2 ^ 12:=fun n=>by
   induction n with
   | zero=>simp[pmN]
   | succ n ih =>
     rw[WI];have h:=QlH hp n (QR t.ends);unfold QrW;split
     ·refine QK0 ih ?_
      split
      ·exact QKU Nat.and_le_left h
      exact h
     exact ih
  exact this i
 have hsv:Zw p t=[.sl 1 ((List.range p.zf.length).map fun i=>[.int .u64 (Xv (Zs p i (QR t.ends)):Nat)]),.sl 1 ((List.range p.zf.length).map fun i=>[.int .i64 (QH p i (QR t.ends))]),Yr (JC p (QR t.ends)),.sl 2 (Ze p t.set)]:=rfl
 rw[hsv];simp;intros
 refine Qw (fun i=>[(1,AV.iv (.int .i64 zo)),(2,.iv (.ptr [.sl 1 ((List.range p.zf.length).map fun i=>[.int .u64 (Xv (Zs p i (QR t.ends)):Nat)]),.sl 1 ((List.range p.zf.length).map fun i=>[.int .i64 (QH p i (QR t.ends))]),Yr (JC p (QR t.ends)),.sl 2 (Ze p t.set)])),
   (5,.iv (.int .u64 (pmN (nd p zo) t i:Nat))),(11,.iv (.sl 1 ((List.range p.zf.length).map fun i=>[.int .u64 (Xv (Zs p i (QR t.ends)):Nat)]))),(12,.iv (.int .i64 p.zf.length)),(13,.iv (.int .i64 (i:Nat)))]) (fun _=>[]) p.zf.length (fun _=>True) trivial ?_ ?_
 ·intro _
  rw[Qa Qkv.eq_1];simp
 ·intro i hi _ ih
  have hm:=QlH hp i (QR t.ends);have hbb:=Qbh hp (QR t.ends) hi;have hpi:=hpl i;rw[Qa Qkv.eq_1];rw[WI] at ih;have hat:∀ m,QrW (nd p zo) t m i=if zo<=Qcb p.zb (tr p i).zm (tr p i).zn t.set then m ||| (if 0<=QH p i (QR t.ends) then Qvt (Xv (Zs p i (QR t.ends))) (2 ^ (QH p i (QR t.ends)).toNat) else Xv (Zs p i (QR t.ends))) else m:=fun m=>rfl
  rw[hat] at ih;have hld:(Ze p t.set)[i]?=some [.int .i64 (Qcb p.zb (tr p i).zm (tr p i).zn t.set),.int .i64 (upS p.zb (tr p i).zm (tr p i).zn t.set)]:=by simp[Ze,hi]
  have hll:(Ze p t.set).length=p.zf.length:=by simp[Ze]
  generalize Qcb p.zb (tr p i).zm (tr p i).zn t.set=lo at *;generalize upS p.zb (tr p i).zm (tr p i).zn t.set=up at *;generalize pmN (nd p zo) t i=m at *
  have hld2:(Ze p t.set)[i]'(by omega)=[.int .i64 lo,.int .i64 up]:=by
   grind
  by_cases h1:zo<=lo
  ·have h1':¬ lo<zo:=by omega
   by_cases h3:0<=QH p i (QR t.ends)
   ·obtain ⟨b,hb⟩:∃ b:Nat,QH p i (QR t.ends)=b:=⟨(QH p i (QR t.ends)).toNat,by omega⟩
    have hb12:b<12:=by omega
    have h2b:(2:Nat) ^ b<2 ^ 12:=QK1 (by decide) hb12
    have q1:=QnG (Xv (Zs p i (QR t.ends))) (2 ^ b) (by omega) (by omega)
    rw[<- Qih (n:=b) (by omega)] at q1
    have q2:=Qlv m (Qvt (Xv (Zs p i (QR t.ends))) (2 ^ b)) (by omega) (Qro (by omega))
    simp[h1,hb] at ih;simp[hi,hll,hld2,h1',hb,q1,q2]
    grind
   have q2:=Qlv m (Xv (Zs p i (QR t.ends))) (by omega) (by omega)
   simp[h1,h3] at ih;simp[hi,hll,hld2,h1',h3,q2]
   grind
  ·have h1':lo<zo:=by omega
   simp[h1] at ih;simp[hi,hll,hld2,h1']
   grind
theorem Qjd (s k:Nat) (hs:s<2 ^ 64) (hk:k<64):Gd K 209 [.int .u64 s,.int .i64 k] (.bool (s.testBit k)):=by
 refine Qb hK (fk func209 QHC (by kernel_rfl)) (by simp) ?_
 have:=QwE s k hk hs;cases hb:s.testBit k<;>simp[hb] at this<;>simp[this]
theorem Qxt (s k:Nat) (hs:s<2 ^ 64) (hk:k<64):Gd K 284 [.int .i64 k,.ptr [.int .u64 s]] (.bool (!s.testBit k)):=by
 refine Qb hK (fk func284 QGE (by kernel_rfl)) (by simp) ?_
 simp;refine cK (Qjd hK s k hs hk) ?_;simp
theorem Qpx (p:Qe) (t:Zb) (zo:Int) (hp:OkP p) (hs:okS p.zb t.set):Gd K 213 [.agg (Zw p t),.int .i64 zo,.int .i64 p.z6] (.bool (UG (nd p zo) t)):=by
 refine Qb hK (fk func213 QHy (by kernel_rfl)) (by simp) ?_
 have hl:=hp.deedsLen;have hsv:Zw p t=[.sl 1 ((List.range p.zf.length).map fun i=>[.int .u64 (Xv (Zs p i (QR t.ends)):Nat)]),.sl 1 ((List.range p.zf.length).map fun i=>[.int .i64 (QH p i (QR t.ends))]),Yr (JC p (QR t.ends)),.sl 2 (Ze p t.set)]:=rfl
 have hg70:=Qje hK p t zo hp;have hg65:=Qjg hK p t zo hp hs;rw[hsv] at hg70 hg65 |-
 have xa:∀ n,pmN (nd p zo) t n<2 ^ 12:=fun n=>by
  induction n with
  | zero=>simp[pmN]
  | succ n ih =>
    rw[WI];have h:=QlH hp n (QR t.ends);unfold QrW;split
    ·refine QK0 ih ?_
     split
     ·exact QKU Nat.and_le_left h
     exact h
    exact ih
 have hpm:=xa p.zf.length
 have hnow:∀ n∈JC p (QR t.ends),n<12:=fun n hn=>by
  have:=W9 _ _ _ n hn;have:=QmG p.zc.za p.zc.za.length;omega
 have hbit:∀ n∈JC p (QR t.ends),(pmN (nd p zo) t p.zf.length).testBit n=Zi (nd p zo) n t:=fun n hn=>QeR hp hs (by grind)
 have hnl:(JC p (QR t.ends)).length<=1000:=by
  have h1:=Xb (QR t.ends) hp.zc.za p.zc.za.length (QJn _) (QJn _);have h2:=hp.zc.za.cnt p.zc.za.length (QJn _) (QJn _);show (cab p.zc.za (QR t.ends) p.zc.za.length).length<=1000
  omega
 have hgood:UG (nd p zo) t=(((JC p (QR t.ends)).all fun (k:Nat)=>Zi (nd p zo) k t)&&decide ((Xm (nd p zo) t:Int)<p.z6)):=rfl
 have xc:((JC p (QR t.ends)).all fun (k:Nat)=>Zi (nd p zo) k t)=!(((JC p (QR t.ends)).map fun (n:Nat)=>(n:Int)).any fun x=>!(pmN (nd p zo) t p.zf.length).testBit x.toNat):=by
  rw[Bool.eq_iff_iff];simp only[QJX,QJP,List.any_eq_false,QJz];constructor
  ·rintro h x ⟨n,hn,rfl⟩
   have h1:=h n hn;rw[<- hbit n hn] at h1;simp[h1]
  intro h n hn;have:=h n ⟨n,hn,rfl⟩
  grind
 have hg129:=Qxs hK ((JC p (QR t.ends)).map fun (n:Nat)=>(n:Int)) 284 [] [.ptr [.int .u64 (pmN (nd p zo) t p.zf.length)]] (fun x=>!(pmN (nd p zo) t p.zf.length).testBit x.toNat) (fun x hx=>by
  obtain ⟨n,hn,rfl⟩:=QJz.1 hx;have:=hnow n hn;simpa using Qxt hK (pmN (nd p zo) t p.zf.length) n (by omega) (by omega)) (by kernel_rfl) (by simpa using hnl)
 rw[hgood,xc];clear xc hgood;generalize ((JC p (QR t.ends)).map fun (n:Nat)=>(n:Int)).any (fun x=>!(pmN (nd p zo) t p.zf.length).testBit x.toNat)=A at *
 simp;refine cK (by simpa using hg70) ?_
 simp;refine cK (by simpa using hg65) ?_
 by_cases h1:(Xm (nd p zo) t:Int)<p.z6
 ·simp[h1]
  refine YO (by simpa[Function.comp_def] using hg129) (.inr rfl) ?_
  simp
 simp[h1]
omit hK
noncomputable def QS (p:Qe):List (List IV):=(Xz p.zc [] p.zc.za).map fun e=>ZQ p (QR e)
noncomputable def XQ (p:Qe):List (List IV):=(QX p.zb [] p.zb.zd).map fun s=>[.sl 2 (Ze p s)]
def prC (p:Qe):List IV:=[QG p.zc.za,QD p.zc.zg,.int .i64 p.zc.zh,ZD p.zb.zd,.int .i64 p.zb.zr,.int .i64 p.zb.zu,.int .i64 p.zb.zw,Ud p.zb.zk,.int .i64 p.zb.zh,
 Jv p.zf,.int .i64 p.zo,.int .i64 p.z6]
noncomputable def UI (p:Qe):List IV:=prC p++[.sl 3 (QS p),.sl 1 (XQ p)]
def Qc5 (p:Qe) (t:Zb):List IV:=[.agg (Zw p t)]
include hK
theorem QoZ (p:Qe) (hE:(Xz p.zc [] p.zc.za).length<=1000000) (hS:(QX p.zb [] p.zb.zd).length<=1000000):ql prog K 202 [.ptr (UI p)] [] ((QF p).map (Qc5 p)):=by
 intro s b s' hf;refine Qt (fk func202 QHJ (by kernel_rfl)) (by simp) hf.v rfl ?_
 unfold QF at hf;have hfile:UI p=prC p++[.sl 3 ((Xz p.zc [] p.zc.za).map fun e=>ZQ p (QR e)),.sl 1 ((QX p.zb [] p.zb.zd).map fun s=>[.sl 2 (Ze p s)])]:=rfl
 rw[hfile];generalize Xz p.zc [] p.zc.za=E at *;generalize QX p.zb [] p.zb.zd=S at *;obtain ⟨q0,q1,q2,q3,q4,q5,q6,q7,q8,q9,q10,q11,hpr⟩:∃ q0 q1 q2 q3 q4 q5 q6 q7 q8 q9 q10 q11,prC p=[q0,q1,q2,q3,q4,q5,q6,q7,q8,q9,q10,q11]:=⟨_,_,_,_,_,_,_,_,_,_,_,_,rfl⟩
 rw[hpr];rw[QKS] at hf;simp only[List.map_map] at hf;simp;intro _
 refine Xj E.length (fun i e o=>∃ si,e=[(0,AV.iv (.ptr [q0,q1,q2,q3,q4,q5,q6,q7,q8,q9,q10,q11,.sl 3 (E.map fun e=>ZQ p (QR e)),.sl 1 (S.map fun s=>[.sl 2 (Ze p s)])])),(1,AV.cb 0),(11,.iv (.sl 3 (E.map fun e=>ZQ p (QR e)))),(12,.iv (.int .i64 E.length)),(13,.iv (.int .i64 (i:Nat)))]/\o=[(0,.ext si)] /\
  Q4 prog K ((E.drop i).flatMap fun e=>S.map (Qc5 p∘fun s=>⟨e,s⟩)) si b s') ?_ ?_ _ _ ⟨s,by simp,by simp,by simpa using hf⟩
 ·rintro e o ⟨si,rfl,rfl,hfd⟩
  rw[QJ6 (QJn _)] at hfd;cases hfd;rw[Qa Qky.eq_1];simp
 ·rintro i e o hi ⟨si,rfl,rfl,hfd⟩ ih
  rw[QJU hi,QJ8] at hfd;have hst:∃ s0 s1 s2,ZQ p (QR E[i])=[s0,s1,s2]:=⟨_,_,_,rfl⟩
  obtain ⟨s0,s1,s2,hst⟩:=hst;rw[Qa Qky.eq_1];simp[hi,hst];intros
  refine Xj S.length (fun j e o=>∃ sj,e=[(0,AV.iv (.ptr [q0,q1,q2,q3,q4,q5,q6,q7,q8,q9,q10,q11,.sl 3 (E.map fun e=>ZQ p (QR e)),.sl 1 (S.map fun s=>[.sl 2 (Ze p s)])])),(1,AV.cb 0),(5,.loc 5 0),(11,.iv (.sl 3 (E.map fun e=>ZQ p (QR e)))),(12,.iv (.int .i64 E.length)),(13,.iv (.int .i64 (i:Nat))),
    (20,.iv (.sl 1 (S.map fun s=>[.sl 2 (Ze p s)]))),(21,.iv (.int .i64 S.length)),(22,.iv (.int .i64 (j:Nat)))]/\o=[(0,.ext sj),(5,.box [.iv s0,.iv s1,.iv s2])] /\
   Q4 prog K ((S.drop j).map (Qc5 p∘fun s=>⟨E[i],s⟩)++(E.drop (i+1)).flatMap fun e=>S.map (Qc5 p∘fun s=>⟨e,s⟩)) sj b s') ?_ ?_ _ _ ⟨si,by simp,by simp,by simpa using hfd⟩
  ·rintro e o ⟨sj,rfl,rfl,hfj⟩
   rw[QJ6 (QJn _)] at hfj;rw[Qa Qkz.eq_1];simp
   grind
  ·rintro j e o hj ⟨sj,rfl,rfl,hfj⟩ ihj
   rw[QJU hj,QJC,QJ2] at hfj
   have hitem:(Qc5 p∘fun s=>(⟨E[i],s⟩:Zb)) S[j]=[.agg [s0,s1,s2,.sl 2 (Ze p S[j])]]:=by
    simp[Qc5,Zw,hst]
   rw[hitem] at hfj;rw[Qa Qkz.eq_1];simp[hj];cases hfj with
   | stop _ _ _ _ hg =>
     refine QM (by simpa using hg) rfl ?_
     simp
   | next _ _ _ s3 _ _ hg hr =>
     refine QM (by simpa using hg) rfl ?_
     simp
     (repeat' first | omega | (with_reducible apply And.intro) | intro _)
     exact ihj _ _ ⟨s3,by simp,by simp,hr⟩
theorem Qjc (p:Qe) (hE:(Xz p.zc [] p.zc.za).length<=1000000) (hS:(QX p.zb [] p.zb.zd).length<=1000000) (hT:(QF p).length<=1000000000)
  (g:FuncId) (fs cs:List IV) (B:Zb->Bool) (hg:∀ t∈QF p,Gd K g (fs++[.agg (Zw p t)]++cs) (.bool (B t))) (hc:callee prog g=true) :
  Gd K 210 [.ptr (UI p),.clo g fs cs] (.int .i64 (XZ ((QF p).countP B) (QF p).length)):=by
 refine Qb hK (fk func210 QHB (by kernel_rfl)) (by simp) ?_
 have hit:=QoZ hK p hE hS;generalize UI p=F at *;generalize QF p=T at *;simp;refine QN (wy:=.fall) (o':=[(5,.box [.iv (.int .i64 (T.countP B:Nat))]),(6,.box [.iv (.int .i64 (T.countP (fun t=>!B t):Nat))])]) rfl (by kernel_rfl) hit ?_ ?_
 ·have:=VB.all (P:=prog) (K:=K) (ps:=[10]) (asn:=QfE) (body:=Qku) (ks:=[3,5,6]) (ids:=[5,6]) (eK:=[(3,.iv (.ptr [.clo g fs cs])),(5,.loc 5 0),(6,.loc 6 0)]) (T.map (Qc5 p))
   (fun i=>[(5,.box [.iv (.int .i64 ((T.take i).countP B:Nat))]),(6,.box [.iv (.int .i64 ((T.take i).countP (fun t=>!B t):Nat))])]) fun i x hx=>by
   simp only[QJq,QJm] at hx;obtain ⟨t,ht,rfl⟩:=hx;obtain ⟨xa,hget⟩:=QJj.1 ht;have hgt:=hg t (QJx ht);have hl1:(T.take i).countP B<=1000000000:=QJ7 QJ4 (by simp;omega)
   have hl2:(T.take i).countP (fun t=>!B t)<=1000000000:=QJ7 QJ4 (by simp;omega)
   refine ⟨rfl,?_⟩;rw[QJk xa,QKA,QKA,hget];obtain ⟨v0,v1,v2,v3,hv⟩:∃ v0 v1 v2 v3,Zw p t=[v0,v1,v2,v3]:=⟨_,_,_,_,rfl⟩
   rw[hv] at hgt;simp[Qc5,hv,QfE,Qku];refine ⟨hc,cK (by simpa using hgt) ?_⟩
   cases hb:B t
   ·simp[hb]
    omega
   simp[hb];omega
  simpa using this
 have hsum:T.countP B+T.countP (fun t=>!B t)=T.length:=by
  have:=List.length_eq_countP_add_countP B (l:=T)
  grind
 have htold:XZ (T.countP B:Nat) T.length=if T.countP (fun t=>!B t)=0 then 1 else if T.countP B=0 then 2 else 3:=by
  unfold XZ;omega
 rw[htold];clear htold hg hit;generalize T.countP B=a at *;generalize T.countP (fun t=>!B t)=d at *
 by_cases h1:d=0
 ·simp[h1]
 by_cases h2:a=0
 ·simp[h1,h2]
 simp[h1,h2]
omit hK
def Qmf (d:Qu):Qu:=VJ d 0
theorem WW (p:Qu->Bool) (hp:∀ d,p (Qmf d)=p d):∀ (ds:List Qu) (i:Nat),Yh p (ds.map Qmf) i=Yh p ds i
 | [],_=>rfl
 | d::r,i=>by simp only[QJC,Yh,hp,WW p hp r]
theorem QvF (ds:List Qu) (i:Nat):wn (ds.map Qmf) i=wn ds i:=by
 unfold wn;rw[<- QK6,WW ZA fun d=>rfl]
theorem Qon (ds:List Qu):pv (ds.map Qmf)=pv ds:=WW VZ (fun _=>rfl) ds 0
theorem QmH (ds:List Qu):VD (ds.map Qmf)=VD ds:=WW ZA (fun _=>rfl) ds 0
theorem Qmh (ds:List Qu) (i:Nat):cnt (ds.map Qmf) i=cnt ds i:=by
 unfold cnt;rw[<- QK6,List.map_map];rfl
theorem Qbe (ds:List Qu) (e:Nat->Int):∀ i,cab (ds.map Qmf) e i=cab ds e i
 | 0=>rfl
 | i+1=>by
   have ih:=Qbe ds e i;simp only[cab,QJq,ih,QvF];cases ds[i]?<;>rfl
theorem Qnb (ds:List Qu) (k:Nat):U6 (ds.map Qmf) k=Qmf (U6 ds k):=by
 unfold U6;rw[QmH];simp only[List.getD_eq_getElem?_getD,QJq];cases ds[(VD ds)[k]?.getD 0]?<;>rfl
theorem Qaa (ds:List Qu) (ss:List Yz) (e:Nat->Int):QY (ds.map Qmf) ss e=QY ds ss e:=by
 unfold QY
 congr 1
 funext s
 simp only[QdE,Qbe,Qlm,Qnb];rfl
section
variable {ds ds':List Qu} (h:ds'.map Qmf=ds.map Qmf)
include h
theorem Qlj:ds'.length=ds.length:=by simpa using congrArg List.length h
theorem QeG:pv ds'=pv ds:=by rw[<- Qon ds',h,Qon]
theorem QeH (i:Nat):cnt ds' i=cnt ds i:=by rw[<- Qmh ds',h,Qmh]
theorem Qlk (e:Nat->Int) (i:Nat):cab ds' e i=cab ds e i:=by rw[<- Qbe ds',h,Qbe]
theorem Qil (ss:List Yz) (e:Nat->Int):QY ds' ss e=QY ds ss e:=by rw[<- Qaa ds',h,Qaa]
theorem QmV (p:Qe) (hp:p.zc.za=ds) (c:Qg) (hc:c.za=ds') (e:Nat->Int):ZQ { p with zc:=c } e=ZQ p e:=by
 have h1:∀ i,Zs { p with zc:=c } i e=Zs p i e:=fun i=>by
  show cab c.za e ((pv c.za).getD i 0)=cab p.zc.za e ((pv p.zc.za).getD i 0)
  rw[hc,hp,QeG h,Qlk h]
 have h2:JC { p with zc:=c } e=JC p e:=by
  show cab c.za e c.za.length=cab p.zc.za e p.zc.za.length
  rw[hc,hp,Qlj h,Qlk h]
 have h3:∀ i,QH { p with zc:=c } i e=QH p i e:=fun i=>by
  unfold QH;rw[h1];rfl
 simp only[ZQ,h1,h2,h3]
end
def Qel:List Qu->List Int->List Qu
 | d::r,x::e=>VJ d x::Qel r e
 | _,_=>[]
theorem YT:∀ {ds:List Qu} {e:List Int},e.length=ds.length->(Qel ds e).map Qmf=ds.map Qmf
 | [],[],_=>rfl
 | d::r,x::e,h=>by
   have:=YT (ds:=r) (e:=e) (by simpa using h)
   simp only[Qel,QJC,this];rfl
theorem Qk3:∀ {ds:List Qu} {e:List Int} (hl:e.length=ds.length) (i:Nat) (h:i<ds.length),(Qel ds e)[i]?=some (VJ ds[i] (e[i]'(by omega)))
 | d::r,x::e,hl,0,_=>rfl
 | d::r,x::e,hl,i+1,h=>by
   have:=Qk3 (ds:=r) (e:=e) (by simpa using hl) i (by simpa using h)
   simpa[Qel] using this
theorem Zg:∀ {ds:List Qu} {e:List Int},e∈Zn ds->e.length=ds.length/\∀ i (h:i<ds.length) (h':i<e.length),e[i]∈QcC ds[i]
 | [],e,h=>by simp[Zn] at h;subst h;simp
 | d::r,e,h=>by
   simp only[Zn,QJL,QJz] at h;obtain ⟨x,hx,e',he',rfl⟩:=h;obtain ⟨h1,h2⟩:=Zg he'
   grind
theorem WB:∀ {ds:List Qu},(∀ d∈ds,d.z2=0\/d.z2=1\/d.z2=2)->Je ds=(Zn ds).map (Qel ds)
 | [],_=>rfl
 | d::r,h=>by
   have ih:=WB (ds:=r) fun d hd=>h d (by simp[hd])
   have hd:=h d (by simp)
   have hself:∀ x,d.z2=x->VJ d x=d:=fun x hx=>by subst hx;rfl
   rcases hd with hd | hd | hd
   ·simp[Je,Zn,QcC,hd,ih,Qel,hself 0 hd,List.map_map,Function.comp_def]
   ·simp[Je,Zn,QcC,hd,ih,Qel,hself 1 hd,List.map_map,Function.comp_def]
   ·simp[Je,Zn,QcC,hd,ih,Qel,List.map_map,Function.comp_def]
theorem Qhx {d:Qu} {x:Int} (h:x∈QcC d):(x=0\/x=1)/\(d.z2=2\/x=d.z2):=by
 unfold QcC at h
 grind
theorem OkD.z2 {ds:List Qu} {n:Nat} (h:OkD ds n) (hn:ds.length<=n):∀ d∈ds,d.z2=0\/d.z2=1\/d.z2=2:=by
 intro d hd;obtain ⟨i,hi,rfl⟩:=QJR hd;have:=h i hi (by omega)
 rcases this with ⟨_,h2,_⟩ | ⟨_,h2,_⟩ | ⟨_,_,h2,_⟩
 ·simp only[inR] at h2;omega
 ·simp only[inR] at h2;omega
 ·omega
section
variable {c:Qg} (hc:OkC c) {e:List Int} (he:e∈Zn c.za)
include hc he
theorem Qek:(Qel c.za e).length=c.za.length:=Qlj (YT (Zg he).1)
theorem QhZ (i:Nat) (h:i<c.za.length):∃ x,(Qel c.za e)[i]?=some (VJ c.za[i] x)/\(x=0\/x=1)/\(c.za[i].z2=2\/x=c.za[i].z2)/\QR e i=x:=by
 obtain ⟨h1,h2⟩:=Zg he;have h3:=Qhx (h2 i h (by omega))
 refine ⟨e[i]'(by omega),Qk3 h1 i h,h3.1,h3.2,?_⟩
 simp[QR,List.getD_eq_getElem?_getD,QJi (show i<e.length by omega)]
theorem QvA:OkD (Qel c.za e) (Qel c.za e).length:=by
 intro i h _;have hlen:=Qek hc he;have hi:i<c.za.length:=by omega
 obtain ⟨x,h1,h2,h3,_⟩:=QhZ hc he i hi;rw[QJi h] at h1;injection h1 with h1
 rw[h1,QeH (YT (Zg he).1)];rcases hc.za i hi hi with ⟨a1,a2,a3⟩ | ⟨a1,a2,a3⟩ | ⟨a1,a2,a3,a4⟩
 ·exact .inl ⟨a1,by simp only[inR,VJ];omega,a3⟩
 ·exact .inr (.inl ⟨a1,by simp only[inR,VJ];omega,a3⟩)
 exact .inr (.inr ⟨a1,a2,by simp only[VJ];omega,a4⟩)
theorem QnM:OkC { c with za:=Qel c.za e }:=by
 have hlen:=Qek hc he;refine ⟨by simp only[hlen];exact hc.len,hc.slen,hc.zh,QvA hc he,fun s hs=>?_⟩
 have:=hc.zg s hs;unfold Yg at *;simp only[hlen,QeH (YT (Zg he).1)];exact this
theorem Qk1:Xr (Qel c.za e)=0:=by
 rw[Xr,QKR];intro d hd;obtain ⟨i,hi,rfl⟩:=QJR hd;have hlen:=Qek hc he;obtain ⟨x,h1,h2,_⟩:=QhZ hc he i (by omega)
 rw[QJi hi] at h1;injection h1 with h1
 have h3:¬ x=2:=by omega
 rw[h1];simp[VJ,h3]
theorem QaQ:Q2 (Qel c.za e) 0=QR e:=by
 funext i
 have hlen:=Qek hc he;unfold Q2;rcases QKu i c.za.length with h | h
 ·obtain ⟨x,h1,h2,_,h4⟩:=QhZ hc he i h
  have h5:¬ (VJ c.za[i] x).z2=2:=by show ¬ x=2;omega
  rw[h1,h4];simp only;rw[if_neg h5];rfl
 rw[QKY (by omega)]
 have:=(Zg he).1;simp[QR,List.getD_eq_getElem?_getD,QKY (show e.length<=i by omega)]
theorem Qk2:QDH c.za e:=by
 obtain ⟨h1,h2⟩:=Zg he;refine ⟨h1,fun i h h'=>?_⟩
 have h3:=Qhx (h2 i h h');simp only[inR];omega
theorem QvB:Xn { c with za:=Qel c.za e } true=0↔QwA c e:=by
 have h1:=QnM hc he
 have h2:Qp { c with za:=Qel c.za e }=if (QY c.za c.zg (QR e):Int)<=c.zh then [0] else []:=by
  have hw:=Qil (YT (Zg he).1) c.zg (QR e);unfold Qp;simp only[Qk1 hc he,QaQ hc he,Nat.pow_zero];rw[show List.range 1=[0] from rfl]
  by_cases h:(QY c.za c.zg (QR e):Int)<=c.zh
  ·rw[if_pos h,QKq (by simpa[QaQ hc he,hw] using h)];rfl
  rw[if_neg h,QKr (by simpa[QaQ hc he,hw] using h)];rfl
 unfold Xn QwA;rw[if_pos h1,if_pos rfl,h2];have:=Qk2 hc he
 grind
end
theorem qE (c:Qg) (hc:OkC c):QJ c=(Xz c [] c.za).map fun e=>{ c with za:=Qel c.za e }:=by
 unfold QJ Xz;rw[WB (hc.za.z2 (QJn _)),List.map_map,List.filter_map];have e1:((Zn c.za).map fun x=>[]++x)=Zn c.za:=by simp
 rw[e1]
 congr 1
 refine List.filter_congr fun e he=>?_
 simp only[Function.comp_apply];rw[Bool.eq_iff_iff];simpa using QvB hc he
theorem Qe3 (p:Qe) (hc:OkC p.zc):(QJ p.zc).map (fun c'=>ZQ { p with zc:=c' } (Q2 c'.za 0))=QS p:=by
 unfold QS;rw[qE _ hc,List.map_map];refine QKQ fun e he=>?_
 have he':e∈Zn p.zc.za:=by
  simp only[Xz,QJM] at he;simpa using he.1
 simp only[Function.comp_apply];rw[QaQ hc he'];exact QmV (YT (Zg he').1) p rfl _ rfl _
def QaR:List Zy->List Int->List Zy
 | l::r,x::e=>QdA l x::QaR r e
 | l,[]=>l
 | [],_=>[]
theorem Qem (ls:List Zy):QaR ls []=ls:=by cases ls<;>rfl
theorem Wr:∀ (ls:List Zy) (e:List Int),(QaR ls e).length=ls.length
 | [],[]=>rfl
 | [],_::_=>rfl
 | _::_,[]=>rfl
 | l::r,x::e=>by simp[QaR,Wr r e]
theorem QfS:∀ (ls:List Zy) (e:List Int) (n:Int) (h:e.length<ls.length),QaR ls (e++[n])=(QaR ls e).set e.length (QdA ls[e.length] n)
 | l::r,[],n,_=>by simp[QaR,Qem]
 | l::r,x::e,n,h=>by
   have:=QfS r e n (by simpa using h)
   simp[QaR,this]
theorem Qdl:∀ (ls:List Zy) (e:List Int) (h:e.length<ls.length),(QaR ls e)[e.length]?=some ls[e.length]
 | l::r,[],_=>by simp[Qem]
 | l::r,x::e,h=>by
   have:=Qdl r e (by simpa using h)
   simpa[QaR] using this
def Z1 (m:Machine) (s:Qd):Machine:={ m with zd:=QaR m.zd s.zy,zu:=s.zx,zw:=s.zx }
def QeZ (m:Machine) (first:List Int):Machine:={ m with zd:=QaR m.zd first }
theorem QhO:∀ (ls:List Zy) (e:List Int),Q7 (·.long) (QaR ls e)=Q7 (·.long) ls
 | [],[]=>rfl
 | [],_::_=>rfl
 | _::_,[]=>rfl
 | l::r,x::e=>by simp only[QaR,Q7,QhO r e];rfl
theorem Qlz (m:Machine) (s s':Qd) (w mn:Int):num (Z1 m s) s' w mn=num m s' w mn:=by
 unfold num VA;rw[show (Z1 m s).zd=QaR m.zd s.zy from rfl,QhO]
 rfl
theorem Qh0 (m:Machine) (s s':Qd):ZP (Z1 m s) m.zk s'=ZP m m.zk s':=by
 unfold ZP
 congr 1
 funext b
 simp only[QdD,Qlz]
theorem Wz:∀ (ls:List Zy) (e:List Int),e.length=ls.length->QE (QaR ls e)=[e]
 | [],[],_=>rfl
 | l::r,x::e,h=>by
   have ih:=Wz r e (by simpa using h)
   have h1:(QdA l x).hi+1-(QdA l x).lo=1:=by simp only[QdA];omega
   simp only[QaR,QE,ih,h1];simp[acc,QdA]
theorem Qot {m:Machine} {s:Qd} (h:okS m s) (i:Nat) (hi:i<m.zd.length):(QaR m.zd s.zy)[i]?=some (QdA m.zd[i] (s.zy[i]'(by rw[h.1];exact hi))):=by
 have:∀ (ls:List Zy) (e:List Int) (i:Nat) (h1:e.length=ls.length) (hi:i<ls.length),(QaR ls e)[i]?=some (QdA ls[i] (e[i]'(by omega))):=by
  intro ls
  induction ls with
  | cons l r ih =>
    intro e i h1 hi;cases e with
    | nil=>simp at h1
    | cons x e =>
      cases i with
      | zero=>simp[QaR]
      | succ i=>simpa[QaR] using ih e i (by simpa using h1) (by simpa using hi)
  | _=>grind
 exact this _ _ i h.1 hi
theorem QrZ {m:Machine} {s:Qd} (h:okS m s):okS (Z1 m s) s:=by
 refine ⟨by simp only[Z1,Wr];exact h.1,by simp[Z1,inR],fun i h1 h2=>?_⟩
 have hi:i<m.zd.length:=by simpa[Z1,Wr] using h1
 have:=Qot h i hi
 have h3:(Z1 m s).zd[i]=QdA m.zd[i] (s.zy[i]'(by rw[h.1];exact hi)):=by
  rw[show (Z1 m s).zd=QaR m.zd s.zy from rfl] at h1
  rw[QJi h1] at this;injection this
 rw[h3];simp[QdA,inR]
theorem QaB (l:Zy):ZN l=false↔inR l.long 1 1000/\inR l.lo 1 l.hi/\l.hi<=1000:=by
 unfold ZN
 grind
theorem QeT {m:Machine} (hm:OkM m) {s:Qd} (h:okS m s):OkM (Z1 m s):=by
 have h2:=h.2.1;have h3:=hm.zx;have h4:=hm.zw;simp only[inR] at h2 h3;refine ⟨by simp only[Z1,Wr];exact hm.len,fun l hl=>?_,hm.zr,by simp only[Z1,inR];omega,by simp only[Z1];omega,hm.blen,hm.zk,hm.zh⟩
 obtain ⟨i,hi,rfl⟩:=QJR hl;have hi':i<m.zd.length:=by simpa[Z1,Wr] using hi
 have h5:=Qot h i hi'
 have h6:(Z1 m s).zd[i]=QdA m.zd[i] (s.zy[i]'(by grind)):=by
  rw[show (Z1 m s).zd=QaR m.zd s.zy from rfl] at hi
  rw[QJi hi] at h5;injection h5
 have h7:=h.2.2 i hi' (by grind)
 have h8:=hm.zd _ (QJo hi');rw[h6];rw[QaB] at h8 |-;simp only[inR,QdA] at h7 h8 |-;omega
theorem Qdv {m:Machine} {s:Qd} (h:okS m s):QX (Z1 m s) [] (Z1 m s).zd=if (ZP m m.zk s:Int)<=m.zh then [s] else []:=by
 have h1:QT (Z1 m s) [] (Z1 m s).zd=[s]:=by
  unfold QT;rw[show (Z1 m s).zd=QaR m.zd s.zy from rfl,Wz _ _ h.1]
  have:((Z1 m s).zw+1-(Z1 m s).zu).toNat=1:=by simp only[Z1];omega
  rw[this];simp[Z1]
 unfold QX;rw[h1]
 have h2:WT (Z1 m s) s↔(ZP m m.zk s:Int)<=m.zh:=by
  unfold WT;rw[show (Z1 m s).zk=m.zk from rfl,Qh0]
  exact ⟨fun h=>h.2,fun h'=>⟨QrZ h,h'⟩⟩
 grind
theorem QvO {m:Machine} (hm:OkM m) {s:Qd} (h:okS m s):tE (Z1 m s) true=0↔WT m s:=by
 unfold tE;rw[if_pos (QeT hm h),if_pos rfl,Qdv h];unfold WT
 grind
theorem Qrq {α β:Type} (f:α->β) (pc:Nat->List α) (n:Nat):(acc pc n).map f=acc (fun i=>(pc i).map f) n:=by simp[acc,QKS]
theorem QhN {α:Type} {pc pc':Nat->List α} {n:Nat} (h:∀ i<n,pc i=pc' i):acc pc n=acc pc' n:=by
 induction n with
 | zero=>rfl
 | succ n ih=>rw[Qbk,Qbk,ih fun i hi=>h i (by omega),h n (by omega)]
theorem Qd7 {m:Machine} (hm:OkM m):∀ (r k:Nat) (first:List Int),k+r=m.zd.length->first.length=k->(∀ i (h:i<m.zd.length) (h':i<first.length),inR first[i] m.zd[i].lo m.zd[i].hi) ->
  UT r (QeZ m first) k=(QX m first (m.zd.drop k)).map (Z1 m)
 | 0,k,first,hk,hf,hr=>by
   have hd:m.zd.drop k=[]:=QJ6 (by omega)
   have h1:QX m first (m.zd.drop k)=acc (fun i=>if WT m ⟨first,m.zu+(i:Nat)⟩ then [⟨first,m.zu+(i:Nat)⟩] else []) (m.zw+1-m.zu).toNat:=by
    rw[hd];simp only[QX,QT,QE,QJ8,List.flatMap_nil,QKs,acc];generalize (m.zw+1-m.zu).toNat=n;generalize List.range n=L
    induction L with
    | _=>grind
   rw[h1,Qrq];simp only[UT];refine QhN fun i hi=>?_
   have hleak:inR (m.zu+(i:Nat)) m.zu m.zw:=by
    have hi':i<(m.zw+1-m.zu).toNat:=hi;simp only[inR];omega
   have hok:okS m ⟨first,m.zu+(i:Nat)⟩:=⟨by simp only;omega,hleak,hr⟩
   have hmach:XS (QeZ m first) ((QeZ m first).zu+(i:Nat))=Z1 m ⟨first,m.zu+(i:Nat)⟩:=rfl
   unfold Qaq;rw[hmach];have:=QvO hm hok
   grind
 | r+1,k,first,hk,hf,hr=>by
   have xa:k<m.zd.length:=by omega
   have hget:(QeZ m first).zd[k]?=some m.zd[k]:=by
    have:=Qdl m.zd first (by omega)
    simp only[hf] at this;exact this
   rw[QJU xa,Qdw,Qrq];simp only[UT,hget];refine QhN fun i hi=>?_
   have hfix:Y8 (QeZ m first) k m.zd[k] (m.zd[k].lo+(i:Nat))=QeZ m (first++[m.zd[k].lo+(i:Nat)]):=by
    unfold Y8 QeZ;rw[QfS m.zd first _ (by omega)]
    simp only[hf]
   rw[hfix];refine Qd7 hm r (k+1) (first++[m.zd[k].lo+(i:Nat)]) (by omega) (by simp[hf]) fun j h h'=>?_
   rcases QKu j first.length with hj | hj
   ·grind
   have hjk:j=k:=by simp at h';omega
   subst hjk;rw[List.getElem_append_right hj];simp only[hf,QKK,QKJ,inR];omega
theorem QpO {m:Machine} (hm:OkM m):UT m.zd.length m 0=(QX m [] m.zd).map (Z1 m):=by
 have:=Qd7 hm m.zd.length 0 [] (by omega) rfl (by simp)
 have e:QeZ m []=m:=by unfold QeZ;rw[Qem]
 grind
theorem Qm4 {m:Machine} (hm:OkM m) {s:Qd} (h:WT m s) {w mn:Int} (ha:qh w mn 0=true):JS (Z1 m s) w mn=(Qcb m w mn s,upS m w mn s):=by
 unfold JS tL;rw[ha,if_pos ⟨QeT hm h.1,rfl⟩,Qdv h.1,if_pos h.2];simp only[QJC,QKE,span,List.foldl_nil,Qcb,upS,Qlz]
theorem QvL {m:Machine} (hm:OkM m) (hs:sets m m.zd.length<=1000000):QCH m:=by
 have hl:∀ l∈m.zd,1<=l.lo/\l.lo<=l.hi/\l.hi<=1000:=fun l hl=>by
  have:=(QaB l).1 (hm.zd l hl);simp only[inR] at this;omega
 exact ⟨hm.len,hm.blen,hm.zx,hm.zw,fun l h=>by have:=hl l h;simp only[YV];omega,fun l h=>by grind,hs⟩
@[reducible] def JI (p:Qe) (SS LL:List (List IV)):Ql :=
 [(0,.box [.loc 1 0]),(1,.box ((prC p).map AV.iv++[.yl 2 SS.length,.yl 3 LL.length])),(2,.arr 281 3 (emb SS) 0),(3,.arr 26 1 (emb LL) 0)]
def QE8 (pe:List (Nat × Nat × Nat)) (o1:Ql):Env->Ql->Prop:=QhY [QhU.tmp 4] [0,1,2,3] pe (.iv (.bool true)) o1
theorem Qqa (p:Qe) (SS LL:List (List IV)) {s:Nat} {e:Env} {o:Ql} (h1:Ev.look e 4=.iv (.bool true)) (h2:Ev.look e s=.loc 0 0) (h3:∀ q∈JI p SS LL,Qc o q.1=some q.2):QE8 [(s,0,0)] (JI p SS LL) e o:=by
 refine ⟨⟨.iv (.bool true),?_,rfl⟩,fun q hq=>?_,fun q hq=>?_⟩
 ·simp[QuW,QrT,h1]
 ·have:=h3 q hq
  simp only[QJw,QJD,or_false] at hq;rcases hq with rfl | rfl | rfl | rfl
  ·exact this
  ·refine this.trans ?_
   simp[rnO,rnL,rn,prC,nth]
  ·rw[X4];exact this
  rw[X4];exact this
 grind
theorem YM (p:Qe) (SS LL:List (List IV)):∀ q∈JI p SS LL,q.1<4/\XN q.2=true/\clO ((JI p SS LL).map (·.1)) q.2=true:=by
 intro q hq;simp only[QJw,QJD,or_false] at hq;rcases hq with rfl | rfl | rfl | rfl
 ·exact ⟨by omega,rfl,by simp[clO,clAL,clA]⟩
 ·exact ⟨by omega,rfl,by simp[clO,clAL,clA,prC]⟩
 ·exact ⟨by omega,rfl,Vr _ _ _ _ _⟩
 ·exact ⟨by omega,rfl,Vr _ _ _ _ _⟩
include hK
omit hK in
theorem QtV:Zp prog 277 QDk [1]:=⟨_,func277,by kernel_rfl⟩
omit hK in
theorem QtU:Zp prog 280 QDj [2]:=⟨_,func280,by kernel_rfl⟩
theorem Qsm (p:Qe) (c:Qg) (s0 s1 s2:IV) (SS LL:List (List IV)) (hn:SS.length<=1000000) (hg:Gd K 278 [chV c,Jv p.zf] (.agg [s0,s1,s2])) :
  Gh K 277 [.iv (chV c),.loc 0 0,.iv (.ptr (prC p))] (JI p SS LL) [0] (.iv (.bool true)) (JI p (SS++[[s0,s1,s2]]) LL):=by
 refine Zj [0,1,2,3] [0] [1] [(1,0,0)] QtV (by simp[QDk]) (by simp) ?_ ?_ ?_ ?_
 ·exact YM p _ _
 ·simp[clA]
 ·simp[nth,Qc]
  grind
 ·show WpF _ _ (FnF (QE8 [(1,0,0)] (JI p (SS++[[s0,s1,s2]]) LL))) _ _ _
  simp[prC];refine cK (by simpa using hg) ?_
  simp[prC,-List.map_map,QI,Q0,QV,Qr];refine ⟨by omega,Qqa p _ _ rfl rfl fun q hq=>?_⟩
  simp only[QJw,QJD,or_false] at hq;rcases hq with rfl | rfl | rfl | rfl<;>simp[Qc,prC]
def QAB (p:Qe) (lo up:Nat->Int):List IV:=[.sl 2 ((List.range p.zf.length).map fun i=>[.int .i64 (lo i),.int .i64 (up i)])]
theorem Qsk (p:Qe) (m:Machine) (hl:m.zd.length<=1000) (hb:m.zk.length<=1000) (ht:p.zf.length<=1000) (lo up:Nat->Int) (hr:∀ i,i<p.zf.length->JS m (tr p i).zm (tr p i).zn=(lo i,up i)) (SS LL:List (List IV)) (hn:LL.length<=1000000) :
  Gh K 280 [.iv (maV m),.iv (.ptr (prC p)),.loc 0 0] (JI p SS LL) [0] (.iv (.bool true)) (JI p SS (LL++[QAB p lo up])):=by
 refine Zj [0,1,2,3] [0] [2] [(2,0,0)] QtU (by simp[QDj]) (by simp) ?_ ?_ ?_ ?_
 ·exact YM p _ _
 ·simp[clA]
 ·simp[nth,Qc]
  grind
 ·show WpF _ _ (FnF (QE8 [(2,0,0)] (JI p SS (LL++[QAB p lo up])))) _ _ _
  generalize hG:JI p SS (LL++[QAB p lo up])=G;simp[prC];intro _
  refine Qw (fun i=>[(2,AV.loc 0 0),(3,.iv (.ptr [ZD m.zd,.int .i64 m.zr,.int .i64 m.zu,.int .i64 m.zw,Ud m.zk,.int .i64 m.zh])),(5,.yl 5 i),(11,.iv (Jv p.zf)),(12,.iv (.int .i64 p.zf.length)),(13,.iv (.int .i64 (i:Nat)))])
   (fun i=>[(0,.box [.loc 1 0]),(1,.box ((prC p).map AV.iv++[.yl 2 SS.length,.yl 3 LL.length])),(2,.arr 281 3 (emb SS) 0),(3,.arr 26 1 (emb LL) 0),(5,.arr 28 2 (emb ((List.range i).map fun i=>[.int .i64 (lo i),.int .i64 (up i)])) 0)]) p.zf.length (fun _=>True) trivial ?_ ?_
  ·intro _
   rw[Qa Qj9.eq_1];simp[prC,-List.map_map,QI,Q0,QV,Qr,QJp];rw[<- hG];refine ⟨by omega,Qqa p _ _ rfl rfl fun q hq=>?_⟩
   simp only[QJw,QJD,or_false] at hq;rcases hq with rfl | rfl | rfl | rfl<;>simp[Qc,prC,QAB]
  ·intro i hi _ ih
   have hg:=QpG hK m (tr p i).zm (tr p i).zn hl hb;rw[hr i hi] at hg;have htr:=QnW hi;rw[Qa Qj9.eq_1];rw[QJT,QJE] at ih;simp at ih;simp[hi,htr,-List.map_map,QI,Q0,QV,Qr];refine cK (by simpa using hg) ?_
   have hsc:scrL [0,1,2,3,5] ((prC p).map AV.iv++[.yl 2 SS.length,.yl 3 LL.length])=(prC p).map AV.iv++[.yl 2 SS.length,.yl 3 LL.length]:=by simp[prC,scrL,scr]
   simp[hsc,-List.map_map,QI,Q0,QV,Qr]
   grind
omit hK in
theorem Qwi {p:Qe} (hp:OkP p) {c:Qg} (hc:c∈QJ p.zc):OkP { p with zc:=c }/\Xr c.za=0:=by
 rw[qE _ hp.zc] at hc;obtain ⟨e,he,rfl⟩:=QJz.1 hc
 have he':e∈Zn p.zc.za:=by
  simp only[Xz,QJM] at he;simpa using he.1
 have hcore:=YT (Zg he').1;refine ⟨⟨QnM hp.zc he',hp.zb,hp.zo,hp.z6,?_,fun i h h'=>?_⟩,Qk1 hp.zc he'⟩
 ·simp only[QeG hcore];exact hp.many
 ·simp only[QeG hcore] at h
  have:=hp.zf i h h';simp only[QeG hcore,QeH hcore];exact this
theorem Qgv (p:Qe) (hp:OkP p):∀ (L:List Qg) (SS LL:List (List IV)),(∀ c∈L,c∈QJ p.zc)->SS.length+L.length<=1000000 ->
  XT prog K 277 [] [.loc 0 0,.iv (.ptr (prC p))] [0] (L.map UE) (JI p SS LL) true (JI p (SS++L.map fun c'=>ZQ { p with zc:=c' } (Q2 c'.za 0)) LL)
 | [],SS,LL,_,_=>by simpa using XT.nil _
 | c::L,SS,LL,h,hn=>by
   have hc:=Qwi hp (h c (by simp))
   have hg:=Qxv hK { p with zc:=c } hc.1 hc.2
   have ih:=Qgv p hp L (SS++[ZQ { p with zc:=c } (Q2 c.za 0)]) LL (fun c' hc'=>h c' (by simp[hc'])) (by grind)
   refine .next _ _ _ _ _ _ (Qsm hK p c _ _ _ SS LL (by simp at hn;omega) hg) (fun q hq=>(YM p _ _ q hq).2.1) ?_
   simpa[ZQ] using ih
theorem Qgu (p:Qe) (hp:OkP p) (SS:List (List IV)):∀ (L:List Qd) (LL:List (List IV)),(∀ s∈L,WT p.zb s)->LL.length+L.length<=1000000 ->
  XT prog K 280 [] [.iv (.ptr (prC p)),.loc 0 0] [0] ((L.map (Z1 p.zb)).map Qg6) (JI p SS LL) true (JI p SS (LL++L.map fun s=>[.sl 2 (Ze p s)]))
 | [],LL,_,_=>by simpa using XT.nil _
 | s::L,LL,h,hn=>by
   have hs:=h s (by simp)
   have hm:=QeT hp.zb hs.1;have ih:=Qgu p hp SS L (LL++[[.sl 2 (Ze p s)]]) (fun c' hc'=>h c' (by simp[hc'])) (by grind)
   have htl:=hp.trialsLen;have h1:=hm.len;have h2:=hm.blen
   have hg:=Qsk hK p (Z1 p.zb s) (by omega) (by omega) (by omega) (fun i=>Qcb p.zb (tr p i).zm (tr p i).zn s) (fun i=>upS p.zb (tr p i).zm (tr p i).zn s) (fun i hi=>by
    have ht:=hp.trial hi;refine Qm4 hp.zb hs ?_;simp only[qh,inR];have a1:=ht.1;have a2:=ht.2.1;simp only[inR] at a1 a2;simp;omega) SS LL (by simp at hn;omega)
   refine .next _ _ _ _ _ _ hg (fun q hq=>(YM p _ _ q hq).2.1) ?_
   simpa[QAB,Ze] using ih
theorem Qsn (p:Qe) (hp:OkP p):Gh K 276 [.iv (chV p.zc),.clo 277 [] [.loc 0 0,.iv (.ptr (prC p))]] (JI p [] []) [0] (.iv (.bool true)) (JI p (QS p) []):=by
 have hl:=hp.deedsLen;have hs:=hp.zc.slen;have hit:=QiY hK (Xr p.zc.za) p.zc rfl (by omega) (by omega)
 have hr:=Qgv hK p hp (QJ p.zc) [] [] (fun c hc=>hc) (by
  rw[qE _ hp.zc,QJA];have:=Qs5 hp.zc;simp;omega)
 rw[QJ0,Qe3 p hp.zc] at hr
 have:=Vi hit (by kernel_rfl) (by simp[clAL]) (by simp[clAL,clA]) (fun i hi=>by
  simp at hi;subst hi;exact ⟨_,rfl⟩) (fun q hq=>(YM p _ _ q hq).2.1) hr
 simpa using this
theorem Qsl (p:Qe) (hp:OkP p) (hs:sets p.zb p.zb.zd.length<=1000000) (SS:List (List IV)):Gh K 279 [.iv (maV p.zb),.iv (.int .i64 0),.clo 280 [] [.iv (.ptr (prC p)),.loc 0 0]] (JI p SS []) [0] (.iv (.bool true)) (JI p SS (XQ p)):=by
 have hit:=QoX hK p.zb.zd.length p.zb 0 (by omega) (QvL hp.zb hs)
 rw[QpO hp.zb] at hit
 have hr:=Qgu hK p hp SS (QX p.zb [] p.zb.zd) [] (fun s h=>by
  simp only[QX,QJM,decide_eq_true_eq] at h;exact h.2) (by
  have:=Qld hp.zb;simp;omega)
 rw[QJ0] at hr
 have:=Vi hit (by kernel_rfl) (by simp[clAL]) (by simp[clAL,clA]) (fun i hi=>by
  simp at hi;subst hi;exact ⟨_,rfl⟩) (fun q hq=>(YM p _ _ q hq).2.1) hr
 simpa[XQ] using this
omit hK in
theorem Ql2 (p:Qe) (SS LL SS' LL':List (List IV)) (args0:List AV) (ha:args0.all (clA [0,1,2,3])=true) (o:Ql) (h7:Qc o 7=some (.box [.loc 17 0])) (h17:Qc o 17=some (.box ((prC p).map AV.iv++[.yl 18012 SS.length,.yl 18013 LL.length])))
  (h12:Qc o 18012=some (.arr 281 3 (emb SS) 0)) (h13:Qc o 18013=some (.arr 26 1 (emb LL) 0)):HOk [7,17,18012,18013] args0 o (JI p SS LL) (JI p SS' LL'):=by
 refine ⟨by decide,ha,fun q hq=>?_,fun i hi h=>?_,fun q hq=>⟨(YM p _ _ q hq).1,(YM p _ _ q hq).2.1⟩⟩
 ·have h1:=YM p _ _ q hq
  refine ⟨h1.1,?_,h1.2.2,h1.2.1⟩;simp only[QJw,QJD,or_false] at hq;rcases hq with rfl | rfl | rfl | rfl
  ·exact h7
  ·refine h17.trans ?_
   simp[rnO,rnL,rn,prC,nth]
  ·rw[X4];exact h12
  rw[X4];exact h13
 ·simp at hi
  have:i=0\/i=1\/i=2\/i=3:=by omega
  rcases this with rfl | rfl | rfl | rfl<;>simp[Qc] at h
theorem Wh (p:Qe) (is:Bool) (hf:QIQ p):Gd K 198 [prV p,.bool is] (.xd [if kE p is=0 then .ptr (UI p) else .nilp,.int .i64 (kE p is)]):=by
 refine Qb hK (fk func198 QHM (by kernel_rfl)) (by simp) ?_
 simp;refine cK (by simpa using Qu9 hK p hf.small) ?_
 by_cases hp:OkP p
 ·cases is
  ·simp[hp,kE]
  have hg1:=Qsn hK p hp;have hg2:=Qsl hK p hp (hf.sets hp) (QS p);simp[hp];refine QC hg1 ?_ ?_ ?_
  ·simp[rn,rnL,nth,prC]
  ·exact Ql2 p [] [] _ _ _ (by simp[clA,clAL]) _ (by simp[Qc]) (by simp[Qc,prC]) (by simp[Qc,emb]) (by simp[Qc,emb])
  have hrn:rnL (nth [7,17,18012,18013]) ((prC p).map AV.iv++[.yl 2 (QS p).length,.yl 3 0])=(prC p).map AV.iv++[.yl 18012 (QS p).length,.yl 18013 0]:=by simp[rnL,rn,prC,nth]
  simp[hrn];refine QC hg2 ?_ ?_ ?_
  ·simp[rn,rnL,nth,prC]
  ·exact Ql2 p _ [] _ _ _ (by simp[clA,clAL]) _ (by simp[Qc]) (by simp[Qc,prC]) (by simp[Qc,emb]) (by simp[Qc,emb])
  have hrn2:rnL (nth [7,17,18012,18013]) ((prC p).map AV.iv++[.yl 2 (QS p).length,.yl 3 (XQ p).length])=(prC p).map AV.iv++[.yl 18012 (QS p).length,.yl 18013 (XQ p).length]:=by simp[rnL,rn,prC,nth]
  have hE1:QF p=[]↔QS p=[]\/XQ p=[]:=by
   unfold QF QS XQ;rw[List.flatMap_eq_nil_iff];simp only[List.map_eq_nil_iff];constructor
   ·intro h
    cases hE:Xz p.zc [] p.zc.za with
    | nil=>exact .inl rfl
    | cons a r=>exact .inr (h a (by rw[hE];simp))
   grind
  have hk:kE p true=if QS p=[]\/XQ p=[] then 3 else 0:=by
   unfold kE
   grind
  have hfile:UI p=prC p++[.sl 3 (QS p),.sl 1 (XQ p)]:=rfl;rw[hk,hfile];generalize QS p=SS at *;generalize XQ p=LL at *;simp[hrn2];cases SS with
  | nil=>simp[prC]
  | cons a r =>
    cases LL with
    | nil=>simp[prC]
    | cons a2 r2 =>
      simp[prC];omega
 simp[hp,kE]
omit hK
theorem Yu {p:Qe} {t:Zb} (h:t∈QF p):okS p.zb t.set:=(QoP h).set
theorem Qbw (p:Qe):(QS p).length=(Xz p.zc [] p.zc.za).length:=by simp[QS]
theorem Qcf (p:Qe):(XQ p).length=(QX p.zb [] p.zb.zd).length:=by simp[XQ]
theorem Qcj (p:Qe):(QF p).length=(QS p).length*(XQ p).length:=by
 rw[Qbw,Qcf];unfold QF;generalize Xz p.zc [] p.zc.za=E;generalize QX p.zb [] p.zb.zd=S
 induction E with
 | _=>grind
theorem QoR {p:Qe} {is:Bool} (he:¬ kE p is=0):kL p is=[]:=by
 unfold kL kE at *
 grind
structure Few (p:Qe):Prop where
 fine:QIQ p
 ends:OkP p->(Xz p.zc [] p.zc.za).length<=1000000
 sets:OkP p->(QX p.zb [] p.zb.zd).length<=1000000
 all:OkP p->(QF p).length<=100000
include hK
theorem Qjf (p:Qe) (is:Bool) (hf:Few p) (g:FuncId) (fs cs:List IV) (B:Zb->Bool) (hg:kE p is=0->∀ t∈QF p,Gd K g (fs++[.agg (Zw p t)]++cs) (.bool (B t))) (hc:callee prog g=true) :
  Gd K 204 [prV p,.bool is,.clo g fs cs] (.xd [.int .i64 (if kE p is=0 then XZ ((kL p is).countP B) (kL p is).length else 0),.int .i64 (kE p is)]):=by
 refine Qb hK (fk func204 QHH (by kernel_rfl)) (by simp) ?_
 have hg63:=Wh hK p is hf.fine;simp;refine cK (by simpa using hg63) ?_
 by_cases he:kE p is=0
 ·obtain ⟨hp,_,hk,_⟩:=JZ he
  have hg75:=Qjc hK p (hf.ends hp) (hf.sets hp) (by have:=hf.all hp;omega) g fs cs B (hg he) hc
  rw[hk];generalize UI p=F at *;simp[he];refine cK (by simpa using hg75) ?_
  simp
 ·simp[he]
theorem Qx3 (p:Qe) (t:Zb) (hp:OkP p) (hs:okS p.zb t.set):Gd K 205 [.agg (Zw p t),.ptr (prC p)] (.bool (decide (p.z6<=(Xm p t:Int)))):=by
 refine Qb hK (fk func205 QHG (by kernel_rfl)) (by simp) ?_
 have hg:=Qjg hK p t p.zo hp hs;obtain ⟨v0,v1,v2,v3,hv⟩:∃ v0 v1 v2 v3,Zw p t=[v0,v1,v2,v3]:=⟨_,_,_,_,rfl⟩
 rw[hv] at hg |-;simp[prC];refine cK (by simpa using hg) ?_
 have hnd:nd p p.zo=p:=rfl;simp[hnd]
theorem QxZ (p:Qe) (t:Zb) (hp:OkP p) (hs:okS p.zb t.set):Gd K 212 [.agg (Zw p t),.ptr (prC p)] (.bool (UG p t)):=by
 refine Qb hK (fk func212 QHz (by kernel_rfl)) (by simp) ?_
 have hg:=Qpx hK p t p.zo hp hs;obtain ⟨v0,v1,v2,v3,hv⟩:∃ v0 v1 v2 v3,Zw p t=[v0,v1,v2,v3]:=⟨_,_,_,_,rfl⟩
 rw[hv] at hg |-;simp[prC];refine cK (by simpa using hg) ?_
 have hnd:nd p p.zo=p:=rfl;simp[hnd]
theorem Qx1 (p:Qe) (t:Zb) (k:Nat) (hk:k<64) (hp:OkP p) (hs:okS p.zb t.set):Gd K 207 [.agg (Zw p t),.ptr (prC p),.ptr [.int .i64 k]] (.bool (Zi p k t)):=by
 refine Qb hK (fk func207 QHE (by kernel_rfl)) (by simp) ?_
 have hg:=Qje hK p t p.zo hp;have hb:=QeR hp hs (zo:=p.zo) hk;have xa:∀ n,pmN (nd p p.zo) t n<2 ^ 64:=fun n=>Qls hp t n
 have hg2:=Qjd hK (pmN (nd p p.zo) t p.zf.length) k (xa _) hk;have hnd:nd p p.zo=p:=rfl;rw[hb,hnd] at hg2;rw[hnd] at hg;obtain ⟨v0,v1,v2,v3,hv⟩:∃ v0 v1 v2 v3,Zw p t=[v0,v1,v2,v3]:=⟨_,_,_,_,rfl⟩
 rw[hv] at hg |-;simp[prC];refine cK (by simpa using hg) ?_
 simp;refine cK (by simpa using hg2) ?_
 simp
theorem QyG (p:Qe) (hf:Few p):Gd K 118 [prV p] (.xd [.int .i64 (rCond p),.int .i64 (kE p true)]):=by
 refine Qb hK (fk func118 QIE (by kernel_rfl)) (by simp) ?_
 have hg:=Qjf hK p true hf 205 [] [.ptr (prC p)] (fun t=>decide (p.z6<=(Xm p t:Int))) (fun he t ht=>by
  have hp:=(JZ he).1;simpa using Qx3 hK p t hp (Yu ht)) (by kernel_rfl)
 simp;refine cK (by simpa[prC] using hg) ?_
 simp[rCond]
theorem QyD (p:Qe) (hf:Few p):Gd K 124 [prV p] (.xd [.int .i64 (rGood p),.int .i64 (kE p true)]):=by
 refine Qb hK (fk func124 QIA (by kernel_rfl)) (by simp) ?_
 have hg:=Qjf hK p true hf 212 [] [.ptr (prC p)] (UG p) (fun he t ht=>by
  have hp:=(JZ he).1;simpa using QxZ hK p t hp (Yu ht)) (by kernel_rfl)
 simp;refine cK (by simpa[prC] using hg) ?_
 simp[rGood]
theorem QyB (p:Qe) (hf:Few p):Gd K 128 [prV p] (.xd [.int .i64 (if kE p true=0 then (JA p.zb 0 p.zo).1 else 0),.int .i64 (if kE p true=0 then (JA p.zb 0 p.zo).2 else kE p true)]):=by
 refine Qb hK (fk func128 QIy (by kernel_rfl)) (by simp) ?_
 have hg:=Wh hK p true hf.fine;have hg2:=QxW hK p.zb 0 p.zo hf.fine.small.zd hf.fine.small.zk;generalize UI p=F at *;simp;refine cK (by simpa using hg) ?_
 by_cases he:kE p true=0
 ·simp[he]
  refine cK (by simpa using hg2) ?_
  simp
 simp[he]
omit hK
theorem Qdb (l:List Int) (n0:Int) (hne:l≠[]) (h:∀ x∈l,x<=n0):l.foldl min n0=(span l).1:=by
 cases l with
 | cons a r =>
   have:=h a (by simp)
   show r.foldl min (min n0 a)=r.foldl min a
   grind
 | _=>grind
theorem Qdc (l:List Int) (n0:Int) (hne:l≠[]) (h:∀ x∈l,n0<=x):l.foldl max n0=(span l).2:=by
 cases l with
 | cons a r =>
   have:=h a (by simp)
   show r.foldl max (max n0 a)=r.foldl max a
   grind
 | _=>grind
theorem Uz {α β:Type} (f:β->α->β) (b:β) (l:List α) (i:Nat) (h:i<l.length):(l.take (i+1)).foldl f b=f ((l.take i).foldl f b) l[i]:=by
 rw[QJk h,QKO];rfl
include hK
theorem QyF (p:Qe) (link:Int) (hf:Few p):Gd K 120 [prV p,.int .i64 link] (.xd [.int .i64 (rProved p link),.int .i64 (kE p (qD p link))]):=by
 refine Qb hK (fk func120 QIC (by kernel_rfl)) (by simp) ?_
 have hd:=hf.fine.small.za
 have hsl:(YD p.zc.za).length=(VD p.zc.za).length:=by
  rw[<- X7];simp[YD,Z8]
 have hwl:(VD p.zc.za).length<=p.zc.za.length:=Qa3 ZA p.zc.za 0
 have hg:=Qjf hK p (qD p link) hf 207 [] [.ptr (prC p),.ptr [.int .i64 link]] (Zi p link) (fun he t ht=>by
  obtain ⟨hp,his,_⟩:=JZ he;have his:=of_decide_eq_true his;simp only[inR] at his;have:=hp.deedsLen;have h1:link=((link.toNat:Nat):Int):=by omega
  rw[h1];simpa using Qx1 hK p t link.toNat (by omega) hp (Yu ht)) (by kernel_rfl)
 have hg67:=JH hK link 0 ((VD p.zc.za).length-1);simp;refine cK (by simpa using Qx2 hK p.zc hd) ?_
 have hsl2:=hsl;generalize YD p.zc.za=S at *;simp[hsl]
 (repeat' first | omega | (with_reducible apply And.intro) | intro _)
 refine cK (by simpa using hg67) ?_
 simp;refine cK (by simpa[prC,qD] using hg) ?_
 simp[rProved,qD]
theorem QyH (p:Qe) (hf:Few p):Gd K 115 [prV p] (.xd [.agg [.int .i64 (rFail p).1,.int .i64 (rFail p).2],.int .i64 (kE p true)]):=by
 refine Qb hK (fk func115 QIG (by kernel_rfl)) (by simp) ?_
 have hg:=Wh hK p true hf.fine;have htl:=hf.fine.small.zf;simp;refine cK (by simpa using hg) ?_
 by_cases he:kE p true=0;rotate_left
 ·have hk:kL p true=[]:=QoR he
  simp[he,rFail,hk,span]
 obtain ⟨hp,_,hk,hne⟩:=JZ he;have hit:=QoZ hK p (hf.ends hp) (hf.sets hp);have hset:∀ t∈QF p,okS p.zb t.set:=fun t ht=>Yu ht
 have hg65:∀ t∈QF p,Gd K 203 [.agg (Zw p t),.int .i64 p.zo] (.int .i64 (Xm p t:Nat)):=fun t ht=>Qjg hK p t p.zo hp (hset t ht)
 have hmin:=Qdb ((QF p).map fun t=>(Xm p t:Int)) p.zf.length (by simpa using hne) (fun x hx=>by
  obtain ⟨t,_,rfl⟩:=QJz.1 hx;have:=Ql5 p t;omega)
 have hmax:=Qdc ((QF p).map fun t=>(Xm p t:Int)) 0 (by simpa using hne) (fun x hx=>by
  grind)
 have hr:rFail p=span ((QF p).map fun t=>(Xm p t:Int)):=by unfold rFail;rw[hk]
 rw[hr,<- hmin,<- hmax];generalize UI p=F at *;generalize QF p=T at *;simp[he];intro _;refine QN (wy:=.fall) (o':=[(2,.box [.iv (.int .i64 0),.iv (.int .i64 0)]),(6,.box [.iv (.int .i64 ((T.map fun t=>(Xm p t:Int)).foldl min p.zf.length)),.iv (.int .i64 ((T.map fun t=>(Xm p t:Int)).foldl max 0))])]) rfl (by kernel_rfl) hit ?_ ?_
 ·have:=VB.all (P:=prog) (K:=K) (ps:=[24]) (asn:=QfJ) (body:=QkS) (ks:=[1,2,6]) (ids:=[2,6]) (eK:=[(1,.iv (.ptr (prC p))),(2,.loc 2 0),(6,.loc 6 0)]) (T.map (Qc5 p))
   (fun i=>[(2,.box [.iv (.int .i64 0),.iv (.int .i64 0)]),(6,.box [.iv (.int .i64 (((T.map fun t=>(Xm p t:Int)).take i).foldl min p.zf.length)),.iv (.int .i64 (((T.map fun t=>(Xm p t:Int)).take i).foldl max 0))])]) fun i x hx=>by
   simp only[QJq,QJm] at hx;obtain ⟨t,ht,rfl⟩:=hx;obtain ⟨xa,hget⟩:=QJj.1 ht;have hgt:=hg65 t (QJx ht);refine ⟨rfl,?_⟩;rw[Uz _ _ _ i (by simpa using xa),Uz _ _ _ i (by simpa using xa)]
   obtain ⟨v0,v1,v2,v3,hv⟩:∃ v0 v1 v2 v3,Zw p t=[v0,v1,v2,v3]:=⟨_,_,_,_,rfl⟩
   rw[hv] at hgt;simp[Qc5,hv,QfJ,QkS,prC];refine cK (by simpa using hgt) ?_
   simp[hget,QdL,QdM]
  simpa[prC] using this
 simp
omit hK
theorem Qae (l:List Int) (lo hi:Int):(Jw l lo hi).Pairwise (·<·):=by
 unfold Jw Qbz;refine List.Pairwise.filter _ ?_;rw[List.pairwise_map];exact List.pairwise_lt_range.imp fun {a b} h=>by omega
theorem U2 (l:List Int) (lo hi x:Int):x∈Jw l lo hi↔lo<=x/\x<=hi/\x∈l:=by
 unfold Jw Qbz;simp only[QJM,QJz,QJN,decide_eq_true_eq];constructor
 ·grind
 ·rintro ⟨h1,h2,h3⟩
  exact ⟨⟨(x-lo).toNat,by omega,by omega⟩,h3⟩
include hK
theorem QyJ (p:Qe) (n:Int) (hf:Few p):Gd K 111 [prV p,.int .i64 n] (.xd [Q6 (Qap p n),.int .i64 (kE p (Xd p n))]):=by
 refine Qb hK (fk func111 QII (by kernel_rfl)) (by simp) ?_
 have hg:=Wh hK p (Xd p n) hf.fine;have hg93:Gd K 199 [prV p,.int .i64 n] (.bool (Xd p n)):=Qpy hK p n hf.fine.small.zf;simp;refine cK (by simpa using hg93) ?_
 simp;refine cK (by simpa using hg) ?_
 by_cases he:kE p (Xd p n)=0;rotate_left
 ·have hk:=QoR he
  have hr:Qap p n=[]:=by unfold Qap;rw[hk];simp[Jw,Qbz]
  simp[he,hr]
 ·obtain ⟨hp,hn,hk,hne⟩:=JZ he
  have hn':=of_decide_eq_true hn;simp only[inR] at hn';have hE:=hf.ends hp;have htl:=hp.trialsLen;obtain ⟨i,rfl⟩:∃ i:Nat,n=i:=⟨n.toNat,by omega⟩
  have hi:i<p.zf.length:=by omega
  have hbr:Qap p i=ZC (((Xz p.zc [] p.zc.za).map fun e=>QH p i (QR e)).filter fun x=>decide (0<=x)):=by
   refine QiC (Qae _ _ _) (Uk _) fun x=>?_
   unfold Qap;rw[U2,YW,hk];simp only[Int.toNat_natCast,QJz,QJM,decide_eq_true_eq]
   have hS:QX p.zb [] p.zb.zd≠[]:=fun c=>by
    have h1:=Qcj p;rw[Qcf,c] at h1;exact hne (QJu (by simpa using h1))
   constructor
   ·rintro ⟨h1,h2,t,ht,rfl⟩
    simp only[QF,QJL,QJz] at ht
    grind
   rintro ⟨⟨e,he,rfl⟩,h1⟩
   have h2:=Qbh hp (QR e) hi;refine ⟨h1,by omega,?_⟩
   obtain ⟨s,hs⟩:=QJ9 _ hS;exact ⟨⟨e,s⟩,by simp only[QF,QJL,QJz];grind,rfl⟩
  rw[hbr];have hfile:UI p=prC p++[.sl 3 (QS p),.sl 1 (XQ p)]:=rfl;have hst:QS p=(Xz p.zc [] p.zc.za).map fun e=>ZQ p (QR e):=rfl
  rw[hfile,hst];generalize XQ p=LL at *;generalize Xz p.zc [] p.zc.za=E at *;simp[he,prC];intro _
  refine Qw (fun j=>[(1,AV.iv (.int .i64 (i:Nat))),(8,.yk 22),(26,.iv (.sl 3 (E.map fun e=>ZQ p (QR e)))),(27,.iv (.int .i64 E.length)),(28,.iv (.int .i64 (j:Nat)))])
   (fun j=>[(22,.xg (J3 (ZE (((E.take j).map fun e=>QH p i (QR e)).filter fun x=>decide (0<=x)))))]) E.length (fun _=>True) trivial ?_ ?_
  ·intro _
   rw[Qa QkU.eq_1];simp;refine cK (by simpa using Qfa hK (J3 (ZE ((E.map fun e=>QH p i (QR e)).filter fun x=>decide (0<=x))))) ?_
   simp;refine cK (Uy ((E.map fun e=>QH p i (QR e)).filter fun x=>decide (0<=x)) (fun x hx=>?_) ?_) ?_
   ·simp only[QJM,QJz] at hx
    obtain ⟨⟨e,_,rfl⟩,_⟩:=hx;have:=Qbh hp (QR e) hi;omega
   ·grind
   simp
  ·intro j hj _ ih
   have hst:ZQ p (QR E[j])=[.sl 1 ((List.range p.zf.length).map fun i=>[.int .u64 (Xv (Zs p i (QR E[j])):Nat)]),.sl 1 ((List.range p.zf.length).map fun i=>[.int .i64 (QH p i (QR E[j]))]),Yr (JC p (QR E[j]))]:=rfl
   rw[Qa QkU.eq_1];rw[QJk hj,QJE,QKW] at ih;by_cases hb:0<=QH p i (QR E[j])
   ·have hfc:(List.map (fun e=>QH p i (QR e)) [E[j]]).filter (fun x=>decide (0<=x))=[QH p i (QR E[j])]:=by simp[hb]
    rw[hfc,ZG] at ih;generalize hl:((E.take j).map fun e=>QH p i (QR e)).filter (fun x=>decide (0<=x))=l at *
    have hll:l.length<=1000000:=by
     grind
    have hle:=qP (QH p i (QR E[j])) l;have hkk:=XE (ZE l);have hff:=Yv (QH p i (QR E[j])) (ZE l);have hii:=Vn (QH p i (QR E[j])) (ZE l);generalize ZE l=kv at *;simp[hj,hst,hi,hb,hkk,hff,hii] at ih |-
    grind
   ·have hfc:(List.map (fun e=>QH p i (QR e)) [E[j]]).filter (fun x=>decide (0<=x))=[]:=by simp[hb]
    rw[hfc,QKs] at ih;simp[hj,hst,hi,hb] at ih |-
    grind
theorem QyI (p:Qe) (n:Int) (hf:Few p):Gd K 113 [prV p,.int .i64 n] (.xd [.agg [.int .i64 (if kE p (Xd p n)=0 then (JS p.zb (tr p n.toNat).zm (tr p n.toNat).zn).1 else 0),.int .i64 (if kE p (Xd p n)=0 then (JS p.zb (tr p n.toNat).zm (tr p n.toNat).zn).2 else 0)],
   .int .i64 (if kE p (Xd p n)=0 then tE p.zb (qh (tr p n.toNat).zm (tr p n.toNat).zn 0) else kE p (Xd p n))]):=by
 refine Qb hK (fk func113 QIH (by kernel_rfl)) (by simp) ?_
 have hg:=Wh hK p (Xd p n) hf.fine;have hg93:Gd K 199 [prV p,.int .i64 n] (.bool (Xd p n)):=Qpy hK p n hf.fine.small.zf;simp;refine cK (by simpa using hg93) ?_
 simp;refine cK (by simpa using hg) ?_
 by_cases he:kE p (Xd p n)=0
 ·obtain ⟨hp,hn,hk,hne⟩:=JZ he
  have hn':=of_decide_eq_true hn;simp only[inR] at hn';have hS:=hf.sets hp;have htl:=hp.trialsLen;obtain ⟨i,rfl⟩:∃ i:Nat,n=i:=⟨n.toNat,by omega⟩
  have hi:i<p.zf.length:=by omega
  have hSne:QX p.zb [] p.zb.zd≠[]:=fun c=>by
   have h1:=Qcj p;rw[Qcf,c] at h1;exact hne (QJu (by simpa using h1))
  have ha:qh (tr p i).zm (tr p i).zn 0=true:=by
   have a1:=(hp.trial hi).1;have a2:=(hp.trial hi).2.1;simp only[qh,inR] at a1 a2 |-;simp;omega
  have htE:tE p.zb true=0:=by
   unfold tE;rw[if_pos hp.zb,if_pos rfl,if_neg hSne]
  have hrl:JS p.zb (tr p i).zm (tr p i).zn=((span ((QX p.zb [] p.zb.zd).map (Qcb p.zb (tr p i).zm (tr p i).zn))).1,(span ((QX p.zb [] p.zb.zd).map (upS p.zb (tr p i).zm (tr p i).zn))).2):=by
   unfold JS tL;rw[ha,if_pos ⟨hp.zb,rfl⟩]
  rw[Int.toNat_natCast,ha,htE,hrl];have hfile:UI p=prC p++[.sl 3 (QS p),.sl 1 (XQ p)]:=rfl;have hlv:XQ p=(QX p.zb [] p.zb.zd).map fun s=>[.sl 2 (Ze p s)]:=rfl
  rw[hfile,hlv];have hld:∀ s,(Ze p s)[i]?=some [.int .i64 (Qcb p.zb (tr p i).zm (tr p i).zn s),.int .i64 (upS p.zb (tr p i).zm (tr p i).zn s)]:=fun s=>by simp[Ze,hi]
  have hll:∀ s,(Ze p s).length=p.zf.length:=fun s=>by simp[Ze]
  have hld2:∀ s (h:i<(Ze p s).length),(Ze p s)[i]'h=[.int .i64 (Qcb p.zb (tr p i).zm (tr p i).zn s),.int .i64 (upS p.zb (tr p i).zm (tr p i).zn s)]:=fun s h=>by
   grind
  generalize QS p=SS at *;generalize QX p.zb [] p.zb.zd=S at *;have hpos:0<S.length:=QJQ.2 hSne;obtain ⟨s0,hs0⟩:∃ s0,S[0]=s0:=⟨_,rfl⟩
  have hcons:∃ S',S=s0::S':=by
   cases S with
   | _=>grind
  generalize Qcb p.zb (tr p i).zm (tr p i).zn=lo at *;generalize upS p.zb (tr p i).zm (tr p i).zn=up at *
  have hmin:(span (S.map lo)).1=(S.map lo).foldl min (lo s0):=by
   obtain ⟨S',rfl⟩:=hcons;show (S'.map lo).foldl min (lo s0)=(S'.map lo).foldl min (min (lo s0) (lo s0))
   grind
  have hmax:(span (S.map up)).2=(S.map up).foldl max (up s0):=by
   obtain ⟨S',rfl⟩:=hcons;show (S'.map up).foldl max (up s0)=(S'.map up).foldl max (max (up s0) (up s0))
   grind
  clear hcons;rw[hmin,hmax];simp[he,prC,hi,hll,hld2,hpos,hs0];intro _
  refine Qw (fun j=>[(1,AV.iv (.int .i64 (i:Nat))),(4,.loc 4 0),(8,.loc 8 0),(35,.iv (.sl 1 (S.map fun s=>[.sl 2 (Ze p s)]))),(36,.iv (.int .i64 (S.length:Nat))),(37,.iv (.int .i64 (j:Nat)))])
   (fun j=>[(4,.box [.iv (.int .i64 0),.iv (.int .i64 0)]),(8,.box [.iv (.int .i64 (((S.map lo).take j).foldl min (lo s0))),.iv (.int .i64 (((S.map up).take j).foldl max (up s0)))])]) S.length (fun _=>True) trivial ?_ ?_
  ·intro _
   rw[Qa QkT.eq_1];simp[QJp]
  intro j hj _ ih;rw[Qa QkT.eq_1];rw[Uz _ _ _ j (by simpa using hj),Uz _ _ _ j (by simpa using hj)] at ih
  simp[hj,hi,hll,hld2,QdL,QdM] at ih |-
  grind
 simp[he]
omit hK
theorem Qf3 (T:List Zb) (B:Zb->Bool) (hne:T≠[]):(XZ (T.countP B) T.length=1)↔T.all B=true:=by
 have h1:0<T.length:=QJQ.2 hne
 have h2:T.countP B=T.length↔T.all B=true:=by
  rw[List.countP_eq_length,QJX]
 unfold XZ
 grind
include hK
theorem Qx0 (p:Qe) (t:Zb) (k:Nat) (hk:k<(JC p (QR t.ends)).length) (hp:OkP p) (hs:okS p.zb t.set):Gd K 211 [.agg (Zw p t),.ptr (prC p),.ptr [.int .i64 k]] (.bool (Zi p ((JC p (QR t.ends)).getD k 0:Nat) t)):=by
 refine Qb hK (fk func211 QHA (by kernel_rfl)) (by simp) ?_
 have hl:=hp.deedsLen;have hgd:(JC p (QR t.ends)).getD k 0=(JC p (QR t.ends))[k]:=by grind
 have hlt12:(JC p (QR t.ends))[k]<12:=by
  have:=W9 _ _ _ _ (QJo hk);have:=QmG p.zc.za p.zc.za.length;omega
 have hg:=Qje hK p t p.zo hp;have hb:=QeR hp hs (zo:=p.zo) (k:=(JC p (QR t.ends))[k]) (by omega)
 have xa:∀ n,pmN (nd p p.zo) t n<2 ^ 64:=fun n=>Qls hp t n
 have hg2:=Qjd hK (pmN (nd p p.zo) t p.zf.length) (JC p (QR t.ends))[k] (xa _) (by omega)
 have hnd:nd p p.zo=p:=rfl;rw[hb,hnd] at hg2;rw[hnd] at hg;rw[hgd];obtain ⟨v0,v1,v3,hv⟩:∃ v0 v1 v3,Zw p t=[v0,v1,Yr (JC p (QR t.ends)),v3]:=⟨_,_,_,rfl⟩
 rw[hv] at hg |-;generalize JC p (QR t.ends)=now at *;simp[prC];refine cK (by simpa using hg) ?_
 simp[hk];refine cK (by simpa using hg2) ?_
 simp
theorem QyE (p:Qe) (hf:Few p):Gd K 122 [prV p] (.xd [Q6 (QeO p),.int .i64 (kE p true)]):=by
 refine Qb hK (fk func122 QIB (by kernel_rfl)) (by simp) ?_
 have hg:=Wh hK p true hf.fine;simp;refine cK (by simpa using hg) ?_
 by_cases he:kE p true=0
 ·obtain ⟨hp,_,hk,hne⟩:=JZ he
  have hdl:=hp.deedsLen;have hnl:∀ e,((JC p e).length:Int)=Qs p.zc.za:=fun e=>Xb e hp.zc.za p.zc.za.length (QJn _) (QJn _)
  have hcb:=hp.zc.za.cnt p.zc.za.length (QJn _) (QJn _);have hnl2:∀ e,(JC p e).length=(Qs p.zc.za).toNat:=fun e=>by grind
  have hNb:(Qs p.zc.za).toNat<=12:=by show (cnt p.zc.za p.zc.za.length).toNat<=12;omega
  have hg75:∀ s:Nat,s<(Qs p.zc.za).toNat->Gd K 210 [.ptr (UI p),.clo 211 [] [.ptr (prC p),.ptr [.int .i64 s]]] (.int .i64 (XZ ((QF p).countP (fun t=>Zi p ((JC p (QR t.ends)).getD s 0:Nat) t)) (QF p).length)):=fun s hs =>
   Qjc hK p (hf.ends hp) (hf.sets hp) (by have:=hf.all hp;omega) 211 [] _ _ (fun t ht=>by simpa using Qx0 hK p t s (by grind) hp (Yu ht)) (by kernel_rfl)
  have hr:QeO p=acc (fun s:Nat=>if (QF p).all (fun t=>Zi p ((JC p (QR t.ends)).getD s 0:Nat) t) then [] else [(s:Int)]) (Qs p.zc.za).toNat:=by unfold QeO;rw[if_pos he,hk]
  have hts:∀ s:Nat,(XZ ((QF p).countP (fun t=>Zi p ((JC p (QR t.ends)).getD s 0:Nat) t)) (QF p).length=1)↔(QF p).all (fun t=>Zi p ((JC p (QR t.ends)).getD s 0:Nat) t)=true:=fun s=>Qf3 _ _ hne
  have hE:Xz p.zc [] p.zc.za≠[]:=fun c=>by
   have h1:=Qcj p;rw[Qbw,c] at h1;exact hne (QJu (by simpa using h1))
  have hst:∃ s0 s1 now rest,QS p=[s0,s1,Yr now]::rest/\now.length=(Qs p.zc.za).toNat:=by
   unfold QS;cases hEE:Xz p.zc [] p.zc.za with
   | cons e r=>exact ⟨_,_,JC p (QR e),_,rfl,hnl2 _⟩
   | _=>grind
  obtain ⟨s0,s1,now,rest,hst,hnow⟩:=hst;rw[hr];have hfile:UI p=prC p++[.sl 3 (QS p),.sl 1 (XQ p)]:=rfl;rw[hfile,hst] at hg75 |-;clear hg hr hfile hst hE;generalize QF p=T at *;generalize XQ p=LL at *;generalize (Qs p.zc.za).toNat=N at *;obtain ⟨tv,htv⟩:∃ tv:Nat->Int,∀ s,tv s=XZ (T.countP (fun t=>Zi p ((JC p (QR t.ends)).getD s 0:Nat) t)) T.length:=⟨_,fun _=>rfl⟩
  obtain ⟨all,xc⟩:∃ all:Nat->Bool,∀ s,all s=T.all (fun t=>Zi p ((JC p (QR t.ends)).getD s 0:Nat) t):=⟨_,fun _=>rfl⟩
  simp only[<- htv,<- xc] at hg75 hts |-;obtain ⟨pc,hpc⟩:∃ pc:Nat->List Int,pc=fun s:Nat=>if all s=true then [] else [(s:Int)]:=⟨_,rfl⟩
  rw[<- hpc];have hpc2:∀ s:Nat,pc s=if all s=true then [] else [(s:Int)]:=fun s=>by rw[hpc]
  clear hpc htv xc;simp[he,prC];intro _;rw[hnow]
  refine Qw (fun i=>[(1,AV.iv (.ptr (prC p))),(4,.iv (.ptr (prC p++[.sl 3 ([s0,s1,Yr now]::rest),.sl 1 LL]))),(6,.yl 6 (acc pc i).length),(23,.iv (.int .i64 (N:Nat))),(24,.iv (.int .i64 (i:Nat)))])
   (fun i=>[(6,.arr 3 1 (emb ((acc pc i).map fun n=>[.int .i64 n])) 0)]) N (fun _=>True) trivial ?_ ?_
  ·intro _
   rw[Qa QkR.eq_1];simp[QJp]
  intro i hi _ ih;have hlen:(acc pc i).length<=i*1:=QfM pc 1 (fun s=>by grind) i
  rw[Qa QkR.eq_1];rw[Qbk pc i,hpc2 i] at ih;have hgi:=hg75 i hi;have htsi:=hts i;generalize tv i=tvi at *;generalize acc pc i=A at *;have hi':(i:Int)<N:=by omega
  simp[hi,hi'];refine YO (by simpa using hgi) (.inr rfl) ?_
  by_cases hal:all i=true
  ·have h1:=htsi.2 hal
   rw[if_pos hal] at ih;simp[h1] at ih |-
   grind
  have h1:¬ tvi=1:=fun c=>hal (htsi.1 c)
  rw[if_neg hal] at ih;simp[h1] at ih |-
  grind
 have hr:QeO p=[]:=by unfold QeO;rw[if_neg he]
 simp[he,hr]
omit hK
theorem Vf {α:Type} (f:α->Int) (n:Int):∀ (l:List α) (b:Int),n<=l.foldl (fun b k=>min b (f k)) b↔n<=b/\∀ k∈l,n<=f k
 | [],b=>by simp
 | a::l,b=>by
   rw[QKd,Vf f n l]
   grind
theorem QoN (p:Qe) (t:Zb) (k:Nat) (n:Int) (hn:0<=n):∀ N:Nat,n<=QiK p t k N↔∃ i<N,inN (Zs p i (QR t.ends)) k=true/\¬ QH p i (QR t.ends)=k/\n<=(VX p i t.set).tdiv (den t.set)
 | 0=>by
   have:QiK p t k 0 = -1:=rfl;omega
 | N+1=>by
   rw[Qm8];have ih:=QoN p t k n hn N;unfold QoB;split
   ·rename_i h
    constructor
    all_goals grind
   grind
theorem Qg0 (p:Qe) (t:Zb) (n:Int):∀ (l:List Nat) (b:Int),n<=l.foldl (Qrb p t) b↔n<=b/\∀ i∈l,0<=(tr p i).z5->p.z6<=(QcA p t i p.zf.length:Int)->n<=(VX p i t.set+den t.set-1).tdiv (den t.set)-1
 | [],b=>by simp
 | a::l,b=>by
   rw[QKd,Qg0 p t n l];simp only[QJw,forall_eq_or_imp];unfold Qrb
   grind
theorem Qo8 (f:Nat->Int):∀ l:List Nat,l≠[]->∃ a∈l,∀ b∈l,f b<=f a
 | [],h=>absurd rfl h
 | [a],_=>⟨a,by simp,by simp⟩
 | a::b::l,_=>by
   obtain ⟨c,h1,h2⟩:=Qo8 f (b::l) (by simp)
   grind
theorem QpN {p:Qe} (hp:OkP p) (t:Zb) (n:Int):(Xm (nd p n) t:Int)<p.z6↔∀ i<p.zf.length,0<=(tr p i).z5->p.z6<=(QcA p t i p.zf.length:Int)->¬ VX p i t.set<=n*den t.set:=by
 have hrule:=hp.z6;simp only[inR] at hrule;have hf:Xm (nd p n) t=(List.range p.zf.length).countP fun i=>decide (0<=(tr p i).z5)&&decide (VX p i t.set<=n*den t.set):=rfl
 rw[hf];constructor
 ·intro h i hi h1 h2 h3
  have:QcA p t i p.zf.length<=(List.range p.zf.length).countP fun i=>decide (0<=(tr p i).z5)&&decide (VX p i t.set<=n*den t.set):=by
   unfold QcA;refine List.countP_mono_left fun k _ hk=>?_
   grind
  omega
 ·intro h
  refine Classical.byContradiction fun hc=>?_
  have hpos:0<(List.range p.zf.length).countP fun i=>decide (0<=(tr p i).z5)&&decide (VX p i t.set<=n*den t.set):=by omega
  rw[List.countP_eq_length_filter] at hpos hc;obtain ⟨a,ha,hmax⟩:=Qo8 (fun i=>VX p i t.set) _ (QJQ.1 hpos)
  simp only[QJM,QJN,QJl,decide_eq_true_eq] at ha;refine h a ha.1 ha.2.1 ?_ ha.2.2
  have:((List.range p.zf.length).filter fun i=>decide (0<=(tr p i).z5)&&decide (VX p i t.set<=n*den t.set)).length<=QcA p t a p.zf.length:=by
   rw[<- List.countP_eq_length_filter];unfold QcA;refine List.countP_mono_left fun k hk1 hk=>?_
   grind
  omega
theorem Qd2 {p:Qe} (hp:OkP p) {t:Zb} (hs:okS p.zb t.set) {n:Int} (h0:0<=n) (h1:n<=999999999):UG (nd p n) t=true↔n<=Qf0 p t:=by
 have hden:=(hp.zb.denB hs).1;have hld:∀ i<p.zf.length,0<=VX p i t.set:=fun i hi=>(hp.zb.numB hs (hp.trial hi).1 (hp.trial hi).2.1).1
 have hg:UG (nd p n) t=(((JC p (QR t.ends)).all fun (k:Nat)=>Zi (nd p n) k t)&&decide ((Xm (nd p n) t:Int)<p.z6)):=rfl
 rw[hg,QJl,decide_eq_true_eq,QJX,QpN hp];unfold Qf0;rw[Qg0];unfold QCA;rw[Vf]
 have hprov:∀ k:Nat,Zi (nd p n) k t=true↔n<=QiK p t k p.zf.length:=fun k=>by
  rw[QoN p t k n h0];have hpb:Zi (nd p n) k t=(List.range p.zf.length).any fun i=>decide (n*den t.set<=VX p i t.set)&&inN (Zs p i (QR t.ends)) k&&!decide (QH p i (QR t.ends)=k):=rfl
  rw[hpb,List.any_eq_true];constructor
  ·rintro ⟨i,hi,h2⟩
   have hi:=QJN.1 hi;simp at h2;exact ⟨i,hi,h2.1.2,h2.2,(Wa (hld i hi) hden).2 h2.1.1⟩
  rintro ⟨i,hi,h2,h3,h4⟩
  have h5:=(Wa (hld i hi) hden).1 h4
  grind
 constructor
 ·rintro ⟨h2,h3⟩
  refine ⟨⟨h1,fun k hk=>(hprov k).1 (h2 k hk)⟩,fun i hi h4 h5=>?_⟩
  have hi:=QJN.1 hi;have h6:=h3 i hi h4 h5;have h7:¬ (VX p i t.set+den t.set-1).tdiv (den t.set)<=n:=fun c=>h6 ((U1 (hld i hi) hden).1 c)
  omega
 rintro ⟨⟨_,h2⟩,h3⟩
 refine ⟨fun k hk=>(hprov k).2 (h2 k hk),fun i hi h4 h5 h6=>?_⟩
 have h7:=h3 i (QJN.2 hi) h4 h5;have h8:=(U1 (c:=n) (hld i hi) hden).2 h6;omega
theorem QmM {p:Qe} (hp:OkP p) (he:kE p true=0) {n:Int} (h0:0<=n) (h1:n<=999999999):(QF p).all (UG (nd p n))=true↔n<=JR p:=by
 unfold JR;rw[(JZ he).2.2.1,Vf,QJX];constructor
 ·exact fun h=>⟨h1,fun t ht=>(Qd2 hp (Yu ht) h0 h1).1 (h t ht)⟩
 ·exact fun h t ht=>(Qd2 hp (Yu ht) h0 h1).2 (h.2 t ht)
include hK
theorem QxX (p:Qe) (t:Zb) (n:Int) (hp:OkP p) (hs:okS p.zb t.set):Gd K 215 [.agg (Zw p t),.ptr [.int .i64 n],.ptr (prC p)] (.bool (UG (nd p n) t)):=by
 refine Qb hK (fk func215 QHw (by kernel_rfl)) (by simp) ?_
 have hg:=Qpx hK p t n hp hs;obtain ⟨v0,v1,v2,v3,hv⟩:∃ v0 v1 v2 v3,Zw p t=[v0,v1,v2,v3]:=⟨_,_,_,_,rfl⟩
 rw[hv] at hg |-;simp[prC];refine cK (by simpa using hg) ?_
 simp
theorem QxY (p:Qe) (n:Int) (hf:Few p) (he:kE p true=0) (h0:0<=n) (h1:n<=999999999):Gd K 214 [.int .i64 n,.ptr [.ptr (UI p)],.ptr (prC p)] (.bool (decide (n<=JR p))):=by
 refine Qb hK (fk func214 QHx (by kernel_rfl)) (by simp) ?_
 obtain ⟨hp,_,hk,hne⟩:=JZ he;have hg:=Qjc hK p (hf.ends hp) (hf.sets hp) (by have:=hf.all hp;omega) 215 [] [.ptr [.int .i64 n],.ptr (prC p)] (UG (nd p n)) (fun t ht=>by simpa using QxX hK p t n hp (Yu ht)) (by kernel_rfl)
 have hs:=Qf3 (QF p) (UG (nd p n)) hne;rw[QmM hp he h0 h1] at hs;generalize XZ ((QF p).countP (UG (nd p n))) (QF p).length=tv at *;generalize UI p=F at *;simp;refine cK (by simpa using hg) ?_
 by_cases h:n<=JR p
 ·have:=hs.2 h
  simp[h,this]
 ·have:¬ tv=1:=fun c=>h (hs.1 c)
  simp[h,this]
theorem QyC (p:Qe) (hf:Few p):Gd K 126 [prV p] (.xd [.int .i64 (Vv p).1,.int .i64 (Vv p).2]):=by
 refine Qb hK (fk func126 QIz (by kernel_rfl)) (by simp) ?_
 have hg:=Wh hK p true hf.fine;simp;refine cK (by simpa using hg) ?_
 by_cases he:kE p true=0;rotate_left
 ·have hr:Vv p=(0,kE p true):=by unfold Vv;rw[if_neg he]
  rw[hr];simp[he];refine QhP _ _ _ _ _ _ _ _ ?_;simp[he]
 obtain ⟨hp,_,hk,hne⟩:=JZ he;have hg74:=fun n h0 h1=>QxY hK p n hf he h0 h1
 have hw:JR p<=999999999:=(Vf (Qf0 p) (JR p) (kL p true) 999999999).1 (Int.le_refl _) |>.1
 have hr:Vv p=if JR p<0 then (0,3) else (JR p,0):=by unfold Vv;rw[if_pos he]
 rw[hr];generalize JR p=W at *;generalize UI p=F at *;simp[he,prC];refine QhP _ _ _ _ _ _ _ _ ?_;simp;refine ⟨by kernel_rfl,cK (by simpa[prC] using hg74 0 (by omega) (by omega)) ?_⟩
 by_cases hneg:W<0
 ·have h2:¬ 0<=W:=by omega
  simp[hneg,h2]
 have h2:0<=W:=by omega
 simp[hneg,h2];refine Qu5 (S:=Int × Int) (fun s=>[(6,.iv (.clo 214 [] [.ptr [.ptr F],.ptr (prC p)])),(7,.iv (.int .i64 s.1)),(8,.iv (.int .i64 s.2))]) (fun _=>[]) (fun s=>0<=s.1/\s.1<=W/\W<=s.2/\s.2<=999999999) (fun s=>(s.2-s.1).toNat) ?_ (0,999999999) ⟨by omega,h2,hw,by omega⟩
 rintro ⟨low,high⟩ ⟨i1,i2,i3,i4⟩ ih
 simp only at i1 i2 i3 i4 ih |-;rw[Qa Qq8.eq_1];by_cases xa:low<high
 ·have hmid:(low+high+1).tdiv 2=(low+high+1) / 2:=QJS (by omega)
  have hm1:low<(low+high+1) / 2:=by omega
  have hm2:(low+high+1) / 2<=high:=by omega
  have hgm:=hg74 ((low+high+1) / 2) (by omega) (by omega)
  simp[xa,hmid];generalize (low+high+1) / 2=mid at *
  (repeat' first | omega | (with_reducible apply And.intro) | intro _)
  ·kernel_rfl
  refine cK (by omega) ?_
  by_cases hmw:mid<=W
  ·simp[hmw]
   exact ih (mid,high) ⟨by simp only;omega,hmw,i3,i4⟩ (by simp only;omega)
  simp[hmw]
  (repeat' first | omega | (with_reducible apply And.intro) | intro _)
  exact ih (low,mid-1) ⟨i1,i2,by simp only;omega,by simp only;omega⟩ (by simp only;omega)
 have:low=W:=by omega
 subst this;simp[xa]
omit hK
def exD:List Qu:=[⟨1,0,0,5,1⟩,⟨1,1,0,5,2⟩,⟨1,2,0,6,1⟩,⟨4,0,0,0,0⟩,⟨2,0,2,0,0⟩,⟨1,0,1,7,2⟩]
def exC:Qg:=⟨exD++[⟨4,0,0,0,0⟩],[],0⟩
def exM:Machine:=⟨[⟨100,10,11⟩,⟨50,5,5⟩],20,1,2,[⟨10,5,2500,250⟩],0⟩
def exP:Qe:=⟨exC,exM,[⟨30,0,0⟩,⟨31,0,-1⟩],4600,1⟩
include hK
theorem Qyf:Gd K 162 [] (maV exM):=by
 refine Qb hK (fk func162 QId (by kernel_rfl)) (by simp) ?_
 simp[exM]
def QpV:AV:=.xd [.agg [.yl 0 6,.iv (.sl 5 []),.iv (.int .i64 0)],.iv (.agg [.int .i64 6,.int .i64 1,.int .i64 0,.int .i64 6,.int .i64 (-1)]),.iv (.agg [.int .i64 6,.int .i64 0,.int .i64 0,.int .i64 (-1),.int .i64 1])]
theorem Qpf:Gh K 70 [] [] [] QpV [(0,.arr 91 5 (emb (exD.map dC)) 0)]:=by
 refine Zj [9] [] [] [] (fk func70 c70 (by kernel_rfl)).p (by simp[c70]) (by simp) ?_ ?_ ?_ ?_
 ·intro q hq
  simp only[QKb] at hq;subst hq;exact ⟨by simp,rfl,Vr _ _ _ _ _⟩
 ·simp[clA,clAL,QpV]
 ·simp
 ·generalize hG:QhY c70.res [9] [] QpV [(0,.arr 91 5 (emb (exD.map dC)) 0)]=G
  simp;rw[<- hG];refine ⟨⟨_,rfl,rfl⟩,fun q hq=>?_,by simp⟩
  simp only[QKb] at hq;subst hq;rfl
theorem QA3:Gd K 69 [] (prV exP):=by
 refine Qb hK (fk func69 c69 (by kernel_rfl)) (by simp) ?_
 simp;refine QC (Qpf hK) rfl ?_ ?_
 ·refine ⟨by simp,by simp,by simp,by simp[Qc],?_⟩
  simp[XN]
 simp[QpV,rn,rnL,nth,X4];refine ⟨⟨rfl,by decide,by decide⟩,cK (by simpa using Qyf hK) ?_⟩
 simp[exP,exC,exM,exD,emb]
omit hK
theorem Ql7:OkC exC:=by
 refine ⟨by decide,by decide,by decide,fun i h _=>?_,fun s hs=>by simp[exC] at hs⟩
 have all:∀ i<7,ZK (exC.za.getD i d0) (cnt exC.za i):=by decide
 have:=all i h
 grind
theorem QpR:OkM exM:=by
 refine ⟨by decide,?_,by decide,by decide,by decide,by decide,?_,by decide⟩
 ·intro l hl;simp[exM] at hl;rcases hl with rfl | rfl<;>decide
 intro l hl;simp[exM] at hl;subst hl;decide
theorem Qd8:OkP exP:=by
 refine ⟨Ql7,QpR,by decide,by decide,by decide,fun i h h'=>?_⟩
 have all:∀ i<2,U5 (exP.zf.getD i t0) (cnt exP.zc.za ((pv exP.zc.za).getD i 0)):=by decide
 have:=all i h'
 grind
theorem Qhv {c:Qg} (hc:OkC c) (hs:c.zg=[]):Xz c [] c.za=Zn c.za:=by
 have hw:=hc.zh;simp only[inR] at hw;unfold Xz;have e1:((Zn c.za).map fun x=>[]++x)=Zn c.za:=by simp
 rw[e1,List.filter_eq_self];intro e he;have h1:=Qk2 hc he;have h2:(QY c.za c.zg (QR e):Int)<=c.zh:=by rw[hs];simpa[QY] using hw.1
 simpa using ⟨h1,h2⟩
theorem Qdu:∀ {ls:List Zy} {e:List Int},e∈QE ls->e.length=ls.length/\∀ i (h:i<ls.length) (h':i<e.length),inR e[i] ls[i].lo ls[i].hi
 | [],e,h=>by simp[QE] at h;subst h;simp
 | l::r,e,h=>by
   simp only[QE,acc,QJL,QJz,QJN] at h;obtain ⟨i,hi,e',he',rfl⟩:=h;obtain ⟨h1,h2⟩:=Qdu he';refine ⟨by simp[h1],fun j h h'=>?_⟩
   cases j with
   | zero=>simp only[QKJ,inR];omega
   | _=>grind
theorem Qv4 {m:Machine} {s:Qd} (h:s∈QT m [] m.zd):okS m s:=by
 simp only[QT,QJL,QJz,QJN] at h;obtain ⟨e,he,k,hk,rfl⟩:=h;obtain ⟨h1,h2⟩:=Qdu he;exact ⟨by simpa using h1,by simp only[inR];omega,by simpa using h2⟩
theorem Qii (m:Machine):QX m [] m.zd=(QT m [] m.zd).filter fun s=>decide ((ZP m m.zk s:Int)<=m.zh):=by
 unfold QX;refine List.filter_congr fun s hs=>?_
 rw[Bool.eq_iff_iff];simp only[decide_eq_true_eq];exact ⟨fun h=>h.2,fun h=>⟨Qv4 hs,h⟩⟩
def exT:List Zb:=[⟨[0,0,0,0,0,1,0],⟨[10,5],1⟩⟩,⟨[0,0,0,0,0,1,0],⟨[11,5],1⟩⟩,⟨[0,0,0,0,1,1,0],⟨[10,5],1⟩⟩,⟨[0,0,0,0,1,1,0],⟨[11,5],1⟩⟩]
theorem Ql8:QF exP=exT:=by
 unfold QF;rw[show exP.zc=exC from rfl,show exP.zb=exM from rfl,Qhv Ql7 rfl,Qii]
 decide
theorem QyU (r:Int) (hr:inR r 1 12):OkP { exP with z6:=r }:=⟨Qd8.zc,Qd8.zb,Qd8.zo,hr,Qd8.many,Qd8.zf⟩
theorem QEg (r:Int) (hr:inR r 1 12):kL { exP with z6:=r } true=exT/\kE { exP with z6:=r } true=0:=by
 have h1:=QyU r hr;have h2:QF { exP with z6:=r }=exT:=Ql8
 unfold kL kE;rw[if_pos ⟨h1,rfl⟩,if_pos h1,if_pos rfl,h2];exact ⟨rfl,by decide⟩
theorem QBA (r:Int) (hr:inR r 1 12):Few { exP with z6:=r }:=by
 have h2:QF { exP with z6:=r }=exT:=Ql8
 refine ⟨⟨⟨show exP.zc.za.length<=1000 by decide,show exP.zc.zg.length<=1000 by decide,show exP.zb.zd.length<=1000 by decide,show exP.zb.zk.length<=1000 by decide,show exP.zf.length<=1000 by decide⟩,fun _=>show sets exP.zb exP.zb.zd.length<=1000000 by decide⟩,fun _=>?_,fun _=>?_,fun _=>by rw[h2];decide⟩
 ·rw[show ({ exP with z6:=r }:Qe).zc=exC from rfl,Qhv Ql7 rfl];decide
 ·rw[show ({ exP with z6:=r }:Qe).zb=exM from rfl,Qii]
  exact QJ7 (QJI _ _) (by decide)
include hK
omit hK
theorem Qdq {c n:Nat}:XZ c n=1↔c=n:=by
 unfold XZ;omega
theorem Qbs {c n:Nat} (hn:n≠0):XZ c n=2↔c=0:=by
 unfold XZ;omega
include hK
omit hK
theorem Qom (p:Qe):JR p<=999999999:=by
 unfold JR
 have h:∀ (l:List Zb) (b:Int),l.foldl (fun b t=>min b (Qf0 p t)) b<=b:=by
  intro l
  induction l with
  | _=>grind
 exact h _ _
include hK
omit hK
theorem QDF {p:Qe} (hp:OkP p) {t:Zb} (h:t∈QF p):kE p true=0:=by
 unfold kE
 grind
theorem Uj {α:Type} (f:α->Int):∀ (l:List α) (t:α),t∈l->(span (l.map f)).1<=f t/\f t<=(span (l.map f)).2
 | [],_,h=>by cases h
 | a::r,t,h=>by
   have mono:∀ (l:List α) (x u:Int),(l.map f).foldl min x<=x/\u<=(l.map f).foldl max u:=by
    intro l
    induction l with
    | cons b l ih =>
      intro x u;simp only[QJC,QKd];have:=ih (min x (f b)) (max u (f b));omega
    | _=>grind
   have key:∀ (l:List α) (x u:Int),t∈l->(l.map f).foldl min x<=f t/\f t<=(l.map f).foldl max u:=by
    intro l
    induction l with
    | cons b l ih =>
      intro x u h;simp only[QJC,QKd];rcases QJw.1 h with rfl | h
      ·have:=mono l (min x (f t)) (max u (f t))
       omega
      exact ih _ _ h
    | _=>grind
   simp only[QJC,span];rcases QJw.1 h with rfl | h
   ·exact mono r _ _
   ·exact key r _ _ h
def Qrp (k:Int) (b:Bool):Prop:=k=3\/(k=1/\b=true)\/(k=2/\b=false)
theorem QvX {α:Type} (f:α->Int) (a:Int):∀ l:List α,l≠[]->(∀ t∈l,a<=f t)->a<=(span (l.map f)).1
 | [],h,_=>absurd rfl h
 | b::r,_,h=>by
   have key:∀ (l:List α) (x:Int),(∀ t∈l,a<=f t)->a<=x->a<=(l.map f).foldl min x:=by
    intro l
    induction l with
    | _=>grind
   simp only[QJC,span]
   grind
theorem QvW {α:Type} (f:α->Int) (a:Int):∀ l:List α,l≠[]->(∀ t∈l,f t<=a)->(span (l.map f)).2<=a
 | [],h,_=>absurd rfl h
 | b::r,_,h=>by
   have key:∀ (l:List α) (x:Int),(∀ t∈l,f t<=a)->x<=a->(l.map f).foldl max x<=a:=by
    intro l
    induction l with
    | _=>grind
   simp only[QJC,span]
   grind
instance (k:Int) (b:Bool):Decidable (Qrp k b):=by unfold Qrp;infer_instance
include hK
omit hK
def c9D:=f0 0xa522210f02f3283f73922201383f14501383f0402cd574e93d0221f140574e9ad02cd52fe53d022404052fe5ad0c1f30133875d5d331d3e17246f3275d5d321d0a22032214c ⟨_,by conv=>lhs;reduce⟩
def c9S:=f0 0xa922210f02f3283f73922201383f14501383f0402cd574e93d0221f140574e9ad02cd52fe53d022404052fe5ad0c1f30133875d5d331d3e17246f3275d5d321d0a22032214c ⟨_,by conv=>lhs;reduce⟩
@[simp] theorem Qz9 {α:Type} (lod:Nat->Option AO) (ids:List Nat) (f:α->List IV) (l:List α):List.map (QnZ lod ids∘List.map AV.iv∘f) l=List.map (List.map AV.iv∘f) l :=
 QKQ fun a _=>Qia lod ids (f a)
include hK
@[simp] def prA (p:Qe) (ds ss bs ts:AV):List AV:=[ds,ss,.iv (.int .i64 p.zc.zh),.iv (ZD p.zb.zd),.iv (.int .i64 p.zb.zr),.iv (.int .i64 p.zb.zu),.iv (.int .i64 p.zb.zw),bs,.iv (.int .i64 p.zb.zh),ts,.iv (.int .i64 p.zo),.iv (.int .i64 p.z6)]
omit hK
@[simp] theorem QC8 (L:List (List IV)) (a b c d e:IV):emb L++[[.iv a,.iv b,.iv c,.iv d,.iv e]]=emb (L++[[a,b,c,d,e]]):=by simp[emb]
theorem UP {p:Qe} (hp:OkP p):kL p true=QF p:=by unfold kL;grind
theorem Qne (m:Machine) (l:List Qd) (mn load:Int):0<=Vw m l mn load/\(Vw m l mn load<=9999->Xc m l (Vw m l mn load) mn load):=by
 classical
 unfold Vw;refine ⟨by omega,fun h=>?_⟩
 have:=List.findIdx_getElem (p:=fun (n:Nat)=>decide (Xc m l n mn load)) (xs:=List.range 10000) (w:=by
  grind)
 simpa using this
include hK
omit hK
def chD (x fin:Int) (d:Qu):Qu :=
 if d.zp=1 then ⟨d.zp,d.pos,fin,(d.bar+x).tmod 100,(d.z1+x).tmod 100⟩ else if d.zp=2 then ⟨d.zp,d.pos,fin,d.bar,d.z1⟩ else d
theorem QeB:∀ l:List Int,l≠[]->(span l).1∈l/\(span l).2∈l
 | [],h=>absurd rfl h
 | a::r,_=>by
   have key:∀ (r:List Int) (x u:Int),(r.foldl min x=x\/r.foldl min x∈r)/\(r.foldl max u=u\/r.foldl max u∈r):=by
    intro r
    induction r with
    | cons b r ih =>
      intro x u;obtain ⟨h1,h2⟩:=ih (min x b) (max u b);simp only[QKd,QJw];refine ⟨?_,?_⟩
      ·rcases h1 with h1 | h1
       ·rw[h1];omega
       grind
      rcases h2 with h2 | h2
      ·rw[h2];omega
      grind
    | _=>grind
   obtain ⟨h1,h2⟩:=key r a a;simp only[span,QJw];exact ⟨h1,h2⟩
include hK
omit hK
structure Rod where
 long:Int
 z7:Int
 grow:Int
 deriving DecidableEq
structure Q1 where
 yg:Int
 rod:Int
 count:Int
 rest:Int
 off:Int
 yh:Int
 yi:Int
 deriving DecidableEq
structure Zl where
 yc:Int
 z8:Int
 z9:Int
 zi:List Rod
 zj:List Q1
 zh:Int
 deriving DecidableEq
@[simp] def roC (r:Rod):List IV:=[.int .i64 r.long,.int .i64 r.z7,.int .i64 r.grow]
@[simp] def reC (x:Q1):List IV:=[.int .i64 x.yg,.int .i64 x.rod,.int .i64 x.count,.int .i64 x.rest,.int .i64 x.off,.int .i64 x.yh,.int .i64 x.yi]
@[simp] def Qip (l:List Rod):IV:=.sl 3 (l.map roC)
@[simp] def Qam (l:List Q1):IV:=.sl 7 (l.map reC)
@[simp] def puC (p:Zl):List IV:=[.int .i64 p.yc,.int .i64 p.z8,.int .i64 p.z9,Qip p.zi,Qam p.zj,.int .i64 p.zh]
@[simp] def puV (p:Zl):IV:=.agg (puC p)
def WK (r:Rod):Prop:=inR r.long 1 9999/\inR r.z7 0 (min 9 (r.long-1))/\inR r.grow 0 50
instance (r:Rod):Decidable (WK r):=by unfold WK;infer_instance
def Jm (n:Nat) (x:Q1):Prop:=(x.yg=1\/x.yg=2)/\inR x.rod 0 ((n:Int)-1)/\inR x.count 0 99/\inR x.rest 0 9999/\inR x.off 0 99/\inR x.yh (-50) x.yi/\x.yi<=50
instance (n:Nat) (x:Q1):Decidable (Jm n x):=by unfold Jm;infer_instance
structure OkU (p:Zl):Prop where
 yc:inR p.yc 0 50
 guess:inR p.z8 1 p.z9
 most:p.z9<=99999
 zh:inR p.zh 0 8
 rlen:p.zi.length<=4
 xlen:p.zj.length<=8
 zi:∀ r∈p.zi,WK r
 zj:∀ x∈p.zj,Jm p.zi.length x
def okU (p:Zl):Bool:=decide (inR p.yc 0 50)&&decide (inR p.z8 1 p.z9)&&decide (p.z9<=99999)&&decide (inR p.zh 0 8)&&decide (p.zi.length<=4)&&decide (p.zj.length<=8)&&decide (∀ r∈p.zi,WK r)&&decide (∀ x∈p.zj,Jm p.zi.length x)
theorem Qwh (p:Zl):okU p=true↔OkU p:=by
 simp only[okU,QJl,decide_eq_true_eq];exact ⟨fun ⟨⟨⟨⟨⟨⟨⟨h1,h2⟩,h3⟩,h4⟩,h5⟩,h6⟩,h7⟩,h8⟩=>⟨h1,h2,h3,h4,h5,h6,h7,h8⟩,fun ⟨h1,h2,h3,h4,h5,h6,h7,h8⟩=>⟨⟨⟨⟨⟨⟨⟨h1,h2⟩,h3⟩,h4⟩,h5⟩,h6⟩,h7⟩,h8⟩⟩
instance (p:Zl):Decidable (OkU p):=decidable_of_iff _ (Qwh p)
def QaH (p:Zl) (x:Q1):Int:=(p.zi.getD x.rod.toNat ⟨0,0,0⟩).grow
def QzS (p:Zl) (x:Q1) (len rl t:Int):Int:=len*(1000000+p.yc*t)-(x.count*rl+x.rest)*(1000000+QaH p x*t)
def Qu7 (p:Zl) (x:Q1) (len rl t:Int):Bool:=decide (QzS p x len rl t<=x.off*1000000 /\ -QzS p x len rl t<=x.off*1000000)
def Qh3 (x:Q1):Nat:=(x.yi-x.yh+1).toNat
def QbO (p:Zl) (x:Q1) (len rl:Int):Bool:=(List.range (Qh3 x)).any fun (i:Nat)=>Qu7 p x len rl (x.yh+i)
def US (a b:Int):List Int:=(List.range (b-a+1).toNat).map fun (i:Nat)=>a+i
theorem JW {a b x:Int}:x∈US a b↔a<=x/\x<=b:=by
 simp only[US,QJz,QJN];constructor
 ·omega
 intro h;exact ⟨(x-a).toNat,by omega,by omega⟩
theorem Wk (a b:Int):(US a b).Pairwise (·<·):=by
 unfold US;rw[List.pairwise_map];exact List.pairwise_lt_range.imp fun h=>by omega
def Xq:List Rod->List (List Int)
 | []=>[[]]
 | r::rs=>(US (r.long-r.z7) r.long).flatMap fun n=>(Xq rs).map (n::·)
theorem Qf1:∀ (l:List Rod) (w:List Int),w∈Xq l->w.length=l.length
 | [],w,h=>by simp[Xq] at h;simp[h]
 | r::rs,w,h=>by
   simp only[Xq,QJL,QJz] at h;obtain ⟨n,_,v,hv,rfl⟩:=h;simp[Qf1 rs v hv]
theorem Qeo:∀ (l:List Rod) (w:List Int),w∈Xq l->∀ (i:Nat) (h:i<l.length),l[i].long-l[i].z7<=w.getD i 0/\w.getD i 0<=l[i].long
 | [],w,h,i,hi=>by simp at hi
 | r::rs,w,h,i,hi=>by
   simp only[Xq,QJL,QJz] at h;obtain ⟨n,hn,v,hv,rfl⟩:=h;cases i with
   | zero=>simpa using JW.1 hn
   | succ i =>
     have:=Qeo rs v hv i (by simpa using hi)
     simpa using this
def Quo (p:Zl) (wh:Int) (w:List Int) (len:Int) (x:Q1):Bool:=decide (x.yg=wh)&&!QbO p x len (w.getD x.rod.toNat 0)
def wrU (p:Zl) (wh:Int) (w:List Int) (len:Int):Nat:=p.zj.countP (Quo p wh w len)
def XU (p:Zl):List Int:=US p.z8 p.z9
structure TrU where
 ya:Int
 yb:Int
 zi:List Int
def Qh1 (p:Zl) (t:TrU):Nat:=wrU p 1 t.zi t.ya+wrU p 2 t.zi t.yb
def Qz2 (p:Zl):List TrU:=(XU p).flatMap fun b=>(XU p).flatMap fun a=>(Xq p.zi).map fun w=>⟨b,a,w⟩
def qn (p:Zl):List TrU:=(Qz2 p).filter fun t=>decide ((Qh1 p t:Int)<=p.zh)
def QdZ (p:Zl) (wh:Int) (w:List Int) (n:Nat):List Int:=(XU p).filter fun len=>wrU p wh w len==n
def QaK (p:Zl) (wh:Int) (w:List Int):List Nat:=(List.range (p.zj.length+1)).filter fun n=>!(QdZ p wh w n).isEmpty
structure Grp where
 zh:Nat
 lens:List Int
def V0 (p:Zl) (wh:Int) (w:List Int):List Grp:=(QaK p wh w).map fun n=>⟨n,QdZ p wh w n⟩
structure Bun where
 zi:List Int
 ya:Grp
 yb:Grp
def Qdg (p:Zl):List Bun:=(Xq p.zi).flatMap fun w=>(V0 p 1 w).flatMap fun g=>(V0 p 2 w).map fun h=>⟨w,g,h⟩
def Vu (p:Zl):List Bun:=(Qdg p).filter fun x=>decide (((x.ya.zh+x.yb.zh:Nat):Int)<=p.zh)
theorem QeX {p:Zl} {t:TrU}:t∈qn p↔t.ya∈XU p/\t.yb∈XU p/\t.zi∈Xq p.zi/\(Qh1 p t:Int)<=p.zh:=by
 simp only[qn,Qz2,QJM,QJL,QJz,decide_eq_true_eq]
 grind
theorem QfX (p:Zl) (wh:Int) (w:List Int) (len:Int):wrU p wh w len<=p.zj.length:=QJ4
theorem Yf {p:Zl} {wh:Int} {w:List Int} {n:Nat} {len:Int}:len∈QdZ p wh w n↔len∈XU p/\wrU p wh w len=n:=by
 simp[QdZ,QJM]
theorem Ys {p:Zl} {wh:Int} {w:List Int} {g:Grp}:g∈V0 p wh w↔g.lens=QdZ p wh w g.zh/\g.lens≠[]:=by
 simp only[V0,QaK,QJz,QJM,QJN];constructor
 ·grind
 rintro ⟨h1,h2⟩
 refine ⟨g.zh,⟨?_,?_⟩,by rw[<- h1]⟩
 ·obtain ⟨x,hx⟩:=QJ9 _ h2
  rw[h1] at hx;have:=QfX p wh w x;have:=(Yf.1 hx).2;omega
 grind
theorem WM {p:Zl} {x:Bun}:x∈Vu p↔x.zi∈Xq p.zi/\x.ya∈V0 p 1 x.zi/\x.yb∈V0 p 2 x.zi/\((x.ya.zh+x.yb.zh:Nat):Int)<=p.zh:=by
 simp only[Vu,Qdg,QJM,QJL,QJz,decide_eq_true_eq]
 grind
theorem J2 {p:Zl} {t:TrU} (h:t∈qn p):∃ x∈Vu p,x.zi=t.zi/\t.ya∈x.ya.lens/\t.yb∈x.yb.lens:=by
 obtain ⟨hb,ha,hw,hn⟩:=QeX.1 h;have h1:t.ya∈QdZ p 1 t.zi (wrU p 1 t.zi t.ya):=Yf.2 ⟨hb,rfl⟩;have h2:t.yb∈QdZ p 2 t.zi (wrU p 2 t.zi t.yb):=Yf.2 ⟨ha,rfl⟩
 exact ⟨⟨t.zi,⟨_,QdZ p 1 t.zi (wrU p 1 t.zi t.ya)⟩,⟨_,QdZ p 2 t.zi (wrU p 2 t.zi t.yb)⟩⟩,
  WM.2 ⟨hw,Ys.2 ⟨rfl,List.ne_nil_of_mem h1⟩,Ys.2 ⟨rfl,List.ne_nil_of_mem h2⟩,hn⟩,rfl,h1,h2⟩
theorem YP {p:Zl} {x:Bun} (h:x∈Vu p) {b a:Int} (hb:b∈x.ya.lens) (ha:a∈x.yb.lens):⟨b,a,x.zi⟩∈qn p:=by
 obtain ⟨hw,hg,hh,hn⟩:=WM.1 h;have h1:=(Ys.1 hg).1;have h2:=(Ys.1 hh).1;rw[h1] at hb;rw[h2] at ha;obtain ⟨hb1,hb2⟩:=Yf.1 hb;obtain ⟨ha1,ha2⟩:=Yf.1 ha;refine QeX.2 ⟨hb1,ha1,hw,?_⟩;simp only[Qh1,hb2,ha2];exact hn
theorem ZJ {p:Zl} {x:Bun} (h:x∈Vu p):x.ya.lens.Pairwise (·<·)/\x.yb.lens.Pairwise (·<·)/\x.ya.lens≠[]/\x.yb.lens≠[]:=by
 obtain ⟨_,hg,hh,_⟩:=WM.1 h;have h1:=Ys.1 hg;have h2:=Ys.1 hh;refine ⟨?_,?_,h1.2,h2.2⟩
 ·rw[h1.1];exact (Wk _ _).filter _
 rw[h2.1];exact (Wk _ _).filter _
theorem QaS {p:Zl}:Vu p=[]↔qn p=[]:=by
 constructor
 ·intro h
  refine List.eq_nil_iff_forall_not_mem.2 fun t ht=>?_
  obtain ⟨x,hx,_⟩:=J2 ht
  grind
 ·intro h
  refine List.eq_nil_iff_forall_not_mem.2 fun x hx=>?_
  obtain ⟨_,_,h1,h2⟩:=ZJ hx;obtain ⟨b,hb⟩:=QJ9 _ h1;obtain ⟨a,ha⟩:=QJ9 _ h2;have:=YP hx hb ha
  grind
theorem Quq {l:List Int} (h:l.Pairwise (·<·)) (hne:l≠[]):l.head hne∈l/\l.getLast hne∈l/\∀ x∈l,l.head hne<=x/\x<=l.getLast hne:=by
 refine ⟨List.head_mem hne,List.getLast_mem hne,fun x hx=>⟨?_,?_⟩⟩
 ·cases l with
  | nil=>cases hx
  | cons a r =>
    rcases QJw.1 hx with rfl | hx
    ·grind
    exact Int.le_of_lt (List.rel_of_pairwise_cons h hx)
 ·obtain ⟨i,hi,rfl⟩:=QJR hx
  rw[List.getLast_eq_getElem];rcases Nat.lt_or_eq_of_le (Nat.le_sub_one_of_lt hi) with h1 | h1
  ·exact Int.le_of_lt (QKh.1 h i _ hi (by omega) h1)
  grind
def Xk (l:List Int):Int:=l.headD 0
def Z2 (l:List Int):Int:=l.getLastD 0
theorem Xa {l:List Int} (h:l.Pairwise (·<·)) (hne:l≠[]):Xk l∈l/\Z2 l∈l/\∀ x∈l,Xk l<=x/\x<=Z2 l:=by
 have:=Quq h hne
 have e1:Xk l=l.head hne:=by cases l with
  | cons a r=>rfl
  | _=>grind
 have e2:Z2 l=l.getLast hne:=by cases l with
  | cons a r =>
    unfold Z2
    grind
  | _=>grind
 grind
theorem QvY {l:List Int} {a b:Int} (hne:l≠[]) (ha:a∈l) (hb:b∈l) (h:∀ x∈l,a<=x/\x<=b):span l=(a,b):=by
 have h1:=Uj (fun x:Int=>x) l a ha
 have h2:=Uj (fun x:Int=>x) l b hb
 have h3:=QvX (fun x:Int=>x) a l hne (fun x hx=>(h x hx).1)
 have h4:=QvW (fun x:Int=>x) b l hne (fun x hx=>(h x hx).2)
 simp only[List.map_id'] at h1 h2 h3 h4
 grind
def QaG (t:TrU):Int:=t.yb-t.ya
def loB (x:Bun):Int:=Xk x.yb.lens-Z2 x.ya.lens
def hiB (x:Bun):Int:=Z2 x.yb.lens-Xk x.ya.lens
def Qev (p:Zl):Int × Int:=((span ((Vu p).map loB)).1,(span ((Vu p).map hiB)).2)
theorem Qib (p:Zl):Qev p=span ((qn p).map QaG):=by
 by_cases hn:qn p=[]
 ·have:=QaS.2 hn
  simp[Qev,hn,this]
 ·have hb:Vu p≠[]:=fun h=>hn (QaS.1 h)
  have xb:(Vu p).map loB≠[]:=by simpa using hb
  have hhi:(Vu p).map hiB≠[]:=by simpa using hb
  have h1:=(QeB _ xb).1;have h2:=(QeB _ hhi).2
  symm
  obtain ⟨x,hx,ex⟩:=QJz.1 h1;obtain ⟨y,hy,ey⟩:=QJz.1 h2;obtain ⟨s1,s2,s3,s4⟩:=ZJ hx;obtain ⟨s5,s6,s7,s8⟩:=ZJ hy;refine QvY (by simpa using hn) ?_ ?_ ?_
  ·refine QJz.2 ⟨_,YP hx (Xa s1 s3).2.1 (Xa s2 s4).1,?_⟩
   rw[<- ex];rfl
  ·refine QJz.2 ⟨_,YP hy (Xa s5 s7).1 (Xa s6 s8).2.1,?_⟩
   rw[<- ey];rfl
  ·intro z hz
   obtain ⟨t,ht,rfl⟩:=QJz.1 hz;obtain ⟨u,hu,_,hub,hua⟩:=J2 ht;obtain ⟨u1,u2,u3,u4⟩:=ZJ hu;have e1:=(Xa u1 u3).2.2 _ hub;have e2:=(Xa u2 u4).2.2 _ hua;have f1:=(Uj loB _ _ hu).1;have f2:=(Uj hiB _ _ hu).2;simp only[loB,hiB,QaG] at *;omega
def XG (b a part:Int):Bool:=decide (1000*(a-b)<=part*b)
theorem QdY {b a b' a' part:Int} (hp:0<=part) (hb:b<=b') (ha:a'<=a) (h:XG b a part=true):XG b' a' part=true:=by
 simp only[XG,decide_eq_true_eq] at *;have:part*b<=part*b':=QKk hb hp;omega
def QdW (p:Zl) (part:Int):Int :=
 if (Vu p).all fun x=>XG (Xk x.ya.lens) (Z2 x.yb.lens) part then 1 else if (Vu p).any fun x=>XG (Z2 x.ya.lens) (Xk x.yb.lens) part then 3 else 2
theorem Qo6 (p:Zl) (part:Int) (hp:0<=part):QdW p part=if (qn p).all fun t=>XG t.ya t.yb part then 1 else if (qn p).any fun t=>XG t.ya t.yb part then 3 else 2:=by
 have e1:((Vu p).all fun x=>XG (Xk x.ya.lens) (Z2 x.yb.lens) part)=((qn p).all fun t=>XG t.ya t.yb part):=by
  rw[Bool.eq_iff_iff];simp only[QJX];constructor
  ·intro h t ht
   obtain ⟨u,hu,_,hub,hua⟩:=J2 ht;obtain ⟨u1,u2,u3,u4⟩:=ZJ hu;exact QdY hp ((Xa u1 u3).2.2 _ hub).1 ((Xa u2 u4).2.2 _ hua).2 (h u hu)
  intro h x hx;obtain ⟨u1,u2,u3,u4⟩:=ZJ hx;exact h _ (YP hx (Xa u1 u3).1 (Xa u2 u4).2.1)
 have e2:((Vu p).any fun x=>XG (Z2 x.ya.lens) (Xk x.yb.lens) part)=((qn p).any fun t=>XG t.ya t.yb part):=by
  rw[Bool.eq_iff_iff];simp only[List.any_eq_true];constructor
  ·rintro ⟨x,hx,h⟩
   obtain ⟨u1,u2,u3,u4⟩:=ZJ hx;exact ⟨_,YP hx (Xa u1 u3).2.1 (Xa u2 u4).1,h⟩
  rintro ⟨t,ht,h⟩
  obtain ⟨u,hu,_,hub,hua⟩:=J2 ht;obtain ⟨u1,u2,u3,u4⟩:=ZJ hu;exact ⟨u,hu,QdY hp ((Xa u1 u3).2.2 _ hub).2 ((Xa u2 u4).2.2 _ hua).1 h⟩
 unfold QdW;rw[e1,e2]
def QJc (p:Zl):Option Nat:=(List.range 1001).find? fun (i:Nat)=>decide (QdW p i=1)
def Qv8 (p:Zl) (rod:Nat):List Int:=ZC ((Vu p).map fun x=>x.zi.getD rod 0)
theorem QoD {p:Zl} {rod:Nat} {n:Int}:n∈Qv8 p rod↔∃ t∈qn p,t.zi.getD rod 0=n:=by
 unfold Qv8;rw[YW,QJz];constructor
 ·rintro ⟨x,hx,e⟩
  obtain ⟨_,_,h1,h2⟩:=ZJ hx;obtain ⟨b,hb⟩:=QJ9 _ h1;obtain ⟨a,ha⟩:=QJ9 _ h2;exact ⟨_,YP hx hb ha,e⟩
 rintro ⟨t,ht,e⟩
 obtain ⟨x,hx,h1,_⟩:=J2 ht
 grind
end Go.Pf
namespace Go.Pf
open Go
set_option maxRecDepth 8000
abbrev Txt:=List UInt8
def QiH (w:Txt):Option Int :=
 if w.head?=some 45 then
  (if (w.drop 1).length<=9/\(w.drop 1).head?≠some 48 then (Lib.decNat (w.drop 1)).map fun (m:Nat) => -(m:Int) else none)
 else if w.length<=9/\(w.head?=some 48->w.length<=1) then (Lib.decNat w).map fun (m:Nat)=>(m:Int) else none
theorem QhB (u:Nat):Lib.decDigits u≠[]:=by
 rw[Lib.decDigits];split<;>simp
theorem Wn:∀ (l:Txt) (acc m:Nat) (c:UInt8),Lib.decFrom acc l=some m->Lib.decFrom acc (l++[c])=(Lib.digitVal c).map fun d=>m*10+d
 | [],acc,m,c,h=>by
   cases h;simp only[QJ0,Lib.decFrom]
   grind
 | b::r,acc,m,c,h=>by
   simp only[QJ2,Lib.decFrom] at h |-;cases hb:Lib.digitVal b with
   | some d =>
     rw[hb] at h;exact Wn r _ m c h
   | _=>grind
theorem QcE {d:Nat} (h:d<10):Lib.digitVal (UInt8.ofNat (48+d))=some d:=by
 have:(UInt8.ofNat (48+d)).toNat=48+d:=by simp;omega
 unfold Lib.digitVal
 grind
theorem Qde (u:Nat):Lib.decFrom 0 (Lib.decDigits u)=some u:=by
 induction u using Nat.strongRecOn with
 | ind u ih =>
   rw[Lib.decDigits];split
   ·rename_i h
    have:=QcE h;simp only[Lib.decFrom,this];simp
   rename_i h;rw[Wn _ _ _ _ (ih (u / 10) (by omega)),QcE (by omega)]
   simp;omega
theorem W4 (u:Nat):Lib.decNat (Lib.decDigits u)=some u:=by
 unfold Lib.decNat;rw[if_neg (by simpa[List.isEmpty_iff] using QhB u),Qde]
theorem Wg (u:Nat):∃ d,d<10/\(Lib.decDigits u).head?=some (UInt8.ofNat (48+d))/\(d=0->u=0):=by
 induction u using Nat.strongRecOn with
 | ind u ih =>
   rw[Lib.decDigits];split
   ·rename_i h
    exact ⟨u,h,by simp,id⟩
   rename_i h;obtain ⟨d,h1,h2,h3⟩:=ih (u / 10) (by omega)
   grind
theorem Qr0 {d:Nat} (h:d<10):UInt8.ofNat (48+d)≠45:=by
 intro e;have:=congrArg UInt8.toNat e;simp at this;omega
theorem QdJ {d:Nat} (h:d<10) (e:UInt8.ofNat (48+d)=48):d=0:=by
 have:=congrArg UInt8.toNat e;simp at this;omega
theorem qS:∀ (n:Nat) (l:Txt),l.length=n->∀ u,Lib.decNat l=some u->(l.head?=some 48->l.length<=1)->Lib.decDigits u=l
 | 0,l,hl,u,h,_=>by
   have:=QJu hl;subst this;cases h
 | n+1,l,hl,u,h,hz=>by
   have hne:l≠[]:=fun e=>by grind
   obtain ⟨r,c,rfl⟩:∃ r c,l=r++[c]:=⟨l.dropLast,l.getLast hne,(QKm hne).symm⟩
   have hr:r.length=n:=by simpa using hl
   have h':Lib.decFrom 0 (r++[c])=some u:=by
    unfold Lib.decNat at h
    grind
   have hdv:∀ d,Lib.digitVal c=some d->d<10/\c=UInt8.ofNat (48+d):=fun d hd=>by
    unfold Lib.digitVal at hd;split at hd
    ·rename_i hc
     injection hd with hd
     refine ⟨by omega,UInt8.toNat_inj.1 ?_⟩
     simp;omega
    cases hd
   cases hm:Lib.decFrom 0 r with
   | none =>
     exfalso
     have:∀ (l:Txt) (acc:Nat),Lib.decFrom acc l=none->Lib.decFrom acc (l++[c])=none:=by
      intro l
      induction l with
      | nil=>intro acc h;cases h
      | cons b t ih =>
        intro acc h;simp only[QJ2,Lib.decFrom] at h |-
        grind
     grind
   | some m =>
     rw[Wn r 0 m c hm,QJm] at h';obtain ⟨d,hd,rfl⟩:=h';obtain ⟨hd10,rfl⟩:=hdv d hd;by_cases hr0:r=[]
     ·subst hr0
      cases hm;rw[Lib.decDigits];simp[hd10]
     ·have hpos:0<r.length:=QJQ.2 hr0
      have hhead:r.head?≠some 48:=fun e=>by
       grind
      have hm':Lib.decNat r=some m:=by
       unfold Lib.decNat
       grind
      have ih:=qS n r hr m hm' (fun e=>absurd e hhead)
      have hm0:m≠0:=fun e=>by
       subst e;have e1:Lib.decDigits 0=[48]:=by rw[Lib.decDigits];rfl
       grind
      rw[Lib.decDigits,dif_neg (by omega)]
      grind
theorem Qow {w:Txt} {v:Int} (h:QiH w=some v):Lib.itoa v=w/\(Lib.trimPrefix w [45]).length<=9/\Lib.atoiAll w=.ok v:=by
 unfold QiH at h;split at h
 ·rename_i h45
  obtain ⟨r,rfl⟩:∃ r,w=45::r:=by
   cases w with
   | _=>grind
  simp only[List.drop_succ_cons,List.drop_zero] at h;split at h
  ·rename_i hc
   rw[QJm] at h;obtain ⟨m,hm,rfl⟩:=h;have hd:=qS _ r rfl m hm (fun e=>absurd e hc.2)
   have hm1:1<=m:=by
    rcases Nat.eq_zero_or_pos m with h0 | h0
    ·subst h0
     exfalso;have e1:Lib.decDigits 0=[48]:=by rw[Lib.decDigits];rfl
     grind
    exact h0
   refine ⟨by rw[Lib.itoa_neg m hm1,hd],by simp[Lib.trimPrefix,Lib.hasPrefix,hc.1],?_⟩
   rw[Lib.atoiAll_short _ (by simp;omega)]
   simp[Lib.atoi,hm,Lib.NumEnd.ofOption]
  cases h
 ·rename_i h45
  split at h
  ·rename_i hc
   rw[QJm] at h;obtain ⟨m,hm,rfl⟩:=h;have hd:=qS _ w rfl m hm hc.2;obtain ⟨d,hd10,hh,_⟩:=Wg m;rw[hd] at hh;refine ⟨by rw[Lib.itoa_nonneg,hd],?_,?_⟩
   ·have:Lib.hasPrefix w [45]=false:=by
     cases w with
     | nil=>rfl
     | cons a r =>
       have:a≠45:=fun e=>h45 (by rw[e];rfl)
       simp[Lib.hasPrefix,List.isPrefixOf,Ne.symm this]
    simp[Lib.trimPrefix,this,hc.1]
   rw[Lib.atoiAll_short _ (by omega)]
   cases w with
   | nil=>cases hm
   | cons a r =>
     have e45:a≠45:=fun e=>h45 (by rw[e];rfl)
     have e43:a≠43:=fun e=>by
      subst e;simp at hh;have:=congrArg UInt8.toNat hh;simp at this;omega
     simp[Lib.atoi,e45,e43,hm,Lib.NumEnd.ofOption]
  ·cases h
theorem QoU {w:Txt} {v:Int} (h1:Lib.itoa v=w) (h2:(Lib.trimPrefix w [45]).length<=9):QiH w=some v:=by
 unfold Lib.itoa at h1;split at h1
 ·rename_i hv
  subst h1;obtain ⟨d,hd10,hh,h0⟩:=Wg v.natAbs
  have hz:(Lib.decDigits v.natAbs).head?≠some 48:=fun e=>by
   rw[hh] at e;injection e with e
   have:=h0 (QdJ hd10 e);omega
  have hl:(Lib.decDigits v.natAbs).length<=9:=by simpa[Lib.trimPrefix,Lib.hasPrefix] using h2
  simp[QiH,hz,hl,W4];omega
 rename_i hv;subst h1;obtain ⟨d,hd10,hh,h0⟩:=Wg v.toNat
 have h45:(Lib.decDigits v.toNat).head?≠some 45:=fun e=>by
  rw[hh] at e;injection e with e
  exact Qr0 hd10 e
 have hp:Lib.hasPrefix (Lib.decDigits v.toNat) [45]=false:=by
  cases hw:Lib.decDigits v.toNat with
  | nil=>rfl
  | cons a r =>
    have:a≠45:=fun e=>h45 (by rw[hw,e];rfl)
    simp[Lib.hasPrefix,List.isPrefixOf,Ne.symm this]
 have hl:(Lib.decDigits v.toNat).length<=9:=by simpa[Lib.trimPrefix,hp] using h2
 have h48:(Lib.decDigits v.toNat).head?=some 48->(Lib.decDigits v.toNat).length<=1:=fun e=>by
  rw[hh] at e;injection e with e
  have:=h0 (QdJ hd10 e);rw[this,Lib.decDigits];simp
 unfold QiH;rw[if_neg h45,if_pos ⟨hl,h48⟩,W4];simp;omega
end Go.Pf
namespace Go.Pf
open Go Go.Ev Go.Proofs Go.RowKit Go.Proofs.Tryz
set_option maxRecDepth 8000
structure Qi where
 ze:Qe
 zq:Zl
@[simp] def hoC (h:Qi):List IV:=[QG h.ze.zc.za,QD h.ze.zc.zg,.int .i64 h.ze.zc.zh,ZD h.ze.zb.zd,.int .i64 h.ze.zb.zr,.int .i64 h.ze.zb.zu,.int .i64 h.ze.zb.zw,Ud h.ze.zb.zk,.int .i64 h.ze.zb.zh,
 Jv h.ze.zf,.int .i64 h.ze.zo,.int .i64 h.ze.z6,.int .i64 h.zq.yc,.int .i64 h.zq.z8,.int .i64 h.zq.z9,Qip h.zq.zi,Qam h.zq.zj,.int .i64 h.zq.zh]
@[simp] def hoV (h:Qi):IV:=.agg (hoC h)
def okH (h:Qi):Prop:=OkP h.ze/\OkU h.zq
noncomputable instance (h:Qi):Decidable (okH h):=Classical.propDecidable _
def QcZ:Txt:=[121,101,115]
def tNo:Txt:=[110,111]
def QnY:Txt:=[110,111,110,101]
def Qh9:Txt:=[119,104,97,116]
def QnX:Txt:=[115,117,114,101,108,121]
def QuK:Txt:=[110,101,118,101,114]
def Qk7:Txt:=[112,101,114,104,97,112,115]
def YH:List Txt->Txt
 | []=>[]
 | [x]=>x
 | x::y::r=>x++32::YH (y::r)
def Jf (l:List Int):Txt:=if l=[] then QnY else YH (l.map Lib.itoa)
def YE (l:List Int) (e:Int):Txt:=if e=0 then Jf l else if e=3 then QnY else tNo
def QdP (n e:Int):Txt:=if e=0 then (if n=1 then QnX else if n=2 then QuK else Qk7) else YE [] e
inductive QfQ where
 | weld | cut | turn | prove | undo | see | balance | read
 | who | wher | first | pulls | z5 | loads | y7 | y6 | y8 | opn | good | worth | zm | stretch | best | holds | zi
 deriving DecidableEq
def UL:List (Txt × Nat × QfQ):=[
 ([119,101,108,100],4,.weld),([99,117,116],2,.cut),([116,117,114,110],0,.turn),([112,114,111,118,101],3,.prove),([117,110,100,111],0,.undo),
 ([115,101,101],5,.see),([98,97,108,97,110,99,101],4,.balance),([114,101,97,100],7,.read),
 ([119,104,111],1,.who),([119,104,101,114,101],1,.wher),([102,105,114,115,116],0,.first),([112,117,108,108,115],2,.pulls),([98,114,111,107,101],1,.z5),
 ([108,111,97,100,115],1,.loads),([102,97,105,108,117,114,101,115],0,.y7),([99,111,110,100,101,109,110,101,100],0,.y6),([112,114,111,118,101,100],1,.y8),
 ([111,112,101,110],0,.opn),([103,111,111,100],0,.good),([119,111,114,116,104],0,.worth),([119,101,105,103,104,116],0,.zm),([115,116,114,101,116,99,104],0,.stretch),
 ([98,101,115,116],0,.best),([104,111,108,100,115],1,.holds),([114,111,100,115],1,.zi)]
def VE (w:Txt):Option (Nat × QfQ):=(UL.find? fun p=>p.1==w).map (·.2)
def nI (l:List Int) (i:Nat):Int:=l.getD i 0
def Qk (h:Qi) (d:Qu):Qi:={ h with ze:={ h.ze with zc:={ h.ze.zc with za:=h.ze.zc.za++[d] } } }
def Qfs (h:Qi) (v:QfQ) (l:List Int):Option Qi :=
 match v with
 | .weld=>some (Qk h ⟨1,nI l 0,nI l 1,nI l 2,nI l 3⟩)
 | .cut=>some (Qk h ⟨2,nI l 0,nI l 1,0,0⟩)
 | .turn=>some (Qk h ⟨3,0,0,0,0⟩)
 | .prove=>some { h with ze:={ h.ze with zc:={ h.ze.zc with za:=h.ze.zc.za++[⟨4,0,0,0,0⟩] },zf:=h.ze.zf++[⟨nI l 0,nI l 1,nI l 2⟩] } }
 | .undo=>match h.ze.zc.za.getLast? with
   | none=>none
   | some d=>some { h with ze:={ h.ze with zc:={ h.ze.zc with za:=h.ze.zc.za.dropLast },zf:=if d.zp=4 then h.ze.zf.dropLast else h.ze.zf } }
 | .see=>some { h with ze:={ h.ze with zc:={ h.ze.zc with zg:=h.ze.zc.zg++[⟨nI l 0,nI l 1,nI l 2,nI l 3,nI l 4⟩] } } }
 | .balance=>some { h with ze:={ h.ze with zb:={ h.ze.zb with zk:=h.ze.zb.zk++[⟨nI l 0,nI l 1,nI l 2,nI l 3⟩] } } }
 | .read=>some { h with zq:={ h.zq with zj:=h.zq.zj++[⟨nI l 0,nI l 1,nI l 2,nI l 3,nI l 4,nI l 5,nI l 6⟩] } }
 | _=>none
def Uw:QfQ->Bool
 | .weld | .cut | .turn | .prove | .undo | .see | .balance | .read=>true
 | _=>false
def Zv (out:List Txt) (c:UInt8):List Txt:=if c=32 then out++[[]] else out.set (out.length-1) (out.getD (out.length-1) []++[c])
def spl (s:Txt):List Txt:=s.foldl Zv [[]]
@[simp] def strs (l:List Txt):IV:=.sl 1 (l.map fun s=>[.str s])
theorem QmR (x:List Txt) (l:Txt) (c:UInt8):Zv (x++[l]) c=x++Zv [l] c:=by
 unfold Zv
 grind
theorem Qie (s:Txt):∀ (x:List Txt) (l:Txt),s.foldl Zv (x++[l])=x++s.foldl Zv [l]:=by
 induction s with
 | nil=>intro x l;rfl
 | cons c s ih =>
   intro x l;simp only[QKd];rw[QmR];by_cases h:c=32
   ·have e:Zv [l] c=[l]++[[]]:=by simp[Zv,h]
    grind
   have e:Zv [l] c=[l++[c]]:=by simp[Zv,h]
   rw[e,ih]
theorem QuM (s:Txt):∀ l:Txt,s.foldl Zv [l]≠[]:=by
 induction s with
 | nil=>intro l;simp
 | cons c s ih =>
   intro l;simp only[QKd];by_cases h:c=32
   ·have e:Zv [l] c=[l]++[[]]:=by simp[Zv,h]
    rw[e,Qie];simp
   have e:Zv [l] c=[l++[c]]:=by simp[Zv,h]
   grind
theorem VH (a b:Txt):spl (a++32::b)=spl a++spl b:=by
 unfold spl;rw[QKO];have h:=QuM a [];generalize a.foldl Zv [[]]=x at *;obtain ⟨y,l,rfl⟩:∃ y l,x=y++[l]:=⟨x.dropLast,x.getLast h,(QKm h).symm⟩
 simp only[QKd];have e:Zv (y++[l]) 32=(y++[l])++[[]]:=by simp[Zv]
 rw[e,Qie]
theorem Uh (a:Txt) (h:32 ∉ a):spl a=[a]:=by
 have:∀ (a l:Txt),32 ∉ a->a.foldl Zv [l]=[l++a]:=by
  intro a
  induction a with
  | nil=>intro l _;simp
  | cons c s ih =>
    intro l h;simp only[QJw,not_or] at h;have e:Zv [l] c=[l++[c]]:=by simp[Zv,Ne.symm h.1]
    grind
 have:=this a [] h;simpa[spl] using this
theorem Ye (s:Txt):spl (32::s)=[]::spl s:=by
 have:=VH [] s;simpa[spl] using this
theorem QrI (s:Txt):∀ l:Txt,s.foldl Zv [l]=(l++(spl s).headD [])::(spl s).tail:=by
 induction s with
 | nil=>intro l;simp[spl]
 | cons c s ih =>
   intro l;by_cases h:c=32
   ·subst h
    rw[Ye,QKd];have e:Zv [l] 32=[l]++[[]]:=by simp[Zv]
    rw[e,Qie];simp[spl]
   have e:∀ l,Zv [l] c=[l++[c]]:=fun l=>by simp[Zv,h]
   rw[QKd,e,ih]
   have:spl (c::s)=([c]++(spl s).headD [])::(spl s).tail:=by
    unfold spl
    grind
   grind
theorem QeA (c:UInt8) (s:Txt) (h:c≠32):spl (c::s)=(c::(spl s).headD [])::(spl s).tail:=by
 have e:Zv [[]] c=[[c]]:=by simp[Zv,h]
 unfold spl;rw[QKd,e,QrI];rfl
theorem Qdt:∀ s:Txt,Lib.splitK [32] 0 (Lib.count s [32]) s=spl s
 | []=>by
   rw[Lib.count_miss (by simp[Lib.index])]
   rfl
 | c::s=>by
   have ih:=Qdt s;by_cases h:c=32
   ·subst h
    have hix:Lib.index ((32:UInt8)::s) [32]=0:=by rw[Lib.index];grind
    rw[Lib.count_cons_eq,Nat.add_comm,Lib.splitK,hix,Ye,<- ih];simp
   rw[Lib.count_cons_ne c 32 s h,QeA c s h,<- ih];have hp:([32]:List UInt8).isPrefixOf (c::s)=false:=by grind
   have hix:Lib.index (c::s) [32]=if Lib.index s [32] == -1 then -1 else Lib.index s [32]+1:=by rw[Lib.index,hp];simp
   cases hk:Lib.count s [32] with
   | zero=>simp[Lib.splitK]
   | succ k =>
     have hm:¬ Lib.index s [32] = -1:=fun e=>by rw[Lib.count_miss e] at hk;cases hk
     have hge:=Lib.index_ge s [32];obtain ⟨j,hj⟩:∃ j:Nat,Lib.index s [32]=j:=⟨(Lib.index s [32]).toNat,by omega⟩
     have h1:¬ ((j:Int) == -1)=true:=by simp
     have h2:¬ ((j:Int)+1 == -1)=true:=by simp;omega
     have h3:((j:Int)+1).toNat=j+1:=by omega
     simp only[Lib.splitK,hix,hj,if_neg h1,if_neg h2,h3,Int.toNat_natCast];simp
theorem Qid:∀ s:Txt,(spl s).length<=s.length+1
 | []=>by simp[spl]
 | c::s=>by
   have ih:=Qid s;by_cases h:c=32
   ·subst h;rw[Ye];simp;exact ih
   rw[QeA c s h];simp;omega
theorem Qf6 (s:Txt):∀ x∈spl s,x.length<=s.length:=by
 induction s with
 | nil=>intro x hx;simp[spl] at hx;subst hx;simp
 | cons c s ih =>
   intro x hx;by_cases h:c=32
   ·subst h
    rw[Ye] at hx
    grind
   rw[QeA c s h] at hx;rcases QJw.1 hx with rfl | hx
   ·cases hs:spl s with
    | _=>grind
   have:=ih x (List.mem_of_mem_tail hx);simp;omega
end Go.Pf
