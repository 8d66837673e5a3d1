/- The program's machines. -/
import Derived.Test.YtidcmjicfnjcjaaGreatRefTwo
import Derived.Test.YtidcmjicfnjcjaaGreatLays
import Derived.Ground.SlgnProg
import Derived.Shelf.SlicesE.Clone
set_option linter.all false

namespace Go.Pf
open Go Go.Ev Go.Proofs Go.RowKit
set_option maxRecDepth 8000
@[simp] def stC (s:List Int) (leak below:Int):List IV:=[.int .i64 (s.getD 0 0),.int .i64 (s.getD 1 0),.int .i64 (s.getD 2 0),.int .i64 leak,.int .i64 below]
@[simp] def wkC (m:Machine):List IV:=[leversV m.levers,.int .i64 m.water,.int .i64 m.llo,.int .i64 m.lhi,balsV m.bals,.int .i64 m.wrong,.int .i64 (above m)]
def accFrom {α:Type} (pc:Nat→List α):Nat→Nat→List α
 | _,0=>[]
 | i,k+1=>pc i++accFrom pc (i+1) k
theorem accFrom_acc {α:Type} (pc:Nat→List α):∀ k i,acc pc i++accFrom pc i k=acc pc (i+k)
 | 0,i=>by simp[accFrom]
 | k+1,i=>by
   have:=accFrom_acc pc k (i+1)
   rw[acc_succ] at this
   have e:i+(k+1)=i+1+k:=by omega
   rw[accFrom,← List.append_assoc,this,e]
theorem acc_from {α:Type} (pc:Nat→List α) (n:Nat):acc pc n=accFrom pc 0 n:=by
 have:=accFrom_acc pc n 0
 simp only[acc_zero,List.nil_append,Nat.zero_add] at this
 exact this.symm
def itemS (m:Machine) (s:Setting):List IV:=[.agg (stC s.shorts s.leak (den s)),.int .i64 (wrongsS m m.bals s)]
section
variable {K:World→Prop} (hK:∀ w w',K w→Below w.heap.size w w'→K w')
include hK
theorem good155 (m:Machine) (s:Setting) (w mn:Int) (hm:OkM m) (hl:inR s.leak m.llo m.lhi) (hw:inR w 0 9999) (hmn:inR mn 0 99):Ev.Good Tryz.prog K 155 [.ptr (wkC m),.agg (stC s.shorts s.leak (den s)),.int .i64 w,.int .i64 mn] (.int .i64 (pullN m s.leak w mn)):=by
 refine good_of_wp hK c155_ok (by simp) ?_
 have hp:=hm.pull hl hw hmn
 have h3:=hm.water
 simp only[inR] at h3 hw
 have e0:(w+if mn*s.leak<m.water then m.water-mn*s.leak else 0)=pullN m s.leak w mn:=by
  simp only[pullN]
  split<;>omega
 simp[e0]
 (repeat' first | omega | (with_reducible apply And.intro) | intro _)
theorem good179 (m:Machine) (hm:OkM m):Ev.Good Tryz.prog K 179 [maV m] (.ptr (wkC m)):=by
 refine good_of_wp hK c179_ok (by simp) ?_
 have hl:=hm.len
 simp
 (repeat' first | omega | (with_reducible apply And.intro) | intro _)
 refine loop_q (fun i=>[(3,AV.loc 8 0),(10,AV.iv (leversV m.levers)),(11,AV.iv (.int .i64 m.levers.length)),(12,AV.iv (IV.int IntKind.i64 (i:Nat)))])
  (fun i=>[(8,AO.box [.iv (leversV m.levers),.iv (.int .i64 m.water),.iv (.int .i64 m.llo),.iv (.int .i64 m.lhi),.iv (balsV m.bals),.iv (.int .i64 m.wrong),.iv (.int .i64 (prodF (·.long) (m.levers.take i)))])]) m.levers.length (fun i=>True) trivial ?_ ?_
 ·intro _
  rw[LoopAt_enter c179_b0.eq_1]
  rw[List.take_length]
  simp[above]
 ·intro i hi _ ih
  have l1:=hm.longs (i+1)
  rw[prodF_take _ _ _ hi] at ih l1
  rw[LoopAt_enter c179_b0.eq_1]
  simp[hi] at ih l1 ⊢
  (repeat' first | omega | (with_reducible apply And.intro) | intro _)
theorem good212 (m:Machine) (s:Setting) (b:Balance) (hm:OkM m) (hs:okS m s) (hb:b∈m.bals):Ev.Good Tryz.prog K 212 [.ptr (wkC m),.agg (stC s.shorts s.leak (den s)),.agg (baC b)] (.bool (rightS m s b)):=by
 refine good_of_wp hK c212_ok (by simp) ?_
 have h:=hm.bal hb
 simp
 refine callK_of (good155 hK m s b.weight b.mins hm hs.2.1 h.1 h.2.1) (.inl rfl) ?_
 have h1:=hm.numB hs h.1 h.2.1
 have h2:=hm.denB hs
 have h3:=h.2.2
 simp only[inR] at h3
 have h4:=Int.mul_le_mul h3.1.2 h2.2 (by omega) (by omega)
 have h5:=Int.mul_nonneg h3.1.1 (Int.le_trans (by omega) h2.1)
 have hr:rightS m s b=decide (num m s b.weight b.mins-b.load*den s≤b.off*den s ∧ -(num m s b.weight b.mins-b.load*den s)≤b.off*den s):=rfl
 have hnum:pullN m s.leak b.weight b.mins*above m=num m s b.weight b.mins:=rfl
 rw[hr]
 simp[hnum]
 have key:∀ d:Int,0≤d→(d≤b.off*den s↔(d.tdiv (den s)<b.off∨(d.tdiv (den s)=b.off∧d.tmod (den s)=0))):=fun d hd=>by
  rw[Int.tdiv_eq_ediv_of_nonneg hd,Int.tmod_eq_emod_of_nonneg hd]
  have e1:=Int.emod_def d (den s)
  have e2:=Int.emod_nonneg d (b:=den s) (by omega)
  have e3:=Int.emod_lt_of_pos d (b:=den s) (by omega)
  constructor
  ·intro hle
   have h6:d / den s≤b.off:=by
    have:=Int.ediv_le_ediv (c:=den s) (by omega) hle
    rwa [Int.mul_ediv_cancel _ (by omega)] at this
   rcases Int.lt_or_eq_of_le h6 with h7 | h7
   ·exact .inl h7
   ·refine .inr ⟨h7,?_⟩
    rw[h7,Int.mul_comm] at e1
    omega
  ·rintro (h7 | ⟨h7,h8⟩)
   ·have h9:(d / den s+1)*den s≤b.off*den s:=Int.mul_le_mul_of_nonneg_right (by omega) (by omega)
    rw[Int.add_mul,Int.mul_comm] at h9
    omega
   ·rw[h7,h8,Int.mul_comm] at e1
    omega
 have hd0:¬ den s=0:=by omega
 generalize num m s b.weight b.mins=N at *
 generalize b.load*den s=L at *
 have hD : -1000000000000000000≤N-L∧N-L≤1000000000000000000:=by omega
 generalize hDe:N-L=D at *
 have hO:=Int.mul_nonneg h3.2.1 (show 0≤den s by omega)
 by_cases hneg:D<0
 ·have hk:=key (-D) (by omega)
  have htd:=tdiv_bd (a := -D) (b:=den s) (by omega) h2.1
  have ht2:=Int.tmod_nonneg (den s) (a := -D) (by omega)
  generalize b.off*den s=O at *
  rw[Int.neg_tdiv] at htd hk
  rw[Int.neg_tmod] at ht2 hk
  simp[hneg,hd0]
  generalize D.tdiv (den s)=Q at *
  generalize D.tmod (den s)=R at *
  (repeat' first | omega | (with_reducible apply And.intro) | intro _)
  all_goals (by_cases r1:R=0<;>by_cases r2:D≤O<;>by_cases r3 : -D≤O<;>simp[r1,r2,r3]<;>omega)
 ·have hk:=key D (by omega)
  have htd:=tdiv_bd (a:=D) (b:=den s) (by omega) h2.1
  have ht2:=Int.tmod_nonneg (den s) (a:=D) (by omega)
  generalize b.off*den s=O at *
  simp[hneg,hd0]
  generalize D.tdiv (den s)=Q at *
  generalize D.tmod (den s)=R at *
  (repeat' first | omega | (with_reducible apply And.intro) | intro _)
  all_goals (by_cases r1:R=0<;>by_cases r2:D≤O<;>by_cases r3 : -D≤O<;>simp[r1,r2,r3]<;>omega)
end
end Go.Pf

/- The program's settings: the iterators of levers. -/
namespace Go.Pf
open Go Go.Ev Go.Proofs Go.RowKit
set_option maxRecDepth 8000
section
variable {K:World→Prop} (hK:∀ w w',K w→Below w.heap.size w w'→K w')
include hK
theorem iter200_last (m:Machine) (hm:OkM m) (first:List Int) (leak0:Int) (hlen:first.length=m.levers.length) (hr:∀ i (h:i<m.levers.length) (h':i<first.length),inR first[i] m.levers[i].lo m.levers[i].hi) :
  IterY Tryz.prog K 200 [.ptr (wkC m),.agg (stC first leak0 (prodF id first)),.int .i64 first.length] [] ((setsAll m first []).map (itemS m)) (fun b=>.bool b):=by
 intro s b s' hf
 refine goodx_of_wp c200_ok (by simp) hf.v rfl ?_
 rw[setsAll_nil,acc_from] at hf
 have hlk:=hm.leak
 have hlh:=hm.lhi
 simp only[inR] at hlk
 simp[hlen]
 (repeat' first | omega | (with_reducible apply And.intro) | intro _)
 have e0:AV.iv (IV.int .i64 m.llo)=AV.iv (.int .i64 (m.llo+((0:Nat):Int))):=by simp
 refine loop_i (m.lhi+1-m.llo).toNat (fun i e o=>∃ si,e=[(0,AV.iv (.ptr (wkC m))),(3,AV.cb 0),(5,AV.loc 5 0)]∧o=[(0,.ext si),(5,.box [.iv (.int .i64 (first.getD 0 0)),.iv (.int .i64 (first.getD 1 0)),.iv (.int .i64 (first.getD 2 0)),.iv (.int .i64 (m.llo+(i:Nat))),.iv (.int .i64 (prodF id first))])] ∧
  Feeds Tryz.prog K ((accFrom (pieceA m first) i ((m.lhi+1-m.llo).toNat-i)).map (itemS m)) si b s') ?_ ?_ _ _ ⟨s,rfl,by simp,by simpa using hf⟩
 ·rintro e o ⟨si,rfl,rfl,hfd⟩
  have q1:m.llo+((m.lhi+1-m.llo).toNat:Int)=m.lhi+1:=by omega
  have q2:¬ m.lhi+1≤m.lhi:=by omega
  rw[Nat.sub_self] at hfd
  cases hfd
  rw[q1,LoopAt_enter c200_b2.eq_1]
  simp[q2]
 ·rintro i e o hi ⟨si,rfl,rfl,hfd⟩ ih
  have q1:m.llo+(i:Int)≤m.lhi:=by omega
  have q3:m.llo+((i:Int)+1)=m.llo+i+1:=by omega
  have hos:okS m ⟨first,m.llo+i⟩:=⟨hlen,by simp only[inR];omega,hr⟩
  have e1:(m.lhi+1-m.llo).toNat-i=((m.lhi+1-m.llo).toNat-(i+1))+1:=by omega
  rw[e1] at hfd
  simp only[accFrom,pieceA,List.map_append,List.map_cons,List.map_nil,List.singleton_append] at hfd
  have hbl:=hm.blen
  rw[LoopAt_enter c200_b2.eq_1]
  simp[q1]
  (repeat' first | omega | (with_reducible apply And.intro) | intro _)
  refine loop_q (fun k=>[(0,AV.iv (.ptr (wkC m))),(3,AV.cb 0),(5,AV.loc 5 0),(11,AV.iv (IV.int IntKind.i64 (wrongsS m (m.bals.take k) ⟨first,m.llo+i⟩:Nat))),(87,AV.iv (balsV m.bals)),(88,AV.iv (.int .i64 m.bals.length)),(89,AV.iv (IV.int IntKind.i64 (k:Nat)))])
   (fun k=>[(0,.ext si),(5,.box [.iv (.int .i64 (first.getD 0 0)),.iv (.int .i64 (first.getD 1 0)),.iv (.int .i64 (first.getD 2 0)),.iv (.int .i64 (m.llo+(i:Nat))),.iv (.int .i64 (prodF id first))])]) m.bals.length (fun i=>True) trivial ?_ ?_
  ·intro _
   rw[LoopAt_enter c200_b1.eq_1]
   simp
   have hit:itemS m ⟨first,m.llo+i⟩=[.agg (stC first (m.llo+i) (prodF id first)),.int .i64 (wrongsS m m.bals ⟨first,m.llo+i⟩)]:=rfl
   rw[hit] at hfd
   cases hfd with
   | stop _ _ _ _ hg =>
     refine callB_of (by simpa using hg) rfl ?_
     simp
   | next _ _ _ s1 _ _ hg hr2 =>
     refine callB_of (by simpa using hg) rfl ?_
     simp
     (repeat' first | omega | (with_reducible apply And.intro) | intro _)
     exact ih _ _ ⟨s1,rfl,by simp[q3],hr2⟩
  ·intro k hk _ ih2
   have hle:=wrongsS_le m (m.bals.take k) ⟨first,m.llo+i⟩
   simp at hle
   rw[LoopAt_enter c200_b1.eq_1]
   rw[wrongsS_succ _ _ _ _ hk] at ih2
   simp[hk] at ih2 ⊢
   have hg:=good212 hK m ⟨first,m.llo+i⟩ m.bals[k] hm hos (List.getElem_mem hk)
   refine callK_of (by simpa[den] using hg) (.inl rfl) ?_
   cases hrr:rightS m ⟨first,m.llo+i⟩ m.bals[k]
   ·simp[hrr] at ih2 ⊢
    (repeat' first | omega | (with_reducible apply And.intro) | intro _)
   ·simp[hrr] at ih2 ⊢
    (repeat' first | omega | (with_reducible apply And.intro) | intro _)
theorem iter200 (m:Machine) (hm:OkM m):∀ (n:Nat) (first:List Int),first.length+n=m.levers.length→(∀ i (h:i<m.levers.length) (h':i<first.length),inR first[i] m.levers[i].lo m.levers[i].hi) →
  IterY Tryz.prog K 200 [.ptr (wkC m),.agg (stC first 0 (prodF id first)),.int .i64 first.length] [] ((setsAll m first (m.levers.drop first.length)).map (itemS m)) (fun b=>.bool b)
 | 0,first,hn,hr=>by
   have e1:m.levers.drop first.length=[]:=List.drop_eq_nil_of_le (by omega)
   rw[e1]
   exact iter200_last hK m hm first 0 (by omega) hr
 | n+1,first,hn,hr=>by
   have ihn:=iter200 m hm n
   have hlt:first.length<m.levers.length:=by omega
   have hl3:=hm.len
   have e1:m.levers.drop first.length=m.levers[first.length]::m.levers.drop (first.length+1):=List.drop_eq_getElem_cons hlt
   have hlv:=hm.lever (List.getElem_mem hlt)
   rw[e1,setsAll_cons]
   have hpb:∀ x:Int,inR x m.levers[first.length].lo m.levers[first.length].hi→1≤prodF id (first++[x])∧prodF id (first++[x])≤1000000000:=fun x hx=>by
    refine prodF_bd3 _ _ (fun a ha=>?_) (by simp;omega)
    simp only[inR] at hx
    rcases List.mem_append.1 ha with ha | ha
    ·obtain ⟨k,hk,rfl⟩:=List.getElem_of_mem ha
     have h1:=hr k (by omega) hk
     have h2:=hm.lever (List.getElem_mem (show k<m.levers.length by omega))
     simp only[inR,id] at *
     omega
    ·rw[List.mem_singleton.1 ha];simp only[id];omega
   have ih2:∀ i:Nat,m.levers[first.length].lo+(i:Int)≤m.levers[first.length].hi→IterY Tryz.prog K 200 [.ptr (wkC m),.agg (stC (first++[m.levers[first.length].lo+(i:Int)]) 0 (prodF id (first++[m.levers[first.length].lo+(i:Int)]))),.int .i64 (first.length+1:Nat)] []
     (((fun i:Nat=>setsAll m (first++[m.levers[first.length].lo+(i:Nat)]) (m.levers.drop (first.length+1))) i).map (itemS m)) (fun b=>.bool b):=fun i hi=>by
    have:=ihn (first++[m.levers[first.length].lo+(i:Int)]) (by simp;omega) (fun k h h'=>by
     rcases Nat.lt_or_ge k first.length with hk | hk
     ·rw[List.getElem_append_left hk];exact hr k h hk
     ·have:k=first.length:=by simp at h';omega
      subst this
      simp only[List.getElem_append_right (Nat.le_refl _),Nat.sub_self,List.getElem_cons_zero,inR]
      omega)
    simpa only[List.length_append,List.length_cons,List.length_nil,Nat.zero_add] using this
   generalize (fun i:Nat=>setsAll m (first++[m.levers[first.length].lo+(i:Nat)]) (m.levers.drop (first.length+1)))=pc at *
   intro s b s' hf
   refine goodx_of_wp c200_ok (by simp) hf.v rfl ?_
   rw[acc_from] at hf
   have hlt':(first.length:Int)<m.levers.length:=by omega
   simp[hlt]
   (repeat' first | omega | (with_reducible apply And.intro) | intro _)
   refine loop_i (m.levers[first.length].hi+1-m.levers[first.length].lo).toNat (fun i e o=>∃ si,e=[(0,AV.iv (.ptr (wkC m))),(2,AV.iv (IV.int IntKind.i64 (first.length:Nat))),(3,AV.cb 0),(5,AV.loc 5 0),(9,AV.iv (.int .i64 (m.levers[first.length].lo+(i:Nat))))] ∧
    o=[(0,.ext si),(5,.box [.iv (.int .i64 (first.getD 0 0)),.iv (.int .i64 (first.getD 1 0)),.iv (.int .i64 (first.getD 2 0)),.iv (.int .i64 0),.iv (.int .i64 (prodF id first))])] ∧
    Feeds Tryz.prog K ((accFrom pc i ((m.levers[first.length].hi+1-m.levers[first.length].lo).toNat-i)).map (itemS m)) si b s') ?_ ?_ _ _ ⟨s,by simp,by simp,by simpa using hf⟩
   ·rintro e o ⟨si,rfl,rfl,hfd⟩
    have q1:m.levers[first.length].lo+((m.levers[first.length].hi+1-m.levers[first.length].lo).toNat:Int)=m.levers[first.length].hi+1:=by omega
    have q2:¬ m.levers[first.length].hi+1≤m.levers[first.length].hi:=by omega
    rw[Nat.sub_self] at hfd
    cases hfd
    rw[q1,LoopAt_enter c200_b0.eq_1]
    simp[hlt,q2]
   ·rintro i e o hi ⟨si,rfl,rfl,hfd⟩ ih
    have q1:m.levers[first.length].lo+(i:Int)≤m.levers[first.length].hi:=by omega
    have q3:m.levers[first.length].lo+((i:Int)+1)=m.levers[first.length].lo+i+1:=by omega
    have e1:(m.levers[first.length].hi+1-m.levers[first.length].lo).toNat-i=((m.levers[first.length].hi+1-m.levers[first.length].lo).toNat-(i+1))+1:=by omega
    rw[e1] at hfd
    simp only[accFrom,List.map_append] at hfd
    have hg:=ih2 i q1
    have hb:=hpb (m.levers[first.length].lo+(i:Int)) (by simp only[inR];omega)
    have hpr:prodF id (first++[m.levers[first.length].lo+(i:Int)])=prodF id first*(m.levers[first.length].lo+(i:Int)):=prodF_app _ _ _
    rw[hpr] at hg hb
    rw[LoopAt_enter c200_b0.eq_1]
    have hcase:(∃ s1 b1,Feeds Tryz.prog K ((pc i).map (itemS m)) si b1 s1∧(b1=true→Feeds Tryz.prog K ((accFrom pc (i+1) ((m.levers[first.length].hi+1-m.levers[first.length].lo).toNat-(i+1))).map (itemS m)) s1 b s')∧(b1=false→b=false∧s1=s')):=by
     rcases Feeds.append hfd with ⟨s1,h1,h2⟩ | ⟨h1,h2⟩
     ·exact ⟨s1,true,h1,fun _=>h2,fun c=>by cases c⟩
     ·exact ⟨s',false,h2,fun c=>(by cases c),fun _=>⟨h1,rfl⟩⟩
    obtain ⟨s1,b1,f1,f2,f3⟩:=hcase
    have hgx:=hg _ _ _ f1
    have hfl:first=[]∨(∃ a,first=[a])∨∃ a c,first=[a,c]:=by
     match first,hlt,hl3 with
     | [],_,_=>exact .inl rfl
     | [a],_,_=>exact .inr (.inl ⟨a,rfl⟩)
     | [a,c],_,_=>exact .inr (.inr ⟨a,c,rfl⟩)
     | _::_::_::_,h,h'=>simp at h;omega
    rcases hfl with rfl | ⟨a,rfl⟩ | ⟨a,c,rfl⟩
    all_goals
     try simp only[List.length_nil,List.length_cons,Nat.zero_add,Nat.reduceAdd] at hlt
     try simp only[List.length_nil,List.length_cons,Nat.zero_add,Nat.reduceAdd] at q1
     try simp only[List.length_nil,List.length_cons,Nat.zero_add,Nat.reduceAdd] at q3
     try simp only[List.length_nil,List.length_cons,Nat.zero_add,Nat.reduceAdd] at hb
     try simp only[List.length_nil,List.length_cons,Nat.zero_add,Nat.reduceAdd] at hgx
     try simp only[List.length_nil,List.length_cons,Nat.zero_add,Nat.reduceAdd] at ih
     try simp only[List.length_nil,List.length_cons,Nat.zero_add,Nat.reduceAdd] at f2
     try simp only[List.length_nil,List.length_cons,Nat.zero_add,Nat.reduceAdd] at hlt'
     try simp only[List.length_nil,List.length_cons,Nat.zero_add,Nat.reduceAdd] at hlv
     try simp only[List.length_nil,List.length_cons,Nat.zero_add,Nat.reduceAdd]
     simp[q1,hlt]
     (repeat' first | omega | (with_reducible apply And.intro) | intro _)
     refine callX_of (by simpa using hgx) rfl ?_
     cases b1
     ·obtain ⟨rfl,rfl⟩:=f3 rfl
      simp
     ·simp
      (repeat' first | omega | (with_reducible apply And.intro) | intro _)
      exact ih _ _ ⟨s1,by simp[q3],by simp,f2 rfl⟩
end
section
variable {K:World→Prop}
def stI (s:Setting):List IV:=[.agg (stC s.shorts s.leak (den s))]
theorem rounds154 {m:Machine} {ks:Env} (hks:keepE [2,3] [0,3] ks=[(2,.iv (.ptr [.ptr (wkC m)])),(3,.loc 3 0)]) :
  ∀ (Ls:List Setting) (s:Ext) (b:Bool) (s':Ext),Feeds Tryz.prog K ((Ls.filter fun t=>decide ((wrongsS m m.bals t:Int)≤m.wrong)).map stI) s b s' →
   ∃ wy,(wy=.fall∨wy=.ret)∧Rnds Tryz.prog K [8,9] c154_b0a c154_b0 [2,3] [0,3] (keepE [2,3] [0,3] ks) (Ls.map (itemS m)) [(0,.ext s),(3,.box [.cb 0])] wy [(0,.ext s'),(3,.box [.cb 0])]
 | [],s,b,s',h=>by
   cases h
   exact ⟨.fall,.inl rfl,.nil _⟩
 | t::Ls,s,b,s',h=>by
   by_cases ht:(wrongsS m m.bals t:Int)≤m.wrong
   ·rw[List.filter_cons_of_pos (by simpa using ht)] at h
    cases h with
    | stop _ _ _ _ hg =>
      refine ⟨.ret,.inr rfl,.stop _ _ _ _ _ (by simp) ?_⟩
      rw[hks]
      refine ⟨rfl,?_⟩
      simp[itemS,c154_b0a,c154_b0,ht]
      refine callB_of (by simpa[stI] using hg) rfl ?_
      simp
    | next _ _ _ s1 _ _ hg hr =>
      obtain ⟨wy,h1,h2⟩:=rounds154 hks Ls s1 b s' hr
      refine ⟨wy,h1,.next _ _ _ _ _ _ ?_ h2⟩
      rw[hks]
      refine ⟨rfl,?_⟩
      simp[itemS,c154_b0a,c154_b0,ht]
      refine callB_of (by simpa[stI] using hg) rfl ?_
      simp
   ·rw[List.filter_cons_of_neg (by simpa using ht)] at h
    obtain ⟨wy,h1,h2⟩:=rounds154 hks Ls s b s' h
    refine ⟨wy,h1,.next _ _ _ _ _ _ ?_ h2⟩
    rw[hks]
    refine ⟨rfl,?_⟩
    simp[itemS,c154_b0a,c154_b0,ht]
theorem setsL_filter (m:Machine):setsL m [] m.levers=(setsAll m [] m.levers).filter fun t=>decide ((wrongsS m m.bals t:Int)≤m.wrong):=by
 unfold setsL
 refine List.filter_congr fun s hs=>?_
 have:=setsAll_ok hs
 simp[isSet,this]
end
section
variable {K:World→Prop} (hK:∀ w w',K w→Below w.heap.size w w'→K w')
include hK
theorem iter180 (m:Machine) (hm:OkM m):IterX Tryz.prog K 180 [.ptr (wkC m)] [] ((setsAll m [] m.levers).map (itemS m)):=by
 intro s b s' hf
 have h:=iter200 hK m hm m.levers.length [] (by simp) (fun i h h'=>by simp at h')
 simp only[List.length_nil,List.drop_zero] at h
 have hgx:=h _ _ _ hf
 refine goodx_of_wp c180_ok (by simp) hf.v rfl ?_
 simp
 refine callX_of (by simpa[prodF] using hgx) rfl ?_
 simp
theorem iter154 (m:Machine) (hm:OkM m):IterX Tryz.prog K 154 [.ptr (wkC m)] [] ((setsL m [] m.levers).map stI):=by
 intro s b s' hfd
 refine goodx_of_wp c154_ok (by simp) hfd.v rfl ?_
 rw[setsL_filter] at hfd
 obtain ⟨wy,h1,h2⟩:=rounds154 (m:=m) (ks:=[(2,.iv (.ptr [.ptr (wkC m)])),(3,.loc 3 0)]) rfl (setsAll m [] m.levers) s b s' hfd
 simp
 refine Wp_range (wy:=wy) (o':=[(0,.ext s'),(3,.box [.cb 0])]) rfl (by kernel_rfl) (iter180 hK m hm) (by simpa using h2) ?_
 rcases h1 with rfl | rfl<;>simp
theorem good153 (m:Machine) (is:Bool) (hl:m.levers.length≤1000) (hb:m.bals.length≤1000):Ev.Good Tryz.prog K 153 [maV m,.bool is] (.tup [if tE m is=0 then .ptr (wkC m) else .nilp,.int .i64 (tE m is)]):=by
 refine good_of_wp hK c153_ok (by simp) ?_
 simp
 refine callK_of (good81 hK m hl hb) (.inl rfl) ?_
 by_cases h1:OkM m
 ·cases is
  ·simp[h1,tE]
  ·simp[h1]
   refine callK_of (good179 hK m h1) (.inl rfl) ?_
   simp
   cases hL:setsL m [] m.levers with
   | nil =>
     refine Wp_range (wy:=.fall) (o':=[(4,.box [.iv .nilp]),(5,.box [.iv (.int .i64 0)]),(7,.box [.iv (.ptr (wkC m))])]) rfl (by kernel_rfl) (iter154 hK m h1) (by rw[hL];simpa using Rnds.nil _) ?_
     simp[tE,h1,hL]
   | cons a r =>
     refine Wp_range (wy:=.ret) (o':=[(4,.box [.iv (.ptr (wkC m))]),(5,.box [.iv (.int .i64 0)]),(7,.box [.iv (.ptr (wkC m))])]) rfl (by kernel_rfl) (iter154 hK m h1) (by
      rw[hL]
      refine .stop _ _ _ _ _ (by simp) ?_
      refine ⟨rfl,?_⟩
      simp[stI,c153_b0a,c153_b0]) ?_
     simp[tE,h1,hL]
 ·simp[h1,tE]
theorem good168 (m:Machine) (hl:m.levers.length≤1000) (hb:m.bals.length≤1000) (hs:OkM m→sets m m.levers.length≤1000000):Ev.Good Tryz.prog K 168 [maV m] (.tup [.int .i64 (tL m true).length,.int .i64 (tE m true)]):=by
 refine good_of_wp hK c168_ok (by simp) ?_
 simp
 refine callK_of (good153 hK m true hl hb) (.inl rfl) ?_
 by_cases he:tE m true=0
 ·obtain ⟨hm,_,htl,hne⟩:=tE_ok he
  have hln:=setsL_le hm
  have hln2:=hs hm
  simp[he,htl]
  refine Wp_range (wy:=.fall) (o':=[(2,.box [.iv (.int .i64 ((setsL m [] m.levers).length:Nat))])]) rfl (by kernel_rfl) (iter154 hK m hm) ?_ ?_
  ·have:=Rnds.all (P:=Tryz.prog) (K:=K) (ps:=[15]) (asn:=c168_b0a) (body:=c168_b0) (ks:=[2]) (ids:=[2]) (eK:=[(2,.loc 2 0)]) ((setsL m [] m.levers).map stI) (fun i=>[(2,.box [.iv (.int .i64 (i:Int))])]) fun i x hi=>by
    simp only[List.getElem?_map,Option.map_eq_some_iff] at hi
    obtain ⟨y,hy,rfl⟩:=hi
    have hlt:=(List.getElem?_eq_some_iff.1 hy).1
    refine ⟨rfl,?_⟩
    simp[stI,c168_b0a,c168_b0]
    omega
   simpa using this
  ·simp
 ·have:tL m true=[]:=by
   unfold tE at he
   unfold tL
   split at he
   ·rename_i h1
    simp at he
    simp[h1,he]
   ·rename_i h1
    simp[h1]
  simp[he,this]
end
end Go.Pf

/- The program's loads and weights. -/
namespace Go.Pf
open Go Go.Ev Go.Proofs Go.RowKit
set_option maxRecDepth 8000
@[simp] theorem span_nil:span []=(0,0):=rfl
theorem tL_nil {m:Machine} {is:Bool} (h:¬ tE m is=0):tL m is=[]:=by
 unfold tE at h
 unfold tL
 split at h
 ·rename_i h1
  cases is
  ·simp
  ·simp at h
   simp[h1,h]
 ·rename_i h1
  simp[h1]
def lackS (m:Machine) (mn load:Int) (s:Setting):Int:=(load*den s+above m-1).tdiv (above m)-pullN m s.leak 0 mn
def mostW (m:Machine) (mn load:Int) (l:List Setting):Int:=l.foldl (fun b s=>max b (lackS m mn load s)) 0
section
variable {K:World→Prop} (hK:∀ w w',K w→Below w.heap.size w w'→K w')
include hK
theorem good115 (m:Machine) (w mn:Int) (hl:m.levers.length≤1000) (hb:m.bals.length≤1000):Ev.Good Tryz.prog K 115 [maV m,.int .i64 w,.int .i64 mn] (.tup [.agg [.int .i64 (rLoad m w mn).1,.int .i64 (rLoad m w mn).2],.int .i64 (tE m (askB w mn 0))]):=by
 refine good_of_wp hK c115_ok (by simp) ?_
 simp
 refine callK_of (good137 hK w mn 0) (.inl rfl) ?_
 have hask:decide (inR w 0 9999∧inR mn 0 99∧inR 0 0 999999999)=askB w mn 0:=rfl
 rw[hask]
 simp
 refine callK_of (good153 hK m (askB w mn 0) hl hb) (.inl rfl) ?_
 unfold rLoad
 by_cases he:tE m (askB w mn 0)=0
 ·obtain ⟨hm,ha,htl,hne⟩:=tE_ok he
  have ha:=of_decide_eq_true ha
  rw[htl]
  simp[he]
  refine Wp_range (wy:=.fall) (o':=[(6,.box [.iv (.int .i64 0),.iv (.int .i64 0)]),(8,.box [.iv (.ptr (wkC m))]),(10,.box [.iv (.int .i64 (span ((setsL m [] m.levers).map (lowS m w mn))).1),.iv (.int .i64 (span ((setsL m [] m.levers).map (upS m w mn))).2)]),(11,.box [.iv (.bool (decide ((setsL m [] m.levers).length=0)))])]) rfl (by kernel_rfl) (iter154 hK m hm) ?_ ?_
  ·have hok:∀ s∈setsL m [] m.levers,okS m s:=fun s h=>(setsL_truth h).1
   generalize setsL m [] m.levers=l at *
   have:=Rnds.all (P:=Tryz.prog) (K:=K) (ps:=[30]) (asn:=c115_b0a) (body:=c115_b0) (ks:=[4,5,6,8,10,11]) (ids:=[6,8,10,11]) (eK:=[(4,.iv (.ptr [.int .i64 w])),(5,.iv (.ptr [.int .i64 mn])),(6,.loc 6 0),(8,.loc 8 0),(10,.loc 10 0),(11,.loc 11 0)]) (l.map stI)
    (fun i=>[(6,.box [.iv (.int .i64 0),.iv (.int .i64 0)]),(8,.box [.iv (.ptr (wkC m))]),(10,.box [.iv (.int .i64 (span ((l.take i).map (lowS m w mn))).1),.iv (.int .i64 (span ((l.take i).map (upS m w mn))).2)]),(11,.box [.iv (.bool (decide (i=0)))])]) fun i x hi=>by
    simp only[List.getElem?_map,Option.map_eq_some_iff] at hi
    obtain ⟨y,hy,rfl⟩:=hi
    obtain ⟨hlt,rfl⟩:=List.getElem?_eq_some_iff.1 hy
    have hsi:=hok _ (List.getElem_mem hlt)
    have hn:=hm.numB hsi ha.1 ha.2.1
    have hd:=hm.denB hsi
    have td1:=tdiv_bd hn.1 hd.1
    have td2:=tdiv_bd (a:=num m l[i] w mn+den l[i]-1) (b:=den l[i]) (by omega) (by omega)
    have hd0:¬ den l[i]=0:=by omega
    have hlow:lowS m w mn l[i]=(num m l[i] w mn).tdiv (den l[i]):=rfl
    have hup:upS m w mn l[i]=(num m l[i] w mn+den l[i]-1).tdiv (den l[i]):=rfl
    have hnum:pullN m l[i].leak w mn*above m=num m l[i] w mn:=rfl
    rw[List.take_succ_eq_append_getElem hlt,List.map_append,List.map_singleton,span_succ,List.map_append,List.map_singleton,span_succ]
    refine ⟨rfl,?_⟩
    have hg:=good155 hK m l[i] w mn hm hsi.2.1 ha.1 ha.2.1
    by_cases h0:i=0
    ·subst h0
     simp[stI,c115_b0a,c115_b0]
     refine callK_of (by simpa using hg) (.inl rfl) ?_
     simp[hnum,hd0,hlow,hup]
     (repeat' first | omega | (with_reducible apply And.intro) | intro _)
    ·have hne1:¬ (l.take i).map (lowS m w mn)=[]:=by
      intro c
      have hli:((l.take i).map (lowS m w mn)).length=i:=by simp;omega
      rw[c] at hli
      simp at hli
      omega
     have hne2:¬ (l.take i).map (upS m w mn)=[]:=by
      intro c
      have hli:((l.take i).map (upS m w mn)).length=i:=by simp;omega
      rw[c] at hli
      simp at hli
      omega
     rw[if_neg hne1,if_neg hne2]
     generalize span ((l.take i).map (lowS m w mn))=A at *
     generalize span ((l.take i).map (upS m w mn))=B at *
     simp[stI,c115_b0a,c115_b0,h0]
     refine callK_of (by simpa using hg) (.inl rfl) ?_
     simp[hnum,hd0,hlow,hup,min_if,max_if]
     (repeat' first | omega | (with_reducible apply And.intro) | intro _)
   simpa using this
  ·simp
 ·have:=tL_nil he
  simp[he,this]
end
end Go.Pf

/- The program's stories: sights, the last cable, the book. -/
namespace Go.Pf
open Go Go.Ev Go.Proofs Go.RowKit
set_option maxRecDepth 8000
def linksL (ds:List Deed):List Deed:=ds.filter isWeld
@[simp] def lkC (d:Deed):List IV:=[.int .i64 d.bar,.int .i64 d.smith]
@[simp] def storyC (ds:List Deed) (e:Nat→Int) (pm:IV):List IV:=[cabsV (cabs ds e ds.length),.sl 2 ((linksL ds).map lkC),pm]
theorem idxs_filter (p:Deed→Bool):∀ (l:List Deed) (i k:Nat),(l.filter p)[k]?=((idxs p l i)[k]?).bind fun j=>l[j-i]?
 | [],i,k=>by simp[idxs]
 | d::l,i,k=>by
   have ih:=idxs_filter p l (i+1)
   have hge:∀ j∈idxs p l (i+1),i+1≤j:=fun j hj=>(idxs_lt p l (i+1) j hj).1
   have sh:∀ k:Nat,((idxs p l (i+1))[k]?).bind (fun j=>l[j-(i+1)]?)=((idxs p l (i+1))[k]?).bind (fun j=>(d::l)[j-i]?):=fun k=>by
    cases hk:(idxs p l (i+1))[k]? with
    | none=>rfl
    | some j =>
      have:=hge j (List.mem_of_getElem? hk)
      have e:j-i=(j-(i+1))+1:=by omega
      simp only[Option.bind_some,e,List.getElem?_cons_succ]
   by_cases hp:p d=true
   ·simp only[List.filter_cons_of_pos hp,idxs,hp,if_true]
    cases k with
    | zero=>simp
    | succ k=>simp only[List.getElem?_cons_succ];rw[ih k,sh k]
   ·simp only[List.filter_cons_of_neg hp,idxs,hp]
    rw[ih k,sh k]
    simp
theorem linksL_len (ds:List Deed):(linksL ds).length=(welds ds).length:=by
 have:∀ (l:List Deed) (i:Nat),(l.filter isWeld).length=(idxs isWeld l i).length:=by
  intro l
  induction l with
  | nil=>intro i;rfl
  | cons d l ih =>
    intro i
    by_cases hp:isWeld d=true
    ·simp only[List.filter_cons_of_pos hp,idxs,hp,if_true,List.length_cons,ih (i+1)]
    ·simp only[List.filter_cons_of_neg hp,idxs,hp,ih (i+1)]
     simp
 exact this ds 0
theorem linksL_get (ds:List Deed) (k:Nat) (h:k<(linksL ds).length):(linksL ds)[k]=markD ds k:=by
 have h':k<(welds ds).length:=by rw[← linksL_len];exact h
 have h1:=idxs_filter isWeld ds 0 k
 have h2:(welds ds)[k]<ds.length:=welds_lt (List.getElem_mem h')
 have e:(idxs isWeld ds 0)[k]?=some (welds ds)[k]:=List.getElem?_eq_getElem h'
 rw[e] at h1
 simp only[Option.bind_some,Nat.sub_zero,List.getElem?_eq_getElem h2] at h1
 have h3:(linksL ds)[k]?=some ds[(welds ds)[k]]:=h1
 rw[List.getElem?_eq_getElem h] at h3
 injection h3 with h3
 rw[h3]
 simp[markD,List.getD_eq_getElem?_getD,h',h2]
section
variable {K:World→Prop} (hK:∀ w w',K w→Below w.heap.size w w'→K w')
include hK
theorem good203 (ds:List Deed) (e:Nat→Int) (pm:IV) (s:Sight) (hc:OkD ds ds.length) (hl:ds.length≤1000) (hs:isSightS s ds):Ev.Good Tryz.prog K 203 [.agg (storyC ds e pm),.agg (sC s)] (.bool (rightE ds e s)):=by
 refine good_of_wp hK c203_ok (by simp) ?_
 obtain ⟨s1,s2,s3,s4,s5⟩:=hs
 simp only[inR] at s1 s2 s3
 have hlt:s.after.toNat<ds.length+1:=by omega
 have hcl:=cab_len e hc s.after.toNat (by omega) (by omega)
 have hcg:=cabs_get ds e ds.length s.after.toNat (by omega)
 have hcb:=hc.cnt s.after.toNat (by omega) (by omega)
 have hclt:=cab_lt ds e s.after.toNat
 have hww:=wn_welds ds s.after.toNat
 have hp:(if s.frm=1 then ((cab ds e s.after.toNat).length:Int)-1-s.pos else s.pos)=(plc s.pos s.frm (cab ds e s.after.toNat).length:Nat):=by
  unfold plc
  split<;>omega
 have hpl:plc s.pos s.frm (cab ds e s.after.toNat).length<(cab ds e s.after.toNat).length:=plc_lt (by omega)
 simp[hlt,hcg]
 (repeat' first | omega | (with_reducible apply And.intro) | intro _)
 refine callK_of (good214 hK s.pos s.frm (cab ds e s.after.toNat).length (by omega) (by omega)) (.inl rfl) ?_
 rw[hp]
 have hr:rightE ds e s=rightC ds s (cab ds e s.after.toNat):=rfl
 rw[hr]
 unfold rightC
 generalize plc s.pos s.frm (cab ds e s.after.toNat).length=at_ at *
 generalize cab ds e s.after.toNat=now at *
 have h1:now[at_]<(linksL ds).length:=by
  have:=hclt now[at_] (List.getElem_mem hpl)
  rw[linksL_len];omega
 have hm:markD ds (now.getD at_ 0)=(linksL ds)[now[at_]]:=by
  rw[linksL_get ds _ h1]
  simp[List.getD_eq_getElem?_getD,hpl]
 rw[hm]
 simp[hpl,h1]
 generalize (linksL ds)[now[at_]]=D at *
 by_cases b1:s.bar<0<;>by_cases b2:s.bar=D.bar<;>by_cases b3:s.smith<0<;>by_cases b4:s.smith=D.smith<;>simp[b1,b2,b3,b4]<;>omega
theorem good186 (ds:List Deed) (e:Nat→Int) (pm:IV) (ss:List Sight) (hc:OkD ds ds.length) (hl:ds.length≤1000) (hs:∀ s∈ss,isSightS s ds) (hsl:ss.length≤1000):Ev.Good Tryz.prog K 186 [.agg (storyC ds e pm),sightsV ss] (.int .i64 (wrongsE ds ss e)):=by
 refine good_of_wp hK c186_ok (by simp) ?_
 simp
 intro _
 refine loop_q (fun i=>[(2,AV.iv (.ptr (storyC ds e pm))),(5,AV.iv (IV.int IntKind.i64 (wrongsE ds (ss.take i) e:Nat))),(8,AV.iv (sightsV ss)),(9,AV.iv (.int .i64 ss.length)),(10,AV.iv (IV.int IntKind.i64 (i:Nat)))]) (fun _=>[]) ss.length (fun i=>True) trivial ?_ ?_
 ·intro _
  rw[LoopAt_enter c186_b0.eq_1]
  simp
 ·intro i hi _ ih
  have hle:=wrongsE_le ds (ss.take i) e
  simp at hle
  rw[LoopAt_enter c186_b0.eq_1]
  rw[wrongsE_succ _ _ _ _ hi] at ih
  simp[hi] at ih ⊢
  have hg:=good203 hK ds e pm ss[i] hc hl (hs _ (List.getElem_mem hi))
  refine callK_of (by simpa using hg) (.inl rfl) ?_
  cases hr:rightE ds e ss[i]
  ·simp[hr] at ih ⊢
   (repeat' first | omega | (with_reducible apply And.intro) | intro _)
  ·simp[hr] at ih ⊢
   (repeat' first | omega | (with_reducible apply And.intro) | intro _)
theorem good120 (ds:List Deed) (e:Nat→Int) (pm:IV) (hl:ds.length≤1000):Ev.Good Tryz.prog K 120 [.agg (storyC ds e pm)] (natsI (cab ds e ds.length)):=by
 refine good_of_wp hK c120_ok (by simp) ?_
 have hcg:=cabs_get ds e ds.length ds.length (by omega)
 simp[hcg]
 (repeat' first | omega | (with_reducible apply And.intro) | intro _)
theorem good217 (left all n:Int) (h : -1000000≤left∧left≤1000000):Ev.Good Tryz.prog K 217 [.int .i64 left,.int .i64 all,.ptr [.int .i64 n]] (.bool (decide (inR n 0 (left-1)))):=by
 refine good_of_wp hK c217_ok (by simp) ?_
 simp
 (repeat' first | omega | (with_reducible apply And.intro) | intro _)
 exact callK_of (good130 hK _ _ _) (.inl rfl) (by simp)
theorem good204 (n:Int):Ev.Good Tryz.prog K 204 [.int .i64 n] (.clo 217 [] [.ptr [.int .i64 n]]):=by
 refine good_of_wp hK c204_ok (by simp) ?_
 simp
theorem good187 (a b:Int):Ev.Good Tryz.prog K 187 [.int .i64 a,.int .i64 b] (.bool true):=by
 refine good_of_wp hK c187_ok (by simp) ?_
 simp
theorem good205 (ds:List Deed) (e:Nat→Int) (pm:IV) (hl:ds.length≤1000) (n:Nat) (hn:n<(cab ds e ds.length).length):Ev.Good Tryz.prog K 205 [.agg (storyC ds e pm),.ptr [.int .i64 n]] (.int .i64 ((cab ds e ds.length)[n]:Nat)):=by
 refine good_of_wp hK c205_ok (by simp) ?_
 simp
 have hg:=good120 hK ds e pm hl
 refine callK_of (by simpa using hg) (.inl rfl) ?_
 simp[hn]
end
end Go.Pf

/- The program's book: which ends are open. -/
namespace Go.Pf
open Go Go.Ev Go.Proofs Go.RowKit
set_option maxRecDepth 8000
def isEith (d:Deed):Bool:=decide (d.frm=2)
def bitK:List Nat→Nat→List (MK × IV)
 | [],_=>[]
 | j::t,r=>(.int .i64 (j:Nat),.int .i64 (r:Nat))::bitK t (r+1)
theorem bitK_app (j:Nat):∀ (l:List Nat) (r:Nat),bitK (l++[j]) r=bitK l r++[(.int .i64 (j:Nat),.int .i64 ((r+l.length:Nat):Int))]
 | [],r=>by simp[bitK]
 | a::l,r=>by
   have e:r+1+l.length=r+(l.length+1):=by omega
   simp only[List.cons_append,bitK,bitK_app j l (r+1),List.length_cons,e]
@[simp] theorem bitK_len:∀ (l:List Nat) (r:Nat),(bitK l r).length=l.length
 | [],_=>rfl
 | _::l,r=>by simp[bitK,bitK_len l (r+1)]
theorem bitK_fresh (j:Nat):∀ (l:List Nat) (r:Nat),j ∉ l→∀ y:IV,mins (.int .i64 (j:Nat)) y (bitK l r)=bitK l r++[(.int .i64 (j:Nat),y)]
 | [],_,_,y=>rfl
 | a::l,r,h,y=>by
   have h1:¬ a=j:=fun c=>h (by simp[c])
   have h2:=bitK_fresh j l (r+1) (fun c=>h (by simp[c])) y
   have h3:¬ (MK.int .i64 (a:Nat)=MK.int .i64 (j:Nat)):=by simp;omega
   simp only[bitK,mins,h3,if_false,h2,List.cons_append]
theorem bitK_find (j:Nat):∀ (l:List Nat) (r:Nat),j∈l→mfind (.int .i64 (j:Nat)) (bitK l r)=some (.int .i64 ((r+l.idxOf j:Nat):Int))
 | a::l,r,h=>by
   by_cases h1:a=j
   ·subst h1;simp[bitK,mfind]
   ·have h2:j∈l:=by
     rcases List.mem_cons.1 h with h | h
     ·exact absurd h.symm h1
     ·exact h
    have h3:¬ (MK.int .i64 (a:Nat)=MK.int .i64 (j:Nat)):=by simp;omega
    have e:r+1+l.idxOf j=r+(l.idxOf j+1):=by omega
    have hi:(a::l).idxOf j=l.idxOf j+1:=by
     have hb:(a==j)=false:=by simpa using h1
     simp[List.idxOf_cons,hb]
    simp only[bitK,mfind,h3,if_false,bitK_find j l (r+1) h2,hi,e]
theorem bitK_kinds:∀ (l:List Nat) (r:Nat),kindsOk (some .i64) (bitK l r)
 | [],_=>trivial
 | _::l,r=>⟨rfl,bitK_kinds l (r+1)⟩
def eiths (ds:List Deed):List Nat:=idxs isEith ds 0
theorem eiths_twos (ds:List Deed):(eiths ds).length=twos ds:=by
 have:∀ (l:List Deed) (i:Nat),(idxs isEith l i).length=twos l:=by
  intro l
  induction l with
  | nil=>intro i;rfl
  | cons d l ih =>
    intro i
    by_cases h:d.frm=2
    ·simp[idxs,isEith,h,ih,twos,List.countP_cons]
    ·simp[idxs,isEith,h,ih,twos,List.countP_cons]
 exact this ds 0
@[simp] def bookC (c:Chain):List IV:=[deedsV c.deeds,sightsV c.sights,.int .i64 c.wrong,.map (bitK (eiths c.deeds) 0)]
section
variable {K:World→Prop} (hK:∀ w w',K w→Below w.heap.size w w'→K w')
include hK
theorem good184 (c:Chain) (hl:c.deeds.length≤1000):Ev.Good Tryz.prog K 184 [chV c] (.agg (bookC c)):=by
 refine good_of_wp hK c184_ok (by simp) ?_
 simp
 intro _
 refine loop_q (fun i=>[(2,AV.loc 2 0),(3,AV.loc 3 0),(10,AV.iv (deedsV c.deeds)),(11,AV.iv (.int .i64 c.deeds.length)),(12,AV.iv (IV.int IntKind.i64 (i:Nat)))])
  (fun i=>[(2,.box [.iv (.sl 5 []),.iv (.sl 5 []),.iv (.int .i64 0),.iv (.map [])]),(3,.box [.iv (deedsV c.deeds),.iv (sightsV c.sights),.iv (.int .i64 c.wrong),.oref 7]),(7,.mapd (bitK (idxs isEith (c.deeds.take i) 0) 0))]) c.deeds.length (fun i=>True) trivial ?_ ?_
 ·intro _
  rw[LoopAt_enter c184_b0.eq_1]
  simp[eiths]
 ·intro i hi _ ih
  rw[idxs_succ _ _ _ hi] at ih
  rw[LoopAt_enter c184_b0.eq_1]
  have hnm:i ∉ idxs isEith (c.deeds.take i) 0:=fun h=>by
   have:=idxs_lt isEith (c.deeds.take i) 0 i h
   simp at this
   omega
  have hfr:=bitK_fresh i (idxs isEith (c.deeds.take i) 0) 0 hnm
  by_cases hw:c.deeds[i].frm=2
  ·rw[if_pos (by simp[isEith,hw]),bitK_app] at ih
   simp[hi,hw] at ih ⊢
   rw[hfr]
   have hkd:=bitK_kinds (idxs isEith (c.deeds.take i) 0) 0
   refine ⟨hkd,?_⟩
   (repeat' first | omega | (with_reducible apply And.intro) | intro _)
  ·simp[hi,isEith,hw] at ih ⊢
   (repeat' first | omega | (with_reducible apply And.intro) | intro _)
end
end Go.Pf

/- slices.Clone, from the kit's contract. -/
namespace Go.Ev
open Go Go.RowKit
section
variable {P:Program} {K:World→Prop}
theorem clone_goodo {f:FuncId} {e:TypeId} {sz bytes:Nat}
  (hcl:∀ (b off n c:Nat) (news:List Value) (w:World),news.length=n*sz→n≤maxLen→n*bytes≤140737488355328→(∀ (j:Nat) (u:Value),news[j]?=some u→w.cell? ⟨b,off+j,none⟩=some u)→(∀ u∈news,u.oneCell'=true) →
    Calls P f #[.slice (some ⟨b,off,none⟩) n c] w fun x w'=>∃ v',x=.returned v'∧w'.ownsRow w.heap.size e sz v' n news∧v'≠.slice none 0 0∧Below w.heap.size w w')
  (rows:List (List IV)) (hb:rows.length*bytes≤140737488355328) (hsz:∀ c∈rows,c.length=sz) (hne:rows≠[]):GoodO P K f [.sl sz rows] (.aref 0 rows.length) e sz rows 0:=by
 intro w ok vs hk hnew hl hvs
 obtain ⟨v0,rfl⟩:∃ v0,vs=[v0]:=by
  match vs,hl with
  | [v],_=>exact ⟨v,rfl⟩
 have hrep:=hvs 0 _ v0 rfl rfl
 have fin:∀ (v':Value) (w':World) (news:List Value),w'.ownsRow w.heap.size e sz v' rows.length news→Below w.heap.size w w'→(∀ u∈news,u.oneCell'=true) →
   (∀ (i j:Nat) (c:List IV) (x:IV) (u:Value),rows[i]?=some c→c[j]?=some x→news[i*sz+j]?=some u→RepI ok w x u) →
   ∃ v l,Ending.returned v'=.returned v∧ObjRep (fun b=>b<w.heap.size) (okL ok (one (rowO e sz rows 0)) (fun _=>l)) w' (one (rowO e sz rows 0)) (fun _=>l) (rowO e sz rows 0) l ∧
    RepA (okL ok (one (rowO e sz rows 0)) (fun _=>l)) w' (one (rowO e sz rows 0)) (fun _=>l) (ren 0 (.aref 0 rows.length)) v∧Below w.heap.size w w':=by
  intro v' w' news hown hbel hone hcx
  have hsl:=ownsRow_isSl hown
  have hge:∀ b,v'.ownBlock=some b→w.heap.size≤b:=fun b h=>(hown.lt b h).1
  have hown0:w'.ownsRow 0 e sz v' rows.length news:=by
   obtain ⟨h1,h2⟩:=hown
   refine ⟨h1,?_⟩
   rcases h2 with h2 | ⟨g,cap,cur,h2,_,h3⟩
   ·exact .inl h2
   ·exact .inr ⟨g,cap,cur,h2,Nat.zero_le _,h3⟩
  refine ⟨v',.arr v' news,rfl,⟨⟨by rw[List.length_map];exact hown0,fun b h1 h2=>by have:=hge b h1;omega⟩,Nat.zero_le _,fun c hc=>?_,hone,fun i j c x u hi hj hu=>?_⟩,?_,hbel⟩
  ·obtain ⟨d,hd,rfl⟩:=List.mem_map.1 hc
   rw[List.length_map];exact hsz d hd
  ·rw[List.getElem?_map,Option.map_eq_some_iff] at hi
   obtain ⟨d,hd,rfl⟩:=hi
   rw[List.getElem?_map,Option.map_eq_some_iff] at hj
   obtain ⟨y,hy,rfl⟩:=hj
   refine .iv _ _ ((hcx i j d y u hd hy hu).mono fun b hb hlt=>⟨⟨hb,fun id o _ hh=>?_⟩,hbel.block b hlt⟩)
   have:=hge b hh
   omega
  ·have:=RepA.aref (ok:=okL ok (one (rowO e sz rows 0)) (fun _=>.arr v' news)) (w:=w') (lo:=one (rowO e sz rows 0)) (L:=fun _=>.arr v' news) 0 e sz (rows.map (List.map AV.iv)) 0 v' news (by simp[one,rowO]) rfl hsl
   rw[List.length_map] at this
   exact this
 cases hrep with
 | nils _=>exact absurd rfl hne
 | nilz _ a=>exact absurd rfl hne
 | sl _ _ b off cap u hlc hc hs hu hx =>
   refine (hcl b off rows.length cap ((List.range (rows.length*sz)).map u) w (by simp) (by omega) hb (fun j v hj=>?_) (fun v hv=>?_)).mono fun x w' ⟨v',hx',hown,_,hbel⟩=>?_
   ·simp only[List.getElem?_map,Option.map_eq_some_iff] at hj
    obtain ⟨k,hk,rfl⟩:=hj
    rw[List.getElem?_eq_some_iff] at hk
    obtain ⟨hk,rfl⟩:=hk
    simp at hk
    simpa using (hu j hk).2.1
   ·obtain ⟨k,hk,rfl⟩:=List.mem_map.1 hv
    exact (hu k (List.mem_range.1 hk)).2.2
   ·subst hx'
    refine fin _ _ _ hown hbel (fun v hv=>?_) (fun i j c x v hi hj hv=>?_)
    ·obtain ⟨k,hk,rfl⟩:=List.mem_map.1 hv
     exact (hu k (List.mem_range.1 hk)).2.2
    ·simp only[List.getElem?_map,Option.map_eq_some_iff] at hv
     obtain ⟨k,hk,rfl⟩:=hv
     rw[List.getElem?_eq_some_iff] at hk
     obtain ⟨hk,rfl⟩:=hk
     have:=hx i j c x hi hj
     simpa using this
end
end Go.Ev
namespace Go.Pf
open Go Go.Ev Go.Proofs Go.RowKit Go.Shelf
set_option maxRecDepth 8000
noncomputable def deedI:TypeInfo:=(Tryz.prog.info? 56).get (by kernel_rfl)
noncomputable def leverI:TypeInfo:=(Tryz.prog.info? 113).get (by kernel_rfl)
noncomputable def leverZ:Value:=leverI.zero.get (by kernel_rfl)
section
variable {K:World→Prop}
theorem clone166 (l:List Deed) (hl:l.length≤1000) (hne:l≠[]):GoodO Tryz.prog K 166 [deedsV l] (.aref 0 l.length) 56 5 (l.map dC) 0:=by
 have h:=clone_goodo (P:=Tryz.prog) (K:=K) (f:=166) (e:=56) (sz:=5) (bytes:=40) (AnyE.slices_Clone Tryz.clone166 deedI (.agg #[.int .i64 0,.int .i64 0,.int .i64 0,.int .i64 0,.int .i64 0]) 5 40 (by kernel_rfl) (by kernel_rfl) (by kernel_rfl) (by kernel_rfl) rfl (by decide) Tryz.sizeOf56) (l.map dC) (by simp;omega) (by simp) (by simpa using hne)
 simpa using h
theorem clone169 (l:List Lever) (hl:l.length≤1000) (hne:l≠[]):GoodO Tryz.prog K 169 [leversV l] (.aref 0 l.length) 113 3 (l.map leC) 0:=by
 have h:=clone_goodo (P:=Tryz.prog) (K:=K) (f:=169) (e:=113) (sz:=3) (bytes:=24) (AnyE.slices_Clone Tryz.clone169 leverI leverZ 3 24 (by kernel_rfl) (by kernel_rfl) (by kernel_rfl) (by kernel_rfl) (by kernel_rfl) (by decide) Tryz.sizeOf113) (l.map leC) (by simp;omega) (by simp) (by simpa using hne)
 simpa using h
end
end Go.Pf

/- The program's stories. -/
namespace Go.Pf
open Go Go.Ev Go.Proofs Go.RowKit
set_option maxRecDepth 8000
def eBit (ds:List Deed) (n:Nat) (i:Nat):Int:=match ds[i]? with
 | some d=>if d.frm=2 then ((n.testBit ((eiths ds).idxOf i)).toNat:Int) else d.frm
 | none=>0
theorem eBit_get (ds:List Deed) (n i:Nat) (h:i<ds.length):eBit ds n i=if ds[i].frm=2 then ((n.testBit ((eiths ds).idxOf i)).toNat:Int) else ds[i].frm:=by
 simp[eBit,h]
theorem eiths_mem (ds:List Deed) (i:Nat) (h:i<ds.length) (h2:ds[i].frm=2):i∈eiths ds:=by
 have:∀ (l:List Deed) (k i:Nat) (h:i<l.length),l[i].frm=2→k+i∈idxs isEith l k:=by
  intro l
  induction l with
  | nil=>intro k i h;simp at h
  | cons d l ih =>
    intro k i h h2
    cases i with
    | zero =>
      have h3:d.frm=2:=h2
      simp[idxs,isEith,h3]
    | succ i =>
      have:=ih (k+1) i (by simpa using h) (by simpa using h2)
      have e:k+1+i=k+(i+1):=by omega
      rw[e] at this
      simp only[idxs]
      split
      ·exact List.mem_cons_of_mem _ this
      ·exact this
 simpa[eiths] using this ds 0 i h h2
section
variable {K:World→Prop} (hK:∀ w w',K w→Below w.heap.size w w'→K w')
include hK
theorem good202 (c:Chain) (n i:Nat) (hn:n<2 ^ 63) (hi:i<c.deeds.length) (h2:c.deeds[i].frm=2):Ev.Good Tryz.prog K 202 [.int .i64 i,.ptr [.int .i64 n],.ptr (bookC c)] (.int .i64 (eBit c.deeds n i)):=by
 refine good_of_wp hK c202_ok (by simp) ?_
 have hf:=bitK_find i (eiths c.deeds) 0 (eiths_mem c.deeds i hi h2)
 have hkk:=bitK_kinds (eiths c.deeds) 0
 rw[eBit_get _ _ _ hi,if_pos h2]
 simp only[Nat.zero_add] at hf
 simp[hkk,hf]
 exact bit_i64 n _ hn
end
end Go.Pf

/- The program's stories, one after the other (from the contract of tell). -/
namespace Go.Pf
open Go Go.Ev Go.Proofs Go.RowKit
set_option maxRecDepth 8000
def storyI (ds:List Deed) (pm:Nat→IV) (n:Nat):List IV:=[.agg (storyC ds (eBit ds n) (pm n))]
theorem shl_pow {n:Nat} (h:n≤12):shlV IntKind.i64 1 (n:Int)=((2 ^ n:Nat):Int):=by
 have:n=0∨n=1∨n=2∨n=3∨n=4∨n=5∨n=6∨n=7∨n=8∨n=9∨n=10∨n=11∨n=12:=by omega
 rcases this with rfl | rfl | rfl | rfl | rfl | rfl | rfl | rfl | rfl | rfl | rfl | rfl | rfl<;>decide
section
variable {K:World→Prop} (hK:∀ w w',K w→Below w.heap.size w w'→K w')
include hK
theorem iter185 (c:Chain) (pm:Nat→IV) (ht:twos c.deeds≤12) (h201:∀ n:Nat,n<2 ^ twos c.deeds→Ev.Good Tryz.prog K 201 [deedsV c.deeds,.clo 202 [] [.ptr [.int .i64 n],.ptr (bookC c)]] (.agg (storyC c.deeds (eBit c.deeds n) (pm n)))) :
  IterX Tryz.prog K 185 [.agg (bookC c)] [] ((List.range (2 ^ twos c.deeds)).map (storyI c.deeds pm)):=by
 intro s b s' hf
 have hp:=pow_le12 ht
 refine goodx_of_wp c185_ok (by simp) hf.v rfl ?_
 have hlen:(bitK (eiths c.deeds) 0).length=twos c.deeds:=by rw[bitK_len,eiths_twos]
 simp[eiths_twos,shl_pow ht]
 have hN:0<2 ^ twos c.deeds:=Nat.pos_of_ne_zero (by simp)
 have hcast:((2:Int) ^ twos c.deeds)=((2 ^ twos c.deeds:Nat):Int):=by push_cast;rfl
 rw[hcast]
 generalize 2 ^ twos c.deeds=N at *
 refine loop_i N (fun i e o=>∃ si,e=[(1,AV.cb 0),(2,AV.iv (.ptr (bookC c))),(8,AV.iv (.int .i64 (N:Nat))),(9,AV.iv (.int .i64 (i:Nat)))]∧o=[(0,.ext si)] ∧
  Feeds Tryz.prog K (((List.range N).drop i).map (storyI c.deeds pm)) si b s') ?_ ?_ _ _ ⟨s,rfl,rfl,by simpa using hf⟩
 ·rintro e o ⟨si,rfl,rfl,hfd⟩
  rw[List.drop_eq_nil_of_le (by simp)] at hfd
  cases hfd
  rw[LoopAt_enter c185_b0.eq_1]
  simp
 ·rintro i e o hi ⟨si,rfl,rfl,hfd⟩ ih
  rw[List.drop_eq_getElem_cons (by simpa using hi)] at hfd
  simp only[List.getElem_range,List.map_cons] at hfd
  have hg:=h201 i hi
  rw[LoopAt_enter c185_b0.eq_1]
  simp[hi]
  refine Wp_frz _ _ _ _ _ _ _ _ ?_
  simp
  refine callK_of (by simpa using hg) (.inl rfl) ?_
  have hst:storyI c.deeds pm i=[.agg (storyC c.deeds (eBit c.deeds i) (pm i))]:=rfl
  rw[hst] at hfd
  simp
  cases hfd with
  | stop _ _ _ _ hg =>
    refine callB_of (by simpa using hg) rfl ?_
    simp
  | next _ _ _ s1 _ _ hg hr =>
    refine callB_of (by simpa using hg) rfl ?_
    simp
    (repeat' first | omega | (with_reducible apply And.intro) | intro _)
    exact ih _ _ ⟨s1,by simp,rfl,hr⟩
end
section
variable {K:World→Prop}
def rightN (c:Chain):List Nat:=(List.range (2 ^ twos c.deeds)).filter fun n=>decide ((wrongsE c.deeds c.sights (eBit c.deeds n):Int)≤c.wrong)
theorem rounds161 (hK:∀ w w',K w→Below w.heap.size w w'→K w') {c:Chain} (hc:OkC c) {pm:Nat→IV} {ks:Env} (hks:keepE [2,3] [0,3] ks=[(2,.iv (.ptr (bookC c))),(3,.loc 3 0)]) :
  ∀ (Ls:List Nat) (s:Ext) (b:Bool) (s':Ext),Feeds Tryz.prog K ((Ls.filter fun n=>decide ((wrongsE c.deeds c.sights (eBit c.deeds n):Int)≤c.wrong)).map (storyI c.deeds pm)) s b s' →
   ∃ wy,(wy=.fall∨wy=.ret)∧Rnds Tryz.prog K [7] c161_b0a c161_b0 [2,3] [0,3] (keepE [2,3] [0,3] ks) (Ls.map (storyI c.deeds pm)) [(0,.ext s),(3,.box [.cb 0])] wy [(0,.ext s'),(3,.box [.cb 0])]
 | [],s,b,s',h=>by
   cases h
   exact ⟨.fall,.inl rfl,.nil _⟩
 | t::Ls,s,b,s',h=>by
   have hl:=hc.len
   have hsl:=hc.slen
   have hw:=good186 hK c.deeds (eBit c.deeds t) (pm t) c.sights hc.deeds (by omega) hc.sights (by omega)
   by_cases ht:(wrongsE c.deeds c.sights (eBit c.deeds t):Int)≤c.wrong
   ·rw[List.filter_cons_of_pos (by simpa using ht)] at h
    cases h with
    | stop _ _ _ _ hg =>
      refine ⟨.ret,.inr rfl,.stop _ _ _ _ _ (by simp) ?_⟩
      rw[hks]
      refine ⟨rfl,?_⟩
      simp[storyI,c161_b0a,c161_b0]
      refine callK_of (by simpa using hw) (.inl rfl) ?_
      simp[ht]
      refine callB_of (by simpa[storyI] using hg) rfl ?_
      simp
    | next _ _ _ s1 _ _ hg hr =>
      obtain ⟨wy,h1,h2⟩:=rounds161 hK hc hks Ls s1 b s' hr
      refine ⟨wy,h1,.next _ _ _ _ _ _ ?_ h2⟩
      rw[hks]
      refine ⟨rfl,?_⟩
      simp[storyI,c161_b0a,c161_b0]
      refine callK_of (by simpa using hw) (.inl rfl) ?_
      simp[ht]
      refine callB_of (by simpa[storyI] using hg) rfl ?_
      simp
   ·rw[List.filter_cons_of_neg (by simpa using ht)] at h
    obtain ⟨wy,h1,h2⟩:=rounds161 hK hc hks Ls s b s' h
    refine ⟨wy,h1,.next _ _ _ _ _ _ ?_ h2⟩
    rw[hks]
    refine ⟨rfl,?_⟩
    simp[storyI,c161_b0a,c161_b0]
    refine callK_of (by simpa using hw) (.inl rfl) ?_
    simp[ht]
end
end Go.Pf

/- What can be asked of a chain (from the contract of tell). -/
namespace Go.Pf
open Go Go.Ev Go.Proofs Go.RowKit
set_option maxRecDepth 8000
def TellOk (K:World→Prop) (c:Chain) (pm:Nat→IV):Prop:=∀ n:Nat,n<2 ^ twos c.deeds→Ev.Good Tryz.prog K 201 [deedsV c.deeds,.clo 202 [] [.ptr [.int .i64 n],.ptr (bookC c)]] (.agg (storyC c.deeds (eBit c.deeds n) (pm n)))
theorem twos_le (ds:List Deed):twos ds≤ds.length:=List.countP_le_length
section
variable {K:World→Prop} (hK:∀ w w',K w→Below w.heap.size w w'→K w')
include hK
theorem iter161 (c:Chain) (hc:OkC c) (pm:Nat→IV) (ht:TellOk K c pm):IterX Tryz.prog K 161 [.agg (bookC c)] [] ((rightN c).map (storyI c.deeds pm)):=by
 intro s b s' hfd
 have h12:=hc.len
 have htw:=twos_le c.deeds
 refine goodx_of_wp c161_ok (by simp) hfd.v rfl ?_
 obtain ⟨wy,h1,h2⟩:=rounds161 (pm:=pm) hK hc (ks:=[(2,.iv (.ptr (bookC c))),(3,.loc 3 0)]) rfl (List.range (2 ^ twos c.deeds)) s b s' hfd
 simp
 refine Wp_range (wy:=wy) (o':=[(0,.ext s'),(3,.box [.cb 0])]) rfl (by kernel_rfl) (iter185 hK c pm (by omega) ht) (by simpa using h2) ?_
 rcases h1 with rfl | rfl<;>simp
noncomputable def askE (c:Chain) (is:Bool):Int:=if OkC c then (if is=true then (if rightN c=[] then 3 else 0) else 1) else 20
theorem good160 (c:Chain) (pm:Nat→IV) (ht:OkC c→TellOk K c pm) (g:FuncId) (fs cs:List IV) (is:Bool) (hg:OkC c→Ev.Good Tryz.prog K g (fs++[.int .i64 (leftN c.deeds),.int .i64 (allN c.deeds)]++cs) (.bool is)) (hcg:callee Tryz.prog g=true) (hl:c.deeds.length≤1000) (hs:c.sights.length≤1000) :
  Ev.Good Tryz.prog K 160 [chV c,.clo g fs cs] (.tup [if OkC c∧is=true then .agg (bookC c) else .agg [.sl 5 [],.sl 5 [],.int .i64 0,.map []],.int .i64 (askE c is)]):=by
 refine good_of_wp hK c160_ok (by simp) ?_
 simp
 refine callK_of (good80 hK c hl hs) (.inl rfl) ?_
 by_cases h1:OkC c
 ·simp[h1]
  refine callK_of (good141 hK c hl) (.inl rfl) ?_
  simp
  refine ⟨hcg,callK_of (by simpa using hg h1) (.inl rfl) ?_⟩
  cases is
  ·simp[askE,h1]
  ·simp
   refine callK_of (by simpa using good184 hK c hl) (.inl rfl) ?_
   simp
   cases hR:rightN c with
   | nil =>
     refine Wp_range (wy:=.fall) (o':=[(4,.box [.iv (.sl 5 []),.iv (.sl 5 []),.iv (.int .i64 0),.iv (.map [])]),(5,.box [.iv (.int .i64 0)]),(7,.box [.iv (deedsV c.deeds),.iv (sightsV c.sights),.iv (.int .i64 c.wrong),.iv (.map (bitK (eiths c.deeds) 0))])]) rfl (by kernel_rfl) (iter161 hK c h1 pm (ht h1)) (by rw[hR];simpa using Rnds.nil _) ?_
     simp[askE,h1,hR]
   | cons a r =>
     refine Wp_range (wy:=.ret) (o':=[(4,.box [.iv (deedsV c.deeds),.iv (sightsV c.sights),.iv (.int .i64 c.wrong),.iv (.map (bitK (eiths c.deeds) 0))]),(5,.box [.iv (.int .i64 0)]),(7,.box [.iv (deedsV c.deeds),.iv (sightsV c.sights),.iv (.int .i64 c.wrong),.iv (.map (bitK (eiths c.deeds) 0))])]) rfl (by kernel_rfl) (iter161 hK c h1 pm (ht h1)) (by
      rw[hR]
      refine .stop _ _ _ _ _ (by simp) ?_
      refine ⟨rfl,?_⟩
      simp[storyI,c160_b0a,c160_b0]) ?_
     simp[askE,h1,hR]
 ·simp[h1,askE]
theorem good160f (c:Chain) (pm:Nat→IV) (ht:OkC c→TellOk K c pm) (g:FuncId) (is:Bool) (hg:OkC c→Ev.Good Tryz.prog K g [.int .i64 (leftN c.deeds),.int .i64 (allN c.deeds)] (.bool is)) (hcg:callee Tryz.prog g=true) (hl:c.deeds.length≤1000) (hs:c.sights.length≤1000) :
  Ev.Good Tryz.prog K 160 [chV c,.fn g] (.tup [if OkC c∧is=true then .agg (bookC c) else .agg [.sl 5 [],.sl 5 [],.int .i64 0,.map []],.int .i64 (askE c is)]):=by
 refine good_of_wp hK c160_ok (by simp) ?_
 simp
 refine callK_of (good80 hK c hl hs) (.inl rfl) ?_
 by_cases h1:OkC c
 ·simp[h1]
  refine callK_of (good141 hK c hl) (.inl rfl) ?_
  simp
  refine ⟨hcg,callK_of (by simpa using hg h1) (.inl rfl) ?_⟩
  cases is
  ·simp[askE,h1]
  ·simp
   refine callK_of (by simpa using good184 hK c hl) (.inl rfl) ?_
   simp
   cases hR:rightN c with
   | nil =>
     refine Wp_range (wy:=.fall) (o':=[(4,.box [.iv (.sl 5 []),.iv (.sl 5 []),.iv (.int .i64 0),.iv (.map [])]),(5,.box [.iv (.int .i64 0)]),(7,.box [.iv (deedsV c.deeds),.iv (sightsV c.sights),.iv (.int .i64 c.wrong),.iv (.map (bitK (eiths c.deeds) 0))])]) rfl (by kernel_rfl) (iter161 hK c h1 pm (ht h1)) (by rw[hR];simpa using Rnds.nil _) ?_
     simp[askE,h1,hR]
   | cons a r =>
     refine Wp_range (wy:=.ret) (o':=[(4,.box [.iv (deedsV c.deeds),.iv (sightsV c.sights),.iv (.int .i64 c.wrong),.iv (.map (bitK (eiths c.deeds) 0))]),(5,.box [.iv (.int .i64 0)]),(7,.box [.iv (deedsV c.deeds),.iv (sightsV c.sights),.iv (.int .i64 c.wrong),.iv (.map (bitK (eiths c.deeds) 0))])]) rfl (by kernel_rfl) (iter161 hK c h1 pm (ht h1)) (by
      rw[hR]
      refine .stop _ _ _ _ _ (by simp) ?_
      refine ⟨rfl,?_⟩
      simp[storyI,c160_b0a,c160_b0]) ?_
     simp[askE,h1,hR]
 ·simp[h1,askE]
theorem good165 (c:Chain) (pm:Nat→IV) (ht:OkC c→TellOk K c pm) (hl:c.deeds.length≤1000) (hs:c.sights.length≤1000):Ev.Good Tryz.prog K 165 [chV c] (.tup [.int .i64 (if askE c true=0 then (rightN c).length else 0),.int .i64 (askE c true)]):=by
 refine good_of_wp hK c165_ok (by simp) ?_
 simp
 refine callK_of (good160f hK c pm ht 187 true (fun _=>good187 hK _ _) (by kernel_rfl) hl hs) (.inl rfl) ?_
 by_cases he:askE c true=0
 ·have h1:OkC c:=by
   unfold askE at he
   split at he
   ·assumption
   ·cases he
  have hlen:(rightN c).length≤4096:=by
   have h1':=List.length_filter_le (fun n=>decide ((wrongsE c.deeds c.sights (eBit c.deeds n):Int)≤c.wrong)) (List.range (2 ^ twos c.deeds))
   have h2':=pow_le12 (n:=twos c.deeds) (by have:=twos_le c.deeds;have:=h1.len;omega)
   simp at h1'
   unfold rightN
   omega
  simp[he,h1]
  refine Wp_range (wy:=.fall) (o':=[(6,.box [.iv (.int .i64 ((rightN c).length:Nat))])]) rfl (by kernel_rfl) (iter161 hK c h1 pm (ht h1)) ?_ ?_
  ·have:=Rnds.all (P:=Tryz.prog) (K:=K) (ps:=[17]) (asn:=c165_b0a) (body:=c165_b0) (ks:=[6]) (ids:=[6]) (eK:=[(6,.loc 6 0)]) ((rightN c).map (storyI c.deeds pm)) (fun i=>[(6,.box [.iv (.int .i64 (i:Int))])]) fun i x hi=>by
    simp only[List.getElem?_map,Option.map_eq_some_iff] at hi
    obtain ⟨y,hy,rfl⟩:=hi
    have hlt:=(List.getElem?_eq_some_iff.1 hy).1
    refine ⟨rfl,?_⟩
    simp[storyI,c165_b0a,c165_b0]
    omega
   simpa using this
  ·simp
 ·by_cases h1:OkC c<;>simp[he,h1]
end
end Go.Pf

/- known and exact: the truths, one after the other. -/
namespace Go.Pf
open Go Go.Ev Go.Proofs Go.RowKit
set_option maxRecDepth 8000
section
variable {K:World→Prop} (hK:∀ w w',K w→Below w.heap.size w w'→K w')
include hK
theorem good164 (d:Deed):Ev.Good Tryz.prog K 164 [.agg (dC d)] (.bool (isEith d)):=by
 refine good_of_wp hK c164_ok (by simp) ?_
 simp[isEith]
end
def fixLeak (m:Machine) (n:Int):Machine:={ m with llo:=n,lhi:=n }
noncomputable def pieceX (m:Machine) (k:Nat):List Machine:=if tE (fixLeak m (m.llo+k)) true=0 then [fixLeak m (m.llo+k)] else []
def itemM (m:Machine):List IV:=[maV m]
section
variable {K:World→Prop} (hK:∀ w w',K w→Below w.heap.size w w'→K w')
include hK
theorem iter126_last (m:Machine) (hl:m.levers.length≤1000) (hb:m.bals.length≤1000) (hr:inR m.llo 0 m.lhi) (hr2:m.lhi≤20) (hs:∀ n,OkM (fixLeak m n)→sets (fixLeak m n) m.levers.length≤1000000) :
  IterY Tryz.prog K 126 [maV m,.int .i64 m.levers.length] [] ((acc (pieceX m) (m.lhi+1-m.llo).toNat).map itemM) (fun b=>.bool b):=by
 intro s b s' hf
 refine goodx_of_wp c126_ok (by simp) hf.v rfl ?_
 rw[acc_from] at hf
 simp only[inR] at hr
 simp
 intro _
 refine loop_i (m.lhi+1-m.llo).toNat (fun i e o=>∃ si x y,e=[(2,AV.cb 0),(3,AV.iv (.ptr [leversV m.levers,.int .i64 m.water,.int .i64 m.llo,.int .i64 m.lhi,balsV m.bals,.int .i64 m.wrong])),(7,AV.loc 7 0),(8,AV.iv (.int .i64 (m.llo+(i:Nat))))] ∧
  o=[(0,.ext si),(7,.box [.iv (leversV m.levers),.iv (.int .i64 m.water),.iv (.int .i64 x),.iv (.int .i64 y),.iv (balsV m.bals),.iv (.int .i64 m.wrong)])] ∧
  Feeds Tryz.prog K ((accFrom (pieceX m) i ((m.lhi+1-m.llo).toNat-i)).map itemM) si b s') ?_ ?_ _ _ ⟨s,m.llo,m.lhi,by simp,by simp,by simpa using hf⟩
 ·rintro e o ⟨si,x,y,rfl,rfl,hfd⟩
  have q1:m.llo+((m.lhi+1-m.llo).toNat:Int)=m.lhi+1:=by omega
  have q2:¬ m.lhi+1≤m.lhi:=by omega
  rw[Nat.sub_self] at hfd
  cases hfd
  rw[q1,LoopAt_enter c126_b0.eq_1]
  simp[q2]
 ·rintro i e o hi ⟨si,x,y,rfl,rfl,hfd⟩ ih
  have q1:m.llo+(i:Int)≤m.lhi:=by omega
  have q3:m.llo+((i:Int)+1)=m.llo+i+1:=by omega
  have e1:(m.lhi+1-m.llo).toNat-i=((m.lhi+1-m.llo).toNat-(i+1))+1:=by omega
  rw[e1] at hfd
  simp only[accFrom,List.map_append] at hfd
  have hg:=good168 hK (fixLeak m (m.llo+i)) hl hb (hs _)
  rw[LoopAt_enter c126_b0.eq_1]
  simp[q1]
  refine callK_of (by simpa[fixLeak] using hg) (.inr rfl) ?_
  by_cases he:tE (fixLeak m (m.llo+i)) true=0
  ·have hp:pieceX m i=[fixLeak m (m.llo+i)]:=by simp[pieceX,he]
   rw[hp] at hfd
   simp only[List.map_cons,List.map_nil,List.singleton_append] at hfd
   have he':=he
   simp only[fixLeak] at he'
   simp[he']
   cases hfd with
   | stop _ _ _ _ hg =>
     refine callB_of (by simpa[itemM,fixLeak] using hg) rfl ?_
     simp
   | next _ _ _ s1 _ _ hg hr2 =>
     refine callB_of (by simpa[itemM,fixLeak] using hg) rfl ?_
     simp
     (repeat' first | omega | (with_reducible apply And.intro) | intro _)
     exact ih _ _ ⟨s1,m.llo+i,m.llo+i,by simp[q3],by simp,hr2⟩
  ·have hp:pieceX m i=[]:=by simp[pieceX,he]
   rw[hp] at hfd
   simp only[List.map_nil,List.nil_append] at hfd
   have he':=he
   simp only[fixLeak] at he'
   simp[he']
   (repeat' first | omega | (with_reducible apply And.intro) | intro _)
   exact ih _ _ ⟨si,m.llo+i,m.llo+i,by simp[q3],by simp,hfd⟩
end
end Go.Pf
