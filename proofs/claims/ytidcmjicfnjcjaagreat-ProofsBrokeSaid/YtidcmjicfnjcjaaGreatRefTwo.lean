/- What is so in a truth: the reference's functions. -/
import Derived.Test.YtidcmjicfnjcjaaGreatRef
set_option linter.all false

namespace Go.Pf
open Go Go.Ev Go.Proofs Go.RowKit
set_option maxRecDepth 8000
def t0:Trial:=⟨0,0,0⟩
def tr (p:Proof) (i:Nat):Trial:=p.trials.getD i t0
theorem tr_get {p:Proof} {i:Nat} (h:i<p.trials.length):p.trials[i]=tr p i:=by simp[tr,List.getD_eq_getElem?_getD,h]
def thenN (p:Proof) (i:Nat) (e:Nat→Int):List Nat:=cab p.chain.deeds e ((pv p.chain.deeds).getD i 0)
def brokeN (p:Proof) (i:Nat) (e:Nat→Int):Int:=if 0≤(tr p i).broke then ((thenN p i e).getD (tr p i).broke.toNat 0:Nat) else -1
def loadN (p:Proof) (i:Nat) (s:Setting):Int:=num p.machine s (tr p i).weight (tr p i).mins
def failedB (p:Proof) (i:Nat) (t:Truth):Bool:=decide (0≤(tr p i).broke)&&decide (loadN p i t.set≤p.need*den t.set)
def failN (p:Proof) (t:Truth):Nat:=(List.range p.trials.length).countP fun i=>failedB p i t
def inN (l:List Nat) (n:Int):Bool:=decide (n∈l.map fun k:Nat=>(k:Int))
def provedAt (p:Proof) (link:Int) (t:Truth) (i:Nat):Bool:=decide (p.need*den t.set≤loadN p i t.set)&&inN (thenN p i (endF t.ends)) link&&!decide (brokeN p i (endF t.ends)=link)
def provedB (p:Proof) (link:Int) (t:Truth):Bool:=(List.range p.trials.length).any (provedAt p link t)
def nowN (p:Proof) (e:Nat→Int):List Nat:=cab p.chain.deeds e p.chain.deeds.length
def goodB (p:Proof) (t:Truth):Bool:=((nowN p (endF t.ends)).all fun (k:Nat)=>provedB p k t)&&decide ((failN p t:Int)<p.rule)
def blamedAt (p:Proof) (smith:Int) (t:Truth) (i:Nat):Bool:=failedB p i t&&decide ((markD p.chain.deeds (brokeN p i (endF t.ends)).toNat).smith=smith)
def blamedB (p:Proof) (smith:Int) (t:Truth):Bool:=(List.range p.trials.length).any (blamedAt p smith t)
def toldN (some many:Int):Int:=if some=many then 1 else if some=0 then 2 else 3
def sortedP (l:List Int) (lo:Int) (i:Nat):List Int:=((List.range i).map fun j:Nat=>lo+j).filter fun n=>decide (n∈l)
def sortedL (l:List Int) (lo hi:Int):List Int:=sortedP l lo (hi+1-lo).toNat
theorem sortedP_succ (l:List Int) (lo:Int) (i:Nat):sortedP l lo (i+1)=if (lo+i)∈l then sortedP l lo i++[lo+i] else sortedP l lo i:=by
 unfold sortedP
 rw[List.range_succ,List.map_append,List.filter_append]
 by_cases h:(lo+i)∈l<;>simp[h]
theorem sortedP_len (l:List Int) (lo:Int) (i:Nat):(sortedP l lo i).length≤i:=Nat.le_trans (List.length_filter_le _ _) (by simp)
def mostAt (p:Proof) (t:Truth) (k:Nat) (m:Int) (i:Nat):Int :=
 if inN (thenN p i (endF t.ends)) k=true∧¬ brokeN p i (endF t.ends)=k then max m ((loadN p i t.set).tdiv (den t.set)) else m
def mostN (p:Proof) (t:Truth) (k:Nat) (n:Nat):Int:=(List.range n).foldl (mostAt p t k) (-1)
def bestA (p:Proof) (t:Truth) (now:List Nat):Int:=now.foldl (fun b k=>min b (mostN p t k p.trials.length)) 999999999
def failsN (p:Proof) (t:Truth) (i n:Nat):Nat:=(List.range n).countP fun k=>decide (0≤(tr p k).broke)&&decide (loadN p k t.set≤loadN p i t.set)
def bestAt (p:Proof) (t:Truth) (b:Int) (i:Nat):Int :=
 if 0≤(tr p i).broke∧p.rule≤(failsN p t i p.trials.length:Int) then min b ((loadN p i t.set+den t.set-1).tdiv (den t.set)-1) else b
def worthN (p:Proof) (t:Truth):Int:=(List.range p.trials.length).foldl (bestAt p t) (bestA p t (nowN p (endF t.ends)))
theorem mostN_succ (p:Proof) (t:Truth) (k n:Nat):mostN p t k (n+1)=mostAt p t k (mostN p t k n) n:=by simp[mostN,List.range_succ]
theorem min_if (a b:Int):(if b<a then b else a)=min a b:=by split<;>omega
theorem max_if (a b:Int):(if a<b then b else a)=max a b:=by split<;>omega
theorem tdiv_bd {a b:Int} (h1:0≤a) (h2:1≤b):0≤a.tdiv b∧a.tdiv b≤a:=by
 rw[Int.tdiv_eq_ediv_of_nonneg h1]
 exact ⟨Int.ediv_nonneg h1 (by omega),Int.ediv_le_self _ h1⟩
structure Fit (p:Proof) (t:Truth):Prop where
 ends:p.chain.deeds.length≤t.ends.length
 set:okS p.machine t.set
theorem OkP.deedsLen {p:Proof} (h:OkP p):p.chain.deeds.length≤12:=h.chain.len
theorem OkP.trialsLen {p:Proof} (h:OkP p):p.trials.length≤12:=by
 have:=pv_len p.chain.deeds
 have:=h.many
 have:=h.deedsLen
 omega
theorem OkP.trial {p:Proof} (h:OkP p) {i:Nat} (hi:i<p.trials.length):okTrial (tr p i) (cnt p.chain.deeds ((pv p.chain.deeds).getD i 0)):=by
 have h1:i<(pv p.chain.deeds).length:=by rw[← h.many];exact hi
 have:=h.trials i h1 hi
 rw[tr_get hi] at this
 simpa[List.getD_eq_getElem?_getD,h1] using this
theorem OkP.pvGet {p:Proof} (h:OkP p) {i:Nat} (hi:i<p.trials.length):(pv p.chain.deeds).getD i 0<p.chain.deeds.length:=by
 have h1:i<(pv p.chain.deeds).length:=by rw[← h.many];exact hi
 have:=pv_get h1
 simpa[List.getD_eq_getElem?_getD,h1] using this
theorem OkP.thenLen {p:Proof} (h:OkP p) (e:Nat→Int) {i:Nat} (hi:i<p.trials.length):((thenN p i e).length:Int)=cnt p.chain.deeds ((pv p.chain.deeds).getD i 0):=by
 have:=h.pvGet hi
 exact cab_len e h.chain.deeds _ (by omega) (by omega)
theorem OkP.brokeIn {p:Proof} (h:OkP p) (e:Nat→Int) {i:Nat} (hi:i<p.trials.length) (hb:0≤(tr p i).broke):∃ hlt:(tr p i).broke.toNat<(thenN p i e).length,brokeN p i e=((thenN p i e)[(tr p i).broke.toNat]:Nat):=by
 have h1:=(h.trial hi).2.2
 have h2:=h.thenLen e hi
 simp only[inR] at h1
 have hlt:(tr p i).broke.toNat<(thenN p i e).length:=by omega
 exact ⟨hlt,by simp[brokeN,hb,List.getD_eq_getElem?_getD,hlt]⟩
theorem OkP.thenLt {p:Proof} (e:Nat→Int) (i:Nat) {k:Nat} (hk:k∈thenN p i e):k<(welds p.chain.deeds).length :=
 Nat.lt_of_lt_of_le (cab_lt _ _ _ k hk) (wn_welds _ _)
theorem OkP.needB {p:Proof} (h:OkP p) {t:Truth} (ht:Fit p t):0≤p.need*den t.set∧p.need*den t.set≤999999999000000000:=by
 have h1:=h.need
 simp only[inR] at h1
 have h2:=h.machine.denB ht.set
 have h3:=Int.mul_le_mul h1.2 h2.2 (by omega) (by omega)
 have h4:=Int.mul_nonneg h1.1 (Int.le_trans (by omega) h2.1)
 omega
theorem failN_le (p:Proof) (t:Truth):failN p t≤p.trials.length:=by
 have:=List.countP_le_length (p:=fun i=>failedB p i t) (l:=List.range p.trials.length)
 simpa[failN] using this
theorem any_range_succ (n:Nat) (f:Nat→Bool):(List.range (n+1)).any f=((List.range n).any f||f n):=by simp[List.range_succ]
theorem any_range_none {n:Nat} {f:Nat→Bool} (h:∀ i,i<n→f i=false):(List.range n).any f=false:=by
 rw[List.any_eq_false]
 intro i hi
 simp[h i (List.mem_range.1 hi)]
theorem any_range_some {n:Nat} {f:Nat→Bool} (i:Nat) (hi:i<n) (h:f i=true):(List.range n).any f=true:=List.any_eq_true.2 ⟨i,List.mem_range.2 hi,h⟩
section
variable {K:World→Prop} (hK:∀ w w',K w→Below w.heap.size w w'→K w')
include hK
theorem good113 (p:Proof) (i:Nat) (ends:List Int) (hp:OkP p) (hi:i<p.trials.length) (he:p.chain.deeds.length≤ends.length):Ev.Good Tryz.prog K 113 [prV p,.int .i64 i,ints ends] (natsI (thenN p i (endF ends))):=by
 refine good_of_wp hK c113_ok (by simp) ?_
 have hl:=hp.deedsLen
 simp
 refine callK_of (good89 hK p.chain ends hp.chain.deeds (by omega) he) (.inl rfl) ?_
 simp
 refine callK_of (good88 hK p.chain (by omega)) (.inl rfl) ?_
 have h1:i<(pv p.chain.deeds).length:=by rw[← hp.many];exact hi
 have h2:(pv p.chain.deeds)[i]<p.chain.deeds.length+1:=by have:=pv_get h1;omega
 have hcg:=cabs_get p.chain.deeds (endF ends) p.chain.deeds.length (pv p.chain.deeds)[i] h2
 have hpv:idxs isProve p.chain.deeds 0=pv p.chain.deeds:=rfl
 have ht:thenN p i (endF ends)=cab p.chain.deeds (endF ends) (pv p.chain.deeds)[i]:=by simp[thenN,List.getD_eq_getElem?_getD,h1]
 rw[hpv,ht]
 simp[h1,h2,hcg]
theorem good54 (p:Proof) (i:Nat) (ends:List Int) (hp:OkP p) (hi:i<p.trials.length) (he:p.chain.deeds.length≤ends.length):Ev.Good Tryz.prog K 54 [prV p,.int .i64 i,ints ends] (.int .i64 (brokeN p i (endF ends))):=by
 refine good_of_wp hK c54_ok (by simp) ?_
 by_cases hb:0≤(tr p i).broke
 ·obtain ⟨h1,h2⟩:=hp.brokeIn (endF ends) hi hb
  have hb':(((tr p i).broke.toNat:Nat):Int)=(tr p i).broke:=by omega
  rw[h2]
  simp[hi,tr_get hi,hb]
  refine callK_of (good113 hK p i ends hp hi he) (.inl rfl) ?_
  simp[h1]
  omega
 ·have hb':(tr p i).broke<0:=by omega
  simp[hi,tr_get hi,hb',hb,brokeN]
theorem good53 (p:Proof) (n:Int) (hs:p.trials.length≤1000):Ev.Good Tryz.prog K 53 [prV p,.int .i64 n] (.bool (decide (inR n 0 (p.trials.length-1)))):=by
 refine good_of_wp hK c53_ok (by simp) ?_
 simp
 (repeat' first | omega | (with_reducible apply And.intro) | intro _)
 exact callK_of (good87 hK _ _ _) (.inl rfl) (by simp)
theorem good93 (p:Proof) (n:Int) (hs:p.trials.length≤1000):Ev.Good Tryz.prog K 93 [prV p,.int .i64 n] (.bool (decide (inR n 0 (p.trials.length-1)))):=by
 refine good_of_wp hK c93_ok (by simp) ?_
 simp
 (repeat' first | omega | (with_reducible apply And.intro) | intro _)
 exact callK_of (good67 hK _ _ _) (.inl rfl) (by simp)
theorem good55 (p:Proof) (i:Nat) (t:Truth) (hp:OkP p) (hi:i<p.trials.length) (ht:Fit p t):Ev.Good Tryz.prog K 55 [prV p,.int .i64 i,.agg (tuC t)] (.tup [.int .i64 (loadN p i t.set),.int .i64 (den t.set)]):=by
 refine good_of_wp hK c55_ok (by simp) ?_
 have h1:=hp.trial hi
 simp[hi,tr_get hi]
 refine callK_of (good114 hK p.machine t.set (tr p i).weight (tr p i).mins hp.machine ht.set h1.1 h1.2.1) (.inl rfl) ?_
 simp[loadN]
theorem good52n (l:List Nat) (n:Int):Ev.Good Tryz.prog K 52 [natsI l,.int .i64 n] (.bool (inN l n)):=by
 have:=good52 hK (l.map fun k:Nat=>(k:Int)) n
 simpa only[ints,natsI,List.map_map,inN,Function.comp_def] using this
theorem good51 (p:Proof) (link:Int) (t:Truth) (hp:OkP p) (ht:Fit p t):Ev.Good Tryz.prog K 51 [prV p,.int .i64 link,.agg (tuC t)] (.bool (provedB p link t)):=by
 refine good_of_wp hK c51_ok (by simp) ?_
 have hl:=hp.trialsLen
 have hn:=hp.needB ht
 simp
 refine loop_q (fun i=>[(1,AV.iv (IV.int IntKind.i64 link)),(3,AV.iv (.ptr [deedsV p.chain.deeds,sightsV p.chain.sights,.int .i64 p.chain.wrong,leversV p.machine.levers,.int .i64 p.machine.water,.int .i64 p.machine.llo,.int .i64 p.machine.lhi,balsV p.machine.bals,.int .i64 p.machine.wrong,trialsV p.trials,.int .i64 p.need,.int .i64 p.rule])),(5,AV.iv (.ptr [ints t.ends,ints t.set.shorts,.int .i64 t.set.leak])),(7,AV.iv (IV.int IntKind.i64 (i:Nat)))]) (fun _=>[]) p.trials.length (fun i=>∀ k,k<i→provedAt p link t k=false) (by simp) ?_ ?_
 ·intro h
  rw[LoopAt_enter c51_b0.eq_1]
  have:provedB p link t=false:=any_range_none h
  simp[this]
 ·intro i hi h ih
  have hno:∀ (hh:provedAt p link t i=false),∀ k,k<i+1→provedAt p link t k=false:=fun hh k hk=>by
   rcases Nat.lt_succ_iff_lt_or_eq.1 hk with hk | rfl
   ·exact h k hk
   ·exact hh
  have hyes:provedAt p link t i=true→provedB p link t=true:=fun hh=>any_range_some i hi hh
  rw[LoopAt_enter c51_b0.eq_1]
  simp[hi] at ih ⊢
  intros
  refine callK_of (good55 hK p i t hp hi ht) (.inl rfl) ?_
  by_cases k1:p.need*den t.set≤loadN p i t.set
  ·simp[k1]
   (repeat' first | omega | (with_reducible apply And.intro) | intro _)
   refine callK_of (good113 hK p i t.ends hp hi ht.ends) (.inl rfl) ?_
   simp
   refine callK_of (good52n hK (thenN p i (endF t.ends)) link) (.inl rfl) ?_
   cases k2:inN (thenN p i (endF t.ends)) link
   ·have:=ih (hno (by simp[provedAt,k2]))
    simp
    (repeat' first | omega | (with_reducible apply And.intro) | intro _)
   ·simp
    refine callK_of (good54 hK p i t.ends hp hi ht.ends) (.inl rfl) ?_
    by_cases k3:brokeN p i (endF t.ends)=link
    ·have:=ih (hno (by simp[provedAt,k3]))
     simp[k3]
     (repeat' first | omega | (with_reducible apply And.intro) | intro _)
    ·have:=hyes (by simp[provedAt,k1,k2,k3])
     simp[k3,this]
  ·have:=ih (hno (by simp[provedAt,k1]))
   simp[k1]
   (repeat' first | omega | (with_reducible apply And.intro) | intro _)
theorem good98 (a b:Int):Ev.Good Tryz.prog K 98 [.int .i64 a,.int .i64 b] (.int .i64 (toldN a b)):=by
 refine good_of_wp hK c98_ok (by simp) ?_
 by_cases h1:a=b
 ·simp[h1,toldN]
 ·by_cases h2:a=0
  ·have:¬ 0=b:=by omega
   simp[h2,toldN,this]
  ·simp[h1,h2,toldN]
theorem good97 (l:List Int) (lo hi:Int) (h1 : -1000≤lo) (h2:lo≤hi) (h3:hi≤1000):Ev.Good Tryz.prog K 97 [ints l,.int .i64 lo,.int .i64 hi] (ints (sortedL l lo hi)):=by
 refine good_of_wp hK c97_ok (by simp) ?_
 simp
 have e0:lo=lo+((0:Nat):Int):=by simp
 conv=>arg 8;rw[e0]
 refine loop_q (fun i=>[(0,AV.iv (ints l)),(2,AV.iv (IV.int IntKind.i64 hi)),(7,AV.aref 7 (sortedP l lo i).length),(8,AV.iv (IV.int IntKind.i64 (lo+(i:Nat))))])
  (fun i=>[(7,AO.arr 3 1 (emb ((sortedP l lo i).map fun n=>[.int .i64 n])) 0)]) (hi+1-lo).toNat (fun i=>True) trivial ?_ ?_
 ·intro _
  have e1:lo+((hi+1-lo).toNat:Int)=hi+1:=by omega
  have e2:¬ hi+1≤hi:=by omega
  rw[e1,LoopAt_enter c97_b0.eq_1]
  simp[e2,sortedL]
 ·intro i hi' _ ih
  have hln:=sortedP_len l lo i
  have e1:lo+(i:Int)≤hi:=by omega
  rw[sortedP_succ] at ih
  rw[LoopAt_enter c97_b0.eq_1]
  simp[e1]
  refine callK_of (good52 hK l (lo+i)) (.inl rfl) ?_
  have e3:lo+((i:Int)+1)=lo+i+1:=by omega
  by_cases hm:(lo+(i:Int))∈l
  ·simp[hm,e3] at ih ⊢
   (repeat' first | omega | (with_reducible apply And.intro) | intro _)
  ·simp[hm,e3] at ih ⊢
   (repeat' first | omega | (with_reducible apply And.intro) | intro _)
end
end Go.Pf

/- All truths of a proof: the reference. -/
namespace Go.Pf
open Go Go.Ev Go.Proofs Go.RowKit
set_option maxRecDepth 8000
def endsD (d:Deed):List Int:=(if d.frm=0∨d.frm=2 then [0] else [])++(if d.frm=1∨d.frm=2 then [1] else [])
def choices:List Deed→List (List Int)
 | []=>[[]]
 | d::r=>(endsD d).flatMap fun e=>(choices r).map (e::·)
noncomputable def endsL (c:Chain) (first:List Int) (rest:List Deed):List (List Int):=((choices rest).map (first++·)).filter fun e=>decide (isTr c e)
theorem endsL_cons (c:Chain) (first:List Int) (d:Deed) (r:List Deed):endsL c first (d::r)=(endsD d).flatMap fun e=>endsL c (first++[e]) r:=by
 simp only[endsL,choices,List.map_flatMap,List.filter_flatMap,List.map_map]
 congr 1
 funext e
 congr 2
 simp[Function.comp_def]
def acc {α:Type} (pc:Nat→List α) (i:Nat):List α:=(List.range i).flatMap pc
theorem acc_zero {α:Type} (pc:Nat→List α):acc pc 0=[]:=rfl
theorem acc_succ {α:Type} (pc:Nat→List α) (i:Nat):acc pc (i+1)=acc pc i++pc i:=by simp[acc,List.range_succ]
noncomputable def pieceE (c:Chain) (first:List Int) (d:Deed) (r:List Deed) (i:Nat):List (List Int):=if d.frm=i∨d.frm=2 then endsL c (first++[(i:Int)]) r else []
theorem endsL_pieces (c:Chain) (first:List Int) (d:Deed) (r:List Deed):endsL c first (d::r)=acc (pieceE c first d r) 2:=by
 rw[endsL_cons]
 unfold acc
 have:List.range 2=[0,1]:=rfl
 rw[this]
 unfold endsD pieceE
 by_cases h0:d.frm=0
 ·simp[h0]
 ·by_cases h1:d.frm=1
  ·simp[h1]
  ·by_cases h2:d.frm=2
   ·simp[h2]
   ·simp[h0,h1,h2]
theorem endsD_len (d:Deed):(endsD d).length≤2:=by unfold endsD;split<;>split<;>simp
theorem flatMap_len {α β:Type} (f:α→List β) (n:Nat):∀ l:List α,(∀ a∈l,(f a).length≤n)→(l.flatMap f).length≤l.length*n
 | [],_=>by simp
 | a::l,h=>by
   have h1:=h a (by simp)
   have h2:=flatMap_len f n l fun b hb=>h b (by simp[hb])
   simp only[List.flatMap_cons,List.length_append,List.length_cons,Nat.succ_mul]
   omega
theorem acc_len {α:Type} (pc:Nat→List α) (n:Nat) (h:∀ i,(pc i).length≤n) (i:Nat):(acc pc i).length≤i*n:=by
 have:=flatMap_len pc n (List.range i) fun a _=>h a
 simpa[acc] using this
theorem endsL_len (c:Chain):∀ (rest:List Deed) (first:List Int),(endsL c first rest).length≤2 ^ rest.length
 | [],first=>by
   have:=List.length_filter_le (fun e=>decide (isTr c e)) ([[]].map (first++·))
   simpa[endsL,choices] using this
 | d::r,first=>by
   rw[endsL_cons]
   have h1:=flatMap_len (fun e=>endsL c (first++[e]) r) (2 ^ r.length) (endsD d) fun e _=>endsL_len c r (first++[e])
   have h2:=Nat.mul_le_mul_right (2 ^ r.length) (endsD_len d)
   simp only[List.length_cons,Nat.pow_succ]
   omega
theorem pow_le12 {n:Nat} (h:n≤12):2 ^ n≤4096:=Nat.pow_le_pow_right (by omega) h
section
variable {K:World→Prop} (hK:∀ w w',K w→Below w.heap.size w w'→K w')
include hK
theorem good146 (c:Chain) (hc:OkC c):∀ (n:Nat) (first:List Int),first.length+n=c.deeds.length→Ev.Good Tryz.prog K 146 [chV c,ints first] (.sl 1 ((endsL c first (c.deeds.drop first.length)).map fun e=>[ints e]))
 | 0,first,hn=>by
   refine good_of_wp hK c146_ok (by simp) ?_
   have e1:c.deeds.drop first.length=[]:=List.drop_eq_nil_of_le (by omega)
   have e2:first.length=c.deeds.length:=by omega
   rw[e1]
   simp[e2]
   intros
   refine callK_of (good110 hK c first hc) (.inl rfl) ?_
   by_cases h:isTr c first
   ·simp[h,endsL,choices]
   ·simp[h,endsL,choices]
 | n+1,first,hn=>by
   have ih:=good146 c hc n
   refine good_of_wp hK c146_ok (by simp) ?_
   have hlt:first.length<c.deeds.length:=by omega
   have hne:¬ (first.length:Int)=c.deeds.length:=by omega
   have hne':¬ first.length=c.deeds.length:=by omega
   have hl:=hc.len
   have e1:c.deeds.drop first.length=c.deeds[first.length]::c.deeds.drop (first.length+1):=List.drop_eq_getElem_cons hlt
   rw[e1,endsL_pieces]
   have hb:∀ i,(pieceE c first c.deeds[first.length] (c.deeds.drop (first.length+1)) i).length≤4096:=fun i=>by
    unfold pieceE
    split
    ·exact Nat.le_trans (endsL_len c _ _) (pow_le12 (by simp;omega))
    ·simp
   have ih1:∀ i:Nat,c.deeds[first.length].frm=i∨c.deeds[first.length].frm=2→Ev.Good Tryz.prog K 146 [chV c,ints (first++[(i:Int)])] (.sl 1 ((pieceE c first c.deeds[first.length] (c.deeds.drop (first.length+1)) i).map fun e=>[ints e])):=fun i hi=>by
    have:=ih (first++[(i:Int)]) (by simp;omega)
    simp only[List.length_append,List.length_cons,List.length_nil,Nat.zero_add] at this
    rwa [pieceE,if_pos hi]
   have hno:∀ i:Nat,¬ (c.deeds[first.length].frm=i∨c.deeds[first.length].frm=2)→pieceE c first c.deeds[first.length] (c.deeds.drop (first.length+1)) i=[]:=fun i hi=>by
    rw[pieceE,if_neg hi]
   generalize pieceE c first c.deeds[first.length] (c.deeds.drop (first.length+1))=pc at *
   simp[hne,hne']
   (repeat' first | omega | (with_reducible apply And.intro) | intro _)
   refine loop_q (fun i=>[(1,AV.iv (ints first)),(2,AV.iv (.ptr [deedsV c.deeds,sightsV c.sights,.int .i64 c.wrong])),(5,AV.aref 5 (acc pc i).length),(6,AV.iv (IV.int IntKind.i64 (i:Nat)))])
    (fun i=>[(5,AO.arr 64 1 (emb ((acc pc i).map fun e=>[ints e])) 0)]) 2 (fun i=>True) trivial ?_ ?_
   ·intro _
    rw[LoopAt_enter c146_b0.eq_1]
    simp
   ·intro i hi _ hh
    have hlen:=acc_len pc 4096 hb i
    have hbi:=hb i
    rw[acc_succ pc i] at hh
    rw[LoopAt_enter c146_b0.eq_1]
    have hi2:(i:Int)<2:=by omega
    by_cases hq:c.deeds[first.length].frm=i∨c.deeds[first.length].frm=2
    ·have hg:=ih1 i hq
     by_cases q1:c.deeds[first.length].frm=i
     ·have q2:∀ A:Prop,(¬ c.deeds[first.length].frm=i→A):=fun A h=>absurd q1 h
      simp[hi2,hlt] at hh ⊢
      simp[q1]
      (repeat' first | omega | (with_reducible apply And.intro) | intro _)
      refine callD_of [some (chV c),none] (by simp) (rows:=(first++[(i:Int)]).map fun n=>[.int .i64 n]) (n:=first.length+1) (sz:=1) (et:=3) (mv:=0) (r:=.sl 1 ((pc i).map fun e=>[ints e])) ?_ (by simp) (by simp[lookO]) (by simp) (by simp) ?_
      ·have:((first++[(i:Int)]).map fun n=>[IV.int IntKind.i64 n]).take (first.length+1)=(first++[(i:Int)]).map fun n=>[IV.int IntKind.i64 n]:=List.take_of_length_le (by simp)
       rw[this]
       exact hg
      ·simp[-List.map_map,emb_fold,emb_emb,emb_nil,ivss_embA]
       (repeat' first | omega | (with_reducible apply And.intro) | intro _)
     ·have q2:c.deeds[first.length].frm=2:=by omega
      simp[hi2,hlt,q1,q2] at hh ⊢
      (repeat' first | omega | (with_reducible apply And.intro) | intro _)
      refine callD_of [some (chV c),none] (by simp) (rows:=(first++[(i:Int)]).map fun n=>[.int .i64 n]) (n:=first.length+1) (sz:=1) (et:=3) (mv:=0) (r:=.sl 1 ((pc i).map fun e=>[ints e])) ?_ (by simp) (by simp[lookO]) (by simp) (by simp) ?_
      ·have:((first++[(i:Int)]).map fun n=>[IV.int IntKind.i64 n]).take (first.length+1)=(first++[(i:Int)]).map fun n=>[IV.int IntKind.i64 n]:=List.take_of_length_le (by simp)
       rw[this]
       exact hg
      ·simp[-List.map_map,emb_fold,emb_emb,emb_nil,ivss_embA]
       (repeat' first | omega | (with_reducible apply And.intro) | intro _)
    ·have hq1:¬ c.deeds[first.length].frm=i:=fun h=>hq (.inl h)
     have hq2:¬ c.deeds[first.length].frm=2:=fun h=>hq (.inr h)
     simp[hno i hq,hi2,hlt,hq1,hq2] at hh ⊢
     (repeat' first | omega | (with_reducible apply And.intro) | intro _)
theorem good146' (c:Chain) (hc:OkC c):Ev.Good Tryz.prog K 146 [chV c,.sl 1 []] (.sl 1 ((endsL c [] c.deeds).map fun e=>[ints e])):=by
 have:=good146 hK c hc c.deeds.length [] (by simp)
 simpa using this
end
def shortsAll:List Lever→List (List Int)
 | []=>[[]]
 | l::r=>acc (fun i=>(shortsAll r).map ((l.lo+(i:Nat))::·)) (l.hi+1-l.lo).toNat
def setsAll (m:Machine) (first:List Int) (rest:List Lever):List Setting:=(shortsAll rest).flatMap fun s=>(List.range (m.lhi+1-m.llo).toNat).map fun k:Nat=>⟨first++s,m.llo+k⟩
noncomputable def setsL (m:Machine) (first:List Int) (rest:List Lever):List Setting:=(setsAll m first rest).filter fun s=>decide (isSet m s)
theorem setsL_cons (m:Machine) (first:List Int) (l:Lever) (r:List Lever):setsL m first (l::r)=acc (fun i=>setsL m (first++[l.lo+(i:Nat)]) r) (l.hi+1-l.lo).toNat:=by
 simp only[setsL,setsAll,shortsAll,acc,List.flatMap_assoc,List.filter_flatMap]
 congr 1
 funext i
 simp[List.flatMap_map]
theorem setsL_len (m:Machine):∀ (rest:List Lever) (first:List Int),(∀ l∈rest,1≤spanL l)→1≤m.lhi-m.llo+1→((setsL m first rest).length:Int)≤(m.lhi-m.llo+1)*prodF spanL rest
 | [],first,_,h=>by
   have:=List.length_filter_le (fun s=>decide (isSet m s)) (setsAll m first [])
   simp[setsAll,shortsAll] at this
   simp only[setsL,prodF]
   simp only[setsAll,shortsAll] at this ⊢
   simp at this ⊢
   omega
 | l::r,first,hs,h=>by
   rw[setsL_cons]
   have ih:=fun e:Int=>setsL_len m r (first++[e]) (fun l hl=>hs l (by simp[hl])) h
   have hl:=hs l (by simp)
   have hp:=prodF_pos spanL r fun l hl=>hs l (by simp[hl])
   have hpp:=Int.mul_nonneg (a:=m.lhi-m.llo+1) (b:=prodF spanL r) (by omega) (by omega)
   have h1:=acc_len (fun i=>setsL m (first++[l.lo+(i:Nat)]) r) ((m.lhi-m.llo+1)*prodF spanL r).toNat (fun i=>by have:=ih (l.lo+(i:Nat));omega) (l.hi+1-l.lo).toNat
   have e1:((l.hi+1-l.lo).toNat:Int)=spanL l:=by unfold spanL at *;omega
   have e2:(((m.lhi-m.llo+1)*prodF spanL r).toNat:Int)=(m.lhi-m.llo+1)*prodF spanL r:=by omega
   have h2:=Int.ofNat_le.2 h1
   rw[Int.natCast_mul,e1,e2] at h2
   simp only[prodF]
   rw[Int.mul_left_comm]
   exact h2
theorem prodF_append {α:Type} (f:α→Int):∀ l r:List α,prodF f (l++r)=prodF f l*prodF f r
 | [],r=>by simp[prodF]
 | a::l,r=>by simp[prodF,prodF_append f l r,Int.mul_assoc]
theorem sets_drop {m:Machine} (h:OkM m) (k:Nat):(m.lhi-m.llo+1)*prodF spanL (m.levers.drop k)≤sets m m.levers.length:=by
 have h1:=h.leak
 simp only[inR] at h1
 have e:prodF spanL m.levers=prodF spanL (m.levers.take k)*prodF spanL (m.levers.drop k):=by rw[← prodF_append,List.take_append_drop]
 have h2:=prodF_pos spanL (m.levers.take k) fun a ha=>(h.span (List.mem_of_mem_take ha)).1
 have h3:=prodF_pos spanL (m.levers.drop k) fun a ha=>(h.span (List.mem_of_mem_drop ha)).1
 have h4:=Int.mul_le_mul_of_nonneg_right h2 (show 0≤prodF spanL (m.levers.drop k) by omega)
 rw[Int.one_mul] at h4
 unfold sets
 rw[List.take_length,e]
 exact Int.mul_le_mul_of_nonneg_left h4 (by omega)
noncomputable def pieceS (m:Machine) (first:List Int) (k:Nat):List Setting:=if isSet m ⟨first,m.llo+k⟩ then [⟨first,m.llo+k⟩] else []
theorem setsL_nil (m:Machine) (first:List Int):setsL m first []=acc (pieceS m first) (m.lhi+1-m.llo).toNat:=by
 simp only[setsL,setsAll,shortsAll,acc,List.flatMap_cons,List.flatMap_nil,List.append_nil]
 generalize (m.lhi+1-m.llo).toNat=n
 induction n with
 | zero=>rfl
 | succ n ih =>
   rw[List.range_succ,List.map_append,List.filter_append,ih,List.flatMap_append]
   congr 1
   by_cases h:isSet m ⟨first,m.llo+n⟩<;>simp[pieceS,h]
section
variable {K:World→Prop} (hK:∀ w w',K w→Below w.heap.size w w'→K w')
include hK
theorem good147 (m:Machine) (hm:OkM m) (hs:sets m m.levers.length≤1000000):∀ (n:Nat) (first:List Int),first.length+n=m.levers.length→Ev.Good Tryz.prog K 147 [maV m,ints first] (.sl 2 ((setsL m first (m.levers.drop first.length)).map seC))
 | 0,first,hn=>by
   refine good_of_wp hK c147_ok (by simp) ?_
   have e1:m.levers.drop first.length=[]:=List.drop_eq_nil_of_le (by omega)
   have e2:first.length=m.levers.length:=by omega
   have hlk:=hm.leak
   have hlh:=hm.lhi
   simp only[inR] at hlk
   rw[e1,setsL_nil]
   simp[e2]
   (repeat' first | omega | (with_reducible apply And.intro) | intro _)
   have e0:AV.iv (IV.int .i64 m.llo)=AV.iv (.int .i64 (m.llo+((0:Nat):Int))):=by simp
   rw[e0]
   refine loop_q (fun i=>[(1,AV.iv (ints first)),(2,AV.iv (.ptr [leversV m.levers,.int .i64 m.water,.int .i64 m.llo,.int .i64 m.lhi,balsV m.bals,.int .i64 m.wrong])),(5,AV.aref 5 (acc (pieceS m first) i).length),(6,AV.iv (IV.int IntKind.i64 (m.llo+(i:Nat))))])
    (fun i=>[(5,AO.arr 72 2 (emb ((acc (pieceS m first) i).map seC)) 0)]) (m.lhi+1-m.llo).toNat (fun i=>True) trivial ?_ ?_
   ·intro _
    have q1:m.llo+((m.lhi+1-m.llo).toNat:Int)=m.lhi+1:=by omega
    have q2:¬ m.lhi+1≤m.lhi:=by omega
    rw[q1,LoopAt_enter c147_b0.eq_1]
    simp[q2]
   ·intro i hi _ hh
    have q1:m.llo+(i:Int)≤m.lhi:=by omega
    have q3:m.llo+((i:Int)+1)=m.llo+i+1:=by omega
    have hlen:=acc_len (pieceS m first) 1 (fun k=>by unfold pieceS;split<;>simp) i
    rw[acc_succ _ i] at hh
    rw[LoopAt_enter c147_b0.eq_1]
    simp[q1]
    refine callK_of (good111 hK m ⟨first,m.llo+i⟩ hm) (.inl rfl) ?_
    by_cases k:isSet m ⟨first,m.llo+i⟩
    ·have hp:pieceS m first i=[⟨first,m.llo+i⟩]:=by simp[pieceS,k]
     rw[hp] at hh
     simp[k,q3] at hh ⊢
     (repeat' first | omega | (with_reducible apply And.intro) | intro _)
    ·have hp:pieceS m first i=[]:=by simp[pieceS,k]
     rw[hp] at hh
     simp[k,q3] at hh ⊢
     (repeat' first | omega | (with_reducible apply And.intro) | intro _)
 | n+1,first,hn=>by
   have ih:=good147 m hm hs n
   refine good_of_wp hK c147_ok (by simp) ?_
   have hlt:first.length<m.levers.length:=by omega
   have hne:¬ (first.length:Int)=m.levers.length:=by omega
   have hl:=hm.len
   have e1:m.levers.drop first.length=m.levers[first.length]::m.levers.drop (first.length+1):=List.drop_eq_getElem_cons hlt
   have hlv:=hm.lever (List.getElem_mem hlt)
   have hspan:=(hm.span (List.getElem_mem hlt))
   rw[e1,setsL_cons]
   have hbI:=sets_drop hm (first.length+1)
   have hlk:=hm.leak
   simp only[inR] at hlk
   have hb:∀ i:Nat,(setsL m (first++[m.levers[first.length].lo+(i:Nat)]) (m.levers.drop (first.length+1))).length≤1000000:=fun i=>by
    have:=setsL_len m (m.levers.drop (first.length+1)) (first++[m.levers[first.length].lo+(i:Nat)]) (fun l hl=>(hm.span (List.mem_of_mem_drop hl)).1) (by omega)
    omega
   have ih1:∀ i:Nat,Ev.Good Tryz.prog K 147 [maV m,ints (first++[m.levers[first.length].lo+(i:Int)])] (.sl 2 ((setsL m (first++[m.levers[first.length].lo+(i:Nat)]) (m.levers.drop (first.length+1))).map seC)):=fun i=>by
    have:=ih (first++[m.levers[first.length].lo+(i:Int)]) (by simp;omega)
    simpa only[List.length_append,List.length_cons,List.length_nil,Nat.zero_add] using this
   have hbs:∀ i,((fun i:Nat=>setsL m (first++[m.levers[first.length].lo+(i:Nat)]) (m.levers.drop (first.length+1))) i).length≤1000000:=hb
   have ih2:∀ i:Nat,Ev.Good Tryz.prog K 147 [maV m,ints (first++[m.levers[first.length].lo+(i:Int)])] (.sl 2 (((fun i:Nat=>setsL m (first++[m.levers[first.length].lo+(i:Nat)]) (m.levers.drop (first.length+1))) i).map seC)):=ih1
   clear hb ih1
   generalize (fun i:Nat=>setsL m (first++[m.levers[first.length].lo+(i:Nat)]) (m.levers.drop (first.length+1)))=pc at *
   simp[hne,hlt]
   (repeat' first | omega | (with_reducible apply And.intro) | intro _)
   have e0:AV.iv (IV.int .i64 m.levers[first.length].lo)=AV.iv (.int .i64 (m.levers[first.length].lo+((0:Nat):Int))):=by simp
   rw[e0]
   refine loop_q (fun i=>[(1,AV.iv (ints first)),(2,AV.iv (.ptr [leversV m.levers,.int .i64 m.water,.int .i64 m.llo,.int .i64 m.lhi,balsV m.bals,.int .i64 m.wrong])),(5,AV.aref 5 (acc pc i).length),(8,AV.loc 8 0),(9,AV.iv (IV.int IntKind.i64 (m.levers[first.length].lo+(i:Nat))))])
    (fun i=>[(5,AO.arr 72 2 (emb ((acc pc i).map seC)) 0),(8,AO.box [.iv (.int .i64 (m.levers[first.length].lo+((0:Nat):Int))),.iv (.int .i64 m.levers[first.length].hi)])]) (m.levers[first.length].hi+1-m.levers[first.length].lo).toNat (fun i=>True) trivial ?_ ?_
   ·intro _
    have q1:m.levers[first.length].lo+((m.levers[first.length].hi+1-m.levers[first.length].lo).toNat:Int)=m.levers[first.length].hi+1:=by omega
    have q2:¬ m.levers[first.length].hi+1≤m.levers[first.length].hi:=by omega
    rw[q1,LoopAt_enter c147_b1.eq_1]
    simp[q2]
   ·intro i hi _ hh
    have q1:m.levers[first.length].lo+(i:Int)≤m.levers[first.length].hi:=by omega
    have q3:m.levers[first.length].lo+((i:Int)+1)=m.levers[first.length].lo+i+1:=by omega
    have hlen:=acc_len pc 1000000 hbs i
    have hbi:=hbs i
    have hg:=ih2 i
    rw[acc_succ pc i] at hh
    rw[LoopAt_enter c147_b1.eq_1]
    simp[q1,q3] at hh ⊢
    (repeat' first | omega | (with_reducible apply And.intro) | intro _)
    refine callD_of [some (maV m),none] (by simp) (rows:=(first++[m.levers[first.length].lo+(i:Int)]).map fun n=>[.int .i64 n]) (n:=first.length+1) (sz:=1) (et:=3) (mv:=0) (r:=.sl 2 ((pc i).map seC)) ?_ (by simp) (by simp[lookO]) (by simp) (by simp) ?_
    ·have:((first++[m.levers[first.length].lo+(i:Int)]).map fun n=>[IV.int IntKind.i64 n]).take (first.length+1)=(first++[m.levers[first.length].lo+(i:Int)]).map fun n=>[IV.int IntKind.i64 n]:=List.take_of_length_le (by simp)
     rw[this]
     exact hg
    ·simp[-List.map_map,emb_fold,emb_emb,emb_nil,ivss_embA]
     (repeat' first | omega | (with_reducible apply And.intro) | intro _)
end
theorem acc_getD {α β:Type} (f:α→List β) (d:α) (l:List α):acc (fun a=>f (l.getD a d)) l.length=l.flatMap f:=by
 have:∀ n,n≤l.length→acc (fun a=>f (l.getD a d)) n=(l.take n).flatMap f:=by
  intro n
  induction n with
  | zero=>intro _;simp[acc]
  | succ n ih =>
    intro h
    have hn:n<l.length:=by omega
    rw[acc_succ,ih (by omega),List.take_succ_eq_append_getElem hn,List.flatMap_append]
    congr 1
    simp[List.getD_eq_getElem?_getD,hn]
 have h:=this l.length (Nat.le_refl _)
 rwa [List.take_length] at h
theorem prefixes {α β:Type} (f:α→β) (l:List α):∃ P:Nat→List β,P 0=[]∧(∀ k (h:k<l.length),P (k+1)=P k++[f l[k]])∧P l.length=l.map f∧∀ k,k≤l.length→(P k).length=k :=
 ⟨fun k=>(l.take k).map f,by simp,fun k h=>by show (l.take (k+1)).map f=_;rw[List.take_succ_eq_append_getElem h,List.map_append];rfl,by simp,fun k h=>by simp;omega⟩
noncomputable def knownL (p:Proof):List Truth:=(endsL p.chain [] p.chain.deeds).flatMap fun e=>(setsL p.machine [] p.machine.levers).map fun s=>⟨e,s⟩
noncomputable def kL (p:Proof) (is:Bool):List Truth:=if OkP p∧is=true then knownL p else []
noncomputable def kE (p:Proof) (is:Bool):Int:=if OkP p then (if is=true then (if knownL p=[] then 3 else 0) else 1) else 60
theorem endsL_truth {c:Chain} {e:List Int} (h:e∈endsL c [] c.deeds):isTr c e:=by
 simp only[endsL,List.mem_filter,decide_eq_true_eq] at h
 exact h.2
theorem setsL_truth {m:Machine} {s:Setting} (h:s∈setsL m [] m.levers):isSet m s:=by
 simp only[setsL,List.mem_filter,decide_eq_true_eq] at h
 exact h.2
theorem known_truth {p:Proof} {t:Truth} (h:t∈knownL p):isTruth p t:=by
 simp only[knownL,List.mem_flatMap,List.mem_map] at h
 obtain ⟨e,he,s,hs,rfl⟩:=h
 exact ⟨endsL_truth he,setsL_truth hs⟩
theorem isTruth.fit {p:Proof} {t:Truth} (h:isTruth p t):Fit p t:=⟨by rw[h.1.1.1];omega,h.2.1⟩
theorem known_fit {p:Proof} {t:Truth} (h:t∈knownL p):Fit p t:=(known_truth h).fit
theorem kL_fit {p:Proof} {is:Bool}:∀ t∈kL p is,Fit p t:=fun t h=>by
 unfold kL at h
 split at h
 ·exact known_fit h
 ·cases h
theorem kE_ok {p:Proof} {is:Bool} (h:kE p is=0):OkP p∧is=true∧kL p is=knownL p∧knownL p≠[]:=by
 unfold kE at h
 split at h
 ·rename_i h1
  split at h
  ·rename_i h2
   split at h
   ·cases h
   ·rename_i h3
    exact ⟨h1,h2,by simp[kL,h1,h2],h3⟩
  ·cases h
 ·cases h
theorem endsL_le {c:Chain} (h:OkC c):(endsL c [] c.deeds).length≤4096:=Nat.le_trans (endsL_len c _ _) (pow_le12 h.len)
theorem setsL_le {m:Machine} (h:OkM m):((setsL m [] m.levers).length:Int)≤sets m m.levers.length:=by
 have h1:=h.leak
 simp only[inR] at h1
 have:=setsL_len m m.levers [] (fun l hl=>(h.span hl).1) (by omega)
 rwa [sets,List.take_length]
section
variable {K:World→Prop} (hK:∀ w w',K w→Below w.heap.size w w'→K w')
include hK
theorem good147' (m:Machine) (hm:OkM m) (hs:sets m m.levers.length≤1000000):Ev.Good Tryz.prog K 147 [maV m,.sl 1 []] (.sl 2 ((setsL m [] m.levers).map seC)):=by
 have:=good147 hK m hm hs m.levers.length [] (by simp)
 simpa using this
theorem good92 (p:Proof) (is:Bool) (hsm:Small p) (hs:OkP p→sets p.machine p.machine.levers.length≤1000000) :
  Ev.Good Tryz.prog K 92 [prV p,.bool is] (.tup [.sl 3 ((kL p is).map tuC),.int .i64 (kE p is)]):=by
 refine good_of_wp hK c92_ok (by simp) ?_
 simp
 refine callK_of (good26 hK p hsm) (.inl rfl) ?_
 by_cases h1:OkP p
 ·cases is
  ·simp[h1,kL,kE]
  ·simp[h1]
   refine callK_of (good146' hK p.chain h1.chain) (.inl rfl) ?_
   simp
   refine callK_of (good147' hK p.machine h1.machine (hs h1)) (.inl rfl) ?_
   simp
   have hE:=endsL_le h1.chain
   have hS:=setsL_le h1.machine
   have hS2:=hs h1
   have hkE:kE p true=if knownL p=[] then 3 else 0:=by simp[kE,h1]
   have hkL:kL p true=knownL p:=by simp[kL,h1]
   have hk:=acc_getD (fun e=>(setsL p.machine [] p.machine.levers).map fun s=>(⟨e,s⟩:Truth)) [] (endsL p.chain [] p.chain.deeds)
   have hk2:knownL p=acc (fun a=>(setsL p.machine [] p.machine.levers).map fun s=>(⟨(endsL p.chain [] p.chain.deeds).getD a [],s⟩:Truth)) (endsL p.chain [] p.chain.deeds).length:=hk.symm
   rw[hkE,hkL,hk2]
   clear hk hk2 hkE hkL
   generalize endsL p.chain [] p.chain.deeds=E at *
   generalize setsL p.machine [] p.machine.levers=S at *
   have hpl:∀ i,((fun a:Nat=>S.map fun s=>(⟨E.getD a [],s⟩:Truth)) i).length≤S.length:=fun i=>by simp
   refine loop_q (fun i=>[(7,AV.aref 7 (acc (fun a=>S.map fun s=>(⟨E.getD a [],s⟩:Truth)) i).length),(8,AV.iv (.sl 1 (E.map fun e=>[ints e]))),(9,AV.iv (.sl 2 (S.map seC))),(10,AV.iv (IV.int IntKind.i64 (i:Nat)))])
    (fun i=>[(7,AO.arr 74 3 (emb ((acc (fun a=>S.map fun s=>(⟨E.getD a [],s⟩:Truth)) i).map tuC)) 0)]) E.length (fun i=>True) trivial ?_ ?_
   ·intro _
    rw[LoopAt_enter c92_b1.eq_1]
    generalize acc (fun a:Nat=>S.map fun s=>(⟨E.getD a [],s⟩:Truth)) E.length=T
    by_cases hT:T=[]
    ·simp[hT]
    ·have hT':¬ T.length=0:=by simpa using hT
     simp[hT,hT']
   ·intro i hi _ ih
    have hlen:=acc_len (fun a:Nat=>S.map fun s=>(⟨E.getD a [],s⟩:Truth)) S.length hpl i
    have hlen2:i*S.length≤4096*1000000:=Nat.mul_le_mul (by omega) (by omega)
    have hgi:E.getD i []=E[i]:=by simp[List.getD_eq_getElem?_getD,hi]
    rw[acc_succ _ i] at ih
    rw[LoopAt_enter c92_b1.eq_1]
    simp only[hgi] at ih
    generalize acc (fun a:Nat=>S.map fun s=>(⟨E.getD a [],s⟩:Truth)) i=T at *
    simp[hi] at ih ⊢
    (repeat' first | omega | (with_reducible apply And.intro) | intro _)
    obtain ⟨Pf,hP0,hPs,hPn,hPl⟩:=prefixes (fun s=>(⟨E[i],s⟩:Truth)) S
    have hPm:(Pf S.length).map tuC=S.map (tuC∘fun s=>(⟨E[i],s⟩:Truth)):=by rw[hPn,List.map_map]
    have e0:T=T++Pf 0:=by rw[hP0,List.append_nil]
    rw[e0]
    refine loop_q (fun k=>[(7,AV.aref 7 (T++Pf k).length),(8,AV.iv (.sl 1 (E.map fun e=>[ints e]))),(9,AV.iv (.sl 2 (S.map seC))),(10,AV.iv (IV.int IntKind.i64 (i:Nat))),(11,AV.iv (IV.int IntKind.i64 (k:Nat)))])
     (fun k=>[(7,AO.arr 74 3 (emb ((T++Pf k).map tuC)) 0)]) S.length (fun i=>True) trivial ?_ ?_
    ·intro _
     have hl:=hPl S.length (Nat.le_refl _)
     rw[LoopAt_enter c92_b0.eq_1]
     simp[hl,hPm]
     (repeat' first | omega | (with_reducible apply And.intro) | intro _)
    ·intro k hk _ ih
     have hl:=hPl k (by omega)
     rw[hPs k hk] at ih
     rw[LoopAt_enter c92_b0.eq_1]
     simp[hi,hk,hl] at ih ⊢
     (repeat' first | omega | (with_reducible apply And.intro) | intro _)
 ·simp[h1,kL,kE]
end
end Go.Pf

/- The reference's queries. -/
namespace Go.Pf
open Go Go.Ev Go.Proofs Go.RowKit
set_option maxRecDepth 8000
structure Fine (p:Proof):Prop where
 small:Small p
 sets:OkP p→sets p.machine p.machine.levers.length≤1000000
theorem kL_len {p:Proof} (hf:Fine p) (is:Bool):(kL p is).length≤4096000000:=by
 unfold kL
 split
 ·rename_i h
  have h1:=flatMap_len (fun e=>(setsL p.machine [] p.machine.levers).map fun s=>(⟨e,s⟩:Truth)) 1000000 (endsL p.chain [] p.chain.deeds) fun e _=>by
   have:=setsL_le h.1.machine
   have:=hf.sets h.1
   simp;omega
  have h2:=endsL_le h.1.chain
  have:(knownL p).length≤(endsL p.chain [] p.chain.deeds).length*1000000:=h1
  omega
 ·simp
def linkB (p:Proof) (link:Int):Bool:=decide (inR link 0 ((welds p.chain.deeds).length-1))
def trialB (p:Proof) (n:Int):Bool:=decide (inR n 0 (p.trials.length-1))
noncomputable def rProved (p:Proof) (link:Int):Int:=if kE p (linkB p link)=0 then toldN ((kL p (linkB p link)).countP (provedB p link)) (kL p (linkB p link)).length else 0
noncomputable def rCond (p:Proof):Int:=if kE p true=0 then toldN ((kL p true).countP fun t=>decide (p.rule≤(failN p t:Int))) (kL p true).length else 0
noncomputable def rGood (p:Proof):Int:=if kE p true=0 then toldN ((kL p true).countP (goodB p)) (kL p true).length else 0
noncomputable def rWorst (p:Proof):Int:=(kL p true).foldl (fun b t=>min b (worthN p t)) 999999999
noncomputable def rWorth (p:Proof):Int × Int:=if kE p true=0 then (if rWorst p<0 then (0,3) else (rWorst p,0)) else (0,kE p true)
def span (l:List Int):Int × Int:=match l with
 | []=>(0,0)
 | a::r=>(r.foldl min a,r.foldl max a)
theorem span_succ (l:List Int) (a:Int):span (l++[a])=if l=[] then (a,a) else (min (span l).1 a,max (span l).2 a):=by
 cases l with
 | nil=>rfl
 | cons b r=>simp[span]
noncomputable def rFail (p:Proof):Int × Int:=span ((kL p true).map fun t=>(failN p t:Int))
noncomputable def rBlamed (p:Proof):List Int:=if kE p true=0 then acc (fun s:Nat=>if (kL p true).all (blamedB p s) then [(s:Int)] else []) 100 else []
noncomputable def rOpen (p:Proof):List Int:=if kE p true=0 then acc (fun at_:Nat=>if (kL p true).all (fun t=>provedB p ((nowN p (endF t.ends)).getD at_ 0) t) then [] else [(at_:Int)]) (leftN p.chain.deeds).toNat else []
noncomputable def rBroke (p:Proof) (n:Int):List Int:=sortedL ((kL p (trialB p n)).map fun t=>brokeN p n.toNat (endF t.ends)) 0 12
theorem kL_ok {p:Proof} {is:Bool} {t:Truth} (h:t∈kL p is):OkP p∧is=true:=by
 unfold kL at h
 split at h
 ·assumption
 ·cases h
section
variable {K:World→Prop} (hK:∀ w w',K w→Below w.heap.size w w'→K w')
include hK
theorem good28 (p:Proof) (hf:Fine p):Ev.Good Tryz.prog K 28 [prV p] (.tup [.int .i64 (kL p true).length,.int .i64 (kE p true)]):=by
 refine good_of_wp hK c28_ok (by simp) ?_
 simp
 refine callK_of (good92 hK p true hf.small hf.sets) (.inl rfl) ?_
 simp
theorem good33 (p:Proof) (link:Int) (hf:Fine p):Ev.Good Tryz.prog K 33 [prV p,.int .i64 link] (.tup [.int .i64 (rProved p link),.int .i64 (kE p (linkB p link))]):=by
 refine good_of_wp hK c33_ok (by simp) ?_
 simp
 refine callK_of (good14 hK p.chain link hf.small.deeds) (.inl rfl) ?_
 have hl:decide (inR link 0 ((idxs isWeld p.chain.deeds 0).length-1))=linkB p link:=rfl
 rw[hl]
 simp
 refine callK_of (good92 hK p (linkB p link) hf.small hf.sets) (.inl rfl) ?_
 have hn:=kL_len hf (linkB p link)
 unfold rProved
 by_cases he:kE p (linkB p link)=0
 ·have hp:=(kE_ok he).1
  have hft:∀ t∈kL p (linkB p link),Fit p t:=kL_fit
  generalize kL p (linkB p link)=l at *
  simp[he]
  refine loop_q (fun i=>[(1,AV.iv (.int .i64 link)),(2,AV.iv (.ptr [deedsV p.chain.deeds,sightsV p.chain.sights,.int .i64 p.chain.wrong,leversV p.machine.levers,.int .i64 p.machine.water,.int .i64 p.machine.llo,.int .i64 p.machine.lhi,balsV p.machine.bals,.int .i64 p.machine.wrong,trialsV p.trials,.int .i64 p.need,.int .i64 p.rule])),(6,AV.iv (.sl 3 (l.map tuC))),(8,AV.iv (IV.int IntKind.i64 ((l.take i).countP (provedB p link):Nat))),(9,AV.iv (IV.int IntKind.i64 (i:Nat)))])
   (fun _=>[]) l.length (fun i=>True) trivial ?_ ?_
  ·intro _
   rw[LoopAt_enter c33_b0.eq_1]
   simp
   intros
   refine callK_of (good98 hK _ _) (.inl rfl) ?_
   simp
  ·intro i hi _ ih
   have hle:=List.countP_le_length (p:=provedB p link) (l:=l.take i)
   simp at hle
   rw[List.take_succ_eq_append_getElem hi,List.countP_append] at ih
   rw[LoopAt_enter c33_b0.eq_1]
   simp[hi] at ih ⊢
   intros
   refine callK_of (good51 hK p link l[i] hp (hft _ (List.getElem_mem hi))) (.inl rfl) ?_
   cases hr:provedB p link l[i]
   ·simp[hr] at ih ⊢
    (repeat' first | omega | (with_reducible apply And.intro) | intro _)
   ·simp[hr] at ih ⊢
    (repeat' first | omega | (with_reducible apply And.intro) | intro _)
 ·simp[he]
theorem good32 (p:Proof) (n:Int) (hf:Fine p):Ev.Good Tryz.prog K 32 [prV p,.int .i64 n] (.tup [ints (rBroke p n),.int .i64 (kE p (trialB p n))]):=by
 refine good_of_wp hK c32_ok (by simp) ?_
 simp
 refine callK_of (good53 hK p n hf.small.trials) (.inl rfl) ?_
 have htb:decide (inR n 0 (p.trials.length-1))=trialB p n:=rfl
 rw[htb]
 simp
 refine callK_of (good92 hK p (trialB p n) hf.small hf.sets) (.inl rfl) ?_
 have hn:=kL_len hf (trialB p n)
 have hft:∀ t∈kL p (trialB p n),Fit p t:=kL_fit
 have hok:∀ t∈kL p (trialB p n),OkP p∧trialB p n=true:=fun t h=>kL_ok h
 unfold rBroke
 generalize kL p (trialB p n)=l at *
 generalize kE p (trialB p n)=er at *
 obtain ⟨Pf,hP0,hPs,hPn,hPl⟩:=prefixes (fun t=>brokeN p n.toNat (endF t.ends)) l
 rw[← hPn]
 simp
 have e0:AO.arr 3 1 [] 0=AO.arr 3 1 (emb ((Pf 0).map fun n=>[.int .i64 n])) 0:=by rw[hP0];rfl
 rw[e0]
 refine loop_q (fun i=>[(1,AV.iv (.int .i64 n)),(2,AV.iv (.ptr [deedsV p.chain.deeds,sightsV p.chain.sights,.int .i64 p.chain.wrong,leversV p.machine.levers,.int .i64 p.machine.water,.int .i64 p.machine.llo,.int .i64 p.machine.lhi,balsV p.machine.bals,.int .i64 p.machine.wrong,trialsV p.trials,.int .i64 p.need,.int .i64 p.rule])),(6,AV.iv (.sl 3 (l.map tuC))),(7,AV.iv (.int .i64 er)),(8,AV.aref 8 i),(9,AV.iv (IV.int IntKind.i64 (i:Nat)))])
  (fun i=>[(8,AO.arr 3 1 (emb ((Pf i).map fun n=>[.int .i64 n])) 0)]) l.length (fun i=>True) trivial ?_ ?_
 ·intro _
  have hl:=hPl l.length (Nat.le_refl _)
  rw[LoopAt_enter c32_b0.eq_1]
  have htk:((Pf l.length).map fun n=>[IV.int IntKind.i64 n]).take l.length=(Pf l.length).map fun n=>[IV.int IntKind.i64 n]:=List.take_of_length_le (by simp[hl])
  simp[hl,htk]
  (repeat' first | omega | (with_reducible apply And.intro) | intro _)
  refine callK_of (good97 hK (Pf l.length) 0 12 (by omega) (by omega) (by omega)) (.inl rfl) ?_
  simp
 ·intro i hi _ ih
  have hok1:=hok _ (List.getElem_mem hi)
  have hl:=hPl i (by omega)
  have hnr:=of_decide_eq_true hok1.2
  simp only[inR] at hnr
  have hnt:((n.toNat:Nat):Int)=n:=by omega
  rw[hPs i hi] at ih
  rw[LoopAt_enter c32_b0.eq_1]
  simp[hi,hl] at ih ⊢
  (repeat' first | omega | (with_reducible apply And.intro) | intro _)
  have hg:=good54 hK p n.toNat l[i].ends hok1.1 (by omega) (hft _ (List.getElem_mem hi)).ends
  rw[hnt] at hg
  refine callK_of hg (.inl rfl) ?_
  simp[hl]
  (repeat' first | omega | (with_reducible apply And.intro) | intro _)
end
end Go.Pf

/- The reference's machines: loads and weights. -/
namespace Go.Ev
theorem loop_m {P:Program} {K:World→Prop} {F:Way→Env→Objs→Prop} {c:AC} {ks ids:List Nat} {k:List AI} {S:Type} (st:S→Env) (so:S→Objs) (I:S→Prop) (μ:S→Nat)
  (h:∀ s,I s→(∀ s',I s'→μ s'<μ s→LoopF P K F c ks ids k (st s') (so s'))→LoopF P K F c ks ids k (st s) (so s)):∀ s,I s→LoopF P K F c ks ids k (st s) (so s):=by
 have:∀ n s,μ s<n→I s→LoopF P K F c ks ids k (st s) (so s):=by
  intro n
  induction n with
  | zero=>intro s hs _;omega
  | succ n ih=>exact fun s hs hi=>h s hi fun s' hi' hlt=>ih s' (by omega) hi'
 exact fun s hi=>this (μ s+1) s (by omega) hi
end Go.Ev
namespace Go.Pf
open Go Go.Ev Go.Proofs Go.RowKit
set_option maxRecDepth 8000
theorem shortsAll_len:∀ (r:List Lever) (s:List Int),s∈shortsAll r→s.length=r.length
 | [],s,h=>by simp[shortsAll] at h;simp[h]
 | l::r,s,h=>by
   simp only[shortsAll,acc,List.mem_flatMap,List.mem_map] at h
   obtain ⟨i,_,x,hx,rfl⟩:=h
   simp[shortsAll_len r x hx]
theorem shortsAll_in:∀ (r:List Lever) (s:List Int),s∈shortsAll r→∀ i (h:i<r.length) (h':i<s.length),inR s[i] r[i].lo r[i].hi
 | [],s,h,i,hi,_=>by simp at hi
 | l::r,s,h,i,hi,hi'=>by
   simp only[shortsAll,acc,List.mem_flatMap,List.mem_map,List.mem_range] at h
   obtain ⟨j,hj,x,hx,rfl⟩:=h
   cases i with
   | zero=>simp only[List.getElem_cons_zero,inR];omega
   | succ i=>simp only[List.getElem_cons_succ];exact shortsAll_in r x hx i (by simpa using hi) (by simpa using hi')
theorem setsAll_ok {m:Machine} {s:Setting} (h:s∈setsAll m [] m.levers):okS m s:=by
 simp only[setsAll,List.mem_flatMap,List.mem_map,List.mem_range,List.nil_append] at h
 obtain ⟨x,hx,k,hk,rfl⟩:=h
 exact ⟨shortsAll_len _ _ hx,by simp only[inR];omega,shortsAll_in _ _ hx⟩
theorem setsAll_cons (m:Machine) (first:List Int) (l:Lever) (r:List Lever):setsAll m first (l::r)=acc (fun i=>setsAll m (first++[l.lo+(i:Nat)]) r) (l.hi+1-l.lo).toNat:=by
 simp only[setsAll,shortsAll,acc,List.flatMap_assoc]
 congr 1
 funext i
 simp[List.flatMap_map]
def pieceA (m:Machine) (first:List Int) (k:Nat):List Setting:=[⟨first,m.llo+k⟩]
theorem setsAll_nil (m:Machine) (first:List Int):setsAll m first []=acc (pieceA m first) (m.lhi+1-m.llo).toNat:=by
 simp only[setsAll,shortsAll,acc,List.flatMap_cons,List.flatMap_nil,List.append_nil]
 generalize (m.lhi+1-m.llo).toNat=n
 induction n with
 | zero=>rfl
 | succ n ih=>rw[List.range_succ,List.map_append,ih,List.flatMap_append];rfl
theorem setsAll_len (m:Machine):∀ (rest:List Lever) (first:List Int),(∀ l∈rest,1≤spanL l)→1≤m.lhi-m.llo+1→((setsAll m first rest).length:Int)≤(m.lhi-m.llo+1)*prodF spanL rest
 | [],first,_,h=>by
   simp[setsAll,shortsAll,prodF]
   omega
 | l::r,first,hs,h=>by
   rw[setsAll_cons]
   have ih:=fun e:Int=>setsAll_len m r (first++[e]) (fun l hl=>hs l (by simp[hl])) h
   have hl:=hs l (by simp)
   have hp:=prodF_pos spanL r fun l hl=>hs l (by simp[hl])
   have hpp:=Int.mul_nonneg (a:=m.lhi-m.llo+1) (b:=prodF spanL r) (by omega) (by omega)
   have h1:=acc_len (fun i=>setsAll m (first++[l.lo+(i:Nat)]) r) ((m.lhi-m.llo+1)*prodF spanL r).toNat (fun i=>by have:=ih (l.lo+(i:Nat));omega) (l.hi+1-l.lo).toNat
   have e1:((l.hi+1-l.lo).toNat:Int)=spanL l:=by unfold spanL at *;omega
   have e2:(((m.lhi-m.llo+1)*prodF spanL r).toNat:Int)=(m.lhi-m.llo+1)*prodF spanL r:=by omega
   have h2:=Int.ofNat_le.2 h1
   rw[Int.natCast_mul,e1,e2] at h2
   simp only[prodF]
   rw[Int.mul_left_comm]
   exact h2
noncomputable def tL (m:Machine) (is:Bool):List Setting:=if OkM m∧is=true then setsL m [] m.levers else []
noncomputable def tE (m:Machine) (is:Bool):Int:=if OkM m then (if is=true then (if setsL m [] m.levers=[] then 3 else 0) else 1) else 30
theorem tL_ok {m:Machine} {is:Bool} {s:Setting} (h:s∈tL m is):OkM m∧is=true∧okS m s:=by
 unfold tL at h
 split at h
 ·rename_i h1
  exact ⟨h1.1,h1.2,(setsL_truth h).1⟩
 ·cases h
def askB (w mn load:Int):Bool:=decide (inR w 0 9999∧inR mn 0 99∧inR load 0 999999999)
def lowS (m:Machine) (w mn:Int) (s:Setting):Int:=(num m s w mn).tdiv (den s)
def upS (m:Machine) (w mn:Int) (s:Setting):Int:=(num m s w mn+den s-1).tdiv (den s)
noncomputable def rLoad (m:Machine) (w mn:Int):Int × Int:=((span ((tL m (askB w mn 0)).map (lowS m w mn))).1,(span ((tL m (askB w mn 0)).map (upS m w mn))).2)
section
variable {K:World→Prop} (hK:∀ w w',K w→Below w.heap.size w w'→K w')
include hK
theorem good175 (m:Machine) (hm:OkM m) (hs:sets m m.levers.length≤1000000):∀ (n:Nat) (first:List Int),first.length+n=m.levers.length→Ev.Good Tryz.prog K 175 [maV m,ints first] (.sl 2 ((setsAll m first (m.levers.drop first.length)).map seC))
 | 0,first,hn=>by
   refine good_of_wp hK c175_ok (by simp) ?_
   have e1:m.levers.drop first.length=[]:=List.drop_eq_nil_of_le (by omega)
   have e2:first.length=m.levers.length:=by omega
   have hlk:=hm.leak
   have hlh:=hm.lhi
   simp only[inR] at hlk
   rw[e1,setsAll_nil]
   simp[e2]
   (repeat' first | omega | (with_reducible apply And.intro) | intro _)
   have e0:AV.iv (IV.int .i64 m.llo)=AV.iv (.int .i64 (m.llo+((0:Nat):Int))):=by simp
   rw[e0]
   refine loop_q (fun i=>[(1,AV.iv (ints first)),(2,AV.iv (.ptr [leversV m.levers,.int .i64 m.water,.int .i64 m.llo,.int .i64 m.lhi,balsV m.bals,.int .i64 m.wrong])),(5,AV.aref 5 (acc (pieceA m first) i).length),(6,AV.iv (IV.int IntKind.i64 (m.llo+(i:Nat))))])
    (fun i=>[(5,AO.arr 72 2 (emb ((acc (pieceA m first) i).map seC)) 0)]) (m.lhi+1-m.llo).toNat (fun i=>True) trivial ?_ ?_
   ·intro _
    have q1:m.llo+((m.lhi+1-m.llo).toNat:Int)=m.lhi+1:=by omega
    have q2:¬ m.lhi+1≤m.lhi:=by omega
    rw[q1,LoopAt_enter c175_b0.eq_1]
    simp[q2]
   ·intro i hi _ hh
    have q1:m.llo+(i:Int)≤m.lhi:=by omega
    have q3:m.llo+((i:Int)+1)=m.llo+i+1:=by omega
    have hlen:=acc_len (pieceA m first) 1 (fun k=>by simp[pieceA]) i
    rw[acc_succ _ i] at hh
    rw[LoopAt_enter c175_b0.eq_1]
    have hp:pieceA m first i=[⟨first,m.llo+i⟩]:=rfl
    rw[hp] at hh
    simp[q1,q3] at hh ⊢
    (repeat' first | omega | (with_reducible apply And.intro) | intro _)
 | n+1,first,hn=>by
   have ih:=good175 m hm hs n
   refine good_of_wp hK c175_ok (by simp) ?_
   have hlt:first.length<m.levers.length:=by omega
   have hne:¬ (first.length:Int)=m.levers.length:=by omega
   have hl:=hm.len
   have e1:m.levers.drop first.length=m.levers[first.length]::m.levers.drop (first.length+1):=List.drop_eq_getElem_cons hlt
   have hlv:=hm.lever (List.getElem_mem hlt)
   rw[e1,setsAll_cons]
   have hbI:=sets_drop hm (first.length+1)
   have hlk:=hm.leak
   simp only[inR] at hlk
   have hbs:∀ i:Nat,((fun i:Nat=>setsAll m (first++[m.levers[first.length].lo+(i:Nat)]) (m.levers.drop (first.length+1))) i).length≤1000000:=fun i=>by
    have:=setsAll_len m (m.levers.drop (first.length+1)) (first++[m.levers[first.length].lo+(i:Nat)]) (fun l hl=>(hm.span (List.mem_of_mem_drop hl)).1) (by omega)
    dsimp only
    omega
   have ih2:∀ i:Nat,Ev.Good Tryz.prog K 175 [maV m,ints (first++[m.levers[first.length].lo+(i:Int)])] (.sl 2 (((fun i:Nat=>setsAll m (first++[m.levers[first.length].lo+(i:Nat)]) (m.levers.drop (first.length+1))) i).map seC)):=fun i=>by
    have:=ih (first++[m.levers[first.length].lo+(i:Int)]) (by simp;omega)
    simpa only[List.length_append,List.length_cons,List.length_nil,Nat.zero_add] using this
   generalize (fun i:Nat=>setsAll m (first++[m.levers[first.length].lo+(i:Nat)]) (m.levers.drop (first.length+1)))=pc at *
   simp[hne,hlt]
   (repeat' first | omega | (with_reducible apply And.intro) | intro _)
   have e0:AV.iv (IV.int .i64 m.levers[first.length].lo)=AV.iv (.int .i64 (m.levers[first.length].lo+((0:Nat):Int))):=by simp
   rw[e0]
   refine loop_q (fun i=>[(1,AV.iv (ints first)),(2,AV.iv (.ptr [leversV m.levers,.int .i64 m.water,.int .i64 m.llo,.int .i64 m.lhi,balsV m.bals,.int .i64 m.wrong])),(5,AV.aref 5 (acc pc i).length),(7,AV.loc 7 0),(8,AV.iv (IV.int IntKind.i64 (m.levers[first.length].lo+(i:Nat))))])
    (fun i=>[(5,AO.arr 72 2 (emb ((acc pc i).map seC)) 0),(7,AO.box [.iv (.int .i64 (m.levers[first.length].lo+((0:Nat):Int))),.iv (.int .i64 m.levers[first.length].hi)])]) (m.levers[first.length].hi+1-m.levers[first.length].lo).toNat (fun i=>True) trivial ?_ ?_
   ·intro _
    have q1:m.levers[first.length].lo+((m.levers[first.length].hi+1-m.levers[first.length].lo).toNat:Int)=m.levers[first.length].hi+1:=by omega
    have q2:¬ m.levers[first.length].hi+1≤m.levers[first.length].hi:=by omega
    rw[q1,LoopAt_enter c175_b1.eq_1]
    simp[q2]
   ·intro i hi _ hh
    have q1:m.levers[first.length].lo+(i:Int)≤m.levers[first.length].hi:=by omega
    have q3:m.levers[first.length].lo+((i:Int)+1)=m.levers[first.length].lo+i+1:=by omega
    have hlen:=acc_len pc 1000000 hbs i
    have hbi:=hbs i
    have hg:=ih2 i
    rw[acc_succ pc i] at hh
    rw[LoopAt_enter c175_b1.eq_1]
    simp[q1,q3] at hh ⊢
    (repeat' first | omega | (with_reducible apply And.intro) | intro _)
    refine callD_of [some (maV m),none] (by simp) (rows:=(first++[m.levers[first.length].lo+(i:Int)]).map fun n=>[.int .i64 n]) (n:=first.length+1) (sz:=1) (et:=3) (mv:=0) (r:=.sl 2 ((pc i).map seC)) ?_ (by simp) (by simp[lookO]) (by simp) (by simp) ?_
    ·have:((first++[m.levers[first.length].lo+(i:Int)]).map fun n=>[IV.int IntKind.i64 n]).take (first.length+1)=(first++[m.levers[first.length].lo+(i:Int)]).map fun n=>[IV.int IntKind.i64 n]:=List.take_of_length_le (by simp)
     rw[this]
     exact hg
    ·simp[-List.map_map,emb_fold,emb_emb,emb_nil,ivss_embA]
     (repeat' first | omega | (with_reducible apply And.intro) | intro _)
theorem good175' (m:Machine) (hm:OkM m) (hs:sets m m.levers.length≤1000000):Ev.Good Tryz.prog K 175 [maV m,.sl 1 []] (.sl 2 ((setsAll m [] m.levers).map seC)):=by
 have:=good175 hK m hm hs m.levers.length [] (by simp)
 simpa using this
theorem good148 (m:Machine) (is:Bool) (hl:m.levers.length≤1000) (hb:m.bals.length≤1000) (hs:OkM m→sets m m.levers.length≤1000000):Ev.Good Tryz.prog K 148 [maV m,.bool is] (.tup [.sl 2 ((tL m is).map seC),.int .i64 (tE m is)]):=by
 refine good_of_wp hK c148_ok (by simp) ?_
 simp
 refine callK_of (good86 hK m hl hb) (.inl rfl) ?_
 by_cases h1:OkM m
 ·cases is
  ·simp[h1,tL,tE]
  ·simp[h1]
   refine callK_of (good175' hK m h1 (hs h1)) (.inl rfl) ?_
   simp
   have hok:∀ s∈setsAll m [] m.levers,okS m s:=fun s h=>setsAll_ok h
   have hlk:=h1.leak
   simp only[inR] at hlk
   have hn:=setsAll_len m m.levers [] (fun l hl=>(h1.span hl).1) (by omega)
   have hn2:=hs h1
   unfold sets at hn2
   rw[List.take_length] at hn2
   have hsl:setsL m [] m.levers=(setsAll m [] m.levers).filter fun s=>decide (isSet m s):=rfl
   have htE:tE m true=if setsL m [] m.levers=[] then 3 else 0:=by simp[tE,h1]
   have htL:tL m true=setsL m [] m.levers:=by simp[tL,h1]
   rw[htE,htL,hsl]
   generalize setsAll m [] m.levers=A at *
   refine loop_q (fun i=>[(2,AV.iv (.ptr [leversV m.levers,.int .i64 m.water,.int .i64 m.llo,.int .i64 m.lhi,balsV m.bals,.int .i64 m.wrong])),(7,AV.aref 7 ((A.take i).filter fun s=>decide (isSet m s)).length),(8,AV.iv (.sl 2 (A.map seC))),(9,AV.iv (IV.int IntKind.i64 (i:Nat)))])
    (fun i=>[(7,AO.arr 72 2 (emb (((A.take i).filter fun s=>decide (isSet m s)).map seC)) 0)]) A.length (fun i=>True) trivial ?_ ?_
   ·intro _
    rw[LoopAt_enter c148_b0.eq_1]
    rw[List.take_length]
    generalize (A.filter fun s=>decide (isSet m s))=T
    by_cases hT:T=[]
    ·simp[hT]
    ·have hT':¬ T.length=0:=by simpa using hT
     simp[hT,hT']
   ·intro i hi _ ih
    have hle:=List.length_filter_le (fun s=>decide (isSet m s)) (A.take i)
    have hwl:=wrongsS_le m m.bals A[i]
    simp at hle
    rw[List.take_succ_eq_append_getElem hi,List.filter_append] at ih
    rw[LoopAt_enter c148_b0.eq_1]
    have hoki:=hok _ (List.getElem_mem hi)
    generalize ((A.take i).filter fun s=>decide (isSet m s))=T at *
    by_cases hr:(wrongsS m m.bals A[i]:Int)≤m.wrong
    ·have hi2:isSet m A[i]:=⟨hoki,hr⟩
     simp[hi,hi2] at ih ⊢
     intros
     refine callK_of (good159 hK m A[i] h1 hoki) (.inl rfl) ?_
     simp[hr,hi]
     (repeat' first | omega | (with_reducible apply And.intro) | intro _)
    ·have hi2:¬ isSet m A[i]:=fun h=>hr h.2
     simp[hi,hi2] at ih ⊢
     intros
     refine callK_of (good159 hK m A[i] h1 hoki) (.inl rfl) ?_
     simp[hr,hi]
     (repeat' first | omega | (with_reducible apply And.intro) | intro _)
 ·simp[h1,tL,tE]
theorem good149 (a b:Int) (h1:0≤a∧a≤19998000000000) (h2:1≤b∧b≤1000000000):Ev.Good Tryz.prog K 149 [.int .i64 a,.int .i64 b] (.int .i64 ((a+b-1).tdiv b)):=by
 refine good_of_wp hK c149_ok (by simp) ?_
 have htd:=tdiv_bd (a:=a+b-1) (b:=b) (by omega) (by omega)
 have hb:¬ b=0:=by omega
 simp[hb]
 (repeat' first | omega | (with_reducible apply And.intro) | intro _)
theorem good94 (m:Machine) (w mn:Int) (hl:m.levers.length≤1000) (hb:m.bals.length≤1000) (hs:OkM m→sets m m.levers.length≤1000000) :
  Ev.Good Tryz.prog K 94 [maV m,.int .i64 w,.int .i64 mn] (.tup [.agg [.int .i64 (rLoad m w mn).1,.int .i64 (rLoad m w mn).2],.int .i64 (tE m (askB w mn 0))]):=by
 refine good_of_wp hK c94_ok (by simp) ?_
 simp
 refine callK_of (good91 hK w mn 0) (.inl rfl) ?_
 have hask:decide (inR w 0 9999∧inR mn 0 99∧inR 0 0 999999999)=askB w mn 0:=rfl
 rw[hask]
 simp
 refine callK_of (good148 hK m (askB w mn 0) hl hb hs) (.inl rfl) ?_
 have hok:∀ s∈tL m (askB w mn 0),OkM m∧askB w mn 0=true∧okS m s:=fun s h=>tL_ok h
 unfold rLoad
 generalize tL m (askB w mn 0)=l at *
 generalize tE m (askB w mn 0)=er at *
 simp
 refine loop_q (fun i=>[(1,AV.iv (.int .i64 w)),(2,AV.iv (.int .i64 mn)),(3,AV.iv (.ptr [leversV m.levers,.int .i64 m.water,.int .i64 m.llo,.int .i64 m.lhi,balsV m.bals,.int .i64 m.wrong])),(6,AV.loc 6 0),(8,AV.iv (.sl 2 (l.map seC))),(9,AV.iv (.int .i64 er)),(10,AV.loc 10 0),(11,AV.iv (IV.int IntKind.i64 (i:Nat)))])
  (fun i=>[(6,AO.box [.iv (.int .i64 0),.iv (.int .i64 0)]),(10,AO.box [.iv (.int .i64 (span ((l.take i).map (lowS m w mn))).1),.iv (.int .i64 (span ((l.take i).map (upS m w mn))).2)])]) l.length (fun i=>True) trivial ?_ ?_
 ·intro _
  rw[LoopAt_enter c94_b0.eq_1]
  rw[List.take_length]
  generalize span (l.map (lowS m w mn))=A
  generalize span (l.map (upS m w mn))=B
  simp
 ·intro i hi _ ih
  obtain ⟨hm,ha,hsi⟩:=hok _ (List.getElem_mem hi)
  have ha:=of_decide_eq_true ha
  have hn:=hm.numB hsi ha.1 ha.2.1
  have hd:=hm.denB hsi
  have td1:=tdiv_bd hn.1 hd.1
  have td2:=tdiv_bd (a:=num m l[i] w mn+den l[i]-1) (b:=den l[i]) (by omega) (by omega)
  have hd0:¬ den l[i]=0:=by omega
  rw[List.take_succ_eq_append_getElem hi,List.map_append,List.map_singleton,span_succ,List.map_append,List.map_singleton,span_succ] at ih
  rw[LoopAt_enter c94_b0.eq_1]
  have hlow:lowS m w mn l[i]=(num m l[i] w mn).tdiv (den l[i]):=rfl
  have hup:upS m w mn l[i]=(num m l[i] w mn+den l[i]-1).tdiv (den l[i]):=rfl
  by_cases h0:i=0
  ·subst h0
   simp[hi,hlow,hup] at ih ⊢
   (repeat' first | omega | (with_reducible apply And.intro) | intro _)
   refine callK_of (good114 hK m l[0] w mn hm hsi ha.1 ha.2.1) (.inl rfl) ?_
   simp[hd0]
   (repeat' first | omega | (with_reducible apply And.intro) | intro _)
   refine callK_of (good149 hK (num m l[0] w mn) (den l[0]) hn hd) (.inl rfl) ?_
   simp[hd0]
   (repeat' first | omega | (with_reducible apply And.intro) | intro _)
   refine callK_of (good149 hK (num m l[0] w mn) (den l[0]) hn hd) (.inl rfl) ?_
   simp
   (repeat' first | omega | (with_reducible apply And.intro) | intro _)
  ·have hne1:¬ (l.take i).map (lowS m w mn)=[]:=by
    intro c
    have hli:((l.take i).map (lowS m w mn)).length=i:=by simp;omega
    rw[c] at hli
    simp at hli
    omega
   have hne2:¬ (l.take i).map (upS m w mn)=[]:=by
    intro c
    have hli:((l.take i).map (upS m w mn)).length=i:=by simp;omega
    rw[c] at hli
    simp at hli
    omega
   have h0':¬ (i:Int)=0:=by omega
   rw[if_neg hne1,if_neg hne2] at ih
   generalize span ((l.take i).map (lowS m w mn))=A at *
   generalize span ((l.take i).map (upS m w mn))=B at *
   simp[hi,hlow,hup] at ih ⊢
   (repeat' first | omega | (with_reducible apply And.intro) | intro _)
   refine callK_of (good114 hK m l[i] w mn hm hsi ha.1 ha.2.1) (.inl rfl) ?_
   simp[hd0,h0,h0']
   (repeat' first | omega | (with_reducible apply And.intro) | intro _)
   refine callK_of (good149 hK (num m l[i] w mn) (den l[i]) hn hd) (.inl rfl) ?_
   simp[min_if,max_if]
   (repeat' first | omega | (with_reducible apply And.intro) | intro _)
theorem good30 (p:Proof) (n:Int) (hf:Fine p):Ev.Good Tryz.prog K 30 [prV p,.int .i64 n] (.tup [.agg [.int .i64 (if kE p (trialB p n)=0 then (rLoad p.machine (tr p n.toNat).weight (tr p n.toNat).mins).1 else 0),.int .i64 (if kE p (trialB p n)=0 then (rLoad p.machine (tr p n.toNat).weight (tr p n.toNat).mins).2 else 0)],
   .int .i64 (if kE p (trialB p n)=0 then tE p.machine (askB (tr p n.toNat).weight (tr p n.toNat).mins 0) else kE p (trialB p n))]):=by
 refine good_of_wp hK c30_ok (by simp) ?_
 simp
 refine callK_of (good53 hK p n hf.small.trials) (.inl rfl) ?_
 have htb:decide (inR n 0 (p.trials.length-1))=trialB p n:=rfl
 rw[htb]
 simp
 refine callK_of (good92 hK p (trialB p n) hf.small hf.sets) (.inl rfl) ?_
 by_cases he:kE p (trialB p n)=0
 ·obtain ⟨hp,hb,_⟩:=kE_ok he
  have hnr:=of_decide_eq_true hb
  simp only[inR] at hnr
  have hlt:n.toNat<p.trials.length:=by omega
  have hn0:((n.toNat:Nat):Int)=n:=by omega
  have hn1:0≤n:=by omega
  simp[he,hlt,tr_get hlt,hn1]
  refine callK_of (good94 hK p.machine (tr p n.toNat).weight (tr p n.toNat).mins hf.small.levers hf.small.bals (fun _=>hf.sets hp)) (.inl rfl) ?_
  simp
 ·simp[he]
def allPull (m:Machine) (l:List Setting) (w mn load:Int):Prop:=∀ s∈l,load*den s≤num m s w mn
end
noncomputable def leastR (m:Machine) (l:List Setting) (mn load:Int):Int:=open Classical in ((List.range 10000).findIdx fun (n:Nat)=>decide (allPull m l n mn load):Nat)
noncomputable def rWeight (m:Machine) (mn load:Int):Int × Int:=if tE m (askB 0 mn load)=0 then (if 9999<leastR m (tL m (askB 0 mn load)) mn load then (0,3) else (leastR m (tL m (askB 0 mn load)) mn load,0)) else (0,tE m (askB 0 mn load))
theorem tE_ok {m:Machine} {is:Bool} (h:tE m is=0):OkM m∧is=true∧tL m is=setsL m [] m.levers∧setsL m [] m.levers≠[]:=by
 unfold tE at h
 split at h
 ·rename_i h1
  split at h
  ·rename_i h2
   split at h
   ·cases h
   ·rename_i h3
    exact ⟨h1,h2,by simp[tL,h1,h2],h3⟩
  ·cases h
 ·cases h
section
variable {K:World→Prop} (hK:∀ w w',K w→Below w.heap.size w w'→K w')
include hK
end
end Go.Pf
