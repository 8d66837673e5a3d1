/- What is so in a truth: the reference's functions. -/
import Derived.Test.YtidcmjicfnjcjaaGreatRef
set_option linter.all false

namespace Go.Pf
open Go Go.Ev Go.Proofs Go.RowKit
set_option maxRecDepth 8000
def t0:Trial:=⟨0,0,0⟩
def tr (p:Proof) (i:Nat):Trial:=p.trials.getD i t0
theorem tr_get {p:Proof} {i:Nat} (h:i<p.trials.length):p.trials[i]=tr p i:=by simp[tr,List.getD_eq_getElem?_getD,h]
def thenN (p:Proof) (i:Nat) (e:Nat→Int):List Nat:=cab p.chain.deeds e ((pv p.chain.deeds).getD i 0)
def brokeN (p:Proof) (i:Nat) (e:Nat→Int):Int:=if 0≤(tr p i).broke then ((thenN p i e).getD (tr p i).broke.toNat 0:Nat) else -1
def loadN (p:Proof) (i:Nat) (s:Setting):Int:=num p.machine s (tr p i).weight (tr p i).mins
def failedB (p:Proof) (i:Nat) (t:Truth):Bool:=decide (0≤(tr p i).broke)&&decide (loadN p i t.set≤p.need*den t.set)
def failN (p:Proof) (t:Truth):Nat:=(List.range p.trials.length).countP fun i=>failedB p i t
def inN (l:List Nat) (n:Int):Bool:=decide (n∈l.map fun k:Nat=>(k:Int))
def provedAt (p:Proof) (link:Int) (t:Truth) (i:Nat):Bool:=decide (p.need*den t.set≤loadN p i t.set)&&inN (thenN p i (endF t.ends)) link&&!decide (brokeN p i (endF t.ends)=link)
def provedB (p:Proof) (link:Int) (t:Truth):Bool:=(List.range p.trials.length).any (provedAt p link t)
def nowN (p:Proof) (e:Nat→Int):List Nat:=cab p.chain.deeds e p.chain.deeds.length
def goodB (p:Proof) (t:Truth):Bool:=((nowN p (endF t.ends)).all fun (k:Nat)=>provedB p k t)&&decide ((failN p t:Int)<p.rule)
def blamedAt (p:Proof) (smith:Int) (t:Truth) (i:Nat):Bool:=failedB p i t&&decide ((markD p.chain.deeds (brokeN p i (endF t.ends)).toNat).smith=smith)
def blamedB (p:Proof) (smith:Int) (t:Truth):Bool:=(List.range p.trials.length).any (blamedAt p smith t)
def toldN (some many:Int):Int:=if some=many then 1 else if some=0 then 2 else 3
def sortedP (l:List Int) (lo:Int) (i:Nat):List Int:=((List.range i).map fun j:Nat=>lo+j).filter fun n=>decide (n∈l)
def sortedL (l:List Int) (lo hi:Int):List Int:=sortedP l lo (hi+1-lo).toNat
theorem sortedP_len (l:List Int) (lo:Int) (i:Nat):(sortedP l lo i).length≤i:=Nat.le_trans (List.length_filter_le _ _) (by simp)
def mostAt (p:Proof) (t:Truth) (k:Nat) (m:Int) (i:Nat):Int :=
 if inN (thenN p i (endF t.ends)) k=true∧¬ brokeN p i (endF t.ends)=k then max m ((loadN p i t.set).tdiv (den t.set)) else m
def mostN (p:Proof) (t:Truth) (k:Nat) (n:Nat):Int:=(List.range n).foldl (mostAt p t k) (-1)
def bestA (p:Proof) (t:Truth) (now:List Nat):Int:=now.foldl (fun b k=>min b (mostN p t k p.trials.length)) 999999999
def failsN (p:Proof) (t:Truth) (i n:Nat):Nat:=(List.range n).countP fun k=>decide (0≤(tr p k).broke)&&decide (loadN p k t.set≤loadN p i t.set)
def bestAt (p:Proof) (t:Truth) (b:Int) (i:Nat):Int :=
 if 0≤(tr p i).broke∧p.rule≤(failsN p t i p.trials.length:Int) then min b ((loadN p i t.set+den t.set-1).tdiv (den t.set)-1) else b
def worthN (p:Proof) (t:Truth):Int:=(List.range p.trials.length).foldl (bestAt p t) (bestA p t (nowN p (endF t.ends)))
theorem mostN_succ (p:Proof) (t:Truth) (k n:Nat):mostN p t k (n+1)=mostAt p t k (mostN p t k n) n:=by simp[mostN,List.range_succ]
theorem min_if (a b:Int):(if b<a then b else a)=min a b:=by split<;>omega
theorem max_if (a b:Int):(if a<b then b else a)=max a b:=by split<;>omega
theorem tdiv_bd {a b:Int} (h1:0≤a) (h2:1≤b):0≤a.tdiv b∧a.tdiv b≤a:=by
 rw[Int.tdiv_eq_ediv_of_nonneg h1]
 exact ⟨Int.ediv_nonneg h1 (by omega),Int.ediv_le_self _ h1⟩
structure Fit (p:Proof) (t:Truth):Prop where
 ends:p.chain.deeds.length≤t.ends.length
 set:okS p.machine t.set
theorem OkP.deedsLen {p:Proof} (h:OkP p):p.chain.deeds.length≤12:=h.chain.len
theorem OkP.trialsLen {p:Proof} (h:OkP p):p.trials.length≤12:=by
 have:=pv_len p.chain.deeds
 have:=h.many
 have:=h.deedsLen
 omega
theorem OkP.trial {p:Proof} (h:OkP p) {i:Nat} (hi:i<p.trials.length):okTrial (tr p i) (cnt p.chain.deeds ((pv p.chain.deeds).getD i 0)):=by
 have h1:i<(pv p.chain.deeds).length:=by rw[← h.many];exact hi
 have:=h.trials i h1 hi
 rw[tr_get hi] at this
 simpa[List.getD_eq_getElem?_getD,h1] using this
theorem OkP.pvGet {p:Proof} (h:OkP p) {i:Nat} (hi:i<p.trials.length):(pv p.chain.deeds).getD i 0<p.chain.deeds.length:=by
 have h1:i<(pv p.chain.deeds).length:=by rw[← h.many];exact hi
 have:=pv_get h1
 simpa[List.getD_eq_getElem?_getD,h1] using this
theorem OkP.thenLen {p:Proof} (h:OkP p) (e:Nat→Int) {i:Nat} (hi:i<p.trials.length):((thenN p i e).length:Int)=cnt p.chain.deeds ((pv p.chain.deeds).getD i 0):=by
 have:=h.pvGet hi
 exact cab_len e h.chain.deeds _ (by omega) (by omega)
theorem OkP.brokeIn {p:Proof} (h:OkP p) (e:Nat→Int) {i:Nat} (hi:i<p.trials.length) (hb:0≤(tr p i).broke):∃ hlt:(tr p i).broke.toNat<(thenN p i e).length,brokeN p i e=((thenN p i e)[(tr p i).broke.toNat]:Nat):=by
 have h1:=(h.trial hi).2.2
 have h2:=h.thenLen e hi
 simp only[inR] at h1
 have hlt:(tr p i).broke.toNat<(thenN p i e).length:=by omega
 exact ⟨hlt,by simp[brokeN,hb,List.getD_eq_getElem?_getD,hlt]⟩
theorem OkP.thenLt {p:Proof} (e:Nat→Int) (i:Nat) {k:Nat} (hk:k∈thenN p i e):k<(welds p.chain.deeds).length :=
 Nat.lt_of_lt_of_le (cab_lt _ _ _ k hk) (wn_welds _ _)
theorem failN_le (p:Proof) (t:Truth):failN p t≤p.trials.length:=by
 have:=List.countP_le_length (p:=fun i=>failedB p i t) (l:=List.range p.trials.length)
 simpa[failN] using this
theorem any_range_succ (n:Nat) (f:Nat→Bool):(List.range (n+1)).any f=((List.range n).any f||f n):=by simp[List.range_succ]
section
variable {K:World→Prop} (hK:∀ w w',K w→Below w.heap.size w w'→K w')
include hK
theorem good93 (p:Proof) (n:Int) (hs:p.trials.length≤1000):Ev.Good Tryz.prog K 93 [prV p,.int .i64 n] (.bool (decide (inR n 0 (p.trials.length-1)))):=by
 refine good_of_wp hK c93_ok (by simp) ?_
 simp
 (repeat' first | omega | (with_reducible apply And.intro) | intro _)
 exact callK_of (good67 hK _ _ _) (.inl rfl) (by simp)
end
end Go.Pf

/- All truths of a proof: the reference. -/
namespace Go.Pf
open Go Go.Ev Go.Proofs Go.RowKit
set_option maxRecDepth 8000
def endsD (d:Deed):List Int:=(if d.frm=0∨d.frm=2 then [0] else [])++(if d.frm=1∨d.frm=2 then [1] else [])
def choices:List Deed→List (List Int)
 | []=>[[]]
 | d::r=>(endsD d).flatMap fun e=>(choices r).map (e::·)
noncomputable def endsL (c:Chain) (first:List Int) (rest:List Deed):List (List Int):=((choices rest).map (first++·)).filter fun e=>decide (isTr c e)
theorem endsL_cons (c:Chain) (first:List Int) (d:Deed) (r:List Deed):endsL c first (d::r)=(endsD d).flatMap fun e=>endsL c (first++[e]) r:=by
 simp only[endsL,choices,List.map_flatMap,List.filter_flatMap,List.map_map]
 congr 1
 funext e
 congr 2
 simp[Function.comp_def]
def acc {α:Type} (pc:Nat→List α) (i:Nat):List α:=(List.range i).flatMap pc
theorem acc_zero {α:Type} (pc:Nat→List α):acc pc 0=[]:=rfl
theorem acc_succ {α:Type} (pc:Nat→List α) (i:Nat):acc pc (i+1)=acc pc i++pc i:=by simp[acc,List.range_succ]
noncomputable def pieceE (c:Chain) (first:List Int) (d:Deed) (r:List Deed) (i:Nat):List (List Int):=if d.frm=i∨d.frm=2 then endsL c (first++[(i:Int)]) r else []
theorem endsD_len (d:Deed):(endsD d).length≤2:=by unfold endsD;split<;>split<;>simp
theorem flatMap_len {α β:Type} (f:α→List β) (n:Nat):∀ l:List α,(∀ a∈l,(f a).length≤n)→(l.flatMap f).length≤l.length*n
 | [],_=>by simp
 | a::l,h=>by
   have h1:=h a (by simp)
   have h2:=flatMap_len f n l fun b hb=>h b (by simp[hb])
   simp only[List.flatMap_cons,List.length_append,List.length_cons,Nat.succ_mul]
   omega
theorem acc_len {α:Type} (pc:Nat→List α) (n:Nat) (h:∀ i,(pc i).length≤n) (i:Nat):(acc pc i).length≤i*n:=by
 have:=flatMap_len pc n (List.range i) fun a _=>h a
 simpa[acc] using this
theorem endsL_len (c:Chain):∀ (rest:List Deed) (first:List Int),(endsL c first rest).length≤2 ^ rest.length
 | [],first=>by
   have:=List.length_filter_le (fun e=>decide (isTr c e)) ([[]].map (first++·))
   simpa[endsL,choices] using this
 | d::r,first=>by
   rw[endsL_cons]
   have h1:=flatMap_len (fun e=>endsL c (first++[e]) r) (2 ^ r.length) (endsD d) fun e _=>endsL_len c r (first++[e])
   have h2:=Nat.mul_le_mul_right (2 ^ r.length) (endsD_len d)
   simp only[List.length_cons,Nat.pow_succ]
   omega
theorem pow_le12 {n:Nat} (h:n≤12):2 ^ n≤4096:=Nat.pow_le_pow_right (by omega) h
section
variable {K:World→Prop} (hK:∀ w w',K w→Below w.heap.size w w'→K w')
include hK
end
def shortsAll:List Lever→List (List Int)
 | []=>[[]]
 | l::r=>acc (fun i=>(shortsAll r).map ((l.lo+(i:Nat))::·)) (l.hi+1-l.lo).toNat
def setsAll (m:Machine) (first:List Int) (rest:List Lever):List Setting:=(shortsAll rest).flatMap fun s=>(List.range (m.lhi+1-m.llo).toNat).map fun k:Nat=>⟨first++s,m.llo+k⟩
noncomputable def setsL (m:Machine) (first:List Int) (rest:List Lever):List Setting:=(setsAll m first rest).filter fun s=>decide (isSet m s)
theorem setsL_cons (m:Machine) (first:List Int) (l:Lever) (r:List Lever):setsL m first (l::r)=acc (fun i=>setsL m (first++[l.lo+(i:Nat)]) r) (l.hi+1-l.lo).toNat:=by
 simp only[setsL,setsAll,shortsAll,acc,List.flatMap_assoc,List.filter_flatMap]
 congr 1
 funext i
 simp[List.flatMap_map]
theorem setsL_len (m:Machine):∀ (rest:List Lever) (first:List Int),(∀ l∈rest,1≤spanL l)→1≤m.lhi-m.llo+1→((setsL m first rest).length:Int)≤(m.lhi-m.llo+1)*prodF spanL rest
 | [],first,_,h=>by
   have:=List.length_filter_le (fun s=>decide (isSet m s)) (setsAll m first [])
   simp[setsAll,shortsAll] at this
   simp only[setsL,prodF]
   simp only[setsAll,shortsAll] at this ⊢
   simp at this ⊢
   omega
 | l::r,first,hs,h=>by
   rw[setsL_cons]
   have ih:=fun e:Int=>setsL_len m r (first++[e]) (fun l hl=>hs l (by simp[hl])) h
   have hl:=hs l (by simp)
   have hp:=prodF_pos spanL r fun l hl=>hs l (by simp[hl])
   have hpp:=Int.mul_nonneg (a:=m.lhi-m.llo+1) (b:=prodF spanL r) (by omega) (by omega)
   have h1:=acc_len (fun i=>setsL m (first++[l.lo+(i:Nat)]) r) ((m.lhi-m.llo+1)*prodF spanL r).toNat (fun i=>by have:=ih (l.lo+(i:Nat));omega) (l.hi+1-l.lo).toNat
   have e1:((l.hi+1-l.lo).toNat:Int)=spanL l:=by unfold spanL at *;omega
   have e2:(((m.lhi-m.llo+1)*prodF spanL r).toNat:Int)=(m.lhi-m.llo+1)*prodF spanL r:=by omega
   have h2:=Int.ofNat_le.2 h1
   rw[Int.natCast_mul,e1,e2] at h2
   simp only[prodF]
   rw[Int.mul_left_comm]
   exact h2
noncomputable def pieceS (m:Machine) (first:List Int) (k:Nat):List Setting:=if isSet m ⟨first,m.llo+k⟩ then [⟨first,m.llo+k⟩] else []
section
variable {K:World→Prop} (hK:∀ w w',K w→Below w.heap.size w w'→K w')
include hK
end
noncomputable def knownL (p:Proof):List Truth:=(endsL p.chain [] p.chain.deeds).flatMap fun e=>(setsL p.machine [] p.machine.levers).map fun s=>⟨e,s⟩
noncomputable def kL (p:Proof) (is:Bool):List Truth:=if OkP p∧is=true then knownL p else []
noncomputable def kE (p:Proof) (is:Bool):Int:=if OkP p then (if is=true then (if knownL p=[] then 3 else 0) else 1) else 60
theorem endsL_truth {c:Chain} {e:List Int} (h:e∈endsL c [] c.deeds):isTr c e:=by
 simp only[endsL,List.mem_filter,decide_eq_true_eq] at h
 exact h.2
theorem setsL_truth {m:Machine} {s:Setting} (h:s∈setsL m [] m.levers):isSet m s:=by
 simp only[setsL,List.mem_filter,decide_eq_true_eq] at h
 exact h.2
theorem known_truth {p:Proof} {t:Truth} (h:t∈knownL p):isTruth p t:=by
 simp only[knownL,List.mem_flatMap,List.mem_map] at h
 obtain ⟨e,he,s,hs,rfl⟩:=h
 exact ⟨endsL_truth he,setsL_truth hs⟩
theorem isTruth.fit {p:Proof} {t:Truth} (h:isTruth p t):Fit p t:=⟨by rw[h.1.1.1];omega,h.2.1⟩
theorem known_fit {p:Proof} {t:Truth} (h:t∈knownL p):Fit p t:=(known_truth h).fit
theorem kE_ok {p:Proof} {is:Bool} (h:kE p is=0):OkP p∧is=true∧kL p is=knownL p∧knownL p≠[]:=by
 unfold kE at h
 split at h
 ·rename_i h1
  split at h
  ·rename_i h2
   split at h
   ·cases h
   ·rename_i h3
    exact ⟨h1,h2,by simp[kL,h1,h2],h3⟩
  ·cases h
 ·cases h
theorem endsL_le {c:Chain} (h:OkC c):(endsL c [] c.deeds).length≤4096:=Nat.le_trans (endsL_len c _ _) (pow_le12 h.len)
theorem setsL_le {m:Machine} (h:OkM m):((setsL m [] m.levers).length:Int)≤sets m m.levers.length:=by
 have h1:=h.leak
 simp only[inR] at h1
 have:=setsL_len m m.levers [] (fun l hl=>(h.span hl).1) (by omega)
 rwa [sets,List.take_length]
section
variable {K:World→Prop} (hK:∀ w w',K w→Below w.heap.size w w'→K w')
include hK
end
end Go.Pf

/- The reference's queries. -/
namespace Go.Pf
open Go Go.Ev Go.Proofs Go.RowKit
set_option maxRecDepth 8000
structure Fine (p:Proof):Prop where
 small:Small p
 sets:OkP p→sets p.machine p.machine.levers.length≤1000000
def linkB (p:Proof) (link:Int):Bool:=decide (inR link 0 ((welds p.chain.deeds).length-1))
def trialB (p:Proof) (n:Int):Bool:=decide (inR n 0 (p.trials.length-1))
noncomputable def rProved (p:Proof) (link:Int):Int:=if kE p (linkB p link)=0 then toldN ((kL p (linkB p link)).countP (provedB p link)) (kL p (linkB p link)).length else 0
noncomputable def rCond (p:Proof):Int:=if kE p true=0 then toldN ((kL p true).countP fun t=>decide (p.rule≤(failN p t:Int))) (kL p true).length else 0
noncomputable def rGood (p:Proof):Int:=if kE p true=0 then toldN ((kL p true).countP (goodB p)) (kL p true).length else 0
noncomputable def rWorst (p:Proof):Int:=(kL p true).foldl (fun b t=>min b (worthN p t)) 999999999
noncomputable def rWorth (p:Proof):Int × Int:=if kE p true=0 then (if rWorst p<0 then (0,3) else (rWorst p,0)) else (0,kE p true)
def span (l:List Int):Int × Int:=match l with
 | []=>(0,0)
 | a::r=>(r.foldl min a,r.foldl max a)
theorem span_succ (l:List Int) (a:Int):span (l++[a])=if l=[] then (a,a) else (min (span l).1 a,max (span l).2 a):=by
 cases l with
 | nil=>rfl
 | cons b r=>simp[span]
noncomputable def rFail (p:Proof):Int × Int:=span ((kL p true).map fun t=>(failN p t:Int))
noncomputable def rBlamed (p:Proof):List Int:=if kE p true=0 then acc (fun s:Nat=>if (kL p true).all (blamedB p s) then [(s:Int)] else []) 100 else []
noncomputable def rOpen (p:Proof):List Int:=if kE p true=0 then acc (fun at_:Nat=>if (kL p true).all (fun t=>provedB p ((nowN p (endF t.ends)).getD at_ 0) t) then [] else [(at_:Int)]) (leftN p.chain.deeds).toNat else []
noncomputable def rBroke (p:Proof) (n:Int):List Int:=sortedL ((kL p (trialB p n)).map fun t=>brokeN p n.toNat (endF t.ends)) 0 12
section
variable {K:World→Prop} (hK:∀ w w',K w→Below w.heap.size w w'→K w')
include hK
end
end Go.Pf

/- The reference's machines: loads and weights. -/
namespace Go.Ev
theorem loop_m {P:Program} {K:World→Prop} {F:Way→Env→Objs→Prop} {c:AC} {ks ids:List Nat} {k:List AI} {S:Type} (st:S→Env) (so:S→Objs) (I:S→Prop) (μ:S→Nat)
  (h:∀ s,I s→(∀ s',I s'→μ s'<μ s→LoopF P K F c ks ids k (st s') (so s'))→LoopF P K F c ks ids k (st s) (so s)):∀ s,I s→LoopF P K F c ks ids k (st s) (so s):=by
 have:∀ n s,μ s<n→I s→LoopF P K F c ks ids k (st s) (so s):=by
  intro n
  induction n with
  | zero=>intro s hs _;omega
  | succ n ih=>exact fun s hs hi=>h s hi fun s' hi' hlt=>ih s' (by omega) hi'
 exact fun s hi=>this (μ s+1) s (by omega) hi
end Go.Ev
namespace Go.Pf
open Go Go.Ev Go.Proofs Go.RowKit
set_option maxRecDepth 8000
theorem shortsAll_len:∀ (r:List Lever) (s:List Int),s∈shortsAll r→s.length=r.length
 | [],s,h=>by simp[shortsAll] at h;simp[h]
 | l::r,s,h=>by
   simp only[shortsAll,acc,List.mem_flatMap,List.mem_map] at h
   obtain ⟨i,_,x,hx,rfl⟩:=h
   simp[shortsAll_len r x hx]
theorem shortsAll_in:∀ (r:List Lever) (s:List Int),s∈shortsAll r→∀ i (h:i<r.length) (h':i<s.length),inR s[i] r[i].lo r[i].hi
 | [],s,h,i,hi,_=>by simp at hi
 | l::r,s,h,i,hi,hi'=>by
   simp only[shortsAll,acc,List.mem_flatMap,List.mem_map,List.mem_range] at h
   obtain ⟨j,hj,x,hx,rfl⟩:=h
   cases i with
   | zero=>simp only[List.getElem_cons_zero,inR];omega
   | succ i=>simp only[List.getElem_cons_succ];exact shortsAll_in r x hx i (by simpa using hi) (by simpa using hi')
theorem setsAll_ok {m:Machine} {s:Setting} (h:s∈setsAll m [] m.levers):okS m s:=by
 simp only[setsAll,List.mem_flatMap,List.mem_map,List.mem_range,List.nil_append] at h
 obtain ⟨x,hx,k,hk,rfl⟩:=h
 exact ⟨shortsAll_len _ _ hx,by simp only[inR];omega,shortsAll_in _ _ hx⟩
theorem setsAll_cons (m:Machine) (first:List Int) (l:Lever) (r:List Lever):setsAll m first (l::r)=acc (fun i=>setsAll m (first++[l.lo+(i:Nat)]) r) (l.hi+1-l.lo).toNat:=by
 simp only[setsAll,shortsAll,acc,List.flatMap_assoc]
 congr 1
 funext i
 simp[List.flatMap_map]
def pieceA (m:Machine) (first:List Int) (k:Nat):List Setting:=[⟨first,m.llo+k⟩]
theorem setsAll_nil (m:Machine) (first:List Int):setsAll m first []=acc (pieceA m first) (m.lhi+1-m.llo).toNat:=by
 simp only[setsAll,shortsAll,acc,List.flatMap_cons,List.flatMap_nil,List.append_nil]
 generalize (m.lhi+1-m.llo).toNat=n
 induction n with
 | zero=>rfl
 | succ n ih=>rw[List.range_succ,List.map_append,ih,List.flatMap_append];rfl
noncomputable def tL (m:Machine) (is:Bool):List Setting:=if OkM m∧is=true then setsL m [] m.levers else []
noncomputable def tE (m:Machine) (is:Bool):Int:=if OkM m then (if is=true then (if setsL m [] m.levers=[] then 3 else 0) else 1) else 30
def askB (w mn load:Int):Bool:=decide (inR w 0 9999∧inR mn 0 99∧inR load 0 999999999)
def lowS (m:Machine) (w mn:Int) (s:Setting):Int:=(num m s w mn).tdiv (den s)
def upS (m:Machine) (w mn:Int) (s:Setting):Int:=(num m s w mn+den s-1).tdiv (den s)
noncomputable def rLoad (m:Machine) (w mn:Int):Int × Int:=((span ((tL m (askB w mn 0)).map (lowS m w mn))).1,(span ((tL m (askB w mn 0)).map (upS m w mn))).2)
section
variable {K:World→Prop} (hK:∀ w w',K w→Below w.heap.size w w'→K w')
include hK
def allPull (m:Machine) (l:List Setting) (w mn load:Int):Prop:=∀ s∈l,load*den s≤num m s w mn
end
noncomputable def leastR (m:Machine) (l:List Setting) (mn load:Int):Int:=open Classical in ((List.range 10000).findIdx fun (n:Nat)=>decide (allPull m l n mn load):Nat)
noncomputable def rWeight (m:Machine) (mn load:Int):Int × Int:=if tE m (askB 0 mn load)=0 then (if 9999<leastR m (tL m (askB 0 mn load)) mn load then (0,3) else (leastR m (tL m (askB 0 mn load)) mn load,0)) else (0,tE m (askB 0 mn load))
theorem tE_ok {m:Machine} {is:Bool} (h:tE m is=0):OkM m∧is=true∧tL m is=setsL m [] m.levers∧setsL m [] m.levers≠[]:=by
 unfold tE at h
 split at h
 ·rename_i h1
  split at h
  ·rename_i h2
   split at h
   ·cases h
   ·rename_i h3
    exact ⟨h1,h2,by simp[tL,h1,h2],h3⟩
  ·cases h
 ·cases h
section
variable {K:World→Prop} (hK:∀ w w',K w→Below w.heap.size w w'→K w')
include hK
end
end Go.Pf
