/- What proofs answers: Many, Condemned, Good, Proved, Weight. -/
import Derived.Test.YtidcmjicfnjcjaaGreatCables
set_option linter.all false

namespace Go.Pf
open Go Go.Ev Go.Proofs Go.RowKit
set_option maxRecDepth 8000
theorem known_set {p:Proof} {t:Truth} (h:t∈knownL p):okS p.machine t.set:=(known_fit h).set
theorem stories_len (p:Proof):(storiesV p).length=(endsL p.chain [] p.chain.deeds).length:=by simp[storiesV]
theorem loads_len (p:Proof):(loadsV p).length=(setsL p.machine [] p.machine.levers).length:=by simp[loadsV]
theorem known_mul (p:Proof):(knownL p).length=(storiesV p).length*(loadsV p).length:=by
 rw[stories_len,loads_len]
 unfold knownL
 generalize endsL p.chain [] p.chain.deeds=E
 generalize setsL p.machine [] p.machine.levers=S
 induction E with
 | nil=>simp
 | cons e E ih=>rw[List.flatMap_cons,List.length_append,ih,List.length_map,List.length_cons,Nat.add_mul];omega
theorem kL_none {p:Proof} {is:Bool} (he:¬ kE p is=0):kL p is=[]:=by
 unfold kL kE at *
 by_cases hp:OkP p
 ·by_cases hi:is=true
  ·rw[if_pos hp,if_pos hi] at he
   rw[if_pos ⟨hp,hi⟩]
   by_cases h:knownL p=[]
   ·exact h
   ·rw[if_neg h] at he;exact absurd rfl he
  ·rw[if_neg (fun h=>hi h.2)]
 ·rw[if_neg (fun h=>hp h.1)]
structure Few (p:Proof):Prop where
 fine:Fine p
 ends:OkP p→(endsL p.chain [] p.chain.deeds).length≤1000000
 sets:OkP p→(setsL p.machine [] p.machine.levers).length≤1000000
 all:OkP p→(knownL p).length≤100000
section
variable {K:World→Prop} (hK:∀ w w',K w→Below w.heap.size w w'→K w')
include hK
theorem good27 (p:Proof) (hf:Few p):Ev.Good Tryz.prog K 27 [prV p] (.tup [.int .i64 (kL p true).length,.int .i64 (kE p true)]):=by
 refine good_of_wp hK c27_ok (by simp) ?_
 have hg:=good63 hK p true hf.fine
 simp
 refine callK_of (by simpa using hg) (.inl rfl) ?_
 by_cases he:kE p true=0
 ·obtain ⟨hp,_,hk,_⟩:=kE_ok he
  have hlen:=known_mul p
  have hall:=hf.all hp
  have h1:=hf.ends hp
  have h2:=hf.sets hp
  rw[← stories_len] at h1
  rw[← loads_len] at h2
  have hfile:fileC p=prC p++[.sl 3 (storiesV p),.sl 1 (loadsV p)]:=rfl
  rw[hk,hlen] at *
  rw[hfile]
  generalize storiesV p=SS at *
  generalize loadsV p=LL at *
  simp[he,prC]
  have:((SS.length*LL.length:Nat):Int)=(SS.length:Int)*LL.length:=by push_cast;rfl
  intros
  omega
 ·have hk:kL p true=[]:=by
   unfold kL kE at *
   by_cases hp:OkP p
   ·rw[if_pos hp,if_pos rfl] at he
    rw[if_pos ⟨hp,rfl⟩]
    by_cases h:knownL p=[]
    ·exact h
    ·rw[if_neg h] at he;exact absurd rfl he
   ·rw[if_neg (fun h=>hp h.1)]
  simp[he,hk]
theorem good66 (p:Proof) (is:Bool) (hf:Few p) (g:FuncId) (fs cs:List IV) (B:Truth→Bool) (hg:kE p is=0→∀ t∈knownL p,Ev.Good Tryz.prog K g (fs++[.agg (truthV p t)]++cs) (.bool (B t))) (hc:callee Tryz.prog g=true) :
  Ev.Good Tryz.prog K 66 [prV p,.bool is,.clo g fs cs] (.tup [.int .i64 (if kE p is=0 then toldN ((kL p is).countP B) (kL p is).length else 0),.int .i64 (kE p is)]):=by
 refine good_of_wp hK c66_ok (by simp) ?_
 have hg63:=good63 hK p is hf.fine
 simp
 refine callK_of (by simpa using hg63) (.inl rfl) ?_
 by_cases he:kE p is=0
 ·obtain ⟨hp,_,hk,_⟩:=kE_ok he
  have hg75:=good75 hK p (hf.ends hp) (hf.sets hp) (by have:=hf.all hp;omega) g fs cs B (hg he) hc
  rw[hk]
  generalize fileC p=F at *
  simp[he]
  refine callK_of (by simpa using hg75) (.inl rfl) ?_
  simp
 ·simp[he]
theorem good72 (p:Proof) (t:Truth) (hp:OkP p) (hs:okS p.machine t.set):Ev.Good Tryz.prog K 72 [.agg (truthV p t),.ptr (prC p)] (.bool (goodB p t)):=by
 refine good_of_wp hK c72_ok (by simp) ?_
 have hg:=good73 hK p t p.need hp hs
 obtain ⟨v0,v1,v2,v3,hv⟩:∃ v0 v1 v2 v3,truthV p t=[v0,v1,v2,v3]:=⟨_,_,_,_,rfl⟩
 rw[hv] at hg ⊢
 simp[prC]
 refine callK_of (by simpa using hg) (.inl rfl) ?_
 have hnd:nd p p.need=p:=rfl
 simp[hnd]
theorem good19 (p:Proof) (hf:Few p):Ev.Good Tryz.prog K 19 [prV p] (.tup [.int .i64 (rGood p),.int .i64 (kE p true)]):=by
 refine good_of_wp hK c19_ok (by simp) ?_
 have hg:=good66 hK p true hf 72 [] [.ptr (prC p)] (goodB p) (fun he t ht=>by
  have hp:=(kE_ok he).1
  simpa using good72 hK p t hp (known_set ht)) (by kernel_rfl)
 simp
 refine callK_of (by simpa[prC] using hg) (.inl rfl) ?_
 simp[rGood]
end
end Go.Pf

/- What proofs answers: Proved, Failures, Loads, Broke. -/
namespace Go.Pf
open Go Go.Ev Go.Proofs Go.RowKit
set_option maxRecDepth 8000
theorem foldl_min_span (l:List Int) (n0:Int) (hne:l≠[]) (h:∀ x∈l,x≤n0):l.foldl min n0=(span l).1:=by
 cases l with
 | nil=>exact absurd rfl hne
 | cons a r =>
   have:=h a (by simp)
   show r.foldl min (min n0 a)=r.foldl min a
   rw[show min n0 a=a by omega]
theorem foldl_max_span (l:List Int) (n0:Int) (hne:l≠[]) (h:∀ x∈l,n0≤x):l.foldl max n0=(span l).2:=by
 cases l with
 | nil=>exact absurd rfl hne
 | cons a r =>
   have:=h a (by simp)
   show r.foldl max (max n0 a)=r.foldl max a
   rw[show max n0 a=a by omega]
theorem foldl_snoc {α β:Type} (f:β→α→β) (b:β) (l:List α) (i:Nat) (h:i<l.length):(l.take (i+1)).foldl f b=f ((l.take i).foldl f b) l[i]:=by
 rw[List.take_succ_eq_append_getElem h,List.foldl_append];rfl
section
variable {K:World→Prop} (hK:∀ w w',K w→Below w.heap.size w w'→K w')
include hK
theorem good17 (p:Proof) (hf:Few p):Ev.Good Tryz.prog K 17 [prV p] (.tup [.agg [.int .i64 (rFail p).1,.int .i64 (rFail p).2],.int .i64 (kE p true)]):=by
 refine good_of_wp hK c17_ok (by simp) ?_
 have hg:=good63 hK p true hf.fine
 have htl:=hf.fine.small.trials
 simp
 refine callK_of (by simpa using hg) (.inl rfl) ?_
 by_cases he:kE p true=0
 ·obtain ⟨hp,_,hk,hne⟩:=kE_ok he
  have hit:=iter64 hK p (hf.ends hp) (hf.sets hp)
  have hset:∀ t∈knownL p,okS p.machine t.set:=fun t ht=>known_set ht
  have hg65:∀ t∈knownL p,Ev.Good Tryz.prog K 65 [.agg (truthV p t),.int .i64 p.need] (.int .i64 (failN p t:Nat)):=fun t ht=>good65 hK p t p.need hp (hset t ht)
  have hmin:=foldl_min_span ((knownL p).map fun t=>(failN p t:Int)) p.trials.length (by simpa using hne) (fun x hx=>by
   obtain ⟨t,_,rfl⟩:=List.mem_map.1 hx
   have:=failN_le p t
   omega)
  have hmax:=foldl_max_span ((knownL p).map fun t=>(failN p t:Int)) 0 (by simpa using hne) (fun x hx=>by
   obtain ⟨t,_,rfl⟩:=List.mem_map.1 hx
   omega)
  have hr:rFail p=span ((knownL p).map fun t=>(failN p t:Int)):=by unfold rFail;rw[hk]
  rw[hr,← hmin,← hmax]
  generalize fileC p=F at *
  generalize knownL p=T at *
  simp[he]
  intro _
  refine Wp_range (wy:=.fall) (o':=[(2,.box [.iv (.int .i64 0),.iv (.int .i64 0)]),(6,.box [.iv (.int .i64 ((T.map fun t=>(failN p t:Int)).foldl min p.trials.length)),.iv (.int .i64 ((T.map fun t=>(failN p t:Int)).foldl max 0))])]) rfl (by kernel_rfl) hit ?_ ?_
  ·have:=Rnds.all (P:=Tryz.prog) (K:=K) (ps:=[24]) (asn:=c17_b0a) (body:=c17_b0) (ks:=[1,2,6]) (ids:=[2,6]) (eK:=[(1,.iv (.ptr (prC p))),(2,.loc 2 0),(6,.loc 6 0)]) (T.map (itemT p))
    (fun i=>[(2,.box [.iv (.int .i64 0),.iv (.int .i64 0)]),(6,.box [.iv (.int .i64 (((T.map fun t=>(failN p t:Int)).take i).foldl min p.trials.length)),.iv (.int .i64 (((T.map fun t=>(failN p t:Int)).take i).foldl max 0))])]) fun i x hx=>by
    simp only[List.getElem?_map,Option.map_eq_some_iff] at hx
    obtain ⟨t,ht,rfl⟩:=hx
    obtain ⟨hlt,hget⟩:=List.getElem?_eq_some_iff.1 ht
    have hgt:=hg65 t (List.mem_of_getElem? ht)
    refine ⟨rfl,?_⟩
    rw[foldl_snoc _ _ _ i (by simpa using hlt),foldl_snoc _ _ _ i (by simpa using hlt)]
    obtain ⟨v0,v1,v2,v3,hv⟩:∃ v0 v1 v2 v3,truthV p t=[v0,v1,v2,v3]:=⟨_,_,_,_,rfl⟩
    rw[hv] at hgt
    simp[itemT,hv,c17_b0a,c17_b0,prC]
    refine callK_of (by simpa using hgt) (.inl rfl) ?_
    simp[hget,min_if,max_if]
   simpa[prC] using this
  ·simp
 ·have hk:kL p true=[]:=kL_none he
  simp[he,rFail,hk,span]
end
end Go.Pf

/- What proofs answers: Loads, Broke. -/
namespace Go.Pf
open Go Go.Ev Go.Proofs Go.RowKit
set_option maxRecDepth 8000
theorem sortedL_pair (l:List Int) (lo hi:Int):(sortedL l lo hi).Pairwise (·<·):=by
 unfold sortedL sortedP
 refine List.Pairwise.filter _ ?_
 rw[List.pairwise_map]
 exact List.pairwise_lt_range.imp fun {a b} h=>by omega
theorem sortedL_mem (l:List Int) (lo hi x:Int):x∈sortedL l lo hi↔lo≤x∧x≤hi∧x∈l:=by
 unfold sortedL sortedP
 simp only[List.mem_filter,List.mem_map,List.mem_range,decide_eq_true_eq]
 constructor
 ·rintro ⟨⟨a,h1,rfl⟩,h2⟩
  exact ⟨by omega,by omega,h2⟩
 ·rintro ⟨h1,h2,h3⟩
  exact ⟨⟨(x-lo).toNat,by omega,by omega⟩,h3⟩
section
variable {K:World→Prop} (hK:∀ w w',K w→Below w.heap.size w w'→K w')
include hK
theorem good31 (p:Proof) (n:Int) (hf:Few p):Ev.Good Tryz.prog K 31 [prV p,.int .i64 n] (.tup [ints (rBroke p n),.int .i64 (kE p (trialB p n))]):=by
 refine good_of_wp hK c31_ok (by simp) ?_
 have hg:=good63 hK p (trialB p n) hf.fine
 have hg93:Ev.Good Tryz.prog K 93 [prV p,.int .i64 n] (.bool (trialB p n)):=good93 hK p n hf.fine.small.trials
 simp
 refine callK_of (by simpa using hg93) (.inl rfl) ?_
 simp
 refine callK_of (by simpa using hg) (.inl rfl) ?_
 by_cases he:kE p (trialB p n)=0
 ·obtain ⟨hp,hn,hk,hne⟩:=kE_ok he
  have hn':=of_decide_eq_true hn
  simp only[inR] at hn'
  have hE:=hf.ends hp
  have htl:=hp.trialsLen
  obtain ⟨i,rfl⟩:∃ i:Nat,n=i:=⟨n.toNat,by omega⟩
  have hi:i<p.trials.length:=by omega
  have hbr:rBroke p i=sortD (((endsL p.chain [] p.chain.deeds).map fun e=>brokeN p i (endF e)).filter fun x=>decide (0≤x)):=by
   refine pair_eq (sortedL_pair _ _ _) (sortD_pair _) fun x=>?_
   unfold rBroke
   rw[sortedL_mem,sortD_mem,hk]
   simp only[Int.toNat_natCast,List.mem_map,List.mem_filter,decide_eq_true_eq]
   have hS:setsL p.machine [] p.machine.levers≠[]:=fun c=>by
    have h1:=known_mul p
    rw[loads_len,c] at h1
    exact hne (List.eq_nil_of_length_eq_zero (by simpa using h1))
   constructor
   ·rintro ⟨h1,h2,t,ht,rfl⟩
    simp only[knownL,List.mem_flatMap,List.mem_map] at ht
    obtain ⟨e,he,s,hs,rfl⟩:=ht
    exact ⟨⟨e,he,rfl⟩,h1⟩
   ·rintro ⟨⟨e,he,rfl⟩,h1⟩
    have h2:=broke_bd hp (endF e) hi
    refine ⟨h1,by omega,?_⟩
    obtain ⟨s,hs⟩:=List.exists_mem_of_ne_nil _ hS
    exact ⟨⟨e,s⟩,by simp only[knownL,List.mem_flatMap,List.mem_map];exact ⟨e,he,s,hs,rfl⟩,rfl⟩
  rw[hbr]
  have hfile:fileC p=prC p++[.sl 3 (storiesV p),.sl 1 (loadsV p)]:=rfl
  have hst:storiesV p=(endsL p.chain [] p.chain.deeds).map fun e=>storyP p (endF e):=rfl
  rw[hfile,hst]
  generalize loadsV p=LL at *
  generalize endsL p.chain [] p.chain.deeds=E at *
  simp[he,prC]
  intro _
  refine loop_q (fun j=>[(1,AV.iv (.int .i64 (i:Nat))),(8,.oref 22),(26,.iv (.sl 3 (E.map fun e=>storyP p (endF e)))),(27,.iv (.int .i64 E.length)),(28,.iv (.int .i64 (j:Nat)))])
   (fun j=>[(22,.mapd (encN (cntL (((E.take j).map fun e=>brokeN p i (endF e)).filter fun x=>decide (0≤x)))))]) E.length (fun _=>True) trivial ?_ ?_
  ·intro _
   rw[LoopAt_enter c31_b0.eq_1]
   simp
   refine callK_of (by simpa using good96 hK (encN (cntL ((E.map fun e=>brokeN p i (endF e)).filter fun x=>decide (0≤x))))) (.inl rfl) ?_
   simp
   refine callK_of (goodSorted ((E.map fun e=>brokeN p i (endF e)).filter fun x=>decide (0≤x)) (fun x hx=>?_) ?_) (.inl rfl) ?_
   ·simp only[List.mem_filter,List.mem_map] at hx
    obtain ⟨⟨e,_,rfl⟩,_⟩:=hx
    have:=broke_bd hp (endF e) hi
    omega
   ·refine Nat.le_trans (List.length_filter_le _ _) ?_
    simpa using hE
   ·simp
  ·intro j hj _ ih
   have hst:storyP p (endF E[j])=[.sl 1 ((List.range p.trials.length).map fun i=>[.int .u64 (maskN (thenN p i (endF E[j])):Nat)]),.sl 1 ((List.range p.trials.length).map fun i=>[.int .i64 (brokeN p i (endF E[j]))]),natsI (nowN p (endF E[j]))]:=rfl
   rw[LoopAt_enter c31_b0.eq_1]
   rw[List.take_succ_eq_append_getElem hj,List.map_append,List.filter_append] at ih
   by_cases hb:0≤brokeN p i (endF E[j])
   ·have hfc:(List.map (fun e=>brokeN p i (endF e)) [E[j]]).filter (fun x=>decide (0≤x))=[brokeN p i (endF E[j])]:=by simp[hb]
    rw[hfc,cntL_succ] at ih
    generalize hl:((E.take j).map fun e=>brokeN p i (endF e)).filter (fun x=>decide (0≤x))=l at *
    have hll:l.length≤1000000:=by
     rw[← hl]
     refine Nat.le_trans (List.length_filter_le _ _) ?_
     simp;omega
    have hle:=getC_le (brokeN p i (endF E[j])) l
    have hkk:=encN_kinds (cntL l)
    have hff:=encN_find (brokeN p i (endF E[j])) (cntL l)
    have hii:=encN_inc (brokeN p i (endF E[j])) (cntL l)
    generalize cntL l=kv at *
    simp[hj,hst,hi,hb,hkk,hff,hii] at ih ⊢
    (repeat' first | omega | (with_reducible apply And.intro) | intro _)
   ·have hfc:(List.map (fun e=>brokeN p i (endF e)) [E[j]]).filter (fun x=>decide (0≤x))=[]:=by simp[hb]
    rw[hfc,List.append_nil] at ih
    simp[hj,hst,hi,hb] at ih ⊢
    (repeat' first | omega | (with_reducible apply And.intro) | intro _)
 ·have hk:=kL_none he
  have hr:rBroke p n=[]:=by unfold rBroke;rw[hk];simp[sortedL,sortedP]
  simp[he,hr]
end
end Go.Pf

/- What proofs answers: Blamed, Open. -/
namespace Go.Pf
open Go Go.Ev Go.Proofs Go.RowKit
set_option maxRecDepth 8000
theorem told_sure (T:List Truth) (B:Truth→Bool) (hne:T≠[]):(toldN (T.countP B) T.length=1)↔T.all B=true:=by
 have h1:0<T.length:=List.length_pos_iff.2 hne
 have h2:T.countP B=T.length↔T.all B=true:=by
  rw[List.countP_eq_length,List.all_eq_true]
 unfold toldN
 by_cases h3:T.countP B=T.length
 ·rw[if_pos (by omega)]
  exact ⟨fun _=>h2.1 h3,fun _=>rfl⟩
 ·rw[if_neg (by omega)]
  constructor
  ·intro h
   split at h<;>omega
  ·intro h
   exact absurd (h2.2 h) h3
section
variable {K:World→Prop} (hK:∀ w w',K w→Below w.heap.size w w'→K w')
include hK
end
end Go.Pf

/- What proofs answers: Open. -/
namespace Go.Pf
open Go Go.Ev Go.Proofs Go.RowKit
set_option maxRecDepth 8000
section
variable {K:World→Prop} (hK:∀ w w',K w→Below w.heap.size w w'→K w')
include hK
end
end Go.Pf

/- What proofs answers: Worth. -/
namespace Go.Pf
open Go Go.Ev Go.Proofs Go.RowKit
set_option maxRecDepth 8000
theorem Int.le_or_lt_ (a b:Int):a≤b∨b<a:=by omega
theorem le_fold_min {α:Type} (f:α→Int) (n:Int):∀ (l:List α) (b:Int),n≤l.foldl (fun b k=>min b (f k)) b↔n≤b∧∀ k∈l,n≤f k
 | [],b=>by simp
 | a::l,b=>by
   rw[List.foldl_cons,le_fold_min f n l]
   simp only[List.mem_cons,forall_eq_or_imp]
   constructor
   ·rintro ⟨h1,h2⟩
    exact ⟨by omega,by omega,h2⟩
   ·rintro ⟨h1,h2,h3⟩
    exact ⟨by omega,h3⟩
theorem le_most (p:Proof) (t:Truth) (k:Nat) (n:Int) (hn:0≤n):∀ N:Nat,n≤mostN p t k N↔∃ i<N,inN (thenN p i (endF t.ends)) k=true∧¬ brokeN p i (endF t.ends)=k∧n≤(loadN p i t.set).tdiv (den t.set)
 | 0=>by
   have:mostN p t k 0 = -1:=rfl
   rw[this]
   constructor
   ·omega
   ·rintro ⟨i,hi,_⟩;omega
 | N+1=>by
   rw[mostN_succ]
   have ih:=le_most p t k n hn N
   unfold mostAt
   split
   ·rename_i h
    constructor
    ·intro h1
     rcases Pf.Int.le_or_lt_ n (mostN p t k N) with h2 | h2
     ·obtain ⟨i,hi,h3⟩:=ih.1 h2
      exact ⟨i,by omega,h3⟩
     ·exact ⟨N,by omega,h.1,h.2,by omega⟩
    ·rintro ⟨i,hi,h1,h2,h3⟩
     rcases Nat.lt_or_ge i N with h4 | h4
     ·have:=ih.2 ⟨i,h4,h1,h2,h3⟩;omega
     ·have:i=N:=by omega
      subst this
      omega
   ·rename_i h
    rw[ih]
    constructor
    ·rintro ⟨i,hi,h1⟩
     exact ⟨i,by omega,h1⟩
    ·rintro ⟨i,hi,h1,h2,h3⟩
     rcases Nat.lt_or_ge i N with h4 | h4
     ·exact ⟨i,h4,h1,h2,h3⟩
     ·have:i=N:=by omega
      subst this
      exact absurd ⟨h1,h2⟩ h
theorem le_bestAt (p:Proof) (t:Truth) (n:Int):∀ (l:List Nat) (b:Int),n≤l.foldl (bestAt p t) b↔n≤b∧∀ i∈l,0≤(tr p i).broke→p.rule≤(failsN p t i p.trials.length:Int)→n≤(loadN p i t.set+den t.set-1).tdiv (den t.set)-1
 | [],b=>by simp
 | a::l,b=>by
   rw[List.foldl_cons,le_bestAt p t n l]
   simp only[List.mem_cons,forall_eq_or_imp]
   unfold bestAt
   split
   ·rename_i h
    constructor
    ·rintro ⟨h1,h2⟩
     exact ⟨by omega,fun _ _=>by omega,h2⟩
    ·rintro ⟨h1,h2,h3⟩
     exact ⟨by have:=h2 h.1 h.2;omega,h3⟩
   ·rename_i h
    constructor
    ·rintro ⟨h1,h2⟩
     exact ⟨h1,fun h3 h4=>absurd ⟨h3,h4⟩ h,h2⟩
    ·rintro ⟨h1,_,h3⟩
     exact ⟨h1,h3⟩
theorem has_max (f:Nat→Int):∀ l:List Nat,l≠[]→∃ a∈l,∀ b∈l,f b≤f a
 | [],h=>absurd rfl h
 | [a],_=>⟨a,by simp,by simp⟩
 | a::b::l,_=>by
   obtain ⟨c,h1,h2⟩:=has_max f (b::l) (by simp)
   rcases Pf.Int.le_or_lt_ (f a) (f c) with h | h
   ·refine ⟨c,by simp[h1],fun x hx=>?_⟩
    rw[List.mem_cons] at hx
    rcases hx with rfl | hx
    ·exact h
    ·exact h2 x hx
   ·refine ⟨a,by simp,fun x hx=>?_⟩
    rw[List.mem_cons] at hx
    rcases hx with rfl | hx
    ·omega
    ·have:=h2 x hx;omega
theorem fail_rule {p:Proof} (hp:OkP p) (t:Truth) (n:Int):(failN (nd p n) t:Int)<p.rule↔∀ i<p.trials.length,0≤(tr p i).broke→p.rule≤(failsN p t i p.trials.length:Int)→¬ loadN p i t.set≤n*den t.set:=by
 have hrule:=hp.rule
 simp only[inR] at hrule
 have hf:failN (nd p n) t=(List.range p.trials.length).countP fun i=>decide (0≤(tr p i).broke)&&decide (loadN p i t.set≤n*den t.set):=rfl
 rw[hf]
 constructor
 ·intro h i hi h1 h2 h3
  have:failsN p t i p.trials.length≤(List.range p.trials.length).countP fun i=>decide (0≤(tr p i).broke)&&decide (loadN p i t.set≤n*den t.set):=by
   unfold failsN
   refine List.countP_mono_left fun k _ hk=>?_
   simp only[Bool.and_eq_true,decide_eq_true_eq] at hk ⊢
   exact ⟨hk.1,by omega⟩
  omega
 ·intro h
  refine Classical.byContradiction fun hc=>?_
  have hpos:0<(List.range p.trials.length).countP fun i=>decide (0≤(tr p i).broke)&&decide (loadN p i t.set≤n*den t.set):=by omega
  rw[List.countP_eq_length_filter] at hpos hc
  obtain ⟨a,ha,hmax⟩:=has_max (fun i=>loadN p i t.set) _ (List.length_pos_iff.1 hpos)
  simp only[List.mem_filter,List.mem_range,Bool.and_eq_true,decide_eq_true_eq] at ha
  refine h a ha.1 ha.2.1 ?_ ha.2.2
  have:((List.range p.trials.length).filter fun i=>decide (0≤(tr p i).broke)&&decide (loadN p i t.set≤n*den t.set)).length≤failsN p t a p.trials.length:=by
   rw[← List.countP_eq_length_filter]
   unfold failsN
   refine List.countP_mono_left fun k hk1 hk=>?_
   have:=hmax k (List.mem_filter.2 ⟨hk1,hk⟩)
   simp only[Bool.and_eq_true,decide_eq_true_eq] at hk ⊢
   exact ⟨hk.1,this⟩
  omega
theorem good_worth {p:Proof} (hp:OkP p) {t:Truth} (hs:okS p.machine t.set) {n:Int} (h0:0≤n) (h1:n≤999999999):goodB (nd p n) t=true↔n≤worthN p t:=by
 have hden:=(hp.machine.denB hs).1
 have hld:∀ i<p.trials.length,0≤loadN p i t.set:=fun i hi=>(hp.machine.numB hs (hp.trial hi).1 (hp.trial hi).2.1).1
 have hg:goodB (nd p n) t=(((nowN p (endF t.ends)).all fun (k:Nat)=>provedB (nd p n) k t)&&decide ((failN (nd p n) t:Int)<p.rule)):=rfl
 rw[hg,Bool.and_eq_true,decide_eq_true_eq,List.all_eq_true,fail_rule hp]
 unfold worthN
 rw[le_bestAt]
 unfold bestA
 rw[le_fold_min]
 have hprov:∀ k:Nat,provedB (nd p n) k t=true↔n≤mostN p t k p.trials.length:=fun k=>by
  rw[le_most p t k n h0]
  have hpb:provedB (nd p n) k t=(List.range p.trials.length).any fun i=>decide (n*den t.set≤loadN p i t.set)&&inN (thenN p i (endF t.ends)) k&&!decide (brokeN p i (endF t.ends)=k):=rfl
  rw[hpb,List.any_eq_true]
  constructor
  ·rintro ⟨i,hi,h2⟩
   have hi:=List.mem_range.1 hi
   simp at h2
   exact ⟨i,hi,h2.1.2,h2.2,(le_tdiv_iff (hld i hi) hden).2 h2.1.1⟩
  ·rintro ⟨i,hi,h2,h3,h4⟩
   have h5:=(le_tdiv_iff (hld i hi) hden).1 h4
   exact ⟨i,List.mem_range.2 hi,by simp[h2,h3,h5]⟩
 constructor
 ·rintro ⟨h2,h3⟩
  refine ⟨⟨h1,fun k hk=>(hprov k).1 (h2 k hk)⟩,fun i hi h4 h5=>?_⟩
  have hi:=List.mem_range.1 hi
  have h6:=h3 i hi h4 h5
  have h7:¬ (loadN p i t.set+den t.set-1).tdiv (den t.set)≤n:=fun c=>h6 ((tdiv_le_iff (hld i hi) hden).1 c)
  omega
 ·rintro ⟨⟨_,h2⟩,h3⟩
  refine ⟨fun k hk=>(hprov k).2 (h2 k hk),fun i hi h4 h5 h6=>?_⟩
  have h7:=h3 i (List.mem_range.2 hi) h4 h5
  have h8:=(tdiv_le_iff (c:=n) (hld i hi) hden).2 h6
  omega
theorem sure_worst {p:Proof} (hp:OkP p) (he:kE p true=0) {n:Int} (h0:0≤n) (h1:n≤999999999):(knownL p).all (goodB (nd p n))=true↔n≤rWorst p:=by
 unfold rWorst
 rw[(kE_ok he).2.2.1,le_fold_min,List.all_eq_true]
 constructor
 ·exact fun h=>⟨h1,fun t ht=>(good_worth hp (known_set ht) h0 h1).1 (h t ht)⟩
 ·exact fun h t ht=>(good_worth hp (known_set ht) h0 h1).2 (h.2 t ht)
section
variable {K:World→Prop} (hK:∀ w w',K w→Below w.heap.size w w'→K w')
include hK
theorem good76 (p:Proof) (t:Truth) (n:Int) (hp:OkP p) (hs:okS p.machine t.set):Ev.Good Tryz.prog K 76 [.agg (truthV p t),.ptr [.int .i64 n],.ptr (prC p)] (.bool (goodB (nd p n) t)):=by
 refine good_of_wp hK c76_ok (by simp) ?_
 have hg:=good73 hK p t n hp hs
 obtain ⟨v0,v1,v2,v3,hv⟩:∃ v0 v1 v2 v3,truthV p t=[v0,v1,v2,v3]:=⟨_,_,_,_,rfl⟩
 rw[hv] at hg ⊢
 simp[prC]
 refine callK_of (by simpa using hg) (.inl rfl) ?_
 simp
theorem good74 (p:Proof) (n:Int) (hf:Few p) (he:kE p true=0) (h0:0≤n) (h1:n≤999999999):Ev.Good Tryz.prog K 74 [.int .i64 n,.ptr [.ptr (fileC p)],.ptr (prC p)] (.bool (decide (n≤rWorst p))):=by
 refine good_of_wp hK c74_ok (by simp) ?_
 obtain ⟨hp,_,hk,hne⟩:=kE_ok he
 have hg:=good75 hK p (hf.ends hp) (hf.sets hp) (by have:=hf.all hp;omega) 76 [] [.ptr [.int .i64 n],.ptr (prC p)] (goodB (nd p n)) (fun t ht=>by simpa using good76 hK p t n hp (known_set ht)) (by kernel_rfl)
 have hs:=told_sure (knownL p) (goodB (nd p n)) hne
 rw[sure_worst hp he h0 h1] at hs
 generalize toldN ((knownL p).countP (goodB (nd p n))) (knownL p).length=tv at *
 generalize fileC p=F at *
 simp
 refine callK_of (by simpa using hg) (.inl rfl) ?_
 by_cases h:n≤rWorst p
 ·have:=hs.2 h
  simp[h,this]
 ·have:¬ tv=1:=fun c=>h (hs.1 c)
  simp[h,this]
theorem good20 (p:Proof) (hf:Few p):Ev.Good Tryz.prog K 20 [prV p] (.tup [.int .i64 (rWorth p).1,.int .i64 (rWorth p).2]):=by
 refine good_of_wp hK c20_ok (by simp) ?_
 have hg:=good63 hK p true hf.fine
 simp
 refine callK_of (by simpa using hg) (.inl rfl) ?_
 by_cases he:kE p true=0
 ·obtain ⟨hp,_,hk,hne⟩:=kE_ok he
  have hg74:=fun n h0 h1=>good74 hK p n hf he h0 h1
  have hw:rWorst p≤999999999:=(le_fold_min (worthN p) (rWorst p) (kL p true) 999999999).1 (Int.le_refl _) |>.1
  have hr:rWorth p=if rWorst p<0 then (0,3) else (rWorst p,0):=by unfold rWorth;rw[if_pos he]
  rw[hr]
  generalize rWorst p=W at *
  generalize fileC p=F at *
  simp[he,prC]
  refine Wp_frz _ _ _ _ _ _ _ _ ?_
  simp
  refine ⟨by kernel_rfl,callK_of (by simpa[prC] using hg74 0 (by omega) (by omega)) (.inl rfl) ?_⟩
  by_cases hneg:W<0
  ·have h2:¬ 0≤W:=by omega
   simp[hneg,h2]
  ·have h2:0≤W:=by omega
   simp[hneg,h2]
   refine loop_m (S:=Int × Int) (fun s=>[(6,.iv (.clo 74 [] [.ptr [.ptr F],.ptr (prC p)])),(7,.iv (.int .i64 s.1)),(8,.iv (.int .i64 s.2))]) (fun _=>[]) (fun s=>0≤s.1∧s.1≤W∧W≤s.2∧s.2≤999999999) (fun s=>(s.2-s.1).toNat) ?_ (0,999999999) ⟨by omega,h2,hw,by omega⟩
   rintro ⟨low,high⟩ ⟨i1,i2,i3,i4⟩ ih
   simp only at i1 i2 i3 i4 ih ⊢
   rw[LoopAt_enter c20_b0.eq_1]
   by_cases hlt:low<high
   ·have hmid:(low+high+1).tdiv 2=(low+high+1) / 2:=Int.tdiv_eq_ediv_of_nonneg (by omega)
    have hm1:low<(low+high+1) / 2:=by omega
    have hm2:(low+high+1) / 2≤high:=by omega
    have hgm:=hg74 ((low+high+1) / 2) (by omega) (by omega)
    simp[hlt,hmid]
    generalize (low+high+1) / 2=mid at *
    (repeat' first | omega | (with_reducible apply And.intro) | intro _)
    ·kernel_rfl
    refine callK_of (by simpa[prC] using hgm) (.inl rfl) ?_
    by_cases hmw:mid≤W
    ·simp[hmw]
     exact ih (mid,high) ⟨by simp only;omega,hmw,i3,i4⟩ (by simp only;omega)
    ·simp[hmw]
     (repeat' first | omega | (with_reducible apply And.intro) | intro _)
     exact ih (low,mid-1) ⟨i1,i2,by simp only;omega,by simp only;omega⟩ (by simp only;omega)
   ·have:low=W:=by omega
    subst this
    simp[hlt]
 ·have hr:rWorth p=(0,kE p true):=by unfold rWorth;rw[if_neg he]
  rw[hr]
  simp[he]
  refine Wp_frz _ _ _ _ _ _ _ _ ?_
  simp[he]
end
end Go.Pf

/- The chapter's example. -/
namespace Go.Pf
open Go Go.Ev Go.Proofs Go.RowKit
set_option maxRecDepth 8000
def exD:List Deed:=[⟨1,0,0,5,1⟩,⟨1,1,0,5,2⟩,⟨1,2,0,6,1⟩,⟨4,0,0,0,0⟩,⟨2,0,2,0,0⟩,⟨1,0,1,7,2⟩]
def exC:Chain:=⟨exD++[⟨4,0,0,0,0⟩],[],0⟩
def exM:Machine:=⟨[⟨100,10,11⟩,⟨50,5,5⟩],20,1,2,[⟨10,5,2500,250⟩],0⟩
def exP:Proof:=⟨exC,exM,[⟨30,0,0⟩,⟨31,0,-1⟩],4600,1⟩
section
variable {K:World→Prop} (hK:∀ w w',K w→Below w.heap.size w w'→K w')
include hK
theorem good122:Ev.Good Tryz.prog K 122 [] (maV exM):=by
 refine good_of_wp hK c122_ok (by simp) ?_
 simp[exM]
def ex121:AV:=.tup [.agg [.aref 0 6,.iv (.sl 5 []),.iv (.int .i64 0)],.iv (.agg [.int .i64 6,.int .i64 1,.int .i64 0,.int .i64 6,.int .i64 (-1)]),.iv (.agg [.int .i64 6,.int .i64 0,.int .i64 0,.int .i64 (-1),.int .i64 1])]
theorem goodh121:GoodH Tryz.prog K 121 [] [] [] ex121 [(0,.arr 56 5 (emb (exD.map dC)) 0)]:=by
 refine goodh_of_wp [9] [] [] [] c121_ok.p (by simp[c121]) (by simp) ?_ ?_ ?_ ?_
 ·intro q hq
  simp only[List.mem_singleton] at hq
  subst hq
  exact ⟨by simp,rfl,clO_emb _ _ _ _ _⟩
 ·simp[clA,clAL,ex121]
 ·simp
 ·generalize hG:EndH c121.res [9] [] ex121 [(0,.arr 56 5 (emb (exD.map dC)) 0)]=G
  simp
  rw[← hG]
  refine ⟨⟨_,rfl,rfl⟩,fun q hq=>?_,by simp⟩
  simp only[List.mem_singleton] at hq
  subst hq
  rfl
theorem good60:Ev.Good Tryz.prog K 60 [] (prV exP):=by
 refine good_of_wp hK c60_ok (by simp) ?_
 simp
 refine callH_of (goodh121 hK) rfl ?_ ?_
 ·refine ⟨by simp,by simp,by simp,by simp[lookO],?_⟩
  simp[noExt]
 ·simp[ex121,rn,rnL,nth,rnO_emb]
  refine ⟨⟨rfl,by decide,by decide⟩,callK_of (by simpa using good122 hK) (.inl rfl) ?_⟩
  simp[exP,exC,exM,exD,emb]
end
theorem ex_okC:OkC exC:=by
 refine ⟨by decide,by decide,by decide,fun i h _=>?_,fun s hs=>by simp[exC] at hs⟩
 have all:∀ i<7,isDeedS (exC.deeds.getD i d0) (cnt exC.deeds i):=by decide
 have:=all i h
 rwa [List.getD_eq_getElem?_getD,List.getElem?_eq_getElem h] at this
theorem ex_okM:OkM exM:=by
 refine ⟨by decide,?_,by decide,by decide,by decide,by decide,?_,by decide⟩
 ·intro l hl;simp[exM] at hl;rcases hl with rfl | rfl<;>decide
 ·intro l hl;simp[exM] at hl;subst hl;decide
theorem ex_okP:OkP exP:=by
 refine ⟨ex_okC,ex_okM,by decide,by decide,by decide,fun i h h'=>?_⟩
 have all:∀ i<2,okTrial (exP.trials.getD i t0) (cnt exP.chain.deeds ((pv exP.chain.deeds).getD i 0)):=by decide
 have:=all i h'
 rwa [List.getD_eq_getElem?_getD,List.getElem?_eq_getElem h',List.getD_eq_getElem?_getD,List.getElem?_eq_getElem h] at this
theorem ends_free {c:Chain} (hc:OkC c) (hs:c.sights=[]):endsL c [] c.deeds=choices c.deeds:=by
 have hw:=hc.wrong
 simp only[inR] at hw
 unfold endsL
 have e1:((choices c.deeds).map fun x=>[]++x)=choices c.deeds:=by simp
 rw[e1,List.filter_eq_self]
 intro e he
 have h1:=zip_isCh hc he
 have h2:(wrongsE c.deeds c.sights (endF e):Int)≤c.wrong:=by rw[hs];simpa[wrongsE] using hw.1
 simpa using ⟨h1,h2⟩
theorem shorts_get:∀ {ls:List Lever} {e:List Int},e∈shortsAll ls→e.length=ls.length∧∀ i (h:i<ls.length) (h':i<e.length),inR e[i] ls[i].lo ls[i].hi
 | [],e,h=>by simp[shortsAll] at h;subst h;simp
 | l::r,e,h=>by
   simp only[shortsAll,acc,List.mem_flatMap,List.mem_map,List.mem_range] at h
   obtain ⟨i,hi,e',he',rfl⟩:=h
   obtain ⟨h1,h2⟩:=shorts_get he'
   refine ⟨by simp[h1],fun j h h'=>?_⟩
   cases j with
   | zero=>simp only[List.getElem_cons_zero,inR];omega
   | succ j=>exact h2 j (by simpa using h) (by simpa using h')
theorem sets_ok {m:Machine} {s:Setting} (h:s∈setsAll m [] m.levers):okS m s:=by
 simp only[setsAll,List.mem_flatMap,List.mem_map,List.mem_range] at h
 obtain ⟨e,he,k,hk,rfl⟩:=h
 obtain ⟨h1,h2⟩:=shorts_get he
 exact ⟨by simpa using h1,by simp only[inR];omega,by simpa using h2⟩
theorem sets_eq (m:Machine):setsL m [] m.levers=(setsAll m [] m.levers).filter fun s=>decide ((wrongsS m m.bals s:Int)≤m.wrong):=by
 unfold setsL
 refine List.filter_congr fun s hs=>?_
 rw[Bool.eq_iff_iff]
 simp only[decide_eq_true_eq]
 exact ⟨fun h=>h.2,fun h=>⟨sets_ok hs,h⟩⟩
def exT:List Truth:=[⟨[0,0,0,0,0,1,0],⟨[10,5],1⟩⟩,⟨[0,0,0,0,0,1,0],⟨[11,5],1⟩⟩,⟨[0,0,0,0,1,1,0],⟨[10,5],1⟩⟩,⟨[0,0,0,0,1,1,0],⟨[11,5],1⟩⟩]
theorem ex_known:knownL exP=exT:=by
 unfold knownL
 rw[show exP.chain=exC from rfl,show exP.machine=exM from rfl,ends_free ex_okC rfl,sets_eq]
 decide
theorem ex_rule (r:Int) (hr:inR r 1 12):OkP { exP with rule:=r }:=⟨ex_okP.chain,ex_okP.machine,ex_okP.need,hr,ex_okP.many,ex_okP.trials⟩
theorem ex_kL (r:Int) (hr:inR r 1 12):kL { exP with rule:=r } true=exT∧kE { exP with rule:=r } true=0:=by
 have h1:=ex_rule r hr
 have h2:knownL { exP with rule:=r }=exT:=ex_known
 unfold kL kE
 rw[if_pos ⟨h1,rfl⟩,if_pos h1,if_pos rfl,h2]
 exact ⟨rfl,by decide⟩
theorem ex_few (r:Int) (hr:inR r 1 12):Few { exP with rule:=r }:=by
 have h2:knownL { exP with rule:=r }=exT:=ex_known
 refine ⟨⟨⟨show exP.chain.deeds.length≤1000 by decide,show exP.chain.sights.length≤1000 by decide,show exP.machine.levers.length≤1000 by decide,show exP.machine.bals.length≤1000 by decide,show exP.trials.length≤1000 by decide⟩,fun _=>show sets exP.machine exP.machine.levers.length≤1000000 by decide⟩,fun _=>?_,fun _=>?_,fun _=>by rw[h2];decide⟩
 ·rw[show ({ exP with rule:=r }:Proof).chain=exC from rfl,ends_free ex_okC rfl];decide
 ·rw[show ({ exP with rule:=r }:Proof).machine=exM from rfl,sets_eq]
  exact Nat.le_trans (List.length_filter_le _ _) (by decide)
section
variable {K:World→Prop} (hK:∀ w w',K w→Below w.heap.size w w'→K w')
include hK
end
end Go.Pf
