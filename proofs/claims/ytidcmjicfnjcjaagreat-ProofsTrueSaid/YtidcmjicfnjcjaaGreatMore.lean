/- The laws that compare with the reference: ProofsBroke, ProofsFailures, ProofsGood. -/
import Derived.Test.YtidcmjicfnjcjaaGreatAsks
set_option linter.all false

namespace Go.Pf
open Go Go.Ev Go.Proofs Go.RowKit
set_option maxRecDepth 8000
theorem choices_len:∀ ds:List Deed,(choices ds).length≤2 ^ twos ds
 | []=>by show 1≤2 ^ 0;decide
 | d::r=>by
   have ih:=choices_len r
   by_cases h2:d.frm=2
   ·have e1:twos (d::r)=twos r+1:=by simp[twos,h2]
    rw[e1,Nat.pow_succ]
    simp[choices,endsD,h2]
    omega
   ·have e1:twos (d::r)=twos r:=by simp[twos,h2]
    rw[e1]
    by_cases h0:d.frm=0
    ·simp[choices,endsD,h0];omega
    ·by_cases h1:d.frm=1
     ·simp[choices,endsD,h1];omega
     ·simp[choices,endsD,h0,h1,h2]
theorem ends_le2 (c:Chain):(endsL c [] c.deeds).length≤2 ^ twos c.deeds:=by
 refine Nat.le_trans (List.length_filter_le _ _) ?_
 simpa using choices_len c.deeds
theorem small_of {p:Proof} (h:¬ farP p):Small p:=by
 unfold farP farC farM at h
 simp only[not_or] at h
 exact ⟨by omega,by omega,by omega,by omega,by omega⟩
theorem ways_of {p:Proof} (h:¬ farP p) (hp:OkP p):1≤sets p.machine p.machine.levers.length∧sets p.machine p.machine.levers.length≤48∧2 ^ twos p.chain.deeds≤48:=by
 have h1:ways p≤48:=by
  unfold farP at h
  simp only[not_or] at h
  have:=h.2.2.2
  refine Classical.byContradiction fun hc=>this ⟨hp,by omega⟩
 have hl:=hp.machine.leak
 simp only[inR] at hl
 have h2:1≤sets p.machine p.machine.levers.length:=by
  have h3:=prodF_pos spanL p.machine.levers fun l hl=>(hp.machine.span hl).1
  unfold sets
  rw[List.take_of_length_le (Nat.le_refl _)]
  have h4:1*prodF spanL p.machine.levers≤(p.machine.lhi-p.machine.llo+1)*prodF spanL p.machine.levers:=Int.mul_le_mul_of_nonneg_right (by omega) (by omega)
  omega
 unfold ways at h1
 have hpos:1≤(2 ^ twos p.chain.deeds:Nat):=Nat.pos_of_ne_zero (by simp)
 generalize (2 ^ twos p.chain.deeds:Nat)=W at *
 generalize sets p.machine p.machine.levers.length=S at *
 have a1:S*1≤S*(W:Int):=Int.mul_le_mul_of_nonneg_left (by omega) (by omega)
 have a2:1*(W:Int)≤S*(W:Int):=Int.mul_le_mul_of_nonneg_right h2 (by omega)
 omega
theorem few_of {p:Proof} (h:¬ farP p):Few p:=by
 refine ⟨⟨small_of h,fun hp=>by have:=ways_of h hp;omega⟩,fun hp=>?_,fun hp=>?_,fun hp=>?_⟩
 ·have h1:=ends_le2 p.chain;have h2:=ways_of h hp;omega
 ·have h1:=setsL_le hp.machine;have h2:=ways_of h hp;omega
 ·have h1:=ends_le2 p.chain
  have h2:=ways_of h hp
  have h3:=setsL_le hp.machine
  rw[known_mul,stories_len,loads_len]
  have h4:(endsL p.chain [] p.chain.deeds).length*(setsL p.machine [] p.machine.levers).length≤48*48:=Nat.mul_le_mul (by omega) (by omega)
  omega
section
variable {K:World→Prop} (hK:∀ w w',K w→Below w.heap.size w w'→K w')
include hK
end
end Go.Pf

/- The law of the rule (ProofsRule). -/
namespace Go.Pf
open Go Go.Ev Go.Proofs Go.RowKit
set_option maxRecDepth 8000
def withRule (p:Proof) (r:Int):Proof:=⟨p.chain,p.machine,p.trials,p.need,r⟩
def someN (p:Proof) (i:Nat):Nat:=(List.range i).countP fun k=>decide (0≤(tr p k).broke)
section
variable {K:World→Prop} (hK:∀ w w',K w→Below w.heap.size w w'→K w')
include hK
end
end Go.Pf

/- The law of the greater load (ProofsNeed). -/
namespace Go.Pf
open Go Go.Ev Go.Proofs Go.RowKit
set_option maxRecDepth 8000
section
variable {K:World→Prop} (hK:∀ w w',K w→Below w.heap.size w w'→K w')
include hK
end
end Go.Pf

/- Every truth is among the known ones; what is so of a truth agrees with what is known of all. -/
namespace Go.Pf
open Go Go.Ev Go.Proofs Go.RowKit
set_option maxRecDepth 8000
theorem choices_mem:∀ (ds:List Deed) (e:List Int),(∀ d∈ds,inR d.frm 0 2)→e.length=ds.length→(∀ i (h:i<ds.length) (h':i<e.length),inR e[i] 0 1∧(ds[i].frm<2→e[i]=ds[i].frm))→e∈choices ds
 | [],e,_,hl,_=>by
   have:e=[]:=List.eq_nil_of_length_eq_zero hl
   subst this
   simp[choices]
 | d::ds,[],_,hl,_=>by cases hl
 | d::ds,x::e,hd,hl,h=>by
   have h0:=h 0 (by simp) (by simp)
   simp only[List.getElem_cons_zero] at h0
   have hr:=choices_mem ds e (fun d hd'=>hd d (by simp[hd'])) (by simpa using hl) (fun i h1 h2=>by
    have:=h (i+1) (by simpa using h1) (by simpa using h2)
    simpa only[List.getElem_cons_succ] using this)
   have hf:=hd d (by simp)
   simp only[inR] at hf h0
   simp only[choices,List.mem_flatMap,List.mem_map]
   refine ⟨x,?_,e,hr,rfl⟩
   unfold endsD
   by_cases h2:d.frm=2
   ·have:x=0∨x=1:=by omega
    rcases this with rfl | rfl<;>simp[h2]
   ·have e1:=h0.2 (by omega)
    have:d.frm=0∨d.frm=1:=by omega
    rcases this with h3 | h3<;>simp[h3,e1]
theorem shortsAll_mem:∀ (ls:List Lever) (s:List Int),s.length=ls.length→(∀ i (h:i<ls.length) (h':i<s.length),inR s[i] ls[i].lo ls[i].hi)→s∈shortsAll ls
 | [],s,hl,_=>by
   have:s=[]:=List.eq_nil_of_length_eq_zero hl
   subst this
   simp[shortsAll]
 | l::ls,[],hl,_=>by cases hl
 | l::ls,x::s,hl,h=>by
   have h0:=h 0 (by simp) (by simp)
   simp only[List.getElem_cons_zero,inR] at h0
   have hr:=shortsAll_mem ls s (by simpa using hl) (fun i h1 h2=>by
    have:=h (i+1) (by simpa using h1) (by simpa using h2)
    simpa only[List.getElem_cons_succ] using this)
   simp only[shortsAll,acc,List.mem_flatMap,List.mem_map,List.mem_range]
   refine ⟨(x-l.lo).toNat,by omega,s,hr,?_⟩
   have:l.lo+((x-l.lo).toNat:Int)=x:=by omega
   rw[this]
theorem frm_in {d:Deed} {n:Int} (h:isDeedS d n):inR d.frm 0 2:=by
 rcases h with h | h | h
 ·exact h.2.1
 ·exact h.2.1
 ·rw[h.2.2.1];simp[inR]
theorem endsL_mem {c:Chain} (hc:OkC c) {e:List Int} (h:isTr c e):e∈endsL c [] c.deeds:=by
 simp only[endsL,List.mem_filter,decide_eq_true_eq,List.nil_append,List.map_id']
 refine ⟨choices_mem _ _ (fun d hd=>?_) h.1.1 h.1.2,h⟩
 obtain ⟨i,hi,rfl⟩:=List.getElem_of_mem hd
 exact frm_in (hc.deeds i hi hi)
theorem setsL_mem {m:Machine} {s:Setting} (h:isSet m s):s∈setsL m [] m.levers:=by
 simp only[setsL,List.mem_filter,decide_eq_true_eq]
 refine ⟨?_,h⟩
 obtain ⟨⟨h1,h2,h3⟩,_⟩:=h
 simp only[inR] at h2
 simp only[setsAll,List.mem_flatMap,List.mem_map,List.mem_range,List.nil_append]
 refine ⟨s.shorts,shortsAll_mem _ _ h1 h3,(s.leak-m.llo).toNat,by omega,?_⟩
 have:m.llo+((s.leak-m.llo).toNat:Int)=s.leak:=by omega
 rw[this]
theorem known_of {p:Proof} (hp:OkP p) {t:Truth} (h:isTruth p t):t∈knownL p:=by
 simp only[knownL,List.mem_flatMap,List.mem_map]
 exact ⟨t.ends,endsL_mem hp.chain h.1,t.set,setsL_mem h.2,rfl⟩
theorem kE_of {p:Proof} (hp:OkP p) {t:Truth} (h:t∈knownL p):kE p true=0:=by
 unfold kE
 rw[if_pos hp,if_pos rfl,if_neg (fun e=>by rw[e] at h;cases h)]
theorem span_mem {α:Type} (f:α→Int):∀ (l:List α) (t:α),t∈l→(span (l.map f)).1≤f t∧f t≤(span (l.map f)).2
 | [],_,h=>by cases h
 | a::r,t,h=>by
   have mono:∀ (l:List α) (x u:Int),(l.map f).foldl min x≤x∧u≤(l.map f).foldl max u:=by
    intro l
    induction l with
    | nil=>intro x u;exact ⟨Int.le_refl _,Int.le_refl _⟩
    | cons b l ih =>
      intro x u
      simp only[List.map_cons,List.foldl_cons]
      have:=ih (min x (f b)) (max u (f b))
      omega
   have key:∀ (l:List α) (x u:Int),t∈l→(l.map f).foldl min x≤f t∧f t≤(l.map f).foldl max u:=by
    intro l
    induction l with
    | nil=>intro x u h;cases h
    | cons b l ih =>
      intro x u h
      simp only[List.map_cons,List.foldl_cons]
      rcases List.mem_cons.1 h with rfl | h
      ·have:=mono l (min x (f t)) (max u (f t))
       omega
      ·exact ih _ _ h
   simp only[List.map_cons,span]
   rcases List.mem_cons.1 h with rfl | h
   ·exact mono r _ _
   ·exact key r _ _ h
def agreesP (k:Int) (b:Bool):Prop:=k=3∨(k=1∧b=true)∨(k=2∧b=false)
theorem told_agrees {α:Type} (f:α→Bool) (l:List α) (t:α) (h:t∈l):agreesP (toldN (l.countP f) l.length) (f t):=by
 unfold toldN agreesP
 have hpos:l.length≠0:=fun e=>by rw[List.eq_nil_of_length_eq_zero e] at h;cases h
 split
 ·rename_i h1
  have:l.countP f=l.length:=by omega
  exact .inr (.inl ⟨rfl,(List.countP_eq_length.1 this) t h⟩)
 ·split
  ·rename_i h2
   have:l.countP f=0:=by omega
   have h3:=(List.countP_eq_zero.1 this) t h
   exact .inr (.inr ⟨rfl,by simpa using h3⟩)
  ·exact .inl rfl
theorem fail_in {p:Proof} (hp:OkP p) {t:Truth} (h:t∈knownL p):(rFail p).1≤failN p t∧(failN p t:Int)≤(rFail p).2:=by
 have hk:=kE_of hp h
 unfold rFail
 rw[(kE_ok hk).2.2.1]
 exact span_mem (fun t=>(failN p t:Int)) _ t h
theorem cond_in {p:Proof} (hp:OkP p) {t:Truth} (h:t∈knownL p):agreesP (rCond p) (decide (p.rule≤(failN p t:Int))):=by
 have hk:=kE_of hp h
 unfold rCond
 rw[if_pos hk,(kE_ok hk).2.2.1]
 exact told_agrees (fun t=>decide (p.rule≤(failN p t:Int))) _ t h
theorem good_in {p:Proof} (hp:OkP p) {t:Truth} (h:t∈knownL p):agreesP (rGood p) (goodB p t):=by
 have hk:=kE_of hp h
 unfold rGood
 rw[if_pos hk,(kE_ok hk).2.2.1]
 exact told_agrees (goodB p) _ t h
theorem proved_in {p:Proof} (hp:OkP p) {t:Truth} (h:t∈knownL p) {link:Int} (hl:linkB p link=true):agreesP (rProved p link) (provedB p link t):=by
 have hk:=kE_of hp h
 unfold rProved
 rw[hl,if_pos hk,(kE_ok hk).2.2.1]
 exact told_agrees (provedB p link) _ t h
theorem now_len {p:Proof} (hp:OkP p) (e:Nat→Int):((nowN p e).length:Int)=leftN p.chain.deeds∧(nowN p e).length≤12:=by
 have h1:=cab_len e hp.chain.deeds p.chain.deeds.length (Nat.le_refl _) (Nat.le_refl _)
 have h2:=OkD.cnt hp.chain.deeds p.chain.deeds.length (Nat.le_refl _) (Nat.le_refl _)
 have h3:=hp.chain.len
 refine ⟨h1,?_⟩
 unfold nowN
 omega
theorem open_in {p:Proof} (hp:OkP p) {t:Truth} (h:t∈knownL p) {i:Nat} (hi:i<(nowN p (endF t.ends)).length) (hb:provedB p ((nowN p (endF t.ends))[i]:Nat) t=false):(i:Int)∈rOpen p:=by
 have hk:=kE_of hp h
 have hl:=(now_len hp (endF t.ends)).1
 unfold rOpen
 rw[if_pos hk,(kE_ok hk).2.2.1]
 simp only[acc,List.mem_flatMap,List.mem_range]
 refine ⟨i,by omega,?_⟩
 rw[if_neg]
 ·simp
 ·intro hc
  have:=List.all_eq_true.1 hc t h
  rw[List.getD_eq_getElem?_getD,List.getElem?_eq_getElem hi,Option.getD_some,hb] at this
  cases this
theorem open_len {p:Proof} (hle:leftN p.chain.deeds≤12):(rOpen p).length≤12:=by
 unfold rOpen
 split
 ·have:=acc_len (fun at_:Nat=>if (kL p true).all (fun t=>provedB p ((nowN p (endF t.ends)).getD at_ 0) t) then [] else [(at_:Int)]) 1 (fun k=>by split<;>simp) (leftN p.chain.deeds).toNat
  omega
 ·simp
theorem span_ge {α:Type} (f:α→Int) (a:Int):∀ l:List α,l≠[]→(∀ t∈l,a≤f t)→a≤(span (l.map f)).1
 | [],h,_=>absurd rfl h
 | b::r,_,h=>by
   have key:∀ (l:List α) (x:Int),(∀ t∈l,a≤f t)→a≤x→a≤(l.map f).foldl min x:=by
    intro l
    induction l with
    | nil=>intro x _ h;exact h
    | cons c l ih =>
      intro x hl hx
      have:=hl c (by simp)
      simp only[List.map_cons,List.foldl_cons]
      exact ih _ (fun t ht=>hl t (by simp[ht])) (by omega)
   simp only[List.map_cons,span]
   exact key r _ (fun t ht=>h t (by simp[ht])) (h b (by simp))
theorem span_le {α:Type} (f:α→Int) (a:Int):∀ l:List α,l≠[]→(∀ t∈l,f t≤a)→(span (l.map f)).2≤a
 | [],h,_=>absurd rfl h
 | b::r,_,h=>by
   have key:∀ (l:List α) (x:Int),(∀ t∈l,f t≤a)→x≤a→(l.map f).foldl max x≤a:=by
    intro l
    induction l with
    | nil=>intro x _ h;exact h
    | cons c l ih =>
      intro x hl hx
      have:=hl c (by simp)
      simp only[List.map_cons,List.foldl_cons]
      exact ih _ (fun t ht=>hl t (by simp[ht])) (by omega)
   simp only[List.map_cons,span]
   exact key r _ (fun t ht=>h t (by simp[ht])) (h b (by simp))
theorem up_facts {a b:Int} (ha:0≤a) (hb:1≤b):a.tdiv b≤(a+b-1).tdiv b∧(a.tdiv b<(a+b-1).tdiv b∨a.tmod b=0):=by
 rw[Int.tdiv_eq_ediv_of_nonneg ha,Int.tdiv_eq_ediv_of_nonneg (by omega),Int.tmod_eq_emod_of_nonneg ha]
 have h1:=Int.mul_ediv_add_emod a b
 have h2:=Int.emod_nonneg a (show b≠0 by omega)
 refine ⟨Int.ediv_le_ediv (by omega) (by omega),?_⟩
 by_cases h:a % b=0
 ·exact .inr h
 ·refine .inl ?_
  rw[← Int.add_one_le_iff,Int.le_ediv_iff_mul_le (by omega),Int.add_mul,Int.mul_comm]
  omega
theorem load_in {p:Proof} (hp:OkP p) {t:Truth} (h:t∈knownL p) {w mn:Int} (hw:inR w 0 9999) (hm:inR mn 0 99) :
  tE p.machine (askB w mn 0)=0∧0≤(rLoad p.machine w mn).1∧(rLoad p.machine w mn).2<107374182400000∧(rLoad p.machine w mn).1≤(num p.machine t.set w mn).tdiv (den t.set) ∧
   (num p.machine t.set w mn).tdiv (den t.set)≤(rLoad p.machine w mn).2∧((num p.machine t.set w mn).tdiv (den t.set)<(rLoad p.machine w mn).2∨(num p.machine t.set w mn).tmod (den t.set)=0):=by
 have hk:askB w mn 0=true:=decide_eq_true ⟨hw,hm,by simp[inR]⟩
 have ht:t.set∈setsL p.machine [] p.machine.levers:=setsL_mem (known_truth h).2
 have hT:tL p.machine true=setsL p.machine [] p.machine.levers:=by unfold tL;rw[if_pos ⟨hp.machine,rfl⟩]
 have hne:setsL p.machine [] p.machine.levers≠[]:=fun e=>by rw[e] at ht;cases ht
 have hall:∀ s∈setsL p.machine [] p.machine.levers,0≤num p.machine s w mn∧num p.machine s w mn≤19998000000000∧1≤den s∧den s≤1000000000:=fun s hs=>by
  have h1:=(setsL_truth hs).1
  have h2:=hp.machine.numB h1 hw hm
  have h3:=hp.machine.denB h1
  exact ⟨h2.1,h2.2,h3.1,h3.2⟩
 have hup:=up_facts (hall _ ht).1 (hall _ ht).2.2.1
 unfold rLoad
 rw[hk,hT]
 have h1:=span_mem (lowS p.machine w mn) _ _ ht
 have h2:=span_mem (upS p.machine w mn) _ _ ht
 have h3:=span_ge (lowS p.machine w mn) 0 _ hne fun s hs=>(tdiv_bd (hall s hs).1 (hall s hs).2.2.1).1
 have h4:=span_le (upS p.machine w mn) 19999000000000 _ hne fun s hs=>by
  have:=hall s hs
  have:=(tdiv_bd (a:=num p.machine s w mn+den s-1) (b:=den s) (by omega) this.2.2.1).2
  unfold upS
  omega
 refine ⟨by unfold tE;rw[if_pos hp.machine,if_pos rfl,if_neg hne],h3,by simp only;omega,h1.1,?_,?_⟩
 ·exact Int.le_trans hup.1 h2.2
 ·rcases hup.2 with h5 | h5
  ·exact .inl (Int.lt_of_lt_of_le h5 h2.2)
  ·exact .inr h5
theorem broke_bd2 {p:Proof} (hp:OkP p) (e:Nat→Int) {i:Nat} (hi:i<p.trials.length):(brokeN p i e = -1∧(tr p i).broke<0)∨(0≤(tr p i).broke∧0≤brokeN p i e∧brokeN p i e≤12):=by
 by_cases hb:0≤(tr p i).broke
 ·obtain ⟨h1,h2⟩:=hp.brokeIn e hi hb
  have h3:=OkP.thenLt e i (List.getElem_mem h1)
  have h4:=idxs_len isWeld p.chain.deeds 0
  have h5:=hp.chain.len
  unfold welds at h3
  refine .inr ⟨hb,?_⟩
  rw[h2]
  omega
 ·refine .inl ⟨?_,by omega⟩
  unfold brokeN
  rw[if_neg hb]
theorem broke_in {p:Proof} (hp:OkP p) {t:Truth} (h:t∈knownL p) {n:Int} (hn:trialB p n=true):(rBroke p n).length≤13∧(0≤brokeN p n.toNat (endF t.ends)→brokeN p n.toNat (endF t.ends)∈rBroke p n) ∧
  (brokeN p n.toNat (endF t.ends)<0→rBroke p n=[]):=by
 have hk:=kE_of hp h
 have hn':=of_decide_eq_true hn
 simp only[inR] at hn'
 have hi:n.toNat<p.trials.length:=by omega
 unfold rBroke
 rw[hn,(kE_ok hk).2.2.1]
 refine ⟨sortedP_len _ _ _,fun h0=>?_,fun h0=>?_⟩
 ·rw[sortedL_mem]
  have:=broke_bd2 hp (endF t.ends) hi
  exact ⟨h0,by omega,List.mem_map.2 ⟨t,h,rfl⟩⟩
 ·have h1:=broke_bd2 hp (endF t.ends) hi
  refine List.eq_nil_iff_forall_not_mem.2 fun x hx=>?_
  rw[sortedL_mem] at hx
  obtain ⟨h2,_,h3⟩:=hx
  obtain ⟨u,_,rfl⟩:=List.mem_map.1 h3
  have h4:=broke_bd2 hp (endF u.ends) hi
  omega
end Go.Pf

/- The law of each truth (ProofsTrue). -/
namespace Go.Pf
open Go Go.Ev Go.Proofs Go.RowKit
set_option maxRecDepth 8000
instance (k:Int) (b:Bool):Decidable (agreesP k b):=by unfold agreesP;infer_instance
section
variable {K:World→Prop} (hK:∀ w w',K w→Below w.heap.size w w'→K w')
include hK
theorem good48 (k:Int) (b:Bool):Ev.Good Tryz.prog K 48 [.int .i64 k,.bool b] (.bool (decide (agreesP k b))):=by
 refine good_of_wp hK c48_ok (by simp) ?_
 unfold agreesP
 by_cases h3:k=3
 ·simp[h3]
 ·by_cases h1:k=1
  ·cases b<;>simp[h1]
  ·by_cases h2:k=2
   ·cases b<;>simp[h2]
   ·simp[h1,h2,h3]
theorem good48t {k:Int} {b:Bool} (h:agreesP k b):Ev.Good Tryz.prog K 48 [.int .i64 k,.bool b] (.bool true):=by
 have:=good48 hK k b
 rwa [decide_eq_true h] at this
theorem law11 (p:Proof) (t:Truth) (trial link:Int):Ev.Good Tryz.prog K 11 [prV p,.agg (tuC t),.agg [.int .i64 trial,.int .i64 link]] (.bool true):=by
 refine good_of_wp hK c11_ok (by simp) ?_
 have g15:=good15 hK
 have g13:=good13 hK p
 generalize hd:decide (¬ farP p∧OkP p)=rd at g13
 cases rd
 ·simp
  refine callK_of (by simpa using g13) (.inl rfl) ?_
  simp
  refine callK_of g15 (.inl rfl) ?_
  simp
 obtain ⟨hfar,hp⟩:=of_decide_eq_true hd
 by_cases h1:40<(t.ends.length:Int)
 ·simp
  refine callK_of (by simpa using g13) (.inl rfl) ?_
  simp[h1]
  repeat' first | omega | intro _ | apply And.intro
  refine callK_of g15 (.inl rfl) ?_
  simp
 by_cases h2:40<(t.set.shorts.length:Int)
 ·simp
  refine callK_of (by simpa using g13) (.inl rfl) ?_
  simp[h1,h2]
  repeat' first | omega | intro _ | apply And.intro
  refine callK_of g15 (.inl rfl) ?_
  simp
 have g46:=good46 hK p t hp
 by_cases ht:isTruth p t
 ·rw[decide_eq_true ht] at g46
  have hs:=small_of hfar
  have hf:=few_of hfar
  have hkn:=known_of hp ht
  have hfit:=ht.fit
  have hE:=kE_of hp hkn
  have g17:=good17 hK p hf
  have g23:=good23 hK p hf
  have g19:=good19 hK p hf
  have g40:=good40 hK p hf
  have g47:=good47 hK p t hp hfit
  have g49:=good49 hK p t hp hfit
  rw[hE] at g17 g23 g19 g40
  have hF:=fail_in hp hkn
  have g48m:=good48t hK (cond_in hp hkn)
  have g48n:=good48t hK (good_in hp hkn)
  have hnow:=now_len hp (endF t.ends)
  have hol:=open_len (p:=p) (by have:=hnow.1;have:=hnow.2;omega)
  have hoi:=fun i hi hb=>open_in hp hkn (i:=i) hi hb
  have g50:=good50 hK p.chain t.ends hp.chain.deeds hs.deeds hfit.ends
  have g51:=fun l:Int=>good51 hK p l t hp hfit
  have g52:=fun i:Int=>good52 hK (rOpen p) i
  have hed:cab p.chain.deeds (endF t.ends) p.chain.deeds.length=nowN p (endF t.ends):=rfl
  rw[hed] at g50
  have g14:Ev.Good Tryz.prog K 14 [chV p.chain,.int .i64 link] (.bool (linkB p link)):=good14 hK p.chain link hs.deeds
  have g18:=good18 hK p link hf
  have hpr:=fun hl=>good48t hK (proved_in hp hkn (link:=link) hl)
  have g53:Ev.Good Tryz.prog K 53 [prV p,.int .i64 trial] (.bool (trialB p trial)):=good53 hK p trial hs.trials
  generalize rOpen p=O at *
  generalize nowN p (endF t.ends)=now at *
  generalize rCond p=m at *
  generalize rGood p=n at *
  generalize rFail p=F at *
  obtain ⟨f1,f2⟩:=F
  simp only at hF g17
  generalize failN p t=fails at *
  have k1:¬ (fails:Int)<f1:=by omega
  have k2:¬ f2<(fails:Int):=by omega
  have k3:¬ 40<(O.length:Int):=by omega
  simp
  refine callK_of (by simpa using g13) (.inl rfl) ?_
  simp[h1,h2]
  repeat' first | omega | intro _ | apply And.intro
  refine callK_of (by simpa using g46) (.inl rfl) ?_
  simp
  refine callK_of (by simpa using g17) (.inl rfl) ?_
  simp
  refine callK_of (by simpa using g23) (.inl rfl) ?_
  simp
  refine callK_of (by simpa using g19) (.inl rfl) ?_
  simp
  refine callK_of (by simpa using g40) (.inl rfl) ?_
  simp
  refine callK_of (by simpa using g47) (.inl rfl) ?_
  simp[k1,k2,k3]
  repeat' first | omega | intro _ | apply And.intro
  refine callK_of (by simpa using g48m) (.inl rfl) ?_
  simp
  repeat' first | omega | intro _ | apply And.intro
  refine callK_of (by simpa using g49) (.inl rfl) ?_
  simp
  refine callK_of (by simpa using g48n) (.inl rfl) ?_
  simp
  refine callK_of (by simpa using g50) (.inl rfl) ?_
  simp
  refine loop_q (fun i=>[(3,AV.iv (.ptr (prC p))),(4,AV.iv (.ptr [ints t.ends,ints t.set.shorts,.int .i64 t.set.leak])),(5,AV.iv (.ptr [.int .i64 trial,.int .i64 link])),(13,AV.iv (ints O)),(16,AV.iv (natsI now)),(17,AV.iv (.int .i64 (i:Nat)))]) (fun _=>[]) now.length (fun i=>True) trivial ?_ ?_
  ·intro _
   rw[LoopAt_enter c11_b0.eq_1]
   simp[prC]
   repeat' first | omega | intro _ | apply And.intro
   refine callK_of (by simpa using g14) (.inl rfl) ?_
   cases hl:linkB p link
   ·simp
    refine callK_of (by simpa using g53) (.inl rfl) ?_
    cases htr:trialB p trial
    ·simp
     refine callK_of g15 (.inl rfl) ?_
     simp
    obtain ⟨i,hi,rfl⟩:∃ i:Nat,i<p.trials.length∧trial=i:=by
     have:=of_decide_eq_true htr
     simp only[inR] at this
     exact ⟨trial.toNat,by omega,by omega⟩
    have g31:=good31 hK p i hf
    have g29:=good29 hK p i hf
    have g54:=good54 hK p i t.ends hp hi hfit.ends
    have g55:=good55 hK p i t hp hi hfit
    have hti:=hp.trial hi
    have hL:=load_in hp hkn hti.1 hti.2.1
    have hB:=broke_in hp hkn htr
    have hdn:=hp.machine.denB hfit.set
    have hnm:=hp.machine.numB hfit.set hti.1 hti.2.1
    have e1:num p.machine t.set (tr p i).weight (tr p i).mins=loadN p i t.set:=rfl
    rw[htr,hE] at g31 g29
    rw[e1] at hL hnm
    rw[if_pos rfl,if_pos rfl,if_pos rfl] at g29
    simp only[Int.toNat_natCast] at g29 hB
    rw[hL.1] at g29
    have g52b:=fun b:Int=>good52 hK (rBroke p i) b
    generalize rBroke p i=L at *
    generalize brokeN p i (endF t.ends)=b at *
    generalize loadN p i t.set=nm at *
    generalize den t.set=dn at *
    generalize rLoad p.machine (tr p i).weight (tr p i).mins=R at *
    obtain ⟨lo,hiL⟩:=R
    simp only at hL g29
    obtain ⟨_,l1,l2,l3,l4,l5⟩:=hL
    have l6:¬ 40<(L.length:Int):=by omega
    simp
    refine callK_of (by simpa using g31) (.inl rfl) ?_
    simp
    refine callK_of (by simpa using g29) (.inl rfl) ?_
    simp
    refine callK_of (by simpa using g54) (.inl rfl) ?_
    simp[l6]
    by_cases hb:0≤b
    ·have hbm:=hB.2.1 hb
     have hlen:0<L.length:=List.length_pos_of_mem hbm
     have h52:=g52b b
     rw[decide_eq_true hbm] at h52
     simp[hb,hlen]
     repeat' first | omega | intro _ | apply And.intro
     refine callK_of (by simpa using h52) (.inl rfl) ?_
     simp
     refine callK_of (by simpa using g55) (.inl rfl) ?_
     simp[l1,l2,l3,l4]
     have h5:hiL≤nm.tdiv dn→nm.tmod dn=0:=fun h=>l5.resolve_left (by omega)
     refine ⟨⟨by omega,by omega,by omega⟩,fun h=>⟨by omega,fun _=>?_,h5 h⟩,fun _=>?_⟩
     ·refine callK_of g15 (.inl rfl) ?_
      simp
     ·refine callK_of g15 (.inl rfl) ?_
      simp
    ·have hL0:=hB.2.2 (by omega)
     subst hL0
     simp[hb]
     repeat' first | omega | intro _ | apply And.intro
     refine callK_of (by simpa using g55) (.inl rfl) ?_
     simp[l1,l2,l3,l4]
     have h5:hiL≤nm.tdiv dn→nm.tmod dn=0:=fun h=>l5.resolve_left (by omega)
     refine ⟨⟨by omega,by omega,by omega⟩,fun h=>⟨by omega,fun _=>?_,h5 h⟩,fun _=>?_⟩
     ·refine callK_of g15 (.inl rfl) ?_
      simp
     ·refine callK_of g15 (.inl rfl) ?_
      simp
   ·rw[hl,hE] at g18
    have g48p:=hpr hl
    simp
    refine callK_of (by simpa using g18) (.inl rfl) ?_
    simp
    repeat' first | omega | intro _ | apply And.intro
    refine callK_of (by simpa using g51 link) (.inl rfl) ?_
    simp
    refine callK_of (by simpa using g48p) (.inl rfl) ?_
    simp
    refine callK_of (by simpa using g53) (.inl rfl) ?_
    cases htr:trialB p trial
    ·simp
     refine callK_of g15 (.inl rfl) ?_
     simp
    obtain ⟨i,hi,rfl⟩:∃ i:Nat,i<p.trials.length∧trial=i:=by
     have:=of_decide_eq_true htr
     simp only[inR] at this
     exact ⟨trial.toNat,by omega,by omega⟩
    have g31:=good31 hK p i hf
    have g29:=good29 hK p i hf
    have g54:=good54 hK p i t.ends hp hi hfit.ends
    have g55:=good55 hK p i t hp hi hfit
    have hti:=hp.trial hi
    have hL:=load_in hp hkn hti.1 hti.2.1
    have hB:=broke_in hp hkn htr
    have hdn:=hp.machine.denB hfit.set
    have hnm:=hp.machine.numB hfit.set hti.1 hti.2.1
    have e1:num p.machine t.set (tr p i).weight (tr p i).mins=loadN p i t.set:=rfl
    rw[htr,hE] at g31 g29
    rw[e1] at hL hnm
    rw[if_pos rfl,if_pos rfl,if_pos rfl] at g29
    simp only[Int.toNat_natCast] at g29 hB
    rw[hL.1] at g29
    have g52b:=fun b:Int=>good52 hK (rBroke p i) b
    generalize rBroke p i=L at *
    generalize brokeN p i (endF t.ends)=b at *
    generalize loadN p i t.set=nm at *
    generalize den t.set=dn at *
    generalize rLoad p.machine (tr p i).weight (tr p i).mins=R at *
    obtain ⟨lo,hiL⟩:=R
    simp only at hL g29
    obtain ⟨_,l1,l2,l3,l4,l5⟩:=hL
    have l6:¬ 40<(L.length:Int):=by omega
    simp
    refine callK_of (by simpa using g31) (.inl rfl) ?_
    simp
    refine callK_of (by simpa using g29) (.inl rfl) ?_
    simp
    refine callK_of (by simpa using g54) (.inl rfl) ?_
    simp[l6]
    by_cases hb:0≤b
    ·have hbm:=hB.2.1 hb
     have hlen:0<L.length:=List.length_pos_of_mem hbm
     have h52:=g52b b
     rw[decide_eq_true hbm] at h52
     simp[hb,hlen]
     repeat' first | omega | intro _ | apply And.intro
     refine callK_of (by simpa using h52) (.inl rfl) ?_
     simp
     refine callK_of (by simpa using g55) (.inl rfl) ?_
     simp[l1,l2,l3,l4]
     have h5:hiL≤nm.tdiv dn→nm.tmod dn=0:=fun h=>l5.resolve_left (by omega)
     refine ⟨⟨by omega,by omega,by omega⟩,fun h=>⟨by omega,fun _=>?_,h5 h⟩,fun _=>?_⟩
     ·refine callK_of g15 (.inl rfl) ?_
      simp
     ·refine callK_of g15 (.inl rfl) ?_
      simp
    ·have hL0:=hB.2.2 (by omega)
     subst hL0
     simp[hb]
     repeat' first | omega | intro _ | apply And.intro
     refine callK_of (by simpa using g55) (.inl rfl) ?_
     simp[l1,l2,l3,l4]
     have h5:hiL≤nm.tdiv dn→nm.tmod dn=0:=fun h=>l5.resolve_left (by omega)
     refine ⟨⟨by omega,by omega,by omega⟩,fun h=>⟨by omega,fun _=>?_,h5 h⟩,fun _=>?_⟩
     ·refine callK_of g15 (.inl rfl) ?_
      simp
     ·refine callK_of g15 (.inl rfl) ?_
      simp
  ·intro i hi _ ih
   rw[LoopAt_enter c11_b0.eq_1]
   have hmem:=fun hb=>hoi i hi hb
   simp[hi,prC] at ih ⊢
   repeat' first | omega | intro _ | apply And.intro
   refine callK_of (by simpa using g51 (now[i]:Nat)) (.inl rfl) ?_
   cases hb:provedB p (now[i]:Nat) t
   ·have h52:=g52 i
    rw[decide_eq_true (hmem hb)] at h52
    simp
    repeat' first | omega | intro _ | apply And.intro
    refine callK_of (by simpa using h52) (.inl rfl) ?_
    simp
    repeat' first | omega | exact ih | intro _ | apply And.intro
   ·simp
    repeat' first | omega | exact ih | intro _ | apply And.intro
 ·rw[decide_eq_false ht] at g46
  simp
  refine callK_of (by simpa using g13) (.inl rfl) ?_
  simp[h1,h2]
  repeat' first | omega | intro _ | apply And.intro
  refine callK_of (by simpa using g46) (.inl rfl) ?_
  simp
  refine callK_of g15 (.inl rfl) ?_
  simp
end
end Go.Pf
