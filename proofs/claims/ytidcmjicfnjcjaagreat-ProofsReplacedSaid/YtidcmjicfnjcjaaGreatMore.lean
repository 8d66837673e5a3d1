/- The laws that compare with the reference: ProofsBroke, ProofsFailures, ProofsGood. -/
import Derived.Test.YtidcmjicfnjcjaaGreatAsks
set_option linter.all false

namespace Go.Pf
open Go Go.Ev Go.Proofs Go.RowKit
set_option maxRecDepth 8000
theorem choices_len:∀ ds:List Deed,(choices ds).length≤2 ^ twos ds
 | []=>by show 1≤2 ^ 0;decide
 | d::r=>by
   have ih:=choices_len r
   by_cases h2:d.frm=2
   ·have e1:twos (d::r)=twos r+1:=by simp[twos,h2]
    rw[e1,Nat.pow_succ]
    simp[choices,endsD,h2]
    omega
   ·have e1:twos (d::r)=twos r:=by simp[twos,h2]
    rw[e1]
    by_cases h0:d.frm=0
    ·simp[choices,endsD,h0];omega
    ·by_cases h1:d.frm=1
     ·simp[choices,endsD,h1];omega
     ·simp[choices,endsD,h0,h1,h2]
theorem ends_le2 (c:Chain):(endsL c [] c.deeds).length≤2 ^ twos c.deeds:=by
 refine Nat.le_trans (List.length_filter_le _ _) ?_
 simpa using choices_len c.deeds
theorem small_of {p:Proof} (h:¬ farP p):Small p:=by
 unfold farP farC farM at h
 simp only[not_or] at h
 exact ⟨by omega,by omega,by omega,by omega,by omega⟩
theorem ways_of {p:Proof} (h:¬ farP p) (hp:OkP p):1≤sets p.machine p.machine.levers.length∧sets p.machine p.machine.levers.length≤48∧2 ^ twos p.chain.deeds≤48:=by
 have h1:ways p≤48:=by
  unfold farP at h
  simp only[not_or] at h
  have:=h.2.2.2
  refine Classical.byContradiction fun hc=>this ⟨hp,by omega⟩
 have hl:=hp.machine.leak
 simp only[inR] at hl
 have h2:1≤sets p.machine p.machine.levers.length:=by
  have h3:=prodF_pos spanL p.machine.levers fun l hl=>(hp.machine.span hl).1
  unfold sets
  rw[List.take_of_length_le (Nat.le_refl _)]
  have h4:1*prodF spanL p.machine.levers≤(p.machine.lhi-p.machine.llo+1)*prodF spanL p.machine.levers:=Int.mul_le_mul_of_nonneg_right (by omega) (by omega)
  omega
 unfold ways at h1
 have hpos:1≤(2 ^ twos p.chain.deeds:Nat):=Nat.pos_of_ne_zero (by simp)
 generalize (2 ^ twos p.chain.deeds:Nat)=W at *
 generalize sets p.machine p.machine.levers.length=S at *
 have a1:S*1≤S*(W:Int):=Int.mul_le_mul_of_nonneg_left (by omega) (by omega)
 have a2:1*(W:Int)≤S*(W:Int):=Int.mul_le_mul_of_nonneg_right h2 (by omega)
 omega
theorem few_of {p:Proof} (h:¬ farP p):Few p:=by
 refine ⟨⟨small_of h,fun hp=>by have:=ways_of h hp;omega⟩,fun hp=>?_,fun hp=>?_,fun hp=>?_⟩
 ·have h1:=ends_le2 p.chain;have h2:=ways_of h hp;omega
 ·have h1:=setsL_le hp.machine;have h2:=ways_of h hp;omega
 ·have h1:=ends_le2 p.chain
  have h2:=ways_of h hp
  have h3:=setsL_le hp.machine
  rw[known_mul,stories_len,loads_len]
  have h4:(endsL p.chain [] p.chain.deeds).length*(setsL p.machine [] p.machine.levers).length≤48*48:=Nat.mul_le_mul (by omega) (by omega)
  omega
section
variable {K:World→Prop} (hK:∀ w w',K w→Below w.heap.size w w'→K w')
include hK
end
end Go.Pf

/- The law of the rule (ProofsRule). -/
namespace Go.Pf
open Go Go.Ev Go.Proofs Go.RowKit
set_option maxRecDepth 8000
def withRule (p:Proof) (r:Int):Proof:=⟨p.chain,p.machine,p.trials,p.need,r⟩
theorem kE_known {p:Proof} (hp:OkP p) (is:Bool):kE p is=0∨kE p is=3∨(is=false∧kE p is=1):=by
 unfold kE
 rw[if_pos hp]
 cases is
 ·exact .inr (.inr ⟨rfl,rfl⟩)
 ·simp only[if_true]
  split
  ·exact .inr (.inl rfl)
  ·exact .inl rfl
def someN (p:Proof) (i:Nat):Nat:=(List.range i).countP fun k=>decide (0≤(tr p k).broke)
section
variable {K:World→Prop} (hK:∀ w w',K w→Below w.heap.size w w'→K w')
include hK
theorem good21 (e:Int):Ev.Good Tryz.prog K 21 [.int .i64 e] (.bool (decide (e=0∨e=3))):=by
 refine good_of_wp hK c21_ok (by simp) ?_
 by_cases h0:e=0<;>simp[h0]
end
end Go.Pf

/- The law of the greater load (ProofsNeed). -/
namespace Go.Pf
open Go Go.Ev Go.Proofs Go.RowKit
set_option maxRecDepth 8000
section
variable {K:World→Prop} (hK:∀ w w',K w→Below w.heap.size w w'→K w')
include hK
end
end Go.Pf

/- Every truth is among the known ones; what is so of a truth agrees with what is known of all. -/
namespace Go.Pf
open Go Go.Ev Go.Proofs Go.RowKit
set_option maxRecDepth 8000
theorem choices_mem:∀ (ds:List Deed) (e:List Int),(∀ d∈ds,inR d.frm 0 2)→e.length=ds.length→(∀ i (h:i<ds.length) (h':i<e.length),inR e[i] 0 1∧(ds[i].frm<2→e[i]=ds[i].frm))→e∈choices ds
 | [],e,_,hl,_=>by
   have:e=[]:=List.eq_nil_of_length_eq_zero hl
   subst this
   simp[choices]
 | d::ds,[],_,hl,_=>by cases hl
 | d::ds,x::e,hd,hl,h=>by
   have h0:=h 0 (by simp) (by simp)
   simp only[List.getElem_cons_zero] at h0
   have hr:=choices_mem ds e (fun d hd'=>hd d (by simp[hd'])) (by simpa using hl) (fun i h1 h2=>by
    have:=h (i+1) (by simpa using h1) (by simpa using h2)
    simpa only[List.getElem_cons_succ] using this)
   have hf:=hd d (by simp)
   simp only[inR] at hf h0
   simp only[choices,List.mem_flatMap,List.mem_map]
   refine ⟨x,?_,e,hr,rfl⟩
   unfold endsD
   by_cases h2:d.frm=2
   ·have:x=0∨x=1:=by omega
    rcases this with rfl | rfl<;>simp[h2]
   ·have e1:=h0.2 (by omega)
    have:d.frm=0∨d.frm=1:=by omega
    rcases this with h3 | h3<;>simp[h3,e1]
theorem shortsAll_mem:∀ (ls:List Lever) (s:List Int),s.length=ls.length→(∀ i (h:i<ls.length) (h':i<s.length),inR s[i] ls[i].lo ls[i].hi)→s∈shortsAll ls
 | [],s,hl,_=>by
   have:s=[]:=List.eq_nil_of_length_eq_zero hl
   subst this
   simp[shortsAll]
 | l::ls,[],hl,_=>by cases hl
 | l::ls,x::s,hl,h=>by
   have h0:=h 0 (by simp) (by simp)
   simp only[List.getElem_cons_zero,inR] at h0
   have hr:=shortsAll_mem ls s (by simpa using hl) (fun i h1 h2=>by
    have:=h (i+1) (by simpa using h1) (by simpa using h2)
    simpa only[List.getElem_cons_succ] using this)
   simp only[shortsAll,acc,List.mem_flatMap,List.mem_map,List.mem_range]
   refine ⟨(x-l.lo).toNat,by omega,s,hr,?_⟩
   have:l.lo+((x-l.lo).toNat:Int)=x:=by omega
   rw[this]
theorem frm_in {d:Deed} {n:Int} (h:isDeedS d n):inR d.frm 0 2:=by
 rcases h with h | h | h
 ·exact h.2.1
 ·exact h.2.1
 ·rw[h.2.2.1];simp[inR]
theorem endsL_mem {c:Chain} (hc:OkC c) {e:List Int} (h:isTr c e):e∈endsL c [] c.deeds:=by
 simp only[endsL,List.mem_filter,decide_eq_true_eq,List.nil_append,List.map_id']
 refine ⟨choices_mem _ _ (fun d hd=>?_) h.1.1 h.1.2,h⟩
 obtain ⟨i,hi,rfl⟩:=List.getElem_of_mem hd
 exact frm_in (hc.deeds i hi hi)
theorem setsL_mem {m:Machine} {s:Setting} (h:isSet m s):s∈setsL m [] m.levers:=by
 simp only[setsL,List.mem_filter,decide_eq_true_eq]
 refine ⟨?_,h⟩
 obtain ⟨⟨h1,h2,h3⟩,_⟩:=h
 simp only[inR] at h2
 simp only[setsAll,List.mem_flatMap,List.mem_map,List.mem_range,List.nil_append]
 refine ⟨s.shorts,shortsAll_mem _ _ h1 h3,(s.leak-m.llo).toNat,by omega,?_⟩
 have:m.llo+((s.leak-m.llo).toNat:Int)=s.leak:=by omega
 rw[this]
theorem known_of {p:Proof} (hp:OkP p) {t:Truth} (h:isTruth p t):t∈knownL p:=by
 simp only[knownL,List.mem_flatMap,List.mem_map]
 exact ⟨t.ends,endsL_mem hp.chain h.1,t.set,setsL_mem h.2,rfl⟩
theorem kE_of {p:Proof} (hp:OkP p) {t:Truth} (h:t∈knownL p):kE p true=0:=by
 unfold kE
 rw[if_pos hp,if_pos rfl,if_neg (fun e=>by rw[e] at h;cases h)]
theorem span_mem {α:Type} (f:α→Int):∀ (l:List α) (t:α),t∈l→(span (l.map f)).1≤f t∧f t≤(span (l.map f)).2
 | [],_,h=>by cases h
 | a::r,t,h=>by
   have mono:∀ (l:List α) (x u:Int),(l.map f).foldl min x≤x∧u≤(l.map f).foldl max u:=by
    intro l
    induction l with
    | nil=>intro x u;exact ⟨Int.le_refl _,Int.le_refl _⟩
    | cons b l ih =>
      intro x u
      simp only[List.map_cons,List.foldl_cons]
      have:=ih (min x (f b)) (max u (f b))
      omega
   have key:∀ (l:List α) (x u:Int),t∈l→(l.map f).foldl min x≤f t∧f t≤(l.map f).foldl max u:=by
    intro l
    induction l with
    | nil=>intro x u h;cases h
    | cons b l ih =>
      intro x u h
      simp only[List.map_cons,List.foldl_cons]
      rcases List.mem_cons.1 h with rfl | h
      ·have:=mono l (min x (f t)) (max u (f t))
       omega
      ·exact ih _ _ h
   simp only[List.map_cons,span]
   rcases List.mem_cons.1 h with rfl | h
   ·exact mono r _ _
   ·exact key r _ _ h
def agreesP (k:Int) (b:Bool):Prop:=k=3∨(k=1∧b=true)∨(k=2∧b=false)
end Go.Pf

/- The law of each truth (ProofsTrue). -/
namespace Go.Pf
open Go Go.Ev Go.Proofs Go.RowKit
set_option maxRecDepth 8000
instance (k:Int) (b:Bool):Decidable (agreesP k b):=by unfold agreesP;infer_instance
section
variable {K:World→Prop} (hK:∀ w w',K w→Below w.heap.size w w'→K w')
include hK
end
end Go.Pf

/- Copies of a proof, of which the caller owns a row or two. -/
namespace Go.Pf
open Go Go.Ev Go.Proofs Go.RowKit
set_option maxRecDepth 8000
def c61D:AFn:=⟨16,[.cell 2 3 true],.seq (.ops c61_r0 false) (.seq (.ops c61_r1 false) (.seq (.ops c61_r2 true) (.seq (.ops c61_r3 false) (.fz [2] [2,5] .ret))))⟩
def c61S:AFn:=⟨16,[.cell 2 3 true],.seq (.ops c61_r0 false) (.seq (.ops c61_r1 false) (.seq (.ops c61_r2 true) (.seq (.ops c61_r3 false) (.fz [2] [2,9] .ret))))⟩
def c62B:AFn:=⟨16,[.cell 2 6 true],.seq (.ops c62_r0 false) (.seq (.ops c62_r1 false) (.seq (.ops c62_r2 true) (.seq (.ops c62_r3 false) (.fz [2] [2,9] .ret))))⟩
theorem c61D_ok:FnOk Tryz.prog 61 c61D:=⟨_,Tryz.func61,by kernel_rfl⟩
def c16D_r1:List AOper:=[⟨some 3,none,.fld 0 (.t 1)⟩,
 ⟨some 4,none,.ldi 3 true (.t 3)⟩,
 ⟨some 5,none,.callo 61 [.t 4] [] 5⟩,
 ⟨some 6,none,.fld 3 (.t 1)⟩,
 ⟨some 7,none,.ldi 6 true (.t 6)⟩,
 ⟨some 8,none,.call 62 [.t 7] []⟩,
 ⟨some 9,none,.bso 9 58 3 []⟩,
 ⟨some 10,none,.fld 9 (.t 1)⟩,
 ⟨some 11,none,.ldi 1 false (.t 10)⟩,
 ⟨some 12,none,.app 9 58 3 24 (.t 9) (.t 11)⟩,
 ⟨some 13,none,.fld 10 (.t 1)⟩,
 ⟨some 14,none,.ldi 1 false (.t 13)⟩,
 ⟨some 15,none,.fld 11 (.t 1)⟩,
 ⟨some 16,none,.ldi 1 false (.t 15)⟩,
 ⟨some 17,none,.bld [.nil 5,.nil 5,.int .i64 0,.nil 3,.int .i64 0,.int .i64 0,.int .i64 0,.nil 4,.int .i64 0,.nil 3,.int .i64 0,.int .i64 0] [(0,3,.t 5),(3,6,.t 8),(9,1,.t 12),(10,1,.t 14),(11,1,.t 16)]⟩,
 ⟨none,none,.sto 2 12 (.t 2) (.t 17)⟩]
def c16B_r1:List AOper:=[⟨some 3,none,.fld 0 (.t 1)⟩,
 ⟨some 4,none,.ldi 3 true (.t 3)⟩,
 ⟨some 5,none,.call 61 [.t 4] []⟩,
 ⟨some 6,none,.fld 3 (.t 1)⟩,
 ⟨some 7,none,.ldi 6 true (.t 6)⟩,
 ⟨some 8,none,.callo 62 [.t 7] [] 8⟩,
 ⟨some 9,none,.bso 9 58 3 []⟩,
 ⟨some 10,none,.fld 9 (.t 1)⟩,
 ⟨some 11,none,.ldi 1 false (.t 10)⟩,
 ⟨some 12,none,.app 9 58 3 24 (.t 9) (.t 11)⟩,
 ⟨some 13,none,.fld 10 (.t 1)⟩,
 ⟨some 14,none,.ldi 1 false (.t 13)⟩,
 ⟨some 15,none,.fld 11 (.t 1)⟩,
 ⟨some 16,none,.ldi 1 false (.t 15)⟩,
 ⟨some 17,none,.bld [.nil 5,.nil 5,.int .i64 0,.nil 3,.int .i64 0,.int .i64 0,.int .i64 0,.nil 4,.int .i64 0,.nil 3,.int .i64 0,.int .i64 0] [(0,3,.t 5),(3,6,.t 8),(9,1,.t 12),(10,1,.t 14),(11,1,.t 16)]⟩,
 ⟨none,none,.sto 2 12 (.t 2) (.t 17)⟩]
def c16D:AFn:=⟨18,[.cell 2 12 true],.seq (.ops c16_r0 false) (.seq (.ops c16D_r1 true) (.fz [2] [2,5] .ret))⟩
def c16B:AFn:=⟨18,[.cell 2 12 true],.seq (.ops c16_r0 false) (.seq (.ops c16B_r1 true) (.fz [2] [2,8] .ret))⟩
def c16T:AFn:=⟨18,[.cell 2 12 true],.seq (.ops c16_r0 false) (.seq (.ops c16D_r1 true) (.fz [2] [2,5,9] .ret))⟩
theorem c16D_ok:FnOk Tryz.prog 16 c16D:=⟨_,Tryz.func16,by kernel_rfl⟩
@[simp] theorem subL_comp {α:Type} (lod:Nat→Option AO) (ids:List Nat) (f:α→List IV) (l:List α):List.map (subL lod ids∘List.map AV.iv∘f) l=List.map (List.map AV.iv∘f) l :=
 List.map_congr_left fun a _=>subL_iv lod ids (f a)
section
variable {K:World→Prop} (hK:∀ w w',K w→Below w.heap.size w w'→K w')
include hK
theorem goodo61D (c:Chain) (hl:c.deeds.length≤1000) (hs:c.sights.length≤1000):GoodO Tryz.prog K 61 [chV c] (.agg [.aref 0 c.deeds.length,.iv (sightsV c.sights),.iv (.int .i64 c.wrong)]) 56 5 (c.deeds.map dC) 0:=by
 refine goodo_of_wp (.cell 2 3 true) 5 hK c61D_ok (by simp[c61D]) rfl ?_
 simp[c61D,rowO]
 omega
@[simp] def prA (p:Proof) (ds ss bs ts:AV):List AV:=[ds,ss,.iv (.int .i64 p.chain.wrong),.iv (leversV p.machine.levers),.iv (.int .i64 p.machine.water),.iv (.int .i64 p.machine.llo),.iv (.int .i64 p.machine.lhi),bs,.iv (.int .i64 p.machine.wrong),ts,.iv (.int .i64 p.need),.iv (.int .i64 p.rule)]
theorem goodo16D (p:Proof) (hs:Small p):GoodO Tryz.prog K 16 [prV p] (.agg (prA p (.aref 0 p.chain.deeds.length) (.iv (sightsV p.chain.sights)) (.iv (balsV p.machine.bals)) (.iv (trialsV p.trials)))) 56 5 (p.chain.deeds.map dC) 0:=by
 obtain ⟨h1,h2,h3,h4,h5⟩:=hs
 refine goodo_of_wp (.cell 2 12 true) 5 hK c16D_ok (by simp[c16D]) rfl ?_
 simp[c16D,c16D_r1]
 refine callO_of (goodo61D hK p.chain h1 h2) (by simp) ?_
 simp
 refine callK_of (good62 hK p.machine h3 h4) (.inl rfl) ?_
 simp[rowO]
 omega
end
end Go.Pf

/- A proof with one more trial, at the end, at which nothing broke. -/
namespace Go.Pf
open Go Go.Ev Go.Proofs Go.RowKit
set_option maxRecDepth 8000
def prv:Deed:=⟨4,0,0,0,0⟩
def addD (D:List Deed):List Deed:=D++[prv]
def addC (c:Chain):Chain:=⟨addD c.deeds,c.sights,c.wrong⟩
def addT (p:Proof) (w:Int):Proof:=⟨addC p.chain,p.machine,p.trials++[⟨w,0,-1⟩],p.need,p.rule⟩
def addE (t:Truth):Truth:=⟨t.ends++[0],t.set⟩
end Go.Pf

/- The law of one more trial (ProofsLater). -/
namespace Go.Pf
open Go Go.Ev Go.Proofs Go.RowKit
set_option maxRecDepth 8000
@[simp] theorem emb_app5 (L:List (List IV)) (a b c d e:IV):emb L++[[.iv a,.iv b,.iv c,.iv d,.iv e]]=emb (L++[[a,b,c,d,e]]):=by simp[emb]
section
variable {K:World→Prop} (hK:∀ w w',K w→Below w.heap.size w w'→K w')
include hK
end
end Go.Pf

/- The law of whatever is replaced (ProofsReplaced). -/
namespace Go.Pf
open Go Go.Ev Go.Proofs Go.RowKit
set_option maxRecDepth 8000
def chD (x fin:Int) (d:Deed):Deed :=
 if d.what=1 then ⟨d.what,d.pos,fin,(d.bar+x).tmod 100,(d.smith+x).tmod 100⟩ else if d.what=2 then ⟨d.what,d.pos,fin,d.bar,d.smith⟩ else d
def chL (x fin:Int) (D:List Deed) (i:Nat):List (List IV):=((D.take i).map (chD x fin)++D.drop i).map dC
def mvN (n:Nat):Nat→Nat
 | 0=>0
 | _+1=>n
theorem mvN_le (n i:Nat):mvN n i≤n:=by cases i<;>simp[mvN]
theorem chL_len (x fin:Int) (D:List Deed) (i:Nat):(chL x fin D i).length=D.length:=by simp[chL];omega
theorem chL_get (x fin:Int) (D:List Deed) (i:Nat) (hi:i<D.length):(emb (chL x fin D i)).getD i []=(dC D[i]).map AV.iv:=by
 have h1:i=((D.take i).map (chD x fin)).length:=by simp;omega
 have:(chL x fin D i)[i]?=some (dC D[i]):=by
  unfold chL
  rw[List.getElem?_map,List.getElem?_append_right (by rw[← h1];omega),← h1]
  simp[hi]
 rw[List.getD_eq_getElem?_getD,emb_get,this]
 rfl
theorem chL_set (x fin:Int) (D:List Deed) (i:Nat) (hi:i<D.length):(emb (chL x fin D i)).set i ((dC (chD x fin D[i])).map AV.iv)=emb (chL x fin D (i+1)):=by
 have h1:((D.take i).map (chD x fin)).length=i:=by simp;omega
 have e:chL x fin D i=((D.take i).map (chD x fin)).map dC++dC D[i]::(D.drop (i+1)).map dC:=by
  unfold chL
  rw[List.map_append,List.drop_eq_getElem_cons hi,List.map_cons]
 have e2:chL x fin D (i+1)=((D.take i).map (chD x fin)).map dC++dC (chD x fin D[i])::(D.drop (i+1)).map dC:=by
  unfold chL
  rw[List.take_succ_eq_append_getElem hi]
  simp only[List.map_append,List.map_cons,List.map_nil,List.append_assoc,List.cons_append,List.nil_append]
 rw[e,e2]
 unfold emb
 rw[List.map_append,List.map_append,List.map_cons,List.map_cons,List.set_append_right _ _ (by simp;omega)]
 simp[h1]
 rw[Nat.min_eq_left (by omega)]
 simp
theorem chL_zero (x fin:Int) (D:List Deed):chL x fin D 0=D.map dC:=by simp[chL]
theorem chL_all (x fin:Int) (D:List Deed):chL x fin D D.length=(D.map (chD x fin)).map dC:=by simp[chL]
def chP (p:Proof) (x fin:Int):Proof:=⟨⟨p.chain.deeds.map (chD x fin),[],p.chain.wrong⟩,p.machine,p.trials,p.need,p.rule⟩
theorem span_in:∀ l:List Int,l≠[]→(span l).1∈l∧(span l).2∈l
 | [],h=>absurd rfl h
 | a::r,_=>by
   have key:∀ (r:List Int) (x u:Int),(r.foldl min x=x∨r.foldl min x∈r)∧(r.foldl max u=u∨r.foldl max u∈r):=by
    intro r
    induction r with
    | nil=>intro x u;exact ⟨.inl rfl,.inl rfl⟩
    | cons b r ih =>
      intro x u
      obtain ⟨h1,h2⟩:=ih (min x b) (max u b)
      simp only[List.foldl_cons,List.mem_cons]
      refine ⟨?_,?_⟩
      ·rcases h1 with h1 | h1
       ·rw[h1];omega
       ·exact .inr (.inr h1)
      ·rcases h2 with h2 | h2
       ·rw[h2];omega
       ·exact .inr (.inr h2)
   obtain ⟨h1,h2⟩:=key r a a
   simp only[span,List.mem_cons]
   exact ⟨h1,h2⟩
theorem span_same {l l':List Int} (h:∀ x,x∈l↔x∈l'):span l=span l':=by
 by_cases he:l=[]
 ·have:l'=[]:=List.eq_nil_iff_forall_not_mem.2 fun x hx=>by rw[← h x,he] at hx;cases hx
  rw[he,this]
 ·have he':l'≠[]:=fun e=>he (List.eq_nil_iff_forall_not_mem.2 fun x hx=>by rw[h x,e] at hx;cases hx)
  have a1:=span_in l he
  have a2:=span_in l' he'
  have b1:∀ x∈l,(span l).1≤x∧x≤(span l).2:=fun x hx=>by simpa using span_mem id l x hx
  have b2:∀ x∈l',(span l').1≤x∧x≤(span l').2:=fun x hx=>by simpa using span_mem id l' x hx
  have c1:=b1 _ ((h _).2 a2.1)
  have c2:=b1 _ ((h _).2 a2.2)
  have c3:=b2 _ ((h _).1 a1.1)
  have c4:=b2 _ ((h _).1 a1.2)
  exact Prod.ext (by omega) (by omega)
theorem rFail_sets {p:Proof} (hk:kE p true=0):rFail p=span ((setsL p.machine [] p.machine.levers).map fun s=>(failN p ⟨[],s⟩:Int)):=by
 have hne:=(kE_ok hk).2.2.2
 unfold rFail
 rw[(kE_ok hk).2.2.1]
 have hE:endsL p.chain [] p.chain.deeds≠[]:=fun e=>hne (by unfold knownL;rw[e];rfl)
 refine span_same fun x=>?_
 unfold knownL
 simp only[List.mem_map,List.mem_flatMap]
 constructor
 ·rintro ⟨t,⟨e,_,s,hs,rfl⟩,rfl⟩
  exact ⟨s,hs,rfl⟩
 ·rintro ⟨s,hs,rfl⟩
  obtain ⟨e,he⟩:=List.exists_mem_of_ne_nil _ hE
  exact ⟨⟨e,s⟩,⟨e,he,s,hs,rfl⟩,rfl⟩
theorem count_flat {α β γ:Type} (f:γ→Bool) (mk:α→β→γ) (S:List β) (n:Nat):∀ E:List α,(∀ e∈E,S.countP (fun s=>f (mk e s))=n)→(E.flatMap fun e=>S.map (mk e)).countP f=E.length*n
 | [],_=>by simp
 | e::E,h=>by
   have h1:=h e (by simp)
   rw[List.flatMap_cons,List.countP_append,count_flat f mk S n E (fun e he=>h e (by simp[he])),List.countP_map,List.length_cons,Nat.add_mul]
   have:S.countP (f∘mk e)=n:=h1
   omega
theorem toldN_mul {k c n:Nat} (h:k≠0):toldN ((k*c:Nat):Int) ((k*n:Nat):Int)=toldN c n:=by
 unfold toldN
 have e1:(((k*c:Nat):Int)=((k*n:Nat):Int))↔((c:Int)=n):=by
  rw[Int.ofNat_inj,Int.ofNat_inj]
  exact Nat.mul_right_inj h
 have e2:(((k*c:Nat):Int)=0)↔((c:Int)=0):=by
  constructor
  ·intro e
   have e:k*c=0:=by omega
   rcases Nat.mul_eq_zero.1 e with e | e
   ·exact absurd e h
   ·omega
  ·intro e
   have e:c=0:=by omega
   rw[e];simp
 simp only[e1,e2]
theorem rCond_sets {p:Proof} (hk:kE p true=0):rCond p=toldN ((setsL p.machine [] p.machine.levers).countP fun s=>decide (p.rule≤(failN p ⟨[],s⟩:Int))) (setsL p.machine [] p.machine.levers).length:=by
 have hne:=(kE_ok hk).2.2.2
 unfold rCond
 rw[if_pos hk,(kE_ok hk).2.2.1]
 have hE:(endsL p.chain [] p.chain.deeds).length≠0:=fun e=>hne (by unfold knownL;rw[List.eq_nil_of_length_eq_zero e];rfl)
 have h1:(knownL p).countP (fun t=>decide (p.rule≤(failN p t:Int)))=(endsL p.chain [] p.chain.deeds).length*(setsL p.machine [] p.machine.levers).countP fun s=>decide (p.rule≤(failN p ⟨[],s⟩:Int)) :=
  count_flat (fun t=>decide (p.rule≤(failN p t:Int))) (fun e s=>(⟨e,s⟩:Truth)) _ _ _ fun e _=>rfl
 have h2:(knownL p).length=(endsL p.chain [] p.chain.deeds).length*(setsL p.machine [] p.machine.levers).length:=by
  rw[known_mul,stories_len,loads_len]
 rw[h1,h2]
 exact toldN_mul hE
theorem kE_ch {p:Proof} {x fin:Int} (ho:OkP (chP p x fin)) (hk:kE p true=0):kE (chP p x fin) true=0:=by
 have hne:=(kE_ok hk).2.2.2
 obtain ⟨t,ht⟩:=List.exists_mem_of_ne_nil _ hne
 have hs:=(known_truth ht).2
 have hD:∀ i (h:i<(chP p x fin).chain.deeds.length),inR ((chP p x fin).chain.deeds[i]).frm 0 2:=fun i h=>frm_in (ho.chain.deeds i h h)
 have htr:isTr (chP p x fin).chain ((chP p x fin).chain.deeds.map fun d=>if d.frm=1 then 1 else 0):=by
  refine ⟨⟨by simp,fun i h h'=>?_⟩,?_⟩
  ·have:=hD i h
   simp only[inR] at this
   rw[List.getElem_map]
   split<;>simp only[inR]<;>omega
  ·have:(chP p x fin).chain.sights=[]:=rfl
   rw[this]
   have hw:=ho.chain.wrong
   simp only[inR] at hw
   show (0:Int)≤_
   omega
 exact kE_of ho (known_of ho (t:=⟨_,t.set⟩) ⟨htr,hs⟩)
theorem ch_same {p:Proof} {x fin:Int} (ho:OkP (chP p x fin)) (hk:kE p true=0):rFail (chP p x fin)=rFail p∧rCond (chP p x fin)=rCond p:=by
 have hko:=kE_ch ho hk
 rw[rFail_sets hk,rFail_sets hko,rCond_sets hk,rCond_sets hko]
 exact ⟨rfl,rfl⟩
section
variable {K:World→Prop} (hK:∀ w w',K w→Below w.heap.size w w'→K w')
include hK
theorem law5 (p:Proof) (x fin:Int):Ev.Good Tryz.prog K 5 [prV p,.int .i64 x,.int .i64 fin] (.bool true):=by
 refine good_of_wp hK c5_ok (by simp) ?_
 have g15:=good15 hK
 have g13:=good13 hK p
 generalize hd:decide (¬ farP p∧OkP p)=rd at g13
 cases rd
 ·simp
  refine callK_of (by simpa using g13) (.inl rfl) ?_
  simp
  refine callK_of g15 (.inl rfl) ?_
  simp
 obtain ⟨hfar,hp⟩:=of_decide_eq_true hd
 by_cases h1:x<0
 ·simp
  refine callK_of (by simpa using g13) (.inl rfl) ?_
  simp[h1]
  refine callK_of g15 (.inl rfl) ?_
  simp
 by_cases h2:99<x
 ·simp
  refine callK_of (by simpa using g13) (.inl rfl) ?_
  simp[h1,h2]
  refine callK_of g15 (.inl rfl) ?_
  simp
 by_cases h3:fin<0
 ·simp
  refine callK_of (by simpa using g13) (.inl rfl) ?_
  simp[h1,h2,h3]
  refine callK_of g15 (.inl rfl) ?_
  simp
 by_cases h4:2<fin
 ·simp
  refine callK_of (by simpa using g13) (.inl rfl) ?_
  simp[h1,h2,h3,h4]
  refine callK_of g15 (.inl rfl) ?_
  simp
 have hs:=small_of hfar
 have hf:=few_of hfar
 have hdl:=hs.deeds
 simp
 refine callK_of (by simpa using g13) (.inl rfl) ?_
 simp[h1,h2,h3,h4]
 refine callO_emb (goodo16D hK p hs) (by simp) ?_
 simp
 rw[← chL_zero x fin p.chain.deeds]
 refine loop_q (fun i=>[(1,AV.iv (.int .i64 x)),(2,AV.iv (.int .i64 fin)),(3,AV.iv (.ptr [deedsV p.chain.deeds,sightsV p.chain.sights,.int .i64 p.chain.wrong,leversV p.machine.levers,.int .i64 p.machine.water,.int .i64 p.machine.llo,.int .i64 p.machine.lhi,balsV p.machine.bals,.int .i64 p.machine.wrong,trialsV p.trials,.int .i64 p.need,.int .i64 p.rule])),(7,AV.loc 7 0),(8,AV.iv (.int .i64 (i:Nat)))])
  (fun i=>[(7,AO.box (prA p (.aref 39 p.chain.deeds.length) (.iv (.sl 5 [])) (.iv (balsV p.machine.bals)) (.iv (trialsV p.trials)))),(39,AO.arr 56 5 (emb (chL x fin p.chain.deeds i)) (mvN p.chain.deeds.length i))]) p.chain.deeds.length (fun i=>True) trivial ?_ ?_
 ·intro _
  rw[LoopAt_enter c5_b0.eq_1]
  have hall:=chL_all x fin p.chain.deeds
  have hlen:(emb (chL x fin p.chain.deeds p.chain.deeds.length)).length=p.chain.deeds.length:=by rw[emb_length,chL_len]
  have hmv:=mvN_le p.chain.deeds.length p.chain.deeds.length
  have hl2:=chL_len x fin p.chain.deeds p.chain.deeds.length
  rw[hall] at hlen hl2 ⊢
  generalize mvN p.chain.deeds.length p.chain.deeds.length=mv at *
  have g13o:=good13 hK (chP p x fin)
  generalize hdo:decide (¬ farP (chP p x fin)∧OkP (chP p x fin))=rdo at g13o
  cases rdo
  ·simp[hlen,hmv,List.take_of_length_le,ivss_embA]
   intro _
   refine callK_of (by simpa[chP] using g13o) (.inl rfl) ?_
   simp
   refine callK_of g15 (.inl rfl) ?_
   simp
  obtain ⟨hfaro,hpo⟩:=of_decide_eq_true hdo
  have hfo:=few_of hfaro
  have g17:=good17 hK p hf
  have g23:=good23 hK p hf
  have g17o:=good17 hK _ hfo
  have g23o:=good23 hK _ hfo
  have hE:=kE_known hp true
  have hEo:=kE_known hpo true
  have h30:decide ((3:Int)=0∨(3:Int)=3)=true:=by decide
  have h00:decide ((0:Int)=0∨(0:Int)=3)=true:=by decide
  have g21a:=good21 hK 3
  have g21b:=good21 hK 0
  rw[h30] at g21a
  rw[h00] at g21b
  have hkE:kE (chP p x fin) true=0∨kE (chP p x fin) true=3:=by
   rcases hEo with h | h | h
   ·exact .inl h
   ·exact .inr h
   ·cases h.1
  by_cases hk:kE p true=0
  ·have hko:=kE_ch hpo hk
   obtain ⟨hs1,hs2⟩:=ch_same hpo hk
   rw[hk] at g17 g23
   rw[hko,hs1] at g17o
   rw[hko,hs2] at g23o
   generalize rFail p=F at *
   obtain ⟨f1,f2⟩:=F
   generalize rCond p=c at *
   simp only at g17 g17o
   simp[hlen,hmv,List.take_of_length_le,ivss_embA]
   intro _
   refine callK_of (by simpa[chP] using g13o) (.inl rfl) ?_
   simp
   refine callK_of (by simpa using g17) (.inl rfl) ?_
   simp
   refine callK_of (by simpa[chP] using g17o) (.inl rfl) ?_
   simp
   refine callK_of (by simpa using g23) (.inl rfl) ?_
   simp
   refine callK_of (by simpa[chP] using g23o) (.inl rfl) ?_
   simp
   refine callK_of g21b (.inl rfl) ?_
   simp
   refine callK_of g21b (.inl rfl) ?_
   simp
   refine callK_of g15 (.inl rfl) ?_
   simp
  ·have hk3:kE p true=3:=by
    rcases hE with h | h | h
    ·exact absurd h hk
    ·exact h
    ·cases h.1
   rw[hk3] at g17 g23
   generalize rFail p=F at *
   generalize rFail (chP p x fin)=Fo at *
   obtain ⟨f1,f2⟩:=F
   obtain ⟨p1,p2⟩:=Fo
   generalize rCond p=c at *
   generalize rCond (chP p x fin)=co at *
   generalize kE (chP p x fin) true=E at *
   have g21o:=good21 hK E
   have hdE:decide (E=0∨E=3)=true:=decide_eq_true hkE
   rw[hdE] at g21o
   simp only at g17 g17o
   simp[hlen,hmv,List.take_of_length_le,ivss_embA]
   intro _
   refine callK_of (by simpa[chP] using g13o) (.inl rfl) ?_
   simp
   refine callK_of (by simpa using g17) (.inl rfl) ?_
   simp
   refine callK_of (by simpa[chP] using g17o) (.inl rfl) ?_
   simp
   refine callK_of (by simpa using g23) (.inl rfl) ?_
   simp
   refine callK_of (by simpa[chP] using g23o) (.inl rfl) ?_
   simp
   refine callK_of g21a (.inl rfl) ?_
   simp
   refine callK_of g21o (.inl rfl) ?_
   simp
   refine callK_of g15 (.inl rfl) ?_
   simp
 ·intro i hi _ ih
  have hget:=chL_get x fin p.chain.deeds i hi
  have hset:=chL_set x fin p.chain.deeds i hi
  have hlen:(emb (chL x fin p.chain.deeds i)).length=p.chain.deeds.length:=by rw[emb_length,chL_len]
  have hmv:=mvN_le p.chain.deeds.length i
  have hmv1:mvN p.chain.deeds.length (i+1)=p.chain.deeds.length:=rfl
  have hw:=hp.chain.deeds i hi hi
  rw[hmv1,← hset] at ih
  have hscr:List.map (scrL [7,39]) (emb (chL x fin p.chain.deeds i))=emb (chL x fin p.chain.deeds i):=scr_emb _ _
  rw[LoopAt_enter c5_b0.eq_1]
  generalize emb (chL x fin p.chain.deeds i)=M at *
  generalize mvN p.chain.deeds.length i=mv at *
  have hgi:M[i]'(by rw[hlen];exact hi)=(dC p.chain.deeds[i]).map AV.iv:=by
   rw[List.getD_eq_getElem?_getD,List.getElem?_eq_getElem (by rw[hlen];exact hi),Option.getD_some] at hget
   exact hget
  clear hget
  by_cases hw1:p.chain.deeds[i].what=1
  ·have hb:inR p.chain.deeds[i].bar 0 99∧inR p.chain.deeds[i].smith 0 99:=by
    rcases hw with h | h | h
    ·exact ⟨h.2.2.2.1,h.2.2.2.2⟩
    ·omega
    ·omega
   simp only[inR] at hb
   simp[hi,hgi,hlen,hmv,hscr,hw1,chD] at ih ⊢
   repeat' first | omega | exact ih | intro _ | apply And.intro
  ·by_cases hw2:p.chain.deeds[i].what=2
   ·simp[hi,hgi,hlen,hmv,hscr,hw1,hw2,chD] at ih ⊢
    repeat' first | omega | exact ih | intro _ | apply And.intro
   ·simp[hi,hgi,hlen,hmv,hscr,hw1,hw2,chD] at ih ⊢
    repeat' first | omega | exact ih | intro _ | apply And.intro
end
end Go.Pf
