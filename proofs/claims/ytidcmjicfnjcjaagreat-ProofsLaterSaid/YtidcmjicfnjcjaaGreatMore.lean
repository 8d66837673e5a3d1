/- The laws that compare with the reference: ProofsBroke, ProofsFailures, ProofsGood. -/
import Derived.Test.YtidcmjicfnjcjaaGreatAsks
set_option linter.all false

namespace Go.Pf
open Go Go.Ev Go.Proofs Go.RowKit
set_option maxRecDepth 8000
theorem choices_len:∀ ds:List Deed,(choices ds).length≤2 ^ twos ds
 | []=>by show 1≤2 ^ 0;decide
 | d::r=>by
   have ih:=choices_len r
   by_cases h2:d.frm=2
   ·have e1:twos (d::r)=twos r+1:=by simp[twos,h2]
    rw[e1,Nat.pow_succ]
    simp[choices,endsD,h2]
    omega
   ·have e1:twos (d::r)=twos r:=by simp[twos,h2]
    rw[e1]
    by_cases h0:d.frm=0
    ·simp[choices,endsD,h0];omega
    ·by_cases h1:d.frm=1
     ·simp[choices,endsD,h1];omega
     ·simp[choices,endsD,h0,h1,h2]
theorem ends_le2 (c:Chain):(endsL c [] c.deeds).length≤2 ^ twos c.deeds:=by
 refine Nat.le_trans (List.length_filter_le _ _) ?_
 simpa using choices_len c.deeds
theorem small_of {p:Proof} (h:¬ farP p):Small p:=by
 unfold farP farC farM at h
 simp only[not_or] at h
 exact ⟨by omega,by omega,by omega,by omega,by omega⟩
theorem ways_of {p:Proof} (h:¬ farP p) (hp:OkP p):1≤sets p.machine p.machine.levers.length∧sets p.machine p.machine.levers.length≤48∧2 ^ twos p.chain.deeds≤48:=by
 have h1:ways p≤48:=by
  unfold farP at h
  simp only[not_or] at h
  have:=h.2.2.2
  refine Classical.byContradiction fun hc=>this ⟨hp,by omega⟩
 have hl:=hp.machine.leak
 simp only[inR] at hl
 have h2:1≤sets p.machine p.machine.levers.length:=by
  have h3:=prodF_pos spanL p.machine.levers fun l hl=>(hp.machine.span hl).1
  unfold sets
  rw[List.take_of_length_le (Nat.le_refl _)]
  have h4:1*prodF spanL p.machine.levers≤(p.machine.lhi-p.machine.llo+1)*prodF spanL p.machine.levers:=Int.mul_le_mul_of_nonneg_right (by omega) (by omega)
  omega
 unfold ways at h1
 have hpos:1≤(2 ^ twos p.chain.deeds:Nat):=Nat.pos_of_ne_zero (by simp)
 generalize (2 ^ twos p.chain.deeds:Nat)=W at *
 generalize sets p.machine p.machine.levers.length=S at *
 have a1:S*1≤S*(W:Int):=Int.mul_le_mul_of_nonneg_left (by omega) (by omega)
 have a2:1*(W:Int)≤S*(W:Int):=Int.mul_le_mul_of_nonneg_right h2 (by omega)
 omega
theorem few_of {p:Proof} (h:¬ farP p):Few p:=by
 refine ⟨⟨small_of h,fun hp=>by have:=ways_of h hp;omega⟩,fun hp=>?_,fun hp=>?_,fun hp=>?_⟩
 ·have h1:=ends_le2 p.chain;have h2:=ways_of h hp;omega
 ·have h1:=setsL_le hp.machine;have h2:=ways_of h hp;omega
 ·have h1:=ends_le2 p.chain
  have h2:=ways_of h hp
  have h3:=setsL_le hp.machine
  rw[known_mul,stories_len,loads_len]
  have h4:(endsL p.chain [] p.chain.deeds).length*(setsL p.machine [] p.machine.levers).length≤48*48:=Nat.mul_le_mul (by omega) (by omega)
  omega
section
variable {K:World→Prop} (hK:∀ w w',K w→Below w.heap.size w w'→K w')
include hK
end
end Go.Pf

/- The law of the rule (ProofsRule). -/
namespace Go.Pf
open Go Go.Ev Go.Proofs Go.RowKit
set_option maxRecDepth 8000
def withRule (p:Proof) (r:Int):Proof:=⟨p.chain,p.machine,p.trials,p.need,r⟩
theorem toldN_sure {c n:Nat}:toldN c n=1↔c=n:=by
 unfold toldN
 split<;>rename_i h
 ·exact ⟨fun _=>by omega,fun _=>rfl⟩
 ·split<;>exact ⟨fun h=>by omega,fun h=>by omega⟩
theorem toldN_never {c n:Nat} (hn:n≠0):toldN c n=2↔c=0:=by
 unfold toldN
 split<;>rename_i h
 ·exact ⟨fun h=>by omega,fun h=>by omega⟩
 ·split<;>exact ⟨fun h=>by omega,fun h=>by omega⟩
theorem kE_known {p:Proof} (hp:OkP p) (is:Bool):kE p is=0∨kE p is=3∨(is=false∧kE p is=1):=by
 unfold kE
 rw[if_pos hp]
 cases is
 ·exact .inr (.inr ⟨rfl,rfl⟩)
 ·simp only[if_true]
  split
  ·exact .inr (.inl rfl)
  ·exact .inl rfl
def someN (p:Proof) (i:Nat):Nat:=(List.range i).countP fun k=>decide (0≤(tr p k).broke)
section
variable {K:World→Prop} (hK:∀ w w',K w→Below w.heap.size w w'→K w')
include hK
theorem good21 (e:Int):Ev.Good Tryz.prog K 21 [.int .i64 e] (.bool (decide (e=0∨e=3))):=by
 refine good_of_wp hK c21_ok (by simp) ?_
 by_cases h0:e=0<;>simp[h0]
end
end Go.Pf

/- The law of the greater load (ProofsNeed). -/
namespace Go.Pf
open Go Go.Ev Go.Proofs Go.RowKit
set_option maxRecDepth 8000
section
variable {K:World→Prop} (hK:∀ w w',K w→Below w.heap.size w w'→K w')
include hK
end
end Go.Pf

/- Every truth is among the known ones; what is so of a truth agrees with what is known of all. -/
namespace Go.Pf
open Go Go.Ev Go.Proofs Go.RowKit
set_option maxRecDepth 8000
theorem shortsAll_mem:∀ (ls:List Lever) (s:List Int),s.length=ls.length→(∀ i (h:i<ls.length) (h':i<s.length),inR s[i] ls[i].lo ls[i].hi)→s∈shortsAll ls
 | [],s,hl,_=>by
   have:s=[]:=List.eq_nil_of_length_eq_zero hl
   subst this
   simp[shortsAll]
 | l::ls,[],hl,_=>by cases hl
 | l::ls,x::s,hl,h=>by
   have h0:=h 0 (by simp) (by simp)
   simp only[List.getElem_cons_zero,inR] at h0
   have hr:=shortsAll_mem ls s (by simpa using hl) (fun i h1 h2=>by
    have:=h (i+1) (by simpa using h1) (by simpa using h2)
    simpa only[List.getElem_cons_succ] using this)
   simp only[shortsAll,acc,List.mem_flatMap,List.mem_map,List.mem_range]
   refine ⟨(x-l.lo).toNat,by omega,s,hr,?_⟩
   have:l.lo+((x-l.lo).toNat:Int)=x:=by omega
   rw[this]
theorem setsL_mem {m:Machine} {s:Setting} (h:isSet m s):s∈setsL m [] m.levers:=by
 simp only[setsL,List.mem_filter,decide_eq_true_eq]
 refine ⟨?_,h⟩
 obtain ⟨⟨h1,h2,h3⟩,_⟩:=h
 simp only[inR] at h2
 simp only[setsAll,List.mem_flatMap,List.mem_map,List.mem_range,List.nil_append]
 refine ⟨s.shorts,shortsAll_mem _ _ h1 h3,(s.leak-m.llo).toNat,by omega,?_⟩
 have:m.llo+((s.leak-m.llo).toNat:Int)=s.leak:=by omega
 rw[this]
def agreesP (k:Int) (b:Bool):Prop:=k=3∨(k=1∧b=true)∨(k=2∧b=false)
theorem now_len {p:Proof} (hp:OkP p) (e:Nat→Int):((nowN p e).length:Int)=leftN p.chain.deeds∧(nowN p e).length≤12:=by
 have h1:=cab_len e hp.chain.deeds p.chain.deeds.length (Nat.le_refl _) (Nat.le_refl _)
 have h2:=OkD.cnt hp.chain.deeds p.chain.deeds.length (Nat.le_refl _) (Nat.le_refl _)
 have h3:=hp.chain.len
 refine ⟨h1,?_⟩
 unfold nowN
 omega
end Go.Pf

/- The law of each truth (ProofsTrue). -/
namespace Go.Pf
open Go Go.Ev Go.Proofs Go.RowKit
set_option maxRecDepth 8000
instance (k:Int) (b:Bool):Decidable (agreesP k b):=by unfold agreesP;infer_instance
section
variable {K:World→Prop} (hK:∀ w w',K w→Below w.heap.size w w'→K w')
include hK
end
end Go.Pf

/- Copies of a proof, of which the caller owns a row or two. -/
namespace Go.Pf
open Go Go.Ev Go.Proofs Go.RowKit
set_option maxRecDepth 8000
def c61D:AFn:=⟨16,[.cell 2 3 true],.seq (.ops c61_r0 false) (.seq (.ops c61_r1 false) (.seq (.ops c61_r2 true) (.seq (.ops c61_r3 false) (.fz [2] [2,5] .ret))))⟩
def c61S:AFn:=⟨16,[.cell 2 3 true],.seq (.ops c61_r0 false) (.seq (.ops c61_r1 false) (.seq (.ops c61_r2 true) (.seq (.ops c61_r3 false) (.fz [2] [2,9] .ret))))⟩
def c62B:AFn:=⟨16,[.cell 2 6 true],.seq (.ops c62_r0 false) (.seq (.ops c62_r1 false) (.seq (.ops c62_r2 true) (.seq (.ops c62_r3 false) (.fz [2] [2,9] .ret))))⟩
theorem c61D_ok:FnOk Tryz.prog 61 c61D:=⟨_,Tryz.func61,by kernel_rfl⟩
def c16D_r1:List AOper:=[⟨some 3,none,.fld 0 (.t 1)⟩,
 ⟨some 4,none,.ldi 3 true (.t 3)⟩,
 ⟨some 5,none,.callo 61 [.t 4] [] 5⟩,
 ⟨some 6,none,.fld 3 (.t 1)⟩,
 ⟨some 7,none,.ldi 6 true (.t 6)⟩,
 ⟨some 8,none,.call 62 [.t 7] []⟩,
 ⟨some 9,none,.bso 9 58 3 []⟩,
 ⟨some 10,none,.fld 9 (.t 1)⟩,
 ⟨some 11,none,.ldi 1 false (.t 10)⟩,
 ⟨some 12,none,.app 9 58 3 24 (.t 9) (.t 11)⟩,
 ⟨some 13,none,.fld 10 (.t 1)⟩,
 ⟨some 14,none,.ldi 1 false (.t 13)⟩,
 ⟨some 15,none,.fld 11 (.t 1)⟩,
 ⟨some 16,none,.ldi 1 false (.t 15)⟩,
 ⟨some 17,none,.bld [.nil 5,.nil 5,.int .i64 0,.nil 3,.int .i64 0,.int .i64 0,.int .i64 0,.nil 4,.int .i64 0,.nil 3,.int .i64 0,.int .i64 0] [(0,3,.t 5),(3,6,.t 8),(9,1,.t 12),(10,1,.t 14),(11,1,.t 16)]⟩,
 ⟨none,none,.sto 2 12 (.t 2) (.t 17)⟩]
def c16B_r1:List AOper:=[⟨some 3,none,.fld 0 (.t 1)⟩,
 ⟨some 4,none,.ldi 3 true (.t 3)⟩,
 ⟨some 5,none,.call 61 [.t 4] []⟩,
 ⟨some 6,none,.fld 3 (.t 1)⟩,
 ⟨some 7,none,.ldi 6 true (.t 6)⟩,
 ⟨some 8,none,.callo 62 [.t 7] [] 8⟩,
 ⟨some 9,none,.bso 9 58 3 []⟩,
 ⟨some 10,none,.fld 9 (.t 1)⟩,
 ⟨some 11,none,.ldi 1 false (.t 10)⟩,
 ⟨some 12,none,.app 9 58 3 24 (.t 9) (.t 11)⟩,
 ⟨some 13,none,.fld 10 (.t 1)⟩,
 ⟨some 14,none,.ldi 1 false (.t 13)⟩,
 ⟨some 15,none,.fld 11 (.t 1)⟩,
 ⟨some 16,none,.ldi 1 false (.t 15)⟩,
 ⟨some 17,none,.bld [.nil 5,.nil 5,.int .i64 0,.nil 3,.int .i64 0,.int .i64 0,.int .i64 0,.nil 4,.int .i64 0,.nil 3,.int .i64 0,.int .i64 0] [(0,3,.t 5),(3,6,.t 8),(9,1,.t 12),(10,1,.t 14),(11,1,.t 16)]⟩,
 ⟨none,none,.sto 2 12 (.t 2) (.t 17)⟩]
def c16D:AFn:=⟨18,[.cell 2 12 true],.seq (.ops c16_r0 false) (.seq (.ops c16D_r1 true) (.fz [2] [2,5] .ret))⟩
def c16B:AFn:=⟨18,[.cell 2 12 true],.seq (.ops c16_r0 false) (.seq (.ops c16B_r1 true) (.fz [2] [2,8] .ret))⟩
def c16T:AFn:=⟨18,[.cell 2 12 true],.seq (.ops c16_r0 false) (.seq (.ops c16D_r1 true) (.fz [2] [2,5,9] .ret))⟩
theorem c16T_ok:FnOk Tryz.prog 16 c16T:=⟨_,Tryz.func16,by kernel_rfl⟩
@[simp] theorem subL_comp {α:Type} (lod:Nat→Option AO) (ids:List Nat) (f:α→List IV) (l:List α):List.map (subL lod ids∘List.map AV.iv∘f) l=List.map (List.map AV.iv∘f) l :=
 List.map_congr_left fun a _=>subL_iv lod ids (f a)
section
variable {K:World→Prop} (hK:∀ w w',K w→Below w.heap.size w w'→K w')
include hK
theorem goodo61D (c:Chain) (hl:c.deeds.length≤1000) (hs:c.sights.length≤1000):GoodO Tryz.prog K 61 [chV c] (.agg [.aref 0 c.deeds.length,.iv (sightsV c.sights),.iv (.int .i64 c.wrong)]) 56 5 (c.deeds.map dC) 0:=by
 refine goodo_of_wp (.cell 2 3 true) 5 hK c61D_ok (by simp[c61D]) rfl ?_
 simp[c61D,rowO]
 omega
@[simp] def prA (p:Proof) (ds ss bs ts:AV):List AV:=[ds,ss,.iv (.int .i64 p.chain.wrong),.iv (leversV p.machine.levers),.iv (.int .i64 p.machine.water),.iv (.int .i64 p.machine.llo),.iv (.int .i64 p.machine.lhi),bs,.iv (.int .i64 p.machine.wrong),ts,.iv (.int .i64 p.need),.iv (.int .i64 p.rule)]
theorem goodh16T (p:Proof) (hs:Small p):GoodH Tryz.prog K 16 [.iv (prV p)] [] [] (.agg (prA p (.aref 0 p.chain.deeds.length) (.iv (sightsV p.chain.sights)) (.iv (balsV p.machine.bals)) (.aref 1 p.trials.length)))
  [(0,.arr 56 5 (emb (p.chain.deeds.map dC)) 0),(1,.arr 58 3 (emb (p.trials.map trC)) 0)]:=by
 obtain ⟨h1,h2,h3,h4,h5⟩:=hs
 refine goodh_of_wp [5,9] [] [] [] c16T_ok.p (by simp[c16T]) (by simp) ?_ ?_ ?_ ?_
 ·intro q hq
  simp only[List.mem_cons,List.not_mem_nil,or_false] at hq
  rcases hq with rfl | rfl
  ·exact ⟨by simp,rfl,clO_emb _ _ _ _ _⟩
  ·exact ⟨by simp,rfl,clO_emb _ _ _ _ _⟩
 ·simp[clA,clAL]
 ·simp
 ·generalize hG:EndH c16T.res [5,9] [] (.agg (prA p (.aref 0 p.chain.deeds.length) (.iv (sightsV p.chain.sights)) (.iv (balsV p.machine.bals)) (.aref 1 p.trials.length)))
   [(0,.arr 56 5 (emb (p.chain.deeds.map dC)) 0),(1,.arr 58 3 (emb (p.trials.map trC)) 0)]=G
  simp[c16T,c16D_r1]
  refine callO_of (goodo61D hK p.chain h1 h2) (by simp) ?_
  simp
  refine callK_of (good62 hK p.machine h3 h4) (.inl rfl) ?_
  simp
  rw[← hG]
  refine ⟨⟨by omega,by omega⟩,⟨_,rfl,rfl⟩,fun q hq=>?_,by simp⟩
  simp only[List.mem_cons,List.not_mem_nil,or_false] at hq
  rcases hq with rfl | rfl
  ·simp[rnO,nth,rn_emb,emb]
  ·simp[rnO,nth,rn_emb,emb]
end
end Go.Pf

/- A proof with one more trial, at the end, at which nothing broke. -/
namespace Go.Pf
open Go Go.Ev Go.Proofs Go.RowKit
set_option maxRecDepth 8000
def prv:Deed:=⟨4,0,0,0,0⟩
def addD (D:List Deed):List Deed:=D++[prv]
theorem addD_len (D:List Deed):(addD D).length=D.length+1:=by simp[addD]
theorem addD_take (D:List Deed) {k:Nat} (h:k≤D.length):(addD D).take k=D.take k:=by
 unfold addD;rw[List.take_append_of_le_length h]
theorem addD_get (D:List Deed) {k:Nat} (h:k<D.length):(addD D)[k]'(by rw[addD_len];omega)=D[k]:=by
 unfold addD;rw[List.getElem_append_left h]
theorem addD_last (D:List Deed):(addD D)[D.length]'(by rw[addD_len];omega)=prv:=by
 unfold addD;simp
theorem addD_cnt (D:List Deed) {k:Nat} (h:k≤D.length):cnt (addD D) k=cnt D k:=by
 rw[← cnt_take (addD D) k D.length h,addD_take D (Nat.le_refl _),List.take_length]
theorem addD_welds (D:List Deed):welds (addD D)=welds D:=by
 unfold welds addD
 rw[idxs_append]
 simp[idxs,isWeld,prv]
theorem addD_pv (D:List Deed):pv (addD D)=pv D++[D.length]:=by
 unfold pv addD
 rw[idxs_append]
 simp[idxs,isProve,prv]
theorem addD_wn (D:List Deed) {k:Nat} (h:k≤D.length):wn (addD D) k=wn D k:=by unfold wn;rw[addD_take D h]
theorem addD_cab (D:List Deed) (e e':Nat→Int) (h:∀ i,i<D.length→e' i=e i):∀ k,k≤D.length→cab (addD D) e' k=cab D e k
 | 0,_=>rfl
 | k+1,hk=>by
   rw[cab_succ (addD D) e' k (by rw[addD_len];omega),cab_succ D e k (by omega),addD_get D (by omega),addD_wn D (by omega),h k (by omega),addD_cab D e e' h k (by omega)]
theorem addD_cab_last (D:List Deed) (e:Nat→Int):cab (addD D) e (D.length+1)=cab (addD D) e D.length:=by
 rw[cab_succ (addD D) e D.length (by rw[addD_len];omega),addD_last]
 simp[stepC,prv]
theorem addD_markD (D:List Deed) (h:D≠[]) (k:Nat):markD (addD D) k=markD D k:=by
 unfold markD
 rw[addD_welds]
 have hlt:(welds D).getD k 0<D.length:=by
  by_cases hk:k<(welds D).length
  ·rw[List.getD_eq_getElem?_getD,List.getElem?_eq_getElem hk,Option.getD_some]
   exact welds_lt (List.getElem_mem hk)
  ·rw[List.getD_eq_getElem?_getD,List.getElem?_eq_none (by omega),Option.getD_none]
   exact List.length_pos_iff.2 h
 generalize (welds D).getD k 0=j at *
 unfold addD
 rw[List.getD_eq_getElem?_getD,List.getD_eq_getElem?_getD,List.getElem?_append_left hlt]
theorem addD_okD {D:List Deed} (h:OkD D D.length):OkD (addD D) (addD D).length:=by
 intro i hi _
 rw[addD_len] at hi
 by_cases hl:i<D.length
 ·rw[addD_get D hl,addD_cnt D (by omega)]
  exact h i hl hl
 ·have:i=D.length:=by omega
  subst this
  rw[addD_last]
  exact .inr (.inr ⟨.inr rfl,rfl,rfl,rfl,rfl⟩)
theorem addD_twos (D:List Deed):twos (addD D)=twos D:=by
 unfold twos addD
 rw[List.countP_append]
 simp[prv]
theorem endF_app (e:List Int) (x:Int) (i:Nat) (h:i<e.length):endF (e++[x]) i=endF e i:=by
 unfold endF
 rw[List.getD_eq_getElem?_getD,List.getD_eq_getElem?_getD,List.getElem?_append_left h]
def addC (c:Chain):Chain:=⟨addD c.deeds,c.sights,c.wrong⟩
theorem addC_ok {c:Chain} (h:OkC c) (hl:c.deeds.length<12):OkC (addC c):=by
 refine ⟨by show (addD c.deeds).length≤12;rw[addD_len];omega,h.slen,h.wrong,addD_okD h.deeds,fun s hs=>?_⟩
 have:=h.sights s hs
 obtain ⟨h1,h2,h3,h4⟩:=this
 simp only[inR] at h1
 refine ⟨?_,h2,?_,h4⟩
 ·show inR s.after 0 (addD c.deeds).length
  rw[addD_len];simp only[inR];omega
 ·show inR s.pos 0 (cnt (addD c.deeds) s.after.toNat-1)
  rw[addD_cnt _ (by omega)]
  exact h3
theorem addC_wrongs {c:Chain} (h:OkC c) {e:List Int} (he:e.length=c.deeds.length):wrongsE (addD c.deeds) c.sights (endF (e++[0]))=wrongsE c.deeds c.sights (endF e):=by
 unfold wrongsE
 by_cases hD:c.deeds=[]
 ·have:c.sights=[]:=by
   refine List.eq_nil_iff_forall_not_mem.2 fun s hs=>?_
   have:=(h.sights s hs).2.2.1
   rw[hD] at this
   simp[inR,cnt] at this
   omega
  rw[this]
  rfl
 ·refine List.countP_congr fun s hs=>?_
  have h1:=(h.sights s hs).1
  simp only[inR] at h1
  have hr:rightE (addD c.deeds) (endF (e++[0])) s=rightE c.deeds (endF e) s:=by
   unfold rightE rightC
   rw[addD_cab c.deeds (endF e) (endF (e++[0])) (fun i hi=>endF_app e 0 i (by omega)) _ (by omega),addD_markD _ hD]
  rw[hr]
theorem addD_isCh (D:List Deed) (e:List Int):isCh (addD D) (e++[0])↔isCh D e:=by
 unfold isCh
 constructor
 ·rintro ⟨h1,h2⟩
  have hl:e.length=D.length:=by rw[addD_len] at h1;simpa using h1
  refine ⟨hl,fun i hi hi'=>?_⟩
  have:=h2 i (by rw[addD_len];omega) (by simp;omega)
  rw[addD_get D hi,List.getElem_append_left hi'] at this
  exact this
 ·rintro ⟨h1,h2⟩
  refine ⟨by rw[addD_len];simp[h1],fun i hi hi'=>?_⟩
  rw[addD_len] at hi
  by_cases hl:i<D.length
  ·rw[addD_get D hl,List.getElem_append_left (by omega)]
   exact h2 i hl (by omega)
  ·have:i=D.length:=by omega
   subst this
   rw[addD_last]
   have:(e++[0])[D.length]'hi'=0:=by simp[← h1]
   rw[this]
   exact ⟨by simp[inR],fun _=>rfl⟩
theorem addC_isTr {c:Chain} (h:OkC c) (e:List Int):isTr (addC c) (e++[0])↔isTr c e:=by
 unfold isTr
 have e1:(addC c).deeds=addD c.deeds:=rfl
 have e2:(addC c).sights=c.sights:=rfl
 have e3:(addC c).wrong=c.wrong:=rfl
 rw[e1,e2,e3,addD_isCh]
 constructor
 ·rintro ⟨h1,h2⟩
  rw[addC_wrongs h h1.1] at h2
  exact ⟨h1,h2⟩
 ·rintro ⟨h1,h2⟩
  refine ⟨h1,?_⟩
  rw[addC_wrongs h h1.1]
  exact h2
theorem choices_add:∀ D:List Deed,choices (addD D)=(choices D).map (·++[0])
 | []=>by simp[addD,choices,endsD,prv]
 | d::D=>by
   have ih:=choices_add D
   have e:addD (d::D)=d::addD D:=rfl
   rw[e]
   simp only[choices,ih,List.map_flatMap,List.map_map]
   rfl
theorem endsL_add {c:Chain} (h:OkC c):endsL (addC c) [] (addC c).deeds=(endsL c [] c.deeds).map (·++[0]):=by
 have e1:(addC c).deeds=addD c.deeds:=rfl
 unfold endsL
 rw[e1,choices_add]
 simp only[List.nil_append,List.map_id',List.filter_map]
 congr 1
 refine List.filter_congr fun e _=>?_
 simp only[Function.comp_apply]
 exact decide_eq_decide.2 (addC_isTr h e)
def addT (p:Proof) (w:Int):Proof:=⟨addC p.chain,p.machine,p.trials++[⟨w,0,-1⟩],p.need,p.rule⟩
def addE (t:Truth):Truth:=⟨t.ends++[0],t.set⟩
theorem knownL_add {p:Proof} {w:Int} (hp:OkP p):knownL (addT p w)=(knownL p).map addE:=by
 have e1:(addT p w).chain=addC p.chain:=rfl
 have e2:(addT p w).machine=p.machine:=rfl
 unfold knownL
 rw[e1,e2,endsL_add hp.chain]
 simp only[List.flatMap_map,List.map_flatMap,List.map_map]
 rfl
theorem addT_ok {p:Proof} {w:Int} (hp:OkP p) (hl:p.chain.deeds.length<12) (hw:inR w 0 9999):OkP (addT p w):=by
 have e1:(addT p w).chain.deeds=addD p.chain.deeds:=rfl
 have e2:(addT p w).trials=p.trials++[⟨w,0,-1⟩]:=rfl
 refine ⟨addC_ok hp.chain hl,hp.machine,hp.need,hp.rule,?_,fun i h h'=>?_⟩
 ·rw[e1,e2,addD_pv];simp[hp.many]
 ·have hm:=hp.many
  simp only[e1,addD_pv,e2] at h h' ⊢
  simp at h h'
  by_cases hi:i<p.trials.length
  ·have h1:=hp.trials i (by omega) hi
   rw[List.getElem_append_left hi,List.getElem_append_left (by omega)]
   have h2:=idxs_lt isProve p.chain.deeds 0 _ (List.getElem_mem (show i<(pv p.chain.deeds).length by omega))
   rw[addD_cnt _ (by have:(pv p.chain.deeds)[i]'(by omega)<0+p.chain.deeds.length:=by first | exact h2.2 | exact h2
                     omega)]
   exact h1
  ·have:i=p.trials.length:=by omega
   subst this
   have e3:(p.trials++[(⟨w,0,-1⟩:Trial)])[p.trials.length]'(by simp)=⟨w,0,-1⟩:=by simp
   have e4:(pv p.chain.deeds++[p.chain.deeds.length])[p.trials.length]'(by simp;omega)=p.chain.deeds.length:=by simp[hm]
   rw[e3,e4,addD_cnt _ (Nat.le_refl _)]
   have:=OkD.cnt hp.chain.deeds p.chain.deeds.length (Nat.le_refl _) (Nat.le_refl _)
   exact ⟨hw,by simp[inR],by simp only[inR];omega⟩
theorem addT_far {p:Proof} {w:Int} (h:¬ farP p) (hp:OkP p) (hl:p.chain.deeds.length<12):¬ farP (addT p w):=by
 have hT:=hp.trialsLen
 unfold farP at *
 intro h'
 refine h ?_
 rcases h' with h1 | h1 | h1 | h1
 ·refine .inl ?_
  unfold farC at *
  have e1:(addT p w).chain.deeds=addD p.chain.deeds:=rfl
  rw[e1,addD_len,addD_twos] at h1
  rcases h1 with h1 | h1 | h1
  ·omega
  ·exact .inr (.inl h1)
  ·exact .inr (.inr ⟨hp.chain,h1.2⟩)
 ·exact .inr (.inl h1)
 ·have e2:(addT p w).trials=p.trials++[⟨w,0,-1⟩]:=rfl
  rw[e2] at h1
  simp at h1
  omega
 ·refine .inr (.inr (.inr ⟨hp,?_⟩))
  have e:ways (addT p w)=ways p:=by
   unfold ways
   have e1:(addT p w).chain.deeds=addD p.chain.deeds:=rfl
   rw[e1,addD_twos]
   rfl
  rw[← e]
  exact h1.2
theorem addT_tr {p:Proof} {w:Int} {i:Nat} (h:i<p.trials.length):tr (addT p w) i=tr p i:=by
 have e2:(addT p w).trials=p.trials++[⟨w,0,-1⟩]:=rfl
 unfold tr
 rw[e2,List.getD_eq_getElem?_getD,List.getD_eq_getElem?_getD,List.getElem?_append_left h]
theorem addT_trl (p:Proof) (w:Int):tr (addT p w) p.trials.length=⟨w,0,-1⟩:=by
 have e2:(addT p w).trials=p.trials++[⟨w,0,-1⟩]:=rfl
 unfold tr
 rw[e2,List.getD_eq_getElem?_getD]
 simp
theorem addT_fail (p:Proof) (w:Int) (t:Truth):failN (addT p w) (addE t)=failN p t:=by
 have e2:(addT p w).trials.length=p.trials.length+1:=by show (p.trials++[_]).length=_;simp
 unfold failN
 rw[e2,List.range_succ,List.countP_append]
 have h0:failedB (addT p w) p.trials.length (addE t)=false:=by
  unfold failedB
  rw[addT_trl]
  simp
 simp only[List.countP_singleton,h0]
 simp only[Bool.false_eq_true,if_false,Nat.add_zero]
 refine List.countP_congr fun i hi=>?_
 have hi:=List.mem_range.1 hi
 have:failedB (addT p w) i (addE t)=failedB p i t:=by
  unfold failedB loadN
  rw[addT_tr hi]
  rfl
 rw[this]
theorem addT_now (p:Proof) (w:Int) (e:Nat→Int):nowN (addT p w) e=cab (addD p.chain.deeds) e p.chain.deeds.length:=by
 have e1:(addT p w).chain.deeds=addD p.chain.deeds:=rfl
 unfold nowN
 rw[e1,addD_len,addD_cab_last]
theorem addT_proved {p:Proof} (hp:OkP p) {w:Int} {t:Truth} (ha:p.need*den t.set≤num p.machine t.set w 0) {k:Nat} (hk:k∈nowN (addT p w) (endF (addE t).ends)):provedB (addT p w) k (addE t)=true:=by
 have e2:(addT p w).trials.length=p.trials.length+1:=by show (p.trials++[_]).length=_;simp
 have e1:(addT p w).chain.deeds=addD p.chain.deeds:=rfl
 unfold provedB
 rw[List.any_eq_true,e2]
 refine ⟨p.trials.length,List.mem_range.2 (by omega),?_⟩
 have hth:thenN (addT p w) p.trials.length (endF (addE t).ends)=nowN (addT p w) (endF (addE t).ends):=by
  rw[addT_now]
  unfold thenN
  rw[e1,addD_pv]
  have:(pv p.chain.deeds++[p.chain.deeds.length]).getD p.trials.length 0=p.chain.deeds.length:=by
   rw[List.getD_eq_getElem?_getD,hp.many];simp
  rw[this]
 have hbr:brokeN (addT p w) p.trials.length (endF (addE t).ends) = -1:=by
  unfold brokeN
  rw[addT_trl]
  rfl
 unfold provedAt
 rw[hth,hbr]
 unfold loadN
 rw[addT_trl]
 simp only[Bool.and_eq_true,decide_eq_true_eq,Bool.not_eq_true',decide_eq_false_iff_not]
 refine ⟨⟨ha,?_⟩,by omega⟩
 unfold inN
 exact decide_eq_true (List.mem_map.2 ⟨k,hk,rfl⟩)
end Go.Pf

/- The law of one more trial (ProofsLater). -/
namespace Go.Pf
open Go Go.Ev Go.Proofs Go.RowKit
set_option maxRecDepth 8000
@[simp] theorem emb_app5 (L:List (List IV)) (a b c d e:IV):emb L++[[.iv a,.iv b,.iv c,.iv d,.iv e]]=emb (L++[[a,b,c,d,e]]):=by simp[emb]
theorem kL_ok2 {p:Proof} (hp:OkP p):kL p true=knownL p:=by unfold kL;exact if_pos ⟨hp,rfl⟩
theorem addT_kE {p:Proof} {w:Int} (hp:OkP p) (ho:OkP (addT p w)) (hk:kE p true=0):kE (addT p w) true=0:=by
 have hne:=(kE_ok hk).2.2.2
 unfold kE
 rw[if_pos ho,if_pos rfl,if_neg]
 rw[knownL_add hp]
 intro e
 exact hne (List.map_eq_nil_iff.1 e)
theorem addT_rFail {p:Proof} {w:Int} (hp:OkP p) (ho:OkP (addT p w)):rFail (addT p w)=rFail p:=by
 unfold rFail
 rw[kL_ok2 hp,kL_ok2 ho,knownL_add hp,List.map_map]
 congr 1
 refine List.map_congr_left fun t _=>?_
 simp only[Function.comp_apply,addT_fail]
theorem addT_rOpen {p:Proof} {w:Int} (hp:OkP p) (ho:OkP (addT p w)) (ha:∀ t∈knownL p,p.need*den t.set≤num p.machine t.set w 0):rOpen (addT p w)=[]:=by
 unfold rOpen
 split
 ·rw[kL_ok2 ho,knownL_add hp]
  refine List.eq_nil_iff_forall_not_mem.2 fun x hx=>?_
  simp only[acc,List.mem_flatMap,List.mem_range] at hx
  obtain ⟨i,hi,hx⟩:=hx
  rw[if_pos] at hx
  ·cases hx
  ·refine List.all_eq_true.2 fun t' ht=>?_
   obtain ⟨t,ht2,rfl⟩:=List.mem_map.1 ht
   have hl:=(now_len ho (endF (addE t).ends)).1
   have hil:i<(nowN (addT p w) (endF (addE t).ends)).length:=by omega
   rw[List.getD_eq_getElem?_getD,List.getElem?_eq_getElem hil,Option.getD_some]
   exact addT_proved hp (ha t ht2) (List.getElem_mem hil)
 ·rfl
theorem addT_good {p:Proof} {w:Int} (hp:OkP p) (ho:OkP (addT p w)) (ha:∀ t∈knownL p,p.need*den t.set≤num p.machine t.set w 0) (hk:kE p true=0):rCond p=2↔rGood (addT p w)=1:=by
 have hne:=(kE_ok hk).2.2.2
 have hl:(knownL p).length≠0:=fun e=>hne (List.eq_nil_of_length_eq_zero e)
 have hg:∀ t∈knownL p,goodB (addT p w) (addE t)=decide ((failN p t:Int)<p.rule):=fun t ht=>by
  unfold goodB
  have e1:((nowN (addT p w) (endF (addE t).ends)).all fun (k:Nat)=>provedB (addT p w) k (addE t))=true:=List.all_eq_true.2 fun k hk=>addT_proved hp (ha t ht) hk
  rw[e1,addT_fail]
  rfl
 unfold rCond rGood
 rw[if_pos hk,if_pos (addT_kE hp ho hk),kL_ok2 hp,kL_ok2 ho,knownL_add hp,toldN_never hl,toldN_sure,List.countP_eq_length,List.countP_eq_zero]
 constructor
 ·intro h t' ht
  obtain ⟨t,ht2,rfl⟩:=List.mem_map.1 ht
  rw[hg t ht2]
  have:=h t ht2
  simp at this
  exact decide_eq_true (by omega)
 ·intro h t ht hd
  have:=h _ (List.mem_map.2 ⟨t,ht,rfl⟩)
  rw[hg t ht] at this
  have:=of_decide_eq_true this
  have:=of_decide_eq_true hd
  omega
theorem leastR_all (m:Machine) (l:List Setting) (mn load:Int):0≤leastR m l mn load∧(leastR m l mn load≤9999→allPull m l (leastR m l mn load) mn load):=by
 classical
 unfold leastR
 refine ⟨by omega,fun h=>?_⟩
 have:=List.findIdx_getElem (p:=fun (n:Nat)=>decide (allPull m l n mn load)) (xs:=List.range 10000) (w:=by
  rw[List.length_range]
  have h2:(((List.range 10000).findIdx fun (n:Nat)=>@decide (allPull m l n mn load) (Classical.propDecidable _)):Int)≤9999:=h
  omega)
 simpa using this
theorem weight_tE {p:Proof} (hp:OkP p) (hk:kE p true=0):tE p.machine (askB 0 0 p.need)=0∧tL p.machine (askB 0 0 p.need)=setsL p.machine [] p.machine.levers:=by
 have hne:=(kE_ok hk).2.2.2
 have hb:askB 0 0 p.need=true:=decide_eq_true ⟨by simp[inR],by simp[inR],hp.need⟩
 rw[hb]
 refine ⟨?_,by unfold tL;exact if_pos ⟨hp.machine,rfl⟩⟩
 unfold tE
 rw[if_pos hp.machine,if_pos rfl,if_neg]
 intro e
 refine hne ?_
 unfold knownL
 rw[e]
 simp
theorem weight_err {p:Proof} (hp:OkP p) (hk:kE p true=0):(rWeight p.machine 0 p.need).2=0∨(rWeight p.machine 0 p.need).2=3:=by
 unfold rWeight
 rw[if_pos (weight_tE hp hk).1]
 split
 ·exact .inr rfl
 ·exact .inl rfl
theorem weight_facts {p:Proof} (hp:OkP p) (hk:kE p true=0) (h:(rWeight p.machine 0 p.need).2=0) :
  inR (rWeight p.machine 0 p.need).1 0 9999∧∀ t∈knownL p,p.need*den t.set≤num p.machine t.set (rWeight p.machine 0 p.need).1 0:=by
 unfold rWeight at *
 rw[if_pos (weight_tE hp hk).1] at *
 split at h
 ·cases h
 ·rename_i h1
  rw[if_neg h1,(weight_tE hp hk).2]
  rw[(weight_tE hp hk).2] at h1
  have:=leastR_all p.machine (setsL p.machine [] p.machine.levers) 0 p.need
  refine ⟨⟨this.1,by simp only;omega⟩,fun t ht=>this.2 (by omega) t.set (setsL_mem (known_truth ht).2)⟩
section
variable {K:World→Prop} (hK:∀ w w',K w→Below w.heap.size w w'→K w')
include hK
theorem law10 (p:Proof):Ev.Good Tryz.prog K 10 [prV p] (.bool true):=by
 refine good_of_wp hK c10_ok (by simp) ?_
 have g15:=good15 hK
 have g13:=good13 hK p
 generalize hd:decide (¬ farP p∧OkP p)=rd at g13
 cases rd
 ·simp
  refine callK_of (by simpa using g13) (.inl rfl) ?_
  simp
  refine callK_of g15 (.inl rfl) ?_
  simp
 obtain ⟨hfar,hp⟩:=of_decide_eq_true hd
 by_cases h1:12≤(p.chain.deeds.length:Int)
 ·simp
  refine callK_of (by simpa using g13) (.inl rfl) ?_
  simp[h1]
  repeat' first | omega | intro _ | apply And.intro
  refine callK_of g15 (.inl rfl) ?_
  simp
 have hs:=small_of hfar
 have hf:=few_of hfar
 have g44:=good44 hK p hf
 have g21:=good21 hK 3
 have h21:decide ((3:Int)=0∨(3:Int)=3)=true:=by decide
 rw[h21] at g21
 have hE:=kE_known hp true
 by_cases hk:kE p true=0
 ·have hwf:=weight_facts hp hk
  have hwe:=weight_err hp hk
  rw[if_pos hk,if_pos hk] at g44
  generalize rWeight p.machine 0 p.need=W at *
  obtain ⟨w,we⟩:=W
  simp only at hwf hwe g44
  rcases hwe with rfl | rfl
  ·obtain ⟨hw,ha⟩:=hwf rfl
   have hw':=hw
   simp only[inR] at hw'
   have hl:p.chain.deeds.length<12:=by omega
   have ho:=addT_ok hp hl hw
   have hf2:=few_of (addT_far (w:=w) hfar hp hl)
   have g16:=goodh16T hK p hs
   have g40:=good40 hK _ hf2
   have g23:=good23 hK p hf
   have g19:=good19 hK _ hf2
   have g17:=good17 hK p hf
   have g17o:=good17 hK _ hf2
   rw[addT_rOpen hp ho ha,addT_kE hp ho hk] at g40
   rw[addT_kE hp ho hk] at g19 g17o
   rw[addT_rFail hp ho] at g17o
   rw[hk] at g23 g17
   have hc:=addT_good hp ho ha hk
   generalize rCond p=c at *
   generalize rGood (addT p w)=g at *
   generalize rFail p=F at *
   obtain ⟨f1,f2⟩:=F
   simp only at g17 g17o
   have htl:=hs.trials
   have k1:¬ w<0:=by omega
   have k2:¬ 9999<w:=by omega
   simp
   refine callK_of (by simpa using g13) (.inl rfl) ?_
   simp[h1]
   repeat' first | omega | intro _ | apply And.intro
   refine callK_of (by simpa using g44) (.inl rfl) ?_
   simp[k1,k2]
   refine callH_of g16 rfl ?_ ?_
   ·refine ⟨by simp,by simp,by simp,by simp[lookO],?_⟩
    simp[noExt]
   simp[rn,rnL,nth,ivss_embA,List.take_of_length_le]
   refine ⟨⟨by omega,by omega⟩,⟨by omega,by omega⟩,?_⟩
   refine callK_of (by simpa[addT,addC,addD,prv] using g40) (.inl rfl) ?_
   simp
   refine callK_of (by simpa using g23) (.inl rfl) ?_
   simp
   refine callK_of (by simpa[addT,addC,addD,prv] using g19) (.inl rfl) ?_
   simp
   refine callK_of (by simpa using g17) (.inl rfl) ?_
   simp
   refine callK_of (by simpa[addT,addC,addD,prv] using g17o) (.inl rfl) ?_
   by_cases hc2:c=2
   ·have hg1:=hc.1 hc2
    simp[hc2,hg1]
    refine callK_of g15 (.inl rfl) ?_
    simp
   ·have hg1:¬ g=1:=fun e=>hc2 (hc.2 e)
    simp[hc2,hg1]
    refine callK_of g15 (.inl rfl) ?_
    simp
  ·simp
   refine callK_of (by simpa using g13) (.inl rfl) ?_
   simp[h1]
   repeat' first | omega | intro _ | apply And.intro
   refine callK_of (by simpa using g44) (.inl rfl) ?_
   simp
   refine callK_of g21 (.inl rfl) ?_
   simp
   refine callK_of g15 (.inl rfl) ?_
   simp
 ·have hk3:kE p true=3:=by
   rcases hE with h | h | h
   ·exact absurd h hk
   ·exact h
   ·cases h.1
  rw[hk3] at g44
  rw[if_neg (by decide),if_neg (by decide)] at g44
  simp
  refine callK_of (by simpa using g13) (.inl rfl) ?_
  simp[h1]
  repeat' first | omega | intro _ | apply And.intro
  refine callK_of (by simpa using g44) (.inl rfl) ?_
  simp
  refine callK_of g21 (.inl rfl) ?_
  simp
  refine callK_of g15 (.inl rfl) ?_
  simp
end
end Go.Pf
