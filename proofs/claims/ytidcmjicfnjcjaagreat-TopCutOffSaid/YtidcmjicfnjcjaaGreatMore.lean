/- The laws that compare with the reference: ProofsBroke, ProofsFailures, ProofsGood. -/
import Derived.Test.YtidcmjicfnjcjaaGreatAsks
set_option linter.all false

namespace Go.Pf
open Go Go.Ev Go.Proofs Go.RowKit
set_option maxRecDepth 8000
theorem choices_len:∀ ds:List Deed,(choices ds).length≤2 ^ twos ds
 | []=>by show 1≤2 ^ 0;decide
 | d::r=>by
   have ih:=choices_len r
   by_cases h2:d.frm=2
   ·have e1:twos (d::r)=twos r+1:=by simp[twos,h2]
    rw[e1,Nat.pow_succ]
    simp[choices,endsD,h2]
    omega
   ·have e1:twos (d::r)=twos r:=by simp[twos,h2]
    rw[e1]
    by_cases h0:d.frm=0
    ·simp[choices,endsD,h0];omega
    ·by_cases h1:d.frm=1
     ·simp[choices,endsD,h1];omega
     ·simp[choices,endsD,h0,h1,h2]
theorem ends_le2 (c:Chain):(endsL c [] c.deeds).length≤2 ^ twos c.deeds:=by
 refine Nat.le_trans (List.length_filter_le _ _) ?_
 simpa using choices_len c.deeds
theorem small_of {p:Proof} (h:¬ farP p):Small p:=by
 unfold farP farC farM at h
 simp only[not_or] at h
 exact ⟨by omega,by omega,by omega,by omega,by omega⟩
theorem ways_of {p:Proof} (h:¬ farP p) (hp:OkP p):1≤sets p.machine p.machine.levers.length∧sets p.machine p.machine.levers.length≤48∧2 ^ twos p.chain.deeds≤48:=by
 have h1:ways p≤48:=by
  unfold farP at h
  simp only[not_or] at h
  have:=h.2.2.2
  refine Classical.byContradiction fun hc=>this ⟨hp,by omega⟩
 have hl:=hp.machine.leak
 simp only[inR] at hl
 have h2:1≤sets p.machine p.machine.levers.length:=by
  have h3:=prodF_pos spanL p.machine.levers fun l hl=>(hp.machine.span hl).1
  unfold sets
  rw[List.take_of_length_le (Nat.le_refl _)]
  have h4:1*prodF spanL p.machine.levers≤(p.machine.lhi-p.machine.llo+1)*prodF spanL p.machine.levers:=Int.mul_le_mul_of_nonneg_right (by omega) (by omega)
  omega
 unfold ways at h1
 have hpos:1≤(2 ^ twos p.chain.deeds:Nat):=Nat.pos_of_ne_zero (by simp)
 generalize (2 ^ twos p.chain.deeds:Nat)=W at *
 generalize sets p.machine p.machine.levers.length=S at *
 have a1:S*1≤S*(W:Int):=Int.mul_le_mul_of_nonneg_left (by omega) (by omega)
 have a2:1*(W:Int)≤S*(W:Int):=Int.mul_le_mul_of_nonneg_right h2 (by omega)
 omega
theorem few_of {p:Proof} (h:¬ farP p):Few p:=by
 refine ⟨⟨small_of h,fun hp=>by have:=ways_of h hp;omega⟩,fun hp=>?_,fun hp=>?_,fun hp=>?_⟩
 ·have h1:=ends_le2 p.chain;have h2:=ways_of h hp;omega
 ·have h1:=setsL_le hp.machine;have h2:=ways_of h hp;omega
 ·have h1:=ends_le2 p.chain
  have h2:=ways_of h hp
  have h3:=setsL_le hp.machine
  rw[known_mul,stories_len,loads_len]
  have h4:(endsL p.chain [] p.chain.deeds).length*(setsL p.machine [] p.machine.levers).length≤48*48:=Nat.mul_le_mul (by omega) (by omega)
  omega
section
variable {K:World→Prop} (hK:∀ w w',K w→Below w.heap.size w w'→K w')
include hK
end
end Go.Pf

/- The law of the rule (ProofsRule). -/
namespace Go.Pf
open Go Go.Ev Go.Proofs Go.RowKit
set_option maxRecDepth 8000
def withRule (p:Proof) (r:Int):Proof:=⟨p.chain,p.machine,p.trials,p.need,r⟩
theorem toldN_sure {c n:Nat}:toldN c n=1↔c=n:=by
 unfold toldN
 split<;>rename_i h
 ·exact ⟨fun _=>by omega,fun _=>rfl⟩
 ·split<;>exact ⟨fun h=>by omega,fun h=>by omega⟩
theorem toldN_never {c n:Nat} (hn:n≠0):toldN c n=2↔c=0:=by
 unfold toldN
 split<;>rename_i h
 ·exact ⟨fun h=>by omega,fun h=>by omega⟩
 ·split<;>exact ⟨fun h=>by omega,fun h=>by omega⟩
theorem kE_known {p:Proof} (hp:OkP p) (is:Bool):kE p is=0∨kE p is=3∨(is=false∧kE p is=1):=by
 unfold kE
 rw[if_pos hp]
 cases is
 ·exact .inr (.inr ⟨rfl,rfl⟩)
 ·simp only[if_true]
  split
  ·exact .inr (.inl rfl)
  ·exact .inl rfl
def someN (p:Proof) (i:Nat):Nat:=(List.range i).countP fun k=>decide (0≤(tr p k).broke)
section
variable {K:World→Prop} (hK:∀ w w',K w→Below w.heap.size w w'→K w')
include hK
end
end Go.Pf

/- The law of the greater load (ProofsNeed). -/
namespace Go.Pf
open Go Go.Ev Go.Proofs Go.RowKit
set_option maxRecDepth 8000
theorem rWorst_le (p:Proof):rWorst p≤999999999:=by
 unfold rWorst
 have h:∀ (l:List Truth) (b:Int),l.foldl (fun b t=>min b (worthN p t)) b≤b:=by
  intro l
  induction l with
  | nil=>intro b;exact Int.le_refl _
  | cons a l ih=>intro b;exact Int.le_trans (ih _) (Int.min_le_left _ _)
 exact h _ _
section
variable {K:World→Prop} (hK:∀ w w',K w→Below w.heap.size w w'→K w')
include hK
end
end Go.Pf

/- Every truth is among the known ones; what is so of a truth agrees with what is known of all. -/
namespace Go.Pf
open Go Go.Ev Go.Proofs Go.RowKit
set_option maxRecDepth 8000
theorem choices_mem:∀ (ds:List Deed) (e:List Int),(∀ d∈ds,inR d.frm 0 2)→e.length=ds.length→(∀ i (h:i<ds.length) (h':i<e.length),inR e[i] 0 1∧(ds[i].frm<2→e[i]=ds[i].frm))→e∈choices ds
 | [],e,_,hl,_=>by
   have:e=[]:=List.eq_nil_of_length_eq_zero hl
   subst this
   simp[choices]
 | d::ds,[],_,hl,_=>by cases hl
 | d::ds,x::e,hd,hl,h=>by
   have h0:=h 0 (by simp) (by simp)
   simp only[List.getElem_cons_zero] at h0
   have hr:=choices_mem ds e (fun d hd'=>hd d (by simp[hd'])) (by simpa using hl) (fun i h1 h2=>by
    have:=h (i+1) (by simpa using h1) (by simpa using h2)
    simpa only[List.getElem_cons_succ] using this)
   have hf:=hd d (by simp)
   simp only[inR] at hf h0
   simp only[choices,List.mem_flatMap,List.mem_map]
   refine ⟨x,?_,e,hr,rfl⟩
   unfold endsD
   by_cases h2:d.frm=2
   ·have:x=0∨x=1:=by omega
    rcases this with rfl | rfl<;>simp[h2]
   ·have e1:=h0.2 (by omega)
    have:d.frm=0∨d.frm=1:=by omega
    rcases this with h3 | h3<;>simp[h3,e1]
theorem shortsAll_mem:∀ (ls:List Lever) (s:List Int),s.length=ls.length→(∀ i (h:i<ls.length) (h':i<s.length),inR s[i] ls[i].lo ls[i].hi)→s∈shortsAll ls
 | [],s,hl,_=>by
   have:s=[]:=List.eq_nil_of_length_eq_zero hl
   subst this
   simp[shortsAll]
 | l::ls,[],hl,_=>by cases hl
 | l::ls,x::s,hl,h=>by
   have h0:=h 0 (by simp) (by simp)
   simp only[List.getElem_cons_zero,inR] at h0
   have hr:=shortsAll_mem ls s (by simpa using hl) (fun i h1 h2=>by
    have:=h (i+1) (by simpa using h1) (by simpa using h2)
    simpa only[List.getElem_cons_succ] using this)
   simp only[shortsAll,acc,List.mem_flatMap,List.mem_map,List.mem_range]
   refine ⟨(x-l.lo).toNat,by omega,s,hr,?_⟩
   have:l.lo+((x-l.lo).toNat:Int)=x:=by omega
   rw[this]
theorem frm_in {d:Deed} {n:Int} (h:isDeedS d n):inR d.frm 0 2:=by
 rcases h with h | h | h
 ·exact h.2.1
 ·exact h.2.1
 ·rw[h.2.2.1];simp[inR]
theorem endsL_mem {c:Chain} (hc:OkC c) {e:List Int} (h:isTr c e):e∈endsL c [] c.deeds:=by
 simp only[endsL,List.mem_filter,decide_eq_true_eq,List.nil_append,List.map_id']
 refine ⟨choices_mem _ _ (fun d hd=>?_) h.1.1 h.1.2,h⟩
 obtain ⟨i,hi,rfl⟩:=List.getElem_of_mem hd
 exact frm_in (hc.deeds i hi hi)
theorem setsL_mem {m:Machine} {s:Setting} (h:isSet m s):s∈setsL m [] m.levers:=by
 simp only[setsL,List.mem_filter,decide_eq_true_eq]
 refine ⟨?_,h⟩
 obtain ⟨⟨h1,h2,h3⟩,_⟩:=h
 simp only[inR] at h2
 simp only[setsAll,List.mem_flatMap,List.mem_map,List.mem_range,List.nil_append]
 refine ⟨s.shorts,shortsAll_mem _ _ h1 h3,(s.leak-m.llo).toNat,by omega,?_⟩
 have:m.llo+((s.leak-m.llo).toNat:Int)=s.leak:=by omega
 rw[this]
theorem kE_of {p:Proof} (hp:OkP p) {t:Truth} (h:t∈knownL p):kE p true=0:=by
 unfold kE
 rw[if_pos hp,if_pos rfl,if_neg (fun e=>by rw[e] at h;cases h)]
theorem span_mem {α:Type} (f:α→Int):∀ (l:List α) (t:α),t∈l→(span (l.map f)).1≤f t∧f t≤(span (l.map f)).2
 | [],_,h=>by cases h
 | a::r,t,h=>by
   have mono:∀ (l:List α) (x u:Int),(l.map f).foldl min x≤x∧u≤(l.map f).foldl max u:=by
    intro l
    induction l with
    | nil=>intro x u;exact ⟨Int.le_refl _,Int.le_refl _⟩
    | cons b l ih =>
      intro x u
      simp only[List.map_cons,List.foldl_cons]
      have:=ih (min x (f b)) (max u (f b))
      omega
   have key:∀ (l:List α) (x u:Int),t∈l→(l.map f).foldl min x≤f t∧f t≤(l.map f).foldl max u:=by
    intro l
    induction l with
    | nil=>intro x u h;cases h
    | cons b l ih =>
      intro x u h
      simp only[List.map_cons,List.foldl_cons]
      rcases List.mem_cons.1 h with rfl | h
      ·have:=mono l (min x (f t)) (max u (f t))
       omega
      ·exact ih _ _ h
   simp only[List.map_cons,span]
   rcases List.mem_cons.1 h with rfl | h
   ·exact mono r _ _
   ·exact key r _ _ h
def agreesP (k:Int) (b:Bool):Prop:=k=3∨(k=1∧b=true)∨(k=2∧b=false)
theorem broke_bd2 {p:Proof} (hp:OkP p) (e:Nat→Int) {i:Nat} (hi:i<p.trials.length):(brokeN p i e = -1∧(tr p i).broke<0)∨(0≤(tr p i).broke∧0≤brokeN p i e∧brokeN p i e≤12):=by
 by_cases hb:0≤(tr p i).broke
 ·obtain ⟨h1,h2⟩:=hp.brokeIn e hi hb
  have h3:=OkP.thenLt e i (List.getElem_mem h1)
  have h4:=idxs_len isWeld p.chain.deeds 0
  have h5:=hp.chain.len
  unfold welds at h3
  refine .inr ⟨hb,?_⟩
  rw[h2]
  omega
 ·refine .inl ⟨?_,by omega⟩
  unfold brokeN
  rw[if_neg hb]
theorem broke_in {p:Proof} (hp:OkP p) {t:Truth} (h:t∈knownL p) {n:Int} (hn:trialB p n=true):(rBroke p n).length≤13∧(0≤brokeN p n.toNat (endF t.ends)→brokeN p n.toNat (endF t.ends)∈rBroke p n) ∧
  (brokeN p n.toNat (endF t.ends)<0→rBroke p n=[]):=by
 have hk:=kE_of hp h
 have hn':=of_decide_eq_true hn
 simp only[inR] at hn'
 have hi:n.toNat<p.trials.length:=by omega
 unfold rBroke
 rw[hn,(kE_ok hk).2.2.1]
 refine ⟨sortedP_len _ _ _,fun h0=>?_,fun h0=>?_⟩
 ·rw[sortedL_mem]
  have:=broke_bd2 hp (endF t.ends) hi
  exact ⟨h0,by omega,List.mem_map.2 ⟨t,h,rfl⟩⟩
 ·have h1:=broke_bd2 hp (endF t.ends) hi
  refine List.eq_nil_iff_forall_not_mem.2 fun x hx=>?_
  rw[sortedL_mem] at hx
  obtain ⟨h2,_,h3⟩:=hx
  obtain ⟨u,_,rfl⟩:=List.mem_map.1 h3
  have h4:=broke_bd2 hp (endF u.ends) hi
  omega
end Go.Pf

/- The law of each truth (ProofsTrue). -/
namespace Go.Pf
open Go Go.Ev Go.Proofs Go.RowKit
set_option maxRecDepth 8000
instance (k:Int) (b:Bool):Decidable (agreesP k b):=by unfold agreesP;infer_instance
section
variable {K:World→Prop} (hK:∀ w w',K w→Below w.heap.size w w'→K w')
include hK
end
end Go.Pf

/- Copies of a proof, of which the caller owns a row or two. -/
namespace Go.Pf
open Go Go.Ev Go.Proofs Go.RowKit
set_option maxRecDepth 8000
def c61D:AFn:=⟨16,[.cell 2 3 true],.seq (.ops c61_r0 false) (.seq (.ops c61_r1 false) (.seq (.ops c61_r2 true) (.seq (.ops c61_r3 false) (.fz [2] [2,5] .ret))))⟩
def c61S:AFn:=⟨16,[.cell 2 3 true],.seq (.ops c61_r0 false) (.seq (.ops c61_r1 false) (.seq (.ops c61_r2 true) (.seq (.ops c61_r3 false) (.fz [2] [2,9] .ret))))⟩
def c62B:AFn:=⟨16,[.cell 2 6 true],.seq (.ops c62_r0 false) (.seq (.ops c62_r1 false) (.seq (.ops c62_r2 true) (.seq (.ops c62_r3 false) (.fz [2] [2,9] .ret))))⟩
theorem c61D_ok:FnOk Tryz.prog 61 c61D:=⟨_,Tryz.func61,by kernel_rfl⟩
def c16D_r1:List AOper:=[⟨some 3,none,.fld 0 (.t 1)⟩,
 ⟨some 4,none,.ldi 3 true (.t 3)⟩,
 ⟨some 5,none,.callo 61 [.t 4] [] 5⟩,
 ⟨some 6,none,.fld 3 (.t 1)⟩,
 ⟨some 7,none,.ldi 6 true (.t 6)⟩,
 ⟨some 8,none,.call 62 [.t 7] []⟩,
 ⟨some 9,none,.bso 9 58 3 []⟩,
 ⟨some 10,none,.fld 9 (.t 1)⟩,
 ⟨some 11,none,.ldi 1 false (.t 10)⟩,
 ⟨some 12,none,.app 9 58 3 24 (.t 9) (.t 11)⟩,
 ⟨some 13,none,.fld 10 (.t 1)⟩,
 ⟨some 14,none,.ldi 1 false (.t 13)⟩,
 ⟨some 15,none,.fld 11 (.t 1)⟩,
 ⟨some 16,none,.ldi 1 false (.t 15)⟩,
 ⟨some 17,none,.bld [.nil 5,.nil 5,.int .i64 0,.nil 3,.int .i64 0,.int .i64 0,.int .i64 0,.nil 4,.int .i64 0,.nil 3,.int .i64 0,.int .i64 0] [(0,3,.t 5),(3,6,.t 8),(9,1,.t 12),(10,1,.t 14),(11,1,.t 16)]⟩,
 ⟨none,none,.sto 2 12 (.t 2) (.t 17)⟩]
def c16B_r1:List AOper:=[⟨some 3,none,.fld 0 (.t 1)⟩,
 ⟨some 4,none,.ldi 3 true (.t 3)⟩,
 ⟨some 5,none,.call 61 [.t 4] []⟩,
 ⟨some 6,none,.fld 3 (.t 1)⟩,
 ⟨some 7,none,.ldi 6 true (.t 6)⟩,
 ⟨some 8,none,.callo 62 [.t 7] [] 8⟩,
 ⟨some 9,none,.bso 9 58 3 []⟩,
 ⟨some 10,none,.fld 9 (.t 1)⟩,
 ⟨some 11,none,.ldi 1 false (.t 10)⟩,
 ⟨some 12,none,.app 9 58 3 24 (.t 9) (.t 11)⟩,
 ⟨some 13,none,.fld 10 (.t 1)⟩,
 ⟨some 14,none,.ldi 1 false (.t 13)⟩,
 ⟨some 15,none,.fld 11 (.t 1)⟩,
 ⟨some 16,none,.ldi 1 false (.t 15)⟩,
 ⟨some 17,none,.bld [.nil 5,.nil 5,.int .i64 0,.nil 3,.int .i64 0,.int .i64 0,.int .i64 0,.nil 4,.int .i64 0,.nil 3,.int .i64 0,.int .i64 0] [(0,3,.t 5),(3,6,.t 8),(9,1,.t 12),(10,1,.t 14),(11,1,.t 16)]⟩,
 ⟨none,none,.sto 2 12 (.t 2) (.t 17)⟩]
def c16D:AFn:=⟨18,[.cell 2 12 true],.seq (.ops c16_r0 false) (.seq (.ops c16D_r1 true) (.fz [2] [2,5] .ret))⟩
def c16B:AFn:=⟨18,[.cell 2 12 true],.seq (.ops c16_r0 false) (.seq (.ops c16B_r1 true) (.fz [2] [2,8] .ret))⟩
def c16T:AFn:=⟨18,[.cell 2 12 true],.seq (.ops c16_r0 false) (.seq (.ops c16D_r1 true) (.fz [2] [2,5,9] .ret))⟩
theorem c16D_ok:FnOk Tryz.prog 16 c16D:=⟨_,Tryz.func16,by kernel_rfl⟩
@[simp] theorem subL_comp {α:Type} (lod:Nat→Option AO) (ids:List Nat) (f:α→List IV) (l:List α):List.map (subL lod ids∘List.map AV.iv∘f) l=List.map (List.map AV.iv∘f) l :=
 List.map_congr_left fun a _=>subL_iv lod ids (f a)
section
variable {K:World→Prop} (hK:∀ w w',K w→Below w.heap.size w w'→K w')
include hK
theorem goodo61D (c:Chain) (hl:c.deeds.length≤1000) (hs:c.sights.length≤1000):GoodO Tryz.prog K 61 [chV c] (.agg [.aref 0 c.deeds.length,.iv (sightsV c.sights),.iv (.int .i64 c.wrong)]) 56 5 (c.deeds.map dC) 0:=by
 refine goodo_of_wp (.cell 2 3 true) 5 hK c61D_ok (by simp[c61D]) rfl ?_
 simp[c61D,rowO]
 omega
@[simp] def prA (p:Proof) (ds ss bs ts:AV):List AV:=[ds,ss,.iv (.int .i64 p.chain.wrong),.iv (leversV p.machine.levers),.iv (.int .i64 p.machine.water),.iv (.int .i64 p.machine.llo),.iv (.int .i64 p.machine.lhi),bs,.iv (.int .i64 p.machine.wrong),ts,.iv (.int .i64 p.need),.iv (.int .i64 p.rule)]
theorem goodo16D (p:Proof) (hs:Small p):GoodO Tryz.prog K 16 [prV p] (.agg (prA p (.aref 0 p.chain.deeds.length) (.iv (sightsV p.chain.sights)) (.iv (balsV p.machine.bals)) (.iv (trialsV p.trials)))) 56 5 (p.chain.deeds.map dC) 0:=by
 obtain ⟨h1,h2,h3,h4,h5⟩:=hs
 refine goodo_of_wp (.cell 2 12 true) 5 hK c16D_ok (by simp[c16D]) rfl ?_
 simp[c16D,c16D_r1]
 refine callO_of (goodo61D hK p.chain h1 h2) (by simp) ?_
 simp
 refine callK_of (good62 hK p.machine h3 h4) (.inl rfl) ?_
 simp[rowO]
 omega
end
end Go.Pf

/- A proof with one more trial, at the end, at which nothing broke. -/
namespace Go.Pf
open Go Go.Ev Go.Proofs Go.RowKit
set_option maxRecDepth 8000
def prv:Deed:=⟨4,0,0,0,0⟩
def addD (D:List Deed):List Deed:=D++[prv]
theorem endF_app (e:List Int) (x:Int) (i:Nat) (h:i<e.length):endF (e++[x]) i=endF e i:=by
 unfold endF
 rw[List.getD_eq_getElem?_getD,List.getD_eq_getElem?_getD,List.getElem?_append_left h]
def addC (c:Chain):Chain:=⟨addD c.deeds,c.sights,c.wrong⟩
def addT (p:Proof) (w:Int):Proof:=⟨addC p.chain,p.machine,p.trials++[⟨w,0,-1⟩],p.need,p.rule⟩
def addE (t:Truth):Truth:=⟨t.ends++[0],t.set⟩
end Go.Pf

/- The law of one more trial (ProofsLater). -/
namespace Go.Pf
open Go Go.Ev Go.Proofs Go.RowKit
set_option maxRecDepth 8000
@[simp] theorem emb_app5 (L:List (List IV)) (a b c d e:IV):emb L++[[.iv a,.iv b,.iv c,.iv d,.iv e]]=emb (L++[[a,b,c,d,e]]):=by simp[emb]
theorem kL_ok2 {p:Proof} (hp:OkP p):kL p true=knownL p:=by unfold kL;exact if_pos ⟨hp,rfl⟩
section
variable {K:World→Prop} (hK:∀ w w',K w→Below w.heap.size w w'→K w')
include hK
end
end Go.Pf

/- The law of whatever is replaced (ProofsReplaced). -/
namespace Go.Pf
open Go Go.Ev Go.Proofs Go.RowKit
set_option maxRecDepth 8000
def chD (x fin:Int) (d:Deed):Deed :=
 if d.what=1 then ⟨d.what,d.pos,fin,(d.bar+x).tmod 100,(d.smith+x).tmod 100⟩ else if d.what=2 then ⟨d.what,d.pos,fin,d.bar,d.smith⟩ else d
def chL (x fin:Int) (D:List Deed) (i:Nat):List (List IV):=((D.take i).map (chD x fin)++D.drop i).map dC
def mvN (n:Nat):Nat→Nat
 | 0=>0
 | _+1=>n
def chP (p:Proof) (x fin:Int):Proof:=⟨⟨p.chain.deeds.map (chD x fin),[],p.chain.wrong⟩,p.machine,p.trials,p.need,p.rule⟩
theorem span_in:∀ l:List Int,l≠[]→(span l).1∈l∧(span l).2∈l
 | [],h=>absurd rfl h
 | a::r,_=>by
   have key:∀ (r:List Int) (x u:Int),(r.foldl min x=x∨r.foldl min x∈r)∧(r.foldl max u=u∨r.foldl max u∈r):=by
    intro r
    induction r with
    | nil=>intro x u;exact ⟨.inl rfl,.inl rfl⟩
    | cons b r ih =>
      intro x u
      obtain ⟨h1,h2⟩:=ih (min x b) (max u b)
      simp only[List.foldl_cons,List.mem_cons]
      refine ⟨?_,?_⟩
      ·rcases h1 with h1 | h1
       ·rw[h1];omega
       ·exact .inr (.inr h1)
      ·rcases h2 with h2 | h2
       ·rw[h2];omega
       ·exact .inr (.inr h2)
   obtain ⟨h1,h2⟩:=key r a a
   simp only[span,List.mem_cons]
   exact ⟨h1,h2⟩
section
variable {K:World→Prop} (hK:∀ w w',K w→Below w.heap.size w w'→K w')
include hK
end
end Go.Pf

/- The law of what is more known (ProofsMore). -/
namespace Go.Pf
open Go Go.Ev Go.Proofs Go.RowKit
set_option maxRecDepth 8000
structure Inner (a p:Proof):Prop where
 sub:(knownL a).Sublist (knownL p)
 fail:∀ t,failN a t=failN p t
 proved:∀ l t,provedB a l t=provedB p l t
 good:∀ t,goodB a t=goodB p t
 rule:a.rule=p.rule
 link:∀ l,linkB a l=linkB p l
def moreS (p:Proof) (s:Sight):Proof:=⟨⟨p.chain.deeds,p.chain.sights++[s],p.chain.wrong⟩,p.machine,p.trials,p.need,p.rule⟩
def moreB (p:Proof) (b:Balance):Proof:=⟨p.chain,⟨p.machine.levers,p.machine.water,p.machine.llo,p.machine.lhi,p.machine.bals++[b],p.machine.wrong⟩,p.trials,p.need,p.rule⟩
theorem told_sub {α:Type} (f:α→Bool) {l l':List α} (h:∀ t∈l,t∈l') (hne:l≠[]) (h3:toldN (l'.countP f) l'.length≠3):toldN (l.countP f) l.length=toldN (l'.countP f) l'.length:=by
 have hl:l.length≠0:=fun e=>hne (List.eq_nil_of_length_eq_zero e)
 obtain ⟨t,ht⟩:=List.exists_mem_of_ne_nil _ hne
 have hl':l'.length≠0:=fun e=>by have:=h t ht;rw[List.eq_nil_of_length_eq_zero e] at this;cases this
 by_cases h1:toldN (l'.countP f) l'.length=1
 ·rw[h1,toldN_sure,List.countP_eq_length]
  rw[toldN_sure,List.countP_eq_length] at h1
  exact fun x hx=>h1 x (h x hx)
 ·have h2:toldN (l'.countP f) l'.length=2:=by
   unfold toldN at *
   split
   ·rename_i e;rw[if_pos e] at h1;exact absurd rfl h1
   ·rename_i e
    rw[if_neg e] at h3
    split
    ·rfl
    ·rename_i e2;rw[if_neg e2] at h3;exact absurd rfl h3
  rw[h2,toldN_never hl,List.countP_eq_zero]
  rw[toldN_never hl',List.countP_eq_zero] at h2
  exact fun x hx=>h2 x (h x hx)
theorem Inner.kE {a p:Proof} (h:Inner a p) (hp:OkP p) (hk:kE a true=0):kE p true=0:=by
 have hne:=(kE_ok hk).2.2.2
 obtain ⟨t,ht⟩:=List.exists_mem_of_ne_nil _ hne
 exact kE_of hp (h.sub.subset ht)
theorem Inner.len {a p:Proof} (h:Inner a p) (ha:OkP a) (hp:OkP p):(kL a true).length≤(kL p true).length:=by
 rw[kL_ok2 ha,kL_ok2 hp];exact h.sub.length_le
theorem Inner.rFail {a p:Proof} (h:Inner a p) (hp:OkP p) (hk:Go.Pf.kE a true=0):(rFail p).1≤(rFail a).1∧(rFail a).2≤(rFail p).2:=by
 have hne:=(kE_ok hk).2.2.2
 unfold Go.Pf.rFail
 rw[kL_ok2 (kE_ok hk).1,kL_ok2 hp]
 have e:(fun t=>(failN a t:Int))=fun t=>(failN p t:Int):=funext fun t=>by rw[h.fail t]
 rw[e]
 have h1:=span_in ((knownL a).map fun t=>(failN p t:Int)) (fun e=>hne (List.map_eq_nil_iff.1 e))
 obtain ⟨t1,ht1,e1⟩:=List.mem_map.1 h1.1
 obtain ⟨t2,ht2,e2⟩:=List.mem_map.1 h1.2
 rw[← e1,← e2]
 exact ⟨(span_mem (fun t=>(failN p t:Int)) _ t1 (h.sub.subset ht1)).1,(span_mem (fun t=>(failN p t:Int)) _ t2 (h.sub.subset ht2)).2⟩
theorem Inner.rCond {a p:Proof} (h:Inner a p) (hp:OkP p) (hk:Go.Pf.kE a true=0) (h3:rCond p≠3):rCond a=rCond p:=by
 have hkp:=h.kE hp hk
 unfold Go.Pf.rCond at *
 rw[if_pos hkp] at h3 ⊢
 rw[if_pos hk,kL_ok2 (kE_ok hk).1]
 rw[kL_ok2 hp] at h3 ⊢
 have e:(fun t=>decide (a.rule≤(failN a t:Int)))=fun t=>decide (p.rule≤(failN p t:Int)):=funext fun t=>by rw[h.fail t,h.rule]
 rw[e]
 exact told_sub _ (fun t ht=>h.sub.subset ht) (kE_ok hk).2.2.2 h3
theorem Inner.rGood {a p:Proof} (h:Inner a p) (hp:OkP p) (hk:Go.Pf.kE a true=0) (h3:rGood p≠3):rGood a=rGood p:=by
 have hkp:=h.kE hp hk
 unfold Go.Pf.rGood at *
 rw[if_pos hkp] at h3 ⊢
 rw[if_pos hk,kL_ok2 (kE_ok hk).1]
 rw[kL_ok2 hp] at h3 ⊢
 have e:goodB a=goodB p:=funext fun t=>h.good t
 rw[e]
 exact told_sub _ (fun t ht=>h.sub.subset ht) (kE_ok hk).2.2.2 h3
theorem Inner.rProved {a p:Proof} (h:Inner a p) (hp:OkP p) (hk:Go.Pf.kE a true=0) {link:Int} (hl:linkB p link=true) (h3:rProved p link≠3):rProved a link=rProved p link:=by
 have hkp:=h.kE hp hk
 unfold Go.Pf.rProved at *
 rw[h.link link]
 rw[hl] at h3 ⊢
 rw[if_pos hkp] at h3 ⊢
 rw[if_pos hk,kL_ok2 (kE_ok hk).1]
 rw[kL_ok2 hp] at h3 ⊢
 have e:provedB a link=provedB p link:=funext fun t=>h.proved link t
 rw[e]
 exact told_sub _ (fun t ht=>h.sub.subset ht) (kE_ok hk).2.2.2 h3
end Go.Pf

/- The law of what is more known (ProofsMore), the walk. -/
namespace Go.Pf
open Go Go.Ev Go.Proofs Go.RowKit
set_option maxRecDepth 8000
section
variable {K:World→Prop} (hK:∀ w w',K w→Below w.heap.size w w'→K w')
include hK
end
end Go.Pf

/- All places of a link (links.Where), and the program's truths of a chain as lists of ends. -/
namespace Go.Pf
open Go Go.Ev Go.Proofs Go.RowKit
set_option maxRecDepth 8000
theorem cab_congr2 (D:List Deed) (e e':Nat→Int) (h:∀ i,i<D.length→e' i=e i):∀ k,cab D e' k=cab D e k
 | 0=>rfl
 | k+1=>by
   by_cases hk:k<D.length
   ·rw[cab_succ D e' k hk,cab_succ D e k hk,h k hk,cab_congr2 D e e' h k]
   ·simp only[cab,List.getElem?_eq_none (by omega:D.length≤k)]
    exact cab_congr2 D e e' h k
theorem wrongsE_congr (D:List Deed) (ss:List Sight) (e e':Nat→Int) (h:∀ i,i<D.length→e' i=e i):wrongsE D ss e'=wrongsE D ss e:=by
 unfold wrongsE
 refine List.countP_congr fun s _=>?_
 unfold rightE
 rw[cab_congr2 D e e' h]
def endsB (D:List Deed) (n:Nat):List Int:=(List.range D.length).map (eBit D n)
theorem endsB_endF (D:List Deed) (n i:Nat) (h:i<D.length):endF (endsB D n) i=eBit D n i:=by
 unfold endF endsB
 rw[List.getD_eq_getElem?_getD,List.getElem?_map,List.getElem?_range h]
 rfl
theorem rightN_ends {c:Chain} (hc:OkC c) {n:Nat} (h:n∈rightN c):endsB c.deeds n∈endsL c [] c.deeds:=by
 unfold rightN at h
 have h2:=of_decide_eq_true (List.mem_filter.1 h).2
 refine endsL_mem hc ⟨⟨by simp[endsB],fun i hi hi'=>?_⟩,?_⟩
 ·have hg:(endsB c.deeds n)[i]=eBit c.deeds n i:=by simp[endsB]
  rw[hg,eBit_get c.deeds n i hi]
  have hf:=frm_in (hc.deeds i hi hi)
  simp only[inR] at hf
  by_cases h2:c.deeds[i].frm=2
  ·rw[if_pos h2]
   refine ⟨?_,fun h=>by omega⟩
   cases n.testBit ((eiths c.deeds).idxOf i)<;>simp[inR]
  ·rw[if_neg h2]
   exact ⟨by simp only[inR];omega,fun _=>rfl⟩
 ·rw[wrongsE_congr c.deeds c.sights (eBit c.deeds n) (endF (endsB c.deeds n)) (fun i hi=>endsB_endF _ _ _ hi)]
  exact h2
theorem bits_ex (f:Nat→Bool):∀ k:Nat,∃ n,n<2 ^ k∧∀ j,j<k→n.testBit j=f j
 | 0=>⟨0,by simp,fun j h=>by omega⟩
 | k+1=>by
   obtain ⟨n,h1,h2⟩:=bits_ex f k
   cases hf:f k
   ·refine ⟨n,by rw[Nat.pow_succ];omega,fun j hj=>?_⟩
    by_cases hjk:j=k
    ·subst hjk
     rw[hf]
     exact Nat.testBit_lt_two_pow h1
    ·exact h2 j (by omega)
   ·refine ⟨n ||| 2 ^ k,Nat.or_lt_two_pow (by rw[Nat.pow_succ];omega) (by rw[Nat.pow_succ];have:=Nat.two_pow_pos k;omega),fun j hj=>?_⟩
    rw[Nat.testBit_or,Nat.testBit_two_pow]
    by_cases hjk:j=k
    ·subst hjk;simp[hf]
    ·rw[h2 j (by omega)]
     simp[Ne.symm hjk]
theorem ends_rightN {c:Chain} (hok:OkC c) {e:List Int} (h:e∈endsL c [] c.deeds):∃ n∈rightN c,∀ i,i<c.deeds.length→eBit c.deeds n i=endF e i:=by
 obtain ⟨⟨hl,hch⟩,hw⟩:=endsL_truth h
 obtain ⟨n,h1,h2⟩:=bits_ex (fun j=>decide (endF e ((eiths c.deeds).getD j 0)=1)) (eiths c.deeds).length
 have heq:∀ i,i<c.deeds.length→eBit c.deeds n i=endF e i:=fun i hi=>by
  have hei:endF e i=e[i]'(by omega):=by
   unfold endF
   rw[List.getD_eq_getElem?_getD,List.getElem?_eq_getElem (by omega),Option.getD_some]
  have hc:=hch i hi (by omega)
  rw[eBit_get c.deeds n i hi]
  by_cases hf:c.deeds[i].frm=2
  ·rw[if_pos hf]
   have hm:=eiths_mem c.deeds i hi hf
   have hix:=List.idxOf_lt_length_of_mem hm
   rw[h2 _ hix,List.getD_eq_getElem?_getD,List.getElem?_eq_getElem hix,Option.getD_some,List.getElem_idxOf hix,hei]
   have:=hc.1
   simp only[inR] at this
   by_cases h1:e[i]'(by omega)=1
   ·simp[h1]
   ·have h0:e[i]'(by omega)=0:=by omega
    simp[h0]
  ·rw[if_neg hf,hei]
   have hfr:=frm_in (hok.deeds i hi hi)
   simp only[inR] at hfr
   exact (hc.2 (by omega)).symm
 refine ⟨n,?_,heq⟩
 unfold rightN
 refine List.mem_filter.2 ⟨List.mem_range.2 (by rw[← eiths_twos];exact h1),decide_eq_true ?_⟩
 rw[wrongsE_congr c.deeds c.sights (endF e) (eBit c.deeds n) heq]
 exact hw
def placeI (l:List Nat) (link:Int):Int:=fi (fun k:Nat=>decide ((k:Int)=link)) l
def whereN (c:Chain) (link:Int) (n:Nat):Int:=placeI (cab c.deeds (eBit c.deeds n) c.deeds.length) link
def isLinkB (c:Chain) (link:Int):Bool:=decide (inR link 0 ((allN c.deeds:Int)-1))
section
variable {K:World→Prop} (hK:∀ w w',K w→Below w.heap.size w w'→K w')
include hK
theorem good162 (left all link:Int) (h:0≤all∧all≤1000000):Ev.Good Tryz.prog K 162 [.int .i64 left,.int .i64 all,.ptr [.int .i64 link]] (.bool (decide (inR link 0 (all-1)))):=by
 refine good_of_wp hK c162_ok (by simp) ?_
 simp
 repeat' first | omega | intro _ | apply And.intro
 refine callK_of (good130 hK _ _ _) (.inl rfl) ?_
 simp
theorem good117 (link:Int):Ev.Good Tryz.prog K 117 [.int .i64 link] (.clo 162 [] [.ptr [.int .i64 link]]):=by
 refine good_of_wp hK c117_ok (by simp) ?_
 simp
theorem good119 (l:List Nat) (link:Int) (hl:l.length≤1000000):Ev.Good Tryz.prog K 119 [natsI l,.int .i64 link] (.int .i64 (placeI l link)):=by
 refine good_of_wp hK c119_ok (by simp) ?_
 simp
 intro _
 refine loop_q (fun i=>[(0,AV.iv (natsI l)),(1,AV.iv (.int .i64 link)),(7,AV.iv (.int .i64 l.length)),(8,AV.iv (.int .i64 (i:Nat)))]) (fun _=>[]) l.length (fun i=>∀ k,(h:k<l.length)→k<i→¬ ((l[k]:Nat):Int)=link) (by intro k _ h;omega) ?_ ?_
 ·intro h
  rw[LoopAt_enter c119_b0.eq_1]
  have:placeI l link = -1:=by
   unfold placeI fi
   rw[if_neg]
   intro ha
   obtain ⟨x,hx,hd⟩:=List.any_eq_true.1 ha
   obtain ⟨k,hk,rfl⟩:=List.getElem_of_mem hx
   exact h k hk hk (of_decide_eq_true hd)
  simp[this]
 ·intro i hi h ih
  rw[LoopAt_enter c119_b0.eq_1]
  by_cases he:((l[i]:Nat):Int)=link
  ·have:placeI l link=i:=by
    unfold placeI fi
    rw[if_pos (List.any_eq_true.2 ⟨l[i],List.getElem_mem hi,decide_eq_true he⟩)]
    have:l.findIdx (fun k:Nat=>decide ((k:Int)=link))=i:=by
     rw[List.findIdx_eq hi]
     exact ⟨decide_eq_true he,fun j hj=>decide_eq_false (h j (by omega) hj)⟩
    rw[this]
   simp[hi,he,this]
  ·have he':¬ link=((l[i]:Nat):Int):=fun e=>he e.symm
   have hn:∀ k,(h:k<l.length)→k<i+1→¬ ((l[k]:Nat):Int)=link:=fun k hk hki=>by
    rcases Nat.lt_succ_iff_lt_or_eq.1 hki with h1 | rfl
    ·exact h k hk h1
    ·exact he
   have ih:=ih hn
   simp[hi,he'] at ih ⊢
   repeat' first | omega | exact ih | intro _ | apply And.intro
theorem good118 (D:List Deed) (e:Nat→Int) (pm:IV) (link:Int) (hl:D.length≤1000) (hc:(cab D e D.length).length≤1000):Ev.Good Tryz.prog K 118 [.agg (storyC D e pm),.ptr [.int .i64 link]] (.int .i64 (placeI (cab D e D.length) link)):=by
 refine good_of_wp hK c118_ok (by simp) ?_
 have g120:=good120 hK D e pm hl
 have g119:=good119 hK (cab D e D.length) link (by omega)
 simp
 refine callK_of (by simpa using g120) (.inl rfl) ?_
 simp
 refine callK_of (by simpa using g119) (.inl rfl) ?_
 simp
theorem good57 (c:Chain) (link:Int) (hl:c.deeds.length≤1000) (hs:c.sights.length≤1000) :
  Ev.Good Tryz.prog K 57 [chV c,.int .i64 link] (.tup [ints (if askE c (isLinkB c link)=0 then sortD ((rightN c).map (whereN c link)) else []),.int .i64 (askE c (isLinkB c link))]):=by
 refine good_of_wp hK c57_ok (by simp) ?_
 have hcl:∀ n,OkC c→(cab c.deeds (eBit c.deeds n) c.deeds.length).length≤12:=fun n h=>by
  have h1:=cab_len (eBit c.deeds n) h.deeds c.deeds.length (Nat.le_refl _) (Nat.le_refl _)
  have h2:=OkD.cnt h.deeds c.deeds.length (Nat.le_refl _) (Nat.le_refl _)
  have h3:=h.len
  omega
 have hal:allN c.deeds≤1000:=Nat.le_trans (List.length_filter_le _ _) hl
 have hg:=good116 hK c hl hs 162 [.ptr [.int .i64 link]] (isLinkB c link) (fun _=>good162 hK _ _ link (by omega)) (by kernel_rfl)
  118 [.ptr [.int .i64 link]] (whereN c link) (fun h _ n _=>good118 hK c.deeds (eBit c.deeds n) (pmC c n) link hl (by have:=hcl n h;omega)) (by kernel_rfl) (fun h _ n _=>by
   have h1:=hcl n h
   unfold whereN placeI fi
   split
   ·have:=List.findIdx_le_length (p:=fun k:Nat=>decide ((k:Int)=link)) (xs:=cab c.deeds (eBit c.deeds n) c.deeds.length)
    omega
   ·omega)
 simp
 refine callK_of (by simpa using good117 hK link) (.inl rfl) ?_
 simp
 refine callK_of (by simpa using hg) (.inl rfl) ?_
 simp
end
end Go.Pf

/- A proof with one more deed that cuts out a link. -/
namespace Go.Pf
open Go Go.Ev Go.Proofs Go.RowKit
set_option maxRecDepth 8000
section
variable {q:Int}
def cutD (q:Int):Deed:=⟨2,q,0,0,0⟩
def cutL (q:Int) (D:List Deed):List Deed:=D++[cutD q]
theorem cutL_len (q:Int) (D:List Deed):(cutL q D).length=D.length+1:=by simp[cutL]
theorem cutL_take (q:Int) (D:List Deed) {k:Nat} (h:k≤D.length):(cutL q D).take k=D.take k:=by
 unfold cutL;rw[List.take_append_of_le_length h]
theorem cutL_get (q:Int) (D:List Deed) {k:Nat} (h:k<D.length):(cutL q D)[k]'(by rw[cutL_len];omega)=D[k]:=by
 unfold cutL;rw[List.getElem_append_left h]
theorem cutL_last (q:Int) (D:List Deed):(cutL q D)[D.length]'(by rw[cutL_len];omega)=cutD q:=by
 unfold cutL;simp
theorem cutL_cnt (q:Int) (D:List Deed) {k:Nat} (h:k≤D.length):cnt (cutL q D) k=cnt D k:=by
 rw[← cnt_take (cutL q D) k D.length h,cutL_take q D (Nat.le_refl _),List.take_length]
theorem cutL_welds (q:Int) (D:List Deed):welds (cutL q D)=welds D:=by
 unfold welds cutL
 rw[idxs_append]
 simp[idxs,isWeld,cutD]
theorem cutL_pv (q:Int) (D:List Deed):pv (cutL q D)=pv D:=by
 unfold pv cutL
 rw[idxs_append]
 simp[idxs,isProve,cutD]
theorem cutL_wn (q:Int) (D:List Deed) {k:Nat} (h:k≤D.length):wn (cutL q D) k=wn D k:=by unfold wn;rw[cutL_take q D h]
theorem cutL_cab (q:Int) (D:List Deed) (e e':Nat→Int) (h:∀ i,i<D.length→e' i=e i):∀ k,k≤D.length→cab (cutL q D) e' k=cab D e k
 | 0,_=>rfl
 | k+1,hk=>by
   rw[cab_succ (cutL q D) e' k (by rw[cutL_len];omega),cab_succ D e k (by omega),cutL_get q D (by omega),cutL_wn q D (by omega),h k (by omega),cutL_cab q D e e' h k (by omega)]
theorem cutL_cab_last (q:Int) (D:List Deed) (e:Nat→Int) (he:e D.length=0):cab (cutL q D) e (D.length+1)=(cab (cutL q D) e D.length).eraseIdx q.toNat:=by
 rw[cab_succ (cutL q D) e D.length (by rw[cutL_len];omega),cutL_last]
 simp[stepC,cutD,he,plc,List.eraseIdx_eq_take_drop_succ]
theorem cutL_markD (q:Int) (D:List Deed) (h:D≠[]) (k:Nat):markD (cutL q D) k=markD D k:=by
 unfold markD
 rw[cutL_welds]
 have hlt:(welds D).getD k 0<D.length:=by
  by_cases hk:k<(welds D).length
  ·rw[List.getD_eq_getElem?_getD,List.getElem?_eq_getElem hk,Option.getD_some]
   exact welds_lt (List.getElem_mem hk)
  ·rw[List.getD_eq_getElem?_getD,List.getElem?_eq_none (by omega),Option.getD_none]
   exact List.length_pos_iff.2 h
 generalize (welds D).getD k 0=j at *
 unfold cutL
 rw[List.getD_eq_getElem?_getD,List.getD_eq_getElem?_getD,List.getElem?_append_left hlt]
theorem cutL_okD {D:List Deed} (h:OkD D D.length) (hq:inR q 0 (cnt D D.length-1)):OkD (cutL q D) (cutL q D).length:=by
 intro i hi _
 rw[cutL_len] at hi
 by_cases hl:i<D.length
 ·rw[cutL_get q D hl,cutL_cnt q D (by omega)]
  exact h i hl hl
 ·have:i=D.length:=by omega
  subst this
  rw[cutL_last,cutL_cnt q D (Nat.le_refl _)]
  exact .inr (.inl ⟨rfl,by simp[inR,cutD],hq,rfl,rfl⟩)
theorem cutL_twos (q:Int) (D:List Deed):twos (cutL q D)=twos D:=by
 unfold twos cutL
 rw[List.countP_append]
 simp[cutD]
def cutC (q:Int) (c:Chain):Chain:=⟨cutL q c.deeds,c.sights,c.wrong⟩
theorem cutC_ok {c:Chain} (h:OkC c) (hl:c.deeds.length<12) (hq:inR q 0 (cnt c.deeds c.deeds.length-1)):OkC (cutC q c):=by
 refine ⟨by show (cutL q c.deeds).length≤12;rw[cutL_len];omega,h.slen,h.wrong,cutL_okD h.deeds hq,fun s hs=>?_⟩
 have:=h.sights s hs
 obtain ⟨h1,h2,h3,h4⟩:=this
 simp only[inR] at h1
 refine ⟨?_,h2,?_,h4⟩
 ·show inR s.after 0 (cutL q c.deeds).length
  rw[cutL_len];simp only[inR];omega
 ·show inR s.pos 0 (cnt (cutL q c.deeds) s.after.toNat-1)
  rw[cutL_cnt _ _ (by omega)]
  exact h3
theorem cutC_wrongs {c:Chain} (h:OkC c) {e:List Int} (he:e.length=c.deeds.length):wrongsE (cutL q c.deeds) c.sights (endF (e++[0]))=wrongsE c.deeds c.sights (endF e):=by
 unfold wrongsE
 by_cases hD:c.deeds=[]
 ·have:c.sights=[]:=by
   refine List.eq_nil_iff_forall_not_mem.2 fun s hs=>?_
   have:=(h.sights s hs).2.2.1
   rw[hD] at this
   simp[inR,cnt] at this
   omega
  rw[this]
  rfl
 ·refine List.countP_congr fun s hs=>?_
  have h1:=(h.sights s hs).1
  simp only[inR] at h1
  have hr:rightE (cutL q c.deeds) (endF (e++[0])) s=rightE c.deeds (endF e) s:=by
   unfold rightE rightC
   rw[cutL_cab q c.deeds (endF e) (endF (e++[0])) (fun i hi=>endF_app e 0 i (by omega)) _ (by omega),cutL_markD _ _ hD]
  rw[hr]
theorem cutL_isCh (q:Int) (D:List Deed) (e:List Int):isCh (cutL q D) (e++[0])↔isCh D e:=by
 unfold isCh
 constructor
 ·rintro ⟨h1,h2⟩
  have hl:e.length=D.length:=by rw[cutL_len] at h1;simpa using h1
  refine ⟨hl,fun i hi hi'=>?_⟩
  have:=h2 i (by rw[cutL_len];omega) (by simp;omega)
  rw[cutL_get q D hi,List.getElem_append_left hi'] at this
  exact this
 ·rintro ⟨h1,h2⟩
  refine ⟨by rw[cutL_len];simp[h1],fun i hi hi'=>?_⟩
  rw[cutL_len] at hi
  by_cases hl:i<D.length
  ·rw[cutL_get q D hl,List.getElem_append_left (by omega)]
   exact h2 i hl (by omega)
  ·have:i=D.length:=by omega
   subst this
   rw[cutL_last]
   have:(e++[0])[D.length]'hi'=0:=by simp[← h1]
   rw[this]
   exact ⟨by simp[inR],fun _=>rfl⟩
theorem cutC_isTr {c:Chain} (h:OkC c) (e:List Int):isTr (cutC q c) (e++[0])↔isTr c e:=by
 unfold isTr
 have e1:(cutC q c).deeds=cutL q c.deeds:=rfl
 have e2:(cutC q c).sights=c.sights:=rfl
 have e3:(cutC q c).wrong=c.wrong:=rfl
 rw[e1,e2,e3,cutL_isCh]
 constructor
 ·rintro ⟨h1,h2⟩
  rw[cutC_wrongs h h1.1] at h2
  exact ⟨h1,h2⟩
 ·rintro ⟨h1,h2⟩
  refine ⟨h1,?_⟩
  rw[cutC_wrongs h h1.1]
  exact h2
theorem choices_cut (q:Int):∀ D:List Deed,choices (cutL q D)=(choices D).map (·++[0])
 | []=>by simp[cutL,choices,endsD,cutD]
 | d::D=>by
   have ih:=choices_cut q D
   have e:cutL q (d::D)=d::cutL q D:=rfl
   rw[e]
   simp only[choices,ih,List.map_flatMap,List.map_map]
   rfl
theorem endsL_cut {c:Chain} (h:OkC c):endsL (cutC q c) [] (cutC q c).deeds=(endsL c [] c.deeds).map (·++[0]):=by
 have e1:(cutC q c).deeds=cutL q c.deeds:=rfl
 unfold endsL
 rw[e1,choices_cut]
 simp only[List.nil_append,List.map_id',List.filter_map]
 congr 1
 refine List.filter_congr fun e _=>?_
 simp only[Function.comp_apply]
 exact decide_eq_decide.2 (cutC_isTr h e)
def cutT (p:Proof) (q:Int):Proof:=⟨cutC q p.chain,p.machine,p.trials,p.need,p.rule⟩
theorem knownL_cut {p:Proof} (hp:OkP p):knownL (cutT p q)=(knownL p).map addE:=by
 have e1:(cutT p q).chain=cutC q p.chain:=rfl
 have e2:(cutT p q).machine=p.machine:=rfl
 unfold knownL
 rw[e1,e2,endsL_cut hp.chain]
 simp only[List.flatMap_map,List.map_flatMap,List.map_map]
 rfl
theorem cutT_ok {p:Proof} (hp:OkP p) (hl:p.chain.deeds.length<12) (hq:inR q 0 (cnt p.chain.deeds p.chain.deeds.length-1)):OkP (cutT p q):=by
 have e1:(cutT p q).chain.deeds=cutL q p.chain.deeds:=rfl
 have e2:(cutT p q).trials=p.trials:=rfl
 refine ⟨cutC_ok hp.chain hl hq,hp.machine,hp.need,hp.rule,?_,fun i h h'=>?_⟩
 ·rw[e1,e2,cutL_pv];exact hp.many
 ·simp only[e1,cutL_pv,e2] at h h' ⊢
  have h1:=hp.trials i h h'
  have h2:=idxs_lt isProve p.chain.deeds 0 _ (List.getElem_mem h)
  rw[cutL_cnt _ _ (by have:(pv p.chain.deeds)[i]<0+p.chain.deeds.length:=by first | exact h2.2 | exact h2
                      omega)]
  exact h1
theorem cutT_far {p:Proof} (h:¬ farP p) (hp:OkP p) (hl:p.chain.deeds.length<12):¬ farP (cutT p q):=by
 unfold farP at *
 intro h'
 refine h ?_
 rcases h' with h1 | h1 | h1 | h1
 ·refine .inl ?_
  unfold farC at *
  have e1:(cutT p q).chain.deeds=cutL q p.chain.deeds:=rfl
  rw[e1,cutL_len,cutL_twos] at h1
  rcases h1 with h1 | h1 | h1
  ·omega
  ·exact .inr (.inl h1)
  ·exact .inr (.inr ⟨hp.chain,h1.2⟩)
 ·exact .inr (.inl h1)
 ·exact .inr (.inr (.inl h1))
 ·refine .inr (.inr (.inr ⟨hp,?_⟩))
  have e:ways (cutT p q)=ways p:=by
   unfold ways
   have e1:(cutT p q).chain.deeds=cutL q p.chain.deeds:=rfl
   rw[e1,cutL_twos]
   rfl
  rw[← e]
  exact h1.2
end
end Go.Pf

/- What is so of a proof behind a cut at the place of the last trial's break. -/
namespace Go.Pf
open Go Go.Ev Go.Proofs Go.RowKit
set_option maxRecDepth 8000
theorem cab_nodup (D:List Deed) (e:Nat→Int):∀ i,(cab D e i).Nodup
 | 0=>by simp[cab]
 | i+1=>by
   by_cases h:i<D.length
   ·have ih:=cab_nodup D e i
    have hlt:=cab_lt D e i
    rw[cab_succ D e i h]
    unfold stepC
    generalize cab D e i=now at *
    split
    ·generalize plc D[i].pos (e i) (now.length+1)=k
     have hp:(now.take k++[wn D i]++now.drop k).Perm (wn D i::now):=by
      rw[List.append_assoc]
      have:=List.perm_middle (a:=wn D i) (l₁:=now.take k) (l₂:=now.drop k)
      rw[List.take_append_drop] at this
      exact this
     rw[hp.nodup_iff,List.nodup_cons]
     exact ⟨fun hm=>by have:=hlt _ hm;omega,ih⟩
    ·split
     ·generalize plc D[i].pos (e i) now.length=k
      rw[← List.eraseIdx_eq_take_drop_succ]
      exact ih.sublist (List.eraseIdx_sublist _ _)
     ·split
      ·exact (List.reverse_perm _).nodup_iff.2 ih
      ·exact ih
   ·simp only[cab,List.getElem?_eq_none (by omega:D.length≤i)]
    exact cab_nodup D e i
theorem not_mem_erase {l:List Nat} (h:l.Nodup) {k:Nat} (hk:k<l.length):l[k] ∉ l.eraseIdx k:=by
 intro hm
 rw[List.eraseIdx_eq_take_drop_succ] at hm
 have e:l=l.take k++l[k]::l.drop (k+1):=by rw[← List.drop_eq_getElem_cons hk,List.take_append_drop]
 have h2:(l.take k++l[k]::l.drop (k+1)).Nodup:=by rw[← e];exact h
 rw[(List.perm_middle (a:=l[k]) (l₁:=l.take k) (l₂:=l.drop (k+1))).nodup_iff,List.nodup_cons] at h2
 exact h2.1 hm
theorem placeI_none {l:List Nat} {k:Nat} (h:k ∉ l):placeI l k = -1:=by
 refine fi_none _ _ fun x hx=>decide_eq_false fun e=>h ?_
 have:x=k:=by omega
 rw[← this];exact hx
theorem allN_welds (D:List Deed):allN D=(welds D).length:=linksL_len D
section
variable {q:Int}
theorem cutT_then (p:Proof) {t:Truth} (ht:t.ends.length=p.chain.deeds.length) (i:Nat):thenN (cutT p q) i (endF (addE t).ends)=thenN p i (endF t.ends):=by
 have e1:(cutT p q).chain.deeds=cutL q p.chain.deeds:=rfl
 unfold thenN
 rw[e1,cutL_pv]
 refine cutL_cab q p.chain.deeds _ _ (fun j hj=>endF_app _ 0 j (by omega)) _ ?_
 by_cases hi:i<(pv p.chain.deeds).length
 ·rw[List.getD_eq_getElem?_getD,List.getElem?_eq_getElem hi,Option.getD_some]
  have h2:=idxs_lt isProve p.chain.deeds 0 _ (List.getElem_mem hi)
  have:(pv p.chain.deeds)[i]<0+p.chain.deeds.length:=by first | exact h2.2 | exact h2
  omega
 ·rw[List.getD_eq_getElem?_getD,List.getElem?_eq_none (by omega)]
  simp
theorem cutT_broke (p:Proof) {t:Truth} (ht:t.ends.length=p.chain.deeds.length) (i:Nat):brokeN (cutT p q) i (endF (addE t).ends)=brokeN p i (endF t.ends):=by
 unfold brokeN
 rw[cutT_then p ht]
 rfl
theorem cutT_proved (p:Proof) {t:Truth} (ht:t.ends.length=p.chain.deeds.length) (k:Int):provedB (cutT p q) k (addE t)=provedB p k t:=by
 unfold provedB
 have e:(cutT p q).trials.length=p.trials.length:=rfl
 rw[e]
 have:provedAt (cutT p q) k (addE t)=provedAt p k t:=by
  funext i
  unfold provedAt
  rw[cutT_then p ht,cutT_broke p ht]
  rfl
 rw[this]
theorem cutT_now (p:Proof) {t:Truth} (ht:t.ends.length=p.chain.deeds.length):nowN (cutT p q) (endF (addE t).ends)=(nowN p (endF t.ends)).eraseIdx q.toNat:=by
 have e1:(cutT p q).chain.deeds=cutL q p.chain.deeds:=rfl
 unfold nowN
 rw[e1,cutL_len,cutL_cab_last]
 ·rw[cutL_cab q p.chain.deeds (endF t.ends) (endF (addE t).ends) (fun j hj=>endF_app _ 0 j (by omega)) _ (Nat.le_refl _)]
 ·unfold endF addE
  rw[List.getD_eq_getElem?_getD,← ht]
  simp
theorem cutT_good (p:Proof) {t:Truth} (ht:t.ends.length=p.chain.deeds.length) (h:goodB p t=true):goodB (cutT p q) (addE t)=true:=by
 unfold goodB at *
 rw[cutT_now p ht]
 rw[Bool.and_eq_true,List.all_eq_true] at *
 refine ⟨fun k hk=>?_,h.2⟩
 rw[cutT_proved p ht]
 exact h.1 k (List.mem_of_mem_eraseIdx hk)
theorem known_endsLen {p:Proof} {t:Truth} (h:t∈knownL p):t.ends.length=p.chain.deeds.length:=(known_truth h).1.1.1
theorem cutT_len {p:Proof} (hp:OkP p) (ho:OkP (cutT p q)):(kL (cutT p q) true).length=(kL p true).length:=by
 rw[kL_ok2 hp,kL_ok2 ho,knownL_cut hp,List.length_map]
theorem cutT_kE {p:Proof} (hp:OkP p) (ho:OkP (cutT p q)):kE (cutT p q) true=kE p true:=by
 unfold kE
 rw[if_pos ho,if_pos hp,knownL_cut hp]
 simp
theorem cutT_rFail {p:Proof} (hp:OkP p) (ho:OkP (cutT p q)):rFail (cutT p q)=rFail p:=by
 unfold rFail
 rw[kL_ok2 hp,kL_ok2 ho,knownL_cut hp,List.map_map]
 rfl
theorem cutT_rGood {p:Proof} (hp:OkP p) (ho:OkP (cutT p q)) (hk:kE p true=0) (h:rGood p=1):rGood (cutT p q)=1:=by
 unfold rGood at *
 rw[cutT_kE hp ho]
 rw[if_pos hk] at *
 rw[kL_ok2 hp] at h
 rw[kL_ok2 ho,knownL_cut hp]
 rw[toldN_sure,List.countP_eq_length] at *
 intro t' ht
 obtain ⟨t,ht2,rfl⟩:=List.mem_map.1 ht
 exact cutT_good p (known_endsLen ht2) (h t ht2)
theorem cutT_rWorst {p:Proof} (hp:OkP p) (ho:OkP (cutT p q)) (hk:kE p true=0) (h:0≤rWorst p):rWorst p≤rWorst (cutT p q):=by
 have hle:=rWorst_le p
 have h1:=(sure_worst hp hk h hle).2 (Int.le_refl _)
 rw[← sure_worst ho (by rw[cutT_kE hp ho];exact hk) h hle,knownL_cut hp,List.all_eq_true]
 rw[List.all_eq_true] at h1
 intro t' ht
 obtain ⟨t,ht2,rfl⟩:=List.mem_map.1 ht
 exact cutT_good (nd p (rWorst p)) (known_endsLen ht2) (h1 t ht2)
theorem last_trial {p:Proof} (hp:OkP p) {n:Nat} (hn:p.chain.deeds.length=n+1) (hw:(p.chain.deeds[n]'(by omega)).what=4) :
  0<p.trials.length∧(pv p.chain.deeds).getD (p.trials.length-1) 0=n∧cnt p.chain.deeds (n+1)=cnt p.chain.deeds n∧∀ e,nowN p e=thenN p (p.trials.length-1) e:=by
 have h1:pv p.chain.deeds=pv (p.chain.deeds.take n)++[n]:=by
  have:=idxs_succ isProve p.chain.deeds n (by omega)
  rw[if_pos (by unfold isProve;exact decide_eq_true hw),List.take_of_length_le (by omega)] at this
  exact this
 have hm:=hp.many
 rw[h1] at hm
 simp at hm
 have h2:(pv p.chain.deeds).getD (p.trials.length-1) 0=n:=by
  rw[h1,List.getD_eq_getElem?_getD,hm]
  simp
 refine ⟨by omega,h2,?_,fun e=>?_⟩
 ·rw[cnt_succ _ n (by omega)]
  simp[grow,hw]
 ·unfold nowN thenN
  rw[h2,hn,cab_succ _ e n (by omega)]
  simp[stepC,hw]
end
end Go.Pf

/- The law of the link that is cut out (TopCutOff). -/
namespace Go.Pf
open Go Go.Ev Go.Proofs Go.RowKit
set_option maxRecDepth 8000
section
variable {q:Int}
theorem cut_cables {c:Chain} (hc:OkC c) (ho:OkC (cutC q c)) {n:Nat} (h:n∈rightN (cutC q c)) :
  ∃ e∈endsL c [] c.deeds,cab (cutC q c).deeds (eBit (cutC q c).deeds n) (cutC q c).deeds.length=(cab c.deeds (endF e) c.deeds.length).eraseIdx q.toNat:=by
 have h1:=rightN_ends ho h
 have h3:=fun k=>cab_congr2 (cutC q c).deeds (endF (endsB (cutC q c).deeds n)) (eBit (cutC q c).deeds n) (fun i hi=>(endsB_endF _ n i hi).symm) k
 rw[endsL_cut hc] at h1
 obtain ⟨e,he,h2⟩:=List.mem_map.1 h1
 have hl:=(endsL_truth he).1.1
 refine ⟨e,he,?_⟩
 rw[h3,← h2]
 have e1:(cutC q c).deeds=cutL q c.deeds:=rfl
 rw[e1,cutL_len,cutL_cab_last]
 ·rw[cutL_cab q c.deeds (endF e) (endF (e++[0])) (fun j hj=>endF_app _ 0 j (by omega)) _ (Nat.le_refl _)]
 ·unfold endF
  rw[List.getD_eq_getElem?_getD,← hl]
  simp
theorem cut_cable {c:Chain} (hc:OkC c) (ho:OkC (cutC q c)) {e:List Int} (he:e∈endsL c [] c.deeds) :
  ∃ n∈rightN (cutC q c),cab (cutC q c).deeds (eBit (cutC q c).deeds n) (cutC q c).deeds.length=(cab c.deeds (endF e) c.deeds.length).eraseIdx q.toNat:=by
 have hl:=(endsL_truth he).1.1
 have h1:e++[0]∈endsL (cutC q c) [] (cutC q c).deeds:=by rw[endsL_cut hc];exact List.mem_map.2 ⟨e,he,rfl⟩
 obtain ⟨n,hn,h2⟩:=ends_rightN ho h1
 refine ⟨n,hn,?_⟩
 rw[cab_congr2 (cutC q c).deeds (endF (e++[0])) (eBit (cutC q c).deeds n) h2]
 have e1:(cutC q c).deeds=cutL q c.deeds:=rfl
 rw[e1,cutL_len,cutL_cab_last]
 ·rw[cutL_cab q c.deeds (endF e) (endF (e++[0])) (fun j hj=>endF_app _ 0 j (by omega)) _ (Nat.le_refl _)]
 ·unfold endF
  rw[List.getD_eq_getElem?_getD,← hl]
  simp
theorem sortD_len (l:List Int):(sortD l).length≤l.length:=by
 unfold sortD
 rw[List.length_mergeSort,List.length_map]
 exact cntL_len l
theorem sortD_const {l:List Int} {x:Int} (hne:l≠[]) (h:∀ y∈l,y=x):sortD l=[x]:=by
 refine pair_eq (sortD_pair l) (by simp) fun y=>?_
 rw[sortD_mem,List.mem_singleton]
 constructor
 ·exact h y
 ·rintro rfl
  obtain ⟨z,hz⟩:=List.exists_mem_of_ne_nil _ hne
  rw[← h z hz];exact hz
theorem rightN_len (c:Chain) (h:twos c.deeds≤5):(rightN c).length≤40:=by
 have h1:(rightN c).length≤2 ^ twos c.deeds:=Nat.le_trans (List.length_filter_le _ _) (by simp)
 have h2:2 ^ twos c.deeds≤2 ^ 5:=Nat.pow_le_pow_right (by omega) h
 omega
theorem where_facts {p:Proof} (hp:OkP p) (hfar:¬ farP p) (ho:OkP (cutT p q)) {n:Nat} (hn:p.chain.deeds.length=n+1) (hw:(p.chain.deeds[n]'(by omega)).what=4)
  (hq:(tr p (p.trials.length-1)).broke=q) (hq0:0≤q) {x:Int} (hx:x∈rBroke p ((p.trials.length-1:Nat):Int)) :
  askE (cutC q p.chain) (isLinkB (cutC q p.chain) x)=0∧(sortD ((rightN (cutC q p.chain)).map (whereN (cutC q p.chain) x))).length≤40 ∧
   (-1:Int)∈sortD ((rightN (cutC q p.chain)).map (whereN (cutC q p.chain) x))∧((rBroke p ((p.trials.length-1:Nat):Int)).length=1→(sortD ((rightN (cutC q p.chain)).map (whereN (cutC q p.chain) x))).length=1):=by
 subst hq
 obtain ⟨l1,l2,l3,l4⟩:=last_trial hp hn hw
 have htw:twos p.chain.deeds≤5:=by
  unfold farP farC at hfar
  simp only[not_or,not_and] at hfar
  have:=hfar.1.2.2 hp.chain
  omega
 have hi:p.trials.length-1<p.trials.length:=by omega
 -- a truth in which the link broke
 unfold rBroke at hx
 rw[sortedL_mem] at hx
 obtain ⟨_,_,hm⟩:=hx
 obtain ⟨t,ht,hbx⟩:=List.mem_map.1 hm
 have hkn:t∈knownL p:=by
  unfold kL at ht
  split at ht
  ·exact ht
  ·cases ht
 simp only[Int.toNat_natCast] at hbx
 have hbr:∀ u:Truth,∃ hlt:(tr p (p.trials.length-1)).broke.toNat<(nowN p (endF u.ends)).length,brokeN p (p.trials.length-1) (endF u.ends)=((nowN p (endF u.ends))[(tr p (p.trials.length-1)).broke.toNat]:Nat):=fun u=>by
  obtain ⟨h1,h2⟩:=hp.brokeIn (endF u.ends) hi (by omega)
  have e:=l4 (endF u.ends)
  refine ⟨by rw[e];exact h1,?_⟩
  rw[h2]
  congr 1
  simp only[e]
 have hend:∀ u∈knownL p,u.ends∈endsL p.chain [] p.chain.deeds:=fun u hu=>by
  simp only[knownL,List.mem_flatMap,List.mem_map] at hu
  obtain ⟨e,he,s,hs,rfl⟩:=hu
  exact he
 have gone:∀ e∈endsL p.chain [] p.chain.deeds,∀ y:Int,brokeN p (p.trials.length-1) (endF e)=y→placeI ((cab p.chain.deeds (endF e) p.chain.deeds.length).eraseIdx (tr p (p.trials.length-1)).broke.toNat) y = -1:=fun e _ y hy=>by
  obtain ⟨h1,h2⟩:=hbr ⟨e,t.set⟩
  rw[← hy,h2]
  exact placeI_none (not_mem_erase (cab_nodup _ _ _) h1)
 obtain ⟨n1,hn1,hc1⟩:=cut_cable hp.chain ho.chain (hend t hkn)
 have hmem:(-1:Int)∈(rightN (cutC (tr p (p.trials.length-1)).broke p.chain)).map (whereN (cutC (tr p (p.trials.length-1)).broke p.chain) x):=by
  refine List.mem_map.2 ⟨n1,hn1,?_⟩
  unfold whereN
  rw[hc1]
  exact gone _ (hend t hkn) x hbx
 have hlink:isLinkB (cutC (tr p (p.trials.length-1)).broke p.chain) x=true:=by
  obtain ⟨h1,h2⟩:=hbr t
  have h3:(nowN p (endF t.ends))[(tr p (p.trials.length-1)).broke.toNat]<wn p.chain.deeds p.chain.deeds.length:=cab_lt p.chain.deeds (endF t.ends) p.chain.deeds.length _ (List.getElem_mem h1)
  have h4:=wn_welds p.chain.deeds p.chain.deeds.length
  have h5:allN (cutC (tr p (p.trials.length-1)).broke p.chain).deeds=(welds p.chain.deeds).length:=by
   rw[allN_welds]
   show (welds (cutL (tr p (p.trials.length-1)).broke p.chain.deeds)).length=_
   rw[cutL_welds]
  refine decide_eq_true ?_
  rw[h5,← hbx,h2]
  simp only[inR]
  omega
 refine ⟨?_,?_,?_,fun h1=>?_⟩
 ·unfold askE
  rw[if_pos (show OkC (cutC (tr p (p.trials.length-1)).broke p.chain) from ho.chain),hlink,if_pos rfl,if_neg (fun e=>by rw[e] at hn1;cases hn1)]
 ·refine Nat.le_trans (sortD_len _) ?_
  rw[List.length_map]
  exact rightN_len _ (by show twos (cutL (tr p (p.trials.length-1)).broke p.chain.deeds)≤5;rw[cutL_twos];exact htw)
 ·rw[sortD_mem];exact hmem
 ·have hall:∀ y∈(rightN (cutC (tr p (p.trials.length-1)).broke p.chain)).map (whereN (cutC (tr p (p.trials.length-1)).broke p.chain) x),y = -1:=fun y hy=>by
   obtain ⟨m,hm,rfl⟩:=List.mem_map.1 hy
   obtain ⟨e,he,hce⟩:=cut_cables hp.chain ho.chain hm
   unfold whereN
   rw[hce]
   refine gone e he x ?_
   have hkn2:(⟨e,t.set⟩:Truth)∈knownL p:=by
    simp only[knownL,List.mem_flatMap,List.mem_map]
    exact ⟨e,he,t.set,setsL_mem (known_truth hkn).2,rfl⟩
   have htb:trialB p ((p.trials.length-1:Nat):Int)=true:=decide_eq_true (by simp only[inR];omega)
   have b1:=broke_in hp hkn2 htb
   have b2:=broke_in hp hkn htb
   simp only[Int.toNat_natCast] at b1 b2
   obtain ⟨_,c1⟩:=hbr ⟨e,t.set⟩
   obtain ⟨_,c2⟩:=hbr t
   have m1:=b1.2.1 (by simp only at c1 ⊢;omega)
   have m2:=b2.2.1 (by omega)
   obtain ⟨z,hz⟩:=List.length_eq_one_iff.1 h1
   rw[hz,List.mem_singleton] at m1 m2
   rw[m1,← hbx,m2]
  rw[sortD_const (fun e=>by rw[e] at hmem;cases hmem) hall]
  rfl
end
end Go.Pf

/- The law of the link that is cut out (TopCutOff), the walk. -/
namespace Go.Pf
open Go Go.Ev Go.Proofs Go.RowKit
set_option maxRecDepth 8000
theorem ex_where:sortD ((rightN exC).map (whereN exC 2))=[-1,1]:=by
 have e:(rightN exC).map (whereN exC 2)=[1,-1]:=by decide
 rw[e]
 refine pair_eq (sortD_pair _) (by decide) fun x=>?_
 rw[sortD_mem]
 simp
 exact Or.comm
theorem ex_sets:setsL exM [] exM.levers=[⟨[10,5],1⟩,⟨[11,5],1⟩]:=by rw[sets_eq];decide
theorem ex_load:rLoad exM 31 0=(4636,5100)∧tE exM (askB 31 0 0)=0:=by
 have hb:askB 31 0 0=true:=by decide
 have hT:tL exM true=setsL exM [] exM.levers:=by unfold tL;exact if_pos ⟨ex_okM,rfl⟩
 constructor
 ·unfold rLoad
  rw[hb,hT,ex_sets]
  decide
 ·unfold tE
  rw[hb,if_pos ex_okM,if_pos rfl,ex_sets]
  decide
section
variable {K:World→Prop} (hK:∀ w w',K w→Below w.heap.size w w'→K w')
include hK
theorem good56:Ev.Good Tryz.prog K 56 [] (.bool true):=by
 refine good_of_wp hK c56_ok (by simp) ?_
 have h1:=ex_few 1 (by decide)
 have hk1:=ex_kL 1 (by decide)
 have e1:({ exP with rule:=1 }:Proof)=exP:=rfl
 rw[e1] at h1 hk1
 have g27:=good27 hK exP h1
 rw[hk1.1,hk1.2] at g27
 have g57:=good57 hK exC 2 (by decide) (by decide)
 have hl:isLinkB exC 2=true:=by decide
 have ha:askE exC true=0:=by
  unfold askE
  rw[if_pos ex_okC,if_pos rfl,if_neg (by decide)]
 rw[hl,ha,if_pos rfl,ex_where] at g57
 have g115:=good115 hK exM 31 0 (by decide) (by decide)
 rw[ex_load.1,ex_load.2] at g115
 have g57:Ev.Good Tryz.prog K 57 [chV exP.chain,.int .i64 2] (.tup [ints [-1,1],.int .i64 0]):=g57
 have g115:Ev.Good Tryz.prog K 115 [maV exP.machine,.int .i64 31,.int .i64 0] (.tup [.agg [.int .i64 4636,.int .i64 5100],.int .i64 0]):=g115
 have g34:=good34 hK [-1,1] [-1,1]
 simp
 refine callK_of (good60 hK) (.inl rfl) ?_
 simp
 refine callK_of (by simpa using g27) (.inl rfl) ?_
 simp
 refine callK_of (by simpa using g57) (.inl rfl) ?_
 simp
 refine callK_of (by simpa using g115) (.inl rfl) ?_
 simp[exT]
 refine callK_of (by simpa using g34) (.inl rfl) ?_
 simp
theorem law12 (p:Proof):Ev.Good Tryz.prog K 12 [prV p] (.bool true):=by
 refine good_of_wp hK c12_ok (by simp) ?_
 have g56:=good56 hK
 by_cases hD:p.chain.deeds.length=0
 ·simp[hD]
  refine callK_of g56 (.inl rfl) ?_
  simp
 obtain ⟨n,hn⟩:∃ n,p.chain.deeds.length=n+1:=⟨p.chain.deeds.length-1,by omega⟩
 have g24:=good24 hK p
 by_cases hfar:farP p
 ·rw[decide_eq_true hfar] at g24
  simp[hn]
  repeat' first | omega | intro _ | apply And.intro
  refine callK_of (by simpa using g24) (.inl rfl) ?_
  simp
  refine callK_of g56 (.inl rfl) ?_
  simp
 rw[decide_eq_false hfar] at g24
 have hs:=small_of hfar
 have g26:=good26 hK p hs
 by_cases hp:OkP p
 ·rw[if_pos hp] at g26
  by_cases hl:12≤(n:Int)+1
  ·simp[hn]
   repeat' first | omega | intro _ | apply And.intro
   refine callK_of (by simpa using g24) (.inl rfl) ?_
   simp
   refine callK_of (by simpa using g26) (.inl rfl) ?_
   simp[hl]
   repeat' first | omega | intro _ | apply And.intro
   refine callK_of g56 (.inl rfl) ?_
   simp
  have hi:n<p.chain.deeds.length:=by omega
  by_cases hw:p.chain.deeds[n].what=4
  ·obtain ⟨l1,l2,l3,l4⟩:=last_trial hp hn hw
   obtain ⟨m,hm⟩:∃ m,p.trials.length=m+1:=⟨p.trials.length-1,by omega⟩
   have hmi:m<p.trials.length:=by omega
   have hm1:p.trials.length-1=m:=by omega
   rw[hm1] at l2
   have hbm:p.trials[m].broke=(tr p m).broke:=by rw[tr_get hmi]
   by_cases hq0:(tr p m).broke<0
   ·simp[hn]
    repeat' first | omega | intro _ | apply And.intro
    refine callK_of (by simpa using g24) (.inl rfl) ?_
    simp
    refine callK_of (by simpa using g26) (.inl rfl) ?_
    simp[hl,hi,hw,hm,hmi,hbm,hq0]
    repeat' first | omega | intro _ | apply And.intro
    refine callK_of g56 (.inl rfl) ?_
    simp
   have hti:=hp.trial hmi
   rw[l2] at hti
   have hq:inR (tr p m).broke 0 (cnt p.chain.deeds p.chain.deeds.length-1):=by
    rw[hn,l3]
    have:=hti.2.2
    simp only[inR] at this ⊢
    omega
   have hl12:p.chain.deeds.length<12:=by omega
   have ho:=cutT_ok hp hl12 hq
   have hf:=few_of hfar
   have hfo:=few_of (cutT_far hfar hp hl12 (q:=(tr p m).broke))
   have hwh:=fun x hx=>where_facts hp hfar ho hn hw (by rw[hm1]) (by omega) (x:=x) hx
   rw[hm1] at hwh
   have g27:=good27 hK p hf
   have g27o:=good27 hK _ hfo
   have g31:=good31 hK p m hf
   have g17:=good17 hK p hf
   have g17o:=good17 hK _ hfo
   have g19:=good19 hK p hf
   have g19o:=good19 hK _ hfo
   have g20:=good20 hK p hf
   have g20o:=good20 hK _ hfo
   have g57:=fun x=>good57 hK (cutC (tr p m).broke p.chain) x (by show (cutL _ p.chain.deeds).length≤1000;rw[cutL_len];omega) hs.sights
   rw[cutT_len hp ho,cutT_kE hp ho] at g27o
   rw[cutT_rFail hp ho,cutT_kE hp ho] at g17o
   rw[cutT_kE hp ho] at g19o
   have htb:trialB p (m:Int)=true:=decide_eq_true (by simp only[inR];omega)
   rw[htb] at g31
   have hE:=kE_known hp true
   by_cases hk:kE p true=0
   ·obtain ⟨t,ht⟩:=List.exists_mem_of_ne_nil _ (kE_ok hk).2.2.2
    have hb:=broke_in hp ht htb
    simp only[Int.toNat_natCast] at hb
    have hb0:0≤brokeN p m (endF t.ends):=by
     rcases broke_bd2 hp (endF t.ends) hmi with h | h
     ·omega
     ·exact h.2.1
    have hL1:=List.length_pos_of_mem (hb.2.1 hb0)
    have hL2:=hb.1
    have hG:=cutT_rGood (q:=(tr p m).broke) hp ho hk
    have hW:=cutT_rWorst (q:=(tr p m).broke) hp ho hk
    have w1:rWorth p=if rWorst p<0 then (0,3) else (rWorst p,0):=by unfold rWorth;rw[if_pos hk]
    have w2:rWorth (cutT p (tr p m).broke)=if rWorst (cutT p (tr p m).broke)<0 then (0,3) else (rWorst (cutT p (tr p m).broke),0):=by unfold rWorth;rw[if_pos (by rw[cutT_kE hp ho];exact hk)]
    rw[hk] at g27 g27o g31 g17 g17o g19 g19o
    have hwh2:∀ x∈rBroke p m,∃ k:List Int,Ev.Good Tryz.prog K 57 [chV (cutC (tr p m).broke p.chain),.int .i64 x] (.tup [ints k,.int .i64 0])∧k.length≤40∧(-1:Int)∈k∧((rBroke p m).length=1→k.length=1):=fun x hx=>by
     obtain ⟨h1,h2,h3,h4⟩:=hwh x hx
     have h5:=g57 x
     rw[h1,if_pos rfl] at h5
     exact ⟨_,h5,h2,h3,h4⟩
    clear hwh g57 hb
    generalize rBroke p m=L at *
    generalize rFail p=F at *
    generalize rGood p=a1 at *
    generalize rGood (cutT p (tr p m).broke)=a2 at *
    generalize rWorth p=v1 at *
    generalize rWorth (cutT p (tr p m).broke)=v2 at *
    generalize rWorst p=W1 at *
    generalize rWorst (cutT p (tr p m).broke)=W2 at *
    generalize (kL p true).length=nk at *
    obtain ⟨f1,f2⟩:=F
    obtain ⟨v11,v12⟩:=v1
    obtain ⟨v21,v22⟩:=v2
    simp only at g17 g17o g20 g20o
    have k1:¬ (L.length:Int)<1:=by omega
    have k2:¬ 40<(L.length:Int):=by omega
    simp[hn]
    repeat' first | omega | intro _ | apply And.intro
    refine callK_of (by simpa using g24) (.inl rfl) ?_
    simp
    refine callK_of (by simpa using g26) (.inl rfl) ?_
    simp[hl,hi,hw,hm,hmi,hbm,hq0]
    repeat' first | omega | intro _ | apply And.intro
    refine callO_emb (goodo16D hK p hs) (by simp) ?_
    simp[List.take_of_length_le,hm,hmi,hbm]
    refine ⟨⟨by omega,by omega⟩,?_⟩
    refine callK_of (by simpa using g27) (.inl rfl) ?_
    simp
    refine callK_of (by simpa[cutT,cutC,cutL,cutD] using g27o) (.inl rfl) ?_
    simp
    refine callK_of (by simpa using g31) (.inl rfl) ?_
    simp[k1,k2]
    intro _
    refine loop_q (fun i=>[(1,AV.iv (.ptr [deedsV p.chain.deeds,sightsV p.chain.sights,.int .i64 p.chain.wrong,leversV p.machine.levers,.int .i64 p.machine.water,.int .i64 p.machine.llo,.int .i64 p.machine.lhi,balsV p.machine.bals,.int .i64 p.machine.wrong,trialsV p.trials,.int .i64 p.need,.int .i64 p.rule])),
     (5,AV.iv (.ptr [.sl 5 (p.chain.deeds.map dC++[[.int .i64 2,.int .i64 (tr p m).broke,.int .i64 0,.int .i64 0,.int .i64 0]]),sightsV p.chain.sights,.int .i64 p.chain.wrong,leversV p.machine.levers,.int .i64 p.machine.water,.int .i64 p.machine.llo,.int .i64 p.machine.lhi,balsV p.machine.bals,.int .i64 p.machine.wrong,trialsV p.trials,.int .i64 p.need,.int .i64 p.rule])),
     (10,AV.iv (ints L)),(11,AV.iv (.int .i64 (i:Nat)))]) (fun _=>[]) L.length (fun i=>True) trivial ?_ ?_
    ·intro _
     rw[LoopAt_enter c12_b0.eq_1]
     by_cases hW1:W1<0
     ·rw[if_pos hW1] at w1
      injection w1 with w3 w4
      subst w3 w4
      simp
      intro _
      refine callK_of (by simpa using g17) (.inl rfl) ?_
      simp
      refine callK_of (by simpa[cutT,cutC,cutL,cutD] using g17o) (.inl rfl) ?_
      simp
      refine callK_of (by simpa using g19) (.inl rfl) ?_
      simp
      refine callK_of (by simpa[cutT,cutC,cutL,cutD] using g19o) (.inl rfl) ?_
      simp
      refine callK_of (by simpa using g20) (.inl rfl) ?_
      simp
      refine callK_of (by simpa[cutT,cutC,cutL,cutD] using g20o) (.inl rfl) ?_
      by_cases ha1:a1=1
      ·have ha2:=hG ha1
       simp[ha1,ha2]
       refine callK_of g56 (.inl rfl) ?_
       simp
      ·simp[ha1]
       refine callK_of g56 (.inl rfl) ?_
       simp
     ·have hWW:=hW (by omega)
      rw[if_neg hW1] at w1
      rw[if_neg (by omega)] at w2
      obtain ⟨rfl,rfl⟩:=Prod.mk.inj w1
      obtain ⟨rfl,rfl⟩:=Prod.mk.inj w2
      simp
      intro _
      refine callK_of (by simpa using g17) (.inl rfl) ?_
      simp
      refine callK_of (by simpa[cutT,cutC,cutL,cutD] using g17o) (.inl rfl) ?_
      simp
      refine callK_of (by simpa using g19) (.inl rfl) ?_
      simp
      refine callK_of (by simpa[cutT,cutC,cutL,cutD] using g19o) (.inl rfl) ?_
      simp
      refine callK_of (by simpa using g20) (.inl rfl) ?_
      simp
      refine callK_of (by simpa[cutT,cutC,cutL,cutD] using g20o) (.inl rfl) ?_
      by_cases ha1:a1=1
      ·have ha2:=hG ha1
       simp[ha1,ha2,hWW]
       refine callK_of g56 (.inl rfl) ?_
       simp
      ·simp[ha1,hWW]
       refine callK_of g56 (.inl rfl) ?_
       simp
    ·intro i hi _ ih
     obtain ⟨k,q1,q2,q3,q4⟩:=hwh2 _ (List.getElem_mem hi)
     have h52:=good52 hK k (-1)
     rw[decide_eq_true q3] at h52
     rw[LoopAt_enter c12_b0.eq_1]
     have q5:¬ 40<(k.length:Int):=by omega
     simp[hi] at ih ⊢
     repeat' first | omega | intro _ | apply And.intro
     refine callK_of (by simpa[cutC,cutL,cutD] using q1) (.inl rfl) ?_
     simp[q5]
     repeat' first | omega | intro _ | apply And.intro
     refine callK_of (by simpa using h52) (.inl rfl) ?_
     by_cases hl1:L.length=1
     ·have q6:=q4 hl1
      simp[hl1,q6] at ih ⊢
      repeat' first | omega | exact ih | intro _ | apply And.intro
     ·simp[hl1] at ih ⊢
      repeat' first | omega | exact ih | intro _ | apply And.intro
   ·have hk3:kE p true=3:=by
     rcases hE with h | h | h
     ·exact absurd h hk
     ·exact h
     ·cases h.1
    rw[hk3] at g27 g27o
    generalize (kL p true).length=nk at *
    simp[hn]
    repeat' first | omega | intro _ | apply And.intro
    refine callK_of (by simpa using g24) (.inl rfl) ?_
    simp
    refine callK_of (by simpa using g26) (.inl rfl) ?_
    simp[hl,hi,hw,hm,hmi,hbm,hq0]
    repeat' first | omega | intro _ | apply And.intro
    refine callO_emb (goodo16D hK p hs) (by simp) ?_
    simp[List.take_of_length_le,hm,hmi,hbm]
    refine ⟨⟨by omega,by omega⟩,?_⟩
    refine callK_of (by simpa using g27) (.inl rfl) ?_
    simp
    refine callK_of (by simpa[cutT,cutC,cutL,cutD] using g27o) (.inl rfl) ?_
    simp
    refine callK_of g56 (.inl rfl) ?_
    simp
  ·simp[hn]
   repeat' first | omega | intro _ | apply And.intro
   refine callK_of (by simpa using g24) (.inl rfl) ?_
   simp
   refine callK_of (by simpa using g26) (.inl rfl) ?_
   simp[hl,hi,hw]
   repeat' first | omega | intro _ | apply And.intro
   refine callK_of g56 (.inl rfl) ?_
   simp
 ·rw[if_neg hp] at g26
  simp[hn]
  repeat' first | omega | intro _ | apply And.intro
  refine callK_of (by simpa using g24) (.inl rfl) ?_
  simp
  refine callK_of (by simpa using g26) (.inl rfl) ?_
  simp
  refine callK_of g56 (.inl rfl) ?_
  simp
end
end Go.Pf
