/- The laws that compare with the reference: ProofsBroke, ProofsFailures, ProofsGood. -/
import Derived.Test.YtidcmjicfnjcjaaGreatAsks
set_option linter.all false

namespace Go.Pf
open Go Go.Ev Go.Proofs Go.RowKit
set_option maxRecDepth 8000
theorem choices_len:∀ ds:List Deed,(choices ds).length≤2 ^ twos ds
 | []=>by show 1≤2 ^ 0;decide
 | d::r=>by
   have ih:=choices_len r
   by_cases h2:d.frm=2
   ·have e1:twos (d::r)=twos r+1:=by simp[twos,h2]
    rw[e1,Nat.pow_succ]
    simp[choices,endsD,h2]
    omega
   ·have e1:twos (d::r)=twos r:=by simp[twos,h2]
    rw[e1]
    by_cases h0:d.frm=0
    ·simp[choices,endsD,h0];omega
    ·by_cases h1:d.frm=1
     ·simp[choices,endsD,h1];omega
     ·simp[choices,endsD,h0,h1,h2]
theorem ends_le2 (c:Chain):(endsL c [] c.deeds).length≤2 ^ twos c.deeds:=by
 refine Nat.le_trans (List.length_filter_le _ _) ?_
 simpa using choices_len c.deeds
theorem small_of {p:Proof} (h:¬ farP p):Small p:=by
 unfold farP farC farM at h
 simp only[not_or] at h
 exact ⟨by omega,by omega,by omega,by omega,by omega⟩
theorem ways_of {p:Proof} (h:¬ farP p) (hp:OkP p):1≤sets p.machine p.machine.levers.length∧sets p.machine p.machine.levers.length≤48∧2 ^ twos p.chain.deeds≤48:=by
 have h1:ways p≤48:=by
  unfold farP at h
  simp only[not_or] at h
  have:=h.2.2.2
  refine Classical.byContradiction fun hc=>this ⟨hp,by omega⟩
 have hl:=hp.machine.leak
 simp only[inR] at hl
 have h2:1≤sets p.machine p.machine.levers.length:=by
  have h3:=prodF_pos spanL p.machine.levers fun l hl=>(hp.machine.span hl).1
  unfold sets
  rw[List.take_of_length_le (Nat.le_refl _)]
  have h4:1*prodF spanL p.machine.levers≤(p.machine.lhi-p.machine.llo+1)*prodF spanL p.machine.levers:=Int.mul_le_mul_of_nonneg_right (by omega) (by omega)
  omega
 unfold ways at h1
 have hpos:1≤(2 ^ twos p.chain.deeds:Nat):=Nat.pos_of_ne_zero (by simp)
 generalize (2 ^ twos p.chain.deeds:Nat)=W at *
 generalize sets p.machine p.machine.levers.length=S at *
 have a1:S*1≤S*(W:Int):=Int.mul_le_mul_of_nonneg_left (by omega) (by omega)
 have a2:1*(W:Int)≤S*(W:Int):=Int.mul_le_mul_of_nonneg_right h2 (by omega)
 omega
theorem few_of {p:Proof} (h:¬ farP p):Few p:=by
 refine ⟨⟨small_of h,fun hp=>by have:=ways_of h hp;omega⟩,fun hp=>?_,fun hp=>?_,fun hp=>?_⟩
 ·have h1:=ends_le2 p.chain;have h2:=ways_of h hp;omega
 ·have h1:=setsL_le hp.machine;have h2:=ways_of h hp;omega
 ·have h1:=ends_le2 p.chain
  have h2:=ways_of h hp
  have h3:=setsL_le hp.machine
  rw[known_mul,stories_len,loads_len]
  have h4:(endsL p.chain [] p.chain.deeds).length*(setsL p.machine [] p.machine.levers).length≤48*48:=Nat.mul_le_mul (by omega) (by omega)
  omega
section
variable {K:World→Prop} (hK:∀ w w',K w→Below w.heap.size w w'→K w')
include hK
end
end Go.Pf

/- The law of the rule (ProofsRule). -/
namespace Go.Pf
open Go Go.Ev Go.Proofs Go.RowKit
set_option maxRecDepth 8000
def withRule (p:Proof) (r:Int):Proof:=⟨p.chain,p.machine,p.trials,p.need,r⟩
theorem toldN_sure {c n:Nat}:toldN c n=1↔c=n:=by
 unfold toldN
 split<;>rename_i h
 ·exact ⟨fun _=>by omega,fun _=>rfl⟩
 ·split<;>exact ⟨fun h=>by omega,fun h=>by omega⟩
theorem toldN_never {c n:Nat} (hn:n≠0):toldN c n=2↔c=0:=by
 unfold toldN
 split<;>rename_i h
 ·exact ⟨fun h=>by omega,fun h=>by omega⟩
 ·split<;>exact ⟨fun h=>by omega,fun h=>by omega⟩
theorem kE_known {p:Proof} (hp:OkP p) (is:Bool):kE p is=0∨kE p is=3∨(is=false∧kE p is=1):=by
 unfold kE
 rw[if_pos hp]
 cases is
 ·exact .inr (.inr ⟨rfl,rfl⟩)
 ·simp only[if_true]
  split
  ·exact .inr (.inl rfl)
  ·exact .inl rfl
def someN (p:Proof) (i:Nat):Nat:=(List.range i).countP fun k=>decide (0≤(tr p k).broke)
section
variable {K:World→Prop} (hK:∀ w w',K w→Below w.heap.size w w'→K w')
include hK
theorem good21 (e:Int):Ev.Good Tryz.prog K 21 [.int .i64 e] (.bool (decide (e=0∨e=3))):=by
 refine good_of_wp hK c21_ok (by simp) ?_
 by_cases h0:e=0<;>simp[h0]
end
end Go.Pf

/- The law of the greater load (ProofsNeed). -/
namespace Go.Pf
open Go Go.Ev Go.Proofs Go.RowKit
set_option maxRecDepth 8000
section
variable {K:World→Prop} (hK:∀ w w',K w→Below w.heap.size w w'→K w')
include hK
end
end Go.Pf

/- Every truth is among the known ones; what is so of a truth agrees with what is known of all. -/
namespace Go.Pf
open Go Go.Ev Go.Proofs Go.RowKit
set_option maxRecDepth 8000
theorem kE_of {p:Proof} (hp:OkP p) {t:Truth} (h:t∈knownL p):kE p true=0:=by
 unfold kE
 rw[if_pos hp,if_pos rfl,if_neg (fun e=>by rw[e] at h;cases h)]
theorem span_mem {α:Type} (f:α→Int):∀ (l:List α) (t:α),t∈l→(span (l.map f)).1≤f t∧f t≤(span (l.map f)).2
 | [],_,h=>by cases h
 | a::r,t,h=>by
   have mono:∀ (l:List α) (x u:Int),(l.map f).foldl min x≤x∧u≤(l.map f).foldl max u:=by
    intro l
    induction l with
    | nil=>intro x u;exact ⟨Int.le_refl _,Int.le_refl _⟩
    | cons b l ih =>
      intro x u
      simp only[List.map_cons,List.foldl_cons]
      have:=ih (min x (f b)) (max u (f b))
      omega
   have key:∀ (l:List α) (x u:Int),t∈l→(l.map f).foldl min x≤f t∧f t≤(l.map f).foldl max u:=by
    intro l
    induction l with
    | nil=>intro x u h;cases h
    | cons b l ih =>
      intro x u h
      simp only[List.map_cons,List.foldl_cons]
      rcases List.mem_cons.1 h with rfl | h
      ·have:=mono l (min x (f t)) (max u (f t))
       omega
      ·exact ih _ _ h
   simp only[List.map_cons,span]
   rcases List.mem_cons.1 h with rfl | h
   ·exact mono r _ _
   ·exact key r _ _ h
def agreesP (k:Int) (b:Bool):Prop:=k=3∨(k=1∧b=true)∨(k=2∧b=false)
end Go.Pf

/- The law of each truth (ProofsTrue). -/
namespace Go.Pf
open Go Go.Ev Go.Proofs Go.RowKit
set_option maxRecDepth 8000
instance (k:Int) (b:Bool):Decidable (agreesP k b):=by unfold agreesP;infer_instance
section
variable {K:World→Prop} (hK:∀ w w',K w→Below w.heap.size w w'→K w')
include hK
end
end Go.Pf

/- Copies of a proof, of which the caller owns a row or two. -/
namespace Go.Pf
open Go Go.Ev Go.Proofs Go.RowKit
set_option maxRecDepth 8000
def c61D:AFn:=⟨16,[.cell 2 3 true],.seq (.ops c61_r0 false) (.seq (.ops c61_r1 false) (.seq (.ops c61_r2 true) (.seq (.ops c61_r3 false) (.fz [2] [2,5] .ret))))⟩
def c61S:AFn:=⟨16,[.cell 2 3 true],.seq (.ops c61_r0 false) (.seq (.ops c61_r1 false) (.seq (.ops c61_r2 true) (.seq (.ops c61_r3 false) (.fz [2] [2,9] .ret))))⟩
def c62B:AFn:=⟨16,[.cell 2 6 true],.seq (.ops c62_r0 false) (.seq (.ops c62_r1 false) (.seq (.ops c62_r2 true) (.seq (.ops c62_r3 false) (.fz [2] [2,9] .ret))))⟩
theorem c61S_ok:FnOk Tryz.prog 61 c61S:=⟨_,Tryz.func61,by kernel_rfl⟩
theorem c62B_ok:FnOk Tryz.prog 62 c62B:=⟨_,Tryz.func62,by kernel_rfl⟩
def c16D_r1:List AOper:=[⟨some 3,none,.fld 0 (.t 1)⟩,
 ⟨some 4,none,.ldi 3 true (.t 3)⟩,
 ⟨some 5,none,.callo 61 [.t 4] [] 5⟩,
 ⟨some 6,none,.fld 3 (.t 1)⟩,
 ⟨some 7,none,.ldi 6 true (.t 6)⟩,
 ⟨some 8,none,.call 62 [.t 7] []⟩,
 ⟨some 9,none,.bso 9 58 3 []⟩,
 ⟨some 10,none,.fld 9 (.t 1)⟩,
 ⟨some 11,none,.ldi 1 false (.t 10)⟩,
 ⟨some 12,none,.app 9 58 3 24 (.t 9) (.t 11)⟩,
 ⟨some 13,none,.fld 10 (.t 1)⟩,
 ⟨some 14,none,.ldi 1 false (.t 13)⟩,
 ⟨some 15,none,.fld 11 (.t 1)⟩,
 ⟨some 16,none,.ldi 1 false (.t 15)⟩,
 ⟨some 17,none,.bld [.nil 5,.nil 5,.int .i64 0,.nil 3,.int .i64 0,.int .i64 0,.int .i64 0,.nil 4,.int .i64 0,.nil 3,.int .i64 0,.int .i64 0] [(0,3,.t 5),(3,6,.t 8),(9,1,.t 12),(10,1,.t 14),(11,1,.t 16)]⟩,
 ⟨none,none,.sto 2 12 (.t 2) (.t 17)⟩]
def c16B_r1:List AOper:=[⟨some 3,none,.fld 0 (.t 1)⟩,
 ⟨some 4,none,.ldi 3 true (.t 3)⟩,
 ⟨some 5,none,.call 61 [.t 4] []⟩,
 ⟨some 6,none,.fld 3 (.t 1)⟩,
 ⟨some 7,none,.ldi 6 true (.t 6)⟩,
 ⟨some 8,none,.callo 62 [.t 7] [] 8⟩,
 ⟨some 9,none,.bso 9 58 3 []⟩,
 ⟨some 10,none,.fld 9 (.t 1)⟩,
 ⟨some 11,none,.ldi 1 false (.t 10)⟩,
 ⟨some 12,none,.app 9 58 3 24 (.t 9) (.t 11)⟩,
 ⟨some 13,none,.fld 10 (.t 1)⟩,
 ⟨some 14,none,.ldi 1 false (.t 13)⟩,
 ⟨some 15,none,.fld 11 (.t 1)⟩,
 ⟨some 16,none,.ldi 1 false (.t 15)⟩,
 ⟨some 17,none,.bld [.nil 5,.nil 5,.int .i64 0,.nil 3,.int .i64 0,.int .i64 0,.int .i64 0,.nil 4,.int .i64 0,.nil 3,.int .i64 0,.int .i64 0] [(0,3,.t 5),(3,6,.t 8),(9,1,.t 12),(10,1,.t 14),(11,1,.t 16)]⟩,
 ⟨none,none,.sto 2 12 (.t 2) (.t 17)⟩]
def c16D:AFn:=⟨18,[.cell 2 12 true],.seq (.ops c16_r0 false) (.seq (.ops c16D_r1 true) (.fz [2] [2,5] .ret))⟩
def c16B:AFn:=⟨18,[.cell 2 12 true],.seq (.ops c16_r0 false) (.seq (.ops c16B_r1 true) (.fz [2] [2,8] .ret))⟩
def c16T:AFn:=⟨18,[.cell 2 12 true],.seq (.ops c16_r0 false) (.seq (.ops c16D_r1 true) (.fz [2] [2,5,9] .ret))⟩
theorem c16D_ok:FnOk Tryz.prog 16 c16D:=⟨_,Tryz.func16,by kernel_rfl⟩
theorem c16B_ok:FnOk Tryz.prog 16 c16B:=⟨_,Tryz.func16,by kernel_rfl⟩
@[simp] theorem subL_comp {α:Type} (lod:Nat→Option AO) (ids:List Nat) (f:α→List IV) (l:List α):List.map (subL lod ids∘List.map AV.iv∘f) l=List.map (List.map AV.iv∘f) l :=
 List.map_congr_left fun a _=>subL_iv lod ids (f a)
section
variable {K:World→Prop} (hK:∀ w w',K w→Below w.heap.size w w'→K w')
include hK
theorem goodo61S (c:Chain) (hl:c.deeds.length≤1000) (hs:c.sights.length≤1000):GoodO Tryz.prog K 61 [chV c] (.agg [.iv (deedsV c.deeds),.aref 0 c.sights.length,.iv (.int .i64 c.wrong)]) 48 5 (c.sights.map sC) 0:=by
 refine goodo_of_wp (.cell 2 3 true) 9 hK c61S_ok (by simp[c61S]) rfl ?_
 simp[c61S,rowO]
 omega
theorem goodo62B (m:Machine) (hl:m.levers.length≤1000) (hs:m.bals.length≤1000):GoodO Tryz.prog K 62 [maV m] (.agg [.iv (leversV m.levers),.iv (.int .i64 m.water),.iv (.int .i64 m.llo),.iv (.int .i64 m.lhi),.aref 0 m.bals.length,.iv (.int .i64 m.wrong)]) 50 4 (m.bals.map baC) 0:=by
 refine goodo_of_wp (.cell 2 6 true) 9 hK c62B_ok (by simp[c62B]) rfl ?_
 simp[c62B,rowO]
 omega
@[simp] def prA (p:Proof) (ds ss bs ts:AV):List AV:=[ds,ss,.iv (.int .i64 p.chain.wrong),.iv (leversV p.machine.levers),.iv (.int .i64 p.machine.water),.iv (.int .i64 p.machine.llo),.iv (.int .i64 p.machine.lhi),bs,.iv (.int .i64 p.machine.wrong),ts,.iv (.int .i64 p.need),.iv (.int .i64 p.rule)]
theorem goodo16S (p:Proof) (hs:Small p):GoodO Tryz.prog K 16 [prV p] (.agg (prA p (.iv (deedsV p.chain.deeds)) (.aref 0 p.chain.sights.length) (.iv (balsV p.machine.bals)) (.iv (trialsV p.trials)))) 48 5 (p.chain.sights.map sC) 0:=by
 obtain ⟨h1,h2,h3,h4,h5⟩:=hs
 refine goodo_of_wp (.cell 2 12 true) 5 hK c16D_ok (by simp[c16D]) rfl ?_
 simp[c16D,c16D_r1]
 refine callO_of (goodo61S hK p.chain h1 h2) (by simp) ?_
 simp
 refine callK_of (good62 hK p.machine h3 h4) (.inl rfl) ?_
 simp[rowO]
 omega
theorem goodo16B (p:Proof) (hs:Small p):GoodO Tryz.prog K 16 [prV p] (.agg (prA p (.iv (deedsV p.chain.deeds)) (.iv (sightsV p.chain.sights)) (.aref 0 p.machine.bals.length) (.iv (trialsV p.trials)))) 50 4 (p.machine.bals.map baC) 0:=by
 obtain ⟨h1,h2,h3,h4,h5⟩:=hs
 refine goodo_of_wp (.cell 2 12 true) 8 hK c16B_ok (by simp[c16B]) rfl ?_
 simp[c16B,c16B_r1]
 refine callK_of (good61 hK p.chain h1 h2) (.inl rfl) ?_
 simp
 refine callO_of (goodo62B hK p.machine h3 h4) (by simp) ?_
 simp[rowO]
 omega
end
end Go.Pf

/- A proof with one more trial, at the end, at which nothing broke. -/
namespace Go.Pf
open Go Go.Ev Go.Proofs Go.RowKit
set_option maxRecDepth 8000
def prv:Deed:=⟨4,0,0,0,0⟩
def addD (D:List Deed):List Deed:=D++[prv]
def addC (c:Chain):Chain:=⟨addD c.deeds,c.sights,c.wrong⟩
def addT (p:Proof) (w:Int):Proof:=⟨addC p.chain,p.machine,p.trials++[⟨w,0,-1⟩],p.need,p.rule⟩
def addE (t:Truth):Truth:=⟨t.ends++[0],t.set⟩
end Go.Pf

/- The law of one more trial (ProofsLater). -/
namespace Go.Pf
open Go Go.Ev Go.Proofs Go.RowKit
set_option maxRecDepth 8000
@[simp] theorem emb_app5 (L:List (List IV)) (a b c d e:IV):emb L++[[.iv a,.iv b,.iv c,.iv d,.iv e]]=emb (L++[[a,b,c,d,e]]):=by simp[emb]
theorem kL_ok2 {p:Proof} (hp:OkP p):kL p true=knownL p:=by unfold kL;exact if_pos ⟨hp,rfl⟩
section
variable {K:World→Prop} (hK:∀ w w',K w→Below w.heap.size w w'→K w')
include hK
end
end Go.Pf

/- The law of whatever is replaced (ProofsReplaced). -/
namespace Go.Pf
open Go Go.Ev Go.Proofs Go.RowKit
set_option maxRecDepth 8000
def chD (x fin:Int) (d:Deed):Deed :=
 if d.what=1 then ⟨d.what,d.pos,fin,(d.bar+x).tmod 100,(d.smith+x).tmod 100⟩ else if d.what=2 then ⟨d.what,d.pos,fin,d.bar,d.smith⟩ else d
def chL (x fin:Int) (D:List Deed) (i:Nat):List (List IV):=((D.take i).map (chD x fin)++D.drop i).map dC
def mvN (n:Nat):Nat→Nat
 | 0=>0
 | _+1=>n
def chP (p:Proof) (x fin:Int):Proof:=⟨⟨p.chain.deeds.map (chD x fin),[],p.chain.wrong⟩,p.machine,p.trials,p.need,p.rule⟩
theorem span_in:∀ l:List Int,l≠[]→(span l).1∈l∧(span l).2∈l
 | [],h=>absurd rfl h
 | a::r,_=>by
   have key:∀ (r:List Int) (x u:Int),(r.foldl min x=x∨r.foldl min x∈r)∧(r.foldl max u=u∨r.foldl max u∈r):=by
    intro r
    induction r with
    | nil=>intro x u;exact ⟨.inl rfl,.inl rfl⟩
    | cons b r ih =>
      intro x u
      obtain ⟨h1,h2⟩:=ih (min x b) (max u b)
      simp only[List.foldl_cons,List.mem_cons]
      refine ⟨?_,?_⟩
      ·rcases h1 with h1 | h1
       ·rw[h1];omega
       ·exact .inr (.inr h1)
      ·rcases h2 with h2 | h2
       ·rw[h2];omega
       ·exact .inr (.inr h2)
   obtain ⟨h1,h2⟩:=key r a a
   simp only[span,List.mem_cons]
   exact ⟨h1,h2⟩
section
variable {K:World→Prop} (hK:∀ w w',K w→Below w.heap.size w w'→K w')
include hK
end
end Go.Pf

/- The law of what is more known (ProofsMore). -/
namespace Go.Pf
open Go Go.Ev Go.Proofs Go.RowKit
set_option maxRecDepth 8000
structure Inner (a p:Proof):Prop where
 sub:(knownL a).Sublist (knownL p)
 fail:∀ t,failN a t=failN p t
 proved:∀ l t,provedB a l t=provedB p l t
 good:∀ t,goodB a t=goodB p t
 rule:a.rule=p.rule
 link:∀ l,linkB a l=linkB p l
theorem filter_sub {α:Type} (f g:α→Bool) (l:List α) (h:∀ x,f x=true→g x=true):(l.filter f).Sublist (l.filter g):=by
 have:l.filter f=(l.filter g).filter f:=by
  rw[List.filter_filter]
  refine List.filter_congr fun x _=>?_
  cases hf:f x
  ·simp
  ·simp[h x hf]
 rw[this]
 exact List.filter_sublist
theorem flat_sub {α β:Type} (f:α→List β) {E E':List α} (h:E.Sublist E'):(E.flatMap f).Sublist (E'.flatMap f):=by
 induction h with
 | slnil=>exact List.Sublist.slnil
 | cons a _ ih=>rw[List.flatMap_cons];exact ih.trans (List.sublist_append_right _ _)
 | cons_cons a _ ih=>rw[List.flatMap_cons,List.flatMap_cons];exact List.Sublist.append (List.Sublist.refl _) ih
theorem flat_sub2 {α β:Type} (f g:α→List β) (h:∀ a,(f a).Sublist (g a)):∀ E:List α,(E.flatMap f).Sublist (E.flatMap g)
 | []=>List.Sublist.slnil
 | a::E=>by rw[List.flatMap_cons,List.flatMap_cons];exact List.Sublist.append (h a) (flat_sub2 f g h E)
def moreS (p:Proof) (s:Sight):Proof:=⟨⟨p.chain.deeds,p.chain.sights++[s],p.chain.wrong⟩,p.machine,p.trials,p.need,p.rule⟩
def moreB (p:Proof) (b:Balance):Proof:=⟨p.chain,⟨p.machine.levers,p.machine.water,p.machine.llo,p.machine.lhi,p.machine.bals++[b],p.machine.wrong⟩,p.trials,p.need,p.rule⟩
theorem moreS_inner (p:Proof) (s:Sight):Inner (moreS p s) p:=by
 refine ⟨?_,fun t=>rfl,fun l t=>rfl,fun t=>rfl,rfl,fun l=>rfl⟩
 unfold knownL
 refine flat_sub _ ?_
 unfold endsL
 refine filter_sub _ _ _ fun e he=>?_
 have he:=of_decide_eq_true he
 refine decide_eq_true ⟨he.1,?_⟩
 have h2:=he.2
 have e1:(moreS p s).chain.sights=p.chain.sights++[s]:=rfl
 rw[e1] at h2
 have e2:wrongsE (moreS p s).chain.deeds (p.chain.sights++[s]) (endF e)=wrongsE p.chain.deeds p.chain.sights (endF e)+wrongsE p.chain.deeds [s] (endF e):=List.countP_append
 rw[e2] at h2
 have e3:(moreS p s).chain.wrong=p.chain.wrong:=rfl
 rw[e3] at h2
 omega
theorem moreB_inner (p:Proof) (b:Balance):Inner (moreB p b) p:=by
 refine ⟨?_,fun t=>rfl,fun l t=>rfl,fun t=>rfl,rfl,fun l=>rfl⟩
 unfold knownL
 refine flat_sub2 _ _ (fun e=>List.Sublist.map _ ?_) _
 unfold setsL
 refine filter_sub _ _ _ fun s hs=>?_
 have hs:=of_decide_eq_true hs
 refine decide_eq_true ⟨hs.1,?_⟩
 have h2:=hs.2
 have e1:(moreB p b).machine.bals=p.machine.bals++[b]:=rfl
 rw[e1] at h2
 have e2:wrongsS (moreB p b).machine (p.machine.bals++[b]) s=wrongsS p.machine p.machine.bals s+wrongsS p.machine [b] s:=List.countP_append
 rw[e2] at h2
 have e3:(moreB p b).machine.wrong=p.machine.wrong:=rfl
 rw[e3] at h2
 omega
theorem told_sub {α:Type} (f:α→Bool) {l l':List α} (h:∀ t∈l,t∈l') (hne:l≠[]) (h3:toldN (l'.countP f) l'.length≠3):toldN (l.countP f) l.length=toldN (l'.countP f) l'.length:=by
 have hl:l.length≠0:=fun e=>hne (List.eq_nil_of_length_eq_zero e)
 obtain ⟨t,ht⟩:=List.exists_mem_of_ne_nil _ hne
 have hl':l'.length≠0:=fun e=>by have:=h t ht;rw[List.eq_nil_of_length_eq_zero e] at this;cases this
 by_cases h1:toldN (l'.countP f) l'.length=1
 ·rw[h1,toldN_sure,List.countP_eq_length]
  rw[toldN_sure,List.countP_eq_length] at h1
  exact fun x hx=>h1 x (h x hx)
 ·have h2:toldN (l'.countP f) l'.length=2:=by
   unfold toldN at *
   split
   ·rename_i e;rw[if_pos e] at h1;exact absurd rfl h1
   ·rename_i e
    rw[if_neg e] at h3
    split
    ·rfl
    ·rename_i e2;rw[if_neg e2] at h3;exact absurd rfl h3
  rw[h2,toldN_never hl,List.countP_eq_zero]
  rw[toldN_never hl',List.countP_eq_zero] at h2
  exact fun x hx=>h2 x (h x hx)
theorem Inner.kE {a p:Proof} (h:Inner a p) (hp:OkP p) (hk:kE a true=0):kE p true=0:=by
 have hne:=(kE_ok hk).2.2.2
 obtain ⟨t,ht⟩:=List.exists_mem_of_ne_nil _ hne
 exact kE_of hp (h.sub.subset ht)
theorem Inner.len {a p:Proof} (h:Inner a p) (ha:OkP a) (hp:OkP p):(kL a true).length≤(kL p true).length:=by
 rw[kL_ok2 ha,kL_ok2 hp];exact h.sub.length_le
theorem Inner.rFail {a p:Proof} (h:Inner a p) (hp:OkP p) (hk:Go.Pf.kE a true=0):(rFail p).1≤(rFail a).1∧(rFail a).2≤(rFail p).2:=by
 have hne:=(kE_ok hk).2.2.2
 unfold Go.Pf.rFail
 rw[kL_ok2 (kE_ok hk).1,kL_ok2 hp]
 have e:(fun t=>(failN a t:Int))=fun t=>(failN p t:Int):=funext fun t=>by rw[h.fail t]
 rw[e]
 have h1:=span_in ((knownL a).map fun t=>(failN p t:Int)) (fun e=>hne (List.map_eq_nil_iff.1 e))
 obtain ⟨t1,ht1,e1⟩:=List.mem_map.1 h1.1
 obtain ⟨t2,ht2,e2⟩:=List.mem_map.1 h1.2
 rw[← e1,← e2]
 exact ⟨(span_mem (fun t=>(failN p t:Int)) _ t1 (h.sub.subset ht1)).1,(span_mem (fun t=>(failN p t:Int)) _ t2 (h.sub.subset ht2)).2⟩
theorem Inner.rCond {a p:Proof} (h:Inner a p) (hp:OkP p) (hk:Go.Pf.kE a true=0) (h3:rCond p≠3):rCond a=rCond p:=by
 have hkp:=h.kE hp hk
 unfold Go.Pf.rCond at *
 rw[if_pos hkp] at h3 ⊢
 rw[if_pos hk,kL_ok2 (kE_ok hk).1]
 rw[kL_ok2 hp] at h3 ⊢
 have e:(fun t=>decide (a.rule≤(failN a t:Int)))=fun t=>decide (p.rule≤(failN p t:Int)):=funext fun t=>by rw[h.fail t,h.rule]
 rw[e]
 exact told_sub _ (fun t ht=>h.sub.subset ht) (kE_ok hk).2.2.2 h3
theorem Inner.rGood {a p:Proof} (h:Inner a p) (hp:OkP p) (hk:Go.Pf.kE a true=0) (h3:rGood p≠3):rGood a=rGood p:=by
 have hkp:=h.kE hp hk
 unfold Go.Pf.rGood at *
 rw[if_pos hkp] at h3 ⊢
 rw[if_pos hk,kL_ok2 (kE_ok hk).1]
 rw[kL_ok2 hp] at h3 ⊢
 have e:goodB a=goodB p:=funext fun t=>h.good t
 rw[e]
 exact told_sub _ (fun t ht=>h.sub.subset ht) (kE_ok hk).2.2.2 h3
theorem Inner.rProved {a p:Proof} (h:Inner a p) (hp:OkP p) (hk:Go.Pf.kE a true=0) {link:Int} (hl:linkB p link=true) (h3:rProved p link≠3):rProved a link=rProved p link:=by
 have hkp:=h.kE hp hk
 unfold Go.Pf.rProved at *
 rw[h.link link]
 rw[hl] at h3 ⊢
 rw[if_pos hkp] at h3 ⊢
 rw[if_pos hk,kL_ok2 (kE_ok hk).1]
 rw[kL_ok2 hp] at h3 ⊢
 have e:provedB a link=provedB p link:=funext fun t=>h.proved link t
 rw[e]
 exact told_sub _ (fun t ht=>h.sub.subset ht) (kE_ok hk).2.2.2 h3
end Go.Pf

/- The law of what is more known (ProofsMore), the walk. -/
namespace Go.Pf
open Go Go.Ev Go.Proofs Go.RowKit
set_option maxRecDepth 8000
section
variable {K:World→Prop} (hK:∀ w w',K w→Below w.heap.size w w'→K w')
include hK
set_option maxHeartbeats 1000000 in
theorem good22 (a p:Proof) (link:Int) (h:Inner a p) (hp:OkP p) (hf:Few p) (hl:linkB p link=true):Ev.Good Tryz.prog K 22 [prV a,prV p,.int .i64 link] (.bool true):=by
 refine good_of_wp hK c22_ok (by simp) ?_
 have g13:=good13 hK a
 generalize hd:decide (¬ farP a∧OkP a)=rd at g13
 cases rd
 ·simp
  refine callK_of (by simpa using g13) (.inl rfl) ?_
  simp
 obtain ⟨hfar,ha⟩:=of_decide_eq_true hd
 have hfa:=few_of hfar
 have hla:linkB a link=true:=by rw[h.link];exact hl
 have g27:=good27 hK a hfa
 have g27p:=good27 hK p hf
 have g17:=good17 hK a hfa
 have g17p:=good17 hK p hf
 have g23:=good23 hK a hfa
 have g23p:=good23 hK p hf
 have g18:=good18 hK a link hfa
 have g18p:=good18 hK p link hf
 have g19:=good19 hK a hfa
 have g19p:=good19 hK p hf
 rw[hla] at g18
 rw[hl] at g18p
 have hlen:=h.len ha hp
 have h30:decide ((3:Int)=0∨(3:Int)=3)=true:=by decide
 have h00:decide ((0:Int)=0∨(0:Int)=3)=true:=by decide
 have g21a:=good21 hK 3
 have g21b:=good21 hK 0
 rw[h30] at g21a
 rw[h00] at g21b
 have hE:=kE_known ha true
 have hEp:kE p true=0∨kE p true=3:=by
  rcases kE_known hp true with h | h | h
  ·exact .inl h
  ·exact .inr h
  ·cases h.1
 by_cases hk:kE a true=0
 ·have hkp:=h.kE hp hk
  have c1:=h.rFail hp hk
  have c2:=h.rCond hp hk
  have c3:=h.rProved hp hk hl
  have c4:=h.rGood hp hk
  rw[hk] at g27 g17 g23 g18 g19
  rw[hkp] at g27p g17p g23p g18p g19p
  generalize (kL a true).length=n1 at *
  generalize (kL p true).length=n2 at *
  generalize rFail a=F at *
  generalize rFail p=G at *
  obtain ⟨f1,f2⟩:=F
  obtain ⟨k1,k2⟩:=G
  generalize rCond a=a1 at *
  generalize rCond p=a2 at *
  generalize rProved a link=b1 at *
  generalize rProved p link=b2 at *
  generalize rGood a=d1 at *
  generalize rGood p=d2 at *
  simp only at g17 g17p c1
  have q1:¬ (n2:Int)<n1:=by omega
  have q2:¬ f1<k1:=by omega
  have q3:¬ k2<f2:=by omega
  simp
  refine callK_of (by simpa using g13) (.inl rfl) ?_
  simp
  refine callK_of (by simpa using g27) (.inl rfl) ?_
  simp
  refine callK_of (by simpa using g27p) (.inl rfl) ?_
  simp
  refine callK_of g21b (.inl rfl) ?_
  simp
  refine callK_of g21b (.inl rfl) ?_
  simp[q1]
  repeat' first | omega | intro _ | apply And.intro
  refine callK_of (by simpa using g17) (.inl rfl) ?_
  simp
  refine callK_of (by simpa using g17p) (.inl rfl) ?_
  simp[q2,q3]
  refine callK_of (by simpa using g23) (.inl rfl) ?_
  simp
  refine callK_of (by simpa using g23p) (.inl rfl) ?_
  by_cases ha2:a2=3
  ·simp[ha2]
   refine callK_of (by simpa using g18) (.inl rfl) ?_
   simp
   refine callK_of (by simpa using g18p) (.inl rfl) ?_
   by_cases hb2:b2=3
   ·simp[hb2]
    refine callK_of (by simpa using g19) (.inl rfl) ?_
    simp
    refine callK_of (by simpa using g19p) (.inl rfl) ?_
    by_cases hd2:d2=3
    ·simp[hd2]
    ·have:=c4 hd2
     simp[hd2,this]
   ·have:=c3 hb2
    simp[hb2,this]
    refine callK_of (by simpa using g19) (.inl rfl) ?_
    simp
    refine callK_of (by simpa using g19p) (.inl rfl) ?_
    by_cases hd2:d2=3
    ·simp[hd2]
    ·have:=c4 hd2
     simp[hd2,this]
  ·have:=c2 ha2
   simp[ha2,this]
   refine callK_of (by simpa using g18) (.inl rfl) ?_
   simp
   refine callK_of (by simpa using g18p) (.inl rfl) ?_
   by_cases hb2:b2=3
   ·simp[hb2]
    refine callK_of (by simpa using g19) (.inl rfl) ?_
    simp
    refine callK_of (by simpa using g19p) (.inl rfl) ?_
    by_cases hd2:d2=3
    ·simp[hd2]
    ·have:=c4 hd2
     simp[hd2,this]
   ·have:=c3 hb2
    simp[hb2,this]
    refine callK_of (by simpa using g19) (.inl rfl) ?_
    simp
    refine callK_of (by simpa using g19p) (.inl rfl) ?_
    by_cases hd2:d2=3
    ·simp[hd2]
    ·have:=c4 hd2
     simp[hd2,this]
 ·have hk3:kE a true=3:=by
   rcases hE with h | h | h
   ·exact absurd h hk
   ·exact h
   ·cases h.1
  rw[hk3] at g27
  generalize (kL a true).length=n1 at *
  generalize (kL p true).length=n2 at *
  generalize kE p true=E at *
  have g21o:=good21 hK E
  have hdE:decide (E=0∨E=3)=true:=decide_eq_true hEp
  rw[hdE] at g21o
  have q1:¬ (n2:Int)<n1:=by omega
  simp
  refine callK_of (by simpa using g13) (.inl rfl) ?_
  simp
  refine callK_of (by simpa using g27) (.inl rfl) ?_
  simp
  refine callK_of (by simpa using g27p) (.inl rfl) ?_
  simp
  refine callK_of g21a (.inl rfl) ?_
  simp
  refine callK_of g21o (.inl rfl) ?_
  simp[q1]
theorem law4 (p:Proof) (s:Sight) (b:Balance) (link:Int):Ev.Good Tryz.prog K 4 [prV p,.agg (sC s++baC b),.int .i64 link] (.bool true):=by
 refine good_of_wp hK c4_ok (by simp) ?_
 have g15:=good15 hK
 have g13:=good13 hK p
 generalize hd:decide (¬ farP p∧OkP p)=rd at g13
 cases rd
 ·simp
  refine callK_of (by simpa using g13) (.inl rfl) ?_
  simp
  refine callK_of g15 (.inl rfl) ?_
  simp
 obtain ⟨hfar,hp⟩:=of_decide_eq_true hd
 have hs:=small_of hfar
 have hf:=few_of hfar
 have g14:Ev.Good Tryz.prog K 14 [chV p.chain,.int .i64 link] (.bool (linkB p link)):=good14 hK p.chain link hs.deeds
 cases hlk:linkB p link
 ·rw[hlk] at g14
  simp
  refine callK_of (by simpa using g13) (.inl rfl) ?_
  simp
  refine callK_of (by simpa using g14) (.inl rfl) ?_
  simp
  refine callK_of g15 (.inl rfl) ?_
  simp
 rw[hlk] at g14
 have g22s:=good22 hK (moreS p s) p link (moreS_inner p s) hp hf hlk
 have g22b:=good22 hK (moreB p b) p link (moreB_inner p b) hp hf hlk
 have htl:=hs.sights
 have htb:=hs.bals
 simp
 refine callK_of (by simpa using g13) (.inl rfl) ?_
 simp
 refine callK_of (by simpa using g14) (.inl rfl) ?_
 simp
 refine callO_emb (goodo16S hK p hs) (by simp) ?_
 simp
 refine callO_emb (goodo16B hK p hs) (by simp) ?_
 simp[List.take_of_length_le,ivss_embA]
 repeat' first | omega | intro _ | apply And.intro
 refine callK_of (by simpa[moreS] using g22s) (.inr rfl) ?_
 simp[List.take_of_length_le,ivss_embA]
 repeat' first | omega | intro _ | apply And.intro
 refine callK_of (by simpa[moreB] using g22b) (.inr rfl) ?_
 simp
 refine callK_of g15 (.inl rfl) ?_
 simp
end
end Go.Pf
