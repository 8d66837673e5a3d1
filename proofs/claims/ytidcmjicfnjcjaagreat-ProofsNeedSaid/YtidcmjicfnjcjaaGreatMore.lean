/- The laws that compare with the reference: ProofsBroke, ProofsFailures, ProofsGood. -/
import Derived.Test.YtidcmjicfnjcjaaGreatAsks
set_option linter.all false

namespace Go.Pf
open Go Go.Ev Go.Proofs Go.RowKit
set_option maxRecDepth 8000
theorem choices_len:∀ ds:List Deed,(choices ds).length≤2 ^ twos ds
 | []=>by show 1≤2 ^ 0;decide
 | d::r=>by
   have ih:=choices_len r
   by_cases h2:d.frm=2
   ·have e1:twos (d::r)=twos r+1:=by simp[twos,h2]
    rw[e1,Nat.pow_succ]
    simp[choices,endsD,h2]
    omega
   ·have e1:twos (d::r)=twos r:=by simp[twos,h2]
    rw[e1]
    by_cases h0:d.frm=0
    ·simp[choices,endsD,h0];omega
    ·by_cases h1:d.frm=1
     ·simp[choices,endsD,h1];omega
     ·simp[choices,endsD,h0,h1,h2]
theorem ends_le2 (c:Chain):(endsL c [] c.deeds).length≤2 ^ twos c.deeds:=by
 refine Nat.le_trans (List.length_filter_le _ _) ?_
 simpa using choices_len c.deeds
theorem small_of {p:Proof} (h:¬ farP p):Small p:=by
 unfold farP farC farM at h
 simp only[not_or] at h
 exact ⟨by omega,by omega,by omega,by omega,by omega⟩
theorem ways_of {p:Proof} (h:¬ farP p) (hp:OkP p):1≤sets p.machine p.machine.levers.length∧sets p.machine p.machine.levers.length≤48∧2 ^ twos p.chain.deeds≤48:=by
 have h1:ways p≤48:=by
  unfold farP at h
  simp only[not_or] at h
  have:=h.2.2.2
  refine Classical.byContradiction fun hc=>this ⟨hp,by omega⟩
 have hl:=hp.machine.leak
 simp only[inR] at hl
 have h2:1≤sets p.machine p.machine.levers.length:=by
  have h3:=prodF_pos spanL p.machine.levers fun l hl=>(hp.machine.span hl).1
  unfold sets
  rw[List.take_of_length_le (Nat.le_refl _)]
  have h4:1*prodF spanL p.machine.levers≤(p.machine.lhi-p.machine.llo+1)*prodF spanL p.machine.levers:=Int.mul_le_mul_of_nonneg_right (by omega) (by omega)
  omega
 unfold ways at h1
 have hpos:1≤(2 ^ twos p.chain.deeds:Nat):=Nat.pos_of_ne_zero (by simp)
 generalize (2 ^ twos p.chain.deeds:Nat)=W at *
 generalize sets p.machine p.machine.levers.length=S at *
 have a1:S*1≤S*(W:Int):=Int.mul_le_mul_of_nonneg_left (by omega) (by omega)
 have a2:1*(W:Int)≤S*(W:Int):=Int.mul_le_mul_of_nonneg_right h2 (by omega)
 omega
theorem few_of {p:Proof} (h:¬ farP p):Few p:=by
 refine ⟨⟨small_of h,fun hp=>by have:=ways_of h hp;omega⟩,fun hp=>?_,fun hp=>?_,fun hp=>?_⟩
 ·have h1:=ends_le2 p.chain;have h2:=ways_of h hp;omega
 ·have h1:=setsL_le hp.machine;have h2:=ways_of h hp;omega
 ·have h1:=ends_le2 p.chain
  have h2:=ways_of h hp
  have h3:=setsL_le hp.machine
  rw[known_mul,stories_len,loads_len]
  have h4:(endsL p.chain [] p.chain.deeds).length*(setsL p.machine [] p.machine.levers).length≤48*48:=Nat.mul_le_mul (by omega) (by omega)
  omega
section
variable {K:World→Prop} (hK:∀ w w',K w→Below w.heap.size w w'→K w')
include hK
end
end Go.Pf

/- The law of the rule (ProofsRule). -/
namespace Go.Pf
open Go Go.Ev Go.Proofs Go.RowKit
set_option maxRecDepth 8000
def withRule (p:Proof) (r:Int):Proof:=⟨p.chain,p.machine,p.trials,p.need,r⟩
theorem toldN_sure {c n:Nat}:toldN c n=1↔c=n:=by
 unfold toldN
 split<;>rename_i h
 ·exact ⟨fun _=>by omega,fun _=>rfl⟩
 ·split<;>exact ⟨fun h=>by omega,fun h=>by omega⟩
theorem kE_known {p:Proof} (hp:OkP p) (is:Bool):kE p is=0∨kE p is=3∨(is=false∧kE p is=1):=by
 unfold kE
 rw[if_pos hp]
 cases is
 ·exact .inr (.inr ⟨rfl,rfl⟩)
 ·simp only[if_true]
  split
  ·exact .inr (.inl rfl)
  ·exact .inl rfl
def someN (p:Proof) (i:Nat):Nat:=(List.range i).countP fun k=>decide (0≤(tr p k).broke)
section
variable {K:World→Prop} (hK:∀ w w',K w→Below w.heap.size w w'→K w')
include hK
theorem good21 (e:Int):Ev.Good Tryz.prog K 21 [.int .i64 e] (.bool (decide (e=0∨e=3))):=by
 refine good_of_wp hK c21_ok (by simp) ?_
 by_cases h0:e=0<;>simp[h0]
end
end Go.Pf

/- The law of the greater load (ProofsNeed). -/
namespace Go.Pf
open Go Go.Ev Go.Proofs Go.RowKit
set_option maxRecDepth 8000
theorem okP_nd {p:Proof} {n:Int} (hp:OkP p) (hr:inR n 0 999999999):OkP (nd p n):=⟨hp.chain,hp.machine,hr,hp.rule,hp.many,hp.trials⟩
theorem far_nd {p:Proof} {n:Int} (h:¬ farP p) (hp:OkP p):¬ farP (nd p n):=by
 unfold farP at *
 intro h'
 refine h ?_
 rcases h' with h1 | h1 | h1 | h1
 ·exact .inl h1
 ·exact .inr (.inl h1)
 ·exact .inr (.inr (.inl h1))
 ·exact .inr (.inr (.inr ⟨hp,h1.2⟩))
theorem kE_nd {p:Proof} {n:Int} (hp:OkP p) (hr:inR n 0 999999999) (is:Bool):kE (nd p n) is=kE p is:=by
 have h1:kE (nd p n) is=if OkP (nd p n) then (if is=true then (if knownL p=[] then 3 else 0) else 1) else 60:=rfl
 have h2:kE p is=if OkP p then (if is=true then (if knownL p=[] then 3 else 0) else 1) else 60:=rfl
 rw[h1,h2,if_pos hp,if_pos (okP_nd hp hr)]
theorem kL_nd {p:Proof} {n:Int} (hp:OkP p) (hr:inR n 0 999999999) (is:Bool):kL (nd p n) is=kL p is:=by
 unfold kL
 cases is
 ·simp
 ·have e:knownL (nd p n)=knownL p:=rfl
  rw[if_pos (And.intro hp rfl),e]
  exact if_pos ⟨okP_nd hp hr,rfl⟩
theorem span_mono {α:Type} (f g:α→Int):∀ l:List α,(∀ t∈l,f t≤g t)→(span (l.map f)).1≤(span (l.map g)).1∧(span (l.map f)).2≤(span (l.map g)).2
 | [],_=>by simp[span]
 | a::r,h=>by
   have key:∀ (l:List α) (x y u v:Int),(∀ t∈l,f t≤g t)→x≤y→u≤v→(l.map f).foldl min x≤(l.map g).foldl min y∧(l.map f).foldl max u≤(l.map g).foldl max v:=by
    intro l
    induction l with
    | nil=>intro x y u v _ h1 h2;exact ⟨h1,h2⟩
    | cons b l ih =>
      intro x y u v hl h1 h2
      have hb:=hl b (by simp)
      simp only[List.map_cons,List.foldl_cons]
      exact ih _ _ _ _ (fun t ht=>hl t (by simp[ht])) (by omega) (by omega)
   have ha:=h a (by simp)
   simp only[List.map_cons,span]
   exact key r _ _ _ _ (fun t ht=>h t (by simp[ht])) ha ha
theorem fail_need {p:Proof} {n:Int} (hp:OkP p) {t:Truth} (ht:t∈knownL p) (h:p.need≤n):(failN p t:Int)≤failN (nd p n) t:=by
 have hd:=(hp.machine.denB (known_set ht)).1
 have:failN p t≤failN (nd p n) t:=by
  unfold failN
  have e:(nd p n).trials=p.trials:=rfl
  rw[e]
  refine List.countP_mono_left fun i _ hi=>?_
  unfold failedB at *
  have e1:tr (nd p n) i=tr p i:=rfl
  have e2:loadN (nd p n) i t.set=loadN p i t.set:=rfl
  have e3:(nd p n).need=n:=rfl
  rw[e1,e2,e3]
  simp only[Bool.and_eq_true,decide_eq_true_eq] at hi ⊢
  exact ⟨hi.1,Int.le_trans hi.2 (Int.mul_le_mul_of_nonneg_right h (by omega))⟩
 omega
theorem proved_need {p:Proof} {n:Int} (hp:OkP p) {t:Truth} (ht:t∈knownL p) (h:p.need≤n) (link:Int) (hb:provedB (nd p n) link t=true):provedB p link t=true:=by
 have hd:=(hp.machine.denB (known_set ht)).1
 unfold provedB at *
 have e:(nd p n).trials=p.trials:=rfl
 rw[e] at hb
 rw[List.any_eq_true] at *
 obtain ⟨i,hi,hb⟩:=hb
 refine ⟨i,hi,?_⟩
 unfold provedAt at *
 have e2:loadN (nd p n) i t.set=loadN p i t.set:=rfl
 have e3:(nd p n).need=n:=rfl
 have e4:thenN (nd p n) i (endF t.ends)=thenN p i (endF t.ends):=rfl
 have e5:brokeN (nd p n) i (endF t.ends)=brokeN p i (endF t.ends):=rfl
 rw[e2,e3,e4,e5] at hb
 simp only[Bool.and_eq_true,decide_eq_true_eq] at hb ⊢
 exact ⟨⟨Int.le_trans (Int.mul_le_mul_of_nonneg_right h (by omega)) hb.1.1,hb.1.2⟩,hb.2⟩
theorem rFail_need {p:Proof} {n:Int} (hp:OkP p) (hn:inR n 0 999999999) (h:p.need≤n):(rFail p).1≤(rFail (nd p n)).1∧(rFail p).2≤(rFail (nd p n)).2:=by
 unfold rFail
 rw[kL_nd hp hn]
 refine span_mono _ _ _ fun t ht=>?_
 have:kL p true=knownL p:=by unfold kL;rw[if_pos (And.intro hp rfl)]
 rw[this] at ht
 exact fail_need hp ht h
theorem rProved_need {p:Proof} {n:Int} (hp:OkP p) (hn:inR n 0 999999999) (h:p.need≤n) {link:Int} (hk:kE p (linkB p link)=0) (hs:rProved (nd p n) link=1):rProved p link=1:=by
 unfold rProved at *
 have el:linkB (nd p n) link=linkB p link:=rfl
 rw[el,kE_nd hp hn,kL_nd hp hn,if_pos hk,toldN_sure,List.countP_eq_length] at hs
 rw[if_pos hk,toldN_sure,List.countP_eq_length]
 intro t ht
 have:=hs t ht
 rw[(kE_ok hk).2.2.1] at ht
 exact proved_need hp ht h link this
theorem rGood_worst {p:Proof} {n:Int} (hp:OkP p) (hn:inR n 0 999999999) (hk:kE p true=0):rGood (nd p n)=1↔n≤rWorst p:=by
 unfold rGood
 rw[kE_nd hp hn,kL_nd hp hn,if_pos hk,toldN_sure,List.countP_eq_length,(kE_ok hk).2.2.1,← sure_worst hp hk hn.1 hn.2,List.all_eq_true]
theorem rGood_self {p:Proof} (hp:OkP p) (hk:kE p true=0):rGood p=1↔p.need≤rWorst p:=rGood_worst (n:=p.need) hp hp.need hk
theorem rWorst_le (p:Proof):rWorst p≤999999999:=by
 unfold rWorst
 have h:∀ (l:List Truth) (b:Int),l.foldl (fun b t=>min b (worthN p t)) b≤b:=by
  intro l
  induction l with
  | nil=>intro b;exact Int.le_refl _
  | cons a l ih=>intro b;exact Int.le_trans (ih _) (Int.min_le_left _ _)
 exact h _ _
section
variable {K:World→Prop} (hK:∀ w w',K w→Below w.heap.size w w'→K w')
include hK
set_option maxHeartbeats 1000000 in
theorem law3 (p:Proof) (more link:Int):Ev.Good Tryz.prog K 3 [prV p,.int .i64 more,.int .i64 link] (.bool true):=by
 refine good_of_wp hK c3_ok (by simp) ?_
 have g15:=good15 hK
 have g13:=good13 hK p
 generalize hd:decide (¬ farP p∧OkP p)=rd at g13
 cases rd
 ·simp
  refine callK_of (by simpa using g13) (.inl rfl) ?_
  simp
  refine callK_of g15 (.inl rfl) ?_
  simp
 obtain ⟨hfar,hp⟩:=of_decide_eq_true hd
 have hneed:=hp.need
 simp only[inR] at hneed
 by_cases h1:more<1
 ·simp
  refine callK_of (by simpa using g13) (.inl rfl) ?_
  simp[h1]
  refine callK_of g15 (.inl rfl) ?_
  simp
 by_cases h2:999999999<more
 ·simp
  refine callK_of (by simpa using g13) (.inl rfl) ?_
  simp[h1,h2]
  refine callK_of g15 (.inl rfl) ?_
  simp
 by_cases h3:999999999<p.need+more
 ·simp
  refine callK_of (by simpa using g13) (.inl rfl) ?_
  simp[h1,h2,h3]
  repeat' first | omega | intro _ | apply And.intro
  refine callK_of g15 (.inl rfl) ?_
  simp
 have hs:=small_of hfar
 have hf:=few_of hfar
 have g14:Ev.Good Tryz.prog K 14 [chV p.chain,.int .i64 link] (.bool (linkB p link)):=good14 hK p.chain link hs.deeds
 cases hlk:linkB p link
 ·rw[hlk] at g14
  simp
  refine callK_of (by simpa using g13) (.inl rfl) ?_
  simp[h1,h2,h3]
  repeat' first | omega | intro _ | apply And.intro
  refine callK_of (by simpa using g14) (.inl rfl) ?_
  simp
  refine callK_of g15 (.inl rfl) ?_
  simp
 rw[hlk] at g14
 have hn:inR (p.need+more) 0 999999999:=⟨by omega,by omega⟩
 have hf2:=few_of (far_nd (n:=p.need+more) hfar hp)
 have g16:=good16 hK p hs
 have g17:=good17 hK p hf
 have g17o:=good17 hK _ hf2
 have g18:=good18 hK p link hf
 have g18o:=good18 hK _ link hf2
 have g19:=good19 hK p hf
 have g19o:=good19 hK _ hf2
 have g20:=good20 hK p hf
 have el:linkB (nd p (p.need+more)) link=linkB p link:=rfl
 rw[el,kE_nd hp hn,hlk] at g18o
 rw[kE_nd hp hn] at g17o g19o
 rw[hlk] at g18
 have g21:=good21 hK (kE p true)
 have g21w:=good21 hK (rWorth p).2
 have c1:=rFail_need hp hn (show p.need≤p.need+more by omega)
 have c2:kE p true=0→rProved (nd p (p.need+more)) link=1→rProved p link=1:=fun hk=>rProved_need hp hn (show p.need≤p.need+more by omega) (by rw[hlk];exact hk)
 have c3:kE p true=0→(rGood (nd p (p.need+more))=1↔p.need+more≤rWorst p):=rGood_worst hp hn
 have c4:kE p true=0→(rGood p=1↔p.need≤rWorst p):=rGood_self hp
 have c5:=rWorst_le p
 have c6:rWorth p=if kE p true=0 then (if rWorst p<0 then (0,3) else (rWorst p,0)) else (0,kE p true):=rfl
 generalize rFail p=a1 at *
 generalize rFail (nd p (p.need+more))=a2 at *
 generalize rProved p link=b1 at *
 generalize rProved (nd p (p.need+more)) link=b2 at *
 generalize rGood p=d1 at *
 generalize rGood (nd p (p.need+more))=d2 at *
 generalize rWorth p=w at *
 generalize rWorst p=W at *
 have hE:=kE_known hp true
 generalize kE p true=E at *
 obtain ⟨a11,a12⟩:=a1
 obtain ⟨a21,a22⟩:=a2
 obtain ⟨w1,w2⟩:=w
 simp only at g17 g17o g20 g21w c1
 simp
 refine callK_of (by simpa using g13) (.inl rfl) ?_
 simp[h1,h2,h3]
 repeat' first | omega | intro _ | apply And.intro
 refine callK_of (by simpa using g14) (.inl rfl) ?_
 simp
 refine callK_of (by simpa using g16) (.inl rfl) ?_
 simp
 repeat' first | omega | intro _ | apply And.intro
 refine callK_of (by simpa using g17) (.inl rfl) ?_
 simp
 refine callK_of (by simpa[nd] using g17o) (.inl rfl) ?_
 simp
 refine callK_of (by simpa using g18) (.inl rfl) ?_
 simp
 refine callK_of (by simpa[nd] using g18o) (.inl rfl) ?_
 simp
 refine callK_of (by simpa using g19) (.inl rfl) ?_
 simp
 refine callK_of (by simpa[nd] using g19o) (.inl rfl) ?_
 simp
 refine callK_of (by simpa using g20) (.inl rfl) ?_
 simp
 by_cases hE0:E=0
 ·subst hE0
  have h21:decide ((0:Int)=0∨(0:Int)=3)=true:=by decide
  rw[h21] at g21
  refine callK_of g21 (.inl rfl) ?_
  simp
  have c2:=c2 rfl
  have c3:=c3 rfl
  have c4:=c4 rfl
  rw[if_pos rfl] at c6
  by_cases hW:W<0
  ·rw[if_pos hW] at c6
   injection c6 with c7 c8
   subst c7 c8
   have h21w:decide ((3:Int)=0∨(3:Int)=3)=true:=by decide
   rw[h21w] at g21w
   refine callK_of g21w (.inl rfl) ?_
   have k1:¬ a21<a11:=by omega
   have k2:¬ a22<a12:=by omega
   have k3:¬ d1=1:=by rw[c4];omega
   have k4:¬ d2=1:=by rw[c3];omega
   by_cases hb:b2=1
   ·have hb1:=c2 hb
    simp[k1,k2,k3,k4,hb,hb1]
    refine callK_of g15 (.inl rfl) ?_
    simp
   ·simp[k1,k2,k3,k4,hb]
    refine callK_of g15 (.inl rfl) ?_
    simp
  ·rw[if_neg hW] at c6
   injection c6 with c7 c8
   subst c7 c8
   have h21w:decide ((0:Int)=0∨(0:Int)=3)=true:=by decide
   rw[h21w] at g21w
   refine callK_of g21w (.inl rfl) ?_
   have k1:¬ a21<a11:=by omega
   have k2:¬ a22<a12:=by omega
   have k5:0≤w1:=by omega
   by_cases hd1:p.need≤w1
   ·have k3:=c4.2 hd1
    by_cases hd2:p.need+more≤w1
    ·have k4:=c3.2 hd2
     by_cases hb:b2=1
     ·have hb1:=c2 hb
      simp[k1,k2,k3,k4,hb,hb1,k5,c5,hd1,hd2]
      repeat' first | omega | intro _ | apply And.intro
      refine callK_of g15 (.inl rfl) ?_
      simp
     ·simp[k1,k2,k3,k4,hb,k5,c5,hd1,hd2]
      repeat' first | omega | intro _ | apply And.intro
      refine callK_of g15 (.inl rfl) ?_
      simp
    ·have k4:¬ d2=1:=fun h=>hd2 (c3.1 h)
     by_cases hb:b2=1
     ·have hb1:=c2 hb
      simp[k1,k2,k3,k4,hb,hb1,k5,c5,hd1,hd2]
      repeat' first | omega | intro _ | apply And.intro
      refine callK_of g15 (.inl rfl) ?_
      simp
     ·simp[k1,k2,k3,k4,hb,k5,c5,hd1,hd2]
      repeat' first | omega | intro _ | apply And.intro
      refine callK_of g15 (.inl rfl) ?_
      simp
   ·have k3:¬ d1=1:=fun h=>hd1 (c4.1 h)
    have hd2:¬ p.need+more≤w1:=by omega
    have k4:¬ d2=1:=fun h=>hd2 (c3.1 h)
    by_cases hb:b2=1
    ·have hb1:=c2 hb
     simp[k1,k2,k3,k4,hb,hb1,k5,c5,hd1,hd2]
     repeat' first | omega | intro _ | apply And.intro
     refine callK_of g15 (.inl rfl) ?_
     simp
    ·simp[k1,k2,k3,k4,hb,k5,c5,hd1,hd2]
     repeat' first | omega | intro _ | apply And.intro
     refine callK_of g15 (.inl rfl) ?_
     simp
 have hE3:E=3:=by
  rcases hE with h | h | h
  ·exact absurd h hE0
  ·exact h
  ·cases h.1
 subst hE3
 rw[if_neg (by decide)] at c6
 injection c6 with c7 c8
 subst c7 c8
 have h21:decide ((3:Int)=0∨(3:Int)=3)=true:=by decide
 rw[h21] at g21 g21w
 refine callK_of g21 (.inl rfl) ?_
 simp
 refine callK_of g21w (.inl rfl) ?_
 simp
 refine callK_of g15 (.inl rfl) ?_
 simp
end
end Go.Pf
