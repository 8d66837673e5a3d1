/- The laws that compare with the reference: ProofsBroke, ProofsFailures, ProofsGood. -/
import Derived.Test.YtidcmjicfnjcjaaGreatAsks
set_option linter.all false

namespace Go.Pf
open Go Go.Ev Go.Proofs Go.RowKit
set_option maxRecDepth 8000
theorem choices_len:∀ ds:List Deed,(choices ds).length≤2 ^ twos ds
 | []=>by show 1≤2 ^ 0;decide
 | d::r=>by
   have ih:=choices_len r
   by_cases h2:d.frm=2
   ·have e1:twos (d::r)=twos r+1:=by simp[twos,h2]
    rw[e1,Nat.pow_succ]
    simp[choices,endsD,h2]
    omega
   ·have e1:twos (d::r)=twos r:=by simp[twos,h2]
    rw[e1]
    by_cases h0:d.frm=0
    ·simp[choices,endsD,h0];omega
    ·by_cases h1:d.frm=1
     ·simp[choices,endsD,h1];omega
     ·simp[choices,endsD,h0,h1,h2]
theorem ends_le2 (c:Chain):(endsL c [] c.deeds).length≤2 ^ twos c.deeds:=by
 refine Nat.le_trans (List.length_filter_le _ _) ?_
 simpa using choices_len c.deeds
theorem small_of {p:Proof} (h:¬ farP p):Small p:=by
 unfold farP farC farM at h
 simp only[not_or] at h
 exact ⟨by omega,by omega,by omega,by omega,by omega⟩
theorem ways_of {p:Proof} (h:¬ farP p) (hp:OkP p):1≤sets p.machine p.machine.levers.length∧sets p.machine p.machine.levers.length≤48∧2 ^ twos p.chain.deeds≤48:=by
 have h1:ways p≤48:=by
  unfold farP at h
  simp only[not_or] at h
  have:=h.2.2.2
  refine Classical.byContradiction fun hc=>this ⟨hp,by omega⟩
 have hl:=hp.machine.leak
 simp only[inR] at hl
 have h2:1≤sets p.machine p.machine.levers.length:=by
  have h3:=prodF_pos spanL p.machine.levers fun l hl=>(hp.machine.span hl).1
  unfold sets
  rw[List.take_of_length_le (Nat.le_refl _)]
  have h4:1*prodF spanL p.machine.levers≤(p.machine.lhi-p.machine.llo+1)*prodF spanL p.machine.levers:=Int.mul_le_mul_of_nonneg_right (by omega) (by omega)
  omega
 unfold ways at h1
 have hpos:1≤(2 ^ twos p.chain.deeds:Nat):=Nat.pos_of_ne_zero (by simp)
 generalize (2 ^ twos p.chain.deeds:Nat)=W at *
 generalize sets p.machine p.machine.levers.length=S at *
 have a1:S*1≤S*(W:Int):=Int.mul_le_mul_of_nonneg_left (by omega) (by omega)
 have a2:1*(W:Int)≤S*(W:Int):=Int.mul_le_mul_of_nonneg_right h2 (by omega)
 omega
theorem few_of {p:Proof} (h:¬ farP p):Few p:=by
 refine ⟨⟨small_of h,fun hp=>by have:=ways_of h hp;omega⟩,fun hp=>?_,fun hp=>?_,fun hp=>?_⟩
 ·have h1:=ends_le2 p.chain;have h2:=ways_of h hp;omega
 ·have h1:=setsL_le hp.machine;have h2:=ways_of h hp;omega
 ·have h1:=ends_le2 p.chain
  have h2:=ways_of h hp
  have h3:=setsL_le hp.machine
  rw[known_mul,stories_len,loads_len]
  have h4:(endsL p.chain [] p.chain.deeds).length*(setsL p.machine [] p.machine.levers).length≤48*48:=Nat.mul_le_mul (by omega) (by omega)
  omega
section
variable {K:World→Prop} (hK:∀ w w',K w→Below w.heap.size w w'→K w')
include hK
end
end Go.Pf

/- The law of the rule (ProofsRule). -/
namespace Go.Pf
open Go Go.Ev Go.Proofs Go.RowKit
set_option maxRecDepth 8000
def withRule (p:Proof) (r:Int):Proof:=⟨p.chain,p.machine,p.trials,p.need,r⟩
theorem okP_rule {p:Proof} {r:Int} (hp:OkP p) (hr:inR r 1 12):OkP (withRule p r):=⟨hp.chain,hp.machine,hp.need,hr,hp.many,hp.trials⟩
theorem far_rule {p:Proof} {r:Int} (h:¬ farP p) (hp:OkP p):¬ farP (withRule p r):=by
 unfold farP at *
 intro h'
 refine h ?_
 rcases h' with h1 | h1 | h1 | h1
 ·exact .inl h1
 ·exact .inr (.inl h1)
 ·exact .inr (.inr (.inl h1))
 ·exact .inr (.inr (.inr ⟨hp,h1.2⟩))
theorem kE_rule {p:Proof} {r:Int} (hp:OkP p) (hr:inR r 1 12) (is:Bool):kE (withRule p r) is=kE p is:=by
 have h1:kE (withRule p r) is=if OkP (withRule p r) then (if is=true then (if knownL p=[] then 3 else 0) else 1) else 60:=rfl
 have h2:kE p is=if OkP p then (if is=true then (if knownL p=[] then 3 else 0) else 1) else 60:=rfl
 rw[h1,h2,if_pos hp,if_pos (okP_rule hp hr)]
theorem kL_rule {p:Proof} {r:Int} (hp:OkP p) (hr:inR r 1 12) (is:Bool):kL (withRule p r) is=kL p is:=by
 unfold kL
 cases is
 ·simp
 ·have e:knownL (withRule p r)=knownL p:=rfl
  rw[if_pos (And.intro hp rfl),e]
  exact if_pos ⟨okP_rule hp hr,rfl⟩
theorem toldN_sure {c n:Nat}:toldN c n=1↔c=n:=by
 unfold toldN
 split<;>rename_i h
 ·exact ⟨fun _=>by omega,fun _=>rfl⟩
 ·split<;>exact ⟨fun h=>by omega,fun h=>by omega⟩
theorem toldN_never {c n:Nat} (hn:n≠0):toldN c n=2↔c=0:=by
 unfold toldN
 split<;>rename_i h
 ·exact ⟨fun h=>by omega,fun h=>by omega⟩
 ·split<;>exact ⟨fun h=>by omega,fun h=>by omega⟩
theorem cond_rule {p:Proof} {r:Int} (hp:OkP p) (hr:inR r 1 12) (h:p.rule≤r) (hk:kE p true=0) (hc:rCond p=2):rCond (withRule p r)=2:=by
 have hne:=(kE_ok hk).2.2.2
 have hl:(kL p true).length≠0:=by rw[(kE_ok hk).2.2.1];exact fun e=>hne (List.eq_nil_of_length_eq_zero e)
 unfold rCond at *
 rw[kE_rule hp hr,kL_rule hp hr,if_pos hk] at *
 rw[toldN_never hl] at *
 rw[List.countP_eq_zero] at *
 intro t ht hd
 refine hc t ht ?_
 have:failN (withRule p r) t=failN p t:=rfl
 simp[this] at hd
 have e:(withRule p r).rule=r:=rfl
 rw[e] at hd
 simp;omega
theorem good_rule {p:Proof} {r:Int} (hp:OkP p) (hr:inR r 1 12) (h:p.rule≤r) (hk:kE p true=0) (hc:rGood p=1):rGood (withRule p r)=1:=by
 unfold rGood at *
 rw[kE_rule hp hr,kL_rule hp hr,if_pos hk] at *
 rw[toldN_sure] at *
 rw[List.countP_eq_length] at *
 intro t ht
 have h1:=hc t ht
 unfold goodB at *
 have e1:failN (withRule p r) t=failN p t:=rfl
 have e2:(withRule p r).rule=r:=rfl
 have e3:nowN (withRule p r) (endF t.ends)=nowN p (endF t.ends):=rfl
 have e4:(fun k:Nat=>provedB (withRule p r) k t)=fun k:Nat=>provedB p k t:=rfl
 rw[e1,e2,e3,e4]
 simp at h1 ⊢
 exact ⟨h1.1,by omega⟩
theorem kE_known {p:Proof} (hp:OkP p) (is:Bool):kE p is=0∨kE p is=3∨(is=false∧kE p is=1):=by
 unfold kE
 rw[if_pos hp]
 cases is
 ·exact .inr (.inr ⟨rfl,rfl⟩)
 ·simp only[if_true]
  split
  ·exact .inr (.inl rfl)
  ·exact .inl rfl
def someN (p:Proof) (i:Nat):Nat:=(List.range i).countP fun k=>decide (0≤(tr p k).broke)
theorem cond_few {p:Proof} (hk:kE p true=0) (h:(someN p p.trials.length:Int)<p.rule):rCond p=2:=by
 have hne:=(kE_ok hk).2.2.2
 have hl:(kL p true).length≠0:=by rw[(kE_ok hk).2.2.1];exact fun e=>hne (List.eq_nil_of_length_eq_zero e)
 unfold rCond
 rw[if_pos hk,toldN_never hl,List.countP_eq_zero]
 intro t ht hd
 have:failN p t≤someN p p.trials.length:=by
  unfold failN someN
  refine List.countP_mono_left fun i _ hi=>?_
  unfold failedB at hi
  simp at hi ⊢
  exact hi.1
 simp at hd
 omega
section
variable {K:World→Prop} (hK:∀ w w',K w→Below w.heap.size w w'→K w')
include hK
theorem good21 (e:Int):Ev.Good Tryz.prog K 21 [.int .i64 e] (.bool (decide (e=0∨e=3))):=by
 refine good_of_wp hK c21_ok (by simp) ?_
 by_cases h0:e=0<;>simp[h0]
theorem law6 (p:Proof) (more:Int):Ev.Good Tryz.prog K 6 [prV p,.int .i64 more] (.bool true):=by
 refine good_of_wp hK c6_ok (by simp) ?_
 have g15:=good15 hK
 have g13:=good13 hK p
 generalize hd:decide (¬ farP p∧OkP p)=rd at g13
 cases rd
 ·simp
  refine callK_of (by simpa using g13) (.inl rfl) ?_
  simp
  refine callK_of g15 (.inl rfl) ?_
  simp
 obtain ⟨hfar,hp⟩:=of_decide_eq_true hd
 have hrule:=hp.rule
 simp only[inR] at hrule
 by_cases h1:more<0
 ·simp
  refine callK_of (by simpa using g13) (.inl rfl) ?_
  simp[h1]
  refine callK_of g15 (.inl rfl) ?_
  simp
 by_cases h2:12<more
 ·simp
  refine callK_of (by simpa using g13) (.inl rfl) ?_
  simp[h1,h2]
  refine callK_of g15 (.inl rfl) ?_
  simp
 by_cases h3:12<p.rule+more
 ·simp
  refine callK_of (by simpa using g13) (.inl rfl) ?_
  simp[h1,h2,h3]
  repeat' first | omega | intro _ | apply And.intro
  refine callK_of g15 (.inl rfl) ?_
  simp
 have hs:=small_of hfar
 have hf:=few_of hfar
 have hr:inR (p.rule+more) 1 12:=⟨by omega,by omega⟩
 have hf2:=few_of (far_rule (r:=p.rule+more) hfar hp)
 have g16:=good16 hK p hs
 have g23:=good23 hK p hf
 have g23o:=good23 hK _ hf2
 have g19:=good19 hK p hf
 have g19o:=good19 hK _ hf2
 rw[kE_rule hp hr] at g23o g19o
 have g21:=good21 hK (kE p true)
 have htl:=hs.trials
 have c1:=fun hk h=>cond_rule hp hr (show p.rule≤p.rule+more by omega) hk h
 have c2:=fun hk h=>good_rule hp hr (show p.rule≤p.rule+more by omega) hk h
 have c3:=fun hk=>cond_few (p:=p) hk
 generalize rCond p=a1 at *
 generalize rCond (withRule p (p.rule+more))=a2 at *
 generalize rGood p=b1 at *
 generalize rGood (withRule p (p.rule+more))=b2 at *
 simp
 refine callK_of (by simpa using g13) (.inl rfl) ?_
 simp[h1,h2,h3]
 repeat' first | omega | intro _ | apply And.intro
 refine callK_of (by simpa using g16) (.inl rfl) ?_
 simp
 repeat' first | omega | intro _ | apply And.intro
 refine callK_of (by simpa using g23) (.inl rfl) ?_
 simp
 refine callK_of (by simpa[withRule] using g23o) (.inl rfl) ?_
 simp
 refine callK_of (by simpa using g19) (.inl rfl) ?_
 simp
 refine callK_of (by simpa[withRule] using g19o) (.inl rfl) ?_
 simp
 by_cases hk:kE p true=0
 ·have h21:decide (kE p true=0∨kE p true=3)=true:=decide_eq_true (.inl hk)
  rw[h21] at g21
  refine callK_of g21 (.inl rfl) ?_
  simp[hk]
  refine loop_q (fun i=>[(2,AV.iv (.ptr [deedsV p.chain.deeds,sightsV p.chain.sights,.int .i64 p.chain.wrong,leversV p.machine.levers,.int .i64 p.machine.water,.int .i64 p.machine.llo,.int .i64 p.machine.lhi,balsV p.machine.bals,.int .i64 p.machine.wrong,trialsV p.trials,.int .i64 p.need,.int .i64 p.rule])),(6,AV.iv (.int .i64 a1)),(8,AV.iv (.int .i64 a2)),(10,AV.iv (.int .i64 b1)),(12,AV.iv (.int .i64 b2)),(14,AV.iv (.int .i64 (someN p i:Nat))),(15,AV.iv (.int .i64 (i:Nat)))]) (fun _=>[]) p.trials.length (fun i=>True) trivial ?_ ?_
  ·intro _
   rw[LoopAt_enter c6_b0.eq_1]
   generalize someN p p.trials.length=n at *
   have c1:=c1 hk
   have c2:=c2 hk
   have c3:=c3 hk
   have c4:a1=2∨p.rule≤n:=Classical.byContradiction fun h=>by
    simp only[not_or] at h
    exact h.1 (c3 (by omega))
   by_cases ha:a1=2<;>by_cases hb:b1=1<;>by_cases hn:p.rule≤n<;>simp[ha,hb,hn] at c1 c2 c4<;>simp[ha,c1,hb,c2,hn]
   all_goals
    repeat' first | omega | intro _ | apply And.intro
    refine callK_of g15 (.inl rfl) ?_
    simp
  ·intro i hi _ ih
   have hle:someN p i≤i:=by
    have:=List.countP_le_length (p:=fun k=>decide (0≤(tr p k).broke)) (l:=List.range i)
    simpa[someN] using this
   have hsucc:someN p (i+1)=someN p i+if 0≤(tr p i).broke then 1 else 0:=by
    unfold someN
    rw[List.range_succ,List.countP_append]
    by_cases hb:0≤(tr p i).broke<;>simp[hb]
   rw[hsucc] at ih
   have htr:tr p i=p.trials[i]:=(tr_get hi).symm
   rw[LoopAt_enter c6_b0.eq_1]
   rw[htr] at ih
   generalize someN p i=n at *
   by_cases hb:0≤p.trials[i].broke
   ·simp[hi,hb] at ih ⊢
    repeat' first | omega | exact ih | intro _ | apply And.intro
   ·simp[hi,hb] at ih ⊢
    repeat' first | omega | exact ih | intro _ | apply And.intro
 by_cases hk3:kE p true=3
 ·have h21:decide (kE p true=0∨kE p true=3)=true:=decide_eq_true (.inr hk3)
  rw[h21] at g21
  refine callK_of g21 (.inl rfl) ?_
  simp[hk3]
  refine callK_of g15 (.inl rfl) ?_
  simp
 rcases kE_known hp true with h | h | h
 ·exact absurd h hk
 ·exact absurd h hk3
 ·cases h.1
end
end Go.Pf
