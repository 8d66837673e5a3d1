/- What is so in a truth of a proof: the program's functions. -/
import Derived.Test.YtanjbjjkofhanaaGreatDoorPartFour
import Derived.Lib.ItoaNum
import Derived.Lib.ItoaMem
import Derived.Lib.AtoiTie
import Derived.Lib.Strings
import Derived.Lib.SplitLaws
import Derived.Test.YtanjbjjkofhanaaGreatDoorPartThree
import Derived.ChangeAgain
import Derived.WalkSmall
import Derived.Test.YtanjbjjkofhanaaGreatDoorCards
import Derived.Test.YtanjbjjkofhanaaGreatDoorTie
import Derived.ProofKit
import Derived.OpenShut
import Derived.Lay
import Derived.Lib.LaidTab
import Derived.Stop.LaidErr
import Derived.JoinedCond
set_option linter.all false
namespace Go.Pf
open Go Go.Ev Go.Proofs Go.RowKit
variable {K:World->Prop} (hK:∀ w w',K w->Below w.heap.size w w'->K w')
set_option maxRecDepth 8000
def Zp (p:Qd) (s:Qm):List (List IV):=(List.range p.trials.length).map fun i=>[.int .i64 (Wm p.machine (tr p i).weight (tr p i).mins s),.int .i64 (upS p.machine (tr p i).weight (tr p i).mins s)]
def ZM (p:Qd) (t:QI):List IV:=Z8 p (Qr t.ends)++[.sl 2 (Zp p t.set)]
def nd (p:Qd) (need:Int):Qd:={ p with need:=need }
theorem UD {a b c:Int} (ha:0<=a) (hb:1<=b):(a+b-1).tdiv b<=c↔a<=c*b:=by
 rw[QK1 (by omega)]
 constructor
 ·intro h
  have h1:=Int.mul_ediv_add_emod (a+b-1) b;have h2:=Int.emod_lt_of_pos (a+b-1) (show 0<b by omega)
  have h3:b*((a+b-1) / b)<=b*c:=QK9 h (by omega)
  grind
 ·intro h
  have:(a+b-1) / b<c+1:=by
   rw[Int.ediv_lt_iff_lt_mul (by omega),Int.add_mul]
   omega
  omega
theorem UN {a b c:Int} (ha:0<=a) (hb:1<=b):c<=a.tdiv b↔c*b<=a:=by
 rw[QK1 ha];exact Int.le_ediv_iff_mul_le (by omega)
include hK
theorem QvB (p:Qd) (t:QI) (need:Int) (hp:OkP p) (hs:okS p.machine t.set) (i:Nat) (hi:i<p.trials.length):Ev.Good Tryz.prog K 243 [.agg (ZM p t),.int .i64 i,.int .i64 need] (.bool (ZW (nd p need) i t)):=by
 refine Qb hK QyM (by simp) ?_
 have hbr:QF p i (Qr t.ends)=if 0<=(tr p i).broke then (((Zn p i (Qr t.ends)).getD (tr p i).broke.toNat 0:Nat):Int) else -1:=rfl
 have hfd:ZW (nd p need) i t=(decide (0<=(tr p i).broke)&&decide (num p.machine t.set (tr p i).weight (tr p i).mins<=need*den t.set)):=rfl;have hnum:0<=num p.machine t.set (tr p i).weight (tr p i).mins:=(hp.machine.numB hs (hp.trial hi).1 (hp.trial hi).2.1).1;have hden:1<=den t.set:=(hp.machine.denB hs).1;have hup:=UD (c:=need) hnum hden;rw[hfd];by_cases hb:0<=(tr p i).broke
 ·rw[if_pos hb] at hbr
  by_cases h2:num p.machine t.set (tr p i).weight (tr p i).mins<=need*den t.set
  ·have h3:=hup.2 h2
   simp[ZM,Z8,Zp,hi,hbr,hb,upS,h2,h3]
  ·have h3:=fun h=>h2 (hup.1 h)
   simp[ZM,Z8,Zp,hi,hbr,hb,upS,h2,h3];omega
 ·rw[if_neg hb] at hbr
  simp[ZM,Z8,Zp,hi,hbr,hb]
omit hK in
theorem Qms (p:Qd) (t:QI) (n:Nat):(List.range (n+1)).countP (fun i=>ZW p i t)=(List.range n).countP (fun i=>ZW p i t)+if ZW p n t then 1 else 0:=by
 rw[QKU,QKV]
 grind
theorem Qh8 (p:Qd) (t:QI) (need:Int) (hp:OkP p) (hs:okS p.machine t.set):Ev.Good Tryz.prog K 176 [.agg (ZM p t),.int .i64 need] (.int .i64 (ZI (nd p need) t:Nat)):=by
 refine Qb hK QzE (by simp) ?_
 have htl:=hp.trialsLen;have hll:(Zp p t.set).length=p.trials.length:=by simp[Zp]
 have hf:ZI (nd p need) t=(List.range p.trials.length).countP (fun i=>ZW (nd p need) i t):=rfl
 have hsv:ZM p t=[.sl 1 ((List.range p.trials.length).map fun i=>[.int .u64 (Xw (Zn p i (Qr t.ends)):Nat)]),.sl 1 ((List.range p.trials.length).map fun i=>[.int .i64 (QF p i (Qr t.ends))]),ZG (XB p (Qr t.ends)),.sl 2 (Zp p t.set)]:=rfl
 rw[hsv];have hg:=fun i hi=>QvB hK p t need hp hs i hi
 rw[hsv] at hg;simp[hll];intro _
 refine Qe (fun i=>[(1,AV.iv (.int .i64 need)),(2,.iv (.ptr [.sl 1 ((List.range p.trials.length).map fun i=>[.int .u64 (Xw (Zn p i (Qr t.ends)):Nat)]),.sl 1 ((List.range p.trials.length).map fun i=>[.int .i64 (QF p i (Qr t.ends))]),ZG (XB p (Qr t.ends)),.sl 2 (Zp p t.set)])),
   (5,.iv (.int .i64 ((List.range i).countP (fun i=>ZW (nd p need) i t):Nat))),(9,.iv (.int .i64 p.trials.length)),(10,.iv (.int .i64 (i:Nat)))]) (fun _=>[]) p.trials.length (fun _=>True) trivial ?_ ?_
 ·intro _
  rw[Qa QjW.eq_1];simp[hf]
 ·intro i hi _ ih
  have hle:(List.range i).countP (fun i=>ZW (nd p need) i t)<=i:=by
   have:=QKI (p:=fun i=>ZW (nd p need) i t) (l:=List.range i)
   simpa using this
  rw[Qa QjW.eq_1];rw[Qms] at ih;simp[hi] at ih |-;refine cK (by simpa using hg i hi) ?_
  cases hb:ZW (nd p need) i t
  ·simp[hb] at ih |-
   grind
  ·simp[hb] at ih |-
   grind
omit hK in
theorem QkX {p:Qd} (hp:OkP p) (i:Nat) (e:Nat->Int):Xw (Zn p i e)<2 ^ 12:=QkW 12 _ fun n hn=>by
 have h1:=OkP.thenLt (p:=p) e i hn;have h2:=YA p.chain.deeds;have h3:(XX p.chain.deeds).length<=p.chain.deeds.length:=QKD _ _;have:=hp.deedsLen;omega
def QqL (p:Qd) (t:QI) (m i:Nat):Nat :=
 if p.need<=Wm p.machine (tr p i).weight (tr p i).mins t.set then m ||| (if 0<=QF p i (Qr t.ends) then Qtz (Xw (Zn p i (Qr t.ends))) (2 ^ (QF p i (Qr t.ends)).toNat) else Xw (Zn p i (Qr t.ends))) else m
def pmN (p:Qd) (t:QI) (n:Nat):Nat:=(List.range n).foldl (QqL p t) 0
omit hK in
theorem Wg (p:Qd) (t:QI) (n:Nat):pmN p t (n+1)=QqL p t (pmN p t n) n:=by simp[pmN,QKU]
omit hK in
theorem QaH {p:Qd} (hp:OkP p) (e:Nat->Int) {i:Nat} (hi:i<p.trials.length) : -1<=QF p i e/\QF p i e<12:=by
 by_cases hb:0<=(tr p i).broke
 ·obtain ⟨h1,h2⟩:=hp.brokeIn e hi hb
  have h3:=OkP.thenLt (p:=p) e i (QKj h1);have h4:=YA p.chain.deeds;have h5:(XX p.chain.deeds).length<=p.chain.deeds.length:=QKD _ _;have:=hp.deedsLen;omega
 ·simp[QF,hb]
omit hK in
theorem Qnn {p:Qd} (hp:OkP p) {t:QI} (hs:okS p.machine t.set) (need:Int) (m:Nat) {i:Nat} (hi:i<p.trials.length) {k:Nat} (hk:k<64):(QqL (nd p need) t m i).testBit k=(m.testBit k||Xf (nd p need) k t i):=by
 have hnum:=(hp.machine.numB hs (hp.trial hi).1 (hp.trial hi).2.1).1;have hden:=(hp.machine.denB hs).1;have hbb:=QaH hp (Qr t.ends) hi;have hiff:=UN (c:=need) hnum hden
 have hin:inN (Zn p i (Qr t.ends)) k=decide (k∈Zn p i (Qr t.ends)):=by
  unfold inN
  grind
 have e1:Xf (nd p need) k t i=(decide (need*den t.set<=num p.machine t.set (tr p i).weight (tr p i).mins)&&inN (Zn p i (Qr t.ends)) k&&!decide (QF p i (Qr t.ends)=k)):=rfl;have e2:QqL (nd p need) t m i=if need<=Wm p.machine (tr p i).weight (tr p i).mins t.set then m ||| (if 0<=QF p i (Qr t.ends) then Qtz (Xw (Zn p i (Qr t.ends))) (2 ^ (QF p i (Qr t.ends)).toNat) else Xw (Zn p i (Qr t.ends))) else m:=rfl
 rw[e1,e2,hin];by_cases h1:need<=Wm p.machine (tr p i).weight (tr p i).mins t.set
 ·have h2:need*den t.set<=num p.machine t.set (tr p i).weight (tr p i).mins:=hiff.1 h1
  rw[if_pos h1,Nat.testBit_or];by_cases h3:0<=QF p i (Qr t.ends)
  ·rw[if_pos h3,QsN (QLR (by decide) (by omega)) hk,QfV,Nat.testBit_two_pow]
   grind
  ·rw[if_neg h3,QfV]
   grind
 ·have h2:¬ need*den t.set<=num p.machine t.set (tr p i).weight (tr p i).mins:=fun h=>h1 (hiff.2 h)
  grind
omit hK in
theorem QdZ {p:Qd} (hp:OkP p) {t:QI} (hs:okS p.machine t.set) {need:Int} {k:Nat} (hk:k<64):(pmN (nd p need) t p.trials.length).testBit k=QC (nd p need) k t:=by
 have hat:∀ (m:Nat) {i:Nat},i<p.trials.length->(QqL (nd p need) t m i).testBit k=(m.testBit k||Xf (nd p need) k t i):=fun m i hi=>Qnn hp hs need m hi hk
 have:∀ n,n<=p.trials.length->(pmN (nd p need) t n).testBit k=(List.range n).any (Xf (nd p need) k t):=by
  intro n
  induction n with
  | zero=>intro _;simp[pmN]
  | succ n ih=>intro h;rw[Wg,hat _ (by omega),ih (by omega),Qcu]
 exact this _ (QKl _)
omit hK in
theorem QkM {p:Qd} (hp:OkP p) (t:QI) {need:Int} (n:Nat):pmN (nd p need) t n<2 ^ 64:=by
 have:∀ n,pmN (nd p need) t n<2 ^ 12:=fun n=>by
  induction n with
  | zero=>simp[pmN]
  | succ n ih =>
    rw[Wg];have h:=QkX hp n (Qr t.ends);unfold QqL;split
    ·refine QLJ ih ?_
     split
     ·exact QLO Nat.and_le_left h
     ·exact h
    ·exact ih
 grind
theorem Qh6 (p:Qd) (t:QI) (need:Int) (hp:OkP p):Ev.Good Tryz.prog K 181 [.agg (ZM p t),.int .i64 need] (.int .u64 (pmN (nd p need) t p.trials.length:Nat)):=by
 refine Qb hK Qzz (by simp) ?_
 have htl:=hp.trialsLen
 have hpl:∀ i,pmN (nd p need) t i<2 ^ 12:=fun i=>by
  have:∀ n,pmN (nd p need) t n<2 ^ 12:=fun n=>by
   induction n with
   | zero=>simp[pmN]
   | succ n ih =>
     rw[Wg];have h:=QkX hp n (Qr t.ends);unfold QqL;split
     ·refine QLJ ih ?_
      split
      ·exact QLO Nat.and_le_left h
      ·exact h
     ·exact ih
  exact this i
 have hsv:ZM p t=[.sl 1 ((List.range p.trials.length).map fun i=>[.int .u64 (Xw (Zn p i (Qr t.ends)):Nat)]),.sl 1 ((List.range p.trials.length).map fun i=>[.int .i64 (QF p i (Qr t.ends))]),ZG (XB p (Qr t.ends)),.sl 2 (Zp p t.set)]:=rfl
 rw[hsv];simp;intros
 refine Qe (fun i=>[(1,AV.iv (.int .i64 need)),(2,.iv (.ptr [.sl 1 ((List.range p.trials.length).map fun i=>[.int .u64 (Xw (Zn p i (Qr t.ends)):Nat)]),.sl 1 ((List.range p.trials.length).map fun i=>[.int .i64 (QF p i (Qr t.ends))]),ZG (XB p (Qr t.ends)),.sl 2 (Zp p t.set)])),
   (5,.iv (.int .u64 (pmN (nd p need) t i:Nat))),(11,.iv (.sl 1 ((List.range p.trials.length).map fun i=>[.int .u64 (Xw (Zn p i (Qr t.ends)):Nat)]))),(12,.iv (.int .i64 p.trials.length)),(13,.iv (.int .i64 (i:Nat)))]) (fun _=>[]) p.trials.length (fun _=>True) trivial ?_ ?_
 ·intro _
  rw[Qa QjU.eq_1];simp
 ·intro i hi _ ih
  have hm:=QkX hp i (Qr t.ends);have hbb:=QaH hp (Qr t.ends) hi;have hpi:=hpl i;rw[Qa QjU.eq_1];rw[Wg] at ih;have hat:∀ m,QqL (nd p need) t m i=if need<=Wm p.machine (tr p i).weight (tr p i).mins t.set then m ||| (if 0<=QF p i (Qr t.ends) then Qtz (Xw (Zn p i (Qr t.ends))) (2 ^ (QF p i (Qr t.ends)).toNat) else Xw (Zn p i (Qr t.ends))) else m:=fun m=>rfl
  rw[hat] at ih;have hld:(Zp p t.set)[i]?=some [.int .i64 (Wm p.machine (tr p i).weight (tr p i).mins t.set),.int .i64 (upS p.machine (tr p i).weight (tr p i).mins t.set)]:=by simp[Zp,hi]
  have hll:(Zp p t.set).length=p.trials.length:=by simp[Zp]
  generalize Wm p.machine (tr p i).weight (tr p i).mins t.set=lo at *;generalize upS p.machine (tr p i).weight (tr p i).mins t.set=up at *;generalize pmN (nd p need) t i=m at *
  have hld2:(Zp p t.set)[i]'(by omega)=[.int .i64 lo,.int .i64 up]:=by
   grind
  by_cases h1:need<=lo
  ·have h1':¬ lo<need:=by omega
   by_cases h3:0<=QF p i (Qr t.ends)
   ·obtain ⟨b,hb⟩:∃ b:Nat,QF p i (Qr t.ends)=b:=⟨(QF p i (Qr t.ends)).toNat,by omega⟩
    have hb12:b<12:=by omega
    have h2b:(2:Nat) ^ b<2 ^ 12:=QLR (by decide) hb12
    have q1:=QmI (Xw (Zn p i (Qr t.ends))) (2 ^ b) (by omega) (by omega)
    rw[<- Qhg (n:=b) (by omega)] at q1
    have q2:=QkP m (Qtz (Xw (Zn p i (Qr t.ends))) (2 ^ b)) (by omega) (Qqi (by omega))
    simp[h1,hb] at ih;simp[hi,hll,hld2,h1',hb,q1,q2]
    grind
   ·have q2:=QkP m (Xw (Zn p i (Qr t.ends))) (by omega) (by omega)
    simp[h1,h3] at ih;simp[hi,hll,hld2,h1',h3,q2]
    grind
  ·have h1':lo<need:=by omega
   simp[h1] at ih;simp[hi,hll,hld2,h1']
   grind
theorem Qh5 (s k:Nat) (hs:s<2 ^ 64) (hk:k<64):Ev.Good Tryz.prog K 182 [.int .u64 s,.int .i64 k] (.bool (s.testBit k)):=by
 refine Qb hK Qzy (by simp) ?_
 have:=QuA s k hk hs;cases hb:s.testBit k<;>simp[hb] at this<;>simp[this]
theorem QvA (s k:Nat) (hs:s<2 ^ 64) (hk:k<64):Ev.Good Tryz.prog K 244 [.int .i64 k,.ptr [.int .u64 s]] (.bool (!s.testBit k)):=by
 refine Qb hK QyL (by simp) ?_
 simp;refine cK (Qh5 hK s k hs hk) ?_;simp
theorem Qop (p:Qd) (t:QI) (need:Int) (hp:OkP p) (hs:okS p.machine t.set):Ev.Good Tryz.prog K 186 [.agg (ZM p t),.int .i64 need,.int .i64 p.rule] (.bool (Y3 (nd p need) t)):=by
 refine Qb hK Qzu (by simp) ?_
 have hl:=hp.deedsLen;have hsv:ZM p t=[.sl 1 ((List.range p.trials.length).map fun i=>[.int .u64 (Xw (Zn p i (Qr t.ends)):Nat)]),.sl 1 ((List.range p.trials.length).map fun i=>[.int .i64 (QF p i (Qr t.ends))]),ZG (XB p (Qr t.ends)),.sl 2 (Zp p t.set)]:=rfl
 have hg70:=Qh6 hK p t need hp;have hg65:=Qh8 hK p t need hp hs;rw[hsv] at hg70 hg65 |-
 have hlt:∀ n,pmN (nd p need) t n<2 ^ 12:=fun n=>by
  induction n with
  | zero=>simp[pmN]
  | succ n ih =>
    rw[Wg];have h:=QkX hp n (Qr t.ends);unfold QqL;split
    ·refine QLJ ih ?_
     split
     ·exact QLO Nat.and_le_left h
     ·exact h
    ·exact ih
 have hpm:=hlt p.trials.length
 have hnow:∀ n∈XB p (Qr t.ends),n<12:=fun n hn=>by
  have:=Ux _ _ _ n hn;have:=Qfa p.chain.deeds p.chain.deeds.length;omega
 have hbit:∀ n∈XB p (Qr t.ends),(pmN (nd p need) t p.trials.length).testBit n=QC (nd p need) n t:=fun n hn=>QdZ hp hs (by grind)
 have hnl:(XB p (Qr t.ends)).length<=1000:=by
  have h1:=ZP (Qr t.ends) hp.chain.deeds p.chain.deeds.length (QKl _) (QKl _);have h2:=hp.chain.deeds.cnt p.chain.deeds.length (QKl _) (QKl _);show (cab p.chain.deeds (Qr t.ends) p.chain.deeds.length).length<=1000
  omega
 have hgood:Y3 (nd p need) t=(((XB p (Qr t.ends)).all fun (k:Nat)=>QC (nd p need) k t)&&decide ((ZI (nd p need) t:Int)<p.rule)):=rfl
 have hall:((XB p (Qr t.ends)).all fun (k:Nat)=>QC (nd p need) k t)=!(((XB p (Qr t.ends)).map fun (n:Nat)=>(n:Int)).any fun x=>!(pmN (nd p need) t p.trials.length).testBit x.toNat):=by
  rw[Bool.eq_iff_iff];simp only[QKH,QKT,List.any_eq_false,QKt];constructor
  ·rintro h x ⟨n,hn,rfl⟩
   have h1:=h n hn;rw[<- hbit n hn] at h1;simp[h1]
  ·intro h n hn
   have:=h n ⟨n,hn,rfl⟩
   grind
 have hg129:=Qvz hK ((XB p (Qr t.ends)).map fun (n:Nat)=>(n:Int)) 244 [] [.ptr [.int .u64 (pmN (nd p need) t p.trials.length)]] (fun x=>!(pmN (nd p need) t p.trials.length).testBit x.toNat) (fun x hx=>by
  obtain ⟨n,hn,rfl⟩:=QKt.1 hx;have:=hnow n hn;simpa using QvA hK (pmN (nd p need) t p.trials.length) n (by omega) (by omega)) (by kernel_rfl) (by simpa using hnl)
 rw[hgood,hall];clear hall hgood;generalize ((XB p (Qr t.ends)).map fun (n:Nat)=>(n:Int)).any (fun x=>!(pmN (nd p need) t p.trials.length).testBit x.toNat)=A at *
 simp;refine cK (by simpa using hg70) ?_
 simp;refine cK (by simpa using hg65) ?_
 by_cases h1:(ZI (nd p need) t:Int)<p.rule
 ·simp[h1]
  refine QS (by simpa[Function.comp_def] using hg129) (.inr rfl) ?_
  simp
 ·simp[h1]
omit hK
noncomputable def Q3 (p:Qd):List (List IV):=(Zm p.chain [] p.chain.deeds).map fun e=>Z8 p (Qr e)
noncomputable def XP (p:Qd):List (List IV):=(QO p.machine [] p.machine.levers).map fun s=>[.sl 2 (Zp p s)]
def prC (p:Qd):List IV:=[Qp p.chain.deeds,Qh p.chain.sights,.int .i64 p.chain.wrong,Qq p.machine.levers,.int .i64 p.machine.water,.int .i64 p.machine.llo,.int .i64 p.machine.lhi,Ze p.machine.bals,.int .i64 p.machine.wrong,
 Q4 p.trials,.int .i64 p.need,.int .i64 p.rule]
noncomputable def Uj (p:Qd):List IV:=prC p++[.sl 3 (Q3 p),.sl 1 (XP p)]
def Qck (p:Qd) (t:QI):List IV:=[.agg (ZM p t)]
include hK
theorem QnQ (p:Qd) (hE:(Zm p.chain [] p.chain.deeds).length<=1000000) (hS:(QO p.machine [] p.machine.levers).length<=1000000):Qal Tryz.prog K 175 [.ptr (Uj p)] [] ((QD p).map (Qck p)):=by
 intro s b s' hf;refine QR QzF (by simp) hf.v rfl ?_
 unfold QD at hf;have hfile:Uj p=prC p++[.sl 3 ((Zm p.chain [] p.chain.deeds).map fun e=>Z8 p (Qr e)),.sl 1 ((QO p.machine [] p.machine.levers).map fun s=>[.sl 2 (Zp p s)])]:=rfl
 rw[hfile];generalize Zm p.chain [] p.chain.deeds=E at *;generalize QO p.machine [] p.machine.levers=S at *;obtain ⟨c0,c1,c2,c3,c4,c5,c6,c7,c8,c9,c10,c11,hpr⟩:∃ c0 c1 c2 c3 c4 c5 c6 c7 c8 c9 c10 c11,prC p=[c0,c1,c2,c3,c4,c5,c6,c7,c8,c9,c10,c11]:=⟨_,_,_,_,_,_,_,_,_,_,_,_,rfl⟩
 rw[hpr];rw[QLS] at hf;simp only[List.map_map] at hf;simp;intro _
 refine Ys E.length (fun i e o=>∃ si,e=[(0,AV.iv (.ptr [c0,c1,c2,c3,c4,c5,c6,c7,c8,c9,c10,c11,.sl 3 (E.map fun e=>Z8 p (Qr e)),.sl 1 (S.map fun s=>[.sl 2 (Zp p s)])])),(1,AV.cb 0),(11,.iv (.sl 3 (E.map fun e=>Z8 p (Qr e)))),(12,.iv (.int .i64 E.length)),(13,.iv (.int .i64 (i:Nat)))]/\o=[(0,.ext si)] /\
  ZX Tryz.prog K ((E.drop i).flatMap fun e=>S.map (Qck p∘fun s=>⟨e,s⟩)) si b s') ?_ ?_ _ _ ⟨s,by simp,by simp,by simpa using hf⟩
 ·rintro e o ⟨si,rfl,rfl,hfd⟩
  rw[QKM (QKl _)] at hfd;cases hfd;rw[Qa QjX.eq_1];simp
 ·rintro i e o hi ⟨si,rfl,rfl,hfd⟩ ih
  rw[QKG hi,QLi] at hfd;have hst:∃ s0 s1 s2,Z8 p (Qr E[i])=[s0,s1,s2]:=⟨_,_,_,rfl⟩
  obtain ⟨s0,s1,s2,hst⟩:=hst;rw[Qa QjX.eq_1];simp[hi,hst];intros
  refine Ys S.length (fun j e o=>∃ sj,e=[(0,AV.iv (.ptr [c0,c1,c2,c3,c4,c5,c6,c7,c8,c9,c10,c11,.sl 3 (E.map fun e=>Z8 p (Qr e)),.sl 1 (S.map fun s=>[.sl 2 (Zp p s)])])),(1,AV.cb 0),(5,.loc 5 0),(11,.iv (.sl 3 (E.map fun e=>Z8 p (Qr e)))),(12,.iv (.int .i64 E.length)),(13,.iv (.int .i64 (i:Nat))),
    (20,.iv (.sl 1 (S.map fun s=>[.sl 2 (Zp p s)]))),(21,.iv (.int .i64 S.length)),(22,.iv (.int .i64 (j:Nat)))]/\o=[(0,.ext sj),(5,.box [.iv s0,.iv s1,.iv s2])] /\
   ZX Tryz.prog K ((S.drop j).map (Qck p∘fun s=>⟨E[i],s⟩)++(E.drop (i+1)).flatMap fun e=>S.map (Qck p∘fun s=>⟨e,s⟩)) sj b s') ?_ ?_ _ _ ⟨si,by simp,by simp,by simpa using hfd⟩
  ·rintro e o ⟨sj,rfl,rfl,hfj⟩
   rw[QKM (QKl _)] at hfj;rw[Qa QjY.eq_1];simp
   grind
  ·rintro j e o hj ⟨sj,rfl,rfl,hfj⟩ ihj
   rw[QKG hj,QKF,QKs] at hfj
   have hitem:(Qck p∘fun s=>(⟨E[i],s⟩:QI)) S[j]=[.agg [s0,s1,s2,.sl 2 (Zp p S[j])]]:=by
    simp[Qck,ZM,hst]
   rw[hitem] at hfj;rw[Qa QjY.eq_1];simp[hj];cases hfj with
   | stop _ _ _ _ hg =>
     refine Q9 (by simpa using hg) rfl ?_
     simp
   | next _ _ _ s3 _ _ hg hr =>
     refine Q9 (by simpa using hg) rfl ?_
     simp
     (repeat' first | omega | (with_reducible apply And.intro) | intro _)
     exact ihj _ _ ⟨s3,by simp,by simp,hr⟩
theorem Qh4 (p:Qd) (hE:(Zm p.chain [] p.chain.deeds).length<=1000000) (hS:(QO p.machine [] p.machine.levers).length<=1000000) (hT:(QD p).length<=1000000000)
  (g:FuncId) (fs cs:List IV) (B:QI->Bool) (hg:∀ t∈QD p,Ev.Good Tryz.prog K g (fs++[.agg (ZM p t)]++cs) (.bool (B t))) (hc:callee Tryz.prog g=true) :
  Ev.Good Tryz.prog K 183 [.ptr (Uj p),.clo g fs cs] (.int .i64 (Xq ((QD p).countP B) (QD p).length)):=by
 refine Qb hK Qzx (by simp) ?_
 have hit:=QnQ hK p hE hS;generalize Uj p=F at *;generalize QD p=T at *;simp;refine Zb (wy:=.fall) (o':=[(5,.box [.iv (.int .i64 (T.countP B:Nat))]),(6,.box [.iv (.int .i64 (T.countP (fun t=>!B t):Nat))])]) rfl (by kernel_rfl) hit ?_ ?_
 ·have:=Uz.all (P:=Tryz.prog) (K:=K) (ps:=[10]) (asn:=QeR) (body:=QjT) (ks:=[3,5,6]) (ids:=[5,6]) (eK:=[(3,.iv (.ptr [.clo g fs cs])),(5,.loc 5 0),(6,.loc 6 0)]) (T.map (Qck p))
   (fun i=>[(5,.box [.iv (.int .i64 ((T.take i).countP B:Nat))]),(6,.box [.iv (.int .i64 ((T.take i).countP (fun t=>!B t):Nat))])]) fun i x hx=>by
   simp only[QKp,QKm] at hx;obtain ⟨t,ht,rfl⟩:=hx;obtain ⟨hlt,hget⟩:=QKh.1 ht;have hgt:=hg t (QKw ht);have hl1:(T.take i).countP B<=1000000000:=QKK QKI (by simp;omega)
   have hl2:(T.take i).countP (fun t=>!B t)<=1000000000:=QKK QKI (by simp;omega)
   refine ⟨rfl,?_⟩;rw[QKf hlt,QKV,QKV,hget];obtain ⟨v0,v1,v2,v3,hv⟩:∃ v0 v1 v2 v3,ZM p t=[v0,v1,v2,v3]:=⟨_,_,_,_,rfl⟩
   rw[hv] at hgt;simp[Qck,hv,QeR,QjT];refine ⟨hc,cK (by simpa using hgt) ?_⟩
   cases hb:B t
   ·simp[hb]
    omega
   ·simp[hb]
    omega
  simpa using this
 ·have hsum:T.countP B+T.countP (fun t=>!B t)=T.length:=by
   have:=List.length_eq_countP_add_countP B (l:=T)
   grind
  have htold:Xq (T.countP B:Nat) T.length=if T.countP (fun t=>!B t)=0 then 1 else if T.countP B=0 then 2 else 3:=by
   unfold Xq;omega
  rw[htold];clear htold hg hit;generalize T.countP B=a at *;generalize T.countP (fun t=>!B t)=d at *
  by_cases h1:d=0
  ·simp[h1]
  ·by_cases h2:a=0
   ·simp[h1,h2]
   ·simp[h1,h2]
omit hK
def Qly (d:Qx):Qx:=qX d 0
theorem WB (p:Qx->Bool) (hp:∀ d,p (Qly d)=p d):∀ (ds:List Qx) (i:Nat),Xr p (ds.map Qly) i=Xr p ds i
 | [],_=>rfl
 | d::r,i=>by simp only[QKF,Xr,hp,WB p hp r]
theorem QtJ (ds:List Qx) (i:Nat):wn (ds.map Qly) i=wn ds i:=by
 unfold wn;rw[<- QLQ,WB Q5 fun d=>rfl]
theorem Qnl (ds:List Qx):pv (ds.map Qly)=pv ds:=WB Xx (fun _=>rfl) ds 0
theorem QlV (ds:List Qx):Ji (ds.map Qly)=Ji ds:=WB Q5 (fun _=>rfl) ds 0
theorem QlA (ds:List Qx) (i:Nat):cnt (ds.map Qly) i=cnt ds i:=by
 unfold cnt;rw[<- QLQ,List.map_map];rfl
theorem QaF (ds:List Qx) (e:Nat->Int):∀ i,cab (ds.map Qly) e i=cab ds e i
 | 0=>rfl
 | i+1=>by
   have ih:=QaF ds e i;simp only[cab,QKp,ih,QtJ];cases ds[i]?<;>rfl
theorem Qmi (ds:List Qx) (k:Nat):Qbq (ds.map Qly) k=Qly (Qbq ds k):=by
 unfold Qbq;rw[QlV];simp only[List.getD_eq_getElem?_getD,QKp];cases ds[(Ji ds)[k]?.getD 0]?<;>rfl
theorem qy (ds:List Qx) (ss:List Xo) (e:Nat->Int):QL (ds.map Qly) ss e=QL ds ss e:=by
 unfold QL
 congr 1
 funext s
 simp only[Ul,QaF,QcP,Qmi];rfl
section
variable {ds ds':List Qx} (h:ds'.map Qly=ds.map Qly)
include h
theorem QkB:ds'.length=ds.length:=by simpa using congrArg List.length h
theorem QdP:pv ds'=pv ds:=by rw[<- Qnl ds',h,Qnl]
theorem QdQ (i:Nat):cnt ds' i=cnt ds i:=by rw[<- QlA ds',h,QlA]
theorem QkC (e:Nat->Int) (i:Nat):cab ds' e i=cab ds e i:=by rw[<- QaF ds',h,QaF]
theorem Qhh (ss:List Xo) (e:Nat->Int):QL ds' ss e=QL ds ss e:=by rw[<- qy ds',h,qy]
theorem Ql5 (p:Qd) (hp:p.chain.deeds=ds) (c:Qk) (hc:c.deeds=ds') (e:Nat->Int):Z8 { p with chain:=c } e=Z8 p e:=by
 have h1:∀ i,Zn { p with chain:=c } i e=Zn p i e:=fun i=>by
  show cab c.deeds e ((pv c.deeds).getD i 0)=cab p.chain.deeds e ((pv p.chain.deeds).getD i 0)
  rw[hc,hp,QdP h,QkC h]
 have h2:XB { p with chain:=c } e=XB p e:=by
  show cab c.deeds e c.deeds.length=cab p.chain.deeds e p.chain.deeds.length
  rw[hc,hp,QkB h,QkC h]
 have h3:∀ i,QF { p with chain:=c } i e=QF p i e:=fun i=>by
  unfold QF;rw[h1];rfl
 simp only[Z8,h1,h2,h3]
end
def Qdt:List Qx->List Int->List Qx
 | d::r,x::e=>qX d x::Qdt r e
 | _,_=>[]
theorem YE:∀ {ds:List Qx} {e:List Int},e.length=ds.length->(Qdt ds e).map Qly=ds.map Qly
 | [],[],_=>rfl
 | d::r,x::e,h=>by
   have:=YE (ds:=r) (e:=e) (by simpa using h)
   simp only[Qdt,QKF,this];rfl
theorem Qko:∀ {ds:List Qx} {e:List Int} (hl:e.length=ds.length) (i:Nat) (h:i<ds.length),(Qdt ds e)[i]?=some (qX ds[i] (e[i]'(by omega)))
 | d::r,x::e,hl,0,_=>rfl
 | d::r,x::e,hl,i+1,h=>by
   have:=Qko (ds:=r) (e:=e) (by simpa using hl) i (by simpa using h)
   simpa[Qdt] using this
theorem Q7:∀ {ds:List Qx} {e:List Int},e∈Qo ds->e.length=ds.length/\∀ i (h:i<ds.length) (h':i<e.length),e[i]∈Vb ds[i]
 | [],e,h=>by simp[Qo] at h;subst h;simp
 | d::r,e,h=>by
   simp only[Qo,QKY,QKt] at h;obtain ⟨x,hx,e',he',rfl⟩:=h;obtain ⟨h1,h2⟩:=Q7 he'
   grind
theorem U9:∀ {ds:List Qx},(∀ d∈ds,d.frm=0\/d.frm=1\/d.frm=2)->UI ds=(Qo ds).map (Qdt ds)
 | [],_=>rfl
 | d::r,h=>by
   have ih:=U9 (ds:=r) fun d hd=>h d (by simp[hd])
   have hd:=h d (by simp)
   have hself:∀ x,d.frm=x->qX d x=d:=fun x hx=>by subst hx;rfl
   rcases hd with hd | hd | hd
   ·simp[UI,Qo,Vb,hd,ih,Qdt,hself 0 hd,List.map_map,Function.comp_def]
   ·simp[UI,Qo,Vb,hd,ih,Qdt,hself 1 hd,List.map_map,Function.comp_def]
   ·simp[UI,Qo,Vb,hd,ih,Qdt,List.map_map,Function.comp_def]
theorem QbT {d:Qx} {x:Int} (h:x∈Vb d):(x=0\/x=1)/\(d.frm=2\/x=d.frm):=by
 unfold Vb at h
 grind
theorem OkD.frm {ds:List Qx} {n:Nat} (h:OkD ds n) (hn:ds.length<=n):∀ d∈ds,d.frm=0\/d.frm=1\/d.frm=2:=by
 intro d hd;obtain ⟨i,hi,rfl⟩:=QK0 hd;have:=h i hi (by omega)
 rcases this with ⟨_,h2,_⟩ | ⟨_,h2,_⟩ | ⟨_,_,h2,_⟩
 ·simp only[inR] at h2;omega
 ·simp only[inR] at h2;omega
 ·omega
section
variable {c:Qk} (hc:OkC c) {e:List Int} (he:e∈Qo c.deeds)
include hc he
theorem Qds:(Qdt c.deeds e).length=c.deeds.length:=QkB (YE (Q7 he).1)
theorem Qg7 (i:Nat) (h:i<c.deeds.length):∃ x,(Qdt c.deeds e)[i]?=some (qX c.deeds[i] x)/\(x=0\/x=1)/\(c.deeds[i].frm=2\/x=c.deeds[i].frm)/\Qr e i=x:=by
 obtain ⟨h1,h2⟩:=Q7 he;have h3:=QbT (h2 i h (by omega))
 refine ⟨e[i]'(by omega),Qko h1 i h,h3.1,h3.2,?_⟩
 simp[Qr,List.getD_eq_getElem?_getD,QKg (show i<e.length by omega)]
theorem QtE:OkD (Qdt c.deeds e) (Qdt c.deeds e).length:=by
 intro i h _;have hlen:=Qds hc he;have hi:i<c.deeds.length:=by omega
 obtain ⟨x,h1,h2,h3,_⟩:=Qg7 hc he i hi;rw[QKg h] at h1;injection h1 with h1
 rw[h1,QdQ (YE (Q7 he).1)];rcases hc.deeds i hi hi with ⟨a1,a2,a3⟩ | ⟨a1,a2,a3⟩ | ⟨a1,a2,a3,a4⟩
 ·exact .inl ⟨a1,by simp only[inR,qX];omega,a3⟩
 ·exact .inr (.inl ⟨a1,by simp only[inR,qX];omega,a3⟩)
 ·exact .inr (.inr ⟨a1,a2,by simp only[qX];omega,a4⟩)
theorem QmP:OkC { c with deeds:=Qdt c.deeds e }:=by
 have hlen:=Qds hc he;refine ⟨by simp only[hlen];exact hc.len,hc.slen,hc.wrong,QtE hc he,fun s hs=>?_⟩
 have:=hc.sights s hs;unfold ZV at *;simp only[hlen,QdQ (YE (Q7 he).1)];exact this
theorem Qkm:Zy (Qdt c.deeds e)=0:=by
 rw[Zy,QLM];intro d hd;obtain ⟨i,hi,rfl⟩:=QK0 hd;have hlen:=Qds hc he;obtain ⟨x,h1,h2,_⟩:=Qg7 hc he i (by omega)
 rw[QKg hi] at h1;injection h1 with h1
 have h3:¬ x=2:=by omega
 rw[h1];simp[qX,h3]
theorem Qan:Zs (Qdt c.deeds e) 0=Qr e:=by
 funext i
 have hlen:=Qds hc he;unfold Zs;rcases QLu i c.deeds.length with h | h
 ·obtain ⟨x,h1,h2,_,h4⟩:=Qg7 hc he i h
  have h5:¬ (qX c.deeds[i] x).frm=2:=by show ¬ x=2;omega
  rw[h1,h4];simp only;rw[if_neg h5];rfl
 ·rw[List.getElem?_eq_none (by omega)]
  have:=(Q7 he).1;simp[Qr,List.getD_eq_getElem?_getD,List.getElem?_eq_none (show e.length<=i by omega)]
theorem Qkn:QqZ c.deeds e:=by
 obtain ⟨h1,h2⟩:=Q7 he;refine ⟨h1,fun i h h'=>?_⟩
 have h3:=QbT (h2 i h h');simp only[inR];omega
theorem QtF:Z7 { c with deeds:=Qdt c.deeds e } true=0↔Qml c e:=by
 have h1:=QmP hc he
 have h2:QH { c with deeds:=Qdt c.deeds e }=if (QL c.deeds c.sights (Qr e):Int)<=c.wrong then [0] else []:=by
  have hw:=Qhh (YE (Q7 he).1) c.sights (Qr e);unfold QH;simp only[Qkm hc he,Qan hc he,Nat.pow_zero];rw[show List.range 1=[0] from rfl]
  by_cases h:(QL c.deeds c.sights (Qr e):Int)<=c.wrong
  ·rw[if_pos h,QLz (by simpa[Qan hc he,hw] using h)];rfl
  ·rw[if_neg h,QLA (by simpa[Qan hc he,hw] using h)];rfl
 unfold Z7 Qml;rw[if_pos h1,if_pos rfl,h2];have:=Qkn hc he
 grind
end
theorem qh (c:Qk) (hc:OkC c):YO c=(Zm c [] c.deeds).map fun e=>{ c with deeds:=Qdt c.deeds e }:=by
 unfold YO Zm;rw[U9 (hc.deeds.frm (QKl _)),List.map_map,List.filter_map];have e1:((Qo c.deeds).map fun x=>[]++x)=Qo c.deeds:=by simp
 rw[e1]
 congr 1
 refine List.filter_congr fun e he=>?_
 simp only[Function.comp_apply];rw[Bool.eq_iff_iff];simpa using QtF hc he
theorem Qea (p:Qd) (hc:OkC p.chain):(YO p.chain).map (fun c'=>Z8 { p with chain:=c' } (Zs c'.deeds 0))=Q3 p:=by
 unfold Q3;rw[qh _ hc,List.map_map];refine QLg fun e he=>?_
 have he':e∈Qo p.chain.deeds:=by
  simp only[Zm,QKJ] at he;simpa using he.1
 simp only[Function.comp_apply];rw[Qan hc he'];exact Ql5 (YE (Q7 he').1) p rfl _ rfl _
def Qao:List ZE->List Int->List ZE
 | l::r,x::e=>QcL l x::Qao r e
 | l,[]=>l
 | [],_=>[]
theorem Qdu (ls:List ZE):Qao ls []=ls:=by cases ls<;>rfl
theorem U3:∀ (ls:List ZE) (e:List Int),(Qao ls e).length=ls.length
 | [],[]=>rfl
 | [],_::_=>rfl
 | _::_,[]=>rfl
 | l::r,x::e=>by simp[Qao,U3 r e]
theorem Qe3:∀ (ls:List ZE) (e:List Int) (n:Int) (h:e.length<ls.length),Qao ls (e++[n])=(Qao ls e).set e.length (QcL ls[e.length] n)
 | l::r,[],n,_=>by simp[Qao,Qdu]
 | l::r,x::e,n,h=>by
   have:=Qe3 r e n (by simpa using h)
   simp[Qao,this]
theorem QcA:∀ (ls:List ZE) (e:List Int) (h:e.length<ls.length),(Qao ls e)[e.length]?=some ls[e.length]
 | l::r,[],_=>by simp[Qdu]
 | l::r,x::e,h=>by
   have:=QcA r e (by simpa using h)
   simpa[Qao] using this
def Xg (m:Machine) (s:Qm):Machine:={ m with levers:=Qao m.levers s.shorts,llo:=s.leak,lhi:=s.leak }
def Qd7 (m:Machine) (first:List Int):Machine:={ m with levers:=Qao m.levers first }
theorem QgZ:∀ (ls:List ZE) (e:List Int),QG (·.long) (Qao ls e)=QG (·.long) ls
 | [],[]=>rfl
 | [],_::_=>rfl
 | _::_,[]=>rfl
 | l::r,x::e=>by simp only[Qao,QG,QgZ r e];rfl
theorem QkS (m:Machine) (s s':Qm) (w mn:Int):num (Xg m s) s' w mn=num m s' w mn:=by
 unfold num Vj;rw[show (Xg m s).levers=Qao m.levers s.shorts from rfl,QgZ]
 rfl
theorem Qg8 (m:Machine) (s s':Qm):ZL (Xg m s) m.bals s'=ZL m m.bals s':=by
 unfold ZL
 congr 1
 funext b
 simp only[Wb,QkS]
theorem U6:∀ (ls:List ZE) (e:List Int),e.length=ls.length->Q2 (Qao ls e)=[e]
 | [],[],_=>rfl
 | l::r,x::e,h=>by
   have ih:=U6 r e (by simpa using h)
   have h1:(QcL l x).hi+1-(QcL l x).lo=1:=by simp only[QcL];omega
   simp only[Qao,Q2,ih,h1];simp[acc,QcL]
theorem Qnr {m:Machine} {s:Qm} (h:okS m s) (i:Nat) (hi:i<m.levers.length):(Qao m.levers s.shorts)[i]?=some (QcL m.levers[i] (s.shorts[i]'(by rw[h.1];exact hi))):=by
 have:∀ (ls:List ZE) (e:List Int) (i:Nat) (h1:e.length=ls.length) (hi:i<ls.length),(Qao ls e)[i]?=some (QcL ls[i] (e[i]'(by omega))):=by
  intro ls
  induction ls with
  | cons l r ih =>
    intro e i h1 hi;cases e with
    | nil=>simp at h1
    | cons x e =>
      cases i with
      | zero=>simp[Qao]
      | succ i=>simpa[Qao] using ih e i (by simpa using h1) (by simpa using hi)
  | _=>grind
 exact this _ _ i h.1 hi
theorem QqN {m:Machine} {s:Qm} (h:okS m s):okS (Xg m s) s:=by
 refine ⟨by simp only[Xg,U3];exact h.1,by simp[Xg,inR],fun i h1 h2=>?_⟩
 have hi:i<m.levers.length:=by simpa[Xg,U3] using h1
 have:=Qnr h i hi
 have h3:(Xg m s).levers[i]=QcL m.levers[i] (s.shorts[i]'(by rw[h.1];exact hi)):=by
  rw[show (Xg m s).levers=Qao m.levers s.shorts from rfl] at h1
  rw[QKg h1] at this;injection this
 rw[h3];simp[QcL,inR]
theorem qV (l:ZE):Zg l=false↔inR l.long 1 1000/\inR l.lo 1 l.hi/\l.hi<=1000:=by
 unfold Zg
 grind
theorem Qd2 {m:Machine} (hm:OkM m) {s:Qm} (h:okS m s):OkM (Xg m s):=by
 have h2:=h.2.1;have h3:=hm.leak;have h4:=hm.lhi;simp only[inR] at h2 h3;refine ⟨by simp only[Xg,U3];exact hm.len,fun l hl=>?_,hm.water,by simp only[Xg,inR];omega,by simp only[Xg];omega,hm.blen,hm.bals,hm.wrong⟩
 obtain ⟨i,hi,rfl⟩:=QK0 hl;have hi':i<m.levers.length:=by simpa[Xg,U3] using hi
 have h5:=Qnr h i hi'
 have h6:(Xg m s).levers[i]=QcL m.levers[i] (s.shorts[i]'(by grind)):=by
  rw[show (Xg m s).levers=Qao m.levers s.shorts from rfl] at hi
  rw[QKg hi] at h5;injection h5
 have h7:=h.2.2 i hi' (by grind)
 have h8:=hm.levers _ (QKj hi');rw[h6];rw[qV] at h8 |-;simp only[inR,QcL] at h7 h8 |-;omega
theorem QcI {m:Machine} {s:Qm} (h:okS m s):QO (Xg m s) [] (Xg m s).levers=if (ZL m m.bals s:Int)<=m.wrong then [s] else []:=by
 have h1:QM (Xg m s) [] (Xg m s).levers=[s]:=by
  unfold QM;rw[show (Xg m s).levers=Qao m.levers s.shorts from rfl,U6 _ _ h.1]
  have:((Xg m s).lhi+1-(Xg m s).llo).toNat=1:=by simp only[Xg];omega
  rw[this];simp[Xg]
 unfold QO;rw[h1]
 have h2:X6 (Xg m s) s↔(ZL m m.bals s:Int)<=m.wrong:=by
  unfold X6;rw[show (Xg m s).bals=m.bals from rfl,Qg8]
  exact ⟨fun h=>h.2,fun h'=>⟨QqN h,h'⟩⟩
 grind
theorem QtQ {m:Machine} (hm:OkM m) {s:Qm} (h:okS m s):tE (Xg m s) true=0↔X6 m s:=by
 unfold tE;rw[if_pos (Qd2 hm h),if_pos rfl,QcI h];unfold X6
 grind
theorem Qql {α β:Type} (f:α->β) (pc:Nat->List α) (n:Nat):(acc pc n).map f=acc (fun i=>(pc i).map f) n:=by simp[acc,QLS]
theorem QgY {α:Type} {pc pc':Nat->List α} {n:Nat} (h:∀ i<n,pc i=pc' i):acc pc n=acc pc' n:=by
 induction n with
 | zero=>rfl
 | succ n ih=>rw[ZK,ZK,ih fun i hi=>h i (by omega),h n (by omega)]
theorem Qdf {m:Machine} (hm:OkM m):∀ (r k:Nat) (first:List Int),k+r=m.levers.length->first.length=k->(∀ i (h:i<m.levers.length) (h':i<first.length),inR first[i] m.levers[i].lo m.levers[i].hi) ->
  Uu r (Qd7 m first) k=(QO m first (m.levers.drop k)).map (Xg m)
 | 0,k,first,hk,hf,hr=>by
   have hd:m.levers.drop k=[]:=QKM (by omega)
   have h1:QO m first (m.levers.drop k)=acc (fun i=>if X6 m ⟨first,m.llo+(i:Nat)⟩ then [⟨first,m.llo+(i:Nat)⟩] else []) (m.lhi+1-m.llo).toNat:=by
    rw[hd];simp only[QO,QM,Q2,QLi,List.flatMap_nil,QKv,acc];generalize (m.lhi+1-m.llo).toNat=n;generalize List.range n=L
    induction L with
    | _=>grind
   rw[h1,Qql];simp only[Uu];refine QgY fun i hi=>?_
   have hleak:inR (m.llo+(i:Nat)) m.llo m.lhi:=by
    have hi':i<(m.lhi+1-m.llo).toNat:=hi;simp only[inR];omega
   have hok:okS m ⟨first,m.llo+(i:Nat)⟩:=⟨by simp only;omega,hleak,hr⟩
   have hmach:XS (Qd7 m first) ((Qd7 m first).llo+(i:Nat))=Xg m ⟨first,m.llo+(i:Nat)⟩:=rfl
   unfold qO;rw[hmach];have:=QtQ hm hok
   grind
 | r+1,k,first,hk,hf,hr=>by
   have hlt:k<m.levers.length:=by omega
   have hget:(Qd7 m first).levers[k]?=some m.levers[k]:=by
    have:=QcA m.levers first (by omega)
    simp only[hf] at this;exact this
   rw[QKG hlt,W7,Qql];simp only[Uu,hget];refine QgY fun i hi=>?_
   have hfix:YQ (Qd7 m first) k m.levers[k] (m.levers[k].lo+(i:Nat))=Qd7 m (first++[m.levers[k].lo+(i:Nat)]):=by
    unfold YQ Qd7;rw[Qe3 m.levers first _ (by omega)]
    simp only[hf]
   rw[hfix];refine Qdf hm r (k+1) (first++[m.levers[k].lo+(i:Nat)]) (by omega) (by simp[hf]) fun j h h'=>?_
   rcases QLu j first.length with hj | hj
   ·grind
   ·have hjk:j=k:=by simp at h';omega
    subst hjk;rw[List.getElem_append_right hj];simp only[hf,Nat.sub_self,QLr,inR];omega
theorem QoI {m:Machine} (hm:OkM m):Uu m.levers.length m 0=(QO m [] m.levers).map (Xg m):=by
 have:=Qdf hm m.levers.length 0 [] (by omega) rfl (by simp)
 have e:Qd7 m []=m:=by unfold Qd7;rw[Qdu]
 grind
theorem Qmd {m:Machine} (hm:OkM m) {s:Qm} (h:X6 m s) {w mn:Int} (ha:JN w mn 0=true):XM (Xg m s) w mn=(Wm m w mn s,upS m w mn s):=by
 unfold XM tL;rw[ha,if_pos ⟨Qd2 hm h.1,rfl⟩,QcI h.1,if_pos h.2];simp only[QKF,List.map_nil,span,List.foldl_nil,Wm,upS,QkS]
theorem QtO {m:Machine} (hm:OkM m) (hs:sets m m.levers.length<=1000000):QDQ m:=by
 have hl:∀ l∈m.levers,1<=l.lo/\l.lo<=l.hi/\l.hi<=1000:=fun l hl=>by
  have:=(qV l).1 (hm.levers l hl);simp only[inR] at this;omega
 exact ⟨hm.len,hm.blen,hm.leak,hm.lhi,fun l h=>by have:=hl l h;simp only[Zo];omega,fun l h=>by grind,hs⟩
@[reducible] def Jo (p:Qd) (SS LL:List (List IV)):Qw :=
 [(0,.box [.loc 1 0]),(1,.box ((prC p).map AV.iv++[.aref 2 SS.length,.aref 3 LL.length])),(2,.arr 215 3 (emb SS) 0),(3,.arr 220 1 (emb LL) 0)]
def QFY (pe:List (Nat × Nat × Nat)) (o1:Qw):Env->Qw->Prop:=Qg2 [Qcz.tmp 4] [0,1,2,3] pe (.iv (.bool true)) o1
theorem Qo0 (p:Qd) (SS LL:List (List IV)) {s:Nat} {e:Env} {o:Qw} (h1:Ev.look e 4=.iv (.bool true)) (h2:Ev.look e s=.loc 0 0) (h3:∀ q∈Jo p SS LL,Qc o q.1=some q.2):QFY [(s,0,0)] (Jo p SS LL) e o:=by
 refine ⟨⟨.iv (.bool true),?_,rfl⟩,fun q hq=>?_,fun q hq=>?_⟩
 ·simp[Qub,QqI,h1]
 ·have:=h3 q hq
  simp only[QKq,QKu,or_false] at hq;rcases hq with rfl | rfl | rfl | rfl
  ·exact this
  ·refine this.trans ?_
   simp[rnO,rnL,rn,prC,nth]
  ·rw[Yl];exact this
  ·rw[Yl];exact this
 grind
theorem Yw (p:Qd) (SS LL:List (List IV)):∀ q∈Jo p SS LL,q.1<4/\Zk q.2=true/\clO ((Jo p SS LL).map (·.1)) q.2=true:=by
 intro q hq;simp only[QKq,QKu,or_false] at hq;rcases hq with rfl | rfl | rfl | rfl
 ·exact ⟨by omega,rfl,by simp[clO,clAL,clA]⟩
 ·exact ⟨by omega,rfl,by simp[clO,clAL,clA,prC]⟩
 ·exact ⟨by omega,rfl,Xn _ _ _ _ _⟩
 ·exact ⟨by omega,rfl,Xn _ _ _ _ _⟩
include hK
omit hK in
theorem Qsp:ZS Tryz.prog 236 QEq [1]:=⟨_,Tryz.func236,by kernel_rfl⟩
omit hK in
theorem Qso:ZS Tryz.prog 239 QEp [2]:=⟨_,Tryz.func239,by kernel_rfl⟩
theorem Qq7 (p:Qd) (c:Qk) (s0 s1 s2:IV) (SS LL:List (List IV)) (hn:SS.length<=1000000) (hg:Ev.Good Tryz.prog K 237 [chV c,Q4 p.trials] (.agg [s0,s1,s2])) :
  QU Tryz.prog K 236 [.iv (chV c),.loc 0 0,.iv (.ptr (prC p))] (Jo p SS LL) [0] (.iv (.bool true)) (Jo p (SS++[[s0,s1,s2]]) LL):=by
 refine Q1 [0,1,2,3] [0] [1] [(1,0,0)] Qsp (by simp[QEq]) (by simp) ?_ ?_ ?_ ?_
 ·exact Yw p _ _
 ·simp[clA]
 ·simp[nth,Qc]
  grind
 ·show WpF _ _ (FnF (QFY [(1,0,0)] (Jo p (SS++[[s0,s1,s2]]) LL))) _ _ _
  simp[prC];refine cK (by simpa using hg) ?_
  simp[prC,-List.map_map,Qu,QE,QB,Ql];refine ⟨by omega,Qo0 p _ _ rfl rfl fun q hq=>?_⟩
  simp only[QKq,QKu,or_false] at hq;rcases hq with rfl | rfl | rfl | rfl<;>simp[Qc,prC]
def QBs (p:Qd) (lo up:Nat->Int):List IV:=[.sl 2 ((List.range p.trials.length).map fun i=>[.int .i64 (lo i),.int .i64 (up i)])]
theorem Qq5 (p:Qd) (m:Machine) (hl:m.levers.length<=1000) (hb:m.bals.length<=1000) (ht:p.trials.length<=1000) (lo up:Nat->Int) (hr:∀ i,i<p.trials.length->XM m (tr p i).weight (tr p i).mins=(lo i,up i)) (SS LL:List (List IV)) (hn:LL.length<=1000000) :
  QU Tryz.prog K 239 [.iv (maV m),.iv (.ptr (prC p)),.loc 0 0] (Jo p SS LL) [0] (.iv (.bool true)) (Jo p SS (LL++[QBs p lo up])):=by
 refine Q1 [0,1,2,3] [0] [2] [(2,0,0)] Qso (by simp[QEp]) (by simp) ?_ ?_ ?_ ?_
 ·exact Yw p _ _
 ·simp[clA]
 ·simp[nth,Qc]
  grind
 ·show WpF _ _ (FnF (QFY [(2,0,0)] (Jo p SS (LL++[QBs p lo up])))) _ _ _
  generalize hG:Jo p SS (LL++[QBs p lo up])=G;simp[prC];intro _
  refine Qe (fun i=>[(2,AV.loc 0 0),(3,.iv (.ptr [Qq m.levers,.int .i64 m.water,.int .i64 m.llo,.int .i64 m.lhi,Ze m.bals,.int .i64 m.wrong])),(5,.aref 5 i),(11,.iv (Q4 p.trials)),(12,.iv (.int .i64 p.trials.length)),(13,.iv (.int .i64 (i:Nat)))])
   (fun i=>[(0,.box [.loc 1 0]),(1,.box ((prC p).map AV.iv++[.aref 2 SS.length,.aref 3 LL.length])),(2,.arr 215 3 (emb SS) 0),(3,.arr 220 1 (emb LL) 0),(5,.arr 28 2 (emb ((List.range i).map fun i=>[.int .i64 (lo i),.int .i64 (up i)])) 0)]) p.trials.length (fun _=>True) trivial ?_ ?_
  ·intro _
   rw[Qa Qjp.eq_1];simp[prC,-List.map_map,Qu,QE,QB,Ql,QKi];rw[<- hG];refine ⟨by omega,Qo0 p _ _ rfl rfl fun q hq=>?_⟩
   simp only[QKq,QKu,or_false] at hq;rcases hq with rfl | rfl | rfl | rfl<;>simp[Qc,prC,QBs]
  ·intro i hi _ ih
   have hg:=Qta hK m (tr p i).weight (tr p i).mins hl hb;rw[hr i hi] at hg;have htr:=YF hi;rw[Qa Qjp.eq_1];rw[QKU,QKy] at ih;simp at ih;simp[hi,htr,-List.map_map,Qu,QE,QB,Ql];refine cK (by simpa using hg) ?_
   have hsc:scrL [0,1,2,3,5] ((prC p).map AV.iv++[.aref 2 SS.length,.aref 3 LL.length])=(prC p).map AV.iv++[.aref 2 SS.length,.aref 3 LL.length]:=by simp[prC,scrL,scr]
   simp[hsc,-List.map_map,Qu,QE,QB,Ql]
   grind
omit hK in
theorem Quh {p:Qd} (hp:OkP p) {c:Qk} (hc:c∈YO p.chain):OkP { p with chain:=c }/\Zy c.deeds=0:=by
 rw[qh _ hp.chain] at hc;obtain ⟨e,he,rfl⟩:=QKt.1 hc
 have he':e∈Qo p.chain.deeds:=by
  simp only[Zm,QKJ] at he;simpa using he.1
 have hcore:=YE (Q7 he').1;refine ⟨⟨QmP hp.chain he',hp.machine,hp.need,hp.rule,?_,fun i h h'=>?_⟩,Qkm hp.chain he'⟩
 ·simp only[QdP hcore];exact hp.many
 ·simp only[QdP hcore] at h
  have:=hp.trials i h h';simp only[QdP hcore,QdQ hcore];exact this
theorem QfG (p:Qd) (hp:OkP p):∀ (L:List Qk) (SS LL:List (List IV)),(∀ c∈L,c∈YO p.chain)->SS.length+L.length<=1000000 ->
  YW Tryz.prog K 236 [] [.loc 0 0,.iv (.ptr (prC p))] [0] (L.map QhL) (Jo p SS LL) true (Jo p (SS++L.map fun c'=>Z8 { p with chain:=c' } (Zs c'.deeds 0)) LL)
 | [],SS,LL,_,_=>by simpa using YW.nil _
 | c::L,SS,LL,h,hn=>by
   have hc:=Quh hp (h c (by simp))
   have hg:=QvC hK { p with chain:=c } hc.1 hc.2
   have ih:=QfG p hp L (SS++[Z8 { p with chain:=c } (Zs c.deeds 0)]) LL (fun c' hc'=>h c' (by simp[hc'])) (by grind)
   refine .next _ _ _ _ _ _ (Qq7 hK p c _ _ _ SS LL (by simp at hn;omega) hg) (fun q hq=>(Yw p _ _ q hq).2.1) ?_
   simpa[Z8] using ih
theorem QfF (p:Qd) (hp:OkP p) (SS:List (List IV)):∀ (L:List Qm) (LL:List (List IV)),(∀ s∈L,X6 p.machine s)->LL.length+L.length<=1000000 ->
  YW Tryz.prog K 239 [] [.iv (.ptr (prC p)),.loc 0 0] [0] ((L.map (Xg p.machine)).map Qga) (Jo p SS LL) true (Jo p SS (LL++L.map fun s=>[.sl 2 (Zp p s)]))
 | [],LL,_,_=>by simpa using YW.nil _
 | s::L,LL,h,hn=>by
   have hs:=h s (by simp)
   have hm:=Qd2 hp.machine hs.1;have ih:=QfF p hp SS L (LL++[[.sl 2 (Zp p s)]]) (fun c' hc'=>h c' (by simp[hc'])) (by grind)
   have htl:=hp.trialsLen;have h1:=hm.len;have h2:=hm.blen
   have hg:=Qq5 hK p (Xg p.machine s) (by omega) (by omega) (by omega) (fun i=>Wm p.machine (tr p i).weight (tr p i).mins s) (fun i=>upS p.machine (tr p i).weight (tr p i).mins s) (fun i hi=>by
    have ht:=hp.trial hi;refine Qmd hp.machine hs ?_;simp only[JN,inR];have a1:=ht.1;have a2:=ht.2.1;simp only[inR] at a1 a2;simp;omega) SS LL (by simp at hn;omega)
   refine .next _ _ _ _ _ _ hg (fun q hq=>(Yw p _ _ q hq).2.1) ?_
   simpa[QBs,Zp] using ih
theorem Qq8 (p:Qd) (hp:OkP p):QU Tryz.prog K 235 [.iv (chV p.chain),.clo 236 [] [.loc 0 0,.iv (.ptr (prC p))]] (Jo p [] []) [0] (.iv (.bool true)) (Jo p (Q3 p) []):=by
 have hl:=hp.deedsLen;have hs:=hp.chain.slen;have hit:=QhJ hK (Zy p.chain.deeds) p.chain rfl (by omega) (by omega)
 have hr:=QfG hK p hp (YO p.chain) [] [] (fun c hc=>hc) (by
  rw[qh _ hp.chain,QKz];have:=QeE hp.chain;simp;omega)
 rw[QKx,Qea p hp.chain] at hr
 have:=WE hit (by kernel_rfl) (by simp[clAL]) (by simp[clAL,clA]) (fun i hi=>by
  simp at hi;subst hi;exact ⟨_,rfl⟩) (fun q hq=>(Yw p _ _ q hq).2.1) hr
 simpa using this
theorem Qq6 (p:Qd) (hp:OkP p) (hs:sets p.machine p.machine.levers.length<=1000000) (SS:List (List IV)):QU Tryz.prog K 238 [.iv (maV p.machine),.iv (.int .i64 0),.clo 239 [] [.iv (.ptr (prC p)),.loc 0 0]] (Jo p SS []) [0] (.iv (.bool true)) (Jo p SS (XP p)):=by
 have hit:=QnO hK p.machine.levers.length p.machine 0 (by omega) (QtO hp.machine hs)
 rw[QoI hp.machine] at hit
 have hr:=QfF hK p hp SS (QO p.machine [] p.machine.levers) [] (fun s h=>by
  simp only[QO,QKJ,decide_eq_true_eq] at h;exact h.2) (by
  have:=JU hp.machine;simp;omega)
 rw[QKx] at hr
 have:=WE hit (by kernel_rfl) (by simp[clAL]) (by simp[clAL,clA]) (fun i hi=>by
  simp at hi;subst hi;exact ⟨_,rfl⟩) (fun q hq=>(Yw p _ _ q hq).2.1) hr
 simpa[XP] using this
omit hK in
theorem Qlm (p:Qd) (SS LL SS' LL':List (List IV)) (args0:List AV) (ha:args0.all (clA [0,1,2,3])=true) (o:Qw) (h7:Qc o 7=some (.box [.loc 17 0])) (h17:Qc o 17=some (.box ((prC p).map AV.iv++[.aref 18012 SS.length,.aref 18013 LL.length])))
  (h12:Qc o 18012=some (.arr 215 3 (emb SS) 0)) (h13:Qc o 18013=some (.arr 220 1 (emb LL) 0)):HOk [7,17,18012,18013] args0 o (Jo p SS LL) (Jo p SS' LL'):=by
 refine ⟨by decide,ha,fun q hq=>?_,fun i hi h=>?_,fun q hq=>⟨(Yw p _ _ q hq).1,(Yw p _ _ q hq).2.1⟩⟩
 ·have h1:=Yw p _ _ q hq
  refine ⟨h1.1,?_,h1.2.2,h1.2.1⟩;simp only[QKq,QKu,or_false] at hq;rcases hq with rfl | rfl | rfl | rfl
  ·exact h7
  ·refine h17.trans ?_
   simp[rnO,rnL,rn,prC,nth]
  ·rw[Yl];exact h12
  ·rw[Yl];exact h13
 ·simp at hi
  have:i=0\/i=1\/i=2\/i=3:=by omega
  rcases this with rfl | rfl | rfl | rfl<;>simp[Qc] at h
theorem UQ (p:Qd) (is:Bool) (hf:QmO p):Ev.Good Tryz.prog K 171 [prV p,.bool is] (.tup [if kE p is=0 then .ptr (Uj p) else .nilp,.int .i64 (kE p is)]):=by
 refine Qb hK QzI (by simp) ?_
 simp;refine cK (by simpa using Qtk hK p hf.small) ?_
 by_cases hp:OkP p
 ·cases is
  ·simp[hp,kE]
  ·have hg1:=Qq8 hK p hp
   have hg2:=Qq6 hK p hp (hf.sets hp) (Q3 p);simp[hp];refine Qn hg1 ?_ ?_ ?_
   ·simp[rn,rnL,nth,prC]
   ·exact Qlm p [] [] _ _ _ (by simp[clA,clAL]) _ (by simp[Qc]) (by simp[Qc,prC]) (by simp[Qc,emb]) (by simp[Qc,emb])
   ·have hrn:rnL (nth [7,17,18012,18013]) ((prC p).map AV.iv++[.aref 2 (Q3 p).length,.aref 3 0])=(prC p).map AV.iv++[.aref 18012 (Q3 p).length,.aref 18013 0]:=by simp[rnL,rn,prC,nth]
    simp[hrn];refine Qn hg2 ?_ ?_ ?_
    ·simp[rn,rnL,nth,prC]
    ·exact Qlm p _ [] _ _ _ (by simp[clA,clAL]) _ (by simp[Qc]) (by simp[Qc,prC]) (by simp[Qc,emb]) (by simp[Qc,emb])
    ·have hrn2:rnL (nth [7,17,18012,18013]) ((prC p).map AV.iv++[.aref 2 (Q3 p).length,.aref 3 (XP p).length])=(prC p).map AV.iv++[.aref 18012 (Q3 p).length,.aref 18013 (XP p).length]:=by simp[rnL,rn,prC,nth]
     have hE1:QD p=[]↔Q3 p=[]\/XP p=[]:=by
      unfold QD Q3 XP;rw[List.flatMap_eq_nil_iff];simp only[List.map_eq_nil_iff];constructor
      ·intro h
       cases hE:Zm p.chain [] p.chain.deeds with
       | nil=>exact .inl rfl
       | cons a r=>exact .inr (h a (by rw[hE];simp))
      grind
     have hk:kE p true=if Q3 p=[]\/XP p=[] then 3 else 0:=by
      unfold kE
      grind
     have hfile:Uj p=prC p++[.sl 3 (Q3 p),.sl 1 (XP p)]:=rfl;rw[hk,hfile];generalize Q3 p=SS at *;generalize XP p=LL at *;simp[hrn2];cases SS with
     | nil=>simp[prC]
     | cons a r =>
       cases LL with
       | nil=>simp[prC]
       | cons a2 r2 =>
         simp[prC];omega
 ·simp[hp,kE]
omit hK
theorem Yi {p:Qd} {t:QI} (h:t∈QD p):okS p.machine t.set:=(Qf3 h).set
theorem UE (p:Qd):(Q3 p).length=(Zm p.chain [] p.chain.deeds).length:=by simp[Q3]
theorem Wo (p:Qd):(XP p).length=(QO p.machine [] p.machine.levers).length:=by simp[XP]
theorem Wq (p:Qd):(QD p).length=(Q3 p).length*(XP p).length:=by
 rw[UE,Wo];unfold QD;generalize Zm p.chain [] p.chain.deeds=E;generalize QO p.machine [] p.machine.levers=S
 induction E with
 | _=>grind
theorem QnJ {p:Qd} {is:Bool} (he:¬ kE p is=0):kL p is=[]:=by
 unfold kL kE at *
 grind
structure Few (p:Qd):Prop where
 fine:QmO p
 ends:OkP p->(Zm p.chain [] p.chain.deeds).length<=1000000
 sets:OkP p->(QO p.machine [] p.machine.levers).length<=1000000
 all:OkP p->(QD p).length<=100000
include hK
theorem Qh7 (p:Qd) (is:Bool) (hf:Few p) (g:FuncId) (fs cs:List IV) (B:QI->Bool) (hg:kE p is=0->∀ t∈QD p,Ev.Good Tryz.prog K g (fs++[.agg (ZM p t)]++cs) (.bool (B t))) (hc:callee Tryz.prog g=true) :
  Ev.Good Tryz.prog K 177 [prV p,.bool is,.clo g fs cs] (.tup [.int .i64 (if kE p is=0 then Xq ((kL p is).countP B) (kL p is).length else 0),.int .i64 (kE p is)]):=by
 refine Qb hK QzD (by simp) ?_
 have hg63:=UQ hK p is hf.fine;simp;refine cK (by simpa using hg63) ?_
 by_cases he:kE p is=0
 ·obtain ⟨hp,_,hk,_⟩:=X5 he
  have hg75:=Qh4 hK p (hf.ends hp) (hf.sets hp) (by have:=hf.all hp;omega) g fs cs B (hg he) hc
  rw[hk];generalize Uj p=F at *;simp[he];refine cK (by simpa using hg75) ?_
  simp
 ·simp[he]
theorem Qwe (p:Qd) (t:QI) (hp:OkP p) (hs:okS p.machine t.set):Ev.Good Tryz.prog K 178 [.agg (ZM p t),.ptr (prC p)] (.bool (decide (p.rule<=(ZI p t:Int)))):=by
 refine Qb hK QzC (by simp) ?_
 have hg:=Qh8 hK p t p.need hp hs;obtain ⟨v0,v1,v2,v3,hv⟩:∃ v0 v1 v2 v3,ZM p t=[v0,v1,v2,v3]:=⟨_,_,_,_,rfl⟩
 rw[hv] at hg |-;simp[prC];refine cK (by simpa using hg) ?_
 have hnd:nd p p.need=p:=rfl;simp[hnd]
theorem Qwa (p:Qd) (t:QI) (hp:OkP p) (hs:okS p.machine t.set):Ev.Good Tryz.prog K 185 [.agg (ZM p t),.ptr (prC p)] (.bool (Y3 p t)):=by
 refine Qb hK Qzv (by simp) ?_
 have hg:=Qop hK p t p.need hp hs;obtain ⟨v0,v1,v2,v3,hv⟩:∃ v0 v1 v2 v3,ZM p t=[v0,v1,v2,v3]:=⟨_,_,_,_,rfl⟩
 rw[hv] at hg |-;simp[prC];refine cK (by simpa using hg) ?_
 have hnd:nd p p.need=p:=rfl;simp[hnd]
theorem Qwc (p:Qd) (t:QI) (k:Nat) (hk:k<64) (hp:OkP p) (hs:okS p.machine t.set):Ev.Good Tryz.prog K 180 [.agg (ZM p t),.ptr (prC p),.ptr [.int .i64 k]] (.bool (QC p k t)):=by
 refine Qb hK QzA (by simp) ?_
 have hg:=Qh6 hK p t p.need hp;have hb:=QdZ hp hs (need:=p.need) hk;have hlt:∀ n,pmN (nd p p.need) t n<2 ^ 64:=fun n=>QkM hp t n
 have hg2:=Qh5 hK (pmN (nd p p.need) t p.trials.length) k (hlt _) hk;have hnd:nd p p.need=p:=rfl;rw[hb,hnd] at hg2;rw[hnd] at hg;obtain ⟨v0,v1,v2,v3,hv⟩:∃ v0 v1 v2 v3,ZM p t=[v0,v1,v2,v3]:=⟨_,_,_,_,rfl⟩
 rw[hv] at hg |-;simp[prC];refine cK (by simpa using hg) ?_
 simp;refine cK (by simpa using hg2) ?_
 simp
theorem QBJ (p:Qd) (hf:Few p):Ev.Good Tryz.prog K 98 [prV p] (.tup [.int .i64 (rCond p),.int .i64 (kE p true)]):=by
 refine Qb hK QCr (by simp) ?_
 have hg:=Qh7 hK p true hf 178 [] [.ptr (prC p)] (fun t=>decide (p.rule<=(ZI p t:Int))) (fun he t ht=>by
  have hp:=(X5 he).1;simpa using Qwe hK p t hp (Yi ht)) (by kernel_rfl)
 simp;refine cK (by simpa[prC] using hg) ?_
 simp[rCond]
theorem QwN (p:Qd) (hf:Few p):Ev.Good Tryz.prog K 104 [prV p] (.tup [.int .i64 (rGood p),.int .i64 (kE p true)]):=by
 refine Qb hK QAx (by simp) ?_
 have hg:=Qh7 hK p true hf 185 [] [.ptr (prC p)] (Y3 p) (fun he t ht=>by
  have hp:=(X5 he).1;simpa using Qwa hK p t hp (Yi ht)) (by kernel_rfl)
 simp;refine cK (by simpa[prC] using hg) ?_
 simp[rGood]
theorem QwL (p:Qd) (hf:Few p):Ev.Good Tryz.prog K 108 [prV p] (.tup [.int .i64 (if kE p true=0 then (Xk p.machine 0 p.need).1 else 0),.int .i64 (if kE p true=0 then (Xk p.machine 0 p.need).2 else kE p true)]):=by
 refine Qb hK QAv (by simp) ?_
 have hg:=UQ hK p true hf.fine;have hg2:=Qv7 hK p.machine 0 p.need hf.fine.small.levers hf.fine.small.bals;generalize Uj p=F at *;simp;refine cK (by simpa using hg) ?_
 by_cases he:kE p true=0
 ·simp[he]
  refine cK (by simpa using hg2) ?_
  simp
 ·simp[he]
omit hK
theorem Qcp (l:List Int) (n0:Int) (hne:l≠[]) (h:∀ x∈l,x<=n0):l.foldl min n0=(span l).1:=by
 cases l with
 | cons a r =>
   have:=h a (by simp)
   show r.foldl min (min n0 a)=r.foldl min a
   grind
 | _=>grind
theorem Qcq (l:List Int) (n0:Int) (hne:l≠[]) (h:∀ x∈l,n0<=x):l.foldl max n0=(span l).2:=by
 cases l with
 | cons a r =>
   have:=h a (by simp)
   show r.foldl max (max n0 a)=r.foldl max a
   grind
 | _=>grind
theorem Ub {α β:Type} (f:β->α->β) (b:β) (l:List α) (i:Nat) (h:i<l.length):(l.take (i+1)).foldl f b=f ((l.take i).foldl f b) l[i]:=by
 rw[QKf h,QLh];rfl
include hK
theorem QwP (p:Qd) (link:Int) (hf:Few p):Ev.Good Tryz.prog K 100 [prV p,.int .i64 link] (.tup [.int .i64 (rProved p link),.int .i64 (kE p (Jm p link))]):=by
 refine Qb hK QAz (by simp) ?_
 have hd:=hf.fine.small.deeds
 have hsl:(Yk p.chain.deeds).length=(Ji p.chain.deeds).length:=by
  rw[<- YA];simp[Yk,XX]
 have hwl:(Ji p.chain.deeds).length<=p.chain.deeds.length:=J5 Q5 p.chain.deeds 0
 have hg:=Qh7 hK p (Jm p link) hf 180 [] [.ptr (prC p),.ptr [.int .i64 link]] (QC p link) (fun he t ht=>by
  obtain ⟨hp,his,_⟩:=X5 he;have his:=of_decide_eq_true his;simp only[inR] at his;have:=hp.deedsLen;have h1:link=((link.toNat:Nat):Int):=by omega
  rw[h1];simpa using Qwc hK p t link.toNat (by omega) hp (Yi ht)) (by kernel_rfl)
 have hg67:=Us hK link 0 ((Ji p.chain.deeds).length-1);simp;refine cK (by simpa using Qwd hK p.chain hd) ?_
 have hsl2:=hsl;generalize Yk p.chain.deeds=S at *;simp[hsl]
 (repeat' first | omega | (with_reducible apply And.intro) | intro _)
 refine cK (by simpa using hg67) ?_
 simp;refine cK (by simpa[prC,Jm] using hg) ?_
 simp[rProved,Jm]
theorem QBK (p:Qd) (hf:Few p):Ev.Good Tryz.prog K 95 [prV p] (.tup [.agg [.int .i64 (rFail p).1,.int .i64 (rFail p).2],.int .i64 (kE p true)]):=by
 refine Qb hK QCt (by simp) ?_
 have hg:=UQ hK p true hf.fine;have htl:=hf.fine.small.trials;simp;refine cK (by simpa using hg) ?_
 by_cases he:kE p true=0
 ·obtain ⟨hp,_,hk,hne⟩:=X5 he
  have hit:=QnQ hK p (hf.ends hp) (hf.sets hp);have hset:∀ t∈QD p,okS p.machine t.set:=fun t ht=>Yi ht
  have hg65:∀ t∈QD p,Ev.Good Tryz.prog K 176 [.agg (ZM p t),.int .i64 p.need] (.int .i64 (ZI p t:Nat)):=fun t ht=>Qh8 hK p t p.need hp (hset t ht)
  have hmin:=Qcp ((QD p).map fun t=>(ZI p t:Int)) p.trials.length (by simpa using hne) (fun x hx=>by
   obtain ⟨t,_,rfl⟩:=QKt.1 hx;have:=Qez p t;omega)
  have hmax:=Qcq ((QD p).map fun t=>(ZI p t:Int)) 0 (by simpa using hne) (fun x hx=>by
   grind)
  have hr:rFail p=span ((QD p).map fun t=>(ZI p t:Int)):=by unfold rFail;rw[hk]
  rw[hr,<- hmin,<- hmax];generalize Uj p=F at *;generalize QD p=T at *;simp[he];intro _;refine Zb (wy:=.fall) (o':=[(2,.box [.iv (.int .i64 0),.iv (.int .i64 0)]),(6,.box [.iv (.int .i64 ((T.map fun t=>(ZI p t:Int)).foldl min p.trials.length)),.iv (.int .i64 ((T.map fun t=>(ZI p t:Int)).foldl max 0))])]) rfl (by kernel_rfl) hit ?_ ?_
  ·have:=Uz.all (P:=Tryz.prog) (K:=K) (ps:=[24]) (asn:=Qiu) (body:=Qpm) (ks:=[1,2,6]) (ids:=[2,6]) (eK:=[(1,.iv (.ptr (prC p))),(2,.loc 2 0),(6,.loc 6 0)]) (T.map (Qck p))
    (fun i=>[(2,.box [.iv (.int .i64 0),.iv (.int .i64 0)]),(6,.box [.iv (.int .i64 (((T.map fun t=>(ZI p t:Int)).take i).foldl min p.trials.length)),.iv (.int .i64 (((T.map fun t=>(ZI p t:Int)).take i).foldl max 0))])]) fun i x hx=>by
    simp only[QKp,QKm] at hx;obtain ⟨t,ht,rfl⟩:=hx;obtain ⟨hlt,hget⟩:=QKh.1 ht;have hgt:=hg65 t (QKw ht);refine ⟨rfl,?_⟩;rw[Ub _ _ _ i (by simpa using hlt),Ub _ _ _ i (by simpa using hlt)]
    obtain ⟨v0,v1,v2,v3,hv⟩:∃ v0 v1 v2 v3,ZM p t=[v0,v1,v2,v3]:=⟨_,_,_,_,rfl⟩
    rw[hv] at hgt;simp[Qck,hv,Qiu,Qpm,prC];refine cK (by simpa using hgt) ?_
    simp[hget,Vo,Un]
   simpa[prC] using this
  ·simp
 ·have hk:kL p true=[]:=QnJ he
  simp[he,rFail,hk,span]
omit hK
theorem Vy (l:List Int) (lo hi:Int):(Z1 l lo hi).Pairwise (·<·):=by
 unfold Z1 XZ;refine List.Pairwise.filter _ ?_;rw[List.pairwise_map];exact List.pairwise_lt_range.imp fun {a b} h=>by omega
theorem JS (l:List Int) (lo hi x:Int):x∈Z1 l lo hi↔lo<=x/\x<=hi/\x∈l:=by
 unfold Z1 XZ;simp only[QKJ,QKt,QKO,decide_eq_true_eq];constructor
 ·grind
 ·rintro ⟨h1,h2,h3⟩
  exact ⟨⟨(x-lo).toNat,by omega,by omega⟩,h3⟩
include hK
theorem QBM (p:Qd) (n:Int) (hf:Few p):Ev.Good Tryz.prog K 91 [prV p,.int .i64 n] (.tup [Qt (VG p n),.int .i64 (kE p (Q0 p n))]):=by
 refine Qb hK QCv (by simp) ?_
 have hg:=UQ hK p (Q0 p n) hf.fine;have hg93:Ev.Good Tryz.prog K 172 [prV p,.int .i64 n] (.bool (Q0 p n)):=Qoq hK p n hf.fine.small.trials;simp;refine cK (by simpa using hg93) ?_
 simp;refine cK (by simpa using hg) ?_
 by_cases he:kE p (Q0 p n)=0
 ·obtain ⟨hp,hn,hk,hne⟩:=X5 he
  have hn':=of_decide_eq_true hn;simp only[inR] at hn';have hE:=hf.ends hp;have htl:=hp.trialsLen;obtain ⟨i,rfl⟩:∃ i:Nat,n=i:=⟨n.toNat,by omega⟩
  have hi:i<p.trials.length:=by omega
  have hbr:VG p i=Y0 (((Zm p.chain [] p.chain.deeds).map fun e=>QF p i (Qr e)).filter fun x=>decide (0<=x)):=by
   refine Qhu (Vy _ _ _) (Jz _) fun x=>?_
   unfold VG;rw[JS,JA,hk];simp only[Int.toNat_natCast,QKt,QKJ,decide_eq_true_eq]
   have hS:QO p.machine [] p.machine.levers≠[]:=fun c=>by
    have h1:=Wq p;rw[Wo,c] at h1;exact hne (QKo (by simpa using h1))
   constructor
   ·rintro ⟨h1,h2,t,ht,rfl⟩
    simp only[QD,QKY,QKt] at ht
    grind
   ·rintro ⟨⟨e,he,rfl⟩,h1⟩
    have h2:=QaH hp (Qr e) hi;refine ⟨h1,by omega,?_⟩
    obtain ⟨s,hs⟩:=QLe _ hS;exact ⟨⟨e,s⟩,by simp only[QD,QKY,QKt];grind,rfl⟩
  rw[hbr];have hfile:Uj p=prC p++[.sl 3 (Q3 p),.sl 1 (XP p)]:=rfl;have hst:Q3 p=(Zm p.chain [] p.chain.deeds).map fun e=>Z8 p (Qr e):=rfl
  rw[hfile,hst];generalize XP p=LL at *;generalize Zm p.chain [] p.chain.deeds=E at *;simp[he,prC];intro _
  refine Qe (fun j=>[(1,AV.iv (.int .i64 (i:Nat))),(8,.oref 22),(26,.iv (.sl 3 (E.map fun e=>Z8 p (Qr e)))),(27,.iv (.int .i64 E.length)),(28,.iv (.int .i64 (j:Nat)))])
   (fun j=>[(22,.mapd (Qaf (XY (((E.take j).map fun e=>QF p i (Qr e)).filter fun x=>decide (0<=x)))))]) E.length (fun _=>True) trivial ?_ ?_
  ·intro _
   rw[Qa Qpo.eq_1];simp;refine cK (by simpa using Qh9 hK (Qaf (XY ((E.map fun e=>QF p i (Qr e)).filter fun x=>decide (0<=x))))) ?_
   simp;refine cK (qm ((E.map fun e=>QF p i (Qr e)).filter fun x=>decide (0<=x)) (fun x hx=>?_) ?_) ?_
   ·simp only[QKJ,QKt] at hx
    obtain ⟨⟨e,_,rfl⟩,_⟩:=hx;have:=QaH hp (Qr e) hi;omega
   ·grind
   ·simp
  ·intro j hj _ ih
   have hst:Z8 p (Qr E[j])=[.sl 1 ((List.range p.trials.length).map fun i=>[.int .u64 (Xw (Zn p i (Qr E[j])):Nat)]),.sl 1 ((List.range p.trials.length).map fun i=>[.int .i64 (QF p i (Qr E[j]))]),ZG (XB p (Qr E[j]))]:=rfl
   rw[Qa Qpo.eq_1];rw[QKf hj,QKy,QLj] at ih;by_cases hb:0<=QF p i (Qr E[j])
   ·have hfc:(List.map (fun e=>QF p i (Qr e)) [E[j]]).filter (fun x=>decide (0<=x))=[QF p i (Qr E[j])]:=by simp[hb]
    rw[hfc,XU] at ih;generalize hl:((E.take j).map fun e=>QF p i (Qr e)).filter (fun x=>decide (0<=x))=l at *
    have hll:l.length<=1000000:=by
     grind
    have hle:=Qex (QF p i (Qr E[j])) l;have hkk:=YD (XY l);have hff:=JJ (QF p i (Qr E[j])) (XY l);have hii:=WI (QF p i (Qr E[j])) (XY l);generalize XY l=kv at *;simp[hj,hst,hi,hb,hkk,hff,hii] at ih |-
    grind
   ·have hfc:(List.map (fun e=>QF p i (Qr e)) [E[j]]).filter (fun x=>decide (0<=x))=[]:=by simp[hb]
    rw[hfc,QKv] at ih;simp[hj,hst,hi,hb] at ih |-
    grind
 ·have hk:=QnJ he
  have hr:VG p n=[]:=by unfold VG;rw[hk];simp[Z1,XZ]
  simp[he,hr]
theorem QBL (p:Qd) (n:Int) (hf:Few p):Ev.Good Tryz.prog K 93 [prV p,.int .i64 n] (.tup [.agg [.int .i64 (if kE p (Q0 p n)=0 then (XM p.machine (tr p n.toNat).weight (tr p n.toNat).mins).1 else 0),.int .i64 (if kE p (Q0 p n)=0 then (XM p.machine (tr p n.toNat).weight (tr p n.toNat).mins).2 else 0)],
   .int .i64 (if kE p (Q0 p n)=0 then tE p.machine (JN (tr p n.toNat).weight (tr p n.toNat).mins 0) else kE p (Q0 p n))]):=by
 refine Qb hK QCu (by simp) ?_
 have hg:=UQ hK p (Q0 p n) hf.fine;have hg93:Ev.Good Tryz.prog K 172 [prV p,.int .i64 n] (.bool (Q0 p n)):=Qoq hK p n hf.fine.small.trials;simp;refine cK (by simpa using hg93) ?_
 simp;refine cK (by simpa using hg) ?_
 by_cases he:kE p (Q0 p n)=0
 ·obtain ⟨hp,hn,hk,hne⟩:=X5 he
  have hn':=of_decide_eq_true hn;simp only[inR] at hn';have hS:=hf.sets hp;have htl:=hp.trialsLen;obtain ⟨i,rfl⟩:∃ i:Nat,n=i:=⟨n.toNat,by omega⟩
  have hi:i<p.trials.length:=by omega
  have hSne:QO p.machine [] p.machine.levers≠[]:=fun c=>by
   have h1:=Wq p;rw[Wo,c] at h1;exact hne (QKo (by simpa using h1))
  have ha:JN (tr p i).weight (tr p i).mins 0=true:=by
   have a1:=(hp.trial hi).1;have a2:=(hp.trial hi).2.1;simp only[JN,inR] at a1 a2 |-;simp;omega
  have htE:tE p.machine true=0:=by
   unfold tE;rw[if_pos hp.machine,if_pos rfl,if_neg hSne]
  have hrl:XM p.machine (tr p i).weight (tr p i).mins=((span ((QO p.machine [] p.machine.levers).map (Wm p.machine (tr p i).weight (tr p i).mins))).1,(span ((QO p.machine [] p.machine.levers).map (upS p.machine (tr p i).weight (tr p i).mins))).2):=by
   unfold XM tL;rw[ha,if_pos ⟨hp.machine,rfl⟩]
  rw[Int.toNat_natCast,ha,htE,hrl];have hfile:Uj p=prC p++[.sl 3 (Q3 p),.sl 1 (XP p)]:=rfl;have hlv:XP p=(QO p.machine [] p.machine.levers).map fun s=>[.sl 2 (Zp p s)]:=rfl
  rw[hfile,hlv];have hld:∀ s,(Zp p s)[i]?=some [.int .i64 (Wm p.machine (tr p i).weight (tr p i).mins s),.int .i64 (upS p.machine (tr p i).weight (tr p i).mins s)]:=fun s=>by simp[Zp,hi]
  have hll:∀ s,(Zp p s).length=p.trials.length:=fun s=>by simp[Zp]
  have hld2:∀ s (h:i<(Zp p s).length),(Zp p s)[i]'h=[.int .i64 (Wm p.machine (tr p i).weight (tr p i).mins s),.int .i64 (upS p.machine (tr p i).weight (tr p i).mins s)]:=fun s h=>by
   grind
  generalize Q3 p=SS at *;generalize QO p.machine [] p.machine.levers=S at *;have hpos:0<S.length:=QLl.2 hSne;obtain ⟨s0,hs0⟩:∃ s0,S[0]=s0:=⟨_,rfl⟩
  have hcons:∃ S',S=s0::S':=by
   cases S with
   | _=>grind
  generalize Wm p.machine (tr p i).weight (tr p i).mins=lo at *;generalize upS p.machine (tr p i).weight (tr p i).mins=up at *
  have hmin:(span (S.map lo)).1=(S.map lo).foldl min (lo s0):=by
   obtain ⟨S',rfl⟩:=hcons;show (S'.map lo).foldl min (lo s0)=(S'.map lo).foldl min (min (lo s0) (lo s0))
   grind
  have hmax:(span (S.map up)).2=(S.map up).foldl max (up s0):=by
   obtain ⟨S',rfl⟩:=hcons;show (S'.map up).foldl max (up s0)=(S'.map up).foldl max (max (up s0) (up s0))
   grind
  clear hcons;rw[hmin,hmax];simp[he,prC,hi,hll,hld2,hpos,hs0];intro _
  refine Qe (fun j=>[(1,AV.iv (.int .i64 (i:Nat))),(4,.loc 4 0),(8,.loc 8 0),(35,.iv (.sl 1 (S.map fun s=>[.sl 2 (Zp p s)]))),(36,.iv (.int .i64 (S.length:Nat))),(37,.iv (.int .i64 (j:Nat)))])
   (fun j=>[(4,.box [.iv (.int .i64 0),.iv (.int .i64 0)]),(8,.box [.iv (.int .i64 (((S.map lo).take j).foldl min (lo s0))),.iv (.int .i64 (((S.map up).take j).foldl max (up s0)))])]) S.length (fun _=>True) trivial ?_ ?_
  ·intro _
   rw[Qa Qpn.eq_1];simp[QKi]
  ·intro j hj _ ih
   rw[Qa Qpn.eq_1];rw[Ub _ _ _ j (by simpa using hj),Ub _ _ _ j (by simpa using hj)] at ih
   simp[hj,hi,hll,hld2,Vo,Un] at ih |-
   grind
 ·simp[he]
omit hK
theorem Qfd (T:List QI) (B:QI->Bool) (hne:T≠[]):(Xq (T.countP B) T.length=1)↔T.all B=true:=by
 have h1:0<T.length:=QLl.2 hne
 have h2:T.countP B=T.length↔T.all B=true:=by
  rw[QLG,QKH]
 unfold Xq
 grind
include hK
theorem Qwb (p:Qd) (t:QI) (k:Nat) (hk:k<(XB p (Qr t.ends)).length) (hp:OkP p) (hs:okS p.machine t.set):Ev.Good Tryz.prog K 184 [.agg (ZM p t),.ptr (prC p),.ptr [.int .i64 k]] (.bool (QC p ((XB p (Qr t.ends)).getD k 0:Nat) t)):=by
 refine Qb hK Qzw (by simp) ?_
 have hl:=hp.deedsLen;have hgd:(XB p (Qr t.ends)).getD k 0=(XB p (Qr t.ends))[k]:=by grind
 have hlt12:(XB p (Qr t.ends))[k]<12:=by
  have:=Ux _ _ _ _ (QKj hk);have:=Qfa p.chain.deeds p.chain.deeds.length;omega
 have hg:=Qh6 hK p t p.need hp;have hb:=QdZ hp hs (need:=p.need) (k:=(XB p (Qr t.ends))[k]) (by omega)
 have hlt:∀ n,pmN (nd p p.need) t n<2 ^ 64:=fun n=>QkM hp t n
 have hg2:=Qh5 hK (pmN (nd p p.need) t p.trials.length) (XB p (Qr t.ends))[k] (hlt _) (by omega)
 have hnd:nd p p.need=p:=rfl;rw[hb,hnd] at hg2;rw[hnd] at hg;rw[hgd];obtain ⟨v0,v1,v3,hv⟩:∃ v0 v1 v3,ZM p t=[v0,v1,ZG (XB p (Qr t.ends)),v3]:=⟨_,_,_,rfl⟩
 rw[hv] at hg |-;generalize XB p (Qr t.ends)=now at *;simp[prC];refine cK (by simpa using hg) ?_
 simp[hk];refine cK (by simpa using hg2) ?_
 simp
theorem QwO (p:Qd) (hf:Few p):Ev.Good Tryz.prog K 102 [prV p] (.tup [Qt (qZ p),.int .i64 (kE p true)]):=by
 refine Qb hK QAy (by simp) ?_
 have hg:=UQ hK p true hf.fine;simp;refine cK (by simpa using hg) ?_
 by_cases he:kE p true=0
 ·obtain ⟨hp,_,hk,hne⟩:=X5 he
  have hdl:=hp.deedsLen;have hnl:∀ e,((XB p e).length:Int)=ZO p.chain.deeds:=fun e=>ZP e hp.chain.deeds p.chain.deeds.length (QKl _) (QKl _)
  have hcb:=hp.chain.deeds.cnt p.chain.deeds.length (QKl _) (QKl _);have hnl2:∀ e,(XB p e).length=(ZO p.chain.deeds).toNat:=fun e=>by grind
  have hNb:(ZO p.chain.deeds).toNat<=12:=by show (cnt p.chain.deeds p.chain.deeds.length).toNat<=12;omega
  have hg75:∀ s:Nat,s<(ZO p.chain.deeds).toNat->Ev.Good Tryz.prog K 183 [.ptr (Uj p),.clo 184 [] [.ptr (prC p),.ptr [.int .i64 s]]] (.int .i64 (Xq ((QD p).countP (fun t=>QC p ((XB p (Qr t.ends)).getD s 0:Nat) t)) (QD p).length)):=fun s hs =>
   Qh4 hK p (hf.ends hp) (hf.sets hp) (by have:=hf.all hp;omega) 184 [] _ _ (fun t ht=>by simpa using Qwb hK p t s (by grind) hp (Yi ht)) (by kernel_rfl)
  have hr:qZ p=acc (fun s:Nat=>if (QD p).all (fun t=>QC p ((XB p (Qr t.ends)).getD s 0:Nat) t) then [] else [(s:Int)]) (ZO p.chain.deeds).toNat:=by unfold qZ;rw[if_pos he,hk]
  have hts:∀ s:Nat,(Xq ((QD p).countP (fun t=>QC p ((XB p (Qr t.ends)).getD s 0:Nat) t)) (QD p).length=1)↔(QD p).all (fun t=>QC p ((XB p (Qr t.ends)).getD s 0:Nat) t)=true:=fun s=>Qfd _ _ hne
  have hE:Zm p.chain [] p.chain.deeds≠[]:=fun c=>by
   have h1:=Wq p;rw[UE,c] at h1;exact hne (QKo (by simpa using h1))
  have hst:∃ s0 s1 now rest,Q3 p=[s0,s1,ZG now]::rest/\now.length=(ZO p.chain.deeds).toNat:=by
   unfold Q3;cases hEE:Zm p.chain [] p.chain.deeds with
   | cons e r=>exact ⟨_,_,XB p (Qr e),_,rfl,hnl2 _⟩
   | _=>grind
  obtain ⟨s0,s1,now,rest,hst,hnow⟩:=hst;rw[hr];have hfile:Uj p=prC p++[.sl 3 (Q3 p),.sl 1 (XP p)]:=rfl;rw[hfile,hst] at hg75 |-;clear hg hr hfile hst hE;generalize QD p=T at *;generalize XP p=LL at *;generalize (ZO p.chain.deeds).toNat=N at *;obtain ⟨tv,htv⟩:∃ tv:Nat->Int,∀ s,tv s=Xq (T.countP (fun t=>QC p ((XB p (Qr t.ends)).getD s 0:Nat) t)) T.length:=⟨_,fun _=>rfl⟩
  obtain ⟨all,hall⟩:∃ all:Nat->Bool,∀ s,all s=T.all (fun t=>QC p ((XB p (Qr t.ends)).getD s 0:Nat) t):=⟨_,fun _=>rfl⟩
  simp only[<- htv,<- hall] at hg75 hts |-;obtain ⟨pc,hpc⟩:∃ pc:Nat->List Int,pc=fun s:Nat=>if all s=true then [] else [(s:Int)]:=⟨_,rfl⟩
  rw[<- hpc];have hpc2:∀ s:Nat,pc s=if all s=true then [] else [(s:Int)]:=fun s=>by rw[hpc]
  clear hpc htv hall;simp[he,prC];intro _;rw[hnow]
  refine Qe (fun i=>[(1,AV.iv (.ptr (prC p))),(4,.iv (.ptr (prC p++[.sl 3 ([s0,s1,ZG now]::rest),.sl 1 LL]))),(6,.aref 6 (acc pc i).length),(23,.iv (.int .i64 (N:Nat))),(24,.iv (.int .i64 (i:Nat)))])
   (fun i=>[(6,.arr 3 1 (emb ((acc pc i).map fun n=>[.int .i64 n])) 0)]) N (fun _=>True) trivial ?_ ?_
  ·intro _
   rw[Qa Qkf.eq_1];simp[QKi]
  ·intro i hi _ ih
   have hlen:(acc pc i).length<=i*1:=Yo pc 1 (fun s=>by grind) i
   rw[Qa Qkf.eq_1];rw[ZK pc i,hpc2 i] at ih;have hgi:=hg75 i hi;have htsi:=hts i;generalize tv i=tvi at *;generalize acc pc i=A at *;have hi':(i:Int)<N:=by omega
   simp[hi,hi'];refine QS (by simpa using hgi) (.inr rfl) ?_
   by_cases hal:all i=true
   ·have h1:=htsi.2 hal
    rw[if_pos hal] at ih;simp[h1] at ih |-
    grind
   ·have h1:¬ tvi=1:=fun c=>hal (htsi.1 c)
    rw[if_neg hal] at ih;simp[h1] at ih |-
    grind
 ·have hr:qZ p=[]:=by unfold qZ;rw[if_neg he]
  simp[he,hr]
omit hK
theorem J2 {α:Type} (f:α->Int) (n:Int):∀ (l:List α) (b:Int),n<=l.foldl (fun b k=>min b (f k)) b↔n<=b/\∀ k∈l,n<=f k
 | [],b=>by simp
 | a::l,b=>by
   rw[QLd,J2 f n l]
   grind
theorem QnH (p:Qd) (t:QI) (k:Nat) (n:Int) (hn:0<=n):∀ N:Nat,n<=Qci p t k N↔∃ i<N,inN (Zn p i (Qr t.ends)) k=true/\¬ QF p i (Qr t.ends)=k/\n<=(XG p i t.set).tdiv (den t.set)
 | 0=>by
   have:Qci p t k 0 = -1:=rfl;omega
 | N+1=>by
   rw[QcX];have ih:=QnH p t k n hn N;unfold QcY;split
   ·rename_i h
    constructor
    all_goals grind
   grind
theorem Qf2 (p:Qd) (t:QI) (n:Int):∀ (l:List Nat) (b:Int),n<=l.foldl (qU p t) b↔n<=b/\∀ i∈l,0<=(tr p i).broke->p.rule<=(Jd p t i p.trials.length:Int)->n<=(XG p i t.set+den t.set-1).tdiv (den t.set)-1
 | [],b=>by simp
 | a::l,b=>by
   rw[QLd,Qf2 p t n l];simp only[QKq,forall_eq_or_imp];unfold qU
   grind
theorem QnW (f:Nat->Int):∀ l:List Nat,l≠[]->∃ a∈l,∀ b∈l,f b<=f a
 | [],h=>absurd rfl h
 | [a],_=>⟨a,by simp,by simp⟩
 | a::b::l,_=>by
   obtain ⟨c,h1,h2⟩:=QnW f (b::l) (by simp)
   grind
theorem QoF {p:Qd} (hp:OkP p) (t:QI) (n:Int):(ZI (nd p n) t:Int)<p.rule↔∀ i<p.trials.length,0<=(tr p i).broke->p.rule<=(Jd p t i p.trials.length:Int)->¬ XG p i t.set<=n*den t.set:=by
 have hrule:=hp.rule;simp only[inR] at hrule;have hf:ZI (nd p n) t=(List.range p.trials.length).countP fun i=>decide (0<=(tr p i).broke)&&decide (XG p i t.set<=n*den t.set):=rfl
 rw[hf];constructor
 ·intro h i hi h1 h2 h3
  have:Jd p t i p.trials.length<=(List.range p.trials.length).countP fun i=>decide (0<=(tr p i).broke)&&decide (XG p i t.set<=n*den t.set):=by
   unfold Jd;refine List.countP_mono_left fun k _ hk=>?_
   grind
  omega
 ·intro h
  refine Classical.byContradiction fun hc=>?_
  have hpos:0<(List.range p.trials.length).countP fun i=>decide (0<=(tr p i).broke)&&decide (XG p i t.set<=n*den t.set):=by omega
  rw[List.countP_eq_length_filter] at hpos hc;obtain ⟨a,ha,hmax⟩:=QnW (fun i=>XG p i t.set) _ (QLl.1 hpos)
  simp only[QKJ,QKO,QKk,decide_eq_true_eq] at ha;refine h a ha.1 ha.2.1 ?_ ha.2.2
  have:((List.range p.trials.length).filter fun i=>decide (0<=(tr p i).broke)&&decide (XG p i t.set<=n*den t.set)).length<=Jd p t a p.trials.length:=by
   rw[<- List.countP_eq_length_filter];unfold Jd;refine List.countP_mono_left fun k hk1 hk=>?_
   grind
  omega
theorem Qdb {p:Qd} (hp:OkP p) {t:QI} (hs:okS p.machine t.set) {n:Int} (h0:0<=n) (h1:n<=999999999):Y3 (nd p n) t=true↔n<=Uk p t:=by
 have hden:=(hp.machine.denB hs).1;have hld:∀ i<p.trials.length,0<=XG p i t.set:=fun i hi=>(hp.machine.numB hs (hp.trial hi).1 (hp.trial hi).2.1).1
 have hg:Y3 (nd p n) t=(((XB p (Qr t.ends)).all fun (k:Nat)=>QC (nd p n) k t)&&decide ((ZI (nd p n) t:Int)<p.rule)):=rfl
 rw[hg,QKk,decide_eq_true_eq,QKH,QoF hp];unfold Uk;rw[Qf2];unfold QeV;rw[J2]
 have hprov:∀ k:Nat,QC (nd p n) k t=true↔n<=Qci p t k p.trials.length:=fun k=>by
  rw[QnH p t k n h0];have hpb:QC (nd p n) k t=(List.range p.trials.length).any fun i=>decide (n*den t.set<=XG p i t.set)&&inN (Zn p i (Qr t.ends)) k&&!decide (QF p i (Qr t.ends)=k):=rfl
  rw[hpb,QLF];constructor
  ·rintro ⟨i,hi,h2⟩
   have hi:=QKO.1 hi;simp at h2;exact ⟨i,hi,h2.1.2,h2.2,(UN (hld i hi) hden).2 h2.1.1⟩
  ·rintro ⟨i,hi,h2,h3,h4⟩
   have h5:=(UN (hld i hi) hden).1 h4
   grind
 constructor
 ·rintro ⟨h2,h3⟩
  refine ⟨⟨h1,fun k hk=>(hprov k).1 (h2 k hk)⟩,fun i hi h4 h5=>?_⟩
  have hi:=QKO.1 hi;have h6:=h3 i hi h4 h5;have h7:¬ (XG p i t.set+den t.set-1).tdiv (den t.set)<=n:=fun c=>h6 ((UD (hld i hi) hden).1 c)
  omega
 ·rintro ⟨⟨_,h2⟩,h3⟩
  refine ⟨fun k hk=>(hprov k).2 (h2 k hk),fun i hi h4 h5 h6=>?_⟩
  have h7:=h3 i (QKO.2 hi) h4 h5;have h8:=(UD (c:=n) (hld i hi) hden).2 h6;omega
theorem QlZ {p:Qd} (hp:OkP p) (he:kE p true=0) {n:Int} (h0:0<=n) (h1:n<=999999999):(QD p).all (Y3 (nd p n))=true↔n<=Y7 p:=by
 unfold Y7;rw[(X5 he).2.2.1,J2,QKH];constructor
 ·exact fun h=>⟨h1,fun t ht=>(Qdb hp (Yi ht) h0 h1).1 (h t ht)⟩
 ·exact fun h t ht=>(Qdb hp (Yi ht) h0 h1).2 (h.2 t ht)
include hK
theorem Qv8 (p:Qd) (t:QI) (n:Int) (hp:OkP p) (hs:okS p.machine t.set):Ev.Good Tryz.prog K 188 [.agg (ZM p t),.ptr [.int .i64 n],.ptr (prC p)] (.bool (Y3 (nd p n) t)):=by
 refine Qb hK Qzs (by simp) ?_
 have hg:=Qop hK p t n hp hs;obtain ⟨v0,v1,v2,v3,hv⟩:∃ v0 v1 v2 v3,ZM p t=[v0,v1,v2,v3]:=⟨_,_,_,_,rfl⟩
 rw[hv] at hg |-;simp[prC];refine cK (by simpa using hg) ?_
 simp
theorem Qv9 (p:Qd) (n:Int) (hf:Few p) (he:kE p true=0) (h0:0<=n) (h1:n<=999999999):Ev.Good Tryz.prog K 187 [.int .i64 n,.ptr [.ptr (Uj p)],.ptr (prC p)] (.bool (decide (n<=Y7 p))):=by
 refine Qb hK Qzt (by simp) ?_
 obtain ⟨hp,_,hk,hne⟩:=X5 he;have hg:=Qh4 hK p (hf.ends hp) (hf.sets hp) (by have:=hf.all hp;omega) 188 [] [.ptr [.int .i64 n],.ptr (prC p)] (Y3 (nd p n)) (fun t ht=>by simpa using Qv8 hK p t n hp (Yi ht)) (by kernel_rfl)
 have hs:=Qfd (QD p) (Y3 (nd p n)) hne;rw[QlZ hp he h0 h1] at hs;generalize Xq ((QD p).countP (Y3 (nd p n))) (QD p).length=tv at *;generalize Uj p=F at *;simp;refine cK (by simpa using hg) ?_
 by_cases h:n<=Y7 p
 ·have:=hs.2 h
  simp[h,this]
 ·have:¬ tv=1:=fun c=>h (hs.1 c)
  simp[h,this]
theorem QwM (p:Qd) (hf:Few p):Ev.Good Tryz.prog K 106 [prV p] (.tup [.int .i64 (Ye p).1,.int .i64 (Ye p).2]):=by
 refine Qb hK QAw (by simp) ?_
 have hg:=UQ hK p true hf.fine;simp;refine cK (by simpa using hg) ?_
 by_cases he:kE p true=0
 ·obtain ⟨hp,_,hk,hne⟩:=X5 he
  have hg74:=fun n h0 h1=>Qv9 hK p n hf he h0 h1
  have hw:Y7 p<=999999999:=(J2 (Uk p) (Y7 p) (kL p true) 999999999).1 (Int.le_refl _) |>.1
  have hr:Ye p=if Y7 p<0 then (0,3) else (Y7 p,0):=by unfold Ye;rw[if_pos he]
  rw[hr];generalize Y7 p=W at *;generalize Uj p=F at *;simp[he,prC];refine Qg0 _ _ _ _ _ _ _ _ ?_;simp;refine ⟨by kernel_rfl,cK (by simpa[prC] using hg74 0 (by omega) (by omega)) ?_⟩
  by_cases hneg:W<0
  ·have h2:¬ 0<=W:=by omega
   simp[hneg,h2]
  ·have h2:0<=W:=by omega
   simp[hneg,h2];refine QnB (S:=Int × Int) (fun s=>[(6,.iv (.clo 187 [] [.ptr [.ptr F],.ptr (prC p)])),(7,.iv (.int .i64 s.1)),(8,.iv (.int .i64 s.2))]) (fun _=>[]) (fun s=>0<=s.1/\s.1<=W/\W<=s.2/\s.2<=999999999) (fun s=>(s.2-s.1).toNat) ?_ (0,999999999) ⟨by omega,h2,hw,by omega⟩
   rintro ⟨low,high⟩ ⟨i1,i2,i3,i4⟩ ih
   simp only at i1 i2 i3 i4 ih |-;rw[Qa Qp5.eq_1];by_cases hlt:low<high
   ·have hmid:(low+high+1).tdiv 2=(low+high+1) / 2:=QK1 (by omega)
    have hm1:low<(low+high+1) / 2:=by omega
    have hm2:(low+high+1) / 2<=high:=by omega
    have hgm:=hg74 ((low+high+1) / 2) (by omega) (by omega)
    simp[hlt,hmid];generalize (low+high+1) / 2=mid at *
    (repeat' first | omega | (with_reducible apply And.intro) | intro _)
    ·kernel_rfl
    refine cK (by omega) ?_
    by_cases hmw:mid<=W
    ·simp[hmw]
     exact ih (mid,high) ⟨by simp only;omega,hmw,i3,i4⟩ (by simp only;omega)
    ·simp[hmw]
     (repeat' first | omega | (with_reducible apply And.intro) | intro _)
     exact ih (low,mid-1) ⟨i1,i2,by simp only;omega,by simp only;omega⟩ (by simp only;omega)
   ·have:low=W:=by omega
    subst this;simp[hlt]
 ·have hr:Ye p=(0,kE p true):=by unfold Ye;rw[if_neg he]
  rw[hr];simp[he];refine Qg0 _ _ _ _ _ _ _ _ ?_;simp[he]
omit hK
def exD:List Qx:=[⟨1,0,0,5,1⟩,⟨1,1,0,5,2⟩,⟨1,2,0,6,1⟩,⟨4,0,0,0,0⟩,⟨2,0,2,0,0⟩,⟨1,0,1,7,2⟩]
def exC:Qk:=⟨exD++[⟨4,0,0,0,0⟩],[],0⟩
def exM:Machine:=⟨[⟨100,10,11⟩,⟨50,5,5⟩],20,1,2,[⟨10,5,2500,250⟩],0⟩
def exP:Qd:=⟨exC,exM,[⟨30,0,0⟩,⟨31,0,-1⟩],4600,1⟩
include hK
theorem Qwv:Ev.Good Tryz.prog K 129 [] (maV exM):=by
 refine Qb hK QAi (by simp) ?_
 simp[exM]
def QrE:AV:=.tup [.agg [.aref 0 6,.iv (.sl 5 []),.iv (.int .i64 0)],.iv (.agg [.int .i64 6,.int .i64 1,.int .i64 0,.int .i64 6,.int .i64 (-1)]),.iv (.agg [.int .i64 6,.int .i64 0,.int .i64 0,.int .i64 (-1),.int .i64 1])]
theorem Qq9:QU Tryz.prog K 128 [] [] [] QrE [(0,.arr 111 5 (emb (exD.map dC)) 0)]:=by
 refine Q1 [9] [] [] [] QAj.p (by simp[QEr]) (by simp) ?_ ?_ ?_ ?_
 ·intro q hq
  simp only[QLp] at hq;subst hq;exact ⟨by simp,rfl,Xn _ _ _ _ _⟩
 ·simp[clA,clAL,QrE]
 ·simp
 ·generalize hG:Qg2 QEr.res [9] [] QrE [(0,.arr 111 5 (emb (exD.map dC)) 0)]=G
  simp;rw[<- hG];refine ⟨⟨_,rfl,rfl⟩,fun q hq=>?_,by simp⟩
  simp only[QLp] at hq;subst hq;rfl
theorem QBW:Ev.Good Tryz.prog K 39 [] (prV exP):=by
 refine Qb hK QC3 (by simp) ?_
 simp;refine Qn (Qq9 hK) rfl ?_ ?_
 ·refine ⟨by simp,by simp,by simp,by simp[Qc],?_⟩
  simp[Zk]
 ·simp[QrE,rn,rnL,nth,Yl]
  refine ⟨⟨rfl,by decide,by decide⟩,cK (by simpa using Qwv hK) ?_⟩
  simp[exP,exC,exM,exD,emb]
omit hK
theorem QgF:OkC exC:=by
 refine ⟨by decide,by decide,by decide,fun i h _=>?_,fun s hs=>by simp[exC] at hs⟩
 have all:∀ i<7,Zu (exC.deeds.getD i d0) (cnt exC.deeds i):=by decide
 have:=all i h
 grind
theorem Qtq:OkM exM:=by
 refine ⟨by decide,?_,by decide,by decide,by decide,by decide,?_,by decide⟩
 ·intro l hl;simp[exM] at hl;rcases hl with rfl | rfl<;>decide
 ·intro l hl;simp[exM] at hl;subst hl;decide
theorem QgE:OkP exP:=by
 refine ⟨QgF,Qtq,by decide,by decide,by decide,fun i h h'=>?_⟩
 have all:∀ i<2,JY (exP.trials.getD i t0) (cnt exP.chain.deeds ((pv exP.chain.deeds).getD i 0)):=by decide
 have:=all i h'
 grind
theorem QbQ {c:Qk} (hc:OkC c) (hs:c.sights=[]):Zm c [] c.deeds=Qo c.deeds:=by
 have hw:=hc.wrong;simp only[inR] at hw;unfold Zm;have e1:((Qo c.deeds).map fun x=>[]++x)=Qo c.deeds:=by simp
 rw[e1,List.filter_eq_self];intro e he;have h1:=Qkn hc he;have h2:(QL c.deeds c.sights (Qr e):Int)<=c.wrong:=by rw[hs];simpa[QL] using hw.1
 simpa using ⟨h1,h2⟩
theorem QcH:∀ {ls:List ZE} {e:List Int},e∈Q2 ls->e.length=ls.length/\∀ i (h:i<ls.length) (h':i<e.length),inR e[i] ls[i].lo ls[i].hi
 | [],e,h=>by simp[Q2] at h;subst h;simp
 | l::r,e,h=>by
   simp only[Q2,acc,QKY,QKt,QKO] at h;obtain ⟨i,hi,e',he',rfl⟩:=h;obtain ⟨h1,h2⟩:=QcH he';refine ⟨by simp[h1],fun j h h'=>?_⟩
   cases j with
   | zero=>simp only[QLr,inR];omega
   | _=>grind
theorem Qt5 {m:Machine} {s:Qm} (h:s∈QM m [] m.levers):okS m s:=by
 simp only[QM,QKY,QKt,QKO] at h;obtain ⟨e,he,k,hk,rfl⟩:=h;obtain ⟨h1,h2⟩:=QcH he;exact ⟨by simpa using h1,by simp only[inR];omega,by simpa using h2⟩
theorem QdN (m:Machine):QO m [] m.levers=(QM m [] m.levers).filter fun s=>decide ((ZL m m.bals s:Int)<=m.wrong):=by
 unfold QO;refine List.filter_congr fun s hs=>?_
 rw[Bool.eq_iff_iff];simp only[decide_eq_true_eq];exact ⟨fun h=>h.2,fun h=>⟨Qt5 hs,h⟩⟩
def exT:List QI:=[⟨[0,0,0,0,0,1,0],⟨[10,5],1⟩⟩,⟨[0,0,0,0,0,1,0],⟨[11,5],1⟩⟩,⟨[0,0,0,0,1,1,0],⟨[10,5],1⟩⟩,⟨[0,0,0,0,1,1,0],⟨[11,5],1⟩⟩]
theorem QrC:QD exP=exT:=by
 unfold QD;rw[show exP.chain=exC from rfl,show exP.machine=exM from rfl,QbQ QgF rfl,QdN]
 decide
theorem QCa (r:Int) (hr:inR r 1 12):Few { exP with rule:=r }:=by
 have h2:QD { exP with rule:=r }=exT:=QrC
 refine ⟨⟨⟨show exP.chain.deeds.length<=1000 by decide,show exP.chain.sights.length<=1000 by decide,show exP.machine.levers.length<=1000 by decide,show exP.machine.bals.length<=1000 by decide,show exP.trials.length<=1000 by decide⟩,fun _=>show sets exP.machine exP.machine.levers.length<=1000000 by decide⟩,fun _=>?_,fun _=>?_,fun _=>by rw[h2];decide⟩
 ·rw[show ({ exP with rule:=r }:Qd).chain=exC from rfl,QbQ QgF rfl];decide
 ·rw[show ({ exP with rule:=r }:Qd).machine=exM from rfl,QdN]
  exact QKK (QKD _ _) (by decide)
include hK
omit hK
theorem UY:∀ ds:List Qx,(Qo ds).length<=2 ^ Zy ds
 | []=>by show 1<=2 ^ 0;decide
 | d::r=>by
   have ih:=UY r;by_cases h2:d.frm=2
   ·have e1:Zy (d::r)=Zy r+1:=by simp[Zy,h2]
    rw[e1,Nat.pow_succ];simp[Qo,Vb,h2];omega
   ·have e1:Zy (d::r)=Zy r:=by simp[Zy,h2]
    rw[e1];by_cases h0:d.frm=0
    ·simp[Qo,Vb,h0];omega
    ·by_cases h1:d.frm=1
     ·simp[Qo,Vb,h1];omega
     ·simp[Qo,Vb,h0,h1,h2]
theorem Qlv (c:Qk):(Zm c [] c.deeds).length<=2 ^ Zy c.deeds:=by
 refine QKK (QKD _ _) ?_;simpa using UY c.deeds
theorem QqD {p:Qd} (h:¬ Qg4 p):Qkj p:=by
 unfold Qg4 Qtn QoC at h;simp only[not_or] at h;exact ⟨by omega,by omega,by omega,by omega,by omega⟩
theorem QdA {p:Qd} (h:¬ Qg4 p) (hp:OkP p):1<=sets p.machine p.machine.levers.length/\sets p.machine p.machine.levers.length<=48/\2 ^ Zy p.chain.deeds<=48:=by
 have h1:ways p<=48:=by
  unfold Qg4 at h
  grind
 have hl:=hp.machine.leak;simp only[inR] at hl
 have h2:1<=sets p.machine p.machine.levers.length:=by
  have h3:=Yg Zo p.machine.levers fun l hl=>(hp.machine.span hl).1
  unfold sets;rw[QKi (QKl _)];have h4:1*QG Zo p.machine.levers<=(p.machine.lhi-p.machine.llo+1)*QG Zo p.machine.levers:=QKL (by omega) (by omega)
  omega
 unfold ways at h1;have hpos:1<=(2 ^ Zy p.chain.deeds:Nat):=Nat.pos_of_ne_zero (by simp)
 generalize (2 ^ Zy p.chain.deeds:Nat)=W at *;generalize sets p.machine p.machine.levers.length=S at *;have a1:S*1<=S*(W:Int):=QK9 (by omega) (by omega)
 have a2:1*(W:Int)<=S*(W:Int):=QKL h2 (by omega)
 omega
theorem QB8 {p:Qd} (h:¬ Qg4 p):Few p:=by
 refine ⟨⟨QqD h,fun hp=>by have:=QdA h hp;omega⟩,fun hp=>?_,fun hp=>?_,fun hp=>?_⟩
 ·have h1:=Qlv p.chain;have h2:=QdA h hp;omega
 ·have h1:=JU hp.machine;have h2:=QdA h hp;omega
 ·have h1:=Qlv p.chain
  have h2:=QdA h hp;have h3:=JU hp.machine;rw[Wq,UE,Wo];have h4:(Zm p.chain [] p.chain.deeds).length*(QO p.machine [] p.machine.levers).length<=48*48:=Nat.mul_le_mul (by omega) (by omega)
  omega
include hK
omit hK
def QDU (p:Qd) (r:Int):Qd:=⟨p.chain,p.machine,p.trials,p.need,r⟩
theorem QcE {c n:Nat}:Xq c n=1↔c=n:=by
 unfold Xq;omega
theorem QaP {c n:Nat} (hn:n≠0):Xq c n=2↔c=0:=by
 unfold Xq;omega
def QJt (p:Qd) (i:Nat):Nat:=(List.range i).countP fun k=>decide (0<=(tr p k).broke)
include hK
omit hK
theorem Qnk (p:Qd):Y7 p<=999999999:=by
 unfold Y7
 have h:∀ (l:List QI) (b:Int),l.foldl (fun b t=>min b (Uk p t)) b<=b:=by
  intro l
  induction l with
  | _=>grind
 exact h _ _
include hK
omit hK
theorem QbY:∀ (ds:List Qx) (e:List Int),(∀ d∈ds,inR d.frm 0 2)->e.length=ds.length->(∀ i (h:i<ds.length) (h':i<e.length),inR e[i] 0 1/\(ds[i].frm<2->e[i]=ds[i].frm))->e∈Qo ds
 | [],e,_,hl,_=>by
   have:e=[]:=QKo hl;subst this;simp[Qo]
 | d::ds,[],_,hl,_=>by cases hl
 | d::ds,x::e,hd,hl,h=>by
   have h0:=h 0 (by simp) (by simp)
   simp only[QLr] at h0
   have hr:=QbY ds e (fun d hd'=>hd d (by simp[hd'])) (by simpa using hl) (fun i h1 h2=>by
    have:=h (i+1) (by simpa using h1) (by simpa using h2)
    grind)
   have hf:=hd d (by simp)
   simp only[inR] at hf h0;simp only[Qo,QKY,QKt];refine ⟨x,?_,e,hr,rfl⟩;unfold Vb
   grind
theorem Qli {d:Qx} {n:Int} (h:Zu d n):inR d.frm 0 2:=by
 rcases h with h | h | h
 ·exact h.2.1
 ·exact h.2.1
 ·rw[h.2.2.1];simp[inR]
theorem QoY {c:Qk} (hc:OkC c) {e:List Int} (h:Qml c e):e∈Zm c [] c.deeds:=by
 simp only[Zm,QKJ,decide_eq_true_eq,QKx,List.map_id'];refine ⟨QbY _ _ (fun d hd=>?_) h.1.1 h.1.2,h⟩
 obtain ⟨i,hi,rfl⟩:=QK0 hd;exact Qli (hc.deeds i hi hi)
theorem QEJ {p:Qd} (hp:OkP p) {t:QI} (h:t∈QD p):kE p true=0:=by
 unfold kE
 grind
theorem V0 {α:Type} (f:α->Int):∀ (l:List α) (t:α),t∈l->(span (l.map f)).1<=f t/\f t<=(span (l.map f)).2
 | [],_,h=>by cases h
 | a::r,t,h=>by
   have mono:∀ (l:List α) (x u:Int),(l.map f).foldl min x<=x/\u<=(l.map f).foldl max u:=by
    intro l
    induction l with
    | cons b l ih =>
      intro x u;simp only[QKF,QLd];have:=ih (min x (f b)) (max u (f b));omega
    | _=>grind
   have key:∀ (l:List α) (x u:Int),t∈l->(l.map f).foldl min x<=f t/\f t<=(l.map f).foldl max u:=by
    intro l
    induction l with
    | cons b l ih =>
      intro x u h;simp only[QKF,QLd];rcases QKq.1 h with rfl | h
      ·have:=mono l (min x (f t)) (max u (f t))
       omega
      ·exact ih _ _ h
    | _=>grind
   simp only[QKF,span];rcases QKq.1 h with rfl | h
   ·exact mono r _ _
   ·exact key r _ _ h
def Qqk (k:Int) (b:Bool):Prop:=k=3\/(k=1/\b=true)\/(k=2/\b=false)
theorem QtZ {α:Type} (f:α->Int) (a:Int):∀ l:List α,l≠[]->(∀ t∈l,a<=f t)->a<=(span (l.map f)).1
 | [],h,_=>absurd rfl h
 | b::r,_,h=>by
   have key:∀ (l:List α) (x:Int),(∀ t∈l,a<=f t)->a<=x->a<=(l.map f).foldl min x:=by
    intro l
    induction l with
    | _=>grind
   simp only[QKF,span]
   grind
theorem QtY {α:Type} (f:α->Int) (a:Int):∀ l:List α,l≠[]->(∀ t∈l,f t<=a)->(span (l.map f)).2<=a
 | [],h,_=>absurd rfl h
 | b::r,_,h=>by
   have key:∀ (l:List α) (x:Int),(∀ t∈l,f t<=a)->x<=a->(l.map f).foldl max x<=a:=by
    intro l
    induction l with
    | _=>grind
   simp only[QKF,span]
   grind
instance (k:Int) (b:Bool):Decidable (Qqk k b):=by unfold Qqk;infer_instance
include hK
omit hK
def QJW:=f0 0xa522210f02f3283f73922201383f14501383f0402cd546e93d0221f140546e9ad02cd543e53d0224040543e5ad0c1f30133875d5d331d3e17246f3275d5d321d0a22032214c ⟨_,by conv=>lhs;reduce⟩
def QJV:=f0 0xa922210f02f3283f73922201383f14501383f0402cd546e93d0221f140546e9ad02cd543e53d0224040543e5ad0c1f30133875d5d331d3e17246f3275d5d321d0a22032214c ⟨_,by conv=>lhs;reduce⟩
def QJU:=f0 0xa922210f02f6283f1c3922201383f44501383f04024d44ce93d0221f44044ce9ad02cc349e53d0224040349e5ad0c1f30163874d7773d631d3e11c246f3274d7773d621d0a22062214c ⟨_,by conv=>lhs;reduce⟩
def QJ0:=f0 0xa522210f02f0c2801b21a4198f635f305773d74d7773d75d5d0c2d0221fb40221fa402cc32de93d0221f94032de9ad0109e501c2434500108e4cd0721044c1f3773d74d7773d75d5d0c21d0a2200c2216c ⟨_,by conv=>lhs;reduce⟩
def QJ1:=f0 0xa822210f02f0c2801b21a4198f635f305773d74d7773d75d5d0c2d0221fb40221fa402cc32de93d0221f94032de9ad800109e4cd01c24340108e50721044c1f3773d74d7773d75d5d0c21d0a2200c2216c ⟨_,by conv=>lhs;reduce⟩
def QJZ:=f0 0xa9523210f02f0c2801b21a4198f635f305773d74d7773d75d5d0c2d0221fb40221fa402cc32de93d0221f94032de9ad0109e501c2434500108e4cd0721044c1f3773d74d7773d75d5d0c21d0a2200c2216c ⟨_,by conv=>lhs;reduce⟩
def QFu:=fk Tryz.func52 QJW (by kernel_rfl)
def QFt:=fk Tryz.func52 QJV (by kernel_rfl)
def QFs:=fk Tryz.func53 QJU (by kernel_rfl)
def QFx:=fk Tryz.func24 QJ0 (by kernel_rfl)
def QFy:=fk Tryz.func24 QJ1 (by kernel_rfl)
def QFw:=fk Tryz.func24 QJZ (by kernel_rfl)
@[simp] theorem QA5 {α:Type} (lod:Nat->Option AO) (ids:List Nat) (f:α->List IV) (l:List α):List.map (QmZ lod ids∘List.map AV.iv∘f) l=List.map (List.map AV.iv∘f) l :=
 QLg fun a _=>Qhc lod ids (f a)
include hK
@[simp] def prA (p:Qd) (ds ss bs ts:AV):List AV:=[ds,ss,.iv (.int .i64 p.chain.wrong),.iv (Qq p.machine.levers),.iv (.int .i64 p.machine.water),.iv (.int .i64 p.machine.llo),.iv (.int .i64 p.machine.lhi),bs,.iv (.int .i64 p.machine.wrong),ts,.iv (.int .i64 p.need),.iv (.int .i64 p.rule)]
omit hK
def prv:Qx:=⟨4,0,0,0,0⟩
def QJ5 (D:List Qx):List Qx:=D++[prv]
def QJ6 (c:Qk):Qk:=⟨QJ5 c.deeds,c.sights,c.wrong⟩
def QKc (p:Qd) (w:Int):Qd:=⟨QJ6 p.chain,p.machine,p.trials++[⟨w,0,-1⟩],p.need,p.rule⟩
def QKd (t:QI):QI:=⟨t.ends++[0],t.set⟩
@[simp] theorem QEe (L:List (List IV)) (a b c d e:IV):emb L++[[.iv a,.iv b,.iv c,.iv d,.iv e]]=emb (L++[[a,b,c,d,e]]):=by simp[emb]
theorem Up {p:Qd} (hp:OkP p):kL p true=QD p:=by unfold kL;grind
theorem Qmk (m:Machine) (l:List Qm) (mn load:Int):0<=Wp m l mn load/\(Wp m l mn load<=9999->ZD m l (Wp m l mn load) mn load):=by
 classical
 unfold Wp;refine ⟨by omega,fun h=>?_⟩
 have:=List.findIdx_getElem (p:=fun (n:Nat)=>decide (ZD m l n mn load)) (xs:=List.range 10000) (w:=by
  grind)
 simpa using this
include hK
omit hK
def chD (x fin:Int) (d:Qx):Qx :=
 if d.what=1 then ⟨d.what,d.pos,fin,(d.bar+x).tmod 100,(d.smith+x).tmod 100⟩ else if d.what=2 then ⟨d.what,d.pos,fin,d.bar,d.smith⟩ else d
def chL (x fin:Int) (D:List Qx) (i:Nat):List (List IV):=((D.take i).map (chD x fin)++D.drop i).map dC
def mvN (n:Nat):Nat->Nat
 | 0=>0
 | _+1=>n
def chP (p:Qd) (x fin:Int):Qd:=⟨⟨p.chain.deeds.map (chD x fin),[],p.chain.wrong⟩,p.machine,p.trials,p.need,p.rule⟩
theorem QdM:∀ l:List Int,l≠[]->(span l).1∈l/\(span l).2∈l
 | [],h=>absurd rfl h
 | a::r,_=>by
   have key:∀ (r:List Int) (x u:Int),(r.foldl min x=x\/r.foldl min x∈r)/\(r.foldl max u=u\/r.foldl max u∈r):=by
    intro r
    induction r with
    | cons b r ih =>
      intro x u;obtain ⟨h1,h2⟩:=ih (min x b) (max u b);simp only[QLd,QKq];refine ⟨?_,?_⟩
      ·rcases h1 with h1 | h1
       ·rw[h1];omega
       grind
      ·rcases h2 with h2 | h2
       ·rw[h2];omega
       grind
    | _=>grind
   obtain ⟨h1,h2⟩:=key r a a;simp only[span,QKq];exact ⟨h1,h2⟩
include hK
omit hK
structure Rod where
 long:Int
 wear:Int
 grow:Int
 deriving DecidableEq
structure QW where
 whn:Int
 rod:Int
 count:Int
 rest:Int
 off:Int
 wlo:Int
 whi:Int
 deriving DecidableEq
structure Q6 where
 iron:Int
 glo:Int
 ghi:Int
 rods:List Rod
 reads:List QW
 wrong:Int
 deriving DecidableEq
@[simp] def roC (r:Rod):List IV:=[.int .i64 r.long,.int .i64 r.wear,.int .i64 r.grow]
@[simp] def reC (x:QW):List IV:=[.int .i64 x.whn,.int .i64 x.rod,.int .i64 x.count,.int .i64 x.rest,.int .i64 x.off,.int .i64 x.wlo,.int .i64 x.whi]
@[simp] def W9 (l:List Rod):IV:=.sl 3 (l.map roC)
@[simp] def Y6 (l:List QW):IV:=.sl 7 (l.map reC)
@[simp] def puC (p:Q6):List IV:=[.int .i64 p.iron,.int .i64 p.glo,.int .i64 p.ghi,W9 p.rods,Y6 p.reads,.int .i64 p.wrong]
@[simp] def puV (p:Q6):IV:=.agg (puC p)
def Vt (r:Rod):Prop:=inR r.long 1 9999/\inR r.wear 0 (min 9 (r.long-1))/\inR r.grow 0 50
instance (r:Rod):Decidable (Vt r):=by unfold Vt;infer_instance
def XW (n:Nat) (x:QW):Prop:=(x.whn=1\/x.whn=2)/\inR x.rod 0 ((n:Int)-1)/\inR x.count 0 99/\inR x.rest 0 9999/\inR x.off 0 99/\inR x.wlo (-50) x.whi/\x.whi<=50
instance (n:Nat) (x:QW):Decidable (XW n x):=by unfold XW;infer_instance
structure OkU (p:Q6):Prop where
 iron:inR p.iron 0 50
 guess:inR p.glo 1 p.ghi
 most:p.ghi<=99999
 wrong:inR p.wrong 0 8
 rlen:p.rods.length<=4
 xlen:p.reads.length<=8
 rods:∀ r∈p.rods,Vt r
 reads:∀ x∈p.reads,XW p.rods.length x
def okU (p:Q6):Bool:=decide (inR p.iron 0 50)&&decide (inR p.glo 1 p.ghi)&&decide (p.ghi<=99999)&&decide (inR p.wrong 0 8)&&decide (p.rods.length<=4)&&decide (p.reads.length<=8)&&decide (∀ r∈p.rods,Vt r)&&decide (∀ x∈p.reads,XW p.rods.length x)
theorem Qug (p:Q6):okU p=true↔OkU p:=by
 simp only[okU,QKk,decide_eq_true_eq];exact ⟨fun ⟨⟨⟨⟨⟨⟨⟨h1,h2⟩,h3⟩,h4⟩,h5⟩,h6⟩,h7⟩,h8⟩=>⟨h1,h2,h3,h4,h5,h6,h7,h8⟩,fun ⟨h1,h2,h3,h4,h5,h6,h7,h8⟩=>⟨⟨⟨⟨⟨⟨⟨h1,h2⟩,h3⟩,h4⟩,h5⟩,h6⟩,h7⟩,h8⟩⟩
instance (p:Q6):Decidable (OkU p):=decidable_of_iff _ (Qug p)
def VN (p:Q6) (x:QW):Int:=(p.rods.getD x.rod.toNat ⟨0,0,0⟩).grow
def Qtu (p:Q6) (x:QW) (len rl t:Int):Int:=len*(1000000+p.iron*t)-(x.count*rl+x.rest)*(1000000+VN p x*t)
def QnV (p:Q6) (x:QW) (len rl t:Int):Bool:=decide (Qtu p x len rl t<=x.off*1000000 /\ -Qtu p x len rl t<=x.off*1000000)
def QdB (x:QW):Nat:=(x.whi-x.wlo+1).toNat
def VC (p:Q6) (x:QW) (len rl:Int):Bool:=(List.range (QdB x)).any fun (i:Nat)=>QnV p x len rl (x.wlo+i)
def Vr (a b:Int):List Int:=(List.range (b-a+1).toNat).map fun (i:Nat)=>a+i
theorem JF {a b x:Int}:x∈Vr a b↔a<=x/\x<=b:=by
 simp only[Vr,QKt,QKO];constructor
 ·omega
 ·intro h
  exact ⟨(x-a).toNat,by omega,by omega⟩
theorem US (a b:Int):(Vr a b).Pairwise (·<·):=by
 unfold Vr;rw[List.pairwise_map];exact List.pairwise_lt_range.imp fun h=>by omega
def ZR:List Rod->List (List Int)
 | []=>[[]]
 | r::rs=>(Vr (r.long-r.wear) r.long).flatMap fun n=>(ZR rs).map (n::·)
theorem Qe9:∀ (l:List Rod) (w:List Int),w∈ZR l->w.length=l.length
 | [],w,h=>by simp[ZR] at h;simp[h]
 | r::rs,w,h=>by
   simp only[ZR,QKY,QKt] at h;obtain ⟨n,_,v,hv,rfl⟩:=h;simp[Qe9 rs v hv]
theorem Qdw:∀ (l:List Rod) (w:List Int),w∈ZR l->∀ (i:Nat) (h:i<l.length),l[i].long-l[i].wear<=w.getD i 0/\w.getD i 0<=l[i].long
 | [],w,h,i,hi=>by simp at hi
 | r::rs,w,h,i,hi=>by
   simp only[ZR,QKY,QKt] at h;obtain ⟨n,hn,v,hv,rfl⟩:=h;cases i with
   | zero=>simpa using JF.1 hn
   | succ i =>
     have:=Qdw rs v hv i (by simpa using hi)
     simpa using this
def QeW (p:Q6) (wh:Int) (w:List Int) (len:Int) (x:QW):Bool:=decide (x.whn=wh)&&!VC p x len (w.getD x.rod.toNat 0)
def wrU (p:Q6) (wh:Int) (w:List Int) (len:Int):Nat:=p.reads.countP (QeW p wh w len)
def Xh (p:Q6):List Int:=Vr p.glo p.ghi
structure TrU where
 bef:Int
 aft:Int
 rods:List Int
def Yj (p:Q6) (t:TrU):Nat:=wrU p 1 t.rods t.bef+wrU p 2 t.rods t.aft
def Qg6 (p:Q6):List TrU:=(Xh p).flatMap fun b=>(Xh p).flatMap fun a=>(ZR p.rods).map fun w=>⟨b,a,w⟩
def Yp (p:Q6):List TrU:=(Qg6 p).filter fun t=>decide ((Yj p t:Int)<=p.wrong)
def Qc9 (p:Q6) (wh:Int) (w:List Int) (n:Nat):List Int:=(Xh p).filter fun len=>wrU p wh w len==n
def Qag (p:Q6) (wh:Int) (w:List Int):List Nat:=(List.range (p.reads.length+1)).filter fun n=>!(Qc9 p wh w n).isEmpty
structure Grp where
 wrong:Nat
 lens:List Int
def VM (p:Q6) (wh:Int) (w:List Int):List Grp:=(Qag p wh w).map fun n=>⟨n,Qc9 p wh w n⟩
structure Bun where
 rods:List Int
 bef:Grp
 aft:Grp
def Qct (p:Q6):List Bun:=(ZR p.rods).flatMap fun w=>(VM p 1 w).flatMap fun g=>(VM p 2 w).map fun h=>⟨w,g,h⟩
def Vm (p:Q6):List Bun:=(Qct p).filter fun x=>decide (((x.bef.wrong+x.aft.wrong:Nat):Int)<=p.wrong)
theorem Qd5 {p:Q6} {t:TrU}:t∈Yp p↔t.bef∈Xh p/\t.aft∈Xh p/\t.rods∈ZR p.rods/\(Yj p t:Int)<=p.wrong:=by
 simp only[Yp,Qg6,QKJ,QKY,QKt,decide_eq_true_eq]
 grind
theorem Qe6 (p:Q6) (wh:Int) (w:List Int) (len:Int):wrU p wh w len<=p.reads.length:=QKI
theorem X9 {p:Q6} {wh:Int} {w:List Int} {n:Nat} {len:Int}:len∈Qc9 p wh w n↔len∈Xh p/\wrU p wh w len=n:=by
 simp[Qc9,QKJ]
theorem Yh {p:Q6} {wh:Int} {w:List Int} {g:Grp}:g∈VM p wh w↔g.lens=Qc9 p wh w g.wrong/\g.lens≠[]:=by
 simp only[VM,Qag,QKt,QKJ,QKO];constructor
 ·grind
 ·rintro ⟨h1,h2⟩
  refine ⟨g.wrong,⟨?_,?_⟩,by rw[<- h1]⟩
  ·obtain ⟨x,hx⟩:=QLe _ h2
   rw[h1] at hx;have:=Qe6 p wh w x;have:=(X9.1 hx).2;omega
  grind
theorem Wl {p:Q6} {x:Bun}:x∈Vm p↔x.rods∈ZR p.rods/\x.bef∈VM p 1 x.rods/\x.aft∈VM p 2 x.rods/\((x.bef.wrong+x.aft.wrong:Nat):Int)<=p.wrong:=by
 simp only[Vm,Qct,QKJ,QKY,QKt,decide_eq_true_eq]
 grind
theorem JL {p:Q6} {t:TrU} (h:t∈Yp p):∃ x∈Vm p,x.rods=t.rods/\t.bef∈x.bef.lens/\t.aft∈x.aft.lens:=by
 obtain ⟨hb,ha,hw,hn⟩:=Qd5.1 h;have h1:t.bef∈Qc9 p 1 t.rods (wrU p 1 t.rods t.bef):=X9.2 ⟨hb,rfl⟩;have h2:t.aft∈Qc9 p 2 t.rods (wrU p 2 t.rods t.aft):=X9.2 ⟨ha,rfl⟩
 exact ⟨⟨t.rods,⟨_,Qc9 p 1 t.rods (wrU p 1 t.rods t.bef)⟩,⟨_,Qc9 p 2 t.rods (wrU p 2 t.rods t.aft)⟩⟩,
  Wl.2 ⟨hw,Yh.2 ⟨rfl,List.ne_nil_of_mem h1⟩,Yh.2 ⟨rfl,List.ne_nil_of_mem h2⟩,hn⟩,rfl,h1,h2⟩
theorem Yy {p:Q6} {x:Bun} (h:x∈Vm p) {b a:Int} (hb:b∈x.bef.lens) (ha:a∈x.aft.lens):⟨b,a,x.rods⟩∈Yp p:=by
 obtain ⟨hw,hg,hh,hn⟩:=Wl.1 h;have h1:=(Yh.1 hg).1;have h2:=(Yh.1 hh).1;rw[h1] at hb;rw[h2] at ha;obtain ⟨hb1,hb2⟩:=X9.1 hb;obtain ⟨ha1,ha2⟩:=X9.1 ha;refine Qd5.2 ⟨hb1,ha1,hw,?_⟩;simp only[Yj,hb2,ha2];exact hn
theorem Z0 {p:Q6} {x:Bun} (h:x∈Vm p):x.bef.lens.Pairwise (·<·)/\x.aft.lens.Pairwise (·<·)/\x.bef.lens≠[]/\x.aft.lens≠[]:=by
 obtain ⟨_,hg,hh,_⟩:=Wl.1 h;have h1:=Yh.1 hg;have h2:=Yh.1 hh;refine ⟨?_,?_,h1.2,h2.2⟩
 ·rw[h1.1];exact (US _ _).filter _
 ·rw[h2.1];exact (US _ _).filter _
theorem Qap {p:Q6}:Vm p=[]↔Yp p=[]:=by
 constructor
 ·intro h
  refine List.eq_nil_iff_forall_not_mem.2 fun t ht=>?_
  obtain ⟨x,hx,_⟩:=JL ht
  grind
 ·intro h
  refine List.eq_nil_iff_forall_not_mem.2 fun x hx=>?_
  obtain ⟨_,_,h1,h2⟩:=Z0 hx;obtain ⟨b,hb⟩:=QLe _ h1;obtain ⟨a,ha⟩:=QLe _ h2;have:=Yy hx hb ha
  grind
theorem QsJ {l:List Int} (h:l.Pairwise (·<·)) (hne:l≠[]):l.head hne∈l/\l.getLast hne∈l/\∀ x∈l,l.head hne<=x/\x<=l.getLast hne:=by
 refine ⟨List.head_mem hne,List.getLast_mem hne,fun x hx=>⟨?_,?_⟩⟩
 ·cases l with
  | nil=>cases hx
  | cons a r =>
    rcases QKq.1 hx with rfl | hx
    ·grind
    ·exact Int.le_of_lt (List.rel_of_pairwise_cons h hx)
 ·obtain ⟨i,hi,rfl⟩:=QK0 hx
  rw[List.getLast_eq_getElem];rcases Nat.lt_or_eq_of_le (Nat.le_sub_one_of_lt hi) with h1 | h1
  ·exact Int.le_of_lt (QLt.1 h i _ hi (by omega) h1)
  grind
def Xs (l:List Int):Int:=l.headD 0
def Xi (l:List Int):Int:=l.getLastD 0
theorem Xm {l:List Int} (h:l.Pairwise (·<·)) (hne:l≠[]):Xs l∈l/\Xi l∈l/\∀ x∈l,Xs l<=x/\x<=Xi l:=by
 have:=QsJ h hne
 have e1:Xs l=l.head hne:=by cases l with
  | cons a r=>rfl
  | _=>grind
 have e2:Xi l=l.getLast hne:=by cases l with
  | cons a r =>
    unfold Xi
    grind
  | _=>grind
 grind
theorem Qt0 {l:List Int} {a b:Int} (hne:l≠[]) (ha:a∈l) (hb:b∈l) (h:∀ x∈l,a<=x/\x<=b):span l=(a,b):=by
 have h1:=V0 (fun x:Int=>x) l a ha
 have h2:=V0 (fun x:Int=>x) l b hb
 have h3:=QtZ (fun x:Int=>x) a l hne (fun x hx=>(h x hx).1)
 have h4:=QtY (fun x:Int=>x) b l hne (fun x hx=>(h x hx).2)
 simp only[List.map_id'] at h1 h2 h3 h4
 grind
def Yv (t:TrU):Int:=t.aft-t.bef
def loB (x:Bun):Int:=Xs x.aft.lens-Xi x.bef.lens
def hiB (x:Bun):Int:=Xi x.aft.lens-Xs x.bef.lens
def QdH (p:Q6):Int × Int:=((span ((Vm p).map loB)).1,(span ((Vm p).map hiB)).2)
theorem QaR (p:Q6):QdH p=span ((Yp p).map Yv):=by
 by_cases hn:Yp p=[]
 ·have:=Qap.2 hn
  simp[QdH,hn,this]
 ·have hb:Vm p≠[]:=fun h=>hn (Qap.1 h)
  have hlo:(Vm p).map loB≠[]:=by simpa using hb
  have hhi:(Vm p).map hiB≠[]:=by simpa using hb
  have h1:=(QdM _ hlo).1;have h2:=(QdM _ hhi).2
  symm
  obtain ⟨x,hx,ex⟩:=QKt.1 h1;obtain ⟨y,hy,ey⟩:=QKt.1 h2;obtain ⟨s1,s2,s3,s4⟩:=Z0 hx;obtain ⟨s5,s6,s7,s8⟩:=Z0 hy;refine Qt0 (by simpa using hn) ?_ ?_ ?_
  ·refine QKt.2 ⟨_,Yy hx (Xm s1 s3).2.1 (Xm s2 s4).1,?_⟩
   rw[<- ex];rfl
  ·refine QKt.2 ⟨_,Yy hy (Xm s5 s7).1 (Xm s6 s8).2.1,?_⟩
   rw[<- ey];rfl
  ·intro z hz
   obtain ⟨t,ht,rfl⟩:=QKt.1 hz;obtain ⟨u,hu,_,hub,hua⟩:=JL ht;obtain ⟨u1,u2,u3,u4⟩:=Z0 hu;have e1:=(Xm u1 u3).2.2 _ hub;have e2:=(Xm u2 u4).2.2 _ hua;have f1:=(V0 loB _ _ hu).1;have f2:=(V0 hiB _ _ hu).2;simp only[loB,hiB,Yv] at *;omega
def Xl (b a part:Int):Bool:=decide (1000*(a-b)<=part*b)
theorem Qc8 {b a b' a' part:Int} (hp:0<=part) (hb:b<=b') (ha:a'<=a) (h:Xl b a part=true):Xl b' a' part=true:=by
 simp only[Xl,decide_eq_true_eq] at *;have:part*b<=part*b':=QK9 hb hp;omega
def Qc7 (p:Q6) (part:Int):Int :=
 if (Vm p).all fun x=>Xl (Xs x.bef.lens) (Xi x.aft.lens) part then 1 else if (Vm p).any fun x=>Xl (Xi x.bef.lens) (Xs x.aft.lens) part then 3 else 2
theorem QnU (p:Q6) (part:Int) (hp:0<=part):Qc7 p part=if (Yp p).all fun t=>Xl t.bef t.aft part then 1 else if (Yp p).any fun t=>Xl t.bef t.aft part then 3 else 2:=by
 have e1:((Vm p).all fun x=>Xl (Xs x.bef.lens) (Xi x.aft.lens) part)=((Yp p).all fun t=>Xl t.bef t.aft part):=by
  rw[Bool.eq_iff_iff];simp only[QKH];constructor
  ·intro h t ht
   obtain ⟨u,hu,_,hub,hua⟩:=JL ht;obtain ⟨u1,u2,u3,u4⟩:=Z0 hu;exact Qc8 hp ((Xm u1 u3).2.2 _ hub).1 ((Xm u2 u4).2.2 _ hua).2 (h u hu)
  ·intro h x hx
   obtain ⟨u1,u2,u3,u4⟩:=Z0 hx;exact h _ (Yy hx (Xm u1 u3).1 (Xm u2 u4).2.1)
 have e2:((Vm p).any fun x=>Xl (Xi x.bef.lens) (Xs x.aft.lens) part)=((Yp p).any fun t=>Xl t.bef t.aft part):=by
  rw[Bool.eq_iff_iff];simp only[QLF];constructor
  ·rintro ⟨x,hx,h⟩
   obtain ⟨u1,u2,u3,u4⟩:=Z0 hx;exact ⟨_,Yy hx (Xm u1 u3).2.1 (Xm u2 u4).1,h⟩
  ·rintro ⟨t,ht,h⟩
   obtain ⟨u,hu,_,hub,hua⟩:=JL ht;obtain ⟨u1,u2,u3,u4⟩:=Z0 hu;exact ⟨u,hu,Qc8 hp ((Xm u1 u3).2.2 _ hub).2 ((Xm u2 u4).2.2 _ hua).1 h⟩
 unfold Qc7;rw[e1,e2]
def QJ3 (p:Q6):Option Nat:=(List.range 1001).find? fun (i:Nat)=>decide (Qc7 p i=1)
def Qt8 (p:Q6) (rod:Nat):List Int:=Y0 ((Vm p).map fun x=>x.rods.getD rod 0)
theorem Qnz {p:Q6} {rod:Nat} {n:Int}:n∈Qt8 p rod↔∃ t∈Yp p,t.rods.getD rod 0=n:=by
 unfold Qt8;rw[JA,QKt];constructor
 ·rintro ⟨x,hx,e⟩
  obtain ⟨_,_,h1,h2⟩:=Z0 hx;obtain ⟨b,hb⟩:=QLe _ h1;obtain ⟨a,ha⟩:=QLe _ h2;exact ⟨_,Yy hx hb ha,e⟩
 ·rintro ⟨t,ht,e⟩
  obtain ⟨x,hx,h1,_⟩:=JL ht
  grind
end Go.Pf
namespace Go.Pf
open Go
set_option maxRecDepth 8000
abbrev Txt:=List UInt8
def Qe2 (w:Txt):Option Int :=
 if w.head?=some 45 then
  (if (w.drop 1).length<=9/\(w.drop 1).head?≠some 48 then (Lib.decNat (w.drop 1)).map fun (m:Nat) => -(m:Int) else none)
 else if w.length<=9/\(w.head?=some 48->w.length<=1) then (Lib.decNat w).map fun (m:Nat)=>(m:Int) else none
theorem QgQ (u:Nat):Lib.decDigits u≠[]:=by
 rw[Lib.decDigits];split<;>simp
theorem UW:∀ (l:Txt) (acc m:Nat) (c:UInt8),Lib.decFrom acc l=some m->Lib.decFrom acc (l++[c])=(Lib.digitVal c).map fun d=>m*10+d
 | [],acc,m,c,h=>by
   cases h;simp only[QKx,Lib.decFrom]
   grind
 | b::r,acc,m,c,h=>by
   simp only[QKs,Lib.decFrom] at h |-;cases hb:Lib.digitVal b with
   | some d =>
     rw[hb] at h;exact UW r _ m c h
   | _=>grind
theorem QbV {d:Nat} (h:d<10):Lib.digitVal (UInt8.ofNat (48+d))=some d:=by
 have:(UInt8.ofNat (48+d)).toNat=48+d:=by simp;omega
 unfold Lib.digitVal
 grind
theorem Qcs (u:Nat):Lib.decFrom 0 (Lib.decDigits u)=some u:=by
 induction u using Nat.strongRecOn with
 | ind u ih =>
   rw[Lib.decDigits];split
   ·rename_i h
    have:=QbV h;simp only[Lib.decFrom,this];simp
   ·rename_i h
    rw[UW _ _ _ _ (ih (u / 10) (by omega)),QbV (by omega)]
    simp;omega
theorem WL (u:Nat):Lib.decNat (Lib.decDigits u)=some u:=by
 unfold Lib.decNat;rw[if_neg (by simpa[List.isEmpty_iff] using QgQ u),Qcs]
theorem UO (u:Nat):∃ d,d<10/\(Lib.decDigits u).head?=some (UInt8.ofNat (48+d))/\(d=0->u=0):=by
 induction u using Nat.strongRecOn with
 | ind u ih =>
   rw[Lib.decDigits];split
   ·rename_i h
    exact ⟨u,h,by simp,id⟩
   ·rename_i h
    obtain ⟨d,h1,h2,h3⟩:=ih (u / 10) (by omega)
    grind
theorem QqP {d:Nat} (h:d<10):UInt8.ofNat (48+d)≠45:=by
 intro e;have:=congrArg UInt8.toNat e;simp at this;omega
theorem QcW {d:Nat} (h:d<10) (e:UInt8.ofNat (48+d)=48):d=0:=by
 have:=congrArg UInt8.toNat e;simp at this;omega
theorem qs:∀ (n:Nat) (l:Txt),l.length=n->∀ u,Lib.decNat l=some u->(l.head?=some 48->l.length<=1)->Lib.decDigits u=l
 | 0,l,hl,u,h,_=>by
   have:=QKo hl;subst this;cases h
 | n+1,l,hl,u,h,hz=>by
   have hne:l≠[]:=fun e=>by grind
   obtain ⟨r,c,rfl⟩:∃ r c,l=r++[c]:=⟨l.dropLast,l.getLast hne,(QLn hne).symm⟩
   have hr:r.length=n:=by simpa using hl
   have h':Lib.decFrom 0 (r++[c])=some u:=by
    unfold Lib.decNat at h
    grind
   have hdv:∀ d,Lib.digitVal c=some d->d<10/\c=UInt8.ofNat (48+d):=fun d hd=>by
    unfold Lib.digitVal at hd;split at hd
    ·rename_i hc
     injection hd with hd
     refine ⟨by omega,UInt8.toNat_inj.1 ?_⟩
     simp;omega
    ·cases hd
   cases hm:Lib.decFrom 0 r with
   | none =>
     exfalso
     have:∀ (l:Txt) (acc:Nat),Lib.decFrom acc l=none->Lib.decFrom acc (l++[c])=none:=by
      intro l
      induction l with
      | nil=>intro acc h;cases h
      | cons b t ih =>
        intro acc h;simp only[QKs,Lib.decFrom] at h |-
        grind
     grind
   | some m =>
     rw[UW r 0 m c hm,QKm] at h';obtain ⟨d,hd,rfl⟩:=h';obtain ⟨hd10,rfl⟩:=hdv d hd;by_cases hr0:r=[]
     ·subst hr0
      cases hm;rw[Lib.decDigits];simp[hd10]
     ·have hpos:0<r.length:=QLl.2 hr0
      have hhead:r.head?≠some 48:=fun e=>by
       grind
      have hm':Lib.decNat r=some m:=by
       unfold Lib.decNat
       grind
      have ih:=qs n r hr m hm' (fun e=>absurd e hhead)
      have hm0:m≠0:=fun e=>by
       subst e;have e1:Lib.decDigits 0=[48]:=by rw[Lib.decDigits];rfl
       grind
      rw[Lib.decDigits,dif_neg (by omega)]
      grind
theorem Qnv {w:Txt} {v:Int} (h:Qe2 w=some v):Lib.itoa v=w/\(Lib.trimPrefix w [45]).length<=9/\Lib.atoiAll w=.ok v:=by
 unfold Qe2 at h;split at h
 ·rename_i h45
  obtain ⟨r,rfl⟩:∃ r,w=45::r:=by
   cases w with
   | _=>grind
  simp only[List.drop_succ_cons,List.drop_zero] at h;split at h
  ·rename_i hc
   rw[QKm] at h;obtain ⟨m,hm,rfl⟩:=h;have hd:=qs _ r rfl m hm (fun e=>absurd e hc.2)
   have hm1:1<=m:=by
    rcases Nat.eq_zero_or_pos m with h0 | h0
    ·subst h0
     exfalso;have e1:Lib.decDigits 0=[48]:=by rw[Lib.decDigits];rfl
     grind
    ·exact h0
   refine ⟨by rw[Lib.itoa_neg m hm1,hd],by simp[Lib.trimPrefix,Lib.hasPrefix,hc.1],?_⟩
   rw[Lib.atoiAll_short _ (by simp;omega)]
   simp[Lib.atoi,hm,Lib.NumEnd.ofOption]
  ·cases h
 ·rename_i h45
  split at h
  ·rename_i hc
   rw[QKm] at h;obtain ⟨m,hm,rfl⟩:=h;have hd:=qs _ w rfl m hm hc.2;obtain ⟨d,hd10,hh,_⟩:=UO m;rw[hd] at hh;refine ⟨by rw[Lib.itoa_nonneg,hd],?_,?_⟩
   ·have:Lib.hasPrefix w [45]=false:=by
     cases w with
     | nil=>rfl
     | cons a r =>
       have:a≠45:=fun e=>h45 (by rw[e];rfl)
       simp[Lib.hasPrefix,List.isPrefixOf,Ne.symm this]
    simp[Lib.trimPrefix,this,hc.1]
   ·rw[Lib.atoiAll_short _ (by omega)]
    cases w with
    | nil=>cases hm
    | cons a r =>
      have e45:a≠45:=fun e=>h45 (by rw[e];rfl)
      have e43:a≠43:=fun e=>by
       subst e;simp at hh;have:=congrArg UInt8.toNat hh;simp at this;omega
      simp[Lib.atoi,e45,e43,hm,Lib.NumEnd.ofOption]
  ·cases h
theorem QnL {w:Txt} {v:Int} (h1:Lib.itoa v=w) (h2:(Lib.trimPrefix w [45]).length<=9):Qe2 w=some v:=by
 unfold Lib.itoa at h1;split at h1
 ·rename_i hv
  subst h1;obtain ⟨d,hd10,hh,h0⟩:=UO v.natAbs
  have hz:(Lib.decDigits v.natAbs).head?≠some 48:=fun e=>by
   rw[hh] at e;injection e with e
   have:=h0 (QcW hd10 e);omega
  have hl:(Lib.decDigits v.natAbs).length<=9:=by simpa[Lib.trimPrefix,Lib.hasPrefix] using h2
  simp[Qe2,hz,hl,WL];omega
 ·rename_i hv
  subst h1;obtain ⟨d,hd10,hh,h0⟩:=UO v.toNat
  have h45:(Lib.decDigits v.toNat).head?≠some 45:=fun e=>by
   rw[hh] at e;injection e with e
   exact QqP hd10 e
  have hp:Lib.hasPrefix (Lib.decDigits v.toNat) [45]=false:=by
   cases hw:Lib.decDigits v.toNat with
   | nil=>rfl
   | cons a r =>
     have:a≠45:=fun e=>h45 (by rw[hw,e];rfl)
     simp[Lib.hasPrefix,List.isPrefixOf,Ne.symm this]
  have hl:(Lib.decDigits v.toNat).length<=9:=by simpa[Lib.trimPrefix,hp] using h2
  have h48:(Lib.decDigits v.toNat).head?=some 48->(Lib.decDigits v.toNat).length<=1:=fun e=>by
   rw[hh] at e;injection e with e
   have:=h0 (QcW hd10 e);rw[this,Lib.decDigits];simp
  unfold Qe2;rw[if_neg h45,if_pos ⟨hl,h48⟩,WL];simp;omega
end Go.Pf
namespace Go.Pf
open Go Go.Ev Go.Proofs Go.RowKit
set_option maxRecDepth 8000
structure Qf where
 proof:Qd
 pull:Q6
@[simp] def hoC (h:Qf):List IV:=[Qp h.proof.chain.deeds,Qh h.proof.chain.sights,.int .i64 h.proof.chain.wrong,Qq h.proof.machine.levers,.int .i64 h.proof.machine.water,.int .i64 h.proof.machine.llo,.int .i64 h.proof.machine.lhi,Ze h.proof.machine.bals,.int .i64 h.proof.machine.wrong,
 Q4 h.proof.trials,.int .i64 h.proof.need,.int .i64 h.proof.rule,.int .i64 h.pull.iron,.int .i64 h.pull.glo,.int .i64 h.pull.ghi,W9 h.pull.rods,Y6 h.pull.reads,.int .i64 h.pull.wrong]
@[simp] def hoV (h:Qf):IV:=.agg (hoC h)
def okH (h:Qf):Prop:=OkP h.proof/\OkU h.pull
noncomputable instance (h:Qf):Decidable (okH h):=Classical.propDecidable _
def QEx:Txt:=[121,101,115]
def tNo:Txt:=[110,111]
def QlY:Txt:=[110,111,110,101]
def Qfe:Txt:=[119,104,97,116]
def Qhb:Txt:=[115,117,114,101,108,121]
def QmY:Txt:=[110,101,118,101,114]
def QdF:Txt:=[112,101,114,104,97,112,115]
def Uh:List Txt->Txt
 | []=>[]
 | [x]=>x
 | x::y::r=>x++32::Uh (y::r)
def QqU (l:List Int):Txt:=if l=[] then QlY else Uh (l.map Lib.itoa)
def XL (l:List Int) (e:Int):Txt:=if e=0 then QqU l else if e=3 then QlY else tNo
def Wr (n e:Int):Txt:=if e=0 then (if n=1 then Qhb else if n=2 then QmY else QdF) else XL [] e
inductive Qcf where
 | weld | cut | turn | prove | undo | see | balance | read
 | who | wher | first | pulls | broke | loads | failures | condemned | proved | opn | good | worth | weight | stretch | best | holds | rods
 deriving DecidableEq
def ZF:List (Txt × Nat × Qcf):=[
 ([119,101,108,100],4,.weld),([99,117,116],2,.cut),([116,117,114,110],0,.turn),([112,114,111,118,101],3,.prove),([117,110,100,111],0,.undo),
 ([115,101,101],5,.see),([98,97,108,97,110,99,101],4,.balance),([114,101,97,100],7,.read),
 ([119,104,111],1,.who),([119,104,101,114,101],1,.wher),([102,105,114,115,116],0,.first),([112,117,108,108,115],2,.pulls),([98,114,111,107,101],1,.broke),
 ([108,111,97,100,115],1,.loads),([102,97,105,108,117,114,101,115],0,.failures),([99,111,110,100,101,109,110,101,100],0,.condemned),([112,114,111,118,101,100],1,.proved),
 ([111,112,101,110],0,.opn),([103,111,111,100],0,.good),([119,111,114,116,104],0,.worth),([119,101,105,103,104,116],0,.weight),([115,116,114,101,116,99,104],0,.stretch),
 ([98,101,115,116],0,.best),([104,111,108,100,115],1,.holds),([114,111,100,115],1,.rods)]
def Vw (w:Txt):Option (Nat × Qcf):=(ZF.find? fun p=>p.1==w).map (·.2)
def nI (l:List Int) (i:Nat):Int:=l.getD i 0
def Qi (h:Qf) (d:Qx):Qf:={ h with proof:={ h.proof with chain:={ h.proof.chain with deeds:=h.proof.chain.deeds++[d] } } }
def Vf (h:Qf) (v:Qcf) (l:List Int):Option Qf :=
 match v with
 | .weld=>some (Qi h ⟨1,nI l 0,nI l 1,nI l 2,nI l 3⟩)
 | .cut=>some (Qi h ⟨2,nI l 0,nI l 1,0,0⟩)
 | .turn=>some (Qi h ⟨3,0,0,0,0⟩)
 | .prove=>some { h with proof:={ h.proof with chain:={ h.proof.chain with deeds:=h.proof.chain.deeds++[⟨4,0,0,0,0⟩] },trials:=h.proof.trials++[⟨nI l 0,nI l 1,nI l 2⟩] } }
 | .undo=>match h.proof.chain.deeds.getLast? with
   | none=>none
   | some d=>some { h with proof:={ h.proof with chain:={ h.proof.chain with deeds:=h.proof.chain.deeds.dropLast },trials:=if d.what=4 then h.proof.trials.dropLast else h.proof.trials } }
 | .see=>some { h with proof:={ h.proof with chain:={ h.proof.chain with sights:=h.proof.chain.sights++[⟨nI l 0,nI l 1,nI l 2,nI l 3,nI l 4⟩] } } }
 | .balance=>some { h with proof:={ h.proof with machine:={ h.proof.machine with bals:=h.proof.machine.bals++[⟨nI l 0,nI l 1,nI l 2,nI l 3⟩] } } }
 | .read=>some { h with pull:={ h.pull with reads:=h.pull.reads++[⟨nI l 0,nI l 1,nI l 2,nI l 3,nI l 4,nI l 5,nI l 6⟩] } }
 | _=>none
def Z6:Qcf->Bool
 | .weld | .cut | .turn | .prove | .undo | .see | .balance | .read=>true
 | _=>false
def Zc (out:List Txt) (c:UInt8):List Txt:=if c=32 then out++[[]] else out.set (out.length-1) (out.getD (out.length-1) []++[c])
def spl (s:Txt):List Txt:=s.foldl Zc [[]]
@[simp] def strs (l:List Txt):IV:=.sl 1 (l.map fun s=>[.str s])
theorem Ql3 (x:List Txt) (l:Txt) (c:UInt8):Zc (x++[l]) c=x++Zc [l] c:=by
 unfold Zc
 grind
theorem Qhe (s:Txt):∀ (x:List Txt) (l:Txt),s.foldl Zc (x++[l])=x++s.foldl Zc [l]:=by
 induction s with
 | nil=>intro x l;rfl
 | cons c s ih =>
   intro x l;simp only[QLd];rw[Ql3];by_cases h:c=32
   ·have e:Zc [l] c=[l]++[[]]:=by simp[Zc,h]
    grind
   ·have e:Zc [l] c=[l++[c]]:=by simp[Zc,h]
    rw[e,ih]
theorem Qm1 (s:Txt):∀ l:Txt,s.foldl Zc [l]≠[]:=by
 induction s with
 | nil=>intro l;simp
 | cons c s ih =>
   intro l;simp only[QLd];by_cases h:c=32
   ·have e:Zc [l] c=[l]++[[]]:=by simp[Zc,h]
    rw[e,Qhe];simp
   ·have e:Zc [l] c=[l++[c]]:=by simp[Zc,h]
    grind
theorem Qm2 (a b:Txt):spl (a++32::b)=spl a++spl b:=by
 unfold spl;rw[QLh];have h:=Qm1 a [];generalize a.foldl Zc [[]]=x at *;obtain ⟨y,l,rfl⟩:∃ y l,x=y++[l]:=⟨x.dropLast,x.getLast h,(QLn h).symm⟩
 simp only[QLd];have e:Zc (y++[l]) 32=(y++[l])++[[]]:=by simp[Zc]
 rw[e,Qhe]
theorem X7 (s:Txt):spl (32::s)=[]::spl s:=by
 have:=Qm2 [] s;simpa[spl] using this
theorem QqC (s:Txt):∀ l:Txt,s.foldl Zc [l]=(l++(spl s).headD [])::(spl s).tail:=by
 induction s with
 | nil=>intro l;simp[spl]
 | cons c s ih =>
   intro l;by_cases h:c=32
   ·subst h
    rw[X7,QLd];have e:Zc [l] 32=[l]++[[]]:=by simp[Zc]
    rw[e,Qhe];simp[spl]
   ·have e:∀ l,Zc [l] c=[l++[c]]:=fun l=>by simp[Zc,h]
    rw[QLd,e,ih]
    have:spl (c::s)=([c]++(spl s).headD [])::(spl s).tail:=by
     unfold spl
     grind
    grind
theorem QdL (c:UInt8) (s:Txt) (h:c≠32):spl (c::s)=(c::(spl s).headD [])::(spl s).tail:=by
 have e:Zc [[]] c=[[c]]:=by simp[Zc,h]
 unfold spl;rw[QLd,e,QqC];rfl
theorem QcG:∀ s:Txt,Lib.splitK [32] 0 (Lib.count s [32]) s=spl s
 | []=>by
   rw[Lib.count_miss (by simp[Lib.index])]
   rfl
 | c::s=>by
   have ih:=QcG s;by_cases h:c=32
   ·subst h
    have hix:Lib.index ((32:UInt8)::s) [32]=0:=by rw[Lib.index];grind
    rw[Lib.count_cons_eq,Nat.add_comm,Lib.splitK,hix,X7,<- ih];simp
   ·rw[Lib.count_cons_ne c 32 s h,QdL c s h,<- ih]
    have hp:([32]:List UInt8).isPrefixOf (c::s)=false:=by grind
    have hix:Lib.index (c::s) [32]=if Lib.index s [32] == -1 then -1 else Lib.index s [32]+1:=by rw[Lib.index,hp];simp
    cases hk:Lib.count s [32] with
    | zero=>simp[Lib.splitK]
    | succ k =>
      have hm:¬ Lib.index s [32] = -1:=fun e=>by rw[Lib.count_miss e] at hk;cases hk
      have hge:=Lib.index_ge s [32];obtain ⟨j,hj⟩:∃ j:Nat,Lib.index s [32]=j:=⟨(Lib.index s [32]).toNat,by omega⟩
      have h1:¬ ((j:Int) == -1)=true:=by simp
      have h2:¬ ((j:Int)+1 == -1)=true:=by simp;omega
      have h3:((j:Int)+1).toNat=j+1:=by omega
      simp only[Lib.splitK,hix,hj,if_neg h1,if_neg h2,h3,Int.toNat_natCast];simp
theorem QdK:∀ s:Txt,(spl s).length<=s.length+1
 | []=>by simp[spl]
 | c::s=>by
   have ih:=QdK s;by_cases h:c=32
   ·subst h;rw[X7];simp;exact ih
   ·rw[QdL c s h];simp;omega
theorem qA (s:Txt):∀ x∈spl s,x.length<=s.length:=by
 induction s with
 | nil=>intro x hx;simp[spl] at hx;subst hx;simp
 | cons c s ih =>
   intro x hx;by_cases h:c=32
   ·subst h
    rw[X7] at hx
    grind
   ·rw[QdL c s h] at hx
    rcases QKq.1 hx with rfl | hx
    ·cases hs:spl s with
     | _=>grind
    ·have:=ih x (List.mem_of_mem_tail hx);simp;omega
end Go.Pf
namespace Go.Ev
open Go Go.RowKit
section
variable {P:Program} {K:World->Prop}
theorem Qc0 (ob j i):Qc [(j,ob)] i=if i=j then some ob else none:=by simp[Qc]
theorem Ur (j) {f args xs o q e sz rows mv} (hg:YX P K f xs q e sz rows mv) (hx:imms (Qc o) 40 args=some xs) :
  QU P K f args o [] (ren j q) [(j,ZU e sz rows mv)]:=by
 intro w ok L vs hK hnew hown hlaid hvl hvs
 let a:Act:={ tmps:=vs.toArray,defers:=[] }
 let w0:XI:=⟨w,FrO w (Qc o) L,fun _ h=>h.1,fun t=>a.tmps.getD t undef⟩
 have hget:∀ t (hlt:t<vs.length),a.tmps.getD t undef=vs[t]:=fun t hlt=>by
  simp[a,QLb,hlt]
 have hrel:Rel ok ⟨vs.length,[]⟩ w0 (look (YV 0 args)) (Qc o) a w L:=by
  refine ⟨Zr.refl _ _,⟨[],rfl,QLN,by simp⟩,?_,fun t=>?_,hlaid.objs,hlaid.apart,fun t _=>rfl⟩
  ·simp[a]
  ·rcases Jb args 0 t with h1 | ⟨z,_,h2,h3⟩
   ·rw[h1];exact .iv _ _ (.any _)
   ·rw[h3]
    simp only[Nat.sub_zero] at h2;have hlt:t<vs.length:=by rw[hvl];exact (QKh.1 h2).1
    rw[hget t hlt];exact hvs t z _ h2 (QKg hlt)
 have hs:=(XE hrel (ok1:=ok) (fun b hb=>hb.1) (lo':=Qc o) (fun _ _ h=>h) (fun id ob b hob hb=>hown b ⟨id,ob,hob,hb⟩) 40).2 args xs hx
 refine (hg w ok vs (hK w (Zr.refl _ _)) hnew (by rw[hvl,hs.1]) fun k x u hk hu=>?_).mono fun x w' ⟨v,l,he,hrep,hq,hb⟩=>⟨v,fun _=>l,he,?_,?_,Below.keep hb fun b h=>h.1,by simp⟩
 ·have hlt:k<args.length:=by rw[<- hs.1];exact (QKh.1 hk).1
  exact hs.2 k args[k] x u (QKg hlt) hk (hvs k _ u (QKg hlt) hu)
 ·refine ⟨fun id ob hob=>?_,fun i k oi oj b hij hi hj=>?_⟩
  ·rw[Qc0] at hob
   split at hob
   ·injection hob with hob
    subst hob;cases l<;>simp only[ZU,QK] at hrep |-;obtain ⟨h1,h2,h3,h4,h5⟩:=hrep;refine ⟨⟨h1.own,fun k hk hf=>h1.free k hk hf.1⟩,h2,h3,h4,fun i k c x u hc hx hu=>?_⟩
    have hr:=h5 i k c x u hc hx hu;rw[QKp,QKm] at hc;obtain ⟨c',_,rfl⟩:=hc;rw[QKp,QKm] at hx;obtain ⟨x',_,rfl⟩:=hx;cases hr with
    | iv _ _ r=>exact .iv _ _ (r.mono fun b hb _=>⟨⟨hb.1,fun id o ho=>hb.2 0 _ (show one (ZU e sz rows mv) 0=some (ZU e sz rows mv) from rfl)⟩,rfl⟩)
   ·cases hob
  ·rw[Qc0] at hi hj
   grind
 ·refine QdV (fun b hb=>⟨hb.1,fun id o ho=>hb.2 0 _ (show one (ZU e sz rows mv) 0=some (ZU e sz rows mv) from rfl)⟩) (i:=0) (j:=j) (ob:=ZU e sz rows mv) (by simp[one]) (by simp[Qc]) rfl hq
theorem WQ {C:Env->Qw->Prop} {g:FuncId} {ia ib n et sz mv N e2 sz2 mv2:Nat} {d:Option Nat} {e:Env} {o:Qw} {avs:List AV} {rows rows2:List (List IV)} (mk:List (Option IV)) (hl:mk.length<=30)
  (hg:YX P K g (mk.map fun x=>x.getD (.sl sz (rows.take n))) (.aref 0 N) e2 sz2 rows2 mv2) (h1:avs=mk.map fun x=>match x with | some y=>AV.iv y | none=>.aref ia n)
  (hid:Qc o ia=some (.arr et sz (rows.map (List.map .iv)) mv)) (hib:Qc o ib=none) (hne:ia≠ib) (hmv:mv<=n) (hn:n<=rows.length)
  (h:C (bnd d (.aref ib N) (Qm8 (XR [ia,ib] [] o) e)) (QqR [ia,ib] (XR [ia,ib] [] o) o [(1,ZU e2 sz2 rows2 mv2)])):HK P K g [ia,ib] d C e o avs:=by
 have hrn:∀ rows:List (List IV),(rows.map (List.map AV.iv)).map (rnL (nth [ia,ib]))=rows.map (List.map AV.iv):=fun rows=>Qa7 _ rows
 refine Qn (args0:=mk.map fun x=>match x with | some y=>AV.iv y | none=>.aref 0 n) (o0:=[(0,.arr et sz (rows.map (List.map .iv)) mv)]) (st:=[]) (y:=.aref 1 N) (o1:=[(1,ZU e2 sz2 rows2 mv2)])
  (Ur 1 hg (Qee rfl hmv hn mk 40 (by omega))) ?_ ?_ ?_
 ·rw[h1,List.map_map]
  refine QLg fun x _=>?_
  cases x<;>simp[rn,nth]
 ·refine ⟨by simpa using hne,?_,?_,?_,by simp[ZU,Zk]⟩
  ·rw[QKH]
   intro z hz;obtain ⟨x,_,rfl⟩:=QKt.1 hz;cases x<;>simp[clA]
  ·intro p hp
   simp only[QLp] at hp;subst hp;refine ⟨by simp,?_,?_,rfl⟩
   ·simp only[nth,List.getD_cons_zero,rnO,hrn,hid]
   ·simp only[clO,QKH]
    intro z hz;obtain ⟨x,_,rfl⟩:=QKt.1 hz;exact QbX _ x
  ·intro i hi h
   simp at hi;rcases (show i=0\/i=1 by omega) with rfl | rfl
   ·simp[Qc] at h
   ·simpa[nth] using hib
 ·simpa[rn,nth] using h
end
section
variable {P:Program} {K:World->Prop}
theorem UL {ok w' fr o1 L'} (h:QmN fr ok w' (Qc o1) L') (hlt:∀ b,fr b->b<w'.heap.size) :
  Rel ok ⟨0,[]⟩ ⟨w',fr,hlt,fun _=>undef⟩ (look []) (Qc o1) { tmps:=#[],defers:=[] } w' L' :=
 ⟨Zr.refl _ _,⟨[],rfl,QLN,by simp⟩,rfl,fun t=>.iv _ _ (.any _),h.objs,h.apart,fun t ht=>by simp at ht⟩
theorem J8 (hK:∀ w w',K w->Below w.heap.size w w'->K w') {f xs y o1 r} (h:QU P K f (xs.map .iv) [] [] y o1) (hi:imm (Qc o1) 40 y=some r):Good P K f xs r:=by
 intro w ok vs hk hnew hl hvs;have hn:∀ b,¬ qv (Qc []) (fun _=>.one 0) b:=fun b ⟨id,ob,h1,_⟩=>by simp[Qc] at h1
 have hFr:∀ b,b<w.heap.size->FrO w (Qc []) (fun _=>.one 0) b:=fun b hb=>⟨hb,hn b⟩
 refine (h w ok (fun _=>.one 0) vs (fun w' hkeep=>hK w w' hk (hkeep.mono hFr).below) hnew (fun b hb=>absurd hb (hn b)) ⟨by simp[Qc],by simp[Qc]⟩ (by simpa using hl) (fun k x u hx hu=>?_)).mono
  fun e w' ⟨v,L',he,hlaid,hrep,hkeep,_⟩=>⟨v,he,?_,(hkeep.mono hFr).below⟩
 ·rw[QKp,QKm] at hx
  obtain ⟨z,hz,rfl⟩:=hx;exact .iv _ _ ((hvs k z u hz hu).mono fun b hb _=>⟨⟨hb,by simp[Qc]⟩,rfl⟩)
 ·have hlt:∀ b,FrO w (Qc []) (fun _=>.one 0) b->b<w'.heap.size:=fun b hb=>QK4 hb.1 hkeep.size
  refine (XE (UL hlaid hlt) (ok1:=ok) (fun b hb=>hb.1) (lo':=Qc o1) (fun _ _ h=>h) (fun id ob b hob hb=>?_) 40).1 y v r hrep hi
  by_cases hbl:b<w.heap.size
  ·exact absurd (hFr b hbl) ((hlaid.objs id ob hob).lt hb).1
  ·exact hnew b (QLm.1 hbl)
theorem QU.give {f args o rows st r cs xs} (h:QU P K f args o st (.iv r) ((0,.box cs)::rows)) (hst0:∀ i∈st,i=0)
  (hx:imms (fun i=>if i=0 then Option.none else Qc ((0,.box cs)::rows) i) 40 cs=some xs):QU P K f args o st (.iv r) [(0,.box (xs.map .iv))]:=by
 intro w ok L vs hK hnew hown hlaid hvl hvs;refine (h w ok L vs hK hnew hown hlaid hvl hvs).mono fun e w' ⟨v,L',he,hl',hrep,hkeep,hst⟩=>⟨v,L',he,?_,?_,hkeep,?_⟩
 ·have h0:Qc ((0,AO.box cs)::rows) 0=some (.box cs):=rfl
  have hlt:∀ b,FrO w (Qc o) L b->b<w'.heap.size:=fun b hb=>QK4 hb.1 hkeep.size
  have one0:∀ i ob,Qc [(0,AO.box (xs.map AV.iv))] i=some ob->i=0/\ob=.box (xs.map .iv):=fun i ob hob=>by
   simp only[Qc] at hob
   grind
  have hsub:∀ b,okL ok (Qc ((0,AO.box cs)::rows)) L' b->okL ok (Qc [(0,AO.box (xs.map AV.iv))]) L' b:=fun b hb=>⟨hb.1,fun i ob hob=>by
   obtain ⟨rfl,rfl⟩:=one0 i ob hob;exact hb.2 0 _ h0⟩
  have hs:=(XE (UL hl' hlt) (ok1:=okL ok (Qc [(0,AO.box (xs.map AV.iv))]) L') hsub (lo':=fun i=>if i=0 then Option.none else Qc ((0,.box cs)::rows) i)
   (fun id ob hob=>by
     split at hob
     ·cases hob
     ·exact hob)
   (fun id ob b hob hb=>by
     split at hob
     ·cases hob
     ·rename_i hid
      refine ⟨?_,fun i oi hi=>?_⟩
      ·have hnf:=((hl'.objs id ob hob).lt hb).1
       by_cases hbl:b<w.heap.size
       ·exact hown b (Classical.byContradiction fun hno=>hnf ⟨hbl,hno⟩)
       ·exact hnew b (QLm.1 hbl)
      ·obtain ⟨rfl,rfl⟩:=one0 i oi hi
       exact fun hb0=>hl'.apart 0 id _ ob b (fun e=>hid e.symm) h0 hob hb0 hb) 40).2 cs xs hx
  refine ⟨fun i ob hob=>?_,fun i j oi oj b hij hi hj=>?_⟩
  ·obtain ⟨rfl,rfl⟩:=one0 i ob hob
   have hob0:=hl'.objs 0 _ h0;generalize L' 0=l0 at hob0;cases l0 with
   | box b =>
     obtain ⟨hB,t,us,hb,hul,h1,hcx⟩:=hob0;refine ⟨hB,t,us,hb,by rw[QKz,hs.1];exact hul,h1,fun k x u hk hu=>?_⟩
     grind
   | _=>exact hob0.elim
  grind
 ·cases hrep with
  | iv _ _ hr=>exact .iv _ _ (hr.mono fun b hb _=>⟨⟨hb.1,fun i ob hob=>by
    simp only[Qc] at hob;split at hob
    ·rename_i hi
     subst hi;exact hb.2 0 _ (show Qc ((0,AO.box cs)::rows) 0=some (.box cs) from rfl)
    ·cases hob⟩,rfl⟩)
 ·intro i hi ob hob
  have hi0:=hst0 i hi;subst hi0;obtain ⟨ob',h1,h2⟩:=hst 0 hi ob hob
  have:ob'=.box cs:=by
   have h0:Qc ((0,AO.box cs)::rows) 0=some (.box cs):=rfl;rw[h0] at h1;injection h1 with h1
   exact h1.symm
  subst this;refine ⟨_,rfl,?_⟩;cases ob<;>simp only[Vk] at h2 |-
  grind
end
end Go.Ev
namespace Go.Pf
open Go Go.Ev Go.Proofs Go.RowKit
set_option maxRecDepth 8000
structure KW (w:World):Prop where
 shaped:w.ShapedOpen Tryz.prog
 tab : Lib.TabIs Tryz.prog w "internal/strconv.uint64pow10" .u64 Lib.pow10Tab
 syn : ∃ tp p, w.var? Tryz.prog "strconv.ErrSyntax" = some #[.iface tp p]
 rng : ∃ tp p, w.var? Tryz.prog "strconv.ErrRange" = some #[.iface tp p]
theorem QwQ {n:String} {cs:Array Value} {w:World} (h:w.var? Tryz.prog n=some cs):∃ g,Tryz.prog.globalNamed n=some g/\g<w.heap.size:=by
 unfold World.var? at h;cases hg:Tryz.prog.globalNamed n with
 | _=>grind
theorem QdC {n:String} {cs:Array Value} {w w':World} (h:w.var? Tryz.prog n=some cs) (hb:Below w.heap.size w w'):w'.var? Tryz.prog n=some cs:=by
 obtain ⟨g,hg,hlt⟩:=QwQ h;exact var?_below hb hg hlt h
theorem hKW:∀ w w',KW w->Below w.heap.size w w'->KW w':=fun w w' ⟨h1,h2,⟨t1,p1,h3⟩,t2,p2,h4⟩ hb =>
 ⟨World.ShapedOpen.keptBut h1 (hb.frame (fun _=>False)) (fun _ c=>c.elim),QdC h2 hb,⟨t1,p1,QdC h3 hb⟩,t2,p2,QdC h4 hb⟩
theorem QwG (s:Txt) (hs:s.length<=1000):Ev.Good Tryz.prog KW 117 [.str s,.str [32]] (strs (spl s)):=by
 intro w ok vs hk hok hl hx
 obtain ⟨v0,v1,rfl⟩:∃ v0 v1,vs=[v0,v1]:=by
  match vs,hl with
  | [a,b],_=>grind
 have r0:=hx 0 _ v0 rfl rfl;have r1:=hx 1 _ v1 rfl rfl;cases r0;cases r1;have:=Any.strings_Split_shaped Tryz.laysM146 ⟨s.toArray⟩ ⟨[32].toArray⟩ w hk.shaped (by simp[ByteArray.size];omega) (by simp[ByteArray.size])
 refine this.mono fun e w' ⟨he,hw⟩=>?_
 subst he hw;have hb:=QN w (.cells ((Lib.splitB ⟨[32].toArray⟩ 0 (Lib.countB ⟨s.toArray⟩ ⟨[32].toArray⟩) ⟨s.toArray⟩).map Value.string).toArray (Tryz.laysM146_ren.t 9))
 have hd:(Lib.splitB ⟨[32].toArray⟩ 0 (Lib.countB ⟨s.toArray⟩ ⟨[32].toArray⟩) ⟨s.toArray⟩).map (·.data.toList)=spl s:=by
  rw[Lib.splitB_data];exact QcG s
 have hlen:=Lib.splitB_all ⟨[32].toArray⟩ (by simp[ByteArray.size]) 0 _ ⟨s.toArray⟩ rfl
 generalize Lib.countB ⟨s.toArray⟩ ⟨[32].toArray⟩=n at *;generalize Lib.splitB ⟨[32].toArray⟩ 0 n ⟨s.toArray⟩=L at *;refine ⟨_,rfl,?_,hb⟩;have hl2:(spl s).length=n+1:=by grind
 have hnl:n+1<=maxLen:=by
  have:=QdK s;simp only[maxLen];omega
 have rep:=QZ.sl (ok:=ok) (w:=w.alloc (.cells (L.map Value.string).toArray (Tryz.laysM146_ren.t 9))) 1 ((spl s).map fun s=>[IV.str s]) w.heap.size 0 (n+1) (fun k=>.string (L.getD k default)) (by simp[hl2]) hnl (by simp) (fun k hk=>?_) (fun i j c x hi hj=>?_)
 ·simpa[hl2] using rep
 ·simp[hl2] at hk
  have hkl:k<L.length:=by omega
  refine ⟨hok _ (QKl _),?_,rfl⟩;rw[QKE];exact Jq w _ _ k _ (by simp[hkl])
 ·simp only[QKp,QKm] at hi
  obtain ⟨t,ht,rfl⟩:=hi
  have hj0:j=0:=by
   grind
  subst hj0;simp at hj;subst hj;rw[<- hd,QKp,QKm] at ht;obtain ⟨z,hz,rfl⟩:=ht;have e:L.getD (i*1+0) default=z:=by simp[hz]
  rw[e];have:=QZ.str (ok:=ok) (w:=w.alloc (.cells (L.map Value.string).toArray (Tryz.laysM146_ren.t 9))) z.data.toList;simpa using this
theorem Qh3 (n:Int) (h : -9223372036854775808<=n/\n<=9223372036854775807):Ev.Good Tryz.prog KW 196 [.int .i64 n] (.str (Lib.itoa n)):=by
 intro w ok vs hk hok hl hx
 obtain ⟨v0,rfl⟩:∃ v0,vs=[v0]:=by
  match vs,hl with
  | [a],_=>exact ⟨a,rfl⟩
 have r0:=hx 0 _ v0 rfl rfl;cases r0;refine (Any.strconv_Itoa Tryz.laysM171 n h.1 h.2 w hk.tab).mono fun e w' ⟨he,k,os,hw⟩=>?_
 subst he hw;exact ⟨_,rfl,.str _,⟨rfl,rfl,rfl,by simp[Go.Sort.grow],fun b hb=>Array.getElem?_append_left hb⟩⟩
theorem Qv4 (s p:Txt):Ev.Good Tryz.prog KW 197 [.str s,.str p] (.str (Lib.trimPrefix s p)):=by
 intro w ok vs hk hok hl hx
 obtain ⟨v0,v1,rfl⟩:∃ v0 v1,vs=[v0,v1]:=by
  match vs,hl with
  | [a,b],_=>grind
 have r0:=hx 0 _ v0 rfl rfl;have r1:=hx 1 _ v1 rfl rfl;cases r0;cases r1;refine (Any.strings_TrimPrefix Tryz.lays101 ⟨s.toArray⟩ ⟨p.toArray⟩ w).mono fun e w' ⟨he,hw⟩=>?_
 subst he hw;exact ⟨_,rfl,.str _,Below.refl _ _⟩
theorem Qv5 (s:Txt) (hs:s.length<=1000):Ev.Good Tryz.prog KW 195 [.str s] (.tup (match Lib.atoiAll s with | .ok v=>[.int .i64 v,.lit .nilIface] | .range=>[.int .i64 (Lib.atoiSat s),.ifn] | _=>[.int .i64 0,.ifn])):=by
 intro w ok vs hk hok hl hx
 obtain ⟨v0,rfl⟩:∃ v0,vs=[v0]:=by
  match vs,hl with
  | [a],_=>exact ⟨a,rfl⟩
 have r0:=hx 0 _ v0 rfl rfl;cases r0
 have two:∀ (w':World) (n:Int) (z:IV) (u:Value),QZ ok w' z u->QZ ok w' (.tup [.int .i64 n,z]) (.tuple #[.int .i64 n,u]):=fun w' n z u hz=>by
  refine .tup [.int .i64 n,z] [.int .i64 n,u] rfl fun k x v hk hv=>?_
  match k,hk,hv with
  | 0,hk,hv=>injection hk with hk;injection hv with hv;subst hk hv;exact .int _ _
  | 1,hk,hv=>grind
  | k+2,hk,hv=>simp at hk
 cases h:Lib.atoiAll s with
 | ok v =>
   refine (Any.strconv_Atoi_ok Tryz.laysC172 ⟨s.toArray⟩ (by simp[ByteArray.size];omega) v (by simpa using h) w).mono fun e w' ⟨he,hw⟩=>?_
   subst he;refine ⟨_,rfl,two _ _ _ _ (.lit _),?_⟩;rcases hw with rfl | ⟨t,rfl⟩
   ·exact Below.refl _ _
   ·exact ⟨rfl,rfl,rfl,by rw[Lib.bytesWorld_size];omega,fun j hj=>Lib.bytesWorld_at_old _ _ _ j hj⟩
 | range =>
   obtain ⟨tp,p,hv⟩:=hk.rng;refine (Any.strconv_Atoi_range_var Tryz.laysC172 ⟨s.toArray⟩ (by simp[ByteArray.size];omega) (by simpa using h) tp p w hv).mono fun e w' ⟨N,he,_,_,hb⟩=>?_
   subst he;exact ⟨_,rfl,two _ _ _ _ (.ifn _ rfl),hb⟩
 | _ =>
   obtain ⟨tp,p,hv⟩:=hk.syn;refine (Any.strconv_Atoi_syntax_var Tryz.laysC172 ⟨s.toArray⟩ (by simp[ByteArray.size];omega) (by simpa using h) tp p w hv).mono fun e w' ⟨N,he,_,_,hb⟩=>?_
   subst he;exact ⟨_,rfl,two _ _ _ _ (.ifn _ rfl),hb⟩
theorem QvH (l:List Txt) (hl0:l.length<=1000000) (hj:(Lib.join l [32]).length<=140737488355328):Ev.Good Tryz.prog KW 226 [strs l,.str [32]] (.str (Lib.join l [32])):=by
 intro w ok vs hk hok hl hx
 obtain ⟨v0,v1,rfl⟩:∃ v0 v1,vs=[v0,v1]:=by
  match vs,hl with
  | [a,b],_=>grind
 have r0:=hx 0 _ v0 rfl rfl;have r1:=hx 1 _ v1 rfl rfl;cases r1
 have none_:∀ (a:Option Addr) (c:Nat),l=[]->Calls Tryz.prog 226 [Value.slice a 0 c,.string ⟨[32].toArray⟩].toArray w (fun e w'=>∃ v,e=.returned v/\QZ ok w' (.str (Lib.join l [32])) v/\Below w.heap.size w w'):=fun a c h0=>by
  subst h0;refine (Any.strings_Join_none Tryz.lays156 Tryz.Builder_Extra_156 a c ⟨[32].toArray⟩ w).mono fun e w' ⟨he,hw⟩=>?_
  subst he hw;exact ⟨_,rfl,.str [],Below.refl _ _⟩
 simp only[strs] at r0;generalize hrows:(l.map fun s=>[IV.str s])=rows at r0
 have hrl:rows.length=l.length:=by grind
 cases r0 with
 | sl _ _ b off cap u hlc hc hsz hu hxx =>
   have hcell:∀ (j:Nat) (x:ByteArray),(l.map fun s=>(⟨s.toArray⟩:ByteArray))[j]?=some x->w.cell? ⟨b,off+j,none⟩=some (.string x):=fun j x hj=>by
    rw[QKp,QKm] at hj;obtain ⟨s,hs,rfl⟩:=hj;have hjl:=(QKh.1 hs).1;have h1:=(hu j (by rw[hrl];omega)).2.1
    have h2:=hxx j 0 [.str s] (.str s) (by grind) rfl
    simp only[QLT,QLv] at h2;cases h2':u j with
    | _=>rw[h2'] at h2;first | (cases h2;rw[h1,h2']) | cases h2
   by_cases h0:l=[]
   ·grind
   ·have hbk:b<w.heap.size:=QLc w ⟨b,off+0,none⟩ (hu 0 (by grind)).2.1
    have hd:(l.map fun s=>(⟨s.toArray⟩:ByteArray)).map (·.data.toList)=l:=by simp[List.map_map,Function.comp_def]
    have:=Any.strings_Join Tryz.lays156 Tryz.Builder_Extra_156 b off cap (l.map fun s=>(⟨s.toArray⟩:ByteArray)) ⟨[32].toArray⟩ w hcell hbk (by simp;omega) (by simp;omega) (by rw[hd];exact hj)
    rw[hd,QKz,<- hrl] at this;refine this.mono fun e w' ⟨he,hb⟩=>?_
    subst he;exact ⟨_,rfl,.str _,hb⟩
 | _=>grind
end Go.Pf
namespace Go.Pf
open Go Go.Ev Go.Proofs Go.RowKit Go.ChangeShapes Go.WideShapes Go.Proofs.YtanjbjjkofhanaaGreatDoor
theorem own:ownKnob Tryz.prog.godebug=none:=by kernel_rfl
theorem VJ:laidOutB Tryz.prog=true:=by kernel_rfl
noncomputable def XQ (os:Os):World:=World.laidAll Tryz.prog os Rows.proverAnswersRow.laid
theorem Qav (os:Os) (args:Array Value):laidMet Tryz.prog Rows.proverAnswersRow.laid ((XQ os).forCall (fun _ _=>0) ⟨#[],args,[]⟩).memory :=
 laidMet_laidAll args (by kernel_rfl) (by kernel_rfl)
theorem QFZ : "*" ++ "errors.errorString" = "*errors.errorString" := by decide
set_option maxRecDepth 100000 in
theorem Qtt (u : TypeId) (h : Tryz.prog.typeName? 3 u = some "*errors.errorString") : u = 411 :=
 typeName_ptr_named (nm := "errors.errorString") (by rw [QFZ]; kernel_rfl) (by kernel_rfl) (by decide) u (by rw [QFZ]; exact h)
def qW (es:List Sh) (row:List IV):Prop:=∀ (j:Nat) (s:Sh) (x:IV),es[j]?=some s->row[j]?=some x->Qcb s x
abbrev shI:Sh:=Sh.int IntKind.i64
theorem QcO:∀ rows:List (List IV),(∀ row∈rows,row.length=5)->(∀ row∈rows,qW [shI,shI,shI,shI,shI] row)->∃ fs:List Qx,rows=fs.map dC
 | [],_,_=>⟨[],rfl⟩
 | row::rows,hrl,hr=>by
   obtain ⟨fs,hfs⟩:=QcO rows (fun r hr'=>hrl r (by simp[hr'])) (fun r hr'=>hr r (by simp[hr']))
   have h1:=hrl row (by simp)
   match row,h1 with
   | [c0,c1,c2,c3,c4],_ =>
     have h0:=hr [c0,c1,c2,c3,c4] (by simp) 0 _ c0 rfl rfl
     have h1:=hr [c0,c1,c2,c3,c4] (by simp) 1 _ c1 rfl rfl
     have h2:=hr [c0,c1,c2,c3,c4] (by simp) 2 _ c2 rfl rfl
     have h3:=hr [c0,c1,c2,c3,c4] (by simp) 3 _ c3 rfl rfl
     have h4:=hr [c0,c1,c2,c3,c4] (by simp) 4 _ c4 rfl rfl
     cases h0 with
     | int _ n0 _ _ =>
     cases h1 with
     | int _ n1 _ _ =>
     cases h2 with
     | int _ n2 _ _ =>
     cases h3 with
     | int _ n3 _ _ =>
     cases h4 with
     | int _ n4 _ _ =>
     exact ⟨⟨n0,n1,n2,n3,n4⟩::fs,by simp[hfs]⟩
theorem Qa0:∀ rows:List (List IV),(∀ row∈rows,row.length=5)->(∀ row∈rows,qW [shI,shI,shI,shI,shI] row)->∃ fs:List Xo,rows=fs.map sC
 | [],_,_=>⟨[],rfl⟩
 | row::rows,hrl,hr=>by
   obtain ⟨fs,hfs⟩:=Qa0 rows (fun r hr'=>hrl r (by simp[hr'])) (fun r hr'=>hr r (by simp[hr']))
   have h1:=hrl row (by simp)
   match row,h1 with
   | [c0,c1,c2,c3,c4],_ =>
     have h0:=hr [c0,c1,c2,c3,c4] (by simp) 0 _ c0 rfl rfl
     have h1:=hr [c0,c1,c2,c3,c4] (by simp) 1 _ c1 rfl rfl
     have h2:=hr [c0,c1,c2,c3,c4] (by simp) 2 _ c2 rfl rfl
     have h3:=hr [c0,c1,c2,c3,c4] (by simp) 3 _ c3 rfl rfl
     have h4:=hr [c0,c1,c2,c3,c4] (by simp) 4 _ c4 rfl rfl
     cases h0 with
     | int _ n0 _ _ =>
     cases h1 with
     | int _ n1 _ _ =>
     cases h2 with
     | int _ n2 _ _ =>
     cases h3 with
     | int _ n3 _ _ =>
     cases h4 with
     | int _ n4 _ _ =>
     exact ⟨⟨n0,n1,n2,n3,n4⟩::fs,by simp[hfs]⟩
theorem Qa1:∀ rows:List (List IV),(∀ row∈rows,row.length=3)->(∀ row∈rows,qW [shI,shI,shI] row)->∃ fs:List ZE,rows=fs.map leC
 | [],_,_=>⟨[],rfl⟩
 | row::rows,hrl,hr=>by
   obtain ⟨fs,hfs⟩:=Qa1 rows (fun r hr'=>hrl r (by simp[hr'])) (fun r hr'=>hr r (by simp[hr']))
   have h1:=hrl row (by simp)
   match row,h1 with
   | [c0,c1,c2],_ =>
     have h0:=hr [c0,c1,c2] (by simp) 0 _ c0 rfl rfl
     have h1:=hr [c0,c1,c2] (by simp) 1 _ c1 rfl rfl
     have h2:=hr [c0,c1,c2] (by simp) 2 _ c2 rfl rfl
     cases h0 with
     | int _ n0 _ _ =>
     cases h1 with
     | int _ n1 _ _ =>
     cases h2 with
     | int _ n2 _ _ =>
     exact ⟨⟨n0,n1,n2⟩::fs,by simp[hfs]⟩
theorem QfC:∀ rows:List (List IV),(∀ row∈rows,row.length=4)->(∀ row∈rows,qW [shI,shI,shI,shI] row)->∃ fs:List Zw,rows=fs.map baC
 | [],_,_=>⟨[],rfl⟩
 | row::rows,hrl,hr=>by
   obtain ⟨fs,hfs⟩:=QfC rows (fun r hr'=>hrl r (by simp[hr'])) (fun r hr'=>hr r (by simp[hr']))
   have h1:=hrl row (by simp)
   match row,h1 with
   | [c0,c1,c2,c3],_ =>
     have h0:=hr [c0,c1,c2,c3] (by simp) 0 _ c0 rfl rfl
     have h1:=hr [c0,c1,c2,c3] (by simp) 1 _ c1 rfl rfl
     have h2:=hr [c0,c1,c2,c3] (by simp) 2 _ c2 rfl rfl
     have h3:=hr [c0,c1,c2,c3] (by simp) 3 _ c3 rfl rfl
     cases h0 with
     | int _ n0 _ _ =>
     cases h1 with
     | int _ n1 _ _ =>
     cases h2 with
     | int _ n2 _ _ =>
     cases h3 with
     | int _ n3 _ _ =>
     exact ⟨⟨n0,n1,n2,n3⟩::fs,by simp[hfs]⟩
theorem QaZ:∀ rows:List (List IV),(∀ row∈rows,row.length=3)->(∀ row∈rows,qW [shI,shI,shI] row)->∃ fs:List U0,rows=fs.map trC
 | [],_,_=>⟨[],rfl⟩
 | row::rows,hrl,hr=>by
   obtain ⟨fs,hfs⟩:=QaZ rows (fun r hr'=>hrl r (by simp[hr'])) (fun r hr'=>hr r (by simp[hr']))
   have h1:=hrl row (by simp)
   match row,h1 with
   | [c0,c1,c2],_ =>
     have h0:=hr [c0,c1,c2] (by simp) 0 _ c0 rfl rfl
     have h1:=hr [c0,c1,c2] (by simp) 1 _ c1 rfl rfl
     have h2:=hr [c0,c1,c2] (by simp) 2 _ c2 rfl rfl
     cases h0 with
     | int _ n0 _ _ =>
     cases h1 with
     | int _ n1 _ _ =>
     cases h2 with
     | int _ n2 _ _ =>
     exact ⟨⟨n0,n1,n2⟩::fs,by simp[hfs]⟩
theorem QfB:∀ rows:List (List IV),(∀ row∈rows,row.length=3)->(∀ row∈rows,qW [shI,shI,shI] row)->∃ fs:List Rod,rows=fs.map roC
 | [],_,_=>⟨[],rfl⟩
 | row::rows,hrl,hr=>by
   obtain ⟨fs,hfs⟩:=QfB rows (fun r hr'=>hrl r (by simp[hr'])) (fun r hr'=>hr r (by simp[hr']))
   have h1:=hrl row (by simp)
   match row,h1 with
   | [c0,c1,c2],_ =>
     have h0:=hr [c0,c1,c2] (by simp) 0 _ c0 rfl rfl
     have h1:=hr [c0,c1,c2] (by simp) 1 _ c1 rfl rfl
     have h2:=hr [c0,c1,c2] (by simp) 2 _ c2 rfl rfl
     cases h0 with
     | int _ n0 _ _ =>
     cases h1 with
     | int _ n1 _ _ =>
     cases h2 with
     | int _ n2 _ _ =>
     exact ⟨⟨n0,n1,n2⟩::fs,by simp[hfs]⟩
theorem QcN:∀ rows:List (List IV),(∀ row∈rows,row.length=7)->(∀ row∈rows,qW [shI,shI,shI,shI,shI,shI,shI] row)->∃ fs:List QW,rows=fs.map reC
 | [],_,_=>⟨[],rfl⟩
 | row::rows,hrl,hr=>by
   obtain ⟨fs,hfs⟩:=QcN rows (fun r hr'=>hrl r (by simp[hr'])) (fun r hr'=>hr r (by simp[hr']))
   have h1:=hrl row (by simp)
   match row,h1 with
   | [c0,c1,c2,c3,c4,c5,c6],_ =>
     have h0:=hr [c0,c1,c2,c3,c4,c5,c6] (by simp) 0 _ c0 rfl rfl
     have h1:=hr [c0,c1,c2,c3,c4,c5,c6] (by simp) 1 _ c1 rfl rfl
     have h2:=hr [c0,c1,c2,c3,c4,c5,c6] (by simp) 2 _ c2 rfl rfl
     have h3:=hr [c0,c1,c2,c3,c4,c5,c6] (by simp) 3 _ c3 rfl rfl
     have h4:=hr [c0,c1,c2,c3,c4,c5,c6] (by simp) 4 _ c4 rfl rfl
     have h5:=hr [c0,c1,c2,c3,c4,c5,c6] (by simp) 5 _ c5 rfl rfl
     have h6:=hr [c0,c1,c2,c3,c4,c5,c6] (by simp) 6 _ c6 rfl rfl
     cases h0 with
     | int _ n0 _ _ =>
     cases h1 with
     | int _ n1 _ _ =>
     cases h2 with
     | int _ n2 _ _ =>
     cases h3 with
     | int _ n3 _ _ =>
     cases h4 with
     | int _ n4 _ _ =>
     cases h5 with
     | int _ n5 _ _ =>
     cases h6 with
     | int _ n6 _ _ =>
     exact ⟨⟨n0,n1,n2,n3,n4,n5,n6⟩::fs,by simp[hfs]⟩
theorem QfA:∀ rows:List (List IV),(∀ row∈rows,row.length=1)->(∀ row∈rows,qW [Sh.str] row)->∃ fs:List Txt,rows=fs.map fun s=>[IV.str s]
 | [],_,_=>⟨[],rfl⟩
 | row::rows,hrl,hr=>by
   obtain ⟨fs,hfs⟩:=QfA rows (fun r hr'=>hrl r (by simp[hr'])) (fun r hr'=>hr r (by simp[hr']))
   have h1:=hrl row (by simp)
   match row,h1 with
   | [c],_ =>
     have hc:=hr [c] (by simp) 0 _ c rfl rfl
     cases hc with
     | str s _=>exact ⟨s::fs,by simp[hfs]⟩
theorem QEB:shp Tryz.prog 7 40=some [.sl 40 [shI,shI,shI,shI,shI],.sl 40 [shI,shI,shI,shI,shI],shI,.sl 24 [shI,shI,shI],shI,shI,shI,.sl 32 [shI,shI,shI,shI],shI,.sl 24 [shI,shI,shI],shI,shI,shI,shI,shI,.sl 24 [shI,shI,shI],.sl 56 [shI,shI,shI,shI,shI,shI,shI],shI]:=by kernel_rfl
theorem QJv:shp Tryz.prog 7 3=some [shI]:=by kernel_rfl
theorem QJu:shp Tryz.prog 7 9=some [.str]:=by kernel_rfl
theorem QEA:shp Tryz.prog 7 41=some [.sl 16 [.str]]:=by kernel_rfl
theorem QEv:∃ fs,Tryz.prog.underlying 40=some (.struct fs):=⟨_,Tryz.underlying40⟩
set_option maxRecDepth 100000 in
theorem QAD {x:IV} (h:Qe1 Tryz.prog 3 x):∃ n,x=.int .i64 n:=by
 obtain ⟨ss,h1,h2⟩:=h;rw[QJv] at h1;injection h1 with h1
 subst h1;rw[Tryz.underlying3] at h2;obtain ⟨s,hs,hf⟩:=h2;injection hs with hs _
 subst hs;cases hf with
 | int _ n h1 h2=>exact ⟨n,rfl⟩
set_option maxRecDepth 100000 in
theorem QAC {x:IV} (h:Qe1 Tryz.prog 9 x):∃ t,x=.str t:=by
 obtain ⟨ss,h1,h2⟩:=h;rw[QJu] at h1;injection h1 with h1
 subst h1;rw[Tryz.underlying9] at h2;obtain ⟨s,hs,hf⟩:=h2;injection hs with hs _
 subst hs;cases hf with
 | str t _=>exact ⟨t,rfl⟩
set_option maxRecDepth 100000 in
theorem QeX {x:IV} (h:Qe1 Tryz.prog 41 x):∃ l,x=strs l:=by
 obtain ⟨ss,h1,h2⟩:=h;rw[QEA] at h1;injection h1 with h1
 subst h1;rw[Tryz.underlying41] at h2;obtain ⟨s,hs,hf⟩:=h2;injection hs with hs _
 subst hs;cases hf with
 | sl _ _ rows hw hm hrl hr =>
   obtain ⟨fs,rfl⟩:=QfA rows hrl hr;exact ⟨fs,rfl⟩
set_option maxRecDepth 100000 in
theorem WV {x:IV} (h:Qe1 Tryz.prog 40 x):∃ h,x=hoV h:=by
 obtain ⟨ss,h1,h2⟩:=h;rw[QEB] at h1;injection h1 with h1
 subst h1;obtain ⟨fs',hu⟩:=QEv;rw[hu] at h2;obtain ⟨xs,rfl,hl,hf⟩:=h2
 match xs,hl with
 | [a0,a1,a2,a3,a4,a5,a6,a7,a8,a9,a10,a11,a12,a13,a14,a15,a16,a17],_ =>
   have h0:=hf 0 _ a0 rfl rfl;have h1:=hf 1 _ a1 rfl rfl;have h2:=hf 2 _ a2 rfl rfl;have h3:=hf 3 _ a3 rfl rfl;have h4:=hf 4 _ a4 rfl rfl;have h5:=hf 5 _ a5 rfl rfl;have h6:=hf 6 _ a6 rfl rfl;have h7:=hf 7 _ a7 rfl rfl;have h8:=hf 8 _ a8 rfl rfl;have h9:=hf 9 _ a9 rfl rfl;have h10:=hf 10 _ a10 rfl rfl;have h11:=hf 11 _ a11 rfl rfl;have h12:=hf 12 _ a12 rfl rfl;have h13:=hf 13 _ a13 rfl rfl;have h14:=hf 14 _ a14 rfl rfl;have h15:=hf 15 _ a15 rfl rfl;have h16:=hf 16 _ a16 rfl rfl;have h17:=hf 17 _ a17 rfl rfl;cases h0 with
   | sl _ _ rows0 _ _ hrl0 hr0 =>
   cases h1 with
   | sl _ _ rows1 _ _ hrl1 hr1 =>
   cases h2 with
   | int _ n2 _ _ =>
   cases h3 with
   | sl _ _ rows3 _ _ hrl3 hr3 =>
   cases h4 with
   | int _ n4 _ _ =>
   cases h5 with
   | int _ n5 _ _ =>
   cases h6 with
   | int _ n6 _ _ =>
   cases h7 with
   | sl _ _ rows7 _ _ hrl7 hr7 =>
   cases h8 with
   | int _ n8 _ _ =>
   cases h9 with
   | sl _ _ rows9 _ _ hrl9 hr9 =>
   cases h10 with
   | int _ n10 _ _ =>
   cases h11 with
   | int _ n11 _ _ =>
   cases h12 with
   | int _ n12 _ _ =>
   cases h13 with
   | int _ n13 _ _ =>
   cases h14 with
   | int _ n14 _ _ =>
   cases h15 with
   | sl _ _ rows15 _ _ hrl15 hr15 =>
   cases h16 with
   | sl _ _ rows16 _ _ hrl16 hr16 =>
   cases h17 with
   | int _ n17 _ _ =>
   obtain ⟨l0,rfl⟩:=QcO rows0 hrl0 hr0;obtain ⟨l1,rfl⟩:=Qa0 rows1 hrl1 hr1;obtain ⟨l3,rfl⟩:=Qa1 rows3 hrl3 hr3;obtain ⟨l7,rfl⟩:=QfC rows7 hrl7 hr7;obtain ⟨l9,rfl⟩:=QaZ rows9 hrl9 hr9;obtain ⟨l15,rfl⟩:=QfB rows15 hrl15 hr15;obtain ⟨l16,rfl⟩:=QcN rows16 hrl16 hr16;exact ⟨⟨⟨⟨l0,l1,n2⟩,⟨l3,n4,n5,n6,l7,n8⟩,l9,n10,n11⟩,⟨n12,n13,n14,l15,l16,n17⟩⟩,rfl⟩
theorem QqX {W:World} (hL:laidMetH Tryz.prog Rows.proverAnswersRow.laid W) (hsh:W.ShapedOpen Tryz.prog):KW W:=by
 have hl:laidMet Tryz.prog Rows.proverAnswersRow.laid W:=by
  rw[MakeChecks.laidMetH_plain _ _ _ (by kernel_rfl)] at hL
  exact hL
 have h2:=hl.tail.tail;have h4:=h2.tail.tail;have h5:=h4.tail;refine ⟨hsh,?_,?_,?_⟩
 ·exact Lib.tabIs_of_head (n:=20) (rest:=Rows.proverAnswersRow.laid.drop 3) (g:=5) (t:=415) (e:=367) (by kernel_rfl) (by kernel_rfl) Tryz.underlying415 Tryz.underlying367 (by kernel_rfl) (by kernel_rfl) h2
 ·obtain ⟨a0, s0, hv0, _⟩ := laid_sentinel h5 (show Tryz.prog.globalNamed "strconv.ErrSyntax" = some 1 by kernel_rfl) (show (Tryz.prog.globals[1]?).map (·.type) = some 243 by kernel_rfl) Tryz.underlying243 Qtt Tryz.underlying411 Tryz.underlying413 rfl rfl Tryz.underlying9 (by kernel_rfl) (by kernel_rfl)
  exact ⟨_,_,hv0⟩
 ·obtain ⟨a0, s0, hv0, _⟩ := laid_sentinel h4 (show Tryz.prog.globalNamed "strconv.ErrRange" = some 2 by kernel_rfl) (show (Tryz.prog.globals[2]?).map (·.type) = some 243 by kernel_rfl) Tryz.underlying243 Qtt Tryz.underlying411 Tryz.underlying413 rfl rfl Tryz.underlying9 (by kernel_rfl) (by kernel_rfl)
  exact ⟨_,_,hv0⟩
set_option maxRecDepth 100000
theorem Wt {P:Program} {f:FuncId} {fn:Func} {s:ChangeSpec} {c:OpenClaim}
  (k1:c.wf (OpenSpec.ofChange s)=true) (k2:laidOutB P=true) (k3:mapsRowed P=true) (k4:fn.params.all (P.readableRec ·)=true) (k5:namedTie P c.named s.vars=true)
  (k6:(c.stops==[])=true) (k7:(P.stops==[])=true) (k8:(c.knobs==[])=true) (k9:(P.stopKnobs==[])=true)
  (k10:(c.inPlace==P.inPlace f)=true) (k11:(c.unfollowed==P.unfollowed f)=true) (k12:(c.recurses==P.recurses f)=true) (k13:(c.named==P.varsNamed f)=true)
  (k14:(c.maps==(fn.params.toList++s.plain.varTypes P).any (P.mapsRec ·))=true) (k15:(c.ifaces==(fn.params.toList++s.plain.varTypes P).any (P.ifacesRec ·))=true) (k16:(c.mapsOut==P.mapsAmong fn.resultTypes.toList)=true)
  (k17:(c.loops==(fn.params.toList++s.plain.varTypes P).any (P.loopsFrom ·))=true) (k17b:(c.wideKeys==(fn.params.toList++s.plain.varTypes P++fn.resultTypes.toList).any (P.wideKeysFrom ·))=true)
  (k18:s.vars.all (P.varReadable ·)=true) (k19:fn.resultTypes.all (fun t=>P.readableRec t&&decide (t<P.types.size))=true) (k20:(c.ifacesOut==fn.resultTypes.toList.any (P.ifacesRec ·))=true) (k21:(c.loopsOut==fn.resultTypes.toList.any (P.loopsFrom ·))=true)
  (k22:(c.plainKeys==P.plainKeys)=true) (k23:c.shortTexts.isNone=true) (k23b:P.stopsHeard=true) (k24:P.mayEnter=true) (k24b:(c.lifted==P.liftsFinal)=true) (k24c:(P.make==some c.make)=true)
  (k25:(c.kinds==(if c.domain.isEmpty then [] else fn.params.toList.map fun t=>match P.underlying t with | some (.int k)=>some k | _=>none))=true) (k26:(c.pinned==c.pinnedBy)=true)
  (k27:(c.veiled==(fn.params.toList++s.plain.varTypes P++fn.resultTypes.toList).any (P.veiledRec ·))=true) (k28:c.veiledFits P fn.params.toList (fn.params.toList++s.plain.varTypes P++fn.resultTypes.toList)=true):joinedFacts P f fn s c=true:=by
 simp only[joinedFacts,QKk];exact ⟨⟨⟨⟨⟨⟨⟨⟨⟨⟨⟨⟨⟨⟨⟨⟨⟨⟨⟨⟨⟨⟨⟨⟨⟨⟨⟨⟨⟨⟨⟨k1,k2⟩,k3⟩,k4⟩,k5⟩,k6⟩,k7⟩,k8⟩,k9⟩,k10⟩,k11⟩,k12⟩,k13⟩,k14⟩,k15⟩,k16⟩,k17⟩,k17b⟩,k18⟩,k19⟩,k20⟩,k21⟩,k22⟩,k23⟩,k23b⟩,k24⟩,k24b⟩,k24c⟩,k25⟩,k26⟩,k27⟩,k28⟩
theorem QrA:mapsRowed Tryz.prog=true:=by kernel_rfl
theorem Qrz:(Tryz.prog.stops==[])=true:=by kernel_rfl
theorem Qry:(Tryz.prog.stopKnobs==[])=true:=by kernel_rfl
theorem QeA:Tryz.prog.stopsHeard=true:=by kernel_rfl
theorem Qlq:Tryz.prog.mayEnter=true:=by kernel_rfl
theorem Qrx:(Rows.proverAnswersRow.plainKeys==Tryz.prog.plainKeys)=true:=by kernel_rfl
theorem Qrw:(Rows.proverAnswersRow.lifted==Tryz.prog.liftsFinal)=true:=by kernel_rfl
theorem Qrv:(Tryz.prog.make==some Rows.proverAnswersRow.make)=true:=by kernel_rfl
theorem Qlp:Tryz.pinned.checked.prog.looks []=true:=by kernel_rfl
end Go.Pf
namespace Go.Proofs
open Go.Shelf Go.RowKit Go.Lib
variable {P:Program} {ρ:Ren}
set_option maxHeartbeats 2000000 in
set_option maxRecDepth 100000 in
theorem QmG (L:SlLaysE0.n41 P ρ) (i0:TypeInfo) (z:Value) (size bytes:Nat) (hi:P.info? (ρ.t 23)=some i0) (hz0:i0.zero=some z) (hz1:i0.size=size) (hz2:i0.bytes=bytes) (hzs:z.cells.size=size) (hsz:0<size)
  (z23:∀ w,(Go.sizeOf (ρ.t 23)).run P w=.ok size w) (a:Addr) (c:Nat) (w:World) :
  Calls P (ρ.f 41) #[.slice (some a) 0 c] w fun e w'=>∃ v',e=.returned v'/\w'.ownsRow w.heap.size (ρ.t 23) size v' 0 []/\Below w.heap.size w w':=by
 have mixed:=L.mixed;have t4:=L.t4;have a4:=L.a4;have z4:=L.z4;have v4:=L.v4;have t22:=L.t22;have a22:=L.a22;have z22:=L.z22;have v22:=L.v22;have q22:∀ (w:World) (a:Option Addr) (n c n' c':Nat),(binOp .eql (ρ.t 22) (.slice a n c) (.slice none n' c')).run P w=.ok (.bool a.isNone) w:=fun w a n c n' c'=>Lib.run_eql_slice_nil w _ _ a n c n' c' L.t22
 have u22:∀ w,Sem.run P (underlying (ρ.t 22)) w=.ok (TypeDesc.slice (ρ.t 23)) w:=run_underlying t22
 obtain ⟨_,_,FG⟩:=L.f41
 go_enter FG,SlBodyN.n41_ntmps ρ
 go_wp2_with (at_builtin;refine wpList_append_own _ rfl _ _ (ρ.t 22) rfl w.heap.size (ρ.t 23) i0 z size bytes t22 hi hz0 hz1 hz2 hzs hsz _ _ _ rfl (World.ownsRow_made w #[] 0 (QKl _) (QLw _) (by simp)) a 0 c [] rfl ?qc1 ?qc2 ?qc3 ?qc4 ?qc5 ?qc6 ?_)
 case qc1=>simp
 case qc2=>grind
 case qc3=>grind
 case qc4=>simp
 case qc5=>simp
 case qc6=>simp
 intro v' w1 hown hgrow hnil
 go_wp2
 go_ret
 refine ⟨v',rfl,by simpa using hown,?_⟩
 exact ((Below.refl _ w).alloc (QKl _) _).grown hgrow (by simp) (by intro k hk;simp[Value.ownBlock] at hk;omega)
end Go.Proofs
namespace Go.Ev
open Go Go.RowKit
section
variable {P:Program} {K:World->Prop}
theorem Qpe {f:FuncId} {e:TypeId} {sz bytes:Nat}
  (hcl:∀ (b off n c:Nat) (news:List Value) (w:World),news.length=n*sz->n<=maxLen->n*bytes<=140737488355328->(∀ (j:Nat) (u:Value),news[j]?=some u->w.cell? ⟨b,off+j,none⟩=some u)->(∀ u∈news,u.oneCell'=true) ->
    Calls P f #[.slice (some ⟨b,off,none⟩) n c] w fun x w'=>∃ v',x=.returned v'/\w'.ownsRow w.heap.size e sz v' n news/\v'≠.slice none 0 0/\Below w.heap.size w w')
  (hnil:∀ w:World,Calls P f #[.slice none 0 0] w fun x w'=>x=.returned (.slice none 0 0)/\w'=w)
  (hzero:∀ (a:Addr) (w:World),Calls P f #[.slice (some a) 0 0] w fun x w'=>∃ v',x=.returned v'/\w'.ownsRow w.heap.size e sz v' 0 []/\Below w.heap.size w w')
  (rows:List (List IV)) (hb:rows.length*bytes<=140737488355328) (hsz:∀ c∈rows,c.length=sz):YX P K f [.sl sz rows] (.aref 0 rows.length) e sz rows 0:=by
 by_cases hne:rows=[]
 ·subst hne
  intro w ok vs hk hnew hl hvs
  obtain ⟨v0,rfl⟩:∃ v0,vs=[v0]:=by
   match vs,hl with
   | [v],_=>exact ⟨v,rfl⟩
  have hrep:=hvs 0 _ v0 rfl rfl
  have fin:∀ (v':Value) (w':World),w'.ownsRow w.heap.size e sz v' 0 []->Below w.heap.size w w' ->
    ∃ v l,Ending.returned v'=.returned v/\QK (fun b=>b<w.heap.size) (okL ok (one (ZU e sz [] 0)) (fun _=>l)) w' (one (ZU e sz [] 0)) (fun _=>l) (ZU e sz [] 0) l /\
     QJ (okL ok (one (ZU e sz [] 0)) (fun _=>l)) w' (one (ZU e sz [] 0)) (fun _=>l) (ren 0 (.aref 0 0)) v/\Below w.heap.size w w':=by
   intro v' w' hown hbel;have hsl:=Y8 hown;have hge:∀ b,v'.ownBlock=some b->w.heap.size<=b:=fun b h=>(hown.lt b h).1
   have hown0:w'.ownsRow 0 e sz v' 0 []:=by
    obtain ⟨h1,h2⟩:=hown;refine ⟨h1,?_⟩
    grind
   refine ⟨v',.arr v' [],rfl,⟨⟨by simpa using hown0,fun b h1 h2=>by grind⟩,QLw _,by simp,by simp,by simp⟩,?_,hbel⟩
   exact QJ.aref (ok:=okL ok (one (ZU e sz [] 0)) (fun _=>.arr v' [])) (w:=w') (lo:=one (ZU e sz [] 0)) (L:=fun _=>.arr v' []) 0 e sz [] 0 v' [] (by simp[one,ZU]) rfl hsl
  cases hrep with
  | nils _=>exact (hnil w).mono fun x w' ⟨h1,h2⟩=>by subst h1 h2;exact fin _ _ ⟨by simp,.inl ⟨rfl,rfl⟩⟩ (Below.refl _ _)
  | nilz _ a=>exact (hzero a w).mono fun x w' ⟨v',h1,h2,h3⟩=>by grind
  | sl _ _ b off cap u hlc hc hs hu hx=>exact (hcl b off 0 cap [] w (by simp) (by simp) (by simp) (by simp) (by simp)).mono fun x w' ⟨v',h1,h2,_,h3⟩=>by grind
 ·exact UX hcl rows hb hsz hne
end
end Go.Ev
namespace Go.Pf
open Go Go.Ev Go.Proofs Go.RowKit Go.Shelf
set_option maxRecDepth 8000
noncomputable def QhO (t:TypeId) (h:(Tryz.prog.info? t).isSome=true):TypeInfo:=(Tryz.prog.info? t).get h
noncomputable def QtG (i:TypeInfo) (h:i.zero.isSome=true):Value:=i.zero.get h
section
variable {K:World->Prop}
theorem QbW {f:FuncId} {ρ:Ren} {e:TypeId} (sz bytes:Nat) (L:SlLaysE0.n41 Tryz.prog ρ) (hf:ρ.f 41=f) (he:ρ.t 23=e) (h1:(Tryz.prog.info? e).isSome=true) (h2:(QhO e h1).zero.isSome=true) (h3:(QhO e h1).size=sz) (h4:(QhO e h1).bytes=bytes) (h5:(QtG (QhO e h1) h2).cells.size=sz) (h0:0<sz)
  (hz:∀ w,(Go.sizeOf e).run Tryz.prog w=.ok sz w) (rows:List (List IV)) (hb:rows.length*bytes<=140737488355328) (hsz:∀ c∈rows,c.length=sz):YX Tryz.prog K f [.sl sz rows] (.aref 0 rows.length) e sz rows 0:=by
 subst hf he;have hi:Tryz.prog.info? (ρ.t 23)=some (QhO _ h1):=by simp[QhO]
 have hz0:(QhO _ h1).zero=some (QtG _ h2):=by simp[QtG]
 exact Qpe (fun b off n c news w g1 g2 g3 g4 g5=>AnyE.slices_Clone L _ _ sz bytes hi hz0 h3 h4 h5 h0 hz b off n c news w g1 g2 g3 g4 g5) (fun w=>AnyE.slices_Clone_nil L 0 0 w)
  (fun a w=>QmG L _ _ sz bytes hi hz0 h3 h4 h5 h0 hz a 0 w) rows hb hsz
theorem QCl (l:List Qx) (hl:l.length<=1000):YX Tryz.prog K 64 [Qp l] (.aref 0 l.length) 111 5 (l.map dC) 0:=by
 have h:=QbW (K:=K) (f:=64) (e:=111) 5 40 Tryz.clone64 rfl rfl (by kernel_rfl) (by kernel_rfl) (by kernel_rfl) (by kernel_rfl) (by kernel_rfl) (by decide) Tryz.sizeOf111 (l.map dC) (by simp;omega) (by simp)
 simpa using h
theorem QCk (l:List Xo) (hl:l.length<=1000):YX Tryz.prog K 65 [Qh l] (.aref 0 l.length) 114 5 (l.map sC) 0:=by
 have h:=QbW (K:=K) (f:=65) (e:=114) 5 40 Tryz.clone65 rfl rfl (by kernel_rfl) (by kernel_rfl) (by kernel_rfl) (by kernel_rfl) (by kernel_rfl) (by decide) Tryz.sizeOf114 (l.map sC) (by simp;omega) (by simp)
 simpa using h
theorem QCj (l:List ZE) (hl:l.length<=1000):YX Tryz.prog K 66 [Qq l] (.aref 0 l.length) 117 3 (l.map leC) 0:=by
 have h:=QbW (K:=K) (f:=66) (e:=117) 3 24 Tryz.clone66 rfl rfl (by kernel_rfl) (by kernel_rfl) (by kernel_rfl) (by kernel_rfl) (by kernel_rfl) (by decide) Tryz.sizeOf117 (l.map leC) (by simp;omega) (by simp)
 simpa using h
theorem QCi (l:List Zw) (hl:l.length<=1000):YX Tryz.prog K 67 [Ze l] (.aref 0 l.length) 120 4 (l.map baC) 0:=by
 have h:=QbW (K:=K) (f:=67) (e:=120) 4 32 Tryz.clone67 rfl rfl (by kernel_rfl) (by kernel_rfl) (by kernel_rfl) (by kernel_rfl) (by kernel_rfl) (by decide) Tryz.sizeOf120 (l.map baC) (by simp;omega) (by simp)
 simpa using h
theorem QCh (l:List Rod) (hl:l.length<=1000):YX Tryz.prog K 68 [W9 l] (.aref 0 l.length) 94 3 (l.map roC) 0:=by
 have h:=QbW (K:=K) (f:=68) (e:=94) 3 24 Tryz.clone68 rfl rfl (by kernel_rfl) (by kernel_rfl) (by kernel_rfl) (by kernel_rfl) (by kernel_rfl) (by decide) Tryz.sizeOf94 (l.map roC) (by simp;omega) (by simp)
 simpa using h
theorem QCg (l:List QW) (hl:l.length<=1000):YX Tryz.prog K 69 [Y6 l] (.aref 0 l.length) 79 7 (l.map reC) 0:=by
 have h:=QbW (K:=K) (f:=69) (e:=79) 7 56 Tryz.clone69 rfl rfl (by kernel_rfl) (by kernel_rfl) (by kernel_rfl) (by kernel_rfl) (by kernel_rfl) (by decide) Tryz.sizeOf79 (l.map reC) (by simp;omega) (by simp)
 simpa using h
theorem QCf (l:List U0) (hl:l.length<=1000):YX Tryz.prog K 70 [Q4 l] (.aref 0 l.length) 89 3 (l.map trC) 0:=by
 have h:=QbW (K:=K) (f:=70) (e:=89) 3 24 Tryz.clone70 rfl rfl (by kernel_rfl) (by kernel_rfl) (by kernel_rfl) (by kernel_rfl) (by kernel_rfl) (by decide) Tryz.sizeOf89 (l.map trC) (by simp;omega) (by simp)
 simpa using h
end
end Go.Pf
namespace Go.Proofs
open Go.Shelf
def Tryz.keys395_ren:Go.Shelf.Ren:=⟨fun | 10=>395 | n=>n,fun | 23=>183 | 26=>3 | 3=>74 | 28=>218 | 0=>0 | 27=>217 | 33=>96 | 4=>4 | n=>n,fun | n=>n⟩
theorem Tryz.keys395:Go.Proofs.SlLaysZI.n10 Tryz.prog Tryz.keys395_ren:={
 mixed:=by kernel_rfl
 f10:=⟨Tryz.f395.name,by decide,Tryz.func395.trans (congrArg some (by kernel_rfl))⟩
 t0:=Tryz.underlying0
 a0:=Tryz.isAgg0
 z0:=Tryz.sizeOf0
 v0:=Tryz.zeroValue0
 t4:=Tryz.underlying4
 a4:=Tryz.isAgg4
 z4:=Tryz.sizeOf4
 v4:=Tryz.zeroValue4
 t23:=Tryz.underlying183
 a23:=Tryz.isAgg183
 z23:=Tryz.sizeOf183
 v23:=Tryz.zeroValue183
 t26:=Tryz.underlying3
 a26:=Tryz.isAgg3
 z26:=Tryz.sizeOf3
 v26:=Tryz.zeroValue3
 t33:=Tryz.underlying96
 a33:=Tryz.isAgg96
 z33:=Tryz.sizeOf96
 v33:=Tryz.zeroValue96 }
end Go.Proofs
namespace Go.Pf
open Go Go.Ev Go.Proofs Go.RowKit Go.Shelf
set_option maxRecDepth 8000
theorem Vx (lb:Array Value) (S:List Int->Prop) (N:Nat) (hN:N<=1000000) (w:World) (hseq:SeqGives Fence.wide 2 Tryz.prog 395 lb encZ S N w) :
  Calls Tryz.prog 173 #[.func (.func 395) #[] lb] w fun e w'=>∃ (v:Value) (ss:List Int),e=.returned v/\S ss /\
   w'.ownsRow w.heap.size 3 1 v ss.length ((ss.mergeSort (fun x y=>decide (x<=y))).map encZ)/\(v=.slice none 0 0↔ss=[])/\Below w.heap.size w w':=by
 refine (callsIn_wide (n:=5)).1 ?_;exact AnyZI.sorted_in Tryz.sorted173 Fence.wide 5 trivial trivial trivial trivial rfl (by omega) (Tryz.sorts241 _) (enters_of Tryz.func241 (by kernel_rfl) rfl) 395 lb trivial (enters_of Tryz.func395 (by kernel_rfl) rfl) S N (by unfold maxLen;omega) (by omega) w hseq
section
variable {K:World->Prop}
theorem Qrq (kvs:List (MK × IV)) (ks:List Int) (hk:kvs.map (·.1)=ks.map (fun x=>MK.int .i64 x)) (hwf:∀ x∈ks,-9223372036854775808<=x/\x<9223372036854775808) (hlen:ks.length<=1000000) :
  Ev.Good Tryz.prog K 173 [.clo 395 [] [.ptr [.map kvs]]] (Qt (ks.mergeSort fun x y=>decide (x<=y))):=by
 intro w ok vs hK hnew hl hvs
 obtain ⟨v0,rfl⟩:∃ v0,vs=[v0]:=by
  match vs,hl with
  | [v],_=>exact ⟨v,rfl⟩
 have hrep:=hvs 0 _ v0 rfl rfl
 have fin:∀ (v:Value) (w':World) (ss:List Int),ss.Perm ks->w'.ownsRow w.heap.size 3 1 v ss.length ((ss.mergeSort (fun x y=>decide (x<=y))).map encZ)->Below w.heap.size w w' ->
   ∃ v1,Ending.returned v=.returned v1/\QZ ok w' (Qt (ks.mergeSort fun x y=>decide (x<=y))) v1/\Below w.heap.size w w':=fun v w' ss hp ho hb=>by
  refine ⟨v,rfl,?_,hb⟩;have e1:ss.mergeSort (fun x y=>decide (x<=y))=ks.mergeSort fun x y=>decide (x<=y):=mergeSort_of_perm_i hp
  rw[e1] at ho;have hl2:ss.length=ks.length:=hp.length_eq;have e3:(ks.mergeSort fun x y=>decide (x<=y)).length=ss.length:=by simp[hl2]
  generalize (ks.mergeSort fun x y=>decide (x<=y))=zs at *
  obtain ⟨h1,h2 | ⟨g,cap,cur,h2,h3,h4,h5,h6,h7,h8⟩⟩:=ho
  ·obtain ⟨rfl,h2⟩:=h2
   have:zs=[]:=QKo (by omega)
   subst this;exact .nils _
  ·subst h2
   rw[<- e3];refine Wd zs g cap (by omega) h6 (hnew g h3) fun j z hj=>?_
   have hjl:=(QKh.1 hj).1;have:(cur.toList.take (ss.length*1))[j]?=some (.int .i64 z):=by grind
   rw[QK5,if_pos (by omega)] at this
   simp only[World.cell?,h4];simpa using this
 cases hrep with
 | clo _ _ _ us vs' h1 h2 hf hc =>
   obtain rfl:us=[]:=QKo h1
   obtain ⟨p,rfl⟩:∃ p,vs'=[p]:=by
    match vs',h2 with
    | [v],_=>exact ⟨v,rfl⟩
   have hp:=hc 0 _ p rfl rfl;cases hp with
   | ptr _ b off u hu hx =>
     have hcell:=(hu 0 (by simp)).2.1
     rw[QLv] at hcell;have hbw:b<w.heap.size:=QLc w ⟨b,off,none⟩ hcell;have hm:=hx 0 _ rfl;generalize u 0=u0 at hcell hm;cases hm with
     | mapn =>
       have hk0:ks=[]:=by simpa using hk.symm
       subst hk0;refine (Vx _ _ 0 (by omega) w (Jh (ρ:=Tryz.keys395_ren) { Tryz.keys395 with } Fence.wide 2 trivial rfl b off w hbw hcell)).mono ?_
       grind
     | map _ r es clock hok hr hmr hd hxx =>
       have hks:kvs.length=ks.length:=by simpa using congrArg List.length hk
       have hkey:∀ (i:Nat) (x:MapEntry),es[i]?=some x->∃ n:Int,ks[i]?=some n/\x.key=.int .i64 n:=fun i x hx=>by
        obtain ⟨k,h3,h4⟩:=hmr.keys i x hx;rw[<- QKp,hk,QKp,QKm] at h3;obtain ⟨n,h5,rfl⟩:=h3;exact ⟨n,h5,h4⟩
       have hrd:∀ (i:Nat) (x:MapEntry),es[i]?=some x->∃ n:Int,ks[i]?=some n/\x.key=.int .i64 n/\WideElems.rd Tryz.prog 3 Qg5 x=some (.int .i64 n,.nil):=fun i x hx=>by
        obtain ⟨n,h3,h4⟩:=hkey i x hx;exact ⟨n,h3,h4,Qs8 h4 (hwf n (QKw h3))⟩
       have hlist:es.toList.map (fun x=>intOf (WideElems.rg Tryz.prog 3 Qg5 x).1)=ks:=by
        refine List.ext_getElem? fun i=>?_
        rw[QKp];cases hx:es[i]? with
        | none =>
          have:es.size<=i:=by
           grind
          have hz:=hmr.size
          grind
        | some x =>
          obtain ⟨n,h3,h4,h5⟩:=hrd i x hx;rw[Array.getElem?_toList,hx,h3];simp[WideElems.rg,h5,intOf]
       have hown:w.ownsMap Tryz.prog 3 Qg5 r ks.length (DataW.map ((es.toList.map (WideElems.rg Tryz.prog 3 Qg5)).foldr DataW.insert [])):=by
        refine ⟨es,clock,hr,⟨by have:=hmr.size;unfold maxLen;omega,⟨fun x hx=>?_,?_,?_⟩,fun x hx=>?_⟩,by grind,rfl⟩
        ·obtain ⟨i,hi⟩:=QKZ hx
         exact hmr.born i x (by simpa using hi)
        ·rw[List.nodup_iff_pairwise_ne] at *
         refine QLt.2 fun i j hi hj hij heq=>?_
         simp at hi hj heq;have:=hmr.apart i j es[i] es[j] (by simp[hi]) (by simp[hj]) heq
         omega
        ·refine QLt.2 fun i j hi hj hij heq=>?_
         simp at hi hj heq;obtain ⟨k1,h3,h4⟩:=hmr.keys i es[i] (by simp[hi])
         obtain ⟨k2,h5,h6⟩:=hmr.keys j es[j] (by simp[hj])
         rw[QKm] at h3 h5;obtain ⟨p,h7,rfl⟩:=h3;obtain ⟨q,h8,rfl⟩:=h5;rw[h4,h6] at heq
         have:p.1=q.1:=by
          cases hp1:p.1<;>cases hq1:q.1<;>rw[hp1,hq1] at heq<;>simp[MK.val] at heq |-<;>simp_all
         grind
        ·obtain ⟨i,hi⟩:=QKZ hx
         grind
       have hperm:(intKeys (DataW.map ((es.toList.map (WideElems.rg Tryz.prog 3 Qg5)).foldr DataW.insert []))).Perm ks:=by
        have:=(sorted_perm (es.toList.map (WideElems.rg Tryz.prog 3 Qg5))).map fun p=>intOf p.1
        rw[List.map_map] at this;refine this.trans ?_;rw[show es.toList.map ((fun p=>intOf p.1)∘WideElems.rg Tryz.prog 3 Qg5)=ks from hlist]
       have hsz:=hown.size_le;refine (Vx _ _ _ (by omega) w (Uy (ρ:=Tryz.keys395_ren) { Tryz.keys395 with } Fence.wide 2 trivial rfl (by omega) b off r _ _ w hbw hcell hown)).mono ?_
       grind
end
end Go.Pf
namespace Go.Pf
open Go Go.Ev Go.Proofs Go.RowKit
variable {K:World->Prop} (hK:∀ w w',K w->Below w.heap.size w w'->K w')
set_option maxRecDepth 8000
include hK
theorem JI (x a b:Int):Ev.Good Tryz.prog K 47 [.int .i64 x,.int .i64 a,.int .i64 b] (.bool (decide (inR x a b))):=by
 refine Qb hK QCU (by simp) ?_
 by_cases h:a<=x<;>simp[inR,h]
theorem Vq (x a b:Int):Ev.Good Tryz.prog K 61 [.int .i64 x,.int .i64 a,.int .i64 b] (.bool (decide (inR x a b))):=by
 refine Qb hK QCF (by simp) ?_
 simp;exact cK (Z3 hK x a b) (by simp)
theorem QBT (n:Int):Ev.Good Tryz.prog K 49 [.int .i64 n] (.bool (decide (n=1\/n=2))):=by
 refine Qb hK QCS (by simp) ?_
 by_cases h:n=1<;>simp[h]
theorem QBP (n:Int):Ev.Good Tryz.prog K 62 [.int .i64 n] (.bool (decide (n=1\/n=2))):=by
 refine Qb hK QCE (by simp) ?_
 by_cases h:n=1<;>simp[h]
theorem QBV (r:Rod):Ev.Good Tryz.prog K 46 [.agg (roC r)] (.bool (decide (Vt r))):=by
 refine Qb hK QCV (by simp) ?_
 simp;refine cK (JI hK _ _ _) ?_;by_cases h1:inR r.long 1 9999
 ·have h1':=h1
  simp only[inR] at h1';simp[h1,Vt,Vo];refine ⟨by omega,cK (JI hK _ _ _) ?_⟩
  by_cases h2:inR r.wear 0 (min 9 (r.long-1))
  ·simp[h2]
   exact cK (JI hK _ _ _) (by simp)
  ·simp[h2]
 ·simp[h1,Vt]
theorem QBU (p:Q6) (x:QW) (hl:p.rods.length<=1000):Ev.Good Tryz.prog K 48 [.agg (reC x),.ptr (puC p)] (.bool (decide (XW p.rods.length x))):=by
 refine Qb hK QCT (by simp) ?_
 simp;refine cK (QBT hK _) ?_;by_cases h1:x.whn=1\/x.whn=2
 ·simp[h1,XW]
  intro _;refine ⟨by omega,cK (JI hK _ _ _) ?_⟩
  by_cases h2:inR x.rod 0 ((p.rods.length:Int)-1)
  ·simp[h2]
   refine cK (JI hK _ _ _) ?_;by_cases h3:inR x.count 0 99
   ·simp[h3]
    refine cK (JI hK _ _ _) ?_;by_cases h4:inR x.rest 0 9999
    ·simp[h4]
     refine cK (JI hK _ _ _) ?_;by_cases h5:inR x.off 0 99
     ·simp[h5]
      refine cK (JI hK _ _ _) ?_;by_cases h6:inR x.wlo (-50) x.whi
      ·simp[h6]
      ·simp[h6]
     ·simp[h5]
    ·simp[h4]
   ·simp[h3]
  ·simp[h2]
 ·simp[h1,XW]
theorem Qwn (r:QW) (g:FuncId) (cs:List IV) (q:QW->Bool) (hg:Ev.Good Tryz.prog K g ([.agg (reC r)]++cs) (.bool (q r))) (hc:callee Tryz.prog g=true):Ev.Good Tryz.prog K 145 [.agg (reC r),.ptr [.clo g [] cs]] (.bool (!q r)):=by
 refine Qb hK Qz2 (by simp) ?_
 simp;exact ⟨hc,cK hg (by simp)⟩
theorem Qrr (r:Rod) (g:FuncId) (q:Rod->Bool) (hg:Ev.Good Tryz.prog K g [.agg (roC r)] (.bool (q r))) (hc:callee Tryz.prog g=true):Ev.Good Tryz.prog K 143 [.agg (roC r),.ptr [.fn g]] (.bool (!q r)):=by
 refine Qb hK Qz4 (by simp) ?_
 simp;exact ⟨hc,cK hg (by simp)⟩
theorem QvL (l:List Rod) (g:FuncId) (cs:List IV) (p:Rod->Bool) (hg:∀ x∈l,Ev.Good Tryz.prog K g ([.agg (roC x)]++cs) (.bool (p x))) (hc:callee Tryz.prog g=true) (hl:l.length<=1000):Ev.Good Tryz.prog K 221 [W9 l,.clo g [] cs] (.int .i64 (fi p l)):=by
 refine Qb hK QyZ (by simp) ?_
 simp;intro _;refine Qe (fun i=>[(0,AV.iv (W9 l)),(1,AV.iv (.clo g [] cs)),(7,AV.iv (.int .i64 l.length)),(8,AV.iv (IV.int IntKind.i64 (i:Nat)))]) (fun _=>[]) l.length (fun i=>∀ x∈l.take i,p x=false) (by simp) ?_ ?_
 ·intro h
  rw[Qa QjA.eq_1];rw[QKn] at h;simp[UT p l h]
 ·intro i hi h ih
  rw[Qa QjA.eq_1];have hgi:=hg l[i] (QKj hi);simp[hi] at ih |-;refine ⟨hc,cK hgi ?_⟩;by_cases hp:p l[i]=true
  ·simp[hp,Qip p l i hi hp h]
  ·have hp':p l[i]=false:=by simpa using hp
   simp[hp'];refine ⟨by omega,ih ?_⟩
   rw[QKf hi]
   grind
theorem QvK (l:List QW) (g:FuncId) (cs:List IV) (p:QW->Bool) (hg:∀ x∈l,Ev.Good Tryz.prog K g ([.agg (reC x)]++cs) (.bool (p x))) (hc:callee Tryz.prog g=true) (hl:l.length<=1000):Ev.Good Tryz.prog K 222 [Y6 l,.clo g [] cs] (.int .i64 (fi p l)):=by
 refine Qb hK QyY (by simp) ?_
 simp;intro _;refine Qe (fun i=>[(0,AV.iv (Y6 l)),(1,AV.iv (.clo g [] cs)),(7,AV.iv (.int .i64 l.length)),(8,AV.iv (IV.int IntKind.i64 (i:Nat)))]) (fun _=>[]) l.length (fun i=>∀ x∈l.take i,p x=false) (by simp) ?_ ?_
 ·intro h
  rw[Qa Qjz.eq_1];rw[QKn] at h;simp[UT p l h]
 ·intro i hi h ih
  rw[Qa Qjz.eq_1];have hgi:=hg l[i] (QKj hi);simp[hi] at ih |-;refine ⟨hc,cK hgi ?_⟩;by_cases hp:p l[i]=true
  ·simp[hp,Qip p l i hi hp h]
  ·have hp':p l[i]=false:=by simpa using hp
   simp[hp'];refine ⟨by omega,ih ?_⟩
   rw[QKf hi]
   grind
theorem Qwp (l:List Rod) (g:FuncId) (cs:List IV) (p:Rod->Bool) (hg:∀ x∈l,Ev.Good Tryz.prog K g ([.agg (roC x)]++cs) (.bool (p x))) (hc:callee Tryz.prog g=true) (hl:l.length<=1000):Ev.Good Tryz.prog K 142 [W9 l,.clo g [] cs] (.bool (l.any p)):=by
 refine Qb hK Qz5 (by simp) ?_
 simp;refine cK (QvL hK l g cs p hg hc hl) ?_;simp[VS]
theorem Qwo (l:List QW) (g:FuncId) (cs:List IV) (p:QW->Bool) (hg:∀ x∈l,Ev.Good Tryz.prog K g ([.agg (reC x)]++cs) (.bool (p x))) (hc:callee Tryz.prog g=true) (hl:l.length<=1000):Ev.Good Tryz.prog K 144 [Y6 l,.clo g [] cs] (.bool (l.any p)):=by
 refine Qb hK Qz3 (by simp) ?_
 simp;refine cK (QvK hK l g cs p hg hc hl) ?_;simp[VS]
theorem QBS (l:List Rod) (g:FuncId) (q:Rod->Bool) (hg:∀ x,Ev.Good Tryz.prog K g [.agg (roC x)] (.bool (q x))) (hc:callee Tryz.prog g=true) (hl:l.length<=1000):Ev.Good Tryz.prog K 50 [W9 l,.fn g] (.bool (l.all q)):=by
 refine Qb hK QCQ (by simp) ?_
 simp;refine cK (Qwp hK l 143 [.ptr [.fn g]] (fun x=>!q x) (fun x _=>Qrr hK x g q (hg x) hc) (by kernel_rfl) hl) ?_
 simp[List.all_eq_not_any_not]
theorem QBR (l:List QW) (g:FuncId) (cs:List IV) (q:QW->Bool) (hg:∀ x,Ev.Good Tryz.prog K g ([.agg (reC x)]++cs) (.bool (q x))) (hc:callee Tryz.prog g=true) (hl:l.length<=1000):Ev.Good Tryz.prog K 51 [Y6 l,.clo g [] cs] (.bool (l.all q)):=by
 refine Qb hK QCP (by simp) ?_
 simp;refine cK (Qwo hK l 145 [.ptr [.clo g [] cs]] (fun x=>!q x) (fun x _=>Qwn hK x g cs q (hg x) hc) (by kernel_rfl) hl) ?_
 simp[List.all_eq_not_any_not]
theorem Qtj (p:Q6) (hl:p.rods.length<=1000) (hx:p.reads.length<=1000):Ev.Good Tryz.prog K 23 [puV p] (.int .i64 (if OkU p then 0 else 40)):=by
 refine Qb hK QDh (by simp) ?_
 have no:∀ q:Prop,(OkU p->q)->¬ q->¬ OkU p:=fun q h1 h2 h=>h2 (h1 h)
 simp;refine cK (JI hK _ _ _) ?_;by_cases h1:inR p.iron 0 50
 ·simp[h1]
  refine cK (JI hK _ _ _) ?_;by_cases h2:inR p.glo 1 p.ghi
  ·simp[h2]
   by_cases h3:p.ghi<=99999
   ·have h3':¬ 99999<p.ghi:=by omega
    simp[h3'];intro _;refine cK (JI hK _ _ _) ?_;by_cases h4:inR p.wrong 0 8
    ·simp[h4]
     intro _;by_cases h5:p.rods.length<=4
     ·have h5':¬ (4:Int)<p.rods.length:=by omega
      simp[h5'];intro _;by_cases h6:p.reads.length<=8
      ·have h6':¬ (8:Int)<p.reads.length:=by omega
       simp[h6'];intros;refine cK (QBS hK p.rods 46 (fun r=>decide (Vt r)) (QBV hK) (by kernel_rfl) hl) ?_
       by_cases h7:∀ r∈p.rods,Vt r
       ·have h7':p.rods.all (fun r=>decide (Vt r))=true:=by simpa using h7
        simp only[h7'];simp;refine cK (QBR hK p.reads 48 [.ptr (puC p)] (fun x=>decide (XW p.rods.length x)) (fun x=>QBU hK p x hl) (by kernel_rfl) hx) ?_
        by_cases h8:∀ x∈p.reads,XW p.rods.length x
        ·have h8':p.reads.all (fun x=>decide (XW p.rods.length x))=true:=by simpa using h8
         have hok:OkU p:=⟨h1,h2,h3,h4,h5,h6,h7,h8⟩;simp only[h8'];simp[hok]
        ·have h8':p.reads.all (fun x=>decide (XW p.rods.length x))=false:=by simpa using h8
         have:=no _ (fun h=>h.reads) h8
         simp only[h8'];simp[this]
       ·have h7':p.rods.all (fun r=>decide (Vt r))=false:=by simpa using h7
        have:=no _ (fun h=>h.rods) h7
        simp only[h7'];simp[this]
      ·have h6':(8:Int)<p.reads.length:=by omega
       have:=no _ (fun h=>h.xlen) h6
       grind
     ·have h5':(4:Int)<p.rods.length:=by omega
      have:=no _ (fun h=>h.rlen) h5
      grind
    ·have:=no _ (fun h=>h.wrong) h4
     simp[h4,this]
   ·have h3':99999<p.ghi:=by omega
    have:=no _ (fun h=>h.most) h3
    grind
  ·have:=no _ (fun h=>h.guess) h2
   simp[h2,this]
 ·have:=no _ (fun h=>h.iron) h1
  simp[h1,this]
omit hK
theorem Qbm {a b A B:Int} (h0:0<=a) (h1:a<=A) (h2 : -B<=b) (h3:b<=B) : -(A*B)<=a*b/\a*b<=A*B:=by
 have hB:0<=B:=by omega
 have hA:0<=A:=by omega
 have e1:a*b<=a*B:=QK9 h3 h0;have e2:a*B<=A*B:=QKL h1 hB;have e3:a*(-B)<=a*b:=QK9 h2 h0
 grind
theorem Qlu {p:Q6} {x:QW} {len rl t:Int} (hp:OkU p) (hx:XW p.rods.length x) (hlen:0<=len/\len<=99999) (hrl:0<=rl/\rl<=9999) (ht : -50<=t/\t<=50) :
  (0<=x.count*rl/\x.count*rl<=1000000)/\(-2500<=p.iron*t/\p.iron*t<=2500)/\(-2500<=VN p x*t/\VN p x*t<=2500) /\
  (-200000000000<=len*(1000000+p.iron*t)/\len*(1000000+p.iron*t)<=200000000000) /\
  (-4000000000000<=(x.count*rl+x.rest)*(1000000+VN p x*t)/\(x.count*rl+x.rest)*(1000000+VN p x*t)<=4000000000000)/\(0<=x.off*1000000/\x.off*1000000<=99000000):=by
 obtain ⟨hw,hr,hc,hrest,hoff,hwl,hwh⟩:=hx;have hi:=hp.iron;simp only[inR] at *;have hlt:x.rod.toNat<p.rods.length:=by omega
 have hg:0<=VN p x/\VN p x<=50:=by
  unfold VN;rw[List.getD_eq_getElem?_getD,QKg hlt];have:=(hp.rods _ (QKj hlt)).2.2;simpa[inR] using this
 have b1:=Qbm hc.1 hc.2 (b:=rl) (B:=9999) (by omega) (by omega)
 have b1':=QK8 hc.1 hrl.1;have b2:=Qbm hi.1 hi.2 (b:=t) (B:=50) (by omega) (by omega)
 have b3:=Qbm hg.1 hg.2 (b:=t) (B:=50) (by omega) (by omega)
 have b4:=Qbm hlen.1 hlen.2 (b:=1000000+p.iron*t) (B:=1002500) (by omega) (by omega)
 have b5:=Qbm (a:=x.count*rl+x.rest) (A:=1000000) (by omega) (by omega) (b:=1000000+VN p x*t) (B:=1002500) (by omega) (by omega)
 omega
theorem Qk3 (p:Q6) (x:QW) (len rl t:Int):QnV p x len rl t=decide (max (Qtu p x len rl t) (-Qtu p x len rl t)<=x.off*1000000):=by
 unfold QnV
 grind
theorem Qfb {n:Nat} {x:QW} (hx:XW n x):x.wlo+QdB x=x.whi+1:=by
 obtain ⟨_,_,_,_,_,h,_⟩:=hx;simp only[inR] at h;unfold QdB;omega
theorem QfH {p:Q6} {x:QW} {len rl:Int} (h:∀ j:Nat,j<QdB x->QnV p x len rl (x.wlo+j)=false):VC p x len rl=false:=by
 unfold VC
 grind
theorem QfI {p:Q6} {x:QW} {len rl:Int} (j:Nat) (hj:j<QdB x) (h:QnV p x len rl (x.wlo+j)=true):VC p x len rl=true :=
 QLF.2 ⟨j,QKO.2 hj,h⟩
include hK
theorem Qtc (p:Q6) (n:Int) (hl:p.rods.length<=1000):Ev.Good Tryz.prog K 63 [puV p,.int .i64 n] (.bool (decide (inR n 0 ((p.rods.length:Int)-1)))):=by
 refine Qb hK QCD (by simp) ?_
 simp;intro _;refine ⟨by omega,cK (Vq hK _ _ _) ?_⟩
 simp
theorem QuY (p:Q6) (x:QW) (len rl:Int) (hp:OkU p) (hx:XW p.rods.length x) (hlen:0<=len/\len<=99999) (hrl:0<=rl/\rl<=9999) :
  Ev.Good Tryz.prog K 394 [puV p,.agg (reC x),.int .i64 len,.int .i64 rl] (.bool (VC p x len rl)):=by
 refine Qb hK QxD (by simp) ?_
 have h1:=hx.2.1;have h3:=hx.2.2.2.1;have hwl:=hx.2.2.2.2.2.1;have hwh:=hx.2.2.2.2.2.2;simp only[inR] at h1 h3 hwl;have b0:=(Qlu hp hx hlen hrl (t:=0) (by omega)).1
 have hlt:x.rod.toNat<p.rods.length:=by omega
 have hwp:=Qfb hx;simp;refine ⟨by omega,by omega,?_⟩
 have e0:AV.iv (.int .i64 x.wlo)=AV.iv (.int .i64 (x.wlo+((0:Nat):Int))):=by simp
 rw[e0];refine Qe (fun i=>[(2,AV.iv (.int .i64 len)),(4,AV.iv (.ptr (puC p))),(5,AV.iv (.ptr (reC x))),(9,AV.iv (.int .i64 (x.count*rl+x.rest))),(10,AV.iv (.int .i64 (x.wlo+(i:Nat))))]) (fun _=>[]) (QdB x) (fun i=>∀ j:Nat,j<i->QnV p x len rl (x.wlo+j)=false) (by simp) ?_ ?_
 ·intro h
  have hn:=QfH h;rw[Qa Qiv.eq_1];have:¬ x.wlo+((QdB x:Nat):Int)<=x.whi:=by omega
  simp[this,hn]
 ·intro i hi h ih
  rw[Qa Qiv.eq_1];have hle:x.wlo+(i:Int)<=x.whi:=by omega
  obtain ⟨b1,b2,b3,b4,b5,b6⟩:=Qlu hp hx hlen hrl (t:=x.wlo+(i:Int)) (by omega)
  have hgr:p.rods[x.rod.toNat].grow=VN p x:=by simp[VN,hlt]
  have hab:=Qk3 p x len rl (x.wlo+(i:Int));have her:Qtu p x len rl (x.wlo+(i:Int))=len*(1000000+p.iron*(x.wlo+i))-(x.count*rl+x.rest)*(1000000+VN p x*(x.wlo+i)):=rfl;generalize hE:Qtu p x len rl (x.wlo+(i:Int))=E at *;by_cases hh:QnV p x len rl (x.wlo+(i:Int))=true
  ·have hr:=QfI i hi hh
   rw[hh] at hab
   have hm:(if E < -E then -E else E)<=x.off*1000000:=by
    grind
   simp[hle,hlt,hgr,hr];omega
  ·have hf:QnV p x len rl (x.wlo+(i:Int))=false:=by simpa using hh
   rw[hf] at hab
   have hm:¬ (if E < -E then -E else E)<=x.off*1000000:=by
    grind
   have ih:=ih (fun j hj=>by
    grind)
   simp at ih;simp[hle,hlt,hgr]
   grind
theorem Qoe (p:Q6) (hl:p.rods.length<=1000) (hx:p.reads.length<=1000):Ev.Good Tryz.prog K 27 [puV p] (.int .i64 (if OkU p then 0 else 40)):=by
 refine Qb hK QDe (by simp) ?_
 have no:∀ q:Prop,(OkU p->q)->¬ q->¬ OkU p:=fun q h1 h2 h=>h2 (h1 h)
 simp;refine cK (Vq hK _ _ _) ?_;by_cases h1:inR p.iron 0 50
 ·simp[h1]
  refine cK (Vq hK _ _ _) ?_;by_cases h2:inR p.glo 1 p.ghi
  ·simp[h2]
   by_cases h3:p.ghi<=99999
   ·have h3':¬ 99999<p.ghi:=by omega
    simp[h3'];intro _;refine cK (Vq hK _ _ _) ?_;by_cases h4:inR p.wrong 0 8
    ·simp[h4]
     intro _;by_cases h5:p.rods.length<=4
     ·have h5':¬ (4:Int)<p.rods.length:=by omega
      simp[h5'];intro _;by_cases h6:p.reads.length<=8
      ·have h6':¬ (8:Int)<p.reads.length:=by omega
       simp[h6'];intros;refine Qe (fun i=>[(1,AV.iv (.ptr (puC p))),(3,AV.iv (IV.int IntKind.i64 (i:Nat)))]) (fun _=>[]) p.rods.length (fun i=>∀ r∈p.rods.take i,Vt r) (by simp) ?_ ?_
       ·intro h7
        rw[QKn] at h7;rw[Qa QpR.eq_1];simp;intro _;refine Qe (fun i=>[(1,AV.iv (.ptr (puC p))),(5,AV.iv (IV.int IntKind.i64 (i:Nat)))]) (fun _=>[]) p.reads.length (fun i=>∀ x∈p.reads.take i,XW p.rods.length x) (by simp) ?_ ?_
        ·intro h8
         rw[QKn] at h8;rw[Qa QpQ.eq_1];have hok:OkU p:=⟨h1,h2,h3,h4,h5,h6,h7,h8⟩;simp[hok]
        ·intro i hi h8 ih
         have bad:¬ XW p.rods.length p.reads[i]->¬ OkU p:=fun hb hh=>hb (hh.reads _ (QKj hi))
         have ih:=fun hr:XW p.rods.length p.reads[i]=>ih (by
          rw[QKf hi]
          grind)
         rw[Qa QpQ.eq_1];generalize hX:p.reads[i]=X at *;simp[hi,hX] at ih |-;intros;refine cK (QBP hK X.whn) ?_;by_cases k1:X.whn=1\/X.whn=2
         ·simp[k1]
          refine cK (by simpa using Qtc hK p X.rod hl) ?_
          by_cases k2:inR X.rod 0 ((p.rods.length:Int)-1)
          ·simp[k2]
           refine cK (Vq hK _ _ _) ?_;by_cases k3:inR X.count 0 99
           ·simp[k3]
            refine cK (Vq hK _ _ _) ?_;by_cases k4:inR X.rest 0 9999
            ·simp[k4]
             refine cK (Vq hK _ _ _) ?_;by_cases k5:inR X.off 0 99
             ·simp[k5]
              refine cK (Vq hK _ _ _) ?_;by_cases k6:inR X.wlo (-50) X.whi
              ·simp[k6]
               by_cases k7:X.whi<=50
               ·have ih:=ih ⟨k1,k2,k3,k4,k5,k6,k7⟩
                grind
               ·have:=bad (fun hh=>k7 hh.2.2.2.2.2.2)
                grind
              ·simp[k6,bad (fun hh=>k6 hh.2.2.2.2.2.1)]
             ·simp[k5,bad (fun hh=>k5 hh.2.2.2.2.1)]
            ·simp[k4,bad (fun hh=>k4 hh.2.2.2.1)]
           ·simp[k3,bad (fun hh=>k3 hh.2.2.1)]
          ·simp[k2,bad (fun hh=>k2 hh.2.1)]
         ·simp[k1,bad (fun hh=>k1 hh.1)]
       ·intro i hi h7 ih
        have bad:¬ Vt p.rods[i]->¬ OkU p:=fun hb hh=>hb (hh.rods _ (QKj hi))
        have ih:=fun hr:Vt p.rods[i]=>ih (by
         rw[QKf hi]
         grind)
        rw[Qa QpR.eq_1];generalize hX:p.rods[i]=X at *;simp[hi,hX] at ih |-;intros;refine cK (Vq hK _ _ _) ?_;by_cases k1:inR X.long 1 9999
        ·have k1':=k1
         simp only[inR] at k1';simp[k1];have hmin:(if X.long-1<9 then X.long-1 else 9)=min 9 (X.long-1):=by split<;>omega
         refine ⟨by omega,cK (by simpa[hmin] using Vq hK X.wear 0 (min 9 (X.long-1))) ?_⟩
         by_cases k2:inR X.wear 0 (min 9 (X.long-1))
         ·simp[k2]
          refine cK (Vq hK _ _ _) ?_;by_cases k3:inR X.grow 0 50
          ·have ih:=ih ⟨k1,k2,k3⟩
           simp[k3]
           grind
          ·simp[k3,bad (fun hh=>k3 hh.2.2)]
         ·simp[k2,bad (fun hh=>k2 hh.2.1)]
        ·simp[k1,bad (fun hh=>k1 hh.1)]
      ·have h6':(8:Int)<p.reads.length:=by omega
       have:=no _ (fun h=>h.xlen) h6
       grind
     ·have h5':(4:Int)<p.rods.length:=by omega
      have:=no _ (fun h=>h.rlen) h5
      grind
    ·have:=no _ (fun h=>h.wrong) h4
     simp[h4,this]
   ·have h3':99999<p.ghi:=by omega
    have:=no _ (fun h=>h.most) h3
    grind
  ·have:=no _ (fun h=>h.guess) h2
   simp[h2,this]
 ·have:=no _ (fun h=>h.iron) h1
  simp[h1,this]
theorem QuZ (n:Int) (h : -9223372036854775807<=n/\n<=9223372036854775807):Ev.Good Tryz.prog K 391 [.int .i64 n] (.int .i64 (max n (-n))):=by
 refine Qb hK QxE (by simp) ?_
 have e:(if n < -n then -n else n)=max n (-n):=by split<;>omega
 simp;simp[e];omega
@[simp] def tuV (t:TrU):List IV:=[.int .i64 t.bef,.int .i64 t.aft,Qt t.rods]
theorem Qu3 (p:Q6) (x:QW) (t:TrU) (hp:OkU p) (hx:XW p.rods.length x) (hb:0<=t.bef/\t.bef<=99999) (ha:0<=t.aft/\t.aft<=99999) (hl:t.rods.length=p.rods.length) (hr:∀ r∈t.rods,0<=r/\r<=9999) :
  Ev.Good Tryz.prog K 368 [puV p,.agg (reC x),.agg (tuV t)] (.bool (VC p x (if x.whn=2 then t.aft else t.bef) (t.rods.getD x.rod.toNat 0))):=by
 refine Qb hK QxI (by simp) ?_
 have h1:=hx.2.1;have h3:=hx.2.2.2.1;have hwl:=hx.2.2.2.2.2.1;have hwh:=hx.2.2.2.2.2.2;simp only[inR] at h1 h3 hwl;have hlt:x.rod.toNat<p.rods.length:=by omega
 have hlt2:x.rod.toNat<t.rods.length:=by omega
 have hrl:=hr _ (QKj hlt2);have hgd:t.rods.getD x.rod.toNat 0=t.rods[x.rod.toNat]:=by simp[hlt2]
 rw[hgd];generalize hRL:t.rods[x.rod.toNat]=rl at *;have hlen:0<=(if x.whn=2 then t.aft else t.bef)/\(if x.whn=2 then t.aft else t.bef)<=99999:=by split<;>omega
 have b0:=(Qlu hp hx hlen hrl (t:=0) (by omega)).1
 have hwp:=Qfb hx
 have key:∀ (w0 len:Int),0<=len/\len<=99999->Yx Tryz.prog K (FnF (Qkk [Qcz.tmp 6] (.bool (VC p x len rl)))) QeJ [3,4,7,8,9] []
   [AI.inBlock 0,AI.code ((AC.ops [{ d:=some 6,g:=none,op:=AOp.mov (Opd.bool false) }] false).seq AC.ret)]
   [(3,AV.iv (.ptr (puC p))),(4,AV.iv (.ptr [.int .i64 w0,.int .i64 x.rod,.int .i64 x.count,.int .i64 x.rest,.int .i64 x.off,.int .i64 x.wlo,.int .i64 x.whi])),(7,AV.iv (.int .i64 len)),(8,AV.iv (.int .i64 (x.count*rl+x.rest))),(9,AV.iv (.int .i64 x.wlo))] []:=by
  intro w0 len hlen;have e0:AV.iv (.int .i64 x.wlo)=AV.iv (.int .i64 (x.wlo+((0:Nat):Int))):=by simp
  rw[e0];refine Qe (fun i=>[(3,AV.iv (.ptr (puC p))),(4,AV.iv (.ptr [.int .i64 w0,.int .i64 x.rod,.int .i64 x.count,.int .i64 x.rest,.int .i64 x.off,.int .i64 x.wlo,.int .i64 x.whi])),(7,AV.iv (.int .i64 len)),(8,AV.iv (.int .i64 (x.count*rl+x.rest))),(9,AV.iv (.int .i64 (x.wlo+(i:Nat))))]) (fun _=>[]) (QdB x) (fun i=>∀ j:Nat,j<i->QnV p x len rl (x.wlo+j)=false) (by simp) ?_ ?_
  ·intro h
   have hn:=QfH h;rw[Qa QeJ.eq_1];have:¬ x.wlo+((QdB x:Nat):Int)<=x.whi:=by omega
   simp[this,hn]
  ·intro i hi h ih
   rw[Qa QeJ.eq_1];have hle:x.wlo+(i:Int)<=x.whi:=by omega
   obtain ⟨b1,b2,b3,b4,b5,b6⟩:=Qlu hp hx hlen hrl (t:=x.wlo+(i:Int)) (by omega)
   have hgr:p.rods[x.rod.toNat].grow=VN p x:=by simp[VN,hlt]
   have hab:=Qk3 p x len rl (x.wlo+(i:Int));have her:Qtu p x len rl (x.wlo+(i:Int))=len*(1000000+p.iron*(x.wlo+i))-(x.count*rl+x.rest)*(1000000+VN p x*(x.wlo+i)):=rfl;generalize hE:Qtu p x len rl (x.wlo+(i:Int))=E at *;have hg:=QuZ hK E;rw[her] at hg;by_cases hh:QnV p x len rl (x.wlo+(i:Int))=true
   ·have hr:=QfI i hi hh
    rw[hh] at hab;have hm:=of_decide_eq_true hab.symm;rw[her] at hm;simp[hle,hlt,hgr,hr];generalize len*(1000000+p.iron*(x.wlo+i))=X at *;generalize (x.count*rl+x.rest)*(1000000+VN p x*(x.wlo+i))=Y at *
    (repeat' first | omega | (with_reducible apply And.intro) | intro _)
    refine cK (hg (by omega)) ?_
    simp[hm];omega
   ·have hf:QnV p x len rl (x.wlo+(i:Int))=false:=by simpa using hh
    rw[hf] at hab;have hm:=of_decide_eq_false hab.symm;rw[her] at hm
    have ih:=ih (fun j hj=>by
     grind)
    simp at ih;simp[hle,hlt,hgr];generalize len*(1000000+p.iron*(x.wlo+i))=X at *;generalize (x.count*rl+x.rest)*(1000000+VN p x*(x.wlo+i))=Y at *
    (repeat' first | omega | (with_reducible apply And.intro) | intro _)
    refine cK (hg (by omega)) ?_
    simp[hm]
    grind
 by_cases hw:x.whn=2
 ·simp[hw,hlt2,hRL]
  exact ⟨by omega,by omega,by omega,by simpa using key 2 t.aft ha⟩
 ·simp[hw,hlt2,hRL]
  exact ⟨by omega,by omega,by omega,by simpa using key x.whn t.bef hb⟩
omit hK
def Vv (p:Q6) (t:TrU) (x:QW):Bool:=!VC p x (if x.whn=2 then t.aft else t.bef) (t.rods.getD x.rod.toNat 0)
theorem Qe5 {p:Q6} (hp:OkU p) (t:TrU):p.reads.countP (Vv p t)=Yj p t:=by
 unfold Yj wrU
 have:∀ l:List QW,(∀ x∈l,x.whn=1\/x.whn=2)->l.countP (Vv p t)=l.countP (QeW p 1 t.rods t.bef)+l.countP (QeW p 2 t.rods t.aft):=by
  intro l
  induction l with
  | nil=>intro _;rfl
  | cons x r ih =>
    intro h;have ih:=ih fun y hy=>h y (by simp[hy])
    rw[QLx,QLx,QLx,ih];rcases h x (by simp) with hx | hx
    ·have h1:QeW p 1 t.rods t.bef x=Vv p t x:=by simp[QeW,Vv,hx]
     have h2:QeW p 2 t.rods t.aft x=false:=by simp[QeW,hx]
     grind
    ·have h1:QeW p 2 t.rods t.aft x=Vv p t x:=by simp[QeW,Vv,hx]
     have h2:QeW p 1 t.rods t.bef x=false:=by simp[QeW,hx]
     grind
 exact this _ fun x hx=>(hp.reads x hx).1
structure QFW (p:Q6) (t:TrU):Prop where
 bef:0<=t.bef/\t.bef<=99999
 aft:0<=t.aft/\t.aft<=99999
 len:t.rods.length=p.rods.length
 rods:∀ r∈t.rods,0<=r/\r<=9999
theorem QaJ {p:Q6} (hp:OkU p) {w:List Int} (hw:w∈ZR p.rods):w.length=p.rods.length/\∀ r∈w,0<=r/\r<=9999:=by
 have hl:=Qe9 _ _ hw;refine ⟨hl,fun r hr=>?_⟩
 obtain ⟨i,hi,rfl⟩:=QK0 hr;have hb:=Qdw _ _ hw i (by omega)
 have hr:=hp.rods _ (QKj (show i<p.rods.length by omega))
 simp only[Vt,inR] at hr
 grind
theorem Qil {p:Q6} (hp:OkU p) {t:TrU} (ht:t∈Qg6 p):QFW p t:=by
 simp only[Qg6,QKY,QKt] at ht;obtain ⟨b,hb,a,ha,w,hw,rfl⟩:=ht;have hb:=JF.1 hb;have ha:=JF.1 ha;have hg:=hp.guess;have hm:=hp.most;simp only[inR] at hg;obtain ⟨h1,h2⟩:=QaJ hp hw;exact ⟨⟨by simp only;omega,by simp only;omega⟩,⟨by simp only;omega,by simp only;omega⟩,h1,h2⟩
include hK
theorem Qvc (p:Q6) (t:TrU) (hp:OkU p) (hf:QFW p t):Ev.Good Tryz.prog K 327 [puV p,.agg (tuV t)] (.int .i64 (Yj p t:Nat)):=by
 refine Qb hK QxU (by simp) ?_
 rw[<- Qe5 hp t];have hxl:=hp.xlen;simp;refine Qe (fun i=>[(2,AV.iv (.ptr (puC p))),(3,AV.iv (.ptr (tuV t))),(5,AV.iv (.int .i64 ((p.reads.take i).countP (Vv p t):Nat))),(6,AV.iv (.int .i64 (i:Nat)))]) (fun _=>[]) p.reads.length (fun _=>True) trivial ?_ ?_
 ·intro _
  rw[Qa QiD.eq_1];simp
 ·intro i hi _ ih
  have hg:=Qu3 hK p p.reads[i] t hp (hp.reads _ (QKj hi)) hf.bef hf.aft hf.len hf.rods;have hb:VC p p.reads[i] (if p.reads[i].whn=2 then t.aft else t.bef) (t.rods.getD p.reads[i].rod.toNat 0)=!Vv p t p.reads[i]:=by simp[Vv]
  rw[hb] at hg;have hcl:(p.reads.take i).countP (Vv p t)<=i:=QKK QKI (by simp;omega)
  rw[QKf hi,QKV] at ih;rw[Qa QiD.eq_1];generalize hX:p.reads[i]=X at *;cases hwb:Vv p t X
  ·simp[hwb] at ih hg
   simp[hi,hX];intros;refine cK (by simpa using hg) ?_
   simp
   grind
  ·simp[hwb] at ih hg
   simp[hi,hX];intros;refine cK (by simpa using hg) ?_
   simp
   grind
theorem Qvb (t:TrU) (part:Int) (hb:0<=t.bef/\t.bef<=99999) (ha:0<=t.aft/\t.aft<=99999) (hp:0<=part/\part<=1000):Ev.Good Tryz.prog K 328 [.agg (tuV t),.int .i64 part] (.bool (Xl t.bef t.aft part)):=by
 refine Qb hK QxT (by simp) ?_
 have:=Qbm hp.1 hp.2 (b:=t.bef) (B:=99999) (by omega) (by omega)
 simp[Xl];omega
omit hK
theorem Jt:∀ l:List Rod,(∀ r∈l,Vt r)->(ZR l).length<=10 ^ l.length
 | [],_=>by simp[ZR]
 | r::rs,h=>by
   have ih:=Jt rs fun x hx=>h x (by simp[hx])
   have hr:=(h r (by simp)).2.1
   simp only[inR] at hr;simp only[ZR,List.length_flatMap,QKz]
   have:((Vr (r.long-r.wear) r.long).map fun _=>(ZR rs).length).sum<=10*10 ^ rs.length:=by
    rw[List.map_const',List.sum_replicate_nat];refine Nat.mul_le_mul ?_ ih;simp[Vr];omega
   grind
def qP (first:List Int) (lo:Int) (rs:List Rod) (i:Nat):List (List Int):=(ZR rs).map fun w=>first++(lo+i)::w
theorem QaK (first:List Int) (r:Rod) (rs:List Rod):(ZR (r::rs)).map (first++·)=acc (qP first (r.long-r.wear) rs) (r.long-(r.long-r.wear)+1).toNat:=by
 simp only[ZR,Vr,acc,QLS,List.flatMap_map,List.map_map];rfl
include hK
theorem Qn3 (p:Q6) (hp:OkU p):∀ (n:Nat) (first:List Int),first.length+n=p.rods.length->Ev.Good Tryz.prog K 367 [puV p,Qt first] (.sl 1 ((ZR (p.rods.drop first.length)).map fun w=>[Qt (first++w)]))
 | 0,first,hn=>by
   refine Qb hK QpB (by simp) ?_
   have e1:p.rods.drop first.length=[]:=QKM (by omega)
   have e2:first.length=p.rods.length:=by omega
   rw[e1];simp[ZR,e2]
   (repeat' first | omega | (with_reducible apply And.intro) | intro _)
 | n+1,first,hn=>by
   have ih:=Qn3 p hp n;refine Qb hK QpB (by simp) ?_
   have hlt:first.length<p.rods.length:=by omega
   have hne:¬ (first.length:Int)=p.rods.length:=by omega
   have hl:=hp.rlen;have e1:p.rods.drop first.length=p.rods[first.length]::p.rods.drop (first.length+1):=QKG hlt
   have hro:=hp.rods _ (QKj hlt)
   have e3:((ZR (p.rods.drop first.length)).map fun w=>[Qt (first++w)])=(acc (qP first (p.rods[first.length].long-p.rods[first.length].wear) (p.rods.drop (first.length+1))) (p.rods[first.length].long-(p.rods[first.length].long-p.rods[first.length].wear)+1).toNat).map fun w=>[Qt w]:=by
    rw[e1,<- QaK,List.map_map];rfl
   rw[e3]
   have hsz:(ZR (p.rods.drop (first.length+1))).length<=10000:=by
    refine QKK (Jt _ fun r hr=>hp.rods r (QK2 hr)) ?_
    have:(p.rods.drop (first.length+1)).length<=4:=by simp;omega
    exact QK7 (by decide) this
   generalize hR:p.rods[first.length]=R at *
   have hbs:∀ i,(qP first (R.long-R.wear) (p.rods.drop (first.length+1)) i).length<=10000:=fun i=>by simpa[qP] using hsz
   have ih2:∀ i:Nat,Ev.Good Tryz.prog K 367 [puV p,Qt (first++[R.long-R.wear+(i:Int)])] (.sl 1 ((qP first (R.long-R.wear) (p.rods.drop (first.length+1)) i).map fun w=>[Qt w])):=fun i=>by
    have:=ih (first++[R.long-R.wear+(i:Int)]) (by simp;omega)
    simp only[QKA,QKB,QKR,QKE] at this;rw[qP,List.map_map];simpa[Function.comp_def] using this
   obtain ⟨hr1,hr2,hr3⟩:=hro;simp only[inR] at hr1 hr2 hr3;generalize qP first (R.long-R.wear) (p.rods.drop (first.length+1))=pc at *
   simp[hne,hlt,hR]
   (repeat' first | omega | (with_reducible apply And.intro) | intro _)
   have e0:AV.iv (IV.int .i64 (R.long-R.wear))=AV.iv (.int .i64 (R.long-R.wear+((0:Nat):Int))):=by simp
   rw[e0]
   refine Qe (fun i=>[(1,AV.iv (Qt first)),(2,AV.iv (.ptr (puC p))),(5,AV.aref 5 (acc pc i).length),(6,AV.loc 6 0),(7,AV.iv (IV.int IntKind.i64 (R.long-R.wear+(i:Nat))))])
    (fun i=>[(5,AO.arr 74 1 (emb ((acc pc i).map fun w=>[Qt w])) 0),(6,AO.box [.iv (.int .i64 R.long),.iv (.int .i64 R.wear),.iv (.int .i64 R.grow)])]) (R.long-(R.long-R.wear)+1).toNat (fun i=>True) trivial ?_ ?_
   ·intro _
    have q1:R.long-R.wear+((R.long-(R.long-R.wear)+1).toNat:Int)=R.long+1:=by omega
    have q2:¬ R.long+1<=R.long:=by omega
    rw[q1,Qa Qiz.eq_1];simp[q2]
   ·intro i hi _ hh
    have q1:R.long-R.wear+(i:Int)<=R.long:=by omega
    have q3:R.long-R.wear+((i:Int)+1)=R.long-R.wear+i+1:=by omega
    have hlen:=Yo pc 10000 hbs i;have hbi:=hbs i;have hg:=ih2 i;rw[ZK pc i] at hh;rw[Qa Qiz.eq_1];simp[q1,q3] at hh |-
    (repeat' first | omega | (with_reducible apply And.intro) | intro _)
    refine Vg [some (puV p),none] (by simp) (rows:=(first++[R.long-R.wear+(i:Int)]).map fun n=>[.int .i64 n]) (n:=first.length+1) (sz:=1) (et:=3) (mv:=0) (r:=.sl 1 ((pc i).map fun w=>[Qt w])) ?_ (by simp) (by simp[Qc]) (by simp) (by simp) ?_
    ·have:((first++[R.long-R.wear+(i:Int)]).map fun n=>[IV.int IntKind.i64 n]).take (first.length+1)=(first++[R.long-R.wear+(i:Int)]).map fun n=>[IV.int IntKind.i64 n]:=QKi (by simp)
     rw[this];exact hg
    ·simp[-List.map_map,Qu,QE,QB,Ql]
     (repeat' first | omega | (with_reducible apply And.intro) | intro _)
omit hK
theorem QtA {α:Type} (pc:Nat->List α) {i n:Nat} (h:i<=n):(acc pc i).length<=(acc pc n).length:=by
 obtain ⟨k,rfl⟩:∃ k,n=i+k:=⟨n-i,by omega⟩
 induction k with
 | succ k ih =>
   refine QKK (ih (by omega)) ?_
   rw[<- QLo,ZK,QKA];omega
 | _=>grind
def QbF (p:Q6):Nat:=(p.ghi-p.glo+1).toNat
def Qd0 (p:Q6) (b:Int) (j:Nat):List TrU:=(ZR p.rods).map fun w=>⟨b,p.glo+j,w⟩
def Qht (p:Q6) (i:Nat):List TrU:=acc (Qd0 p (p.glo+i)) (QbF p)
theorem QmJ (p:Q6):Qg6 p=acc (Qht p) (QbF p):=by
 simp only[Qg6,Xh,Vr,acc,QbF,List.flatMap_map];rfl
noncomputable def uE (p:Q6) (is:Bool):Int:=if OkU p then (if is=true then (if Yp p=[] then 3 else 0) else 1) else 40
def uL (p:Q6) (is:Bool):List TrU:=if OkU p/\is=true then Yp p else []
theorem Qae {α:Type} (f:α->Bool) (l:List α) (i:Nat) (h:i<l.length):(l.take (i+1)).filter f=(l.take i).filter f++(if f l[i] then [l[i]] else []):=by
 rw[QKf h,QLj]
 grind
include hK
theorem Qvd (p:Q6) (hp:OkU p) (hN:(Qg6 p).length<=1000000):Ev.Good Tryz.prog K 326 [puV p] (.sl 3 ((Qg6 p).map tuV)):=by
 refine Qb hK QxV (by simp) ?_
 simp;have hg367:=Qn3 hK p hp p.rods.length [] (by simp)
 simp only[QKR,List.drop_zero,QKx] at hg367;refine cK (by simpa using hg367) ?_
 have hgu:=hp.guess;have hmo:=hp.most;simp only[inR] at hgu
 have hWl:(ZR p.rods).length<=10000:=by
  refine QKK (Jt _ hp.rods) ?_;exact QK7 (by decide) hp.rlen
 rw[QmJ] at hN |-;have hG:p.glo+(QbF p:Int)=p.ghi+1:=by unfold QbF;omega
 have hpB:∀ b j,Qd0 p b j=(ZR p.rods).map fun w=>(⟨b,p.glo+j,w⟩:TrU):=fun b j=>rfl
 have hpA:∀ i,Qht p i=acc (Qd0 p (p.glo+i)) (QbF p):=fun i=>rfl
 generalize ZR p.rods=W at *;generalize Qd0 p=pB at *;generalize Qht p=pA at *;generalize QbF p=G at *;simp;have e0:AV.iv (IV.int .i64 p.glo)=AV.iv (.int .i64 (p.glo+((0:Nat):Int))):=by simp
 rw[e0]
 refine Qe (fun i=>[(1,AV.iv (.ptr (puC p))),(3,AV.aref 3 (acc pA i).length),(4,AV.iv (.sl 1 (W.map fun w=>[Qt w]))),(5,AV.iv (IV.int IntKind.i64 (p.glo+(i:Nat))))])
  (fun i=>[(3,AO.arr 348 3 (emb ((acc pA i).map tuV)) 0)]) G (fun i=>True) trivial ?_ ?_
 ·intro _
  have q2:¬ p.ghi+1<=p.ghi:=by omega
  rw[hG,Qa QiE.eq_1];simp[q2]
 ·intro i hi _ ih
  have q1:p.glo+(i:Int)<=p.ghi:=by omega
  have q3:p.glo+((i:Int)+1)=p.glo+i+1:=by omega
  have hl1:=QtA pA (show i+1<=G by omega)
  rw[ZK,hpA i] at ih hl1;rw[QKA] at hl1;rw[Qa QiE.eq_1];generalize acc pA i=T at *;simp[q1,q3] at ih |-;rw[e0];have eT:T=T++acc (pB (p.glo+i)) 0:=by simp[acc]
  rw[eT]
  refine Qe (fun j=>[(1,AV.iv (.ptr (puC p))),(3,AV.aref 3 (T++acc (pB (p.glo+i)) j).length),(4,AV.iv (.sl 1 (W.map fun w=>[Qt w]))),(5,AV.iv (IV.int IntKind.i64 (p.glo+(i:Nat)))),(6,AV.iv (IV.int IntKind.i64 (p.glo+(j:Nat))))])
   (fun j=>[(3,AO.arr 348 3 (emb ((T++acc (pB (p.glo+i)) j).map tuV)) 0)]) G (fun i=>True) trivial ?_ ?_
  ·intro _
   have q2:¬ p.ghi+1<=p.ghi:=by omega
   rw[hG,Qa QiF.eq_1];simp[q2]
   grind
  ·intro j hj _ ih2
   have q1':p.glo+(j:Int)<=p.ghi:=by omega
   have q3':p.glo+((j:Int)+1)=p.glo+j+1:=by omega
   have hl2:=QtA (pB (p.glo+i)) (show j+1<=G by omega)
   rw[ZK,hpB] at ih2 hl2;rw[QKA,QKz] at hl2;rw[Qa QiF.eq_1];have hlS:(T++acc (pB (p.glo+i)) j).length=T.length+(acc (pB (p.glo+i)) j).length:=by simp
   rw[<- QLs] at ih2;generalize hS:T++acc (pB (p.glo+i)) j=S at *;simp[q1',q3'] at ih2 |-;obtain ⟨Pf,hP0,hPs,hPn,hPl⟩:=QdY (fun w=>(⟨p.glo+i,p.glo+j,w⟩:TrU)) W
   have eS:S=S++Pf 0:=by grind
   rw[eS]
   refine Qe (fun k=>[(1,AV.iv (.ptr (puC p))),(3,AV.aref 3 (S++Pf k).length),(4,AV.iv (.sl 1 (W.map fun w=>[Qt w]))),(5,AV.iv (IV.int IntKind.i64 (p.glo+(i:Nat)))),(6,AV.iv (IV.int IntKind.i64 (p.glo+(j:Nat)))),(7,AV.iv (IV.int IntKind.i64 (k:Nat)))])
    (fun k=>[(3,AO.arr 348 3 (emb ((S++Pf k).map tuV)) 0)]) W.length (fun i=>True) trivial ?_ ?_
   ·intro _
    have hl:=hPl W.length (QKl _);have hPm:(Pf W.length).map tuV=W.map (tuV∘fun w=>(⟨p.glo+i,p.glo+j,w⟩:TrU)):=by grind
    rw[Qa QiG.eq_1];simp[hl,hPm]
    grind
   ·intro k hk _ ih3
    have hl:=hPl k (by omega)
    rw[hPs k hk] at ih3;rw[Qa QiG.eq_1];simp[hk,hl] at ih3 |-
    grind
theorem Qeh (p:Q6) (is:Bool) (hl:p.rods.length<=1000) (hx:p.reads.length<=1000) (hN:OkU p->(Qg6 p).length<=1000000) :
  Ev.Good Tryz.prog K 277 [puV p,.bool is] (.tup [.sl 3 ((uL p is).map tuV),.int .i64 (uE p is)]):=by
 refine Qb hK Qym (by simp) ?_
 simp;refine cK (by simpa using Qoe hK p hl hx) ?_
 by_cases hp:OkU p
 ·cases is
  ·simp[hp,uL,uE]
  ·have hN:=hN hp
   simp[hp];refine cK (by simpa using Qvd hK p hp hN) ?_
   have hE:uE p true=if Yp p=[] then 3 else 0:=by simp[uE,hp]
   have hL:uL p true=Yp p:=by simp[uL,hp]
   have hfit:∀ t∈Qg6 p,QFW p t:=fun t ht=>Qil hp ht
   rw[hE,hL];have hTr:Yp p=(Qg6 p).filter fun t=>decide ((Yj p t:Int)<=p.wrong):=rfl
   generalize Yp p=B at *;generalize Qg6 p=A at *;simp
   refine Qe (fun i=>[(2,AV.iv (.ptr (puC p))),(7,AV.aref 7 ((A.take i).filter fun t=>decide ((Yj p t:Int)<=p.wrong)).length),(8,AV.iv (.sl 3 (A.map tuV))),(9,AV.iv (.int .i64 (i:Nat)))])
    (fun i=>[(7,AO.arr 348 3 (emb (((A.take i).filter fun t=>decide ((Yj p t:Int)<=p.wrong)).map tuV)) 0)]) A.length (fun _=>True) trivial ?_ ?_
   ·intro _
    rw[Qa Qi9.eq_1,QKn,<- hTr];clear hTr hE hL;by_cases hB:B=[]
    ·simp[hB]
    ·have hB':¬ B.length=0:=by simpa using hB
     simp[hB,hB']
   ·intro i hi _ ih
    have hg:=Qvc hK p A[i] hp (hfit _ (QKj hi));have hcl:((A.take i).filter fun t=>decide ((Yj p t:Int)<=p.wrong)).length<=i:=QKK (QKD _ _) (by simp;omega)
    rw[Qae _ _ _ hi] at ih;rw[Qa Qi9.eq_1];generalize hT:A[i]=T at *;generalize (A.take i).filter (fun t=>decide ((Yj p t:Int)<=p.wrong))=B at *
    by_cases hw:(Yj p T:Int)<=p.wrong
    ·simp[hi,hT,hw] at ih |-
     intros;refine cK (by simpa using hg) ?_
     simp[hi,hT,hw]
     grind
    ·simp[hi,hT,hw] at ih |-
     intros;refine cK (by simpa using hg) ?_
     simp[hi,hT,hw]
     grind
 ·simp[hp,uL,uE]
omit hK
def WD (part:Int) (t:TrU):Bool:=Xl t.bef t.aft part
def Vp (T:List TrU) (part:Int):Int:=if T.all (WD part) then 1 else if T.any (WD part) then 3 else 2
theorem Qgf (p:Q6) (part:Int) (hp:0<=part):Vp (Yp p) part=Qc7 p part:=(QnU p part hp).symm
def Qah (T:List TrU):Option Nat:=(List.range 1001).find? fun i=>decide (Vp T (i:Nat)=1)
def Ue (T:List TrU) (rod:Nat):List Int:=T.map fun t=>t.rods.getD rod 0
theorem JR {α:Type} (f:α->Int) (l:List α) (i:Nat) (h:i<l.length):span ((l.take (i+1)).map f)=if i=0 then (f l[i],f l[i]) else (min (span ((l.take i).map f)).1 (f l[i]),max (span ((l.take i).map f)).2 (f l[i])):=by
 rw[QKf h,QKy,QLf,Jy];cases i with
 | zero=>simp
 | succ i =>
   have:¬ (l.take (i+1)).map f=[]:=by
    intro c;have:=congrArg List.length c
    grind
   grind
theorem Qgg (T:List TrU) (part:Int):Vp T part=if T.countP (WD part)=T.length then 1 else if T.countP (WD part)=0 then 2 else 3:=by
 unfold Vp;by_cases h:T.all (WD part)=true
 ·have:T.countP (WD part)=T.length:=QLG.2 (fun x hx=>QKH.1 h x hx)
  simp[h,this]
 ·have h1:¬ T.countP (WD part)=T.length:=fun c=>h (QKH.2 (QLG.1 c))
  rw[if_neg h,if_neg h1];by_cases h2:T.any (WD part)=true
  ·grind
  ·have:T.countP (WD part)=0:=QLM.2 (fun x hx hx2=>h2 (QLF.2 ⟨x,hx,hx2⟩))
   grind
include hK
theorem Qro (l:List Int) (lo hi:Int) (h1 : -1000000<=lo) (h2:lo<=hi) (h3:hi<=1000000):Ev.Good Tryz.prog K 261 [Qt l,.int .i64 lo,.int .i64 hi] (Qt (Z1 l lo hi)):=by
 refine Qb hK QpU (by simp) ?_
 simp;have e0:lo=lo+((0:Nat):Int):=by simp
 conv=>arg 8;rw[e0]
 refine Qe (fun i=>[(0,AV.iv (Qt l)),(2,AV.iv (IV.int IntKind.i64 hi)),(7,AV.aref 7 (XZ l lo i).length),(8,AV.iv (IV.int IntKind.i64 (lo+(i:Nat))))])
  (fun i=>[(7,AO.arr 3 1 (emb ((XZ l lo i).map fun n=>[.int .i64 n])) 0)]) (hi+1-lo).toNat (fun i=>True) trivial ?_ ?_
 ·intro _
  have e1:lo+((hi+1-lo).toNat:Int)=hi+1:=by omega
  have e2:¬ hi+1<=hi:=by omega
  rw[e1,Qa Qb1.eq_1];simp[e2,Z1]
 ·intro i hi' _ ih
  have hln:=UH l lo i;have e1:lo+(i:Int)<=hi:=by omega
  rw[qD] at ih;rw[Qa Qb1.eq_1];simp[e1];refine cK (QhU hK l (lo+i)) ?_;have e3:lo+((i:Int)+1)=lo+i+1:=by omega
  by_cases hm:(lo+(i:Int))∈l
  ·simp[hm,e3] at ih |-
   grind
  ·simp[hm,e3] at ih |-
   grind
theorem Qvq (T:List TrU) (h:∀ t∈T,(0<=t.bef/\t.bef<=99999)/\(0<=t.aft/\t.aft<=99999)) (hn:T.length<=1000000):Ev.Good Tryz.prog K 278 [.sl 3 (T.map tuV)] (.agg [.int .i64 (span (T.map Yv)).1,.int .i64 (span (T.map Yv)).2]):=by
 refine Qb hK Qyl (by simp) ?_
 simp
 refine Qe (fun i=>[(0,AV.iv (.sl 3 (T.map tuV))),(2,AV.loc 2 0),(3,AV.loc 3 0),(4,AV.iv (.int .i64 (i:Nat)))])
  (fun i=>[(2,AO.box [.iv (.int .i64 0),.iv (.int .i64 0)]),(3,AO.box [.iv (.int .i64 (span ((T.take i).map Yv)).1),.iv (.int .i64 (span ((T.take i).map Yv)).2)])]) T.length (fun _=>True) trivial ?_ ?_
 ·intro _
  rw[Qa Qi8.eq_1,QKn];simp
 ·intro i hi _ ih
  have hb:=h _ (QKj hi);have hgr:Yv T[i]=T[i].aft-T[i].bef:=rfl;rw[JR Yv T i hi] at ih;rw[Qa Qi8.eq_1];generalize hX:T[i]=X at *;by_cases h0:i=0
  ·subst h0
   simp[hgr] at ih;simp[hi,hX]
   grind
  ·have h0':¬ (i:Int)=0:=by omega
   rw[if_neg h0] at ih;generalize span ((T.take i).map Yv)=S at *;simp[hgr] at ih;simp[hi,hX,h0,h0',Vo,Un] at ih |-
   grind
theorem QhW (n:Int):Ev.Good Tryz.prog K 279 [.int .i64 n] (.bool (decide (inR n 0 1000))):=by
 refine Qb hK Qyk (by simp) ?_
 simp;exact cK (Vq hK _ _ _) (by simp)
theorem Qod (T:List TrU) (part:Int) (h:∀ t∈T,(0<=t.bef/\t.bef<=99999)/\(0<=t.aft/\t.aft<=99999)) (hp:0<=part/\part<=1000) (hn:T.length<=1000000):Ev.Good Tryz.prog K 280 [.sl 3 (T.map tuV),.int .i64 part] (.int .i64 (Vp T part)):=by
 refine Qb hK Qyj (by simp) ?_
 have hc:=Qgg T part;generalize Vp T part=R at *;simp;refine Qe (fun i=>[(0,AV.iv (.sl 3 (T.map tuV))),(1,AV.iv (.int .i64 part)),(5,AV.iv (.int .i64 ((T.take i).countP (WD part):Nat))),(6,AV.iv (.int .i64 (i:Nat)))]) (fun _=>[]) T.length (fun _=>True) trivial ?_ ?_
 ·intro _
  rw[Qa Qi7.eq_1,QKn];generalize T.countP (WD part)=n at *;subst hc;by_cases h1:n=T.length
  ·simp[h1]
  ·have h1':¬ (n:Int)=T.length:=by omega
   by_cases h2:n=0
   ·have h1'':¬ (0:Int)=T.length:=by omega
    have h3:¬ 0=T.length:=by omega
    simp[h2,h1'',h3]
   ·have h2':¬ (n:Int)=0:=by omega
    simp[h1,h1',h2,h2']
 ·intro i hi _ ih
  have hb:=h _ (QKj hi);have hcl:(T.take i).countP (WD part)<=i:=QKK QKI (by simp;omega)
  have hg:=Qvb hK T[i] part hb.1 hb.2 hp;have hh:Xl T[i].bef T[i].aft part=WD part T[i]:=rfl;rw[hh] at hg;rw[QKf hi,QKV] at ih;rw[Qa Qi7.eq_1];generalize hX:T[i]=X at *;cases hx:WD part X
  ·simp[hx] at ih hg
   simp[hi,hX];intros;refine cK (by simpa using hg) ?_
   simp
   grind
  ·simp[hx] at ih hg
   simp[hi,hX];intros;refine cK (by simpa using hg) ?_
   simp
   grind
omit hK in
theorem QEw {p:Q6} {is:Bool} {t:TrU} (h:t∈uL p is):OkU p/\is=true/\t∈Yp p:=by
 unfold uL at h
 grind
omit hK in
theorem Qku {p:Q6} {is:Bool} {t:TrU} (h:t∈uL p is):(0<=t.bef/\t.bef<=99999)/\(0<=t.aft/\t.aft<=99999):=by
 obtain ⟨hp,_,ht⟩:=QEw h;have:=Qil hp (QKJ.1 ht).1;exact ⟨this.bef,this.aft⟩
omit hK in
theorem Qkt {p:Q6} {is:Bool} (hN:OkU p->(Qg6 p).length<=1000000):(uL p is).length<=1000000:=by
 unfold uL;split
 ·rename_i h
  exact QKK (QKD _ _) (hN h.1)
 ·simp
omit hK in
theorem UB {p:Q6} {is:Bool} (h:uE p is=0):OkU p/\is=true/\uL p is=Yp p/\Yp p≠[]:=by
 unfold uE at h;split at h
 ·rename_i hp
  cases is
  ·simp at h
  ·simp only[if_true] at h
   split at h
   ·cases h
   ·rename_i hne
    exact ⟨hp,rfl,by simp[uL,hp],hne⟩
 ·cases h
structure QAL (p:Q6):Prop where
 rods:p.rods.length<=1000
 reads:p.reads.length<=1000
 all:OkU p->(Qg6 p).length<=1000000
theorem QvR (p:Q6) (hf:QAL p):Ev.Good Tryz.prog K 215 [puV p] (.tup [.agg [.int .i64 (span ((uL p true).map Yv)).1,.int .i64 (span ((uL p true).map Yv)).2],.int .i64 (uE p true)]):=by
 refine Qb hK Qy5 (by simp) ?_
 simp;refine cK (by simpa using Qeh hK p true hf.rods hf.reads hf.all) ?_
 simp;refine cK (by simpa using Qvq hK (uL p true) (fun t ht=>Qku ht) (Qkt hf.all)) ?_
 simp
def Wi (n:Int):Bool:=decide (inR n 0 1000)
def Ql9 (p:Q6) (n:Int):Bool:=decide (inR n 0 ((p.rods.length:Int)-1))
noncomputable def VF (p:Q6) (part:Int):Int:=if uE p (Wi part)=0 then Vp (Yp p) part else 0
noncomputable def Wf (p:Q6):Int × Int:=if uE p true=0 then (match Qah (Yp p) with | some n=>((n:Int),0) | none=>(0,3)) else (0,uE p true)
noncomputable def QdX (p:Q6) (rod:Int):List Int:=if uE p (Ql9 p rod)=0 then Z1 (Ue (Yp p) rod.toNat) ((p.rods.getD rod.toNat ⟨0,0,0⟩).long-(p.rods.getD rod.toNat ⟨0,0,0⟩).wear) (p.rods.getD rod.toNat ⟨0,0,0⟩).long else []
theorem QvP (p:Q6) (part:Int) (hf:QAL p):Ev.Good Tryz.prog K 217 [puV p,.int .i64 part] (.tup [.int .i64 (VF p part),.int .i64 (uE p (Wi part))]):=by
 refine Qb hK Qy3 (by simp) ?_
 simp;refine cK (QhW hK part) ?_;have hpd:decide (inR part 0 1000)=Wi part:=rfl;rw[hpd];simp;refine cK (by simpa using Qeh hK p (Wi part) hf.rods hf.reads hf.all) ?_
 unfold VF;by_cases h0:uE p (Wi part)=0
 ·obtain ⟨hp,hb,hL,hne⟩:=UB h0
  have hpt:=of_decide_eq_true hb;simp only[inR] at hpt;have hfit:∀ t∈Yp p,(0<=t.bef/\t.bef<=99999)/\(0<=t.aft/\t.aft<=99999):=fun t ht=>by rw[<- hL] at ht;exact Qku ht
  have hln:(Yp p).length<=1000000:=by rw[<- hL];exact Qkt hf.all
  have hg:=Qod hK (Yp p) part hfit hpt hln;simp[h0,hL];refine cK (by simpa using hg) ?_
  simp
 ·simp[h0]
theorem QvQ (p:Q6) (hf:QAL p):Ev.Good Tryz.prog K 216 [puV p] (.tup [.int .i64 (Wf p).1,.int .i64 (Wf p).2]):=by
 refine Qb hK Qy4 (by simp) ?_
 simp;refine cK (by simpa using Qeh hK p true hf.rods hf.reads hf.all) ?_
 unfold Wf;by_cases h0:uE p true=0
 ·obtain ⟨hp,hb,hL,hne⟩:=UB h0
  have hfit:∀ t∈Yp p,(0<=t.bef/\t.bef<=99999)/\(0<=t.aft/\t.aft<=99999):=fun t ht=>by rw[<- hL] at ht;exact Qku ht
  have hln:(Yp p).length<=1000000:=by rw[<- hL];exact Qkt hf.all
  simp[h0,hL];have hbest:∀ n,Qah (Yp p)=n->Qah (Yp p)=n:=fun _ h=>h
  refine Qe (fun i=>[(4,AV.iv (.sl 3 ((Yp p).map tuV))),(6,AV.iv (.int .i64 (i:Nat)))]) (fun _=>[]) 1001 (fun i=>∀ j,j<i->¬ Vp (Yp p) (j:Nat)=1) (by simp) ?_ ?_
  ·intro h
   have hn:Qah (Yp p)=none:=by
    unfold Qah
    grind
   rw[Qa QjD.eq_1];simp;refine cK (QhW hK 1001) ?_;simp[hn,inR]
  ·intro i hi h ih
   have hg:=Qod hK (Yp p) (i:Nat) hfit (by omega) hln
   have hin:inR (i:Int) 0 1000:=by simp only[inR];omega
   rw[Qa QjD.eq_1];simp;refine cK (QhW hK (i:Nat)) ?_;simp[hin];refine cK (by simpa using hg) ?_
   by_cases hh:Vp (Yp p) (i:Nat)=1
   ·have hs:Qah (Yp p)=some i:=by
     unfold Qah;rw[QLK];exact ⟨by simp[hh],i,by simpa using hi,by simp,fun j hj=>by simpa using h j hj⟩
    simp[hh,hs]
   ·have ih:=ih (fun j hj=>by
     grind)
    simp[hh] at ih |-
    grind
 ·simp[h0]
theorem Qvp (p:Q6) (T:List TrU) (rod:Nat) (hp:OkU p) (hr:rod<p.rods.length) (h:∀ t∈T,t.rods.length=p.rods.length) (hn:T.length<=1000000) :
  Ev.Good Tryz.prog K 281 [puV p,.sl 3 (T.map tuV),.int .i64 (rod:Nat)] (Qt (Z1 (Ue T rod) (p.rods[rod].long-p.rods[rod].wear) p.rods[rod].long)):=by
 refine Qb hK Qyi (by simp) ?_
 have hro:=hp.rods _ (QKj hr);obtain ⟨h1,h2,h3⟩:=hro;simp only[inR] at h1 h2;have hg:=Qro hK (Ue T rod) (p.rods[rod].long-p.rods[rod].wear) p.rods[rod].long (by omega) (by omega) (by omega)
 generalize hR:p.rods[rod]=R at *;simp
 refine Qe (fun i=>[(1,AV.iv (.sl 3 (T.map tuV))),(2,AV.iv (.int .i64 (rod:Nat))),(3,AV.iv (.ptr (puC p))),(7,AV.aref 7 (Ue (T.take i) rod).length),(8,AV.iv (.int .i64 (i:Nat)))])
  (fun i=>[(7,AO.arr 3 1 (emb ((Ue (T.take i) rod).map fun n=>[.int .i64 n])) 0)]) T.length (fun _=>True) trivial ?_ ?_
 ·intro _
  rw[Qa Qi6.eq_1,QKn];have hl:(Ue T rod).length=T.length:=by simp[Ue]
  generalize Ue T rod=L at *;simp[hr,hR]
  (repeat' first | omega | (with_reducible apply And.intro) | intro _)
  refine cK (by simpa using hg) ?_
  simp
 ·intro i hi _ ih
  have hl:=h _ (QKj hi);have hlt:rod<T[i].rods.length:=by omega
  have e:Ue (T.take (i+1)) rod=Ue (T.take i) rod++[T[i].rods[rod]]:=by
   unfold Ue;rw[QKf hi,QKy];simp[hlt]
  have hln:(Ue (T.take i) rod).length=i:=by simp[Ue];omega
  rw[e] at ih;rw[Qa Qi6.eq_1];generalize Ue (T.take i) rod=L at *;generalize hX:T[i]=X at *;simp[hi,hX,hlt] at ih |-
  grind
theorem QvO (p:Q6) (rod:Int) (hf:QAL p):Ev.Good Tryz.prog K 218 [puV p,.int .i64 rod] (.tup [Qt (QdX p rod),.int .i64 (uE p (Ql9 p rod))]):=by
 refine Qb hK Qy2 (by simp) ?_
 simp;refine cK (by simpa using Qtc hK p rod hf.rods) ?_
 have hpd:decide (inR rod 0 ((p.rods.length:Int)-1))=Ql9 p rod:=rfl;rw[hpd];simp;refine cK (by simpa using Qeh hK p (Ql9 p rod) hf.rods hf.reads hf.all) ?_
 unfold QdX;by_cases h0:uE p (Ql9 p rod)=0
 ·obtain ⟨hp,hb,hL,hne⟩:=UB h0
  have hpt:=of_decide_eq_true hb;simp only[inR] at hpt;have hlt:rod.toNat<p.rods.length:=by omega
  have hfit:∀ t∈Yp p,t.rods.length=p.rods.length:=fun t ht=>(Qil hp (QKJ.1 ht).1).len
  have hln:(Yp p).length<=1000000:=by rw[<- hL];exact Qkt hf.all
  have hg:=Qvp hK p (Yp p) rod.toNat hp hlt hfit hln;have hro:((rod.toNat:Nat):Int)=rod:=by omega
  rw[hro] at hg;have hgd:p.rods.getD rod.toNat ⟨0,0,0⟩=p.rods[rod.toNat]:=by simp[hlt]
  rw[if_pos h0,hgd];simp[h0,hL];refine cK (by simpa using hg) ?_
  simp
 ·simp[h0]
omit hK
@[simp] def Qhv (w:List Int):List IV:=[.int .i64 (w.getD 0 0),.int .i64 (w.getD 1 0),.int .i64 (w.getD 2 0),.int .i64 (w.getD 3 0)]
def Qf9 (w:List Int):List IV:=[.agg (Qhv w)]
def qY {α:Type} (pc:Nat->List α) (i n:Nat):List α:=((List.range n).drop i).flatMap pc
theorem V2 {α:Type} (pc:Nat->List α) {i n:Nat} (h:i<n):qY pc i n=pc i++qY pc (i+1) n:=by
 unfold qY;rw[QKG (by simpa using h),QLi]
 simp
theorem Wc {α:Type} (pc:Nat->List α) (n:Nat):qY pc n n=[]:=by
 unfold qY;rw[QKM (by simp)]
 rfl
theorem Qnh {α:Type} (pc:Nat->List α) (n:Nat):qY pc 0 n=acc pc n:=by simp[qY,acc]
def QaL (p:Q6) (first:List Int):List (List IV):=((ZR (p.rods.drop first.length)).map (first++·)).map Qf9
theorem QlR {p:Q6} {first:List Int} (h:first.length<p.rods.length):QaL p first=qY (fun i:Nat=>QaL p (first++[p.rods[first.length].long-p.rods[first.length].wear+i])) 0 (p.rods[first.length].wear+1).toNat:=by
 have e1:p.rods.drop first.length=p.rods[first.length]::p.rods.drop (first.length+1):=QKG h
 have e2:(p.rods[first.length].long-(p.rods[first.length].long-p.rods[first.length].wear)+1).toNat=(p.rods[first.length].wear+1).toNat:=by congr 1;omega
 rw[Qnh];unfold QaL;rw[e1,QaK,e2];simp only[acc,QLS,QKA,QKB,QKR,QKE]
 congr 1
 funext i
 simp[qP,Function.comp_def]
include hK
theorem QnM (p:Q6) (hp:OkU p):∀ (n:Nat) (first:List Int),first.length+n=p.rods.length->Qak Tryz.prog K 379 [puV p,.int .i64 (first.length:Nat),.agg (Qhv first)] [] (QaL p first) (fun b=>.bool b)
 | 0,first,hn=>by
   intro s b s' hf;refine QR Qpz (by simp) hf.v rfl ?_
   have e1:p.rods.drop first.length=[]:=QKM (by omega)
   have e2:first.length=p.rods.length:=by omega
   have hw:QaL p first=[Qf9 first]:=by simp[QaL,e1,ZR]
   rw[hw] at hf;simp[e2];intros;cases hf with
   | stop _ _ _ _ hg =>
     refine Q9 (by simpa[Qf9] using hg) rfl ?_
     simp
   | next _ _ _ s1 _ _ hg hr =>
     cases hr;refine Q9 (by simpa[Qf9] using hg) rfl ?_
     simp
 | n+1,first,hn=>by
   intro s b s' hf;refine QR Qpz (by simp) hf.v rfl ?_
   have hlt:first.length<p.rods.length:=by omega
   have hne:¬ (first.length:Int)=p.rods.length:=by omega
   have h4:first.length<4:=by have:=hp.rlen;omega
   have hro:=hp.rods _ (QKj hlt);obtain ⟨r1,r2,r3⟩:=hro;simp only[inR] at r1 r2 r3;rw[QlR hlt] at hf
   have ih:∀ i:Nat,Qak Tryz.prog K 379 [puV p,.int .i64 (first.length+1:Nat),.agg (Qhv (first++[p.rods[first.length].long-p.rods[first.length].wear+i]))] [] (QaL p (first++[p.rods[first.length].long-p.rods[first.length].wear+i])) (fun b=>.bool b):=fun i=>by
    have:=QnM p hp n (first++[p.rods[first.length].long-p.rods[first.length].wear+(i:Int)]) (by simp;omega)
    simpa using this
   generalize hR:p.rods[first.length]=R at *
   generalize hpc:(fun i:Nat=>QaL p (first++[R.long-R.wear+i]))=pc at *
   have ih:∀ i:Nat,Qak Tryz.prog K 379 [puV p,.int .i64 (first.length+1:Nat),.agg (Qhv (first++[R.long-R.wear+i]))] [] (pc i) (fun b=>.bool b):=fun i=>by grind
   obtain ⟨N,hN⟩:∃ N,N=(R.wear+1).toNat:=⟨_,rfl⟩
   rw[<- hN] at hf;have hNv:(N:Int)=R.wear+1:=by omega
   clear hpc hn hN
   match first,h4,hlt,hne,hR,ih with
   | [],_,hlt,hne,hR,ih =>
     have hM:0<p.rods.length:=by simpa using hlt
     have hR0:p.rods[0]'hM=R:=hR;have hne':¬ (0:Int)=p.rods.length:=by omega
     simp[hM,hR0,hne']
     (repeat' first | omega | (with_reducible apply And.intro) | intro _)
     refine Ys N (fun k e o=>∃ si,e=[(1,AV.iv (.int .i64 (([]:List Int).length:Nat))),(3,AV.cb 0),(4,AV.iv (.ptr (puC p))),(6,AV.loc 6 0),(9,AV.loc 9 0)] /\
      o=[(0,.ext si),(6,.box ((Qhv ([]++[R.long-R.wear+(k:Int)])).map AV.iv)),(9,.box [.iv (.int .i64 R.long),.iv (.int .i64 R.wear),.iv (.int .i64 R.grow)])]/\ZX Tryz.prog K (qY pc k N) si b s') ?_ ?_ _ _ ⟨s,by simp,by simp,by simpa using hf⟩
     ·rintro e o ⟨si,rfl,rfl,hfd⟩
      rw[Wc] at hfd;cases hfd;have q:¬ R.long-R.wear+(N:Int)<=R.long:=by omega
      rw[Qa Vi.eq_1];simp[q]
      try (intros;omega)
     ·rintro k e o hk ⟨si,rfl,rfl,hfd⟩ ihl
      rw[V2 pc hk] at hfd;have q:R.long-R.wear+(k:Int)<=R.long:=by omega
      have q3:R.long-R.wear+((k:Int)+1)=R.long-R.wear+k+1:=by omega
      rw[Qa Vi.eq_1];simp[q]
      (repeat' first | omega | (with_reducible apply And.intro) | intro _)
      rcases hfd.append with ⟨s1,hf1,hf2⟩ | ⟨rfl,hf1⟩
      ·refine ZJ (by simpa using ih k _ _ _ hf1) rfl ?_
       cases b
       all_goals
        simp
        (repeat' first | omega | (with_reducible apply And.intro) | intro _)
        exact ihl _ _ ⟨s1,by simp,by simp[q3],by simpa using hf2⟩
      ·refine ZJ (by simpa using ih k _ _ _ hf1) rfl ?_
       simp
   | [a],_,hlt,hne,hR,ih =>
     have hM:1<p.rods.length:=by simpa using hlt
     have hR0:p.rods[1]'hM=R:=hR;have hne':¬ (1:Int)=p.rods.length:=by omega
     simp[hM,hR0,hne']
     (repeat' first | omega | (with_reducible apply And.intro) | intro _)
     refine Ys N (fun k e o=>∃ si,e=[(1,AV.iv (.int .i64 (([a]:List Int).length:Nat))),(3,AV.cb 0),(4,AV.iv (.ptr (puC p))),(6,AV.loc 6 0),(9,AV.loc 9 0)] /\
      o=[(0,.ext si),(6,.box ((Qhv ([a]++[R.long-R.wear+(k:Int)])).map AV.iv)),(9,.box [.iv (.int .i64 R.long),.iv (.int .i64 R.wear),.iv (.int .i64 R.grow)])]/\ZX Tryz.prog K (qY pc k N) si b s') ?_ ?_ _ _ ⟨s,by simp,by simp,by simpa using hf⟩
     ·rintro e o ⟨si,rfl,rfl,hfd⟩
      rw[Wc] at hfd;cases hfd;have q:¬ R.long-R.wear+(N:Int)<=R.long:=by omega
      rw[Qa Vi.eq_1];simp[q]
      try (intros;omega)
     ·rintro k e o hk ⟨si,rfl,rfl,hfd⟩ ihl
      rw[V2 pc hk] at hfd;have q:R.long-R.wear+(k:Int)<=R.long:=by omega
      have q3:R.long-R.wear+((k:Int)+1)=R.long-R.wear+k+1:=by omega
      rw[Qa Vi.eq_1];simp[q]
      (repeat' first | omega | (with_reducible apply And.intro) | intro _)
      rcases hfd.append with ⟨s1,hf1,hf2⟩ | ⟨rfl,hf1⟩
      ·refine ZJ (by simpa using ih k _ _ _ hf1) rfl ?_
       cases b
       all_goals
        simp
        (repeat' first | omega | (with_reducible apply And.intro) | intro _)
        exact ihl _ _ ⟨s1,by simp,by simp[q3],by simpa using hf2⟩
      ·refine ZJ (by simpa using ih k _ _ _ hf1) rfl ?_
       simp
   | [a,a2],_,hlt,hne,hR,ih =>
     have hM:2<p.rods.length:=by simpa using hlt
     have hR0:p.rods[2]'hM=R:=hR;have hne':¬ (2:Int)=p.rods.length:=by omega
     simp[hM,hR0,hne']
     (repeat' first | omega | (with_reducible apply And.intro) | intro _)
     refine Ys N (fun k e o=>∃ si,e=[(1,AV.iv (.int .i64 (([a,a2]:List Int).length:Nat))),(3,AV.cb 0),(4,AV.iv (.ptr (puC p))),(6,AV.loc 6 0),(9,AV.loc 9 0)] /\
      o=[(0,.ext si),(6,.box ((Qhv ([a,a2]++[R.long-R.wear+(k:Int)])).map AV.iv)),(9,.box [.iv (.int .i64 R.long),.iv (.int .i64 R.wear),.iv (.int .i64 R.grow)])]/\ZX Tryz.prog K (qY pc k N) si b s') ?_ ?_ _ _ ⟨s,by simp,by simp,by simpa using hf⟩
     ·rintro e o ⟨si,rfl,rfl,hfd⟩
      rw[Wc] at hfd;cases hfd;have q:¬ R.long-R.wear+(N:Int)<=R.long:=by omega
      rw[Qa Vi.eq_1];simp[q]
      try (intros;omega)
     ·rintro k e o hk ⟨si,rfl,rfl,hfd⟩ ihl
      rw[V2 pc hk] at hfd;have q:R.long-R.wear+(k:Int)<=R.long:=by omega
      have q3:R.long-R.wear+((k:Int)+1)=R.long-R.wear+k+1:=by omega
      rw[Qa Vi.eq_1];simp[q]
      (repeat' first | omega | (with_reducible apply And.intro) | intro _)
      rcases hfd.append with ⟨s1,hf1,hf2⟩ | ⟨rfl,hf1⟩
      ·refine ZJ (by simpa using ih k _ _ _ hf1) rfl ?_
       cases b
       all_goals
        simp
        (repeat' first | omega | (with_reducible apply And.intro) | intro _)
        exact ihl _ _ ⟨s1,by simp,by simp[q3],by simpa using hf2⟩
      ·refine ZJ (by simpa using ih k _ _ _ hf1) rfl ?_
       simp
   | [a,a2,a3],_,hlt,hne,hR,ih =>
     have hM:3<p.rods.length:=by simpa using hlt
     have hR0:p.rods[3]'hM=R:=hR;have hne':¬ (3:Int)=p.rods.length:=by omega
     simp[hM,hR0,hne']
     (repeat' first | omega | (with_reducible apply And.intro) | intro _)
     refine Ys N (fun k e o=>∃ si,e=[(1,AV.iv (.int .i64 (([a,a2,a3]:List Int).length:Nat))),(3,AV.cb 0),(4,AV.iv (.ptr (puC p))),(6,AV.loc 6 0),(9,AV.loc 9 0)] /\
      o=[(0,.ext si),(6,.box ((Qhv ([a,a2,a3]++[R.long-R.wear+(k:Int)])).map AV.iv)),(9,.box [.iv (.int .i64 R.long),.iv (.int .i64 R.wear),.iv (.int .i64 R.grow)])]/\ZX Tryz.prog K (qY pc k N) si b s') ?_ ?_ _ _ ⟨s,by simp,by simp,by simpa using hf⟩
     ·rintro e o ⟨si,rfl,rfl,hfd⟩
      rw[Wc] at hfd;cases hfd;have q:¬ R.long-R.wear+(N:Int)<=R.long:=by omega
      rw[Qa Vi.eq_1];simp[q]
      try (intros;omega)
     ·rintro k e o hk ⟨si,rfl,rfl,hfd⟩ ihl
      rw[V2 pc hk] at hfd;have q:R.long-R.wear+(k:Int)<=R.long:=by omega
      have q3:R.long-R.wear+((k:Int)+1)=R.long-R.wear+k+1:=by omega
      rw[Qa Vi.eq_1];simp[q]
      (repeat' first | omega | (with_reducible apply And.intro) | intro _)
      rcases hfd.append with ⟨s1,hf1,hf2⟩ | ⟨rfl,hf1⟩
      ·refine ZJ (by simpa using ih k _ _ _ hf1) rfl ?_
       cases b
       all_goals
        simp
        (repeat' first | omega | (with_reducible apply And.intro) | intro _)
        exact ihl _ _ ⟨s1,by simp,by simp[q3],by simpa using hf2⟩
      ·refine ZJ (by simpa using ih k _ _ _ hf1) rfl ?_
       simp
   | _::_::_::_::_,h4,_,_,_,_=>simp at h4;omega
omit hK
theorem Qgy (x y:Int):∀ l:List (Int × Nat),QbM (QbC l x) y=QbM l y+(if x=y then 1 else 0)
 | []=>by simp[QbC,QbM]
 | p::r=>by
   unfold QbC;by_cases h:p.1=x
   ·simp only[h,if_true,QbM]
    grind
   ·simp only[h,if_false,QbM]
    by_cases h2:p.1=y
    ·grind
    ·simp[h2,Qgy x y r]
theorem Qox (y:Int):∀ l:List Int,QbM (XY l) y=l.count y:=by
 refine X8 (by simp[XY,QbM]) fun l x ih=>?_
 rw[XU,Qgy,ih,List.count_append,List.count_singleton]
 grind
def Qfm (p:Q6) (wh:Int) (w:List Int) (l:List Int):List Int:=l.flatMap fun len=>List.replicate (wrU p wh w len) len
def Qs3 (p:Q6) (wh:Int) (w:List Int):List Int:=Qfm p wh w (Xh p)
theorem Qfl (p:Q6) (wh:Int) (w:List Int) (y:Int):∀ l:List Int,l.Nodup->(Qfm p wh w l).count y=if y∈l then wrU p wh w y else 0
 | [],_=>by simp[Qfm]
 | a::r,h=>by
   rw[QLV] at h;have ih:=Qfl p wh w y r h.2;have e:Qfm p wh w (a::r)=List.replicate (wrU p wh w a) a++Qfm p wh w r:=by simp[Qfm]
   grind
theorem QqE {p:Q6} {wh:Int} {w:List Int} {len:Int} (h:len∈Xh p):QbM (XY (Qs3 p wh w)) len=wrU p wh w len:=by
 have hnd:(Xh p).Nodup:=(US _ _).imp fun h=>by omega
 rw[Qox,Qs3,Qfl p wh w len _ hnd,if_pos h]
theorem Qlw (w:List Int) (n:Nat) (h:n<4):[IV.int .i64 (w.getD 0 0),.int .i64 (w.getD 1 0),.int .i64 (w.getD 2 0),.int .i64 (w.getD 3 0)].drop n=.int .i64 (w.getD n 0)::[IV.int .i64 (w.getD 0 0),.int .i64 (w.getD 1 0),.int .i64 (w.getD 2 0),.int .i64 (w.getD 3 0)].drop (n+1):=by
 grind
def U2 (x:Bun):List IV:=Qhv x.rods++[.int .i64 (x.bef.wrong:Nat),Qt x.bef.lens,.int .i64 (x.aft.wrong:Nat),Qt x.aft.lens]
def VK (x:Bun):List IV:=[.agg (U2 x)]
include hK
theorem Qur (p:Q6) (hp:OkU p):Qal Tryz.prog K 348 [puV p] [] (QaL p []):=by
 intro s b s' hf;refine QR QxP (by simp) hf.v rfl ?_
 have ih:=QnM hK p hp p.rods.length [] (by simp) _ _ _ hf
 simp;refine ZJ (by simpa using ih) rfl ?_
 simp
theorem Qvh (x:Bun) (h1:x.bef.wrong<=1000) (h2:x.aft.wrong<=1000):Ev.Good Tryz.prog K 300 [.agg (U2 x)] (.int .i64 ((x.bef.wrong+x.aft.wrong:Nat):Int)):=by
 refine Qb hK Qx6 (by simp) ?_
 simp[U2];omega
theorem Qu2 (p:Q6) (wh:Int) (w:List Int) (hp:OkU p) (hw:w∈ZR p.rods) (hg:p.ghi-p.glo<=100000):Ev.Good Tryz.prog K 380 [puV p,.int .i64 wh,.agg (Qhv w)] (.map (Qaf (XY (Qs3 p wh w)))):=by
 refine Qb hK QxH (by simp) ?_
 have hgu:=hp.guess;have hmo:=hp.most;have hxl:=hp.xlen;simp only[inR] at hgu;obtain ⟨hwl,hwb⟩:=QaJ hp hw;obtain ⟨G,hG⟩:∃ G,G=(p.ghi-p.glo+1).toNat:=⟨_,rfl⟩
 have hGv:p.glo+(G:Int)=p.ghi+1:=by omega
 have hlens:Xh p=(List.range G).map fun (i:Nat)=>p.glo+i:=by rw[hG];rfl
 have hseq:Qs3 p wh w=Qfm p wh w ((List.range G).map fun (i:Nat)=>p.glo+i):=by rw[Qs3,hlens]
 rw[hseq];clear hseq hlens hG;simp;have e0:AV.iv (IV.int .i64 p.glo)=AV.iv (.int .i64 (p.glo+((0:Nat):Int))):=by simp
 rw[e0]
 refine Qe (fun i=>[(1,AV.iv (.int .i64 wh)),(3,AV.iv (.ptr (puC p))),(5,AV.iv (.ptr (Qhv w))),(7,AV.oref 11),(8,AV.iv (IV.int IntKind.i64 (p.glo+(i:Nat))))])
  (fun i=>[(11,AO.mapd (Qaf (XY (Qfm p wh w ((List.range i).map fun (i:Nat)=>p.glo+i)))))]) G (fun i=>True) trivial ?_ ?_
 ·intro _
  have q2:¬ p.ghi+1<=p.ghi:=by omega
  rw[hGv,Qa Qix.eq_1];simp[q2]
 ·intro i hi _ ih
  have q1:p.glo+(i:Int)<=p.ghi:=by omega
  have q3:p.glo+((i:Int)+1)=p.glo+i+1:=by omega
  have hS:Qfm p wh w ((List.range (i+1)).map fun (i:Nat)=>p.glo+i)=Qfm p wh w ((List.range i).map fun (i:Nat)=>p.glo+i)++List.replicate (wrU p wh w (p.glo+i)) (p.glo+i):=by
   rw[QKU,QKy];simp[Qfm]
  rw[hS] at ih
  have hlS:∀ n:Nat,(Qfm p wh w ((List.range n).map fun (i:Nat)=>p.glo+i)).length<=n*8:=by
   intro n
   induction n with
   | zero=>simp[Qfm]
   | succ n ihn =>
     have e:Qfm p wh w ((List.range (n+1)).map fun (i:Nat)=>p.glo+i)=Qfm p wh w ((List.range n).map fun (i:Nat)=>p.glo+i)++List.replicate (wrU p wh w (p.glo+n)) (p.glo+n):=by
      rw[QKU,QKy];simp[Qfm]
     have hwr:=Qe6 p wh w (p.glo+n)
     grind
  have hl1:=hlS i;rw[Qa Qix.eq_1];generalize Qfm p wh w ((List.range i).map fun (i:Nat)=>p.glo+i)=S at *
  have hlen:0<=p.glo+(i:Int)/\p.glo+(i:Int)<=99999:=by omega
  unfold wrU at ih;generalize hL:p.glo+(i:Int)=len at *;simp[q1,q3] at ih |-;intros;have eS:S=S++List.replicate ((p.reads.take 0).countP (QeW p wh w len)) len:=by simp
  rw[eS]
  refine Qe (fun k=>[(1,AV.iv (.int .i64 wh)),(3,AV.iv (.ptr (puC p))),(5,AV.iv (.ptr (Qhv w))),(7,AV.oref 11),(8,AV.iv (IV.int IntKind.i64 len)),(26,AV.iv (Y6 p.reads)),(27,AV.iv (.int .i64 p.reads.length)),(28,AV.iv (.int .i64 (k:Nat)))])
   (fun k=>[(11,AO.mapd (Qaf (XY (S++List.replicate ((p.reads.take k).countP (QeW p wh w len)) len))))]) p.reads.length (fun i=>True) trivial ?_ ?_
  ·intro _
   rw[Qa Qiy.eq_1,QKn];simp
   grind
  ·intro k hk _ ih2
   have hx:=hp.reads _ (QKj hk);have hcl:(p.reads.take k).countP (QeW p wh w len)<=k:=QKK QKI (by simp;omega)
   rw[QKf hk,QKV] at ih2;generalize hX:p.reads[k]=X at *;have hr:=hx.2.1;simp only[inR] at hr;have hr4:X.rod.toNat<4:=by have:=hp.rlen;omega
   have hrl:0<=w.getD X.rod.toNat 0/\w.getD X.rod.toNat 0<=9999:=by
    have hlt:X.rod.toNat<w.length:=by omega
    have:w.getD X.rod.toNat 0=w[X.rod.toNat]:=by simp[hlt]
    rw[this];exact hwb _ (QKj hlt)
   have hg:=QuY hK p X len (w.getD X.rod.toNat 0) hp hx hlen hrl;have hdp:=Qlw w X.rod.toNat hr4;have hb:QeW p wh w len X=(decide (X.whn=wh)&&!VC p X len (w.getD X.rod.toNat 0)):=rfl
   have hlen2:(S++List.replicate ((p.reads.take k).countP (QeW p wh w len)) len).length<=900000:=by
    simp;omega
   rw[<- List.replicate_append_replicate,<- QLs] at ih2;have hc1:[X].countP (QeW p wh w len)=if QeW p wh w len X then 1 else 0:=by simp
   rw[hc1,hb] at ih2;generalize S++List.replicate ((p.reads.take k).countP (QeW p wh w len)) len=S2 at *;have hle:=Qex len S2;have hkk:=YD (XY S2);have hf:=JJ len (XY S2);have hi2:=WI len (XY S2);rw[Qa Qiy.eq_1];have hr1:0<=X.rod/\X.rod<4/\X.rod<=4:=by omega
   simp only[List.getD_eq_getElem?_getD] at hdp hg ih2;generalize w[X.rod.toNat]?.getD 0=ww at *;by_cases hw2:X.whn=wh
   ·generalize VC p X len ww=rb at *
    cases rb
    ·simp[hw2,XU] at ih2
     generalize XY S2=kv at *;simp[hk,hX,hw2];refine ⟨hr1,?_⟩;simp[hdp,hw2];refine cK (by simpa[hw2] using hg) ?_
     simp[hkk,hf,hi2]
     grind
    ·simp[hw2] at ih2
     simp[hk,hX,hw2];refine ⟨hr1,?_⟩;simp[hdp,hw2];refine cK (by simpa[hw2] using hg) ?_
     simp
     grind
   ·simp[hw2] at ih2
    simp[hk,hX,hw2]
    grind
omit hK
def QB7 (f:Int->Nat) (kvs:List (MK × List (List IV))) (x:Int):List (MK × List (List IV)) :=
 mins (.int .i64 (f x:Nat)) (((QA (.int .i64 (f x:Nat)) kvs).getD [])++[[.int .i64 x]]) kvs
def gby (f:Int->Nat) (l:List Int):List (MK × List (List IV)):=l.foldl (QB7 f) []
theorem QaB (f:Int->Nat) (l:List Int) (x:Int):gby f (l++[x])=QB7 f (gby f l) x:=by simp[gby]
theorem QfT {α:Type} (k:MK) (v:α):∀ kvs:List (MK × α),(mins k v kvs).map (·.1)=if k∈kvs.map (·.1) then kvs.map (·.1) else kvs.map (·.1)++[k]
 | []=>by simp[mins]
 | p::r=>by
   have ih:=QfT k v r;unfold mins
   grind
theorem Qgz (f:Int->Nat):∀ l,Zz (some .i64) (gby f l):=by
 refine X8 trivial fun l x ih=>?_
 rw[QaB];exact JH _ _ _ ih
theorem Qlh (f:Int->Nat) (n:Nat):∀ l,(QA (.int .i64 (n:Nat)) (gby f l)).getD []=(l.filter fun x=>f x==n).map fun x=>[IV.int .i64 x]:=by
 refine X8 rfl fun l x ih=>?_
 rw[QaB,QB7,VR,QLj,QKy]
 grind
theorem Qrt (f:Int->Nat):∀ l,∃ ks:List Nat,(gby f l).map (·.1)=ks.map (fun n:Nat=>MK.int .i64 (n:Int))/\ks.Nodup/\∀ n,n∈ks↔∃ y∈l,f y=n:=by
 refine X8 ⟨[],rfl,QLN,by simp⟩ fun l x ih=>?_
 obtain ⟨ks,h1,h2,h3⟩:=ih;rw[QaB,QB7,QfT,h1]
 have hm:MK.int .i64 ((f x:Nat):Int)∈ks.map (fun n:Nat=>MK.int .i64 (n:Int))↔f x∈ks:=by
  grind
 by_cases h:f x∈ks
 ·grind
 ·rw[if_neg (fun e=>h (hm.1 e))]
  refine ⟨ks++[f x],by simp,?_,fun n=>?_⟩
  all_goals grind
theorem QwR (f:Int->Nat) (n:Nat) (l:List Int):((QA (.int .i64 (n:Nat)) (gby f l)).getD []).length<=l.length:=by
 rw[Qlh]
 grind
theorem Qhf (ks cs:List Nat) (h1:ks.Nodup) (h2:cs.Pairwise (·<·)) (h3:∀ n,n∈ks↔n∈cs) :
  (ks.map fun n:Nat=>(n:Int)).mergeSort (fun x y=>decide (x<=y))=cs.map fun n:Nat=>(n:Int):=by
 have hp:ks.Perm cs:=(List.perm_ext_iff_of_nodup h1 (h2.imp fun h=>by omega)).2 h3
 rw[mergeSort_of_perm_i (hp.map fun n:Nat=>(n:Int))]
 refine List.mergeSort_of_pairwise ?_
 grind
def grC (g:Grp):List IV:=[.int .i64 (g.wrong:Nat),Qt g.lens]
def Ui (l:List Grp):IV:=.sl 2 (l.map grC)
theorem QfU {α β:Type} (g:α->β) (k:MK):∀ l:List (MK × α),QA k (l.map fun p=>(p.1,g p.2))=(QA k l).map g
 | []=>rfl
 | p::r=>by
   simp only[QKF,QA];split
   ·rfl
   ·exact QfU g k r
theorem Qbx {α β:Type} (kk:Option IntKind) (g:α->β):∀ l:List (MK × α),Zz kk l->Zz kk (l.map fun p=>(p.1,g p.2))
 | [],_=>trivial
 | _::r,h=>⟨h.1,Qbx kk g r h.2⟩
include hK
theorem Qu1 (kvs:List (MK × IV)):Ev.Good Tryz.prog K 381 [.map kvs] (.clo 395 [] [.ptr [.map kvs]]):=by
 refine Qb hK QxG (by simp) ?_
 simp
theorem Qn4 (p:Q6) (wh:Int) (w:List Int) (hp:OkU p) (hw:w∈ZR p.rods) (hg:p.ghi-p.glo<=100000):Ev.Good Tryz.prog K 349 [puV p,.int .i64 wh,.agg (Qhv w)] (Ui (VM p wh w)):=by
 refine Qb hK QxO (by simp) ?_
 have hgu:=hp.guess;have hxl:=hp.xlen;have hmo:=hp.most;simp only[inR] at hgu;have h380:=Qu2 hK p wh w hp hw hg;have hget:=fun (len:Int) (h:len∈Xh p)=>QqE (wh:=wh) (w:=w) h
 have hkk:=YD (XY (Qs3 p wh w));have hfind:=fun (x:Int)=>JJ x (XY (Qs3 p wh w))
 obtain ⟨G,hG⟩:∃ G,G=(p.ghi-p.glo+1).toNat:=⟨_,rfl⟩
 have hGv:p.glo+(G:Int)=p.ghi+1:=by omega
 have hlens:Xh p=(List.range G).map fun (i:Nat)=>p.glo+i:=by rw[hG];rfl
 simp;refine cK (by simpa using h380) ?_
 generalize Qaf (XY (Qs3 p wh w))=cn at *;simp;have e0:AV.iv (IV.int .i64 p.glo)=AV.iv (.int .i64 (p.glo+((0:Nat):Int))):=by simp
 rw[e0]
 refine Qe (fun i=>[(3,AV.iv (.ptr (puC p))),(7,AV.iv (.map cn)),(8,AV.oref 17),(9,AV.iv (IV.int IntKind.i64 (p.glo+(i:Nat))))])
  (fun i=>[(17,AO.mapr 3 1 (gby (wrU p wh w) ((List.range i).map fun (i:Nat)=>p.glo+i)) none)]) G (fun i=>True) trivial ?_ ?_
 ·intro _
  have q2:¬ p.ghi+1<=p.ghi:=by omega
  rw[hGv,Qa QiC.eq_1,<- hlens];simp[q2];refine cK (by simpa using Qu1 hK _) ?_
  simp;obtain ⟨ks,hk1,hk2,hk3⟩:=Qrt (wrU p wh w) (Xh p)
  have hkb:∀ n∈ks,n<=8:=fun n hn=>by
   obtain ⟨y,_,e⟩:=(hk3 n).1 hn;have:=Qe6 p wh w y;omega
  have hcp:(Qag p wh w).Pairwise (·<·):=List.pairwise_lt_range.filter _
  have hkc:∀ n,n∈ks↔n∈Qag p wh w:=fun n=>by
   rw[hk3];simp only[Qag,QKJ,QKO];constructor
   ·rintro ⟨y,hy,e⟩
    have:=Qe6 p wh w y;have h5:y∈Qc9 p wh w n:=X9.2 ⟨hy,e⟩
    grind
   ·rintro ⟨_,h⟩
    cases hz:Qc9 p wh w n with
    | cons a r =>
      have h5:a∈Qc9 p wh w n:=by rw[hz];simp
      exact ⟨a,(X9.1 h5).1,(X9.1 h5).2⟩
    | _=>grind
  have hperm:ks.Perm (Qag p wh w):=(List.perm_ext_iff_of_nodup hk2 (hcp.imp fun h=>by omega)).2 hkc
  have hcl:(Qag p wh w).length<=p.reads.length+1:=by
   have:=QKD (fun n=>!(Qc9 p wh w n).isEmpty) (List.range (p.reads.length+1))
   simpa[Qag] using this
  have hkl:=hperm.length_eq;have hsort:=Qhf ks _ hk2 hcp hkc
  have h173:=Qrq (K:=K) ((gby (wrU p wh w) (Xh p)).map fun p=>(p.1,IV.sl 1 p.2)) (ks.map fun n:Nat=>(n:Int)) (by rw[List.map_map,List.map_map];exact hk1) (fun x hx=>by
   grind) (by simp;omega)
  rw[hsort] at h173;refine cK h173 ?_
  have hfnd:∀ n:Nat,n∈Qag p wh w->(QA (.int .i64 ((n:Nat):Int)) ((gby (wrU p wh w) (Xh p)).map fun p=>(p.1,IV.sl 1 p.2))).getD (.sl 1 [])=Qt (Qc9 p wh w n):=fun n hn=>by
   have h5:=Qlh (wrU p wh w) n (Xh p);rw[QfU];cases hz:QA (.int .i64 ((n:Nat):Int)) (gby (wrU p wh w) (Xh p)) with
   | none =>
     rw[hz] at h5;simp[Qt,Qc9];simpa using h5
   | some v =>
     rw[hz] at h5;simp[Qt,Qc9];simpa using h5
  have hkk2:=Qbx (some .i64) (fun r:List (List IV)=>IV.sl 1 r) _ (Qgz (wrU p wh w) (Xh p))
  generalize ((gby (wrU p wh w) (Xh p)).map fun p=>(p.1,IV.sl 1 p.2))=mv at *
  simp only[VM];generalize Qag p wh w=cs at *;simp[-List.map_map];intros
  refine Qe (fun i=>[(8,AV.iv (.map mv)),(10,AV.aref 10 i),(44,.iv (Qt (cs.map fun n:Nat=>(n:Int)))),(45,AV.iv (.int .i64 cs.length)),(46,AV.iv (IV.int IntKind.i64 (i:Nat)))])
   (fun i=>[(10,AO.arr 268 2 (emb ((cs.take i).map fun n=>grC ⟨n,Qc9 p wh w n⟩)) 0)]) cs.length (fun i=>True) trivial ?_ ?_
  ·intro _
   rw[Qa QiB.eq_1];simp[QKi,Ui,Qt]
  ·intro i hi _ ih2
   rw[Qa QiB.eq_1];rw[QKf hi,QKy] at ih2;have hf1:=hfnd _ (QKj hi);simp[grC,Qt] at ih2;simp[hi,Qt,hkk2,hf1]
   repeat' first | omega | exact ih2 | apply And.intro
 ·intro i hi _ ih
  have q1:p.glo+(i:Int)<=p.ghi:=by omega
  have q3:p.glo+((i:Int)+1)=p.glo+i+1:=by omega
  have hS:((List.range (i+1)).map fun (i:Nat)=>p.glo+(i:Int))=((List.range i).map fun (i:Nat)=>p.glo+(i:Int))++[p.glo+(i:Int)]:=by
   rw[QKU,QKy];rfl
  have hmem:p.glo+(i:Int)∈Xh p:=JF.2 ⟨by omega,by omega⟩
  have hgt:=hget _ hmem;have hf1:=hfind (p.glo+(i:Int));rw[hgt] at hf1;rw[hS,QaB] at ih;have hk1:=Qgz (wrU p wh w) ((List.range i).map fun (i:Nat)=>p.glo+(i:Int))
  have hl1:=QwR (wrU p wh w) (wrU p wh w (p.glo+i)) ((List.range i).map fun (i:Nat)=>p.glo+(i:Int))
  have hwr:=Qe6 p wh w (p.glo+i);rw[QKz,List.length_range] at hl1;unfold QB7 at ih;generalize gby (wrU p wh w) ((List.range i).map fun (i:Nat)=>p.glo+(i:Int))=kvs at *
  generalize wrU p wh w (p.glo+i)=n at *;have hk2:=JH n (((QA (.int .i64 ((n:Nat):Int)) kvs).getD [])++[[.int .i64 (p.glo+(i:Int))]]) kvs hk1;have hfm:=VR (.int .i64 ((n:Nat):Int)) (.int .i64 ((n:Nat):Int)) (((QA (.int .i64 ((n:Nat):Int)) kvs).getD [])++[[.int .i64 (p.glo+(i:Int))]]) kvs;rw[if_pos rfl] at hfm;rw[Qa QiC.eq_1];simp[q3] at ih;simp[q1,hkk,hf1,hk1,hk2,hfm]
  grind
omit hK
def QEs (p:Q6) (w:List Int):List (List IV):=(VM p 1 w).flatMap fun g=>(VM p 2 w).map fun h=>VK ⟨w,g,h⟩
theorem Qay (p:Q6) (wh:Int) (w:List Int):(VM p wh w).length<=p.reads.length+1:=by
 have:=QKD (fun n=>!(Qc9 p wh w n).isEmpty) (List.range (p.reads.length+1))
 simpa[VM,Qag] using this
include hK
theorem Qs6 (p:Q6) (w:List Int) (hp:OkU p) (hw:w∈ZR p.rods) (hg:p.ghi-p.glo<=100000) {ks:Env} (hks:ZH [2,3] [0,3] ks=[(2,.iv (.ptr (puC p))),(3,.loc 3 0)])
  (s:Ext) (b:Bool) (s1:Ext) (hf:ZX Tryz.prog K (QEs p w) s b s1) :
  Rnd Tryz.prog K [12] QaG QeK [2,3] [0,3] (ZH [2,3] [0,3] ks) (Qf9 w) [(0,.ext s),(3,.box [.cb 0])] (if b then .fall else .ret) [(0,.ext s1),(3,.box [.cb 0])]:=by
 have h1:=Qn4 hK p 1 w hp hw hg;have h2:=Qn4 hK p 2 w hp hw hg;have hl1:=Qay p 1 w;have hl2:=Qay p 2 w;have hxl:=hp.xlen;unfold QEs at hf;generalize VM p 1 w=G1 at *;generalize VM p 2 w=G2 at *;rw[hks];refine ⟨rfl,?_⟩;simp[Qf9,QaG,QeK];refine cK (by simpa using h2) ?_
 simp;refine cK (by simpa using h1) ?_
 simp[Ui];intros
 refine Ys G1.length (fun i e o=>∃ si,e=[(2,AV.iv (.ptr (puC p))),(3,AV.loc 3 0),(4,AV.loc 4 0),(5,.iv (Ui G2)),(18,.iv (Ui G1)),(19,.iv (.int .i64 (G1.length:Nat))),(20,.iv (.int .i64 (i:Nat)))] /\
  o=[(0,.ext si),(3,.box [.cb 0]),(4,.box ((Qhv w).map AV.iv))]/\ZX Tryz.prog K ((G1.drop i).flatMap fun g=>G2.map fun h=>VK ⟨w,g,h⟩) si b s1) ?_ ?_ _ _ ⟨s,by simp[Ui],by simp,by simpa using hf⟩
 ·rintro e o ⟨si,rfl,rfl,hfd⟩
  rw[QKM (QKl _)] at hfd;cases hfd;rw[Qa QiT.eq_1];simp[Ui]
 ·rintro i e o hi ⟨si,rfl,rfl,hfd⟩ ih
  rw[QKG hi,QLi] at hfd;rw[Qa QiT.eq_1];generalize hX:G1[i]=X at *;simp[hi,Ui,hX,grC];intros
  refine Ys G2.length (fun k e o=>∃ si,e=[(2,AV.iv (.ptr (puC p))),(3,AV.loc 3 0),(4,AV.loc 4 0),(5,.iv (Ui G2)),(7,AV.loc 7 0),(18,.iv (Ui G1)),(19,.iv (.int .i64 (G1.length:Nat))),(20,.iv (.int .i64 (i:Nat))),(24,.iv (Ui G2)),(25,.iv (.int .i64 (G2.length:Nat))),(26,.iv (.int .i64 (k:Nat)))] /\
   o=[(0,.ext si),(3,.box [.cb 0]),(4,.box ((Qhv w).map AV.iv)),(7,.box ((grC X).map AV.iv))]/\ZX Tryz.prog K (((G2.drop k).map fun h=>VK ⟨w,X,h⟩)++(G1.drop (i+1)).flatMap fun g=>G2.map fun h=>VK ⟨w,g,h⟩) si b s1) ?_ ?_ _ _ ⟨si,by simp[Ui,grC],by simp[grC],by simpa using hfd⟩
  ·rintro e o ⟨si,rfl,rfl,hfd⟩
   rw[QKM (QKl _)] at hfd;rw[Qa QiU.eq_1];simp[Ui]
   (repeat' first | omega | (with_reducible apply And.intro) | intro _)
   exact ih _ _ ⟨si,by simp[Ui],by simp,by simpa using hfd⟩
  ·rintro k e o hk ⟨si,rfl,rfl,hfd⟩ ih2
   rw[QKG hk,QKF,QKs] at hfd;rw[Qa QiU.eq_1];generalize hY:G2[k]=Y at *;simp[hk,Ui,hY,grC];have hit:VK ⟨w,X,Y⟩=[.agg (U2 ⟨w,X,Y⟩)]:=rfl;rw[hit] at hfd;cases hfd with
   | stop _ _ _ _ hg =>
     refine Q9 (by simpa[U2] using hg) rfl ?_
     simp
   | next _ _ _ s1 _ _ hg hr =>
     refine Q9 (by simpa[U2] using hg) rfl ?_
     simp
     (repeat' first | omega | (with_reducible apply And.intro) | intro _)
     exact ih2 _ _ ⟨s1,by simp[Ui],by simp[grC],hr⟩
theorem QfE (p:Q6) (hp:OkU p) (hg:p.ghi-p.glo<=100000) {ks:Env} (hks:ZH [2,3] [0,3] ks=[(2,.iv (.ptr (puC p))),(3,.loc 3 0)]) :
  ∀ (Ws:List (List Int)) (hW:∀ w∈Ws,w∈ZR p.rods) (s:Ext) (b:Bool) (s':Ext),ZX Tryz.prog K (Ws.flatMap (QEs p)) s b s' ->
   ∃ wy,(wy=.fall\/wy=.ret)/\Uz Tryz.prog K [12] QaG QeK [2,3] [0,3] (ZH [2,3] [0,3] ks) (Ws.map Qf9) [(0,.ext s),(3,.box [.cb 0])] wy [(0,.ext s'),(3,.box [.cb 0])]
 | [],_,s,b,s',h=>by
   cases h;exact ⟨.fall,.inl rfl,.nil _⟩
 | w::Ws,hW,s,b,s',h=>by
   rw[QLi] at h;rcases h.append with ⟨s1,h1,h2⟩ | ⟨rfl,h1⟩
   ·obtain ⟨wy,h3,h4⟩:=QfE p hp hg hks Ws (fun x hx=>hW x (by simp[hx])) s1 b s' h2
    exact ⟨wy,h3,.next _ _ _ _ _ _ (Qs6 hK p w hp (hW w (by simp)) hg hks s true s1 h1) h4⟩
   ·exact ⟨.ret,.inr rfl,.stop _ _ _ _ _ (by simp) (Qs6 hK p w hp (hW w (by simp)) hg hks s false s' h1)⟩
theorem Qus (p:Q6) (hp:OkU p) (hg:p.ghi-p.glo<=100000):Qal Tryz.prog K 299 [puV p] [] ((Qct p).map VK):=by
 intro s b s' hf;refine QR Qx7 (by simp) hf.v rfl ?_
 have hw:QaL p []=(ZR p.rods).map Qf9:=by simp[QaL]
 have hit:=Qur hK p hp;rw[hw] at hit
 have hb:(Qct p).map VK=(ZR p.rods).flatMap (QEs p):=by
  simp[Qct,QLS,List.map_map,Function.comp_def];rfl
 rw[hb] at hf;simp;obtain ⟨wy,h1,h2⟩:=QfE hK p hp hg (ks:=[(2,.iv (.ptr (puC p))),(3,.loc 3 0)]) rfl (ZR p.rods) (fun _ h=>h) s b s' hf
 refine Zb (wy:=wy) (o':=[(0,.ext s'),(3,.box [.cb 0])]) rfl (by kernel_rfl) hit ?_ ?_
 ·simpa[ZH,XH] using h2
 ·rcases h1 with rfl | rfl<;>simp
theorem Qa2 (p:Q6) (hp:OkU p) {ks:Env} (hks:ZH [2,3] [0,3] ks=[(2,.iv (.ptr (puC p))),(3,.loc 3 0)]) :
  ∀ (Bs:List Bun) (hB:∀ x∈Bs,x∈Qct p) (s:Ext) (b:Bool) (s':Ext),ZX Tryz.prog K ((Bs.filter fun x=>decide (((x.bef.wrong+x.aft.wrong:Nat):Int)<=p.wrong)).map VK) s b s' ->
   ∃ wy,(wy=.fall\/wy=.ret)/\Uz Tryz.prog K [7] WR Qb2 [2,3] [0,3] (ZH [2,3] [0,3] ks) (Bs.map VK) [(0,.ext s),(3,.box [.cb 0])] wy [(0,.ext s'),(3,.box [.cb 0])]
 | [],_,s,b,s',h=>by
   cases h;exact ⟨.fall,.inl rfl,.nil _⟩
 | t::Ls,hB,s,b,s',h=>by
   have hbt:t.bef.wrong<=1000/\t.aft.wrong<=1000:=by
    have:=hB t (by simp)
    simp only[Qct,QKY,QKt] at this;obtain ⟨w,_,g,hg,h,hh,rfl⟩:=this;have hxl:=hp.xlen;simp only[VM,Qag,QKt,QKJ,QKO] at hg hh
    grind
   have hw:=Qvh hK t hbt.1 hbt.2;by_cases ht:((t.bef.wrong+t.aft.wrong:Nat):Int)<=p.wrong
   ·rw[QLz (by simpa using ht)] at h
    cases h with
    | stop _ _ _ _ hg =>
      refine ⟨.ret,.inr rfl,.stop _ _ _ _ _ (by simp) ?_⟩
      rw[hks];refine ⟨rfl,?_⟩;simp[VK,U2,WR,Qb2];refine cK (by simpa[U2] using hw) ?_
      simp at ht;simp[ht];refine Q9 (by simpa[VK,U2] using hg) rfl ?_
      simp
    | next _ _ _ s1 _ _ hg hr =>
      obtain ⟨wy,h1,h2⟩:=Qa2 p hp hks Ls (fun x hx=>hB x (by simp[hx])) s1 b s' hr
      refine ⟨wy,h1,.next _ _ _ _ _ _ ?_ h2⟩;rw[hks];refine ⟨rfl,?_⟩;simp[VK,U2,WR,Qb2];refine cK (by simpa[U2] using hw) ?_
      simp at ht;simp[ht];refine Q9 (by simpa[VK,U2] using hg) rfl ?_
      simp
   ·rw[QLA (by simpa using ht)] at h
    obtain ⟨wy,h1,h2⟩:=Qa2 p hp hks Ls (fun x hx=>hB x (by simp[hx])) s b s' h
    refine ⟨wy,h1,.next _ _ _ _ _ _ ?_ h2⟩;rw[hks];refine ⟨rfl,?_⟩;simp[VK,U2,WR,Qb2];refine cK (by simpa[U2] using hw) ?_
    simp at ht;have ht':¬ ((t.bef.wrong:Int)+t.aft.wrong<=p.wrong):=by omega
    simp[ht']
theorem Qut (p:Q6) (hp:OkU p) (hg:p.ghi-p.glo<=100000):Qal Tryz.prog K 247 [puV p] [] ((Vm p).map VK):=by
 intro s b s' hf;refine QR QyI (by simp) hf.v rfl ?_
 simp;obtain ⟨wy,h1,h2⟩:=Qa2 hK p hp (ks:=[(2,.iv (.ptr (puC p))),(3,.loc 3 0)]) rfl (Qct p) (fun _ h=>h) s b s' hf
 refine Zb (wy:=wy) (o':=[(0,.ext s'),(3,.box [.cb 0])]) rfl (by kernel_rfl) (Qus hK p hp hg) ?_ ?_
 ·simpa[ZH,XH] using h2
 ·rcases h1 with rfl | rfl<;>simp
omit hK
theorem Qk5 (p:Q6) (wh:Int) (w:List Int) (n:Nat):(Qc9 p wh w n).length<=(p.ghi-p.glo+1).toNat:=by
 have:=QKD (fun len=>wrU p wh w len==n) (Xh p)
 simpa[Qc9,Xh,Vr] using this
def VW (l:List Bun):IV:=.sl 8 (l.map U2)
include hK
theorem Qq4 (p:Q6) (hp:OkU p) (hg:p.ghi-p.glo<=100000) (hl:(Vm p).length<=1000000):QU Tryz.prog K 298 [.nilr 8,.iv (.clo 247 [puV p] [])] [] [] (.iv (VW (Vm p))) []:=by
 refine Q1 [] [] [] [] Qx8.p (by simp[QEo]) (by simp) ?_ ?_ ?_ ?_
 ·simp
 ·simp[clA]
 ·simp
 have hit:=Qut hK p hp hg;generalize Vm p=B at *;generalize hG:Qg2 QEo.res [] [] (AV.iv (VW B)) []=G;simp;refine Zb (wy:=.fall) (o':=[(2,.box [.aref 3000 B.length]),(3000,.arr 270 8 (emb (B.map U2)) 0)]) rfl (by kernel_rfl) hit ?_ ?_
 ·have:=Uz.all (P:=Tryz.prog) (K:=K) (ps:=[7]) (asn:=QeL) (body:=QiV) (ks:=[2]) (ids:=[2,3000]) (eK:=[(2,.loc 2 0)]) (B.map VK)
   (fun i=>[(2,.box [.aref 3000 i]),(3000,.arr 270 8 (emb ((B.take i).map U2)) 0)]) fun i x hi=>by
   simp only[QKp,QKm] at hi;obtain ⟨y,hy,rfl⟩:=hi;obtain ⟨hlt,hy⟩:=QKh.1 hy;refine ⟨rfl,?_⟩;rw[QKf hlt,hy,QKy];simp[VK,U2,QeL,QiV];exact ⟨by omega,by simp[emb]⟩
  simpa[QKi,QB] using this
 ·simp[QKi]
  rw[<- hG];refine ⟨⟨_,rfl,?_⟩,by simp,by simp⟩
  have h0:(fun i=>if ([]:List Nat).contains i then none else Qc [(2,AO.box [AV.aref 3000 B.length]),(3000,AO.arr 270 8 (emb (B.map U2)) 0)] i)=Qc [(2,AO.box [AV.aref 3000 B.length]),(3000,AO.arr 270 8 (emb (B.map U2)) 0)]:=rfl
  rw[Quc,h0];simp[look,VW,QKi]
  trace_state
theorem Qvy (p:Q6) (hp:OkU p) (hg:p.ghi-p.glo<=100000) (hl:(Vm p).length<=1000000):Ev.Good Tryz.prog K 246 [.clo 247 [puV p] []] (VW (Vm p)):=by
 refine Qb hK QyJ (by simp) ?_
 simp;refine Qn (Qq4 hK p hp hg hl) rfl ?_ ?_
 ·refine ⟨by simp,by simp[clA],by simp,by simp,by simp⟩
 ·simp[VW]
omit hK
theorem VQ {α β:Type} (f:α->List β) (c:Nat):∀ l:List α,(∀ x∈l,(f x).length<=c)->(l.flatMap f).length<=l.length*c
 | [],_=>by simp
 | a::r,h=>by
   have h1:=h a (by simp)
   have h2:=VQ f c r fun x hx=>h x (by simp[hx])
   rw[QLi,QKA,QKB,Nat.succ_mul];omega
theorem QaO {p:Q6} (hp:OkU p):(Vm p).length<=1000000:=by
 have hxl:=hp.xlen
 have h0:(Qct p).length<=(ZR p.rods).length*81:=by
  refine VQ _ _ _ fun w _=>?_
  have h1:=Qay p 1 w
  have h2:=VQ (fun g=>(VM p 2 w).map fun h=>(⟨w,g,h⟩:Bun)) 9 (VM p 1 w) fun g _=>by
   have:=Qay p 2 w;simp;omega
  omega
 have h1:=QKD (fun x:Bun=>decide (((x.bef.wrong+x.aft.wrong:Nat):Int)<=p.wrong)) (Qct p)
 have h2:=Jt p.rods hp.rods;have h3:10 ^ p.rods.length<=10 ^ 4:=QK7 (by omega) hp.rlen
 unfold Vm;omega
def uT (p:Q6) (is:Bool):List Bun:=if OkU p/\is=true then Vm p else []
theorem Quq {p:Q6} {x:Bun} (h:x∈Vm p):(∀ n∈x.bef.lens,n∈Xh p)/\(∀ n∈x.aft.lens,n∈Xh p)/\x.bef.lens.length<=100000/\x.aft.lens.length<=100000\/¬ OkU p:=by
 by_cases hp:OkU p
 ·refine .inl ?_
  obtain ⟨_,hg,hh,_⟩:=Wl.1 h;have h1:=(Yh.1 hg).1;have h2:=(Yh.1 hh).1;have h3:=Qk5 p 1 x.rods x.bef.wrong;have h4:=Qk5 p 2 x.rods x.aft.wrong;have hgu:=hp.guess;have hmo:=hp.most;simp only[inR] at hgu;rw[h1,h2];exact ⟨fun n hn=>(X9.1 hn).1,fun n hn=>(X9.1 hn).1,by omega,by omega⟩
 ·exact .inr hp
theorem QaA {l:List Int} (h:0<l.length):l[0]=Xs l:=by
 cases l with
 | nil=>cases h
 | cons a r=>rfl
theorem Qaz {l:List Int} (h:l.length-1<l.length):l[l.length-1]=Xi l:=by
 unfold Xi
 grind
structure QFX (x:Bun):Prop where
 bpos:0<x.bef.lens.length
 apos:0<x.aft.lens.length
 blen:x.bef.lens.length<=100000
 alen:x.aft.lens.length<=100000
 bh:0<=Xs x.bef.lens/\Xs x.bef.lens<=99999
 bl:0<=Xi x.bef.lens/\Xi x.bef.lens<=99999
 ah:0<=Xs x.aft.lens/\Xs x.aft.lens<=99999
 al:0<=Xi x.aft.lens/\Xi x.aft.lens<=99999
theorem QEW {p:Q6} (hp:OkU p) {x:Bun} (h:x∈Vm p):QFX x:=by
 obtain ⟨h1,h2,h3,h4⟩:=Z0 h;obtain ⟨k1,k2,k3,k4⟩:=(Quq h).resolve_right (fun e=>e hp)
 have e1:=Xm h1 h3;have e2:=Xm h2 h4;have hgu:=hp.guess;have hmo:=hp.most;simp only[inR] at hgu
 have hin:∀ n∈Xh p,0<=n/\n<=99999:=fun n hn=>by
  have:=JF.1 hn;omega
 exact ⟨QLl.2 h3,QLl.2 h4,k3,k4,hin _ (k1 _ e1.1),hin _ (k1 _ e1.2.1),hin _ (k2 _ e2.1),hin _ (k2 _ e2.2.1)⟩
include hK
theorem Qem (p:Q6) (is:Bool) (hl:p.rods.length<=1000) (hx:p.reads.length<=1000) :
  Ev.Good Tryz.prog K 190 [puV p,.bool is] (.tup [puV p,VW (uT p is),.int .i64 (uE p is)]):=by
 refine Qb hK Qzq (by simp) ?_
 simp;refine cK (by simpa using Qtj hK p hl hx) ?_
 unfold uE uT;by_cases hp:OkU p
 ·have hgu:=hp.guess
  have hmo:=hp.most;simp only[inR] at hgu;cases is
  ·simp[hp,VW]
  ·have hln:=QaO hp
   simp[hp];refine cK (by simpa using Qvy hK p hp (by omega) hln) ?_
   by_cases hn:Yp p=[]
   ·have hb:=Qap.2 hn
    simp[hn,hb,VW]
   ·have hb:¬ Vm p=[]:=fun e=>hn (Qap.1 e)
    simp[hn,hb,VW]
    try omega
 ·simp[hp,VW]
theorem Qok (part b a:Int) (hpt:0<=part/\part<=1000) (hb:0<=b/\b<=99999) (ha:0<=a/\a<=99999):Ev.Good Tryz.prog K 248 [.int .i64 b,.int .i64 a,.ptr [.int .i64 part]] (.bool (Xl b a part)):=by
 refine Qb hK QyH (by simp) ?_
 have h1:=Qbm hpt.1 hpt.2 (show -99999<=b by omega) hb.2
 simp[Xl];omega
theorem Qoo (T:List Bun) (h:∀ x∈T,QFX x) (hn:T.length<=1000000):Ev.Good Tryz.prog K 191 [VW T] (.agg [.int .i64 (span (T.map loB)).1,.int .i64 (span (T.map hiB)).2]):=by
 refine Qb hK Qzp (by simp) ?_
 simp[VW];intros
 refine Qe (fun i=>[(2,AV.loc 2 0),(3,AV.loc 3 0),(9,AV.iv (.sl 8 (T.map U2))),(10,AV.iv (.int .i64 T.length)),(11,AV.iv (.int .i64 (i:Nat)))])
  (fun i=>[(2,AO.box [.iv (.int .i64 0),.iv (.int .i64 0)]),(3,AO.box [.iv (.int .i64 (span ((T.take i).map loB)).1),.iv (.int .i64 (span ((T.take i).map hiB)).2)])]) T.length (fun _=>True) trivial ?_ ?_
 ·intro _
  rw[Qa QjR.eq_1,QKn];simp
 ·intro i hi _ ih
  have hb:=h _ (QKj hi);rw[JR loB T i hi,JR hiB T i hi] at ih;rw[Qa QjR.eq_1];generalize hX:T[i]=X at *;obtain ⟨b1,b2,b3,b4,b5,b6,b7,b8⟩:=hb;have g1:=QaA b1;have g2:=QaA b2;have g3:=Qaz (show X.bef.lens.length-1<X.bef.lens.length by omega)
  have g4:=Qaz (show X.aft.lens.length-1<X.aft.lens.length by omega)
  have hlo:loB X=Xs X.aft.lens-Xi X.bef.lens:=rfl;have hhi:hiB X=Xi X.aft.lens-Xs X.bef.lens:=rfl;have q1:X.bef.lens.length-1<X.bef.lens.length:=by omega
  have q2:X.aft.lens.length-1<X.aft.lens.length:=by omega
  have q3:((X.bef.lens.length:Int)-1).toNat=X.bef.lens.length-1:=by omega
  have q4:((X.aft.lens.length:Int)-1).toNat=X.aft.lens.length-1:=by omega
  by_cases h0:i=0
  ·subst h0
   simp[hlo,hhi] at ih;simp[hi,hX,U2,b1,b2,g1,g2,g3,g4,q1,q2,q3,q4]
   grind
  ·have h0':¬ (i:Int)=0:=by omega
   rw[if_neg h0,if_neg h0] at ih;generalize span ((T.take i).map loB)=S1 at *;generalize span ((T.take i).map hiB)=S2 at *;simp[hlo,hhi,Vo,Un] at ih;simp[hi,hX,U2,b1,b2,g1,g2,g3,g4,q1,q2,q3,q4,h0,h0',Vo,Un]
   grind
theorem Qon (T:List Bun) (part:Int) (h:∀ x∈T,QFX x) (hpt:0<=part/\part<=1000) (hn:T.length<=1000000) :
  Ev.Good Tryz.prog K 192 [VW T,.int .i64 part] (.int .i64 (if T.all fun x=>Xl (Xs x.bef.lens) (Xi x.aft.lens) part then 1 else if T.any fun x=>Xl (Xi x.bef.lens) (Xs x.aft.lens) part then 3 else 2)):=by
 refine Qb hK Qzo (by simp) ?_
 generalize hR:(if T.all fun x=>Xl (Xs x.bef.lens) (Xi x.aft.lens) part then (1:Int) else if T.any fun x=>Xl (Xi x.bef.lens) (Xs x.aft.lens) part then 3 else 2)=R
 simp[VW];intros
 refine Qe (fun i=>[(3,AV.iv (.ptr [.int .i64 part])),(5,AV.iv (.bool ((T.take i).any fun x=>Xl (Xi x.bef.lens) (Xs x.aft.lens) part))),(6,AV.iv (.bool (!(T.take i).all fun x=>Xl (Xs x.bef.lens) (Xi x.aft.lens) part))),(12,AV.iv (.sl 8 (T.map U2))),(13,AV.iv (.int .i64 T.length)),(14,AV.iv (.int .i64 (i:Nat)))])
  (fun i=>[]) T.length (fun _=>True) trivial ?_ ?_
 ·intro _
  rw[Qa QjQ.eq_1,QKn];cases hA:(T.all fun x=>Xl (Xs x.bef.lens) (Xi x.aft.lens) part)<;>cases hE:(T.any fun x=>Xl (Xi x.bef.lens) (Xs x.aft.lens) part)<;>simp[hA,hE] at hR<;>simp[hR]
 ·intro i hi _ ih
  have hb:=h _ (QKj hi);rw[QKf hi,List.any_append,List.all_append] at ih;rw[Qa QjQ.eq_1];generalize hX:T[i]=X at *;obtain ⟨b1,b2,b3,b4,b5,b6,b7,b8⟩:=hb;have g1:=QaA b1;have g2:=QaA b2;have g3:=Qaz (show X.bef.lens.length-1<X.bef.lens.length by omega)
  have g4:=Qaz (show X.aft.lens.length-1<X.aft.lens.length by omega)
  have q1:X.bef.lens.length-1<X.bef.lens.length:=by omega
  have q2:X.aft.lens.length-1<X.aft.lens.length:=by omega
  have q3:((X.bef.lens.length:Int)-1).toNat=X.bef.lens.length-1:=by omega
  have q4:((X.aft.lens.length:Int)-1).toNat=X.aft.lens.length-1:=by omega
  have w1:=Qok hK part _ _ hpt b6 b7;have w2:=Qok hK part _ _ hpt b5 b8;generalize ((T.take i).any fun x=>Xl (Xi x.bef.lens) (Xs x.aft.lens) part)=e1 at *
  generalize ((T.take i).all fun x=>Xl (Xs x.bef.lens) (Xi x.aft.lens) part)=e2 at *
  have k1:(([X]:List Bun).any fun x=>Xl (Xi x.bef.lens) (Xs x.aft.lens) part)=Xl (Xi X.bef.lens) (Xs X.aft.lens) part:=by simp
  have k2:(([X]:List Bun).all fun x=>Xl (Xs x.bef.lens) (Xi x.aft.lens) part)=Xl (Xs X.bef.lens) (Xi X.aft.lens) part:=by simp
  rw[k1,k2] at ih;generalize Xl (Xi X.bef.lens) (Xs X.aft.lens) part=v1 at *;generalize Xl (Xs X.bef.lens) (Xi X.aft.lens) part=v2 at *;have hcal:callee Tryz.prog 248=true:=by kernel_rfl
  have o1:(-9223372036854775808<=(X.bef.lens.length:Int)-1/\(X.bef.lens.length:Int)-1<=9223372036854775807)/\1<=(X.bef.lens.length:Int):=by omega
  have o2:(-9223372036854775808<=(X.aft.lens.length:Int)-1/\(X.aft.lens.length:Int)-1<=9223372036854775807)/\1<=(X.aft.lens.length:Int):=by omega
  cases e1<;>cases e2
  ·simp at ih
   simp[hi,hX,U2,b1,b2,g1,g2,g3,g4,q1,q2,q3,q4];intro _;refine ⟨o1.1,o1.2,hcal,cK (by simpa using w1) ?_⟩
   simp
   grind
  ·simp at ih
   simp[hi,hX,U2,b1,b2,g1,g2,g3,g4,q1,q2,q3,q4];intro _;refine ⟨o1.1,o1.2,hcal,cK (by simpa using w1) ?_⟩
   simp[b1,b2,g1,g2,g3,g4,q1,q2,q3,q4];intro _;refine ⟨o2.1,o2.2,hcal,cK (by simpa using w2) ?_⟩
   simp
   grind
  ·simp at ih
   simp[hi,hX,U2,b1,b2,g1,g2,g3,g4,q1,q2,q3,q4]
   grind
  ·simp at ih
   simp[hi,hX,U2,b1,b2,g1,g2,g3,g4,q1,q2,q3,q4];intro _;refine ⟨o2.1,o2.2,hcal,cK (by simpa using w2) ?_⟩
   simp
   grind
theorem QwK (p:Q6) (hl:p.rods.length<=1000) (hx:p.reads.length<=1000):Ev.Good Tryz.prog K 110 [puV p] (.tup [.agg [.int .i64 (span ((uL p true).map Yv)).1,.int .i64 (span ((uL p true).map Yv)).2],.int .i64 (uE p true)]):=by
 refine Qb hK QAu (by simp) ?_
 simp;refine cK (by simpa using Qem hK p true hl hx) ?_
 simp;by_cases hp:OkU p
 ·have hT:uT p true=Vm p:=by simp[uT,hp]
  have hL:uL p true=Yp p:=by simp[uL,hp]
  have hs:=QaR p;rw[hT,hL,<- hs];refine cK (Qoo hK (Vm p) (fun x hx=>QEW hp hx) (QaO hp)) ?_
  simp[QdH]
 ·have hT:uT p true=[]:=by simp[uT,hp]
  have hL:uL p true=[]:=by simp[uL,hp]
  rw[hT,hL];refine cK (Qoo hK [] (by simp) (by simp)) ?_
  simp
theorem QwI (p:Q6) (part:Int) (hl:p.rods.length<=1000) (hx:p.reads.length<=1000):Ev.Good Tryz.prog K 114 [puV p,.int .i64 part] (.tup [.int .i64 (VF p part),.int .i64 (uE p (Wi part))]):=by
 refine Qb hK QAs (by simp) ?_
 simp;refine cK (JI hK _ _ _) ?_;have hpd:decide (inR part 0 1000)=Wi part:=rfl;rw[hpd];simp;refine cK (by simpa using Qem hK p (Wi part) hl hx) ?_
 unfold VF;by_cases h0:uE p (Wi part)=0
 ·obtain ⟨hp,hb,hL,hne⟩:=UB h0
  have hpt:=of_decide_eq_true hb;simp only[inR] at hpt;have hT:uT p (Wi part)=Vm p:=by simp[uT,hp,hb]
  have hg:=Qon hK (Vm p) part (fun x hx=>QEW hp hx) hpt (QaO hp)
  have hh:=Qgf p part hpt.1;unfold Qc7 at hh;rw[<- hh] at hg;rw[hT];simp[h0];refine cK (by simpa using hg) ?_
  simp
 ·simp[h0]
theorem QwJ (p:Q6) (hl:p.rods.length<=1000) (hx:p.reads.length<=1000):Ev.Good Tryz.prog K 112 [puV p] (.tup [.int .i64 (Wf p).1,.int .i64 (Wf p).2]):=by
 refine Qb hK QAt (by simp) ?_
 simp;refine cK (by simpa using Qem hK p true hl hx) ?_
 unfold Wf;by_cases h0:uE p true=0
 ·obtain ⟨hp,hb,hL,hne⟩:=UB h0
  have hT:uT p true=Vm p:=by simp[uT,hp]
  rw[hT];simp[h0];refine Qe (fun i=>[(5,AV.iv (VW (Vm p))),(17,AV.iv (.int .i64 (i:Nat)))]) (fun _=>[]) 1001 (fun i=>∀ j,j<i->¬ Vp (Yp p) (j:Nat)=1) (by simp) ?_ ?_
  ·intro h
   have hn:Qah (Yp p)=none:=by
    unfold Qah
    grind
   rw[Qa Qke.eq_1];simp[hn]
  ·intro i hi h ih
   have hg:=Qon hK (Vm p) (i:Nat) (fun x hx=>QEW hp hx) (by omega) (QaO hp)
   have hh0:=Qgf p (i:Nat) (by omega)
   unfold Qc7 at hh0;rw[<- hh0] at hg;rw[Qa Qke.eq_1];have hi':(i:Int)<1001:=by omega
   simp[hi,hi'];refine cK (by simpa using hg) ?_
   by_cases hh:Vp (Yp p) (i:Nat)=1
   ·have hs:Qah (Yp p)=some i:=by
     unfold Qah;rw[QLK];exact ⟨by simp[hh],i,by simpa using hi,by simp,fun j hj=>by simpa using h j hj⟩
    simp[hh,hs]
   ·have ih:=ih (fun j hj=>by
     grind)
    simp[hh] at ih |-
    grind
 ·simp[h0]
theorem Qvx (l:List Int) (hw:∀ x∈l,-1000000<=x/\x<=1000000) (hl:l.length<=1000000):Ev.Good Tryz.prog K 249 [.map (Qaf (XY l))] (Qt (Y0 l)):=by
 refine Qb hK QyG (by simp) ?_
 simp;refine cK (by simpa using Qh9 hK (Qaf (XY l))) ?_
 simp;refine cK (qm l hw hl) ?_;simp
theorem Qv6 (T:List Bun) (rod:Nat) (hr:rod<4) (hw:∀ x∈T,0<=x.rods.getD rod 0/\x.rods.getD rod 0<=9999) (hn:T.length<=1000000):Ev.Good Tryz.prog K 193 [VW T,.int .i64 (rod:Nat)] (Qt (Y0 (T.map fun x=>x.rods.getD rod 0))):=by
 refine Qb hK Qzn (by simp) ?_
 have h249:=Qvx hK (T.map fun x=>x.rods.getD rod 0) (fun x hx=>by
  grind) (by simpa using hn)
 simp[VW];intros
 refine Qe (fun i=>[(1,AV.iv (.int .i64 (rod:Nat))),(5,AV.oref 8),(9,AV.iv (.sl 8 (T.map U2))),(10,AV.iv (.int .i64 T.length)),(11,AV.iv (.int .i64 (i:Nat)))])
  (fun i=>[(8,AO.mapd (Qaf (XY ((T.take i).map fun x=>x.rods.getD rod 0))))]) T.length (fun _=>True) trivial ?_ ?_
 ·intro _
  rw[Qa QjP.eq_1,QKn];simp;refine cK (by simpa using h249) ?_
  simp
 ·intro i hi _ ih
  have hb:=hw _ (QKj hi);have hdp:=Qlw T[i].rods rod hr;rw[QKf hi,QKy,QLf,XU] at ih;have hle:=Qex (T[i].rods.getD rod 0) ((T.take i).map fun x=>x.rods.getD rod 0)
  have hkk:=YD (XY ((T.take i).map fun x=>x.rods.getD rod 0))
  have hf:=JJ (T[i].rods.getD rod 0) (XY ((T.take i).map fun x=>x.rods.getD rod 0))
  have hi2:=WI (T[i].rods.getD rod 0) (XY ((T.take i).map fun x=>x.rods.getD rod 0))
  have hlen:((T.take i).map fun x=>x.rods.getD rod 0).length<=1000000:=by simp;omega
  rw[Qa QjP.eq_1];generalize XY ((T.take i).map fun x=>x.rods.getD rod 0)=kv at *
  generalize hX:T[i]=X at *;simp only[List.getD_eq_getElem?_getD] at hf hi2 hle ih hb;clear hdp;rw[QKz,List.length_take] at hle;rcases (show rod=0\/rod=1\/rod=2\/rod=3 by omega) with rfl | rfl | rfl | rfl
  all_goals
   simp at ih;simp[hi,hX,U2,hkk,hf,hi2]
   repeat' first | omega | exact ih | intro _ | apply And.intro
theorem QwH (p:Q6) (rod:Int) (hl:p.rods.length<=1000) (hx:p.reads.length<=1000):Ev.Good Tryz.prog K 116 [puV p,.int .i64 rod] (.tup [Qt (QdX p rod),.int .i64 (uE p (Ql9 p rod))]):=by
 refine Qb hK QAr (by simp) ?_
 simp;intro _;refine ⟨by omega,cK (JI hK _ _ _) ?_⟩
 have hpd:decide (inR rod 0 ((p.rods.length:Int)-1))=Ql9 p rod:=rfl;rw[hpd];simp;refine cK (by simpa using Qem hK p (Ql9 p rod) hl hx) ?_
 unfold QdX;by_cases h0:uE p (Ql9 p rod)=0
 ·obtain ⟨hp,hb,hL,hne⟩:=UB h0
  have hpt:=of_decide_eq_true hb;simp only[inR] at hpt;have hlt:rod.toNat<p.rods.length:=by omega
  have hT:uT p (Ql9 p rod)=Vm p:=by simp[uT,hp,hb]
  have hro:((rod.toNat:Nat):Int)=rod:=by omega
  have hgd:p.rods.getD rod.toNat ⟨0,0,0⟩=p.rods[rod.toNat]:=by simp[hlt]
  have hbd:∀ w∈ZR p.rods,0<=w.getD rod.toNat 0/\w.getD rod.toNat 0<=9999:=fun w hw=>by
   obtain ⟨h1,h2⟩:=QaJ hp hw;have hl2:rod.toNat<w.length:=by omega
   have:w.getD rod.toNat 0=w[rod.toNat]:=by simp[hl2]
   rw[this];exact h2 _ (QKj hl2)
  have hg:=Qv6 hK (Vm p) rod.toNat (by have:=hp.rlen;omega) (fun x hx=>hbd _ (Wl.1 hx).1) (QaO hp)
  have he:Z1 (Ue (Yp p) rod.toNat) (p.rods[rod.toNat].long-p.rods[rod.toNat].wear) p.rods[rod.toNat].long=Y0 ((Vm p).map fun x=>x.rods.getD rod.toNat 0):=by
   refine Qhu (Vy _ _ _) (Jz _) fun x=>?_
   have hm:=Qnz (p:=p) (rod:=rod.toNat) (n:=x);unfold Qt8 at hm;rw[hm,JS];simp only[Ue,QKt];constructor
   ·grind
   ·rintro ⟨t,ht,rfl⟩
    have hw:=(Qd5.1 ht).2.2.1;have:=Qdw _ _ hw rod.toNat hlt
    grind
  rw[hro] at hg;rw[hT,if_pos h0,hgd,he];simp[h0];refine cK (by simpa using hg) ?_
  simp
 ·simp[h0]
omit hK
def Qcr (c:Qk) (ss:List Xo) (i:Nat):Nat:=((List.range i).map fun n=>QL c.deeds ss (Zs c.deeds n)).foldl min ss.length
theorem Qde (c:Qk) (ss:List Xo) (i:Nat):Qcr c ss (i+1)=min (Qcr c ss i) (QL c.deeds ss (Zs c.deeds i)):=by
 unfold Qcr;rw[QKU,QKy,QLh];rfl
def Qlo (c:Qk) (ss:List Xo):Nat:=Qcr c ss (2 ^ Zy c.deeds)
theorem Qln (c:Qk) (ss:List Xo):∀ i,Qcr c ss i<=ss.length
 | 0=>QKl _
 | i+1=>by
   rw[Qde];exact QKK (Nat.min_le_left _ _) (Qln c ss i)
def Ut (c:Qk):Option Nat:=(List.range c.sights.length).find? fun i=>decide (0<Qlo c (c.sights.take (i+1)))
noncomputable def Yr (c:Qk):Int × Int:=if OkC c then (match Ut c with | some n=>((n:Int),0) | none=>(0,3)) else (0,20)
include hK
theorem Qwg (c:Qk) (hc:OkC c) (ss:List Xo) (hs:∀ s∈ss,ZV s c.deeds) (hl:ss.length<=1000):Ev.Good Tryz.prog K 167 [.agg (VX c),Qh ss] (.int .i64 (Qlo c ss:Nat)):=by
 refine Qb hK QzM (by simp) ?_
 have hit:=QnP hK c (pmC c) (by have:=hc.len;have:=UC c.deeds;omega) (Qkv hK c hc)
 have hcl:=hc.len;unfold Qlo;generalize 2 ^ Zy c.deeds=N at *;simp;intros;refine Zb (wy:=.fall) (o':=[(5,.box [.iv (.int .i64 (Qcr c ss N:Nat))])]) rfl (by kernel_rfl) hit ?_ ?_
 ·have:=Uz.all (P:=Tryz.prog) (K:=K) (ps:=[11]) (asn:=QeS) (body:=QjZ) (ks:=[3,5]) (ids:=[5]) (eK:=[(3,.iv (.ptr [Qh ss])),(5,.loc 5 0)]) ((List.range N).map (XK c.deeds (pmC c)))
   (fun i=>[(5,.box [.iv (.int .i64 (Qcr c ss i:Nat))])]) fun i x hi=>by
   simp only[QKp,QKm] at hi;obtain ⟨y,hy,rfl⟩:=hi;obtain ⟨hlt,hy⟩:=QKh.1 hy;rw[List.getElem_range] at hy;subst hy;have hg:=Qol hK c.deeds (Zs c.deeds i) (pmC c i) ss hc.deeds (by omega) hs hl
   have hle:=Qln c ss i;have hle2:=W2 c.deeds ss (Zs c.deeds i);refine ⟨rfl,?_⟩;rw[Qde];generalize Qcr c ss i=m at *;simp[XK,QeS,QjZ];refine QS (by simpa using hg) (.inl rfl) ?_
   simp
   try omega
  simpa[Qcr] using this
 ·simp
theorem QBN (c:Qk) (hl:c.deeds.length<=1000) (hs:c.sights.length<=1000):Ev.Good Tryz.prog K 86 [chV c] (.tup [.int .i64 (Yr c).1,.int .i64 (Yr c).2]):=by
 refine Qb hK QCy (by simp) ?_
 simp;refine QS (by simpa using Qgm hK c hl hs) (.inl rfl) ?_
 unfold Yr;by_cases hc:OkC c
 ·simp[hc]
  refine QS (by simpa using Qic hK c hl) (.inl rfl) ?_
  simp;intros
  refine Qe (fun i=>[(1,AV.iv (.ptr [Qp c.deeds,Qh c.sights,.int .i64 c.wrong])),(5,AV.loc 5 0),(16,AV.iv (.int .i64 c.sights.length)),(17,AV.iv (.int .i64 (i:Nat)))])
   (fun _=>[(5,AO.box ((VX c).map AV.iv))]) c.sights.length (fun i=>∀ j,j<i->¬ 0<Qlo c (c.sights.take (j+1))) (by simp) ?_ ?_
  ·intro h
   have hn:Ut c=none:=by
    unfold Ut;rw[List.find?_eq_none];intro j hj;simpa using h j (by simpa using hj)
   rw[Qa Qpp.eq_1];simp[hn]
  ·intro i hi h ih
   have hg:=Qwg hK c hc (c.sights.take (i+1)) (fun s hs=>hc.sights s (QKS hs)) (by simp;omega)
   rw[Qa Qpp.eq_1];simp[hi];refine ⟨by omega,by omega,fun _=>?_⟩
   refine QS (by simpa[VX,QLQ] using hg) (.inl rfl) ?_
   by_cases hh:0<Qlo c (c.sights.take (i+1))
   ·have hs:Ut c=some i:=by
     unfold Ut;rw[QLK];exact ⟨by simpa using hh,i,by simpa using hi,by simp,fun j hj=>by simpa using h j hj⟩
    simp[hh,hs]
   ·have ih:=ih (fun j hj=>by
     rcases Nat.lt_succ_iff_lt_or_eq.1 hj with h5 | h5
     ·exact h j h5
     ·rw[h5];exact hh)
    simp[hh] at ih |-;exact ⟨by omega,ih⟩
 ·simp[hc]
end Go.Pf
