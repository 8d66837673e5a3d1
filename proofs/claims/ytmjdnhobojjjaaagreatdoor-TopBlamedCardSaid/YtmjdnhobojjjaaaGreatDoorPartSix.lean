/- The example of a loss: its causes. -/
import Derived.Test.YtmjdnhobojjjaaaGreatDoorPartFive
import Derived.Test.YtmjdnhobojjjaaaGreatDoorPartFour
set_option linter.all false
namespace Go.Pf
open Go Go.Ev Go.Proofs Go.RowKit
variable {K:World->Prop} (hK:∀ w w',K w->Below w.heap.size w w'->K w')
set_option maxRecDepth 8000
def QiA:Qj:=⟨exD,[],0⟩
def Qk8:Sea:=⟨100,40,[(1,2),(0,1)],1,1,[(0,6),(1,10)],[(1,91,2)],0⟩
def exL:QJ:=⟨QiA,Qk8,30,34,0,10,32,32,5,[(5,2),(-1,-1)],1,-1⟩
def Qsf (l:QJ) (c:Sea) (n:Int):List Int:=if wTr (XW c n)≠[]/\¬ (0<=l.pth/\Qnn (XW c n)≠l.pth) then [QnW (XW c n)] else []
def Qte (l:QJ):Nat->Sea->Nat->List Int
 | 0,c,_=>(Q9 c.wlo c.whi).flatMap (Qsf l c)
 | k+1,c,w=>(Q9 (c.waters.getD w (0,0)).1 (c.waters.getD w (0,0)).2).flatMap fun n=>Qte l k (Wq c w n) (w+1)
theorem Qmy {c:Sea} (hc:Qf c):tW c true=0↔wTr c≠[]:=by
 unfold tW
 grind
theorem V6 {f g:Int->List Int}:∀ l:List Int,(∀ x∈l,f x=g x)->l.flatMap f=l.flatMap g
 | [],_=>rfl
 | a::r,h=>by
   rw[Qz4,Qz4,h a (by simp),V6 r fun x hx=>h x (by simp[hx])]
theorem QfE (l:QJ):∀ (k:Nat) (c:Sea) (w:Nat),w+k=c.waters.length->Qf c->X2 l k c w=Qte l k c w
 | 0,c,w,_,hc=>V6 _ fun n hn=>by
   have h1:=YJ hn;have h2:=Qmy (QhA hc h1.1 h1.2);unfold WX Qsf;simp only[h2]
 | k+1,c,w,hw,hc=>V6 _ fun n hn=>by
   have hw':w<c.waters.length:=by omega
   have hge:c.waters.getD w (0,0)=c.waters[w]:=by simp[hw']
   rw[hge] at hn;have h1:=YJ hn;exact QfE l k _ _ (by simp[Wq];omega) (Qcf hc hw' h1.1 h1.2)
theorem Qip (l:QJ) (hc:Qf l.sea):Zd l=if wTr (Qfa l.sea)≠[] then loD ((wTr (Qfa l.sea)).map fun w=>Ze (Qfa l.sea) (QH (Qfa l.sea) w 0)) else 0:=by
 unfold Zd;simp only[Qmy (Qr6 hc)]
theorem Qbd:Qf Qk8:=by
 refine ⟨by decide,by decide,by decide,by decide,by decide,by decide,by decide,by decide,by decide,by decide⟩
theorem Qo8:OkC QiA:=by
 refine ⟨by decide,by decide,by decide,fun i h _=>?_,fun s hs=>by simp[QiA] at hs⟩
 have all:∀ i<6,QY (QiA.deeds.getD i d0) (cnt QiA.deeds i):=by decide
 have:=all i h
 grind
theorem Qtd:OkL exL:=⟨Qo8,Qbd,by decide,by decide,by decide,by decide,by decide,by decide,by decide,by decide,by decide⟩
theorem Qo4:JE exL=[33,26]:=by
 unfold JE;rw[QfE exL exL.sea.waters.length exL.sea 0 (by decide) Qbd]
 decide +kernel
theorem Qk7:Zd exL=40:=by
 rw[Qip exL Qbd];decide +kernel
theorem QcB:(QT exL).map (·.cause)=[1,1,1,1]++(List.replicate 18 [1,2]).flatten:=by
 unfold QT ZQ;rw[Qo4,Qk7];decide +kernel
theorem Qix:JD ([1,1,1,1]++(List.replicate 18 [1,2]).flatten)=List.replicate 22 1++List.replicate 18 2:=by
 have h:([1,1,1,1]++(List.replicate 18 [1,2]).flatten:List Int).Perm (List.replicate 22 1++List.replicate 18 2):=by
  rw[<- List.isPerm_iff];decide +kernel
 rw[qR h];refine List.mergeSort_of_pairwise ?_;decide +kernel
theorem Qiz:ZN exL=[1,2]:=by
 unfold ZN Qbj;rw[QcB,Qix];decide +kernel
def UM:Qj:={ QiA with deeds:=QiA.deeds.set 4 ⟨2,0,0,0,0⟩ }
theorem Qfu:OkC UM:=by
 refine ⟨by decide,by decide,by decide,fun i h _=>?_,fun s hs=>by simp[UM,QiA] at hs⟩
 have all:∀ i<6,QY (UM.deeds.getD i d0) (cnt UM.deeds i):=by decide
 have:=all i h
 grind
theorem Qo7:UM∈QQ QiA:=by
 unfold QQ;refine QAo.2 ⟨QzI.2 ⟨UM.deeds,by decide +kernel,rfl⟩,decide_eq_true ?_⟩
 unfold YF;have h:=Qf5 UM Qfu (by decide) rfl
 simp[Qfu,h]
theorem QnV {α:Type} [DecidableEq α] (l:List (α × Nat)) (x:α):QbB l x≠[]:=by
 cases l with
 | nil=>simp[QbB]
 | cons p r=>unfold QbB;split<;>simp
theorem Qpi {α:Type} [DecidableEq α] {l:List α} (h:l≠[]):UO l≠[]:=by
 obtain ⟨L,b,rfl⟩:∃ L b,l=L++[b]:=⟨_,_,(List.dropLast_concat_getLast h).symm⟩
 rw[Jn];exact QnV _ _
theorem Qo6:JW UM exL.marks ((0:Nat):Int) 1:=fun i h=>by
 have all:∀ i:Nat,(h:i<exL.marks.length)->QgL UM (((0:Nat):Int)+1*(i:Nat)) exL.marks[i]=true:=by decide +kernel
 exact all i h
theorem Qk6:spN exL≠[]:=by
 refine Qpi (List.ne_nil_of_mem (a:=Y1 UM (((0:Nat):Int)+1*exL.broke)) ?_);refine QzP.2 ⟨UM,Qo7,QzP.2 ⟨0,by decide +kernel,?_⟩⟩
 simp[qz,Wh,show JW UM exL.marks 0 1 from Qo6]
theorem Qo5:tLs exL true=0:=by
 have h:QT exL≠[]:=fun e=>by
  have:=QcB;rw[e] at this;exact absurd this (by decide +kernel)
 simp[tLs,Qtd,Qk6,h]
include hK
theorem QsG:Ev.Good Tryz.prog K 62 [] (.tup [chV QiA,.agg [.int .i64 6,.int .i64 1,.int .i64 0,.int .i64 6,.int .i64 (-1)],.agg [.int .i64 6,.int .i64 0,.int .i64 0,.int .i64 (-1),.int .i64 1]]) :=
 Qa6 (xs:=[]) hK (QnZ hK) (by simp[Qk9,Qc,QiA,Qzt,imm,imms,exD,emb])
theorem QsF:Ev.Good Tryz.prog K 63 [] (VQ Qk8):=by
 refine Qb hK QtL (by simp) ?_
 simp[Qk8]
theorem QsV:Ev.Good Tryz.prog K 32 [] (lsV exL):=by
 refine Qb hK Qt8 (by simp) ?_
 simp;refine cK (by simpa using QsG hK) ?_
 simp;refine cK (by simpa using QsF hK) ?_
 simp[exL]
theorem Qn2:Ev.Good Tryz.prog K 31 [lsV exL] (.tup [Q8 [1,2],.int .i64 0]):=by
 have h:=QsW hK exL (by decide) (by decide)
 rw[Qo5,Qiz] at h;simpa using h
omit hK
def QmI (m:Machine) (w mn ld:Int) (s:Qd):Bool:=decide (ld*den s<=num m s w mn)
noncomputable def Qvn (m:Machine) (w mn ld:Int):Int :=
 if (Xx m [] m.levers).countP (fun s=>!QmI m w mn ld s)=0 then 1 else if (Xx m [] m.levers).countP (QmI m w mn ld)=0 then 2 else 3
include hK
end Go.Pf
namespace Go.Pp
open Go Go.Ev Go.Proofs Go.RowKit
open Go.Pf (c13_ok c14_ok c16_ok c24_ok c44_ok)
def fit (s:W):Prop:=s.length<=1000/\((spl s).length<=9\/11<(spl s).length)
def Qc0 (s:W) (fs:List Int) (n:Int):Option Rd:=if 0<=n then (rs s fs)[n.toNat]? else none
def J2 (s:W) (fs:List Int) (n:Int):Int:=if err s fs≠0 then err s fs else if (Qc0 s fs n).isSome then 0 else 1
def cnt (fs:List Int) (r:Rd):Nat:=(tru fs).countP (val r)
theorem Qhn (s:W) (fs:List Int):(rs s fs).length<=323:=by
 unfold rs;split
 ·rename_i h
  exact Qb6 (by omega) h.2
 ·simp
theorem JX {fs:List Int} (h:Xq fs=true):fs.length<=6:=by
 simp[Xq] at h;exact h.2
theorem Qe0 {s:W} {fs:List Int} (h:err s fs≠0):rs s fs=[]:=by
 unfold err at h;split at h
 ·rename_i h1
  simp[rs,h1]
 ·split at h
  ·assumption
  ·exact absurd rfl h
theorem QcF {s:W} {fs:List Int} (h:err s fs=0):Xq fs=true/\(spl s).length<=9/\rs s fs≠[]:=by
 unfold err at h;split at h
 ·cases h
 ·split at h
  ·cases h
  ·rename_i h1 h2
   refine ⟨by simpa using h1,?_,h2⟩
   unfold rs at h2;split at h2
   ·rename_i h3;exact h3.2
   ·exact absurd rfl h2
theorem QmE {s:W} {fs:List Int} {r:Rd} (h:r∈rs s fs):err s fs=0:=by
 by_cases h1:err s fs=0
 ·exact h1
 ·rw[Qe0 h1] at h;cases h
theorem Qc6 {fs:List Int} (h:fs.length<=6):(tru fs).length<=64:=by
 have h1:=Qc7 fs fs.length;have h2:2 ^ fs.length<=2 ^ 6:=Qz0 (by omega) h
 unfold tru;omega
theorem QgX {fs:List Int} (h:fs.length<=6):∀ t∈tru fs,t<64:=by
 intro t ht;have h1:=QgZ fs fs.length t ht;have h2:2 ^ fs.length<=2 ^ 6:=Qz0 (by omega) h
 omega
theorem QaV {s:W} {fs:List Int} {n:Int} {r:Rd} (h:Qc0 s fs n=some r):r∈rs s fs/\0<=n/\∃ h:n.toNat<(rs s fs).length,(rs s fs)[n.toNat]=r:=by
 unfold Qc0 at h;split at h
 ·obtain ⟨h1,h2⟩:=Qzl.1 h
  exact ⟨h2▸Qzr h1,by assumption,h1,h2⟩
 ·cases h
theorem Qhs {s:W} {fs:List Int} {n:Int} (h:Qc0 s fs n=none):n<0\/((rs s fs).length:Int)<=n:=by
 unfold Qc0 at h;split at h
 ·have:=List.getElem?_eq_none_iff.1 h
  omega
 ·omega
def Qwz (s:W) (fs:List Int) (n:Int):IV:=.tup [.str (match Qc0 s fs n with | some r=>Qmw r | none=>[]),.int .i64 (J2 s fs n)]
def QwT (s:W) (fs:List Int) (n:Int):IV:=.tup [.int .i64 (match Qc0 s fs n with | some r=>(cnt fs r:Nat) | none=>0),.int .i64 (J2 s fs n)]
def ZW (fs:List Int) (r:Rd):Int:=QkM (cnt fs r:Nat) ((tru fs).length:Nat)
def meansV (s:W) (fs:List Int) (n:Int):IV:=.tup [.int .i64 (match Qc0 s fs n with | some r=>ZW fs r | none=>0),.int .i64 (J2 s fs n)]
theorem oneE_some {s:W} {fs:List Int} {n:Int} {r:Rd} (h:Qc0 s fs n=some r):J2 s fs n=0:=by
 have h1:=QmE (QaV h).1;simp[J2,h,h1]
theorem Qhx {s:W} {fs:List Int} {n:Int} (h:Qc0 s fs n=none):J2 s fs n≠0:=by
 unfold J2;split
 ·assumption
 ·simp[h]
section
variable {K:World->Prop} (hK:∀ w w',K w->Below w.heap.size w w'->K w')
include hK
variable (hS:∀ s:W,s.length<=1000->Ev.Good Tryz.prog K 71 [.str s,.str [32]] (strs (spl s)))
include hS
theorem good24 (s:W) (fs:List Int) (hs:fit s):Ev.Good Tryz.prog K 24 [Ux s fs] (.tup [.int .i64 ((rs s fs).length:Nat),.int .i64 (err s fs)]):=by
 refine Qb hK c24_ok (by simp) ?_
 simp;refine Qw (Qfn hK hS s fs hs.1 hs.2) (by simp) ?_
 by_cases h:err s fs=0
 ·simp[h,pap]
 ·simp[h,pap,Qe0 h]
theorem QsR (s:W) (fs:List Int) (n:Int) (hs:fit s):Ev.Good Tryz.prog K 44 [Ux s fs,.int .i64 n]
  (.tup (match Qc0 s fs n with | some r=>[.ptr [rds (rs s fs),QhE (tru fs)],enc r,.int .i64 0] | none=>[.nilp,.nilp,.int .i64 (J2 s fs n)])):=by
 refine Qb hK c44_ok (by simp) ?_
 simp;refine Qw (Qfn hK hS s fs hs.1 hs.2) (by simp) ?_
 by_cases h:err s fs=0
 ·have hl:=Qhn s fs
  cases hr:Qc0 s fs n with
  | some r =>
    obtain ⟨h1,h2,h3,h4⟩:=QaV hr;have h5:n<(rs s fs).length:=by omega
    have h6:¬ n<0:=by omega
    simp[h,pap,h2,h3,h4,h5,h6]
    all_goals (try omega)
  | none =>
    have h5:=Qhs hr;by_cases h6:n<0
    ·simp[h,pap,h6,J2,hr]
    ·have h7:((rs s fs).length:Int)<=n:=by omega
     have h8:0<=n:=by omega
     simp[h,pap,h6,h7,h8,J2,hr]
 ·have h1:=Qe0 h
  have h2:Qc0 s fs n=none:=by simp[Qc0,h1]
  simp[h,pap,h2,J2]
theorem good16 (s:W) (fs:List Int) (n:Int) (hs:fit s):Ev.Good Tryz.prog K 16 [Ux s fs,.int .i64 n] (meansV s fs n):=by
 refine Qb hK c16_ok (by simp) ?_
 simp;refine Qw (QsR hK hS s fs n hs) (by simp) ?_
 cases hr:Qc0 s fs n with
 | some r =>
   have hf:=JX (QcF (QmE (QaV hr).1)).1;simp[meansV,hr,oneE_some hr];refine Qw (QmZ hK (rds (rs s fs)) (tru fs) r (QgX hf) (Qc6 hf)) (by simp) ?_
   simp[ZW,cnt]
 | none=>simp[meansV,hr,Qhx hr]
end
open Go.Pf (c12_ok c15_ok c28_ok)
def Qmb (c:Rd->Nat) (L:List Rd):Nat->Nat
 | 0=>0
 | i+1=>match L[i]?,L[Qmb c L i]? with
   | some a,some b=>if c a<c b then i else Qmb c L i
   | _,_=>Qmb c L i
def Qvc (s:W) (fs:List Int):IV:=.tup [.int .i64 (Qmb (cnt fs) (rs s fs) (rs s fs).length:Nat),.int .i64 (err s fs)]
def Qd3 (fs:List Int):List Rd->Int
 | []=>0
 | r::L=>if (r::L).all (fun a=>decide (ZW fs a=ZW fs r)) then ZW fs r else 3
def courtV (s:W) (fs:List Int):IV:=.tup [.int .i64 (Qd3 fs (rs s fs)),.int .i64 (err s fs)]
def Qy2 (s:W) (fs:List Int):Bool:=decide (40<fs.length)||decide (100<s.length)||decide (9<(spl s).length)
def QwF (s:W) (fs:List Int):Bool:=!Qy2 s fs&&decide (err s fs=0)
section
variable {K:World->Prop} (hK:∀ w w',K w->Below w.heap.size w w'->K w')
include hK
theorem good28:Ev.Good Tryz.prog K 28 [] (Ux [110,111,116,32,97,32,97,110,100,32,98,32,111,114,32,99] [3,3,1]):=by
 refine Qb hK c28_ok (by simp) ?_
 simp
variable (hS:∀ s:W,s.length<=1000->Ev.Good Tryz.prog K 71 [.str s,.str [32]] (strs (spl s)))
include hS
theorem good15 (s:W) (fs:List Int) (hs:fit s):Ev.Good Tryz.prog K 15 [Ux s fs] (courtV s fs):=by
 refine Qb hK c15_ok (by simp) ?_
 simp;refine Qw (Qfn hK hS s fs hs.1 hs.2) (by simp) ?_
 by_cases h:err s fs=0
 ·have hl:=Qhn s fs
  have hc:=(QcF h).1;have hf:=JX hc;have hn:=(QcF h).2.2;have g55:=fun r=>QmZ hK (rds (rs s fs)) (tru fs) r (QgX hf) (Qc6 hf)
  simp only[courtV,pap,h,if_true];generalize rs s fs=L at *;obtain ⟨r0,L',rfl⟩:=QAi hn;simp;refine Qw (g55 r0) (by simp) ?_
  simp;intro _;change Q7 _ _ (FnF (Xi _ (IV.tup [.int .i64 (if (r0::L').all (fun a=>decide (ZW fs a=ZW fs r0)) then ZW fs r0 else 3),.int .i64 0]))) _ _ _ _ _ _
  have g55':∀ r,Ev.Good Tryz.prog K 43 [.ptr [rds (r0::L'),QhE (tru fs)],enc r] (.int .i64 (ZW fs r)):=g55
  have hm:QkM ↑(List.countP (val r0) (tru fs)) ↑(tru fs).length=ZW fs r0:=rfl;rw[hm];have hlen:((L'.length:Int)+1)=((r0::L').length:Nat):=by simp
  rw[hlen];have hmap:[IV.ptr (Qgz r0)]::List.map (fun r=>[IV.ptr (Qgz r)]) L'=(r0::L').map fun r=>[IV.ptr (Qgz r)]:=rfl
  rw[hmap];generalize r0::L'=L at *;refine Qu (fun i=>[(4,.iv (.ptr [rds L,QhE (tru fs)])),(6,.iv (.int .i64 (ZW fs r0))),(28,.iv (rds L)),(29,.iv (.int .i64 (L.length:Nat))),(30,.iv (.int .i64 (i:Nat)))]) (fun _=>[]) L.length (fun i=>∀ a∈L.take i,ZW fs a=ZW fs r0) (by simp) ?_ ?_
  ·intro hq
   rw[Qa Go.Pf.c15_b0.eq_1];simp at hq |-;exact fun x hx hne=>absurd (hq x hx) hne
  ·intro i hi hq ih
   rw[Qa Go.Pf.c15_b0.eq_1];simp[hi];refine Qw (g55' L[i]) (by simp) ?_
   simp;refine ⟨fun e=>?_,fun e=>⟨by omega,?_⟩⟩
   ·intro hall
    exact absurd (hall _ (Qzr hi)) e
   ·have:=ih fun a ha=>by
     rw[Qzn hi] at ha;rcases QzD.1 ha with c | c
     ·exact hq a c
     ·rw[QzK] at c;subst c;exact e
    simpa using this
 ·simp[h,pap,courtV,Qe0 h,Qd3]
end
open Go.Pf (c25_ok c59_b0 c59_ok)
def QhI (fs:List Int) (L:List Rd) (i:Nat):Bool:=(tru fs).any fun t=>L.any fun r=>val r t != val r (t ^^^ 2 ^ i)
def QkF (fs:List Int) (L:List Rd) (m:Nat):List Nat:=(List.range m).filter fun i=>decide (fs.getD i 0=3)&&QhI fs L i
def QkG (s:W) (fs:List Int):List Nat:=QkF fs (rs s fs) fs.length
def QuM (s:W) (fs:List Int):IV:=.tup [Yz (QkG s fs),.int .i64 (err s fs)]
def clash (L:List Rd) (t:Nat):Bool:=match L with | []=>false | r0::L'=>(r0::L').any fun r=>val r t != val r0 t
def YX (s:W) (fs:List Int):Option Nat:=(tru fs).find? (clash (rs s fs))
def YD (t n:Nat):List Nat:=(List.range n).map fun i=>(t.testBit i).toNat
def qh (s:W) (fs:List Int):Int:=if err s fs≠0 then err s fs else match YX s fs with | some _=>0 | none=>3
def Qfz (s:W) (fs:List Int):List Nat:=if err s fs≠0 then [] else match YX s fs with | some t=>YD t fs.length | none=>[]
def JI (s:W) (fs:List Int):IV:=.tup [Yz (Qfz s fs),.int .i64 (qh s fs)]
def clearV (s:W) (fs:List Int):IV:=.tup [.bool (decide (err s fs=0)&&(YX s fs).isNone),.int .i64 (err s fs)]
theorem Qpa (s:W) (fs:List Int):err s fs=0\/err s fs=130\/err s fs=131:=by
 unfold err;split
 ·exact .inr (.inl rfl)
 ·split
  ·exact .inr (.inr rfl)
  ·exact .inl rfl
@[simp] def ob4 (id:Nat) (M:List Nat):Qk:=[(id,AO.arr 3 1 (emb (M.map fun n=>[.int .i64 (n:Nat)])) 0)]
theorem Quk {K:World->Prop} {r:IV} (t:Nat) (fs:List Int) (ht:t<64) (hf:fs.length<=6) (kk:List AI)
  (h:Q7 Tryz.prog K (FnF (Xi [XY.tmp 2,XY.tmp 3] r)) c59_b0 [7,10,52,53] [10] kk
    [(7,.iv (.int .u64 t)),(10,.aref 10 (YD t fs.length).length),(52,.iv (.int .i64 (fs.length:Nat))),(53,.iv (.int .i64 (fs.length:Nat)))] (ob4 10 (YD t fs.length))) :
  Q7 Tryz.prog K (FnF (Xi [XY.tmp 2,XY.tmp 3] r)) c59_b0 [7,10,52,53] [10] kk
   [(7,.iv (.int .u64 t)),(10,.aref 10 0),(52,.iv (.int .i64 (fs.length:Nat))),(53,.iv (.int .i64 0))] (ob4 10 []):=by
 have:=VW (P:=Tryz.prog) (K:=K) (F:=FnF (Xi [XY.tmp 2,XY.tmp 3] r)) (c:=c59_b0) (ks:=[7,10,52,53]) (ids:=[10]) (k:=kk)
  (fun i=>[(7,.iv (.int .u64 t)),(10,.aref 10 (YD t i).length),(52,.iv (.int .i64 (fs.length:Nat))),(53,.iv (.int .i64 (i:Nat)))]) (fun i=>ob4 10 (YD t i)) fs.length h (fun i hi ih=>?_)
 ·simpa[YD] using this
 ·have e1:YD t (i+1)=YD t i++[(t.testBit i).toNat]:=by simp[YD,QAv]
  have e2:(YD t i).length=i:=by simp[YD]
  have e3:=QjU t i (by omega)
  have e4:=QbK (t.testBit i);have e5:IntKind.wrap .i64 (((t.testBit i).toNat:Nat):Int)=(t.testBit i).toNat:=wrap_i64 (by omega) (by omega)
  have hi':(i:Int)<fs.length:=by omega
  rw[e1] at ih;generalize YD t i=M at *;rw[Qa Go.Pf.c59_b0.eq_1];simp at ih;simp[hi',e3,e5];exact ⟨by omega,by omega,ih⟩
section
variable {K:World->Prop} (hK:∀ w w',K w->Below w.heap.size w w'->K w')
include hK
variable (hS:∀ s:W,s.length<=1000->Ev.Good Tryz.prog K 71 [.str s,.str [32]] (strs (spl s)))
include hS
theorem QsH (s:W) (fs:List Int) (hs:fit s):Ev.Good Tryz.prog K 59 [Ux s fs] (JI s fs):=by
 refine Qb hK c59_ok (by simp) ?_
 simp;refine Qw (Qfn hK hS s fs hs.1 hs.2) (by simp) ?_
 by_cases h:err s fs=0
 ·have hl:=Qhn s fs
  have hc:=(QcF h).1;have hf:=JX hc;have ht:=Qc6 hf;have hlt:=QgX hf;have hn:=(QcF h).2.2
  have dn:(∀ t∈tru fs,clash (rs s fs) t=false)->JI s fs=.tup [Yz [],.int .i64 3]:=by
   intro hd
   have:YX s fs=none:=by
    simp only[YX,List.find?_eq_none];intro t ht;simp[hd t ht]
   simp[JI,Qfz,qh,h,this]
  have ds:∀ j (hj:j<(tru fs).length),(∀ t∈(tru fs).take j,clash (rs s fs) t=false)->clash (rs s fs) (tru fs)[j]=true->JI s fs=.tup [Yz (YD (tru fs)[j] fs.length),.int .i64 0]:=by
   intro j hj hd hcl
   have:YX s fs=some (tru fs)[j]:=by
    have e1:tru fs=(tru fs).take j++(tru fs)[j]::(tru fs).drop (j+1):=by
     rw[List.getElem_cons_drop,List.take_append_drop]
    have e2:((tru fs).take j).find? (clash (rs s fs))=none:=by
     rw[List.find?_eq_none];intro t ht;simp[hd t ht]
    unfold YX
    conv=>lhs;rw[e1]
    rw[List.find?_append,e2,List.find?_cons,hcl];rfl
   simp[JI,Qfz,qh,h,this]
  generalize JI s fs=D at *;simp only[pap,h,if_true];generalize rs s fs=L at *;generalize tru fs=T at *;obtain ⟨r0,L',hL⟩:=QAi hn;have h0:0<L.length:=by subst hL;simp
  have hr0:L[0]=r0:=by subst hL;rfl
  have hcl:∀ t,clash L t=L.any fun r=>val r t != val r0 t:=fun t=>by subst hL;rfl
  simp;intro _
  refine Qu (fun j=>[(1,.iv (.ptr [.str s,Q8 fs])),(4,.iv (.ptr [rds L,QhE T])),(23,.iv (QhE T)),(24,.iv (.int .i64 (T.length:Nat))),(25,.iv (.int .i64 (j:Nat)))]) (fun _=>[]) T.length
   (fun j=>∀ t∈T.take j,clash L t=false) (by simp) ?_ ?_
  ·intro hq
   have:=dn (by simpa using hq)
   rw[Qa Go.Pf.c59_b2.eq_1];simp[this]
  ·intro j hj hq ihj
   rw[Qa Go.Pf.c59_b2.eq_1];simp[hj];intro _
   refine Qu (fun k=>[(1,.iv (.ptr [.str s,Q8 fs])),(4,.iv (.ptr [rds L,QhE T])),(7,.iv (.int .u64 (T[j]:Nat))),(23,.iv (QhE T)),(24,.iv (.int .i64 (T.length:Nat))),(25,.iv (.int .i64 (j:Nat))),(32,.iv (rds L)),(33,.iv (.int .i64 (L.length:Nat))),(34,.iv (.int .i64 (k:Nat)))]) (fun _=>[]) L.length
    (fun k=>∀ r∈L.take k,val r T[j]=val r0 T[j]) (by simp) ?_ ?_
   ·intro hqk
    simp at hqk
    have:=ihj fun t ht=>by
     rw[Qzn hj] at ht;rcases QzD.1 ht with c | c
     ·exact hq t c
     ·rw[QzK] at c
      subst c;rw[hcl];simpa using hqk
    rw[Qa Go.Pf.c59_b1.eq_1];simp at this |-;exact ⟨by omega,this⟩
   ·intro k hk hqk ihk
    have htj:=hlt _ (Qzr hj);rw[Qa Go.Pf.c59_b1.eq_1];simp[hk];refine Qw (Qh4 hK L[k] T[j] (by omega)) (by simp) ?_
    simp[h0,hr0];refine Qw (Qh4 hK r0 T[j] (by omega)) (by simp) ?_
    simp;refine ⟨fun e=>⟨by omega,?_⟩,fun e _=>?_⟩
    ·have:=ihk fun r hr=>by
      rw[Qzn hk] at hr;rcases QzD.1 hr with c | c
      ·exact hqk r c
      ·rw[QzK] at c;subst c;exact e
     simpa using this
    ·have hd:=ds j hj hq (by
      rw[hcl];simp only[List.any_eq_true];exact ⟨L[k],Qzr hk,by simpa using e⟩)
     rw[hd];refine Quk T[j] fs htj hf _ ?_;rw[Qa Go.Pf.c59_b0.eq_1];simp
 ·simp[h,pap,JI,Qfz,qh]
theorem good25 (s:W) (fs:List Int) (hs:fit s):Ev.Good Tryz.prog K 25 [Ux s fs] (clearV s fs):=by
 refine Qb hK c25_ok (by simp) ?_
 simp;refine Qw (QsH hK hS s fs hs) (by simp) ?_
 have he:=Qpa s fs;by_cases h:err s fs=0
 ·cases hd:YX s fs with
  | some t=>simp[JI,clearV,qh,h,hd]
  | none=>simp[JI,clearV,qh,h,hd]
 ·have h3:¬ err s fs=3:=by omega
  simp[JI,clearV,qh,h,h3]
omit hS
end
section
variable {K:World->Prop} (hK:∀ w w',K w->Below w.heap.size w w'->K w')
include hK
def QwB (s:W) (fs:List Int):List W:=(rs s fs).map Qmw
variable (hS:∀ s:W,s.length<=1000->Ev.Good Tryz.prog K 71 [.str s,.str [32]] (strs (spl s)))
include hS
end
def exW:W:=[110,111,116,32,97,32,97,110,100,32,98,32,111,114,32,99]
def exF:List Int:=[3,3,1]
def exT:W:=[40,40,110,111,116,32,40,97,32,97,110,100,32,98,41,41,32,111,114,32,99,41]
theorem ex_fit:fit exW:=by
 unfold fit;decide +kernel
theorem ex_err:err exW exF=0:=by decide +kernel
theorem ex_len:(rs exW exF).length=5:=by decide +kernel
theorem ex_means:(Qc0 exW exF 1).map (ZW exF)=some 2:=by decide +kernel
def Qvq (v:List Int):Nat->Nat
 | 0=>0
 | i+1=>Qvq v i+(v.getD i 0).toNat*2 ^ i
def Qvp (fs v:List Int):Bool:=decide (v.length=fs.length)&&v.all fun x=>decide (0<=x)&&decide (x<=1)
def Qzd (fs v:List Int):IV:=if Qvp fs v then .tup [.int .i64 (Qvq v v.length:Nat),.bool (decide (Qvq v v.length∈tru fs))] else .tup [.int .i64 0,.bool false]
section
variable {K:World->Prop} (hK:∀ w w',K w->Below w.heap.size w w'->K w')
include hK
variable (hS:∀ s:W,s.length<=1000->Ev.Good Tryz.prog K 71 [.str s,.str [32]] (strs (spl s)))
include hS
end
end Go.Pp
namespace Go.Pf
open Go Go.Ev Go.Proofs Go.RowKit
set_option maxRecDepth 8000
theorem Qai:tE exM true=0/\(tL exM true).length=2:=by
 have h:(Xx exM [] exM.levers).length=2:=by
  rw[Up];decide +kernel
 have hne:Xx exM [] exM.levers≠[]:=fun e=>by rw[e] at h;simp at h
 have h1:tE exM true=0:=by simp[tE,Qtc,hne]
 refine ⟨h1,?_⟩;rw[(Qrw h1).2.2.1];exact h
theorem Qiy:Go.Pp.meansV Go.Pp.exW Go.Pp.exF 1=.tup [.int .i64 2,.int .i64 0]:=by
 have h:=Go.Pp.ex_means;rw[Qzo] at h;obtain ⟨r,h1,h2⟩:=h;simp[Go.Pp.meansV,h1,h2,Go.Pp.oneE_some h1]
section
variable {K:World->Prop} (hK:∀ w w',K w->Below w.heap.size w w'->K w') (hS:∀ s:Go.Pp.W,s.length<=1000->Ev.Good Tryz.prog K 71 [.str s,.str [32]] (Go.Pp.strs (Go.Pp.spl s)))
include hK hS
theorem QvG:Ev.Good Tryz.prog K 8 [] (.bool true):=by
 refine Qb hK Qwb (by simp) ?_
 have g28:=Go.Pp.good28 hK;have g24:=Go.Pp.good24 hK hS Go.Pp.exW Go.Pp.exF Go.Pp.ex_fit;rw[Go.Pp.ex_len,Go.Pp.ex_err] at g24;have g16:=Go.Pp.good16 hK hS Go.Pp.exW Go.Pp.exF 1 Go.Pp.ex_fit;have g29:=QsY hK exM (by decide) (by decide) (fun _=>by decide +kernel)
 rw[Qai.1,Qai.2] at g29;simp;refine cK (by simpa using g28) ?_
 simp;refine cK (by simpa[Go.Pp.exW,Go.Pp.exF] using g24) ?_
 simp;refine cK (by simpa using g28) ?_
 simp;rw[Qiy] at g16;refine cK (by simpa[Go.Pp.exW,Go.Pp.exF] using g16) ?_
 simp;refine cK (by simpa using QsX hK) ?_
 simp;refine cK (by simpa using g29) ?_
 simp;refine cK (by simpa using QsV hK) ?_
 simp;refine cK (by simpa using Qn2 hK) ?_
 simp;refine cK (by simpa using Go.Pp.good33 hK [1,2] [1,2]) ?_
 simp
end
end Go.Pf
namespace Go.Pp
open Go Go.Ev Go.Proofs Go.RowKit
def wB:W:=[97,32,111,114,32,98,32,111,114,32,99,32,111,114,32,100]
theorem wB_fit:fit wB:=by
 unfold fit;decide +kernel
def vecs:List (List Int):=[[1,2,2,2],[2,1,2,2],[2,2,1,2],[2,2,2,1]] ++
 ([2,3].flatMap fun a=>[2,3].flatMap fun b=>[2,3].flatMap fun c=>[2,3].map fun d=>[a,b,c,d]).filter fun l=>decide (3∈l)
theorem vec_dec:∀ fs∈vecs,(rs wB fs).length=5/\err wB fs=0/\Qd3 fs (rs wB fs)=(if 1∈fs then 1 else 3)/\(YX wB fs).isNone=true:=by decide +kernel
end Go.Pp
namespace Go.Pf
open Go Go.Ev Go.Proofs Go.RowKit
set_option maxRecDepth 8000
theorem Jm (d:Array Int) (x:Int):∀ m,x∈Lib.compactUpTo d m↔∃ j,j<m/\d[j]! =x
 | 0=>by simp[Lib.compactUpTo]
 | m+1=>by
   rw[Lib.compactUpTo_succ,QzD,Jm d x m];constructor
   ·rintro (⟨j,h1,h2⟩ | h)
    ·exact ⟨j,by omega,h2⟩
    ·split at h
     ·simp only[QzK] at h
      exact ⟨m,by omega,h.symm⟩
     ·simp at h
   ·rintro ⟨j,h1,h2⟩
    by_cases hj:j<m
    ·exact .inl ⟨j,hj,h2⟩
    ·have hjm:j=m:=by omega
     subst hjm;by_cases hk:Lib.keeps d j=true
     ·simp[hk,h2]
     ·refine .inl ?_
      unfold Lib.keeps at hk;simp at hk;exact ⟨j-1,by omega,by rw[<- h2];exact hk.2.symm⟩
theorem QcN (x:Int) (l:List Int):x∈Qbj l↔x∈l:=by
 unfold Qbj Lib.compact;rw[Jm];have hp:x∈JD l↔x∈l:=(List.mergeSort_perm l _).mem_iff;rw[<- hp];constructor
 ·rintro ⟨j,h1,h2⟩
  have:(JD l)[j]=x:=by simpa[h1] using h2
  rw[<- this];exact Qzr h1
 ·intro h
  obtain ⟨j,h1,h2⟩:=QzV h;exact ⟨j,h1,by simpa[h1] using h2⟩
theorem Ql3 {l:QJ} {x:Int} (h:x∈ZN l):x=1\/x=2\/x=3\/x=4:=by
 unfold ZN at h;rw[QcN,QzI] at h;obtain ⟨e,he,rfl⟩:=h;unfold QT at he;simp only[QzP,evH,evF,QzD] at he
 have h1:∀ a:Evt,e∈J2 a->e=a:=fun a ha=>by
  unfold J2 at ha;split at ha
  ·simpa using ha
  ·simp at ha
 obtain ⟨_,_,f,_,(he | he) | he⟩:=he
 ·exact .inl (congrArg Evt.cause (h1 _ he))
 ·exact .inr (.inl (congrArg Evt.cause (h1 _ he)))
 ·rw[h1 _ he]
  simp only;split<;>omega
theorem Qje {l:QJ} (h:QT l≠[]):ZN l≠[]:=by
 obtain ⟨e,r,he⟩:=QAi h
 have:e.cause∈ZN l:=by
  unfold ZN;rw[QcN,he];simp
 exact List.ne_nil_of_mem this
noncomputable def Z1 (l:QJ):Nat->List Int
 | 0=>[]
 | i+1=>Z1 l i++[Y0 l ((i:Int)+1)]
theorem Qiw {l:QJ} (h:QT l≠[]):Z1 l 4∈Go.Pp.vecs:=by
 have hne:=Qje h;have hin:=fun x=>Ql3 (l:=l) (x:=x)
 have e:Z1 l 4=[Y0 l 1,Y0 l 2,Y0 l 3,Y0 l 4]:=by simp[Z1]
 rw[e];unfold Y0;generalize ZN l=C at *;by_cases h1:C.length=1
 ·obtain ⟨x,rfl⟩:=List.length_eq_one_iff.1 h1
  have hx:=hin x (by simp)
  rcases hx with rfl | rfl | rfl | rfl
  all_goals
   simp only[QzK,List.length_singleton,if_true];decide +kernel
 ·simp only[h1,if_false]
  have hm:(1:Int)∈C\/(2:Int)∈C\/(3:Int)∈C\/(4:Int)∈C:=by
   obtain ⟨y,r,rfl⟩:=QAi hne;have hy:=hin y (by simp)
   rcases hy with rfl | rfl | rfl | rfl<;>simp
  by_cases a:(1:Int)∈C<;>by_cases b:(2:Int)∈C<;>by_cases c:(3:Int)∈C<;>by_cases d:(4:Int)∈C
  all_goals first | (simp only[a,b,c,d,if_true,if_false];decide +kernel) | (rcases hm with hm | hm | hm | hm<;>contradiction)
noncomputable def QbI (l:QJ):Nat->Int
 | 0=>3
 | i+1=>if Y0 l ((i:Int)+1)=1 then 1 else QbI l i
theorem QgU (l:QJ):∀ i,QbI l i=if (1:Int)∈Z1 l i then 1 else 3
 | 0=>by simp[QbI,Z1]
 | i+1=>by
   rw[QbI,QgU l i,Z1];by_cases h:Y0 l ((i:Int)+1)=1
   ·simp[h]
   ·have h':¬ 1=Y0 l ((i:Int)+1):=fun q=>h q.symm
    simp[h,h']
theorem V9 (l:QJ):∀ i,(Z1 l i).length=i
 | 0=>rfl
 | i+1=>by simp[Z1,V9 l i]
theorem Qg4 {l:QJ} (hl:OkL l):tLs l true=if XI l=[]\/Zs l=[] then 3 else 0:=by
 unfold tLs;simp only[hl,if_true,Qg9 hl,Qgr hl]
section
variable {K:World->Prop} (hK:∀ w w',K w->Below w.heap.size w w'->K w') (hS:∀ s:Go.Pp.W,s.length<=1000->Ev.Good Tryz.prog K 71 [.str s,.str [32]] (Go.Pp.strs (Go.Pp.spl s)))
include hK hS
theorem QvH (l:QJ):Ev.Good Tryz.prog K 4 [lsV l] (.bool true):=by
 refine Qb hK Qwg (by simp) ?_
 have g8:=QvG hK hS;have g19:=Qs2 hK l;simp;refine cK (by simpa using g19) ?_
 by_cases h1:Qm0 l
 ·simp[h1]
  exact cK g8 (by simp)
 have hc40:l.chain.deeds.length<=40/\l.chain.sights.length<=40:=by
  have:¬ Qkd l.chain:=fun h=>h1 (.inl h)
  unfold Qkd at this;omega
 have hs40:l.sea.waters.length<=40/\l.sea.voys.length<=40/\l.sea.gauges.length<=40:=by
  have:¬ QgO l.sea:=fun h=>h1 (.inr (.inl h))
  unfold QgO at this;omega
 have hm40:l.marks.length<=40:=by
  have:¬ 40<l.marks.length:=fun h=>h1 (.inr (.inr (.inl h)))
  omega
 have g20:=Qh8 hK l (by omega) (by omega) (by omega) (by omega) (by omega) (by omega)
 simp[h1];refine cK (by simpa using g20) ?_
 by_cases h2:OkL l
 case neg =>
  simp[h2];exact cK g8 (by simp)
 have hw160:wid (l.plo,l.phi)*wid (l.flo,l.fhi)*wid (l.rlo,l.rhi)<=160:=by
  by_cases h:160<wid (l.plo,l.phi)*wid (l.flo,l.fhi)*wid (l.rlo,l.rhi)
  ·exact absurd (.inr (.inr (.inr ⟨h2,.inr (.inr (.inr h))⟩))) h1
  ·omega
 have g21:=Qs1 hK l h2 hw160 (Qha h2);have g23:=QsZ hK l (by omega) (by omega) (by omega) (by omega) (by omega) (by omega)
 have g22:=fun n:Int=>Qs0 hK l n (by omega) (by omega)
 have hkn:=Qg4 h2;rw[<- hkn] at g21;have hvec:tLs l true=0->Z1 l 4∈Go.Pp.vecs:=fun h=>Qiw (Qg3 h).2.2.2
 have hT:tLs l true=0\/tLs l true=3:=by
  rw[hkn];split<;>simp
 obtain ⟨T,hTe⟩:∃ T,tLs l true=T:=⟨_,rfl⟩
 rw[hTe] at g21 hvec hT;simp[h2];refine cK (by simpa using g21) ?_
 simp
 refine Zy (fun i=>[(1,.iv (.ptr (lsC l))),(3,.loc 3 0),(4,.iv (.int .i64 (QbI l i))),(5,.iv (.int .i64 T)),(6,.iv (.int .i64 ((i:Nat)+1)))])
  (fun i=>[(3,.box [.iv (.str Go.Pp.wB),.aref 4001 i]),(4001,.arr 3 1 (emb (VJ (Z1 l i))) 0)]) 4 (fun i=>i=0\/T=0) (.inl rfl) ?_ ?_ (by simp[QbI]) (by simp[Z1,VJ,emb,Go.Pp.wB])
 ·intro hq
  have hT0:T=0:=by omega
  rw[Qa Qpo.eq_1];have hFl:=V9 l 4;have hIl:(VJ (Z1 l 4)).length=4:=by simp[VJ,hFl]
  have hv:=Go.Pp.vec_dec _ (hvec hT0);have hwe:=QgU l 4;have g24:=Go.Pp.good24 hK hS Go.Pp.wB (Z1 l 4) Go.Pp.wB_fit;have g15:=Go.Pp.good15 hK hS Go.Pp.wB (Z1 l 4) Go.Pp.wB_fit;have g25:=Go.Pp.good25 hK hS Go.Pp.wB (Z1 l 4) Go.Pp.wB_fit;obtain ⟨v1,v2,v3,v4⟩:=hv;rw[v1,v2] at g24;simp only[Go.Pp.courtV,Go.Pp.clearV,v2,v3,v4] at g15 g25;rw[<- hwe] at g15;generalize QbI l 4=wa at *;generalize Z1 l 4=F at *;simp[Qzt,hIl]
  (repeat' first | omega | (with_reducible apply And.intro) | intro _)
  refine cK (by simpa[VJ] using g24) ?_
  simp;refine cK (by simpa[VJ] using g15) ?_
  simp;refine cK (by simpa[VJ] using g25) ?_
  simp;exact cK g8 (by simp)
 ·intro i hi hq ih
  have hin:inR ((i:Int)+1) 1 4:=by
   simp only[inR];omega
  have g:=g22 ((i:Int)+1);simp only[hin,decide_true,hTe] at g;have hle:(i:Int)+1<=4:=by omega
  have hFl:=V9 l i;have hIl:(VJ (Z1 l i)).length=i:=by simp[VJ,hFl]
  rw[Qa Qpo.eq_1];simp[hle];refine cK (by simpa using g23) ?_
  simp;refine cK (by simpa using g) ?_
  rcases hT with rfl | rfl
  ·have ih:=ih (.inr rfl)
   simp only[QbI,Z1,Qa3] at ih;generalize Y0 l ((i:Int)+1)=b at *;by_cases hb:b=1
   ·simp[hb,hIl] at ih |-
    (repeat' first | omega | (with_reducible apply And.intro) | intro _)
   ·simp[hb,hIl] at ih |-
    (repeat' first | omega | (with_reducible apply And.intro) | intro _)
  ·simp
   exact cK g8 (by simp)
end
abbrev KW:=Go.Pp.KW
theorem QyO (l:QJ):Ev.Good Tryz.prog KW 4 [lsV l] (.bool true):=QvH Go.Pp.hKW Go.Pp.hSW l
end Go.Pf
namespace Go.Pf
open Go Go.Ev Go.Proofs Go.RowKit Go.ChangeShapes Go.WideShapes Go.Proofs.YtmjdnhobojjjaaaGreatDoor
set_option maxRecDepth 100000
theorem Qcu {P:Program} (h:P.funcs.any Func.goes=false) (f:FuncId):P.goes f=false:=by
 unfold Program.goes;rw[h,Bool.and_false,Bool.or_false,List.any_eq_false];intro g _;cases hg:P.funcs[g]? with
 | none=>simp
 | some fn =>
   have:=Array.any_eq_false'.1 h fn (Array.mem_of_getElem? hg);simpa using this
theorem QdT {P:Program} (h:P.funcs.any Func.goes=false) (c:OpenClaim):false=c.goesBy P:=by
 have h1:∀ o:Option FuncId,o.any P.goes=false:=fun o=>by cases o<;>simp[Qcu h]
 have h2:P.inits.toList.any P.goes=false:=by
  rw[List.any_eq_false];intro f _;simp[Qcu h]
 unfold OpenClaim.goesBy Program.goesAt Program.goesFrom;rw[h1,h2];cases c.start<;>rfl
theorem QvN:Tryz.prog.funcs.any Func.goes=false:=by kernel_rfl
end Go.Pf
