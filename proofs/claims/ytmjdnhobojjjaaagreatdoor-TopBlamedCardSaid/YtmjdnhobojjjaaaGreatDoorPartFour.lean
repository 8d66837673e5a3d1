/- Readings and truths of papers, as plain data, and the small functions. -/
import Derived.Test.YtmjdnhobojjjaaaGreatDoorPartThree
import Derived.Shelf.LaysM
import Derived.Shelf.Strings.SplitShaped
import Derived.Test.YtmjdnhobojjjaaaGreatDoorProg
import Derived.Lib.SplitLaws
import Derived.ChangeAgain
import Derived.Shelf.SlGeneric
import Derived.Ground.SlgnProg
import Derived.Ground.GgzProg
import Derived.Ground.SlgmProg
import Derived.Shelf.SlIterI.Nil
import Derived.Shelf.SlicesE.Clone
import Derived.Shelf.SlicesE.Delete
import Derived.Shelf.SlicesE.Reverse
import Derived.Shelf.SortM.Plain
import Derived.Shelf.SortM.SortNone
import Derived.Lib.SliceRun
import Derived.Lib.JoinLaws
set_option linter.all false
namespace Go.Pp
open Go Go.Ev Go.Proofs Go.RowKit
variable {K:World->Prop} (hK:∀ w w',K w->Below w.heap.size w w'->K w')
open Go.Pf (c18_ok c33_ok c60_ok c68_ok c69_ok c70_ok c90_ok)
attribute [simp] q9
abbrev W:=List UInt8
inductive Op where
 | and | or | ifw
 deriving DecidableEq
def Op.word:Op->W
 | .and=>[97,110,100]
 | .or=>[111,114]
 | .ifw=>[105,102]
def Qmu:W:=[110,111,116]
def Qq8 (w:W):Option Op:=if w=[97,110,100] then some .and else if w=[111,114] then some .or else if w=[105,102] then some .ifw else none
def QyS (w:W):Bool:=(Qq8 w).isSome
inductive Rd where
 | fact (n:Nat)
 | no (r:Rd)
 | bin (o:Op) (a b:Rd)
def Qgz:Rd->List IV
 | .fact n=>[.int .i64 n,.str [],.nilp,.nilp]
 | .no r=>[.int .i64 0,.str Qmu,.nilp,.ptr (Qgz r)]
 | .bin o a b=>[.int .i64 0,.str o.word,.ptr (Qgz a),.ptr (Qgz b)]
@[simp] def enc (r:Rd):IV:=.ptr (Qgz r)
def val:Rd->Nat->Bool
 | .fact n,t=>t.testBit n
 | .no r,t=>!val r t
 | .bin .and a b,t=>val a t&&val b t
 | .bin .or a b,t=>val a t||val b t
 | .bin .ifw a b,t=>val a t||!val b t
def Qmw:Rd->W
 | .fact n=>[UInt8.ofNat (97+n)]
 | .no r=>[40,110,111,116,32]++Qmw r++[41]
 | .bin o a b=>[40]++Qmw a++[32]++o.word++[32]++Qmw b++[41]
def fok:Rd->Prop
 | .fact n=>n<6
 | .no r=>fok r
 | .bin _ a b=>fok a/\fok b
@[simp] def Q8 (l:List Int):IV:=.sl 1 (l.map fun n=>[.int .i64 n])
@[simp] def QhE (l:List Nat):IV:=.sl 1 (l.map fun n=>[.int .u64 (n:Nat)])
@[simp] def strs (l:List W):IV:=.sl 1 (l.map fun s=>[.str s])
@[simp] def rds (l:List Rd):IV:=.sl 1 (l.map fun r=>[enc r])
@[simp] def Ux (w:W) (fs:List Int):IV:=.agg [.str w,Q8 fs]
def QkM (a b:Int):Int:=if a=b then 1 else if a=0 then 2 else 3
def QyC (k:Int) (b:Bool):Bool:=if k=1 then b else if k=2 then !b else decide (k=3)
def Qvz (w:W) (a b:Nat):Nat:=if w=[97,110,100] then a &&& b else if w=[111,114] then a ||| b else a ||| (18446744073709551615 ^^^ b)
def Qd0 (n:Nat):Nat->Nat
 | 0=>0
 | i+1=>if i.testBit n then Qd0 n i ||| 2 ^ i else Qd0 n i
include hK
theorem QmV (n l h:Int):Ev.Good Tryz.prog K 60 [.int .i64 n,.int .i64 l,.int .i64 h] (.bool (decide (l<=n)&&decide (n<=h))):=by
 refine Qb hK c60_ok (by simp) ?_
 simp;omega
theorem good33 (l m:List Int):Ev.Good Tryz.prog K 33 [Q8 l,Q8 m] (.bool (decide (l=m))):=by
 refine Qb hK c33_ok (by simp) ?_
 simp;intro hl hm;refine ⟨fun e c=>e (by rw[c]),fun e=>?_⟩
 have e:l.length=m.length:=by omega
 refine Qu (fun i=>[(0,AV.iv (Q8 l)),(1,AV.iv (Q8 m)),(5,AV.iv (IV.int IntKind.i64 (i:Nat)))]) (fun _=>[]) l.length (fun i=>l.take i=m.take i) (by simp) ?_ ?_
 ·intro h
  rw[Qa Go.Pf.c33_b0.eq_1];simp at h |-;intro _;rw[e,QzG] at h;exact h
 ·intro i hi h ih
  have hi':i<m.length:=by omega
  rw[Qa Go.Pf.c33_b0.eq_1];simp[hi,hi'] at h ih |-;intro _;refine ⟨fun e c=>e (by subst c;rfl),fun e=>⟨by omega,ih ?_⟩⟩
  rw[Qzn hi,Qzn hi',h,e]
theorem Qh4 (r:Rd) (t:Nat) (ht:t<2 ^ 64):Ev.Good Tryz.prog K 90 [enc r,.int .u64 t] (.bool (val r t)):=by
 induction r with
 | fact n =>
   refine Qb hK c90_ok (by simp) ?_
   simp[Qgz,val,QjU t n ht,Qg0]
 | no r ih =>
   refine Qb hK c90_ok (by simp) ?_
   simp[Qgz,Qmu,val];refine Qw ih (by simp) ?_
   simp
 | bin o a b ia ib =>
   refine Qb hK c90_ok (by simp) ?_
   cases o<;>simp[Qgz,val,Op.word]<;>refine Qw ia (by simp) ?_<;>simp <;>
    refine ⟨fun e=>?_,fun e=>?_⟩<;>first | (refine Qw ib (by simp) ?_;simp[e]) | simp[e]
end Go.Pp
namespace Go.Pp
open Go Go.Ev Go.Proofs Go.RowKit
variable {K:World->Prop} (hK:∀ w w',K w->Below w.heap.size w w'->K w')
open Go.Pf (c17_ok c39_ok c40_ok c43_ok c73_ok)
def Zk (out:List W) (c:UInt8):List W:=if c=32 then out++[[]] else out.set (out.length-1) (out.getD (out.length-1) []++[c])
def spl (s:W):List W:=s.foldl Zk [[]]
def okT (fs:List Int) (n:Nat):Nat->Bool
 | 0=>true
 | i+1=>okT fs n i&&(!n.testBit i||decide (fs.getD i 0≠2))&&(n.testBit i||decide (fs.getD i 0≠1))
def Qnk (fs:List Int) (m:Nat):List Nat:=(List.range m).filter fun n=>okT fs n fs.length
def QwA (fs:List Int):List Nat:=Qnk fs (2 ^ fs.length)
@[simp] def Yz (l:List Nat):IV:=.sl 1 (l.map fun n=>[.int .i64 (n:Nat)])
include hK
theorem QsC (rs:IV) (T:List Nat) (r:Rd) (hT:∀ t∈T,t<64) (hl:T.length<=64):Ev.Good Tryz.prog K 73 [.ptr [rs,QhE T],enc r] (.int .i64 (T.countP (val r):Nat)):=by
 refine Qb hK c73_ok (by simp) ?_
 simp;intro _;refine Qu (fun i=>[(1,AV.iv (enc r)),(4,AV.iv (IV.int IntKind.i64 ((T.take i).countP (val r):Nat))),(10,AV.iv (QhE T)),(11,AV.iv (IV.int IntKind.i64 (T.length:Nat))),(12,AV.iv (IV.int IntKind.i64 (i:Nat)))]) (fun _=>[]) T.length (fun _=>True) trivial ?_ ?_
 ·intro _
  rw[Qa Go.Pf.c73_b0.eq_1];simp
 ·intro i hi _ ih
  rw[Qa Go.Pf.c73_b0.eq_1];simp[hi];have ht:=hT T[i] (Qzr hi);refine Qw (Qh4 hK r T[i] (by omega)) (by simp) ?_
  have e1:(T.take (i+1)).countP (val r)=(T.take i).countP (val r)+(if val r T[i] then 1 else 0):=by
   rw[Qzn hi,QAP];simp[QAh]
  have e2:(T.take i).countP (val r)<=i:=QzT (QAC) (by rw[QAg];omega)
  rw[e1] at ih;cases hb:val r T[i]<;>simp[hb] at ih |-
  ·exact ⟨by omega,ih⟩
  ·exact ⟨by omega,by omega,ih⟩
theorem QmZ (rs:IV) (T:List Nat) (r:Rd) (hT:∀ t∈T,t<64) (hl:T.length<=64):Ev.Good Tryz.prog K 43 [.ptr [rs,QhE T],enc r] (.int .i64 (QkM (T.countP (val r):Nat) T.length)):=by
 refine Qb hK c43_ok (by simp) ?_
 simp;refine Qw (QsC hK rs T r hT hl) (by simp) ?_
 simp[QkM];intro _;split<;>simp_all
end Go.Pp
namespace Go.Pp
open Go Go.Ev Go.Proofs Go.RowKit
open Go.Pf (c72_b0 c72_b1 c72_b2 c72_b3 c72_ok)
def UD (n:Nat):List W->Option Nat
 | [[c]]=>if 97<=c.toNat/\c.toNat-97<n then some (c.toNat-97) else none
 | _=>none
def ZL (o:Op) (A B:List Rd):List Rd:=A.flatMap fun a=>B.map fun b=>.bin o a b
def X6 (f:List W->List Rd) (ws:List W) (i:Nat):List Rd :=
 if i=0\/i+1=ws.length then [] else
  match Qq8 (ws.getD i []) with
  | none=>[]
  | some o=>ZL o (f (ws.take i)) (f (ws.drop (i+1)))
def Je (f:List W->List Rd) (ws:List W):List Rd:=if 1<ws.length/\ws.getD 0 []=Qmu then (f (ws.drop 1)).map .no else []
def Yx (f:List W->List Rd) (ws:List W) (i:Nat):List Rd:=Je f ws++(List.range i).flatMap (X6 f ws)
def rdg (n:Nat):Nat->List W->List Rd
 | 0,_=>[]
 | k+1,ws =>
   match UD n ws with
   | some m=>[.fact m]
   | none=>Yx (rdg n k) ws ws.length
def mo:Nat->Nat->Nat
 | 0,_=>0
 | k+1,l=>if l<=1 then 1 else mo k (l-1)+((List.range l).map fun i=>if i=0\/i+1=l then 0 else mo k i*mo k (l-(i+1))).sum
theorem Qvv:∀ k,k<=9->∀ l,l<=9->mo k l<=323:=by decide +kernel
theorem Q6 {α β:Type} (g:α->List β) (c:Nat):∀ l:List α,(∀ x∈l,(g x).length<=c)->(l.flatMap g).length<=l.length*c
 | [],_=>by simp
 | a::l,h=>by
   have h1:=Q6 g c l (fun x hx=>h x (by simp[hx]))
   have h2:=h a (by simp)
   simp only[Qz4,Qzp,Qzv];rw[QzO];omega
theorem qN {α:Type} (f g:α->Nat):∀ l:List α,(∀ x∈l,f x<=g x)->(l.map f).sum<=(l.map g).sum
 | [],_=>by simp
 | a::l,h=>by
   have h1:=qN f g l (fun x hx=>h x (by simp[hx]))
   have h2:=h a (by simp)
   simp only[QzH,List.sum_cons];omega
theorem WL (o:Op) (A B:List Rd):(ZL o A B).length=A.length*B.length:=by
 unfold ZL
 induction A with
 | nil=>simp
 | cons a A ih =>
   rw[Qz4,Qzp,ih,Qzw,Qzv,QzO];omega
theorem Qgp {n:Nat} {ws:List W} {m:Nat} (h:UD n ws=some m):ws.length=1/\m<n:=by
 unfold UD at h;split at h
 ·split at h
  ·injection h with h;subst h;rename_i h;exact ⟨rfl,h.2⟩
  ·cases h
 ·cases h
theorem QaU (n:Nat):∀ (k:Nat) (ws:List W),(rdg n k ws).length<=mo k ws.length
 | 0,ws=>by simp[rdg]
 | k+1,ws=>by
   simp only[rdg];split
   ·rename_i m hm
    simp[mo,(Qgp hm).1]
   ·simp only[mo]
    split
    ·rename_i h1
     have:Yx (rdg n k) ws ws.length=[]:=by
      have h2:Je (rdg n k) ws=[]:=by simp[Je];omega
      simp only[Yx,h2,QAa];rw[List.flatMap_eq_nil_iff];intro i hi;simp at hi;have:i=0:=by omega
      simp[X6,this]
     rw[this];simp
    ·simp only[Yx,Qzp,List.length_flatMap]
     have h1:(Je (rdg n k) ws).length<=mo k (ws.length-1):=by
      unfold Je;split
      ·have:=QaU n k (ws.drop 1)
       simpa using this
      ·simp
     refine Nat.add_le_add h1 (qN _ _ _ fun i hi=>?_)
     simp at hi;unfold X6;split
     ·simp
     ·split
      ·simp
      ·rw[WL]
       have h2:=QaU n k (ws.take i);have h3:=QaU n k (ws.drop (i+1));rw[QAg,QzZ (by omega)] at h2
       rw[List.length_drop] at h3;exact QAK h2 h3
theorem Qb6 {n k:Nat} {ws:List W} (hk:k<=9) (hw:ws.length<=9):(rdg n k ws).length<=323:=QzT (QaU n k ws) (Qvv k hk _ hw)
@[simp] def ob (L:List Rd):Qk:=[(5,AO.arr 112 1 (emb (L.map fun r=>[enc r])) 0)]
theorem Qga (o:Op) (A B:List Rd) (j:Nat) (hj:j<A.length):ZL o (A.take (j+1)) B=ZL o (A.take j) B++B.map (Rd.bin o A[j]):=by
 rw[Qzn hj];simp only[ZL,QAl,Qz4,List.flatMap_nil,QAx]
section
variable {K:World->Prop} {r:IV}
theorem QnU (o:Op) (w:W) (hw:w=o.word) (a:Rd) (X0 X1 X11 X68 X69 X70 X109 X110 X111:IV) (B L:List Rd) (kk:List AI) (hb:L.length+B.length<=1000000000)
  (h:Q7 Tryz.prog K (FnF (Xi [XY.tmp 4] r)) c72_b1 [0,1,5,10,11,13,68,69,70,109,110,111,115,116,117] [5] kk
    [(0,.iv X0),(1,.iv X1),(5,AV.aref 5 (L++B.map (Rd.bin o a)).length),(10,AV.iv (.str w)),(11,.iv X11),(13,AV.iv (enc a)),(68,.iv X68),(69,.iv X69),(70,.iv X70),(109,.iv X109),(110,.iv X110),(111,.iv X111),(115,AV.iv (rds B)),(116,AV.iv (.int .i64 (B.length:Nat))),(117,AV.iv (.int .i64 (B.length:Nat)))] (ob (L++B.map (Rd.bin o a)))) :
  Q7 Tryz.prog K (FnF (Xi [XY.tmp 4] r)) c72_b1 [0,1,5,10,11,13,68,69,70,109,110,111,115,116,117] [5] kk
   [(0,.iv X0),(1,.iv X1),(5,AV.aref 5 L.length),(10,AV.iv (.str w)),(11,.iv X11),(13,AV.iv (enc a)),(68,.iv X68),(69,.iv X69),(70,.iv X70),(109,.iv X109),(110,.iv X110),(111,.iv X111),(115,AV.iv (rds B)),(116,AV.iv (.int .i64 (B.length:Nat))),(117,AV.iv (.int .i64 0))] (ob L):=by
 have:=VW (P:=Tryz.prog) (K:=K) (F:=FnF (Xi [XY.tmp 4] r)) (c:=c72_b1) (ks:=[0,1,5,10,11,13,68,69,70,109,110,111,115,116,117]) (ids:=[5]) (k:=kk)
  (fun m=>[(0,.iv X0),(1,.iv X1),(5,AV.aref 5 (L++(B.take m).map (Rd.bin o a)).length),(10,AV.iv (.str w)),(11,.iv X11),(13,AV.iv (enc a)),(68,.iv X68),(69,.iv X69),(70,.iv X70),(109,.iv X109),(110,.iv X110),(111,.iv X111),(115,AV.iv (rds B)),(116,AV.iv (.int .i64 (B.length:Nat))),(117,AV.iv (.int .i64 (m:Nat)))])
  (fun m=>ob (L++(B.take m).map (Rd.bin o a))) B.length (by rw[QzG];exact h) (fun i hi ih=>?_)
 ·simpa using this
 ·have e1:L++(B.take (i+1)).map (Rd.bin o a)=(L++(B.take i).map (Rd.bin o a))++[Rd.bin o a B[i]]:=by
   rw[Qzn hi,QzU,<- QzC];rfl
  have e2:(L++(B.take i).map (Rd.bin o a)).length<=1000000000:=by
   simp;omega
  rw[e1] at ih;generalize L++(B.take i).map (Rd.bin o a)=Y at *;rw[Qa Go.Pf.c72_b1.eq_1];simp[Qgz,<- hw] at ih;simp[hi];exact ⟨by omega,by omega,ih⟩
theorem Qvw (o:Op) (w:W) (hw:w=o.word) (X0 X1 X68 X69 X70:IV) (A B L:List Rd) (kk:List AI) (hA:A.length<=323) (hB:B.length<=323) (hL:L.length<=9000000)
  (h:Q7 Tryz.prog K (FnF (Xi [XY.tmp 4] r)) c72_b2 [0,1,5,10,11,68,69,70,109,110,111] [5] kk
    [(0,.iv X0),(1,.iv X1),(5,AV.aref 5 (L++ZL o A B).length),(10,AV.iv (.str w)),(11,.iv (rds B)),(68,.iv X68),(69,.iv X69),(70,.iv X70),(109,.iv (rds A)),(110,AV.iv (.int .i64 (A.length:Nat))),(111,AV.iv (.int .i64 (A.length:Nat)))] (ob (L++ZL o A B))) :
  Q7 Tryz.prog K (FnF (Xi [XY.tmp 4] r)) c72_b2 [0,1,5,10,11,68,69,70,109,110,111] [5] kk
   [(0,.iv X0),(1,.iv X1),(5,AV.aref 5 L.length),(10,AV.iv (.str w)),(11,.iv (rds B)),(68,.iv X68),(69,.iv X69),(70,.iv X70),(109,.iv (rds A)),(110,AV.iv (.int .i64 (A.length:Nat))),(111,AV.iv (.int .i64 0))] (ob L):=by
 have:=VW (P:=Tryz.prog) (K:=K) (F:=FnF (Xi [XY.tmp 4] r)) (c:=c72_b2) (ks:=[0,1,5,10,11,68,69,70,109,110,111]) (ids:=[5]) (k:=kk)
  (fun m=>[(0,.iv X0),(1,.iv X1),(5,AV.aref 5 (L++ZL o (A.take m) B).length),(10,AV.iv (.str w)),(11,.iv (rds B)),(68,.iv X68),(69,.iv X69),(70,.iv X70),(109,.iv (rds A)),(110,AV.iv (.int .i64 (A.length:Nat))),(111,AV.iv (.int .i64 (m:Nat)))])
  (fun m=>ob (L++ZL o (A.take m) B)) A.length (by rw[QzG];exact h) (fun i hi ih=>?_)
 ·simpa[ZL] using this
 ·have e2:(L++ZL o (A.take i) B).length<=100000000:=by
   rw[Qzp,WL,QAg,QzZ (by omega)]
   have:=QAK (show i<=323 by omega) hB
   omega
  rw[Qga o A B i hi,<- QzC] at ih;generalize L++ZL o (A.take i) B=Y at *;rw[Qa Go.Pf.c72_b2.eq_1];simp[hi];intro _
  have:=QnU (K:=K) (r:=r) o w hw A[i] X0 X1 (rds B) X68 X69 X70 (rds A) (.int .i64 (A.length:Nat)) (.int .i64 (i:Nat)) B Y
   (AI.inBlock 6::.inBlock 5::.code (.ops [⟨some 130,none,.bin .add (.t 111) (.int .i64 1)⟩,⟨some 111,none,.mov (.t 130)⟩] false)::.inLoop c72_b2 [0,1,5,10,11,68,69,70,109,110,111] [5]::kk) (by omega) ?_
  ·simpa using this
  ·rw[Qa Go.Pf.c72_b1.eq_1]
   simp at ih |-;exact ⟨by omega,ih⟩
theorem Qvt (X0 X1:IV) (A:List Rd) (kk:List AI) (hA:A.length<=323)
  (h:Q7 Tryz.prog K (FnF (Xi [XY.tmp 4] r)) c72_b0 [0,1,5,55,56,57] [5] kk
    [(0,.iv X0),(1,.iv X1),(5,AV.aref 5 (A.map Rd.no).length),(55,.iv (rds A)),(56,AV.iv (.int .i64 (A.length:Nat))),(57,AV.iv (.int .i64 (A.length:Nat)))] (ob (A.map Rd.no))) :
  Q7 Tryz.prog K (FnF (Xi [XY.tmp 4] r)) c72_b0 [0,1,5,55,56,57] [5] kk
   [(0,.iv X0),(1,.iv X1),(5,AV.aref 5 0),(55,.iv (rds A)),(56,AV.iv (.int .i64 (A.length:Nat))),(57,AV.iv (.int .i64 0))] (ob []):=by
 have:=VW (P:=Tryz.prog) (K:=K) (F:=FnF (Xi [XY.tmp 4] r)) (c:=c72_b0) (ks:=[0,1,5,55,56,57]) (ids:=[5]) (k:=kk)
  (fun m=>[(0,.iv X0),(1,.iv X1),(5,AV.aref 5 ((A.take m).map Rd.no).length),(55,.iv (rds A)),(56,AV.iv (.int .i64 (A.length:Nat))),(57,AV.iv (.int .i64 (m:Nat)))])
  (fun m=>ob ((A.take m).map Rd.no)) A.length (by rw[QzG];exact h) (fun i hi ih=>?_)
 ·simpa using this
 ·have e1:(A.take (i+1)).map Rd.no=(A.take i).map Rd.no++[Rd.no A[i]]:=by
   rw[Qzn hi,QzU];rfl
  have e2:((A.take i).map Rd.no).length<=323:=by
   simp;omega
  rw[e1] at ih;generalize (A.take i).map Rd.no=Y at *;rw[Qa Go.Pf.c72_b0.eq_1];simp[Qgz,Qmu] at ih;simp[hi];exact ⟨by omega,by omega,ih⟩
variable (hK:∀ w w',K w->Below w.heap.size w w'->K w')
include hK
theorem QmU (n:Nat) (hn:n<=6):∀ (k:Nat),k<=9->∀ ws:List W,ws.length<=k->Ev.Good Tryz.prog K 72 [strs ws,.int .i64 n] (rds (rdg n k ws))
 | 0,_,ws,hw=>by
   have:ws=[]:=List.length_eq_zero_iff.1 (by omega)
   subst this;refine Qb hK c72_ok (by simp) ?_
   simp[rdg];rw[Qa Go.Pf.c72_b3.eq_1];simp
 | k+1,hk,ws,hw=>by
   have IH:=QmU n hn k (by omega)
   have small:∀ ws:List W,ws.length<=k->(rdg n k ws).length<=323:=fun ws h=>Qb6 (by omega) (by omega)
   refine Qb hK c72_ok (by simp) ?_
   generalize hf:rdg n k=f at *
   have outer:Q7 Tryz.prog K (FnF (Xi [XY.tmp 4] (rds (Yx f ws ws.length)))) c72_b3 [0,1,5,68,69,70] [5] [AI.inBlock 2,AI.code (.seq (.ops [⟨some 132,none,.mov (.t 5)⟩,⟨some 4,none,.mov (.t 132)⟩] false) .ret)]
     [(0,.iv (strs ws)),(1,.iv (.int .i64 n)),(5,.aref 5 (Je f ws).length),(68,.iv (strs ws)),(69,.iv (.int .i64 (ws.length:Nat))),(70,.iv (.int .i64 0))] (ob (Je f ws)):=by
    have:=VW (P:=Tryz.prog) (K:=K) (F:=FnF (Xi [XY.tmp 4] (rds (Yx f ws ws.length)))) (c:=c72_b3) (ks:=[0,1,5,68,69,70]) (ids:=[5]) (k:=[AI.inBlock 2,AI.code (.seq (.ops [⟨some 132,none,.mov (.t 5)⟩,⟨some 4,none,.mov (.t 132)⟩] false) .ret)])
     (fun i=>[(0,.iv (strs ws)),(1,.iv (.int .i64 n)),(5,.aref 5 (Yx f ws i).length),(68,.iv (strs ws)),(69,.iv (.int .i64 (ws.length:Nat))),(70,.iv (.int .i64 (i:Nat)))])
     (fun i=>ob (Yx f ws i)) ws.length ?_ (fun i hi ih=>?_)
    ·simpa[Yx] using this
    ·rw[Qa Go.Pf.c72_b3.eq_1]
     simp
    ·have e1:Yx f ws (i+1)=Yx f ws i++X6 f ws i:=by
      simp[Yx,QAv]
     have e2:(Yx f ws i).length<=8000000:=by
      have h1:(Je f ws).length<=323:=by
       unfold Je;split
       ·rw[Qzw]
        exact small _ (by simp;omega)
       ·simp
      have h2:((List.range i).flatMap (X6 f ws)).length<=i*(323*323):=by
       refine QzT (Q6 _ (323*323) _ fun x hx=>?_) (by simp)
       simp at hx;unfold X6;split
       ·simp
       ·split
        ·simp
        ·rw[WL]
         exact QAK (small _ (by simp;omega)) (small _ (by simp;omega))
      simp only[Yx,Qzp];omega
     rw[e1] at ih;generalize Yx f ws i=Y at *;rw[Qa Go.Pf.c72_b3.eq_1]
     have skip:X6 f ws i=[]->Q7 Tryz.prog K (FnF (Xi [XY.tmp 4] (rds (Yx f ws ws.length)))) c72_b3 [0,1,5,68,69,70] [5] [AI.inBlock 2,AI.code (.seq (.ops [⟨some 132,none,.mov (.t 5)⟩,⟨some 4,none,.mov (.t 132)⟩] false) .ret)]
       [(0,.iv (strs ws)),(1,.iv (.int .i64 n)),(5,.aref 5 Y.length),(68,.iv (strs ws)),(69,.iv (.int .i64 (ws.length:Nat))),(70,.iv (.int .i64 ((i:Int)+1)))] (ob Y):=by
      intro h;rw[h] at ih;simpa using ih
     have go:∀ o:Op,ws[i]=o.word->¬ i=0->¬ i+1=ws.length->Q7 Tryz.prog K (FnF (Xi [XY.tmp 4] (rds (Yx f ws ws.length)))) c72_b2 [0,1,5,10,11,68,69,70,109,110,111] [5]
       [.inBlock 4,.inBlock 3,.code (.ops [⟨some 131,none,.bin .add (.t 70) (.int .i64 1)⟩,⟨some 70,none,.mov (.t 131)⟩] false),.inLoop c72_b3 [0,1,5,68,69,70] [5],AI.inBlock 2,AI.code (.seq (.ops [⟨some 132,none,.mov (.t 5)⟩,⟨some 4,none,.mov (.t 132)⟩] false) .ret)]
       [(0,.iv (strs ws)),(1,.iv (.int .i64 n)),(5,.aref 5 Y.length),(10,.iv (.str ws[i])),(11,.iv (rds (f (ws.drop (i+1))))),(68,.iv (strs ws)),(69,.iv (.int .i64 (ws.length:Nat))),(70,.iv (.int .i64 (i:Nat))),
         (109,.iv (rds (f (ws.take i)))),(110,.iv (.int .i64 ((f (ws.take i)).length:Nat))),(111,.iv (.int .i64 0))] (ob Y):=by
      intro o ho c0 c1
      have e3:X6 f ws i=ZL o (f (ws.take i)) (f (ws.drop (i+1))):=by
       have:Qq8 ws[i]=some o:=by rw[ho];cases o<;>rfl
       simp[X6,c0,c1,hi,this]
      rw[e3] at ih;refine Qvw o ws[i] ho (strs ws) (.int .i64 n) (strs ws) (.int .i64 (ws.length:Nat)) (.int .i64 (i:Nat)) _ _ Y _ (small _ (by simp;omega)) (small _ (by simp;omega)) (by omega) ?_
      rw[Qa Go.Pf.c72_b2.eq_1];simp at ih |-;exact ⟨by omega,ih⟩
     have hst:∀ o:Op,ws[i]=o.word->f (ws.drop (i+1))=[]->X6 f ws i=[]:=by
      intro o ho he;have:Qq8 ws[i]=some o:=by rw[ho];cases o<;>rfl
      simp[X6,hi,this,he,ZL]
     simp[hi];refine ⟨fun c0 hl=>⟨by omega,fun c1=>⟨fun ca=>⟨fun co=>⟨fun ci=>?s1,fun ci=>⟨by omega,by omega,fun _=>?g1⟩⟩,fun co=>⟨by omega,by omega,fun _=>?g2⟩⟩,fun ca=>⟨by omega,by omega,fun _=>?g3⟩⟩,fun c1=>?s2⟩,fun c0=>?s3⟩
     case s1 =>
      refine ⟨by omega,skip ?_⟩
      have:Qq8 ws[i]=none:=by simp[Qq8,ca,co,ci]
      simp[X6,hi,this]
     case s2 =>
      have c1':i+1=ws.length:=by omega
      exact ⟨by omega,skip (by simp[X6,c1'])⟩
     case s3=>exact ⟨by omega,skip (by simp[X6,c0])⟩
     case g1 =>
      rw[<- QAO];refine Qw (IH (ws.drop (i+1)) (by simp;omega)) (by simp) ?_
      simp;intro _;refine ⟨fun e=>⟨by omega,skip (hst .ifw ci e)⟩,fun e=>⟨by omega,fun _=>?_⟩⟩
      rw[<- QAH];refine Qw (IH (ws.take i) (by simp;omega)) (by simp) ?_
      simp;intro _;have:=go .ifw ci c0 (by omega)
      simpa using this
     case g2 =>
      rw[<- QAO];refine Qw (IH (ws.drop (i+1)) (by simp;omega)) (by simp) ?_
      simp;intro _;refine ⟨fun e=>⟨by omega,skip (hst .or co e)⟩,fun e=>⟨by omega,fun _=>?_⟩⟩
      rw[<- QAH];refine Qw (IH (ws.take i) (by simp;omega)) (by simp) ?_
      simp;intro _;have:=go .or co c0 (by omega)
      simpa using this
     case g3 =>
      rw[<- QAO];refine Qw (IH (ws.drop (i+1)) (by simp;omega)) (by simp) ?_
      simp;intro _;refine ⟨fun e=>⟨by omega,skip (hst .and ca e)⟩,fun e=>⟨by omega,fun _=>?_⟩⟩
      rw[<- QAH];refine Qw (IH (ws.take i) (by simp;omega)) (by simp) ?_
      simp;intro _;have:=go .and ca c0 (by omega)
      simpa using this
   rcases ws with _ | ⟨w0,_ | ⟨w1,rest⟩⟩
   ·have h3:Je f []=[]:=by simp[Je]
    rw[h3] at outer;have h4:rdg n (k+1) []=Yx f [] 0:=by simp[rdg,UD,hf]
    rw[h4];simp at outer |-;exact outer
   ·have h3:Je f [w0]=[]:=by simp[Je]
    rw[h3] at outer
    have go:UD n [w0]=none->Q7 Tryz.prog K (FnF (Xi [XY.tmp 4] (rds (rdg n (k+1) [w0])))) c72_b3 [0,1,5,68,69,70] [5] [AI.inBlock 2,AI.code (.seq (.ops [⟨some 132,none,.mov (.t 5)⟩,⟨some 4,none,.mov (.t 132)⟩] false) .ret)]
     [(0,.iv (strs [w0])),(1,.iv (.int .i64 n)),(5,.aref 5 0),(68,.iv (strs [w0])),(69,.iv (.int .i64 1)),(70,.iv (.int .i64 0))] (ob []):=by
     intro h;have h4:rdg n (k+1) [w0]=Yx f [w0] 1:=by simp[rdg,h,hf]
     rw[h4];exact outer
    rcases w0 with _ | ⟨c,_ | ⟨d,w0⟩⟩
    ·simp at go |-
     exact go rfl
    ·have h6:c.toNat<256:=c.toNat_lt
     by_cases h7:97<=c.toNat/\c.toNat-97<n
     ·have h8:IntKind.wrap .i64 (c.toNat:Int)=c.toNat:=wrap_i64 (by omega) (by omega)
      have h9:rdg n (k+1) [[c]]=[.fact (c.toNat-97)]:=by simp[rdg,UD,h7]
      have h10:(97:Int)<=c.toNat:=by omega
      have h11:(c.toNat:Int)-97<n:=by omega
      have h12:((c.toNat-97:Nat):Int)=(c.toNat:Int)-97:=by omega
      rw[h9];simp[h8,h10,h11,Qgz,h12];omega
     ·have h8:IntKind.wrap .i64 (c.toNat:Int)=c.toNat:=wrap_i64 (by omega) (by omega)
      have go':=go (by simp[UD];omega)
      simp[h8] at go' |-;refine ⟨by omega,fun a=>⟨fun b=>absurd ⟨by omega,by omega⟩ h7,fun _=>go'⟩,fun _=>go'⟩
    ·have go':=go rfl
     simp at go' |-;exact ⟨fun h=>by omega,fun _=>go'⟩
   ·have h4:rdg n (k+1) (w0::w1::rest)=Yx f (w0::w1::rest) (w0::w1::rest).length:=by simp[rdg,UD,hf]
    have h5:(1:Int)<(rest.length:Int)+1+1:=by omega
    have h6:¬ (rest.length:Int)+1+1=1:=by omega
    rw[h4];by_cases h2:w0=Qmu
    ·have h3:Je f (w0::w1::rest)=(f (w1::rest)).map .no:=by simp[Je,h2]
     rw[h3] at outer;have h7:((rest.length:Int)+1+1).toNat=rest.length+2:=by omega
     have h8:=small (w1::rest) (by simp at hw |-;omega)
     simp[Qmu] at h2;simp[h2,h5,h6,h7];refine fun _=>⟨by omega,fun _=>?_⟩
     refine Qw (IH (w1::rest) (by simp at hw |-;omega)) (by simp) ?_
     simp;intro _;refine Qvt _ _ _ _ h8 ?_;rw[Qa Go.Pf.c72_b0.eq_1];subst h2;simp at outer |-;exact fun _=>outer
    ·have h3:Je f (w0::w1::rest)=[]:=by simp[Je,h2]
     rw[h3] at outer;simp[Qmu] at h2;simp at outer;simp[h2,h5,h6];exact fun _=>outer
end
end Go.Pp
namespace Go.Pp
open Go Go.Ev Go.Proofs Go.RowKit
open Go.Pf (c41_b0 c41_b1 c41_b2 c41_b3 c41_b4 c41_ok)
def Qq6:Rd->Nat
 | .fact n=>Qd0 n 64
 | .no r=>18446744073709551615 ^^^ Qq6 r
 | .bin o a b=>Qvz o.word (Qq6 a) (Qq6 b)
@[simp] def Qzb (r:Rd):List IV:=[.str (Qmw r),.int .u64 (Qq6 r:Nat)]
@[simp] def rrs (L:List Rd):IV:=.sl 2 (L.map fun r=>[.str (Qmw r),.int .u64 (Qq6 r:Nat)])
@[simp] def ob2 (L:List Rd):Qk:=[(5,AO.arr 58 2 (emb (L.map fun r=>[.str (Qmw r),.int .u64 (Qq6 r:Nat)])) 0)]
def Qs8 (w:W) (n:Nat):List Rd:=((List.range n).filter fun m=>decide (w=[UInt8.ofNat (97+m)])).map Rd.fact
section
variable {K:World->Prop} {r:IV}
variable (hK:∀ w w',K w->Below w.heap.size w w'->K w')
include hK
end
end Go.Pp
namespace Go.Pp
open Go Go.Ev Go.Proofs Go.RowKit
open Go.Pf (c42_b0 c42_b1 c42_b2 c42_ok)
def JG (ts:List Nat) (i:Nat) (k:Int):List Nat:=if k=1 then ts.map (· ||| 2 ^ i) else if k=3 then ts++ts.map (· ||| 2 ^ i) else ts
def trN (fs:List Int):Nat->List Nat
 | 0=>[0]
 | i+1=>JG (trN fs i) i (fs.getD i 0)
theorem Qc7 (fs:List Int):∀ i,(trN fs i).length<=2 ^ i
 | 0=>by simp[trN]
 | i+1=>by
   have:=Qc7 fs i;simp only[trN,JG];rw[Nat.pow_succ];split
   ·simp;omega
   ·split
    ·simp;omega
    ·omega
theorem QgZ (fs:List Int):∀ i,∀ t∈trN fs i,t<2 ^ i
 | 0=>by simp[trN]
 | i+1=>by
   have ih:=QgZ fs i;have h1:∀ t∈trN fs i,t<2 ^ (i+1):=fun t ht=>QzJ (ih t ht) (Qz0 (by omega) (by omega))
   have h2:∀ t∈(trN fs i).map (· ||| 2 ^ i),t<2 ^ (i+1):=by
    intro t ht;rw[QzI] at ht;obtain ⟨u,hu,rfl⟩:=ht;exact Nat.or_lt_two_pow (h1 u hu) (Nat.pow_lt_pow_right (by omega) (by omega))
   simp only[trN,JG];split
   ·exact h2
   ·split
    ·intro t ht
     rcases QzD.1 ht with c | c
     ·exact h1 t c
     ·exact h2 t c
    ·exact h1
@[simp] def ob3 (T:List Nat) (mv n:Nat):Qk:=[(16,AO.arr 153 1 (emb (T.map fun t=>[.int .u64 (t:Nat)])) mv),(18,AO.box [.iv (.sl 1 []),.aref 16 n])]
def Qgc (T:List Nat) (b m:Nat):List Nat:=(T.take m).map (· ||| b)++T.drop m
theorem QkD (T:List Nat) (b m:Nat):(Qgc T b m).length=T.length:=by
 simp[Qgc];omega
theorem QkE (T:List Nat) (b m:Nat) (h:m<T.length):(Qgc T b m)[m]?=some T[m]:=by
 unfold Qgc;rw[Qzz (by simp;omega)]
 simp[QzZ (Nat.le_of_lt h),h]
theorem QkC (T:List Nat) (b m:Nat) (h:m<T.length):(Qgc T b m).set m (T[m] ||| b)=Qgc T b (m+1):=by
 apply QAF;intro i;simp only[Qgc,Qz7,List.getElem?_append,Qzu,QzR,QAb,Qzw,QAg,Qzp,List.length_drop];by_cases h1:m=i
 ·subst h1
  have h5:¬ T.length-m=0:=by omega
  simp[QzZ (Nat.le_of_lt h),QzZ (show m+1<=T.length from h),h,h5]
 ·by_cases h2:i<m
  ·have h3:i<m+1:=by omega
   simp[QzZ (Nat.le_of_lt h),QzZ (show m+1<=T.length from h),h1,h2,h3]
  ·have h3:¬ i<m+1:=by omega
   have h4:m+(i-m)=m+1+(i-(m+1)):=by omega
   simp[QzZ (Nat.le_of_lt h),QzZ (show m+1<=T.length from h),h1,h2,h3,h4]
def Xq (fs:List Int):Bool:=fs.all (fun k=>decide (1<=k)&&decide (k<=3))&&decide (fs.length<=6)
def rs (s:W) (fs:List Int):List Rd:=if Xq fs=true/\(spl s).length<=9 then rdg fs.length 9 (spl s) else []
def err (s:W) (fs:List Int):Int:=if Xq fs=false then 130 else if rs s fs=[] then 131 else 0
def tru (fs:List Int):List Nat:=trN fs fs.length
def pap (s:W) (fs:List Int):IV:=if err s fs=0 then .ptr [rds (rs s fs),QhE (tru fs)] else .nilp
section
variable {K:World->Prop} {r:IV}
theorem Qrx (X1 X20 X21 X22:IV) (T:List Nat) (i mv:Nat) (hi:i<6) (hT:T.length<=64) (ht:∀ t∈T,t<64) (hm:mv<=T.length) (kk:List AI)
  (h:∀ mv,mv<=T.length->Q7 Tryz.prog K (FnF (Xi [XY.tmp 2,XY.tmp 3] r)) c42_b0 [1,4,7,20,21,22,36,37] [16,18] kk
    [(1,.iv X1),(4,.loc 18 0),(7,.iv (.int .u64 (2 ^ i:Nat))),(20,.iv X20),(21,.iv X21),(22,.iv X22),(36,.iv (.int .i64 (T.length:Nat))),(37,.iv (.int .i64 (T.length:Nat)))] (ob3 (T.map (· ||| 2 ^ i)) mv T.length)) :
  Q7 Tryz.prog K (FnF (Xi [XY.tmp 2,XY.tmp 3] r)) c42_b0 [1,4,7,20,21,22,36,37] [16,18] kk
   [(1,.iv X1),(4,.loc 18 0),(7,.iv (.int .u64 (2 ^ i:Nat))),(20,.iv X20),(21,.iv X21),(22,.iv X22),(36,.iv (.int .i64 (T.length:Nat))),(37,.iv (.int .i64 0))] (ob3 T mv T.length):=by
 refine UA T.length (fun m e o=>∃ mv,mv<=T.length /\
  e=[(1,.iv X1),(4,.loc 18 0),(7,.iv (.int .u64 (2 ^ i:Nat))),(20,.iv X20),(21,.iv X21),(22,.iv X22),(36,.iv (.int .i64 (T.length:Nat))),(37,.iv (.int .i64 (m:Nat)))] /\
  o=ob3 (Qgc T (2 ^ i) m) mv T.length) ?_ ?_ _ _ ⟨mv,hm,rfl,by simp[Qgc]⟩
 ·rintro e o ⟨mv,h1,rfl,rfl⟩
  have:Qgc T (2 ^ i) T.length=T.map (· ||| 2 ^ i):=by simp[Qgc]
  rw[this];exact h mv h1
 ·rintro m e o hi' ⟨mv,h1,rfl,rfl⟩ ih
  have e1:=QkE T (2 ^ i) m hi';have e2:=QkD T (2 ^ i) m;have e3:=QkC T (2 ^ i) m hi';have e4:=ht _ (Qzr hi');have e5:2 ^ i<=2 ^ 5:=Qz0 (by omega) (by omega)
  have e6:VF .or .u64 (T[m]:Int) (2 ^ i)=((T[m] ||| 2 ^ i:Nat):Int):=by
   have:=Qhw T[m] (2 ^ i) (by omega) (by omega)
   rw[<- this];simp
  have ih':=fun mv h=>ih _ _ ⟨mv,h,rfl,rfl⟩
  generalize Qgc T (2 ^ i) m=Y at *;have e7:m<Y.length:=by omega
  have e8:Y[m]=T[m]:=by
   rw[Qzk e7] at e1;injection e1
  have e9:(Y.map fun t=>[IV.int .u64 (t:Nat)]).set m [IV.int .u64 ((T[m] ||| 2 ^ i:Nat):Int)]=(Qgc T (2 ^ i) (m+1)).map fun t=>[IV.int .u64 (t:Nat)]:=by
   rw[<- e3,List.map_set]
  have:=ih' T.length (Qzq _);rw[Qa Go.Pf.c42_b0.eq_1];simp[hi',e2,e6,e8,e9];simp at this;exact ⟨h1,by omega,this⟩
theorem Qr3 (X1 X20 X21 X22:IV) (T:List Nat) (i mv:Nat) (hi:i<6) (hT:T.length<=64) (ht:∀ t∈T,t<64) (hm:mv<=T.length) (kk:List AI)
  (h:Q7 Tryz.prog K (FnF (Xi [XY.tmp 2,XY.tmp 3] r)) c42_b1 [1,4,7,20,21,22,58,59,60] [16,18] kk
    [(1,.iv X1),(4,.loc 18 0),(7,.iv (.int .u64 (2 ^ i:Nat))),(20,.iv X20),(21,.iv X21),(22,.iv X22),(58,.aref 16 T.length),(59,.iv (.int .i64 (T.length:Nat))),(60,.iv (.int .i64 (T.length:Nat)))] (ob3 (T++T.map (· ||| 2 ^ i)) mv (T++T.map (· ||| 2 ^ i)).length)) :
  Q7 Tryz.prog K (FnF (Xi [XY.tmp 2,XY.tmp 3] r)) c42_b1 [1,4,7,20,21,22,58,59,60] [16,18] kk
   [(1,.iv X1),(4,.loc 18 0),(7,.iv (.int .u64 (2 ^ i:Nat))),(20,.iv X20),(21,.iv X21),(22,.iv X22),(58,.aref 16 T.length),(59,.iv (.int .i64 (T.length:Nat))),(60,.iv (.int .i64 0))] (ob3 T mv T.length):=by
 have:=VW (P:=Tryz.prog) (K:=K) (F:=FnF (Xi [XY.tmp 2,XY.tmp 3] r)) (c:=c42_b1) (ks:=[1,4,7,20,21,22,58,59,60]) (ids:=[16,18]) (k:=kk)
  (fun m=>[(1,.iv X1),(4,.loc 18 0),(7,.iv (.int .u64 (2 ^ i:Nat))),(20,.iv X20),(21,.iv X21),(22,.iv X22),(58,.aref 16 T.length),(59,.iv (.int .i64 (T.length:Nat))),(60,.iv (.int .i64 (m:Nat)))])
  (fun m=>ob3 (T++(T.take m).map (· ||| 2 ^ i)) mv (T++(T.take m).map (· ||| 2 ^ i)).length) T.length (by rw[QzG];exact h) (fun m hi' ih=>?_)
 ·simpa using this
 ·have e1:T++(T.take (m+1)).map (· ||| 2 ^ i)=(T++(T.take m).map (· ||| 2 ^ i))++[T[m] ||| 2 ^ i]:=by
   rw[Qzn hi',QzU,<- QzC];rfl
  have e2:(T++(T.take m).map (· ||| 2 ^ i)).length<=128:=by
   simp;omega
  have e3:(T++(T.take m).map (· ||| 2 ^ i))[m]?=some T[m]:=by
   rw[QzA hi',Qzk hi']
  have e4:=ht _ (Qzr hi');have e5:2 ^ i<=2 ^ 5:=Qz0 (by omega) (by omega)
  have e6:VF .or .u64 (T[m]:Int) (2 ^ i)=((T[m] ||| 2 ^ i:Nat):Int):=by
   have:=Qhw T[m] (2 ^ i) (by omega) (by omega)
   rw[<- this];simp
  have e7:T.length<=(T++(T.take m).map (· ||| 2 ^ i)).length:=by simp
  rw[e1] at ih;generalize T++(T.take m).map (· ||| 2 ^ i)=Y at *
  rw[Qa Go.Pf.c42_b1.eq_1];simp[hi',e3,e6];simp at ih;exact ⟨⟨hm,e7⟩,hm,by omega,by omega,ih⟩
variable (hK:∀ w w',K w->Below w.heap.size w w'->K w') (hS:∀ s:W,s.length<=1000->Ev.Good Tryz.prog K 71 [.str s,.str [32]] (strs (spl s)))
include hK hS
theorem Qfn (s:W) (fs:List Int) (hs:s.length<=1000) (hw:(spl s).length<=9\/11<(spl s).length):Ev.Good Tryz.prog K 42 [Ux s fs] (.tup [pap s fs,.int .i64 (err s fs)]):=by
 refine Qb hK c42_ok (by simp) ?_
 simp;intro _;refine ⟨fun e=>?_,fun e _=>?_⟩
 ·have h1:Xq fs=false:=by simp[Xq];omega
  simp[pap,err,h1]
 have hf:fs.length<=6:=by omega
 refine UA fs.length (fun i e o=>∃ mv,mv<=(trN fs i).length/\(∀ k∈fs.take i,1<=k/\k<=3) /\
  e=[(1,.iv (.ptr [.str s,Q8 fs])),(4,.loc 18 0),(20,.iv (Q8 fs)),(21,.iv (.int .i64 (fs.length:Nat))),(22,.iv (.int .i64 (i:Nat)))] /\
  o=ob3 (trN fs i) mv (trN fs i).length) ?_ ?_ _ _ ⟨0,by simp,by simp,rfl,rfl⟩
 ·rintro e o ⟨mv,h1,h2,rfl,rfl⟩
  have h3:Xq fs=true:=by
   simp at h2;simp[Xq];exact ⟨h2,hf⟩
  rw[Qa Go.Pf.c42_b2.eq_1];simp;refine Qw (hS s hs) (by simp) ?_
  simp;intro _;refine ⟨fun e=>?_,fun e=>?_⟩
  ·have h4:rs s fs=[]:=by simp[rs];omega
   simp[pap,err,h3,h4]
  ·have h4:(spl s).length<=9:=by omega
   have h5:rs s fs=rdg fs.length 9 (spl s):=by simp[rs,h3,h4]
   refine fun _=>?_
   refine Qw (QmU hK fs.length hf 9 (by omega) (spl s) h4) (by simp) ?_
   rw[<- h5];simp;refine fun _=>⟨fun e=>?_,fun e=>?_⟩
   ·simp[pap,err,h3,e]
   ·simp[h1,pap,err,h3,e,tru]
 ·rintro i e o hi ⟨mv,h1,h2,rfl,rfl⟩ ih
  have l1:=Qc7 fs i;have l2:=QgZ fs i;have e5:2 ^ i<=2 ^ 5:=Qz0 (by omega) (by omega)
  have e6:QmC .u64 1 (i:Int)=2 ^ i:=by
   have:=Qhh 1 i (by omega) (by omega)
   simpa using this
  have e7:trN fs (i+1)=JG (trN fs i) i fs[i]:=by simp[trN,hi]
  have ih':=fun mv h h'=>ih _ _ ⟨mv,h,h',rfl,rfl⟩
  rw[e7] at ih';generalize trN fs i=T at *;rw[Qa Go.Pf.c42_b2.eq_1]
  have ok:1<=fs[i]/\fs[i]<=3->∀ k∈fs.take (i+1),1<=k/\k<=3:=by
   intro h k hk;rw[Qzn hi] at hk;rcases QzD.1 hk with c | c
   ·exact h2 k c
   ·rw[QzK] at c;subst c;exact h
  simp[hi,e6];refine ⟨fun f1=>⟨h1,fun _=>?_⟩,fun f1=>⟨fun f2=>⟨by omega,?_⟩,fun f2=>⟨fun f3=>⟨h1,fun _=>?_⟩,fun f3=>?_⟩⟩⟩
  ·have e8:JG T i fs[i]=T.map (· ||| 2 ^ i):=by simp[JG,f1]
   rw[e8] at ih'
   have:=Qrx (K:=K) (r:=.tup [pap s fs,.int .i64 (err s fs)]) (.ptr [.str s,Q8 fs]) (Q8 fs) (.int .i64 (fs.length:Nat)) (.int .i64 (i:Nat)) T i mv (by omega) (by omega)
    (fun t ht=>QzJ (l2 t ht) (by omega)) h1
    [AI.inBlock 3,AI.inBlock 2,AI.inBlock 1,.code (.ops [⟨some 77,none,.bin .add (.t 22) (.int .i64 1)⟩,⟨some 22,none,.mov (.t 77)⟩] false),.inLoop c42_b2 [1,4,20,21,22] [16,18],AI.inBlock 0,.code (.seq (.ops [⟨some 78,none,.fld 0 (.t 1)⟩,⟨some 79,none,.ldi 1 false (.t 78)⟩,⟨some 80,none,.call 71 [.t 79,.str [32]] []⟩,⟨some 11,none,.mov (.t 80)⟩] false) (.seq (.seq (.ops [⟨some 81,none,.mov (.t 11)⟩,⟨some 82,none,.len (.t 81)⟩,⟨some 83,none,.bin .gtr (.t 82) (.int .i64 11)⟩] false) (.cond (.t 83) (.seq (.ops [⟨some 2,none,.mov (.nilp)⟩,⟨some 3,none,.mov (.int .i64 131)⟩] false) (.ret)) (.skip))) (.seq (.seq (.ops [⟨some 84,none,.mov (.t 4)⟩,⟨some 85,none,.mov (.t 11)⟩,⟨some 86,none,.fld 1 (.t 1)⟩,⟨some 87,none,.ldi 1 false (.t 86)⟩,⟨some 88,none,.len (.t 87)⟩,⟨some 89,none,.call 72 [.t 85,.t 88] []⟩,⟨some 90,none,.nilc (.t 84)⟩,⟨some 91,none,.fld 0 (.t 90)⟩,⟨none,none,.sto 18 1 (.t 91) (.t 89)⟩] false) (.seq (.ops [⟨some 92,none,.mov (.t 4)⟩,⟨some 93,none,.nilc (.t 92)⟩,⟨some 94,none,.fld 0 (.t 93)⟩,⟨some 95,none,.ldo 18 1 false (.t 94)⟩,⟨some 96,none,.len (.t 95)⟩,⟨some 97,none,.bin .eql (.t 96) (.int .i64 0)⟩] false) (.cond (.t 97) (.seq (.ops [⟨some 2,none,.mov (.nilp)⟩,⟨some 3,none,.mov (.int .i64 131)⟩] false) (.ret)) (.skip)))) (.seq (.ops [⟨some 98,none,.mov (.t 4)⟩,⟨some 2,none,.mov (.t 98)⟩,⟨some 3,none,.mov (.int .i64 0)⟩] false) (.ret)))))]
    ?_
   ·simpa using this
   ·intro mv' hm'
    have:=ih' mv' (by simpa using hm') (ok (by omega))
    rw[Qa Go.Pf.c42_b0.eq_1];simp at this |-;exact ⟨by omega,this⟩
  ·have e8:JG T i fs[i]=T:=by simp[JG,f2]
   rw[e8] at ih';have:=ih' mv h1 (ok (by omega))
   simpa using this
  ·have e8:JG T i fs[i]=T++T.map (· ||| 2 ^ i):=by simp[JG,f3]
   rw[e8] at ih'
   have:=Qr3 (K:=K) (r:=.tup [pap s fs,.int .i64 (err s fs)]) (.ptr [.str s,Q8 fs]) (Q8 fs) (.int .i64 (fs.length:Nat)) (.int .i64 (i:Nat)) T i mv (by omega) (by omega)
    (fun t ht=>QzJ (l2 t ht) (by omega)) h1
    [AI.inBlock 5,AI.inBlock 2,AI.inBlock 1,.code (.ops [⟨some 77,none,.bin .add (.t 22) (.int .i64 1)⟩,⟨some 22,none,.mov (.t 77)⟩] false),.inLoop c42_b2 [1,4,20,21,22] [16,18],AI.inBlock 0,.code (.seq (.ops [⟨some 78,none,.fld 0 (.t 1)⟩,⟨some 79,none,.ldi 1 false (.t 78)⟩,⟨some 80,none,.call 71 [.t 79,.str [32]] []⟩,⟨some 11,none,.mov (.t 80)⟩] false) (.seq (.seq (.ops [⟨some 81,none,.mov (.t 11)⟩,⟨some 82,none,.len (.t 81)⟩,⟨some 83,none,.bin .gtr (.t 82) (.int .i64 11)⟩] false) (.cond (.t 83) (.seq (.ops [⟨some 2,none,.mov (.nilp)⟩,⟨some 3,none,.mov (.int .i64 131)⟩] false) (.ret)) (.skip))) (.seq (.seq (.ops [⟨some 84,none,.mov (.t 4)⟩,⟨some 85,none,.mov (.t 11)⟩,⟨some 86,none,.fld 1 (.t 1)⟩,⟨some 87,none,.ldi 1 false (.t 86)⟩,⟨some 88,none,.len (.t 87)⟩,⟨some 89,none,.call 72 [.t 85,.t 88] []⟩,⟨some 90,none,.nilc (.t 84)⟩,⟨some 91,none,.fld 0 (.t 90)⟩,⟨none,none,.sto 18 1 (.t 91) (.t 89)⟩] false) (.seq (.ops [⟨some 92,none,.mov (.t 4)⟩,⟨some 93,none,.nilc (.t 92)⟩,⟨some 94,none,.fld 0 (.t 93)⟩,⟨some 95,none,.ldo 18 1 false (.t 94)⟩,⟨some 96,none,.len (.t 95)⟩,⟨some 97,none,.bin .eql (.t 96) (.int .i64 0)⟩] false) (.cond (.t 97) (.seq (.ops [⟨some 2,none,.mov (.nilp)⟩,⟨some 3,none,.mov (.int .i64 131)⟩] false) (.ret)) (.skip)))) (.seq (.ops [⟨some 98,none,.mov (.t 4)⟩,⟨some 2,none,.mov (.t 98)⟩,⟨some 3,none,.mov (.int .i64 0)⟩] false) (.ret)))))]
    ?_
   ·simpa using this
   ·have:=ih' mv (by simp;omega) (ok (by omega))
    rw[Qa Go.Pf.c42_b1.eq_1];simp at this |-;exact ⟨by omega,this⟩
  ·have h3:Xq fs=false:=by
    cases hc:Xq fs with
    | false=>rfl
    | true =>
      simp[Xq] at hc;have:=hc.1 _ (Qzr hi);omega
   simp[pap,err,h3]
end
end Go.Pp
namespace Go.Pp
open Go Go.Ev
theorem QfX (x:List W) (l:W) (c:UInt8):Zk (x++[l]) c=x++Zk [l] c:=by
 unfold Zk;split
 ·simp
 ·simp
theorem qb (s:W):∀ (x:List W) (l:W),s.foldl Zk (x++[l])=x++s.foldl Zk [l]:=by
 induction s with
 | nil=>intro x l;rfl
 | cons c s ih =>
   intro x l;simp only[QAw];rw[QfX];by_cases h:c=32
   ·have e:Zk [l] c=[l]++[[]]:=by simp[Zk,h]
    rw[e,<- QzC,ih,ih [l] []];simp
   ·have e:Zk [l] c=[l++[c]]:=by simp[Zk,h]
    rw[e,ih]
def QyP:List W->W
 | []=>[]
 | [w]=>w
 | w::v::r=>w++32::QyP (v::r)
theorem Qk3 (s:W):∀ l:W,s.foldl Zk [l]≠[]:=by
 induction s with
 | nil=>intro l;simp
 | cons c s ih =>
   intro l;simp only[QAw];by_cases h:c=32
   ·have e:Zk [l] c=[l]++[[]]:=by simp[Zk,h]
    rw[e,qb];simp
   ·have e:Zk [l] c=[l++[c]]:=by simp[Zk,h]
    rw[e];exact ih _
theorem Qhd (a b:W):spl (a++32::b)=spl a++spl b:=by
 unfold spl;rw[List.foldl_append];have h:=Qk3 a [];generalize a.foldl Zk [[]]=x at *;obtain ⟨y,l,rfl⟩:∃ y l,x=y++[l]:=⟨x.dropLast,x.getLast h,(List.dropLast_concat_getLast h).symm⟩
 simp only[QAw];have e:Zk (y++[l]) 32=(y++[l])++[[]]:=by simp[Zk]
 rw[e,qb]
def Qc3:Rd->List W
 | .fact n=>[[UInt8.ofNat (97+n)]]
 | .no r=>Qmu::Qc3 r
 | .bin o a b=>Qc3 a++o.word::Qc3 b
end Go.Pp
namespace Go.Proofs
open Go.Shelf
def Tryz.laysM146_ren:Go.Shelf.Ren:=⟨fun | 146=>71 | 221=>96 | 268=>127 | 138=>128 | 143=>129 | 195=>173 | 197=>174 | 218=>175 | 219=>176 | 260=>209 | 217=>210 | 225=>211 | 224=>212 | 267=>213 | 266=>230 | 314=>231 | n=>n,fun | 9=>9 | 31=>105 | 3=>3 | 4=>4 | 0=>0 | 105=>274 | 21=>21 | 5=>5 | 46=>47 | 119=>322 | 139=>325 | 138=>324 | 146=>326 | 51=>306 | n=>n,fun | 1=>0 | 3=>1 | 4=>2 | n=>n⟩
theorem Tryz.laysM146:Go.Proofs.LaysM.n146 Tryz.prog Tryz.laysM146_ren:={
 mixed:=by kernel_rfl
 f138:=Tryz.func128.trans (congrArg some (by kernel_rfl))
 f143:=Tryz.func129.trans (congrArg some (by kernel_rfl))
 f146:=Tryz.func71.trans (congrArg some (by kernel_rfl))
 f195:=Tryz.func173.trans (congrArg some (by kernel_rfl))
 f197:=Tryz.func174.trans (congrArg some (by kernel_rfl))
 f217:=Tryz.func210.trans (congrArg some (by kernel_rfl))
 f218:=Tryz.func175.trans (congrArg some (by kernel_rfl))
 f219:=Tryz.func176.trans (congrArg some (by kernel_rfl))
 f221:=Tryz.func96.trans (congrArg some (by kernel_rfl))
 f224:=Tryz.func212.trans (congrArg some (by kernel_rfl))
 f225:=Tryz.func211.trans (congrArg some (by kernel_rfl))
 f260:=Tryz.func209.trans (congrArg some (by kernel_rfl))
 f266:=Tryz.func230.trans (congrArg some (by kernel_rfl))
 f267:=Tryz.func213.trans (congrArg some (by kernel_rfl))
 f268:=Tryz.func127.trans (congrArg some (by kernel_rfl))
 f314:=Tryz.func231.trans (congrArg some (by kernel_rfl))
 t0:=Tryz.underlying0
 a0:=Tryz.isAgg0
 z0:=Tryz.sizeOf0
 v0:=Tryz.zeroValue0
 t3:=Tryz.underlying3
 a3:=Tryz.isAgg3
 z3:=Tryz.sizeOf3
 v3:=Tryz.zeroValue3
 t4:=Tryz.underlying4
 a4:=Tryz.isAgg4
 z4:=Tryz.sizeOf4
 v4:=Tryz.zeroValue4
 t5:=Tryz.underlying5
 a5:=Tryz.isAgg5
 z5:=Tryz.sizeOf5
 v5:=Tryz.zeroValue5
 t9:=Tryz.underlying9
 a9:=Tryz.isAgg9
 z9:=Tryz.sizeOf9
 v9:=Tryz.zeroValue9
 t21:=Tryz.underlying21
 a21:=Tryz.isAgg21
 z21:=Tryz.sizeOf21
 v21:=Tryz.zeroValue21
 t31:=Tryz.underlying105
 a31:=Tryz.isAgg105
 z31:=Tryz.sizeOf105
 v31:=Tryz.zeroValue105
 t46:=Tryz.underlying47
 a46:=Tryz.isAgg47
 z46:=Tryz.sizeOf47
 v46:=Tryz.zeroValue47
 t51:=Tryz.underlying306
 a51:=Tryz.isAgg306
 z51:=Tryz.sizeOf306
 v51:=Tryz.zeroValue306
 t105:=Tryz.underlying274
 a105:=Tryz.isAgg274
 z105:=Tryz.sizeOf274
 v105:=Tryz.zeroValue274
 t119:=Tryz.underlying322
 a119:=Tryz.isAgg322
 z119:=Tryz.sizeOf322
 t138:=Tryz.underlying324
 a138:=Tryz.isAgg324
 z138:=Tryz.sizeOf324
 v138:=Tryz.zeroValue324
 t139:=Tryz.underlying325
 a139:=Tryz.isAgg325
 z139:=Tryz.sizeOf325
 v139:=Tryz.zeroValue325
 t146:=Tryz.underlying326
 a146:=Tryz.isAgg326
 z146:=Tryz.sizeOf326
 v146:=Tryz.zeroValue326
 g1:=by kernel_rfl
 g3:=by kernel_rfl
 g4:=by kernel_rfl
 i0:=by kernel_rfl
 i3:=by kernel_rfl
 i4:=by kernel_rfl
 i5:=by kernel_rfl
 i9:=by kernel_rfl
 i21:=by kernel_rfl
 i31:=by kernel_rfl
 i46:=by kernel_rfl
 i51:=by kernel_rfl
 i105:=by kernel_rfl
 i138:=by kernel_rfl
 i139:=by kernel_rfl
 i146:=by kernel_rfl
 m1:=by kernel_rfl
 s1_3:=fun w h=>Go.Proofs.cell_of_shapedOpen_int (zero:=#[.int .i64 0]) (t:=3) h (of_decide_eq_true (by kernel_rfl)) (by kernel_rfl) rfl (by kernel_rfl) (by kernel_rfl) Tryz.underlying3
 m3:=by kernel_rfl
 m4:=by kernel_rfl }
theorem Tryz.strings_Split_shaped (s sep:ByteArray) (w:World) (h:w.ShapedOpen Tryz.prog) (hs:s.size<4294967281) (h1:1<=sep.size) :
  Calls Tryz.prog 71 #[.string s,.string sep] w fun e w' =>
   e=.returned (.slice (some ⟨w.heap.size,0,none⟩) (Lib.countB s sep+1) (Lib.countB s sep+1))/\w'=w.alloc (.cells ((Lib.splitB sep 0 (Lib.countB s sep) s).map Value.string).toArray 9):=Any.strings_Split_shaped Tryz.laysM146 s sep w h hs h1
end Go.Proofs
namespace Go.Pp
open Go Go.Ev Go.Proofs Go.RowKit
theorem Ye (s:W):spl (32::s)=[]::spl s:=by
 have:=Qhd [] s;simpa[spl] using this
theorem Qgn (s:W):∀ l:W,s.foldl Zk [l]=(l++(spl s).headD [])::(spl s).tail:=by
 induction s with
 | nil=>intro l;simp[spl]
 | cons c s ih =>
   intro l;by_cases h:c=32
   ·subst h
    rw[Ye,QAw];have e:Zk [l] 32=[l]++[[]]:=by simp[Zk]
    rw[e,qb];simp[spl]
   ·have e:∀ l,Zk [l] c=[l++[c]]:=fun l=>by simp[Zk,h]
    rw[QAw,e,ih]
    have:spl (c::s)=([c]++(spl s).headD [])::(spl s).tail:=by
     unfold spl;rw[QAw,e,ih];rfl
    rw[this];simp
theorem QeU (c:UInt8) (s:W) (h:c≠32):spl (c::s)=(c::(spl s).headD [])::(spl s).tail:=by
 have e:Zk [[]] c=[[c]]:=by simp[Zk,h]
 unfold spl;rw[QAw,e,Qgn];rfl
theorem qQ:∀ s:W,Lib.splitK [32] 0 (Lib.count s [32]) s=spl s
 | []=>by
   rw[Lib.count_miss (by simp[Lib.index])]
   rfl
 | c::s=>by
   have ih:=qQ s;by_cases h:c=32
   ·subst h
    have hix:Lib.index ((32:UInt8)::s) [32]=0:=by rw[Lib.index];simp[List.isPrefixOf]
    rw[Lib.count_cons_eq,Nat.add_comm,Lib.splitK,hix,Ye,<- ih];simp
   ·rw[Lib.count_cons_ne c 32 s h,QeU c s h,<- ih]
    have hp:([32]:List UInt8).isPrefixOf (c::s)=false:=by simp[List.isPrefixOf,Ne.symm h]
    have hix:Lib.index (c::s) [32]=if Lib.index s [32] == -1 then -1 else Lib.index s [32]+1:=by rw[Lib.index,hp];simp
    cases hk:Lib.count s [32] with
    | zero=>simp[Lib.splitK]
    | succ k =>
      have hm:¬ Lib.index s [32] = -1:=fun e=>by rw[Lib.count_miss e] at hk;cases hk
      have hge:=Lib.index_ge s [32];obtain ⟨j,hj⟩:∃ j:Nat,Lib.index s [32]=j:=⟨(Lib.index s [32]).toNat,by omega⟩
      have h1:¬ ((j:Int) == -1)=true:=by simp
      have h2:¬ ((j:Int)+1 == -1)=true:=by simp;omega
      have h3:((j:Int)+1).toNat=j+1:=by omega
      simp only[Lib.splitK,hix,hj,if_neg h1,if_neg h2,h3,Int.toNat_natCast];simp
theorem Qhc:∀ s:W,(spl s).length<=s.length+1
 | []=>by simp[spl]
 | c::s=>by
   have ih:=Qhc s;by_cases h:c=32
   ·subst h;rw[Ye];simp;exact ih
   ·rw[QeU c s h];simp;omega
def KW:World->Prop:=fun w=>w.ShapedOpen Tryz.prog
theorem hKW:∀ w w',KW w->Below w.heap.size w w'->KW w':=fun _ _ h hb=>World.ShapedOpen.keptBut h (hb.frame (fun _=>False)) (fun _ c=>c.elim)
theorem hSW (s:W) (hs:s.length<=1000):Ev.Good Tryz.prog KW 71 [.str s,.str [32]] (strs (spl s)):=by
 intro w ok vs hk hok hl hx
 obtain ⟨v0,v1,rfl⟩:∃ v0 v1,vs=[v0,v1]:=by
  match vs,hl with
  | [a,b],_=>exact ⟨a,b,rfl⟩
 have r0:=hx 0 _ v0 rfl rfl;have r1:=hx 1 _ v1 rfl rfl;cases r0;cases r1;have:=Tryz.strings_Split_shaped ⟨s.toArray⟩ ⟨[32].toArray⟩ w hk (by simp[ByteArray.size];omega) (by simp[ByteArray.size])
 refine this.mono fun e w' ⟨he,hw⟩=>?_
 subst he hw;have hb:=Qq w (.cells ((Lib.splitB ⟨[32].toArray⟩ 0 (Lib.countB ⟨s.toArray⟩ ⟨[32].toArray⟩) ⟨s.toArray⟩).map Value.string).toArray 9)
 have hd:(Lib.splitB ⟨[32].toArray⟩ 0 (Lib.countB ⟨s.toArray⟩ ⟨[32].toArray⟩) ⟨s.toArray⟩).map (·.data.toList)=spl s:=by
  rw[Lib.splitB_data];exact qQ s
 have hlen:=Lib.splitB_all ⟨[32].toArray⟩ (by simp[ByteArray.size]) 0 _ ⟨s.toArray⟩ rfl
 generalize Lib.countB ⟨s.toArray⟩ ⟨[32].toArray⟩=n at *;generalize Lib.splitB ⟨[32].toArray⟩ 0 n ⟨s.toArray⟩=L at *;refine ⟨_,rfl,?_,hb⟩;have hl2:(spl s).length=n+1:=by rw[<- hd,Qzw,hlen]
 have hnl:n+1<=maxLen:=by
  have:=Qhc s;simp only[maxLen];omega
 have rep:=Qv.sl (ok:=ok) (w:=w.alloc (.cells (L.map Value.string).toArray 9)) 1 ((spl s).map fun s=>[IV.str s]) w.heap.size 0 (n+1) (fun k=>.string (L.getD k default)) (by simp[hl2]) hnl (by simp) (fun k hk=>?_) (fun i j c x hi hj=>?_)
 ·simpa[hl2] using rep
 ·simp[hl2] at hk
  have hkl:k<L.length:=by omega
  refine ⟨hok _ (Qzq _),?_,rfl⟩;rw[Qzx];exact Ym w _ 9 k _ (by simp[hkl])
 ·simp only[Qzu,Qzo] at hi
  obtain ⟨t,ht,rfl⟩:=hi
  have hj0:j=0:=by
   have:=(Qzl.1 hj).1;simp at this;exact this
  subst hj0;simp at hj;subst hj;rw[<- hd,Qzu,Qzo] at ht;obtain ⟨z,hz,rfl⟩:=ht;have e:L.getD (i*1+0) default=z:=by simp[hz]
  rw[e];have:=Qv.str (ok:=ok) (w:=w.alloc (.cells (L.map Value.string).toArray 9)) z.data.toList;simpa using this
end Go.Pp
namespace Go.Pf
open Go Go.Ev Go.Proofs Go.RowKit
variable {K:World->Prop} (hK:∀ w w',K w->Below w.heap.size w w'->K w')
set_option maxRecDepth 8000
structure Qr where
 what:Int
 pos:Int
 frm:Int
 bar:Int
 smith:Int
 deriving DecidableEq
structure YZ where
 after:Int
 pos:Int
 frm:Int
 bar:Int
 smith:Int
 deriving DecidableEq
structure Qj where
 deeds:List Qr
 sights:List YZ
 wrong:Int
 deriving DecidableEq
structure ZP where
 long:Int
 lo:Int
 hi:Int
 deriving DecidableEq
structure Zq where
 weight:Int
 mins:Int
 load:Int
 off:Int
 deriving DecidableEq
structure Machine where
 levers:List ZP
 water:Int
 llo:Int
 lhi:Int
 bals:List Zq
 wrong:Int
 deriving DecidableEq
structure Qby where
 weight:Int
 mins:Int
 broke:Int
 deriving DecidableEq
structure QE where
 chain:Qj
 machine:Machine
 trials:List Qby
 need:Int
 rule:Int
 deriving DecidableEq
@[simp] def dC (d:Qr):List IV:=[.int .i64 d.what,.int .i64 d.pos,.int .i64 d.frm,.int .i64 d.bar,.int .i64 d.smith]
@[simp] def sC (s:YZ):List IV:=[.int .i64 s.after,.int .i64 s.pos,.int .i64 s.frm,.int .i64 s.bar,.int .i64 s.smith]
@[simp] def leC (l:ZP):List IV:=[.int .i64 l.long,.int .i64 l.lo,.int .i64 l.hi]
@[simp] def baC (b:Zq):List IV:=[.int .i64 b.weight,.int .i64 b.mins,.int .i64 b.load,.int .i64 b.off]
@[simp] def trC (t:Qby):List IV:=[.int .i64 t.weight,.int .i64 t.mins,.int .i64 t.broke]
@[simp] def Q8 (l:List Int):IV:=.sl 1 (l.map fun n=>[.int .i64 n])
@[simp] def QD (l:List Qr):IV:=.sl 5 (l.map dC)
@[simp] def Qy (l:List YZ):IV:=.sl 5 (l.map sC)
@[simp] def YQ (l:List ZP):IV:=.sl 3 (l.map leC)
@[simp] def Qbu (l:List Zq):IV:=.sl 4 (l.map baC)
@[simp] def QgY (l:List Qby):IV:=.sl 3 (l.map trC)
@[simp] def chV (c:Qj):IV:=.agg [QD c.deeds,Qy c.sights,.int .i64 c.wrong]
@[simp] def maV (m:Machine):IV:=.agg [YQ m.levers,.int .i64 m.water,.int .i64 m.llo,.int .i64 m.lhi,Qbu m.bals,.int .i64 m.wrong]
@[simp] def prV (p:QE):IV:=.agg [QD p.chain.deeds,Qy p.chain.sights,.int .i64 p.chain.wrong,YQ p.machine.levers,.int .i64 p.machine.water,.int .i64 p.machine.llo,.int .i64 p.machine.lhi,Qbu p.machine.bals,.int .i64 p.machine.wrong,
 QgY p.trials,.int .i64 p.need,.int .i64 p.rule]
def inR (n a b:Int):Prop:=a<=n/\n<=b
instance (n a b:Int):Decidable (inR n a b):=by unfold inR;infer_instance
include hK
theorem Xp (x a b:Int):Ev.Good Tryz.prog K 137 [.int .i64 x,.int .i64 a,.int .i64 b] (.bool (decide (inR x a b))):=by
 refine Qb hK Qqr (by simp) ?_
 by_cases h:a<=x<;>simp[inR,h]
theorem Vs (x a b:Int):Ev.Good Tryz.prog K 66 [.int .i64 x,.int .i64 a,.int .i64 b] (.bool (decide (inR x a b))):=by
 refine Qb hK QtI (by simp) ?_
 by_cases h:a<=x<;>simp[inR,h]
theorem Xv (x a b:Int):Ev.Good Tryz.prog K 80 [.int .i64 x,.int .i64 a,.int .i64 b] (.bool (decide (inR x a b))):=by
 refine Qb hK Qtz (by simp) ?_
 by_cases h:a<=x<;>simp[inR,h]
theorem QmV (x a b:Int):Ev.Good Tryz.prog K 60 [.int .i64 x,.int .i64 a,.int .i64 b] (.bool (decide (inR x a b))):=by
 refine Qb hK c60_ok (by simp) ?_
 by_cases h:a<=x<;>simp[inR,h]
theorem QdJ (a b c:Int) (ha:0<=a/\a<1000000) (hc:0<=c/\c<1000000):Ev.Good Tryz.prog K 241 [.int .i64 a,.int .i64 b,.int .i64 c] (.int .i64 (if b=1 then c-1-a else a)):=by
 refine Qb hK Qpp (by simp) ?_
 by_cases hb:b=1
 ·simp[hb,IntKind.inR,IntKind.min,IntKind.max,IntKind.bits,IntKind.signed]
  omega
 ·simp[hb]
theorem QdK (a b c:Int) (ha:0<=a/\a<1000000) (hc:0<=c/\c<1000000):Ev.Good Tryz.prog K 215 [.int .i64 a,.int .i64 b,.int .i64 c] (.int .i64 (if b=1 then c-1-a else a)):=by
 refine Qb hK QpC (by simp) ?_
 by_cases hb:b=1
 ·simp[hb,IntKind.inR,IntKind.min,IntKind.max,IntKind.bits,IntKind.signed]
  omega
 ·simp[hb]
theorem Qif (bar smith least:Int):Ev.Good Tryz.prog K 140 [.int .i64 bar,.int .i64 smith,.int .i64 least] (.bool (decide (inR bar least 99/\inR smith least 99))):=by
 refine Qb hK Qqo (by simp) ?_
 simp;refine cK (Xp hK _ _ _) ?_;by_cases h:inR bar least 99
 ·simp[h]
  exact cK (Xp hK _ _ _) (by simp)
 ·simp[h]
def grow (d:Qr):Int:=if d.what=1 then 1 else if d.what=2 then -1 else 0
theorem QdQ (d:Qr):Ev.Good Tryz.prog K 139 [.agg (dC d)] (.int .i64 (grow d)):=by
 refine Qb hK Qqp (by simp) ?_
 by_cases h1:d.what=1
 ·simp[grow,h1]
 ·by_cases h2:d.what=2<;>simp[grow,h1,h2]
def QY (d:Qr) (many:Int):Prop :=
 (d.what=1/\inR d.frm 0 2/\inR d.pos 0 many/\inR d.bar 0 99/\inR d.smith 0 99)\/(d.what=2/\inR d.frm 0 2/\inR d.pos 0 (many-1)/\d.bar=0/\d.smith=0) \/
 ((d.what=3\/d.what=4)/\d.pos=0/\d.frm=0/\d.bar=0/\d.smith=0)
instance (d:Qr) (many:Int):Decidable (QY d many):=by unfold QY;infer_instance
theorem QoG (d:Qr) (many:Int) (hm:0<=many/\many<1000000):Ev.Good Tryz.prog K 138 [.agg (dC d),.int .i64 many] (.bool (decide (QY d many))):=by
 refine Qb hK Qqq (by simp) ?_
 by_cases h1:d.what=1
 ·simp[h1,QY]
  refine cK (Xp hK _ _ _) ?_;by_cases h:inR d.frm 0 2
  ·simp[h]
   refine cK (Xp hK _ _ _) ?_;by_cases h':inR d.pos 0 many
   ·simp[h']
    exact cK (Qif hK _ _ _) (by simp)
   ·simp[h']
  ·simp[h]
 ·by_cases h2:d.what=2
  ·by_cases h3:d.bar=0
   ·by_cases h4:d.smith=0
    ·simp[h2,h3,h4,QY]
     refine cK (Xp hK _ _ _) ?_;by_cases h:inR d.frm 0 2
     ·simp[h]
      exact ⟨by omega,cK (Xp hK _ _ _) (by simp)⟩
     ·simp[h]
    ·simp[h2,h3,h4,QY]
   ·simp[h2,h3,QY]
  ·by_cases h3:d.what=3
   ·simp[h3,QY]
   ·by_cases h4:d.what=4
    ·simp[h4,QY]
    ·simp[h1,h2,h3,h4,QY]
omit hK
@[simp] def Yz (l:List Nat):IV:=.sl 1 (l.map fun (n:Nat)=>[.int .i64 (n:Int)])
def cnt (ds:List Qr) (i:Nat):Int:=((ds.take i).map grow).sum
@[simp] theorem Qu2 (ds:List Qr):cnt ds 0=0:=by simp[cnt]
theorem Vz (ds:List Qr) (i:Nat) (h:i<ds.length):cnt ds (i+1)=cnt ds i+grow ds[i]:=by
 unfold cnt;rw[Qzn h,QzU,List.sum_append];simp
theorem Ql0 (ds:List Qr) (i n:Nat) (h:i<=n):cnt (ds.take n) i=cnt ds i:=by
 simp[cnt,List.take_take,QzZ h]
theorem V3 (d:Qr) : -1<=grow d/\grow d<=1:=by
 unfold grow;omega
def OkD (ds:List Qr) (n:Nat):Prop:=∀ i (h:i<ds.length),i<n->QY ds[i] (cnt ds i)
noncomputable instance (ds:List Qr) (n:Nat):Decidable (OkD ds n):=Classical.propDecidable _
theorem OkD.cnt {ds:List Qr} {n:Nat} (h:OkD ds n):∀ i,i<=n->i<=ds.length->0<=cnt ds i/\cnt ds i<=i
 | 0,_,_=>by simp
 | i+1,h1,h2=>by
   have ih:=OkD.cnt h i (by omega) (by omega)
   rw[Vz ds i (by omega)]
   have hd:=h i (by omega) (by omega)
   have hb:=V3 (ds[i]'(by omega))
   refine ⟨?_,by push_cast;omega⟩
   rcases hd with ⟨h3,_⟩ | ⟨h3,_,h4,_⟩ | ⟨h3,_⟩
   ·simp[grow,h3];omega
   ·simp only[inR] at h4
    omega
   ·have:grow (ds[i]'(by omega))=0:=by rcases h3 with h3 | h3<;>simp[grow,h3]
    omega
theorem OkD.succ {ds:List Qr} {n:Nat} (h:OkD ds n) (hn:n<ds.length) (hd:QY ds[n] (Go.Pf.cnt ds n)):OkD ds (n+1):=fun i hi hin=>by
 rcases Nat.lt_succ_iff_lt_or_eq.1 hin with h1 | h1
 ·exact h i hi h1
 grind
def VY (ds:List Qr) (n:Nat):List Int:=(List.range (n+1)).map (cnt ds)
@[simp] theorem Qse (ds:List Qr) (n:Nat):(VY ds n).length=n+1:=by simp[VY]
theorem Qab (ds:List Qr) (n:Nat):VY ds (n+1)=VY ds n++[cnt ds (n+1)]:=by simp[VY,QAv]
theorem XQ (ds:List Qr) (n i:Nat) (h:i<n+1):(VY ds n)[i]'(by simpa using h)=cnt ds i:=by simp[VY]
def Zm (s:YZ) (ds:List Qr):Prop:=inR s.after 0 ds.length/\inR s.frm 0 1/\inR s.pos 0 (cnt ds s.after.toNat-1)/\inR s.bar (-1) 99/\inR s.smith (-1) 99
instance (s:YZ) (ds:List Qr):Decidable (Zm s ds):=by unfold Zm;infer_instance
structure OkC (c:Qj):Prop where
 len:c.deeds.length<=12
 slen:c.sights.length<=8
 wrong:inR c.wrong 0 8
 deeds:OkD c.deeds c.deeds.length
 sights:∀ s∈c.sights,Zm s c.deeds
noncomputable instance (c:Qj):Decidable (OkC c):=Classical.propDecidable _
def Xo (p:Qr->Bool):List Qr->Nat->List Nat
 | [],_=>[]
 | d::r,i=>if p d then i::Xo p r (i+1) else Xo p r (i+1)
theorem JS (p:Qr->Bool) (r:List Qr):∀ (l:List Qr) (i:Nat),Xo p (l++r) i=Xo p l i++Xo p r (i+l.length)
 | [],i=>by simp[Xo]
 | d::l,i=>by
   have e:i+1+l.length=i+(l.length+1):=by omega
   simp only[QAB,Xo,JS p r l,Qzv,e];split<;>simp
theorem W0 (p:Qr->Bool) (ds:List Qr) (i:Nat) (h:i<ds.length):Xo p (ds.take (i+1)) 0=if p ds[i] then Xo p (ds.take i) 0++[i] else Xo p (ds.take i) 0:=by
 rw[Qzn h,JS];have e:(ds.take i).length=i:=by simp;omega
 simp only[e,Qzx,Xo];split<;>simp
theorem Qa4 (p:Qr->Bool):∀ (l:List Qr) (i:Nat),(Xo p l i).length<=l.length
 | [],_=>by simp[Xo]
 | d::l,i=>by
   have:=Qa4 p l (i+1);simp only[Xo]
   grind
def Q3 (d:Qr):Bool:=decide (d.what=1)
def QnS (d:Qr):Bool:=decide (d.what=4)
def Qvf (ds:List Qr):List Int:=(ds.filter Q3).map (·.smith)
def Qn (ds:List Qr):Int:=cnt ds ds.length
def qy (ds:List Qr):Nat:=(ds.filter Q3).length
def Qwn (c:Qj) (n:Nat):Qj:=⟨c.deeds.take n,[],0⟩
include hK
theorem Qsm (d:Qr) (many:Int) (hm:0<=many/\many<1000000):Ev.Good Tryz.prog K 98 [.agg (dC d),.int .i64 many] (.bool (decide (QY d many))):=by
 refine Qb hK Qtk (by simp) ?_
 by_cases h1:d.what=1
 ·simp[h1,QY]
  refine cK (Xv hK _ _ _) ?_;by_cases h:inR d.frm 0 2
  ·simp[h]
   refine cK (Xv hK _ _ _) ?_;by_cases h':inR d.pos 0 many
   ·simp[h']
    refine cK (Xv hK _ _ _) ?_;by_cases h'':inR d.bar 0 99
    ·simp[h'']
     exact cK (Xv hK _ _ _) (by simp)
    ·simp[h'']
   ·simp[h']
  ·simp[h]
 ·by_cases h2:d.what=2
  ·simp[h2,QY]
   refine cK (Xv hK _ _ _) ?_;by_cases h:inR d.frm 0 2
   ·simp[h]
    refine ⟨by omega,cK (Xv hK _ _ _) ?_⟩
    by_cases h':inR d.pos 0 (many-1)
    ·simp[h']
     omega
    ·simp[h']
   ·simp[h]
  ·by_cases h3:d.what=3
   ·simp[h3,QY]
   ·by_cases h4:d.what=4
    ·simp[h4,QY]
    ·simp[h1,h2,h3,h4,QY]
theorem Qh5 (ds:List Qr) (hl:ds.length<=1000):Ev.Good Tryz.prog K 75 [QD ds] (.tup [if OkD ds ds.length then Q8 (VY ds ds.length) else .sl 1 [],.bool (decide (OkD ds ds.length))]):=by
 refine Qb hK QtE (by simp) ?_
 simp;refine Qu (fun i=>[(0,AV.iv (QD ds)),(4,AV.aref 7 (i+1)),(5,AV.iv (IV.int IntKind.i64 (i:Nat)))]) (fun i=>[(7,AO.arr 3 1 (emb ((VY ds i).map fun n=>[.int .i64 n])) 0)]) ds.length (fun i=>OkD ds i) (fun i _ h=>by omega) ?_ ?_
 ·intro h
  rw[Qa QjC.eq_1];simp[h];intro _;exact Qzt (by simp)
 ·intro i hi h ih
  have hb:=h.cnt i (Qzq _) (by omega)
  rw[Qa QjC.eq_1];simp[hi,List.getElem?_append,XQ] at ih |-;intro _;refine cK (Qsm hK ds[i] (cnt ds i) ⟨by omega,by omega⟩) ?_
  by_cases hd:QY ds[i] (cnt ds i)
  ·have ih:=ih (h.succ hi hd)
   have hs:=Vz ds i hi;rw[Qab,hs] at ih;by_cases h1:ds[i].what=1
   ·have hg:cnt ds i+grow ds[i]=cnt ds i+1:=by simp[grow,h1]
    rw[hg] at ih;simp[hd,h1,hi]
    grind
   ·by_cases h2:ds[i].what=2
    ·have hg:cnt ds i+grow ds[i]=cnt ds i-1:=by simp[grow,h2];omega
     rw[hg] at ih;simp[hd,h2,hi]
     grind
    ·have hg:cnt ds i+grow ds[i]=cnt ds i:=by simp[grow,h1,h2]
     rw[hg] at ih;simp[hd,h1,h2,hi]
     grind
  ·have hno:¬ OkD ds ds.length:=fun hh=>hd (hh i hi hi)
   simp[hd,hno]
theorem Qsn (s:YZ) (ds:List Qr) (h:OkD ds ds.length) (hl:ds.length<=1000):Ev.Good Tryz.prog K 97 [.agg (sC s),Q8 (VY ds ds.length)] (.bool (decide (Zm s ds))):=by
 refine Qb hK Qtl (by simp) ?_
 by_cases h1:inR s.after 0 ds.length
 ·have h1':=h1
  simp only[inR] at h1';have hlt:s.after.toNat<ds.length+1:=by omega
  have hb:=h.cnt s.after.toNat (by omega) (by omega)
  have hg:=XQ ds ds.length s.after.toNat hlt;simp[Zm,h1];intros;refine ⟨by omega,cK (Xv hK _ _ _) ?_⟩
  simp[h1];refine cK (Xv hK _ _ _) ?_;by_cases h2:inR s.frm 0 1
  ·simp[h2,hlt,hg]
   refine ⟨by omega,by omega,cK (Xv hK _ _ _) ?_⟩
   by_cases h3:inR s.pos 0 (cnt ds s.after.toNat-1)
   ·simp[h3]
    refine cK (Xv hK _ _ _) ?_;by_cases h4:inR s.bar (-1) 99
    ·simp[h4]
     exact cK (Xv hK _ _ _) (by simp)
    ·simp[h4]
   ·simp[h3]
  ·simp[h2]
 ·simp[Zm,h1]
  intros;refine ⟨by omega,cK (Xv hK _ _ _) ?_⟩
  simp[h1]
theorem QmT (c:Qj) (hl:c.deeds.length<=1000) (hs:c.sights.length<=1000):Ev.Good Tryz.prog K 74 [chV c] (.int .i64 (if OkC c then 0 else 20)):=by
 refine Qb hK QtF (by simp) ?_
 by_cases h1:c.deeds.length<=12
 ·by_cases h2:c.sights.length<=8
  ·have h1':¬ (12:Int)<c.deeds.length:=by omega
   have h2':¬ (8:Int)<c.sights.length:=by omega
   simp[h1',h2'];intro _ _;refine cK (Xv hK _ _ _) ?_;by_cases h3:inR c.wrong 0 8
   ·simp[h3]
    refine cK (Qh5 hK c.deeds hl) ?_;by_cases h4:OkD c.deeds c.deeds.length
    ·simp[h4]
     refine Qu (fun i=>[(1,AV.iv (.ptr [QD c.deeds,Qy c.sights,.int .i64 c.wrong])),(3,AV.iv (Q8 (VY c.deeds c.deeds.length))),(5,AV.iv (IV.int IntKind.i64 (i:Nat)))]) (fun _=>[]) c.sights.length (fun i=>∀ s∈c.sights.take i,Zm s c.deeds) (by simp) ?_ ?_
     ·intro h
      rw[Qa QjD.eq_1];have:OkC c:=⟨h1,h2,h3,h4,by simpa using h⟩
      simp[this]
     ·intro i hi h ih
      rw[Qa QjD.eq_1];simp[hi] at ih |-;intro _;refine cK (Qsn hK c.sights[i] c.deeds h4 hl) ?_;by_cases h5:Zm c.sights[i] c.deeds
      ·simp[h5]
       refine ⟨by omega,ih ?_⟩
       rw[Qzn hi]
       grind
      ·have:¬ OkC c:=fun hh=>h5 (hh.sights _ (Qzr hi))
       simp[h5,this]
    ·have:¬ OkC c:=fun hh=>h4 hh.deeds
     simp[h4,this]
   ·have:¬ OkC c:=fun hh=>h3 hh.wrong
    simp[h3,this]
  ·have h1':¬ (12:Int)<c.deeds.length:=by omega
   have h2':(8:Int)<c.sights.length:=by omega
   have:¬ OkC c:=fun hh=>h2 hh.slen
   simp[h1',h2',this]
 ·have h1':(12:Int)<c.deeds.length:=by omega
  have:¬ OkC c:=fun hh=>h1 hh.len
  simp[h1',this]
theorem Qa9 (c:Qj) (hl:c.deeds.length<=1000) (hs:c.sights.length<=1000):Ev.Good Tryz.prog K 105 [chV c] (.int .i64 (if OkC c then 0 else 20)):=by
 refine Qb hK QqS (by simp) ?_
 by_cases h1:c.deeds.length<=12
 ·by_cases h2:c.sights.length<=8
  ·have h1':¬ (12:Int)<c.deeds.length:=by omega
   have h2':¬ (8:Int)<c.sights.length:=by omega
   simp[h1',h2'];intro _ _;refine cK (Xp hK _ _ _) ?_;by_cases h3:inR c.wrong 0 8
   ·simp[h3]
    intro _
    refine Qu (fun i=>[(1,AV.iv (.ptr [QD c.deeds,Qy c.sights,.int .i64 c.wrong])),(3,AV.aref 24 (i+1)),(26,AV.iv (QD c.deeds)),(27,AV.iv (.int .i64 c.deeds.length)),(28,AV.iv (IV.int IntKind.i64 (i:Nat)))])
     (fun i=>[(24,AO.arr 3 1 (emb ((VY c.deeds i).map fun n=>[.int .i64 n])) 0)]) c.deeds.length (fun i=>OkD c.deeds i) (fun i _ h=>by omega) ?_ ?_
    ·intro h4
     rw[Qa QeI.eq_1];simp;intro _
     refine Qu (fun i=>[(1,AV.iv (.ptr [QD c.deeds,Qy c.sights,.int .i64 c.wrong])),(3,AV.aref 24 (c.deeds.length+1)),(52,AV.iv (Qy c.sights)),(53,AV.iv (.int .i64 c.sights.length)),(54,AV.iv (IV.int IntKind.i64 (i:Nat)))])
      (fun i=>[(24,AO.arr 3 1 (emb ((VY c.deeds c.deeds.length).map fun n=>[.int .i64 n])) 0)]) c.sights.length (fun i=>∀ s∈c.sights.take i,Zm s c.deeds) (by simp) ?_ ?_
     ·intro h
      rw[Qa QeH.eq_1];have:OkC c:=⟨h1,h2,h3,h4,by simpa using h⟩
      simp[this]
     ·intro i hi h ih
      rw[Qa QeH.eq_1];simp[hi] at ih |-;intros;have hb0:=h4.cnt c.deeds.length (Qzq _) (Qzq _);refine cK (Xp hK _ _ _) ?_;by_cases k1:inR c.sights[i].after 0 c.deeds.length
      ·have k1':=k1
       simp only[inR] at k1';have hlt:c.sights[i].after.toNat<c.deeds.length+1:=by omega
       have hb:=h4.cnt c.sights[i].after.toNat (by omega) (by omega)
       have hg:=XQ c.deeds c.deeds.length c.sights[i].after.toNat hlt;simp[k1];refine cK (Xp hK _ _ _) ?_;by_cases k2:inR c.sights[i].frm 0 1
       ·simp[k2,hlt,hg]
        have no:∀ q:Prop,(Zm c.sights[i] c.deeds->q)->¬ q->¬ OkC c:=fun q h1 h2 hh=>h2 (h1 (hh.sights _ (Qzr hi)))
        refine ⟨by omega,by omega,cK (Xp hK _ _ _) ?_⟩
        by_cases k3:inR c.sights[i].pos 0 (cnt c.deeds c.sights[i].after.toNat-1)
        ·simp[k3]
         refine cK (Qif hK _ _ _) ?_;by_cases k4:inR c.sights[i].bar (-1) 99/\inR c.sights[i].smith (-1) 99
         ·simp[k4]
          refine ⟨by omega,ih ?_⟩
          rw[Qzn hi];intro s hs;rcases QzD.1 hs with hs | hs
          ·exact h s hs
          ·rw[QzK] at hs;subst hs;exact ⟨k1,k2,k3,k4⟩
         ·have:=no _ (fun h=>h.2.2.2) k4
          simp[k4,this]
        ·have:=no _ (fun h=>h.2.2.1) k3
         simp[k3,this]
       ·have:¬ OkC c:=fun hh=>k2 (hh.sights _ (Qzr hi)).2.1
        simp[k2,this]
      ·have:¬ OkC c:=fun hh=>k1 (hh.sights _ (Qzr hi)).1
       simp[k1,this]
    ·intro i hi h ih
     have hb:=h.cnt i (Qzq _) (by omega)
     rw[Qa QeI.eq_1];simp[hi,XQ] at ih |-;refine cK (QoG hK c.deeds[i] (cnt c.deeds i) ⟨by omega,by omega⟩) ?_
     by_cases hd:QY c.deeds[i] (cnt c.deeds i)
     ·have ih:=ih (h.succ hi hd)
      have hs:=Vz c.deeds i hi;have hg:=V3 c.deeds[i];rw[Qab,hs] at ih;simp[hd,hi,XQ];refine cK (QdQ hK c.deeds[i]) ?_;simp at ih |-
      grind
     ·have:¬ OkC c:=fun hh=>hd (hh.deeds i hi hi)
      simp[hd,this]
   ·have:¬ OkC c:=fun hh=>h3 hh.wrong
    simp[h3,this]
  ·have h1':¬ (12:Int)<c.deeds.length:=by omega
   have h2':(8:Int)<c.sights.length:=by omega
   have:¬ OkC c:=fun hh=>h2 hh.slen
   simp[h1',h2',this]
 ·have h1':(12:Int)<c.deeds.length:=by omega
  have:¬ OkC c:=fun hh=>h1 hh.len
  simp[h1',this]
theorem Qih (c:Qj) (hl:c.deeds.length<=1000):Ev.Good Tryz.prog K 132 [chV c] (Yz (Xo Q3 c.deeds 0)):=by
 refine Qb hK Qqw (by simp) ?_
 simp
 refine Qu (fun i=>[(1,AV.iv (.ptr [QD c.deeds,Qy c.sights,.int .i64 c.wrong])),(3,AV.aref 3 (Xo Q3 (c.deeds.take i) 0).length),(4,AV.iv (IV.int IntKind.i64 (i:Nat)))])
  (fun i=>[(3,AO.arr 3 1 (emb ((Xo Q3 (c.deeds.take i) 0).map fun (n:Nat)=>[.int .i64 (n:Int)])) 0)]) c.deeds.length (fun i=>True) trivial ?_ ?_
 ·intro _
  rw[Qa QeD.eq_1];simp
 ·intro i hi _ ih
  have hbn:=Qa4 Q3 (c.deeds.take i) 0;simp at hbn;rw[W0 _ _ _ hi] at ih;rw[Qa QeD.eq_1];by_cases hw:c.deeds[i].what=1
  ·simp[hi,Q3,hw] at ih |-
   grind
  ·simp[hi,Q3,hw] at ih |-
   grind
theorem Qom (l:List Int) (n:Int):Ev.Good Tryz.prog K 181 [Q8 l,.int .i64 n] (.bool (decide (n∈l))):=by
 refine Qb hK QpR (by simp) ?_
 simp;refine Qu (fun i=>[(0,AV.iv (Q8 l)),(1,AV.iv (IV.int IntKind.i64 n)),(5,AV.iv (IV.int IntKind.i64 (i:Nat)))]) (fun _=>[]) l.length (fun i=>n ∉ l.take i) (by simp) ?_ ?_
 ·intro h
  rw[Qa Qen.eq_1];simp at h |-;exact fun _=>h
 ·intro i hi h ih
  rw[Qa Qen.eq_1];simp[hi] at h ih |-;refine fun hl=>⟨fun e=>e▸Qzr hi,fun e=>⟨by omega,ih ?_⟩⟩
  rw[Qzn hi]
  grind
theorem QdO (c:Qj) (hl:c.deeds.length<=1000):Ev.Good Tryz.prog K 151 [chV c] (.tup [.int .i64 (Qn c.deeds),.int .i64 (qy c.deeds)]):=by
 refine Qb hK Qqd (by simp) ?_
 simp;intro _
 refine Qu (fun i=>[(2,AV.iv (.int .i64 (cnt c.deeds i))),(3,AV.iv (.int .i64 (qy (c.deeds.take i)))),(7,AV.iv (QD c.deeds)),(8,AV.iv (.int .i64 c.deeds.length)),(9,AV.iv (IV.int IntKind.i64 (i:Nat)))])
  (fun i=>[]) c.deeds.length (fun i => -(i:Int)<=cnt c.deeds i/\cnt c.deeds i<=i) (by simp) ?_ ?_
 ·intro _
  rw[Qa Qey.eq_1];simp[Qn]
 ·intro i hi hb ih
  have hbn:qy (c.deeds.take i)<=i:=QzT (QzQ _ _) (by simp;omega)
  have e:qy (c.deeds.take (i+1))=if Q3 c.deeds[i] then qy (c.deeds.take i)+1 else qy (c.deeds.take i):=by
   rw[Qzn hi];simp only[qy,List.filter_append,List.filter_cons,List.filter_nil];split<;>simp
  have hg:=V3 c.deeds[i];have hs:=Vz c.deeds i hi;rw[hs,e] at ih;rw[Qa Qey.eq_1];simp[hi] at ih |-;refine cK (QdQ hK c.deeds[i]) ?_;simp;refine ⟨by omega,?_⟩
  refine cK (QdQ hK c.deeds[i]) ?_;by_cases hw:c.deeds[i].what=1
  ·have hg1:grow c.deeds[i]=1:=by simp[grow,hw]
   simp[hg1,Q3,hw] at ih |-
   grind
  ·have hg1:grow c.deeds[i]<=0:=by unfold grow;omega
   have hg2:¬ 0<grow c.deeds[i]:=by omega
   simp[hg2,Q3,hw] at ih |-
   grind
theorem QdR (c:Qj) (hl:c.deeds.length<=1000) (hs:c.sights.length<=1000):Ev.Good Tryz.prog K 109 [chV c] (.tup [.int .i64 (if OkC c then Qn c.deeds else 0),.int .i64 (if OkC c then 0 else 20)]):=by
 refine Qb hK QqO (by simp) ?_
 simp;refine cK (Qa9 hK c hl hs) ?_;by_cases h:OkC c
 ·simp[h]
  exact cK (QdO hK c hl) (by simp)
 ·simp[h]
theorem Qin (c:Qj) (n:Int) (hc:OkD c.deeds c.deeds.length) (hl:c.deeds.length<=1000):Ev.Good Tryz.prog K 100 [chV c,.int .i64 n] (.bool (decide (inR n 0 (Qn c.deeds-1)))):=by
 refine Qb hK QqW (by simp) ?_
 have hb:=hc.cnt _ (Qzq _) (Qzq _);have hg:=XQ c.deeds c.deeds.length c.deeds.length (by omega)
 simp;refine cK (Qh5 hK c.deeds hl) ?_;simp[hc,hg,Qn];intro _;intros
 and_intros<;>first | omega | exact cK (Xv hK _ _ _) (by simp;rfl)
omit hK
def fi {α:Type} (p:α->Bool) (l:List α):Int:=if l.any p then (l.findIdx p:Int) else -1
theorem Qgo {α:Type} (p:α->Bool) (l:List α) (i:Nat) (h:i<l.length) (hp:p l[i]=true) (hn:∀ x∈l.take i,p x=false):fi p l=i:=by
 have h1:l.any p=true:=List.any_eq_true.2 ⟨l[i],Qzr h,hp⟩
 have h2:l.findIdx p=i:=by
  rw[List.findIdx_eq h];refine ⟨hp,fun j hj=>?_⟩
  have hm:l[j]'(by omega)∈l.take i:=by
   rw[List.mem_take_iff_getElem]
   grind
  grind
 simp[fi,h1,h2]
theorem V8 {α:Type} (p:α->Bool) (l:List α) (hn:∀ x∈l,p x=false):fi p l = -1:=by
 have h1:l.any p=false:=List.any_eq_false.2 (fun x hx=>by simp[hn x hx])
 simp[fi,h1]
theorem YC {α:Type} (p:α->Bool) (l:List α):decide (0<=fi p l)=l.any p:=by
 unfold fi
 grind
def ZJ (l:ZP):Bool:=!(decide (inR l.long 1 1000)&&decide (inR l.lo 1 l.hi)&&decide (l.hi<=1000))
def Jo (b:Zq):Bool:=!(decide (inR b.weight 0 9999)&&decide (inR b.mins 0 99)&&decide (inR b.load 0 999999999)&&decide (inR b.off 0 999999999))
structure OkM (m:Machine):Prop where
 len:m.levers.length<=3
 levers:∀ l∈m.levers,ZJ l=false
 water:inR m.water 0 9999
 leak:inR m.llo 0 m.lhi
 lhi:m.lhi<=20
 blen:m.bals.length<=6
 bals:∀ b∈m.bals,Jo b=false
 wrong:inR m.wrong 0 6
noncomputable instance (m:Machine):Decidable (OkM m):=Classical.propDecidable _
include hK
theorem QsT (a b c:Int):Ev.Good Tryz.prog K 35 [.int .i64 a,.int .i64 b,.int .i64 c] (.bool (decide (inR a 0 9999/\inR b 0 99/\inR c 0 999999999))):=by
 refine Qb hK Qt6 (by simp) ?_
 simp;refine cK (Vs hK _ _ _) ?_;by_cases h1:inR a 0 9999
 ·simp[h1]
  refine cK (Vs hK _ _ _) ?_;by_cases h2:inR b 0 99
  ·simp[h2]
   exact cK (Vs hK _ _ _) (by simp)
  ·simp[h2]
 ·simp[h1]
theorem Qsr (l:ZP):Ev.Good Tryz.prog K 91 [.agg (leC l)] (.bool (ZJ l)):=by
 refine Qb hK Qtp (by simp) ?_
 simp;refine cK (Vs hK _ _ _) ?_;by_cases h1:inR l.long 1 1000
 ·simp[h1]
  refine cK (Vs hK _ _ _) ?_;by_cases h2:inR l.lo 1 l.hi
  ·by_cases h3:l.hi<=1000
   ·have h3':¬ 1000<l.hi:=by omega
    simp[h1,h2,h3,ZJ,h3']
   ·have h3':1000<l.hi:=by omega
    simp[h1,h2,h3,ZJ,h3']
  ·simp[h2,ZJ]
 ·simp[h1,ZJ]
theorem Qsq (b:Zq):Ev.Good Tryz.prog K 92 [.agg (baC b)] (.bool (Jo b)):=by
 refine Qb hK Qto (by simp) ?_
 simp;refine cK (QsT hK _ _ _) ?_;by_cases h1:inR b.weight 0 9999/\inR b.mins 0 99/\inR b.load 0 999999999
 ·simp[h1]
  refine cK (Vs hK _ _ _) ?_;by_cases h2:inR b.off 0 999999999
  ·simp[h1,h2,Jo]
  ·simp[h2,Jo]
 ·have:Jo b=true:=by
   simp only[Jo,QzL,Bool.and_eq_false_iff,decide_eq_false_iff_not]
   grind
  simp[h1,this]
theorem QoO (l:List ZP) (g:FuncId) (p:ZP->Bool) (hg:∀ x,Ev.Good Tryz.prog K g [.agg (leC x)] (.bool (p x))) (hc:callee Tryz.prog g=true) (hl:l.length<=1000):Ev.Good Tryz.prog K 124 [YQ l,.fn g] (.int .i64 (fi p l)):=by
 refine Qb hK QqB (by simp) ?_
 simp;intro _;refine Qu (fun i=>[(0,AV.iv (YQ l)),(1,AV.iv (.fn g)),(7,AV.iv (.int .i64 l.length)),(8,AV.iv (IV.int IntKind.i64 (i:Nat)))]) (fun _=>[]) l.length (fun i=>∀ x∈l.take i,p x=false) (by simp) ?_ ?_
 ·intro h
  rw[Qa QeF.eq_1];rw[QzG] at h;simp[V8 p l h]
 ·intro i hi h ih
  rw[Qa QeF.eq_1];simp[hi] at ih |-;refine ⟨hc,cK (hg l[i]) ?_⟩;by_cases hp:p l[i]=true
  ·simp[hp,Qgo p l i hi hp h]
  ·have hp':p l[i]=false:=by simpa using hp
   simp[hp'];refine ⟨by omega,ih ?_⟩
   rw[Qzn hi]
   grind
theorem QoN (l:List Zq) (g:FuncId) (p:Zq->Bool) (hg:∀ x,Ev.Good Tryz.prog K g [.agg (baC x)] (.bool (p x))) (hc:callee Tryz.prog g=true) (hl:l.length<=1000):Ev.Good Tryz.prog K 125 [Qbu l,.fn g] (.int .i64 (fi p l)):=by
 refine Qb hK QqA (by simp) ?_
 simp;intro _;refine Qu (fun i=>[(0,AV.iv (Qbu l)),(1,AV.iv (.fn g)),(7,AV.iv (.int .i64 l.length)),(8,AV.iv (IV.int IntKind.i64 (i:Nat)))]) (fun _=>[]) l.length (fun i=>∀ x∈l.take i,p x=false) (by simp) ?_ ?_
 ·intro h
  rw[Qa QeE.eq_1];rw[QzG] at h;simp[V8 p l h]
 ·intro i hi h ih
  rw[Qa QeE.eq_1];simp[hi] at ih |-;refine ⟨hc,cK (hg l[i]) ?_⟩;by_cases hp:p l[i]=true
  ·simp[hp,Qgo p l i hi hp h]
  ·have hp':p l[i]=false:=by simpa using hp
   simp[hp'];refine ⟨by omega,ih ?_⟩
   rw[Qzn hi]
   grind
theorem Qsp (l:List ZP) (g:FuncId) (p:ZP->Bool) (hg:∀ x,Ev.Good Tryz.prog K g [.agg (leC x)] (.bool (p x))) (hc:callee Tryz.prog g=true) (hl:l.length<=1000):Ev.Good Tryz.prog K 93 [YQ l,.fn g] (.bool (l.any p)):=by
 refine Qb hK Qtn (by simp) ?_
 simp;refine cK (QoO hK l g p hg hc hl) ?_;simp[YC]
theorem Qso (l:List Zq) (g:FuncId) (p:Zq->Bool) (hg:∀ x,Ev.Good Tryz.prog K g [.agg (baC x)] (.bool (p x))) (hc:callee Tryz.prog g=true) (hl:l.length<=1000):Ev.Good Tryz.prog K 94 [Qbu l,.fn g] (.bool (l.any p)):=by
 refine Qb hK Qtm (by simp) ?_
 simp;refine cK (QoN hK l g p hg hc hl) ?_;simp[YC]
theorem QsE (m:Machine) (hl:m.levers.length<=1000) (hb:m.bals.length<=1000):Ev.Good Tryz.prog K 64 [maV m] (.int .i64 (if OkM m then 0 else 30)):=by
 refine Qb hK QtK (by simp) ?_
 have no:∀ q:Prop,(OkM m->q)->¬ q->¬ OkM m:=fun q h1 h2 h=>h2 (h1 h)
 by_cases h1:m.levers.length<=3
 ·have h1':¬ (3:Int)<m.levers.length:=by omega
  simp[h1'];intro _;refine cK (Qsp hK m.levers 91 ZJ (Qsr hK) (by kernel_rfl) hl) ?_
  by_cases h2:m.levers.any ZJ=true
  ·have:¬ OkM m:=no (m.levers.any ZJ=false) (fun h=>by simpa using h.levers) (by simp[h2])
   simp[h2,this]
  ·have h2':m.levers.any ZJ=false:=by simpa using h2
   simp[h2'];refine cK (Vs hK _ _ _) ?_;by_cases h3:inR m.water 0 9999
   ·simp[h3]
    refine cK (Vs hK _ _ _) ?_;by_cases h4:inR m.llo 0 m.lhi
    ·by_cases h5:m.lhi<=20
     ·have h5':¬ 20<m.lhi:=by omega
      by_cases h6:m.bals.length<=6
      ·have h6':¬ (6:Int)<m.bals.length:=by omega
       simp[h4,h5',h6'];intro _;refine cK (Qso hK m.bals 92 Jo (Qsq hK) (by kernel_rfl) hb) ?_
       by_cases h7:m.bals.any Jo=true
       ·have:¬ OkM m:=no (m.bals.any Jo=false) (fun h=>by simpa using h.bals) (by simp[h7])
        simp[h7,this]
       ·have h7':m.bals.any Jo=false:=by simpa using h7
        simp[h7'];refine cK (Vs hK _ _ _) ?_;by_cases h8:inR m.wrong 0 6
        ·have:OkM m:=⟨h1,by simpa using h2',h3,h4,h5,h6,by simpa using h7',h8⟩
         simp[h8,this]
        ·have:=no _ OkM.wrong h8
         simp[h8,this]
      ·have h6':(6:Int)<m.bals.length:=by omega
       have:=no _ OkM.blen h6;simp[h4,h5',h6',this]
     ·have h5':20<m.lhi:=by omega
      have:=no _ OkM.lhi h5;simp[h4,h5',this]
    ·have:=no _ OkM.leak h4
     simp[h4,this]
   ·have:=no _ OkM.water h3
    simp[h3,this]
 ·have h1':(3:Int)<m.levers.length:=by omega
  have:=no _ OkM.len h1;simp[h1',this]
omit hK
section
variable {P:Program} {K:World->Prop}
theorem UF.first {ps:List Nat} {asn body:AC} {ks ids:List Nat} {eK:Env} {wy:Ev.Way} (hwy:wy≠.fall):∀ (L:List (List IV)) (so oR:Nat->Qk) (bad:Nat->Prop),
  (∀ i x,L[i]?=some x->(∀ j,j<i->¬ bad j)->¬ bad i->Rnd P K ps asn body ks ids eK x (so i) .fall (so (i+1)))->(∀ i x,L[i]?=some x->(∀ j,j<i->¬ bad j)->bad i->Rnd P K ps asn body ks ids eK x (so i) wy (oR i)) ->
  (∃ i,i<L.length/\bad i/\(∀ j,j<i->¬ bad j)/\UF P K ps asn body ks ids eK L (so 0) wy (oR i))\/((∀ i,i<L.length->¬ bad i)/\UF P K ps asn body ks ids eK L (so 0) .fall (so L.length))
 | [],so,oR,bad,_,_=>.inr ⟨by simp,.nil _⟩
 | x::r,so,oR,bad,h1,h2=>by
   by_cases hb:bad 0
   ·exact .inl ⟨0,by simp,hb,by simp,.stop x r _ _ wy hwy (h2 0 x rfl (by simp) hb)⟩
   ·have hx:=h1 0 x rfl (by simp) hb
    have lift:∀ i,(∀ j,j<i->¬ bad (j+1))->∀ j,j<i+1->¬ bad j:=fun i hh j hj=>by
     cases j with
     | _=>grind
    rcases UF.first hwy r (fun i=>so (i+1)) (fun i=>oR (i+1)) (fun i=>bad (i+1)) (fun i y hy hh hn=>h1 (i+1) y (by simpa using hy) (lift i hh) hn) (fun i y hy hh hn=>h2 (i+1) y (by simpa using hy) (lift i hh) hn) with ⟨i,g1,g2,g3,g4⟩ | ⟨g1,g2⟩
    ·exact .inl ⟨i+1,by simp;omega,g2,lift i g3,.next x r _ _ _ _ hx g4⟩
    ·refine .inr ⟨fun i hi=>?_,.next x r _ _ _ _ hx g2⟩
     cases i with
     | _=>grind
end
def pv (ds:List Qr):List Nat:=Xo QnS ds 0
theorem W2 (p:Qr->Bool):∀ (l:List Qr) (i j:Nat),j∈Xo p l i->i<=j/\j<i+l.length
 | [],i,j,h=>by simp[Xo] at h
 | d::l,i,j,h=>by
   simp only[Xo] at h;split at h
   ·rcases Qz1.1 h with h | h
    ·subst h;simp
    ·have:=W2 p l (i+1) j h
     simp;omega
   ·have:=W2 p l (i+1) j h
    simp;omega
def trs:List Nat->Nat->List (List IV)
 | [],_=>[]
 | j::r,t=>[.int .i64 t,.int .i64 j]::trs r (t+1)
@[simp] theorem Qnl:∀ (l:List Nat) (t:Nat),(trs l t).length=l.length
 | [],_=>rfl
 | j::r,t=>by simp[trs,Qnl r (t+1)]
section
variable {K:World->Prop}
end
def QaY (t:Qby) (many:Int):Prop:=inR t.weight 0 9999/\inR t.mins 0 99/\inR t.broke (-1) (many-1)
instance (t:Qby) (many:Int):Decidable (QaY t many):=by unfold QaY;infer_instance
structure OkP (p:QE):Prop where
 chain:OkC p.chain
 machine:OkM p.machine
 need:inR p.need 0 999999999
 rule:inR p.rule 1 12
 many:p.trials.length=(pv p.chain.deeds).length
 trials:∀ i (h:i<(pv p.chain.deeds).length) (h':i<p.trials.length),QaY p.trials[i] (cnt p.chain.deeds (pv p.chain.deeds)[i])
noncomputable instance (p:QE):Decidable (OkP p):=Classical.propDecidable _
structure Qwr (p:QE):Prop where
 deeds:p.chain.deeds.length<=1000
 sights:p.chain.sights.length<=1000
 levers:p.machine.levers.length<=1000
 bals:p.machine.bals.length<=1000
 trials:p.trials.length<=1000
theorem OkD.take {ds:List Qr} {n m:Nat} (h:OkD ds n) (hm:m<=n):OkD (ds.take m) (ds.take m).length:=fun i hi hin=>by
 have hl:(ds.take m).length<=m:=by simp;omega
 have h1:i<ds.length:=by simp at hi;omega
 rw[List.getElem_take,Ql0 ds i m (by omega)]
 exact h i h1 (by omega)
include hK
omit hK
def plc (pos e:Int) (n:Nat):Nat:=(if e=1 then (n:Int)-1-pos else pos).toNat
def Yq (d:Qr) (e:Int) (k:Nat) (now:List Nat):List Nat :=
 if d.what=1 then now.take (plc d.pos e (now.length+1))++[k]++now.drop (plc d.pos e (now.length+1))
 else if d.what=2 then now.take (plc d.pos e now.length)++now.drop (plc d.pos e now.length+1)
 else if d.what=3 then now.reverse else now
def wn (ds:List Qr) (i:Nat):Nat:=(Xo Q3 (ds.take i) 0).length
theorem QgT (ds:List Qr) (i:Nat) (h:i<ds.length):wn ds (i+1)=if ds[i].what=1 then wn ds i+1 else wn ds i:=by
 unfold wn;rw[W0 _ _ _ h];by_cases hw:ds[i].what=1<;>simp[Q3,hw]
theorem Qng (ds:List Qr) (i:Nat):wn ds i<=i:=by
 have:=Qa4 Q3 (ds.take i) 0;unfold wn
 grind
def cab (ds:List Qr) (e:Nat->Int):Nat->List Nat
 | 0=>[]
 | i+1=>match ds[i]? with
   | some d=>Yq d (e i) (wn ds i) (cab ds e i)
   | none=>cab ds e i
theorem Wa (ds:List Qr) (e:Nat->Int) (i:Nat) (h:i<ds.length):cab ds e (i+1)=Yq ds[i] (e i) (wn ds i) (cab ds e i):=by
 simp only[cab,Qzk h]
theorem Qhv {pos e:Int} {n:Nat} (h:0<=pos/\pos<=n):plc pos e (n+1)<=n:=by
 unfold plc;split<;>omega
theorem Qb9 {pos e:Int} {n:Nat} (h:0<=pos/\pos<=(n:Int)-1):plc pos e n<n:=by
 unfold plc;split<;>omega
theorem Qg6 {d:Qr} {e:Int} {k:Nat} {now:List Nat} (h:QY d now.length):((Yq d e k now).length:Int)=now.length+grow d:=by
 rcases h with ⟨h1,_,h3,_⟩ | ⟨h1,_,h3,_⟩ | ⟨h1,_⟩
 ·have:=Qhv (e:=e) h3
  simp[Yq,grow,h1];omega
 ·have:=Qb9 (e:=e) h3
  simp[Yq,grow,h1];omega
 ·rcases h1 with h1 | h1<;>simp[Yq,grow,h1]
theorem Xr {ds:List Qr} (e:Nat->Int) {n:Nat} (h:OkD ds n):∀ i,i<=n->i<=ds.length->((cab ds e i).length:Int)=cnt ds i
 | 0,_,_=>by simp[cab]
 | i+1,h1,h2=>by
   have ih:=Xr e h i (by omega) (by omega)
   rw[Wa ds e i (by omega),Qg6 (by rw[ih];exact h i (by omega) (by omega)),Vz ds i (by omega),ih]
theorem QeT {d:Qr} {e:Int} {k m:Nat} {now:List Nat} (h:∀ x∈now,x<m) (hk:k<m):∀ x∈Yq d e k now,x<m:=by
 intro x hx;unfold Yq at hx
 grind
theorem Qaq (ds:List Qr) (e:Nat->Int):∀ i,∀ x∈cab ds e i,x<wn ds i
 | 0=>by simp[cab]
 | i+1=>by
   intro x hx;have ih:=Qaq ds e i;cases hd:ds[i]? with
   | none =>
     simp only[cab,hd] at hx
     have hge:ds.length<=i:=by
      grind
     have e1:wn ds (i+1)=wn ds i:=by simp[wn,Qzt hge,Qzt (Nat.le_succ_of_le hge)]
     grind
   | some d =>
     have hlt:=(Qzl.1 hd).1;rw[Wa ds e i hlt] at hx;rw[QgT ds i hlt];have hm:∀ y∈cab ds e i,y<wn ds i:=ih
     by_cases hw:ds[i].what=1
     ·rw[if_pos hw]
      exact QeT (fun y hy=>by grind) (by omega) x hx
     ·rw[if_neg hw]
      have:Yq ds[i] (e i) (wn ds i) (cab ds e i)=Yq ds[i] (e i) 0 (cab ds e i):=by simp[Yq,hw]
      rw[this] at hx;rcases Nat.eq_zero_or_pos (wn ds i) with hz | hp
      ·have he:cab ds e i=[]:=by
        rcases List.eq_nil_or_concat (cab ds e i) with h | ⟨l,a,h⟩
        ·exact h
        ·have:=hm a (by rw[h];simp)
         omega
       rw[he] at hx;simp[Yq,hw] at hx
      ·exact QeT hm hp x hx
def QfG (ds:List Qr) (e:Nat->Int) (n:Nat):List (List Nat):=(List.range (n+1)).map (cab ds e)
@[simp] theorem Ql7 (ds:List Qr) (e:Nat->Int) (n:Nat):(QfG ds e n).length=n+1:=by simp[QfG]
theorem QcR (ds:List Qr) (e:Nat->Int) (n:Nat):QfG ds e (n+1)=QfG ds e n++[cab ds e (n+1)]:=by simp[QfG,QAv]
theorem VA (ds:List Qr) (e:Nat->Int) (n i:Nat) (h:i<n+1):(QfG ds e n)[i]'(by simpa using h)=cab ds e i:=by simp[QfG]
@[simp] def Qtj (l:List (List Nat)):IV:=.sl 1 (l.map fun c=>[Yz c])
theorem Qp (L:List (List IV)):List.map (List.map AV.iv) L=emb L:=rfl
theorem QC (L M:List (List IV)):emb L++emb M=emb (L++M):=by simp[emb]
theorem QcL (L:List (List IV)) (n:Nat):(emb L).drop n=emb (L.drop n):=by simp[emb,QAO]
theorem Qz:emb []=[]:=rfl
theorem Qi (L:List (List IV)):Qad (emb L)=some L:=Vk L
def Z4 (ends:List Int) (i:Nat):Int:=ends.getD i 0
include hK
theorem Qia (c:Qj) (ends:List Int) (hc:OkD c.deeds c.deeds.length) (hl:c.deeds.length<=1000) (he:c.deeds.length<=ends.length):Ev.Good Tryz.prog K 179 [chV c,Q8 ends] (Qtj (QfG c.deeds (Z4 ends) c.deeds.length)):=by
 refine Qb hK QpT (by simp) ?_
 simp
 refine Qu (fun i=>[(1,AV.iv (Q8 ends)),(2,AV.iv (.ptr [QD c.deeds,Qy c.sights,.int .i64 c.wrong])),(5,AV.iv (Yz (cab c.deeds (Z4 ends) i))),(6,AV.aref 14 (i+1)),(7,AV.iv (.int .i64 (wn c.deeds i))),(8,AV.iv (IV.int IntKind.i64 (i:Nat)))])
  (fun i=>[(14,AO.arr 28 1 (emb ((QfG c.deeds (Z4 ends) i).map fun c=>[Yz c])) 0)]) c.deeds.length (fun i=>True) trivial ?_ ?_
 ·intro _
  rw[Qa Qep.eq_1];simp;intro _;exact Qzt (by simp)
 ·intro i hi _ ih
  have hcl:=Xr (Z4 ends) hc i (by omega) (by omega)
  have hcb:=hc.cnt i (by omega) (by omega)
  have hd:=hc i hi hi;have hw:=Qng c.deeds i;have hws:=QgT c.deeds i hi;have hei:Z4 ends i=ends[i]'(by omega):=by simp[Z4,List.getD_eq_getElem?_getD,Qzk (show i<ends.length by omega)]
  rw[QcR,hws,Wa _ _ _ hi] at ih;rw[Qa Qep.eq_1];generalize cab c.deeds (Z4 ends) i=now at *;rw[hei] at ih;rcases hd with ⟨h1,h2,h3,h4⟩ | ⟨h1,h2,h3,h4⟩ | ⟨h1,h4⟩
  ·have hi':i<ends.length:=by omega
   simp only[inR] at h3
   have hp:(if ends[i]=1 then (now.length:Int)+1-1-c.deeds[i].pos else c.deeds[i].pos)=(plc c.deeds[i].pos ends[i] (now.length+1):Nat):=by
    unfold plc;omega
   have hpl:plc c.deeds[i].pos ends[i] (now.length+1)<=now.length:=Qhv (by omega)
   simp[hi,h1,hi',Yq] at ih;simp[hi,h1,hi',-List.map_map,Qp,QC,Qz,Qi];generalize plc c.deeds[i].pos ends[i] (now.length+1)=at_ at *;intros;refine ⟨by omega,?_⟩
   refine cK (QdK hK c.deeds[i].pos ends[i] (now.length+1) (by omega) (by omega)) ?_
   rw[hp];have hm:min at_ now.length=at_:=by omega
   have hq:at_+1+(now.length-at_)=now.length+1:=by omega
   have hq1:at_+(now.length-at_+1)=now.length+1:=by omega
   have hq2:at_+(1+(now.length-at_))=now.length+1:=by omega
   simp[-List.map_map,Qp,QC,Qz,Qi,QcL,hm,hpl,hq,hq1,hq2,Qzt]
   grind
  ·have hi':i<ends.length:=by omega
   have h11:¬ c.deeds[i].what=1:=by omega
   simp only[inR] at h3
   have hp:(if ends[i]=1 then (now.length:Int)-1-c.deeds[i].pos else c.deeds[i].pos)=(plc c.deeds[i].pos ends[i] now.length:Nat):=by
    unfold plc;split<;>omega
   have hpl:plc c.deeds[i].pos ends[i] now.length<now.length:=Qb9 (by omega)
   simp[hi,h1,hi',Yq] at ih;simp[hi,h1,hi',-List.map_map,Qp,QC,Qz,Qi];generalize plc c.deeds[i].pos ends[i] now.length=at_ at *;intros;refine cK (QdK hK c.deeds[i].pos ends[i] now.length (by omega) (by omega)) ?_
   rw[hp];have hm:min at_ now.length=at_:=by omega
   have hle:at_<=now.length:=by omega
   have hle':at_+1<=now.length:=by omega
   have hti:((at_:Int)+1).toNat=at_+1:=by omega
   have hq:at_+(now.length-(at_+1))=now.length-1:=by omega
   simp[-List.map_map,Qp,QC,Qz,Qi,QcL,hm,hle,hle',hti,hq,Qzt]
   grind
  ·rcases h1 with h1 | h1
   ·simp[hi,h1,Yq] at ih
    simp[hi,h1,-List.map_map,Qp,QC,Qz,Qi];intro _ _;refine ⟨by omega,?_⟩
    have e00:((now.length:Int)-1)=(now.length:Int)-1-((0:Nat):Int):=by simp
    rw[e00]
    refine Qu (fun k=>[(1,AV.iv (Q8 ends)),(2,AV.iv (.ptr [QD c.deeds,Qy c.sights,.int .i64 c.wrong])),(5,AV.iv (Yz now)),(6,AV.aref 14 (i+1)),(7,AV.iv (.int .i64 (wn c.deeds i))),(8,AV.iv (IV.int IntKind.i64 (i:Nat))),(10,AV.aref 10 k),(13,AV.iv (.int .i64 ((now.length:Int)-1-k)))])
     (fun k=>[(10,AO.arr 3 1 (emb ((now.reverse.take k).map fun (n:Nat)=>[.int .i64 (n:Int)])) 0),(14,AO.arr 28 1 (emb ((QfG c.deeds (Z4 ends) i).map fun c=>[Yz c])) 0)]) now.length (fun _=>True) trivial ?_ ?_
    ·intro _
     rw[Qa Qeq.eq_1];simp[-List.map_map,Qp,QC,Qz,Qi,Qzt]
     grind
    ·intro k hk _ ih2
     rw[Qa Qeq.eq_1]
     have hrk:now.reverse.take (k+1)=now.reverse.take k++[now[now.length-1-k]'(by omega)]:=by
      rw[Qzn (by simpa using hk)]
      grind
     rw[hrk] at ih2;have e0:¬ ((now.length:Int)-1-k<0):=by omega
     have e1:((now.length:Int)-1-k)=((now.length-1-k:Nat):Int):=by omega
     have e2:now.length-1-k<now.length:=by omega
     have e3:min k now.length=k:=by omega
     have e4:((now.length-1-k:Nat):Int)-1=(now.length:Int)-1-((k:Int)+1):=by omega
     simp[-List.map_map,Qp,QC,Qz,Qi,e1,e2,e3] at ih2 |-
     grind
   ·simp[hi,h1,Yq] at ih
    simp[hi,h1,-List.map_map,Qp,QC,Qz,Qi]
    grind
omit hK
@[simp] theorem Qsi {α:Type} (f:α->List IV) (l:List α):Qad (l.map (List.map AV.iv∘f))=some (l.map f):=by
 rw[<- List.map_map];exact Vk _
theorem Qr.ext {a b:Qr} (h0:a.what=b.what) (h1:a.pos=b.pos) (h2:a.frm=b.frm) (h3:a.bar=b.bar) (h4:a.smith=b.smith):a=b:=by
 cases a;cases b;simp_all
theorem YZ.ext {a b:YZ} (h0:a.after=b.after) (h1:a.pos=b.pos) (h2:a.frm=b.frm) (h3:a.bar=b.bar) (h4:a.smith=b.smith):a=b:=by
 cases a;cases b;simp_all
theorem ZP.ext {a b:ZP} (h0:a.long=b.long) (h1:a.lo=b.lo) (h2:a.hi=b.hi):a=b:=by
 cases a;cases b;simp_all
theorem Zq.ext {a b:Zq} (h0:a.weight=b.weight) (h1:a.mins=b.mins) (h2:a.load=b.load) (h3:a.off=b.off):a=b:=by
 cases a;cases b;simp_all
theorem Qby.ext {a b:Qby} (h0:a.weight=b.weight) (h1:a.mins=b.mins) (h2:a.broke=b.broke):a=b:=by
 cases a;cases b;simp_all
def QX {α:Type} (f:α->Int):List α->Int
 | []=>1
 | a::l=>f a*QX f l
theorem Qb7 {α:Type} (f:α->Int) (l:List α) (a:α):QX f (l++[a])=QX f l*f a:=by
 induction l with
 | nil=>simp[QX]
 | cons b l ih=>simp[QX,ih,Int.mul_assoc]
theorem Qhu {α:Type} (f:α->Int) (l:List α) (h:∀ a∈l,1<=f a):1<=QX f l:=by
 induction l with
 | nil=>simp[QX]
 | cons b l ih =>
   have h1:=h b (by simp)
   have h2:=ih fun a ha=>h a (by simp[ha])
   have:=QzW h1 h2 (by omega) (by omega)
   simp only[QX];omega
def J7 (l:ZP):Int:=l.hi-l.lo+1
def sets (m:Machine) (i:Nat):Int:=(m.lhi-m.llo+1)*QX J7 (m.levers.take i)
def Z3 (ds:List Qr):Nat:=ds.countP fun d=>decide (d.frm=2)
def QwR (m:Machine):Prop:=40<m.levers.length\/40<m.bals.length\/(OkM m/\∃ i,0<i/\i<=m.levers.length/\150<sets m i)
noncomputable instance (m:Machine):Decidable (QwR m):=Classical.propDecidable _
def Qkd (c:Qj):Prop:=40<c.deeds.length\/40<c.sights.length\/(OkC c/\5<Z3 c.deeds)
noncomputable instance (c:Qj):Decidable (Qkd c):=Classical.propDecidable _
def ways (p:QE):Int:=sets p.machine p.machine.levers.length*(2 ^ Z3 p.chain.deeds:Nat)
def Qy1 (p:QE):Prop:=Qkd p.chain\/QwR p.machine\/40<p.trials.length\/(OkP p/\48<ways p)
noncomputable instance (p:QE):Decidable (Qy1 p):=Classical.propDecidable _
theorem OkM.span {m:Machine} (h:OkM m) {l:ZP} (hl:l∈m.levers):1<=J7 l/\J7 l<=1000:=by
 have:=h.levers l hl;simp[ZJ,inR] at this;have h1:=of_decide_eq_true this.1.2;unfold J7;omega
include hK
theorem QsJ (c:Qj) (hl:c.deeds.length<=1000) (hs:c.sights.length<=1000):Ev.Good Tryz.prog K 57 [chV c] (chV c):=by
 refine Qb hK QtO (by simp) ?_
 simp;omega
theorem QsQ (c:Qj):Ev.Good Tryz.prog K 45 [chV c] (.bool (decide (Qkd c))):=by
 have hd:decide (Qkd c)=decide (40<c.deeds.length\/40<c.sights.length\/(OkC c/\5<Z3 c.deeds)):=by
  by_cases h:Qkd c
  ·rw[decide_eq_true h];exact (decide_eq_true (p:=40<c.deeds.length\/40<c.sights.length\/(OkC c/\5<Z3 c.deeds)) h).symm
  ·rw[decide_eq_false h];exact (decide_eq_false (p:=40<c.deeds.length\/40<c.sights.length\/(OkC c/\5<Z3 c.deeds)) h).symm
 rw[hd];refine Qb hK Qt0 (by simp) ?_
 by_cases h1:c.deeds.length<=40
 ·by_cases h2:c.sights.length<=40
  ·have h1':¬ (40:Int)<c.deeds.length:=by omega
   have h2':¬ (40:Int)<c.sights.length:=by omega
   have h1'':¬ 40<c.deeds.length:=by omega
   have h2'':¬ 40<c.sights.length:=by omega
   simp[h1',h2',h1'',h2''];intros;refine cK (QmT hK c (by omega) (by omega)) ?_
   by_cases h3:OkC c
   ·simp[h3]
    refine Qu (fun i=>[(1,AV.iv (.ptr [QD c.deeds,Qy c.sights,.int .i64 c.wrong])),(3,AV.iv (IV.int IntKind.i64 (Z3 (c.deeds.take i):Nat))),(4,AV.iv (IV.int IntKind.i64 (i:Nat)))]) (fun _=>[]) c.deeds.length (fun i=>True) trivial ?_ ?_
    ·intro _
     rw[Qa QjJ.eq_1];simp;omega
    ·intro i hi _ ih
     have hb:Z3 (c.deeds.take i)<=i:=by
      have:=QAC (p:=fun d:Qr=>decide (d.frm=2)) (l:=c.deeds.take i)
      simp at this;unfold Z3;omega
     rw[Qa QjJ.eq_1]
     have hc:Z3 (c.deeds.take (i+1))=Z3 (c.deeds.take i)+if c.deeds[i].frm=2 then 1 else 0:=by
      unfold Z3;rw[Qzn hi,QAP]
      grind
     rw[hc] at ih;by_cases e:c.deeds[i].frm=2
     ·simp[hi,e] at ih |-
      grind
     ·simp[hi,e] at ih |-
      grind
   ·simp[h3]
  ·have h1':¬ (40:Int)<c.deeds.length:=by omega
   have h2':(40:Int)<c.sights.length:=by omega
   have h2'':40<c.sights.length:=by omega
   simp[h1',h2',h2'']
   try omega
 ·have h1':(40:Int)<c.deeds.length:=by omega
  have h1'':40<c.deeds.length:=by omega
  simp[h1',h1'']
  try omega
omit hK
def d0:Qr:=⟨0,0,0,0,0⟩
def XZ (ds:List Qr):List Nat:=Xo Q3 ds 0
def Xz (ds:List Qr) (k:Nat):Qr:=ds.getD ((XZ ds).getD k 0) d0
theorem QaC {ds:List Qr} {j:Nat} (h:j∈XZ ds):j<ds.length:=by
 have:=W2 Q3 ds 0 j h;omega
theorem UW (ds:List Qr) (i:Nat):wn ds i<=(XZ ds).length:=by
 unfold wn XZ
 conv=>rhs;rw[<- List.take_append_drop i ds,JS]
 simp
def qY (ds:List Qr) (s:YZ) (now:List Nat):Bool :=
 (decide (s.bar<0)||decide (s.bar=(Xz ds (now.getD (plc s.pos s.frm now.length) 0)).bar)) &&
 (decide (s.smith<0)||decide (s.smith=(Xz ds (now.getD (plc s.pos s.frm now.length) 0)).smith))
def Ve (ds:List Qr) (e:Nat->Int) (s:YZ):Bool:=qY ds s (cab ds e s.after.toNat)
def QW (ds:List Qr) (ss:List YZ) (e:Nat->Int):Nat:=ss.countP fun s=>!Ve ds e s
theorem Uh (ds:List Qr) (ss:List YZ) (e:Nat->Int) (i:Nat) (h:i<ss.length):QW ds (ss.take (i+1)) e=QW ds (ss.take i) e+if Ve ds e ss[i] then 0 else 1:=by
 unfold QW;rw[Qzn h,QAP]
 grind
theorem qL (ds:List Qr) (ss:List YZ) (e:Nat->Int):QW ds ss e<=ss.length:=QAC
def QmQ (ds:List Qr) (ends:List Int):Prop:=ends.length=ds.length/\∀ i (h:i<ds.length) (h':i<ends.length),inR ends[i] 0 1/\(ds[i].frm<2->ends[i]=ds[i].frm)
noncomputable instance (ds:List Qr) (ends:List Int):Decidable (QmQ ds ends):=Classical.propDecidable _
def QhW (c:Qj) (ends:List Int):Prop:=QmQ c.deeds ends/\(QW c.deeds c.sights (Z4 ends):Int)<=c.wrong
noncomputable instance (c:Qj) (ends:List Int):Decidable (QhW c ends):=Classical.propDecidable _
structure Qd where
 shorts:List Int
 leak:Int
 deriving DecidableEq
structure Xs where
 ends:List Int
 set:Qd
 deriving DecidableEq
@[simp] def seC (s:Qd):List IV:=[Q8 s.shorts,.int .i64 s.leak]
@[simp] def tuC (t:Xs):List IV:=[Q8 t.ends,Q8 t.set.shorts,.int .i64 t.set.leak]
def okS (m:Machine) (s:Qd):Prop:=s.shorts.length=m.levers.length/\inR s.leak m.llo m.lhi/\∀ i (h:i<m.levers.length) (h':i<s.shorts.length),inR s.shorts[i] m.levers[i].lo m.levers[i].hi
noncomputable instance (m:Machine) (s:Qd):Decidable (okS m s):=Classical.propDecidable _
def qC (m:Machine) (leak w mn:Int):Int:=w+max 0 (m.water-mn*leak)
def Qbx (m:Machine):Int:=QX (·.long) m.levers
def den (s:Qd):Int:=QX id s.shorts
def num (m:Machine) (s:Qd) (w mn:Int):Int:=qC m s.leak w mn*Qbx m
theorem q0 {α:Type} (f:α->Int) (l:List α) (i:Nat) (h:i<l.length):QX f (l.take (i+1))=QX f (l.take i)*f l[i]:=by
 rw[Qzn h,Qb7]
theorem Qe4 {α:Type} (f:α->Int):∀ (l:List α),(∀ a∈l,1<=f a/\f a<=1000)->1<=QX f l/\QX f l<=(1000 ^ l.length:Nat)
 | [],_=>by simp[QX]
 | a::l,h=>by
   have h1:=h a (by simp)
   have h2:=Qe4 f l fun a ha=>h a (by simp[ha])
   have h3:=QzW h1.1 h2.1 (by omega) (by omega)
   have h4:=QzW h1.2 h2.2 (by omega) (by omega)
   simp only[QX,Qzv];omega
theorem QnF {n:Nat} (h:n<=3):1000 ^ n<=1000000000:=by
 have:n=0\/n=1\/n=2\/n=3:=by omega
 grind
theorem WJ {α:Type} (f:α->Int) (l:List α) (h:∀ a∈l,1<=f a/\f a<=1000) (hl:l.length<=3):1<=QX f l/\QX f l<=1000000000:=by
 have h1:=Qe4 f l h;have h2:=QnF hl;omega
theorem OkM.lever {m:Machine} (h:OkM m) {l:ZP} (hl:l∈m.levers):(1<=l.long/\l.long<=1000)/\1<=l.lo/\l.lo<=l.hi/\l.hi<=1000:=by
 have:=h.levers l hl;simp[ZJ] at this;simp only[inR] at this;omega
theorem OkM.bal {m:Machine} (h:OkM m) {b:Zq} (hl:b∈m.bals):inR b.weight 0 9999/\inR b.mins 0 99/\inR b.load 0 999999999/\inR b.off 0 999999999:=by
 have:=h.bals b hl;simp[Jo] at this
 grind
theorem OkM.pull {m:Machine} (h:OkM m) {leak w mn:Int} (hl:inR leak m.llo m.lhi) (hw:inR w 0 9999) (hm:inR mn 0 99):(0<=mn*leak/\mn*leak<=1980)/\0<=qC m leak w mn/\qC m leak w mn<=19998:=by
 have h1:=h.leak;have h2:=h.lhi;have h3:=h.water;simp only[inR] at *;have h4:=Qz8 (a:=mn) (b:=leak) (by omega) (by omega)
 have h5:=QzW (show mn<=99 by omega) (show leak<=20 by omega) (by omega) (by omega)
 unfold qC;omega
theorem OkM.longs {m:Machine} (h:OkM m) (i:Nat):1<=QX (·.long) (m.levers.take i)/\QX (·.long) (m.levers.take i)<=1000000000 :=
 WJ _ _ (fun a ha=>(h.lever (Qz5 ha)).1) (by have:=h.len;simp;omega)
theorem OkM.shorts {m:Machine} (h:OkM m) {s:Qd} (hs:okS m s) (i:Nat):1<=QX id (s.shorts.take i)/\QX id (s.shorts.take i)<=1000000000 :=
 WJ _ _ (fun a ha=>by
  obtain ⟨k,hk,rfl⟩:=QzV (Qz5 ha);have h1:=hs.2.2 k (by rw[<- hs.1];exact hk) hk
  have h2:=h.lever (Qzr (show k<m.levers.length by grind))
  simp only[inR,id] at *;omega) (by have:=h.len;have:=hs.1;simp;omega)
theorem OkM.aboveB {m:Machine} (h:OkM m):1<=Qbx m/\Qbx m<=1000000000:=by
 have:=h.longs m.levers.length
 rwa [QzG] at this
theorem OkM.denB {m:Machine} (h:OkM m) {s:Qd} (hs:okS m s):1<=den s/\den s<=1000000000:=by
 have:=h.shorts hs s.shorts.length
 rwa [QzG] at this
theorem OkM.numB {m:Machine} (h:OkM m) {s:Qd} (hs:okS m s) {w mn:Int} (hw:inR w 0 9999) (hm:inR mn 0 99):0<=num m s w mn/\num m s w mn<=19998000000000:=by
 have h1:=h.aboveB;have h2:=(h.pull hs.2.1 hw hm).2;have h3:=Qz8 (a:=qC m s.leak w mn) (b:=Qbx m) (by omega) (by omega)
 have h4:=QzW h2.2 h1.2 (by omega) (by omega)
 unfold num;omega
def Qb3 (m:Machine) (s:Qd) (b:Zq):Bool :=
 decide (num m s b.weight b.mins-b.load*den s<=b.off*den s /\ -(num m s b.weight b.mins-b.load*den s)<=b.off*den s)
def XG (m:Machine) (bs:List Zq) (s:Qd):Nat:=bs.countP fun b=>!Qb3 m s b
theorem QbE (m:Machine) (bs:List Zq) (s:Qd) (i:Nat) (h:i<bs.length):XG m (bs.take (i+1)) s=XG m (bs.take i) s+if Qb3 m s bs[i] then 0 else 1:=by
 unfold XG;rw[Qzn h,QAP]
 grind
theorem QfR (m:Machine) (bs:List Zq) (s:Qd):XG m bs s<=bs.length:=QAC
def Qgi (m:Machine) (s:Qd):Prop:=okS m s/\(XG m m.bals s:Int)<=m.wrong
noncomputable instance (m:Machine) (s:Qd):Decidable (Qgi m s):=Classical.propDecidable _
def QdE (p:QE) (t:Xs):Prop:=QhW p.chain t.ends/\Qgi p.machine t.set
noncomputable instance (p:QE) (t:Xs):Decidable (QdE p t):=Classical.propDecidable _
include hK
theorem Qop (c:Qj) (ends:List Int):Ev.Good Tryz.prog K 177 [chV c,Q8 ends] (.bool (decide (QmQ c.deeds ends))):=by
 refine Qb hK QpV (by simp) ?_
 have no:∀ q:Prop,(QmQ c.deeds ends->q)->¬ q->¬ QmQ c.deeds ends:=fun q h1 h2 h=>h2 (h1 h)
 by_cases h1:ends.length=c.deeds.length
 ·simp[h1]
  intros;refine Qu (fun i=>[(1,AV.iv (Q8 ends)),(2,AV.iv (.ptr [QD c.deeds,Qy c.sights,.int .i64 c.wrong])),(5,AV.iv (IV.int IntKind.i64 (i:Nat)))]) (fun _=>[]) ends.length (fun i=>∀ k (h:k<c.deeds.length) (h':k<ends.length),k<i->inR ends[k] 0 1/\(c.deeds[k].frm<2->ends[k]=c.deeds[k].frm)) (by simp) ?_ ?_
  ·intro h
   have:QmQ c.deeds ends:=⟨h1,fun k hk hk'=>h k hk hk' hk'⟩
   rw[Qa Qes.eq_1];simp[this]
  ·intro i hi h ih
   have hi':i<c.deeds.length:=by omega
   rw[Qa Qes.eq_1];simp[hi,hi'] at ih |-;intros;refine cK (Xv hK _ _ _) ?_;by_cases k1:inR ends[i] 0 1
   ·by_cases k2:c.deeds[i].frm<2
    ·by_cases k3:ends[i]=c.deeds[i].frm
     ·have k1':=k1
      rw[k3] at k1';simp[k1',k2,k3,hi,hi'];refine ⟨by omega,ih fun k hk hk' hlt=>?_⟩
      grind
     ·have:=no _ (fun hh=>(hh.2 i hi' hi).2 k2) k3
      simp[k1,k2,k3,hi,hi',this]
    ·simp[k1,k2,hi,hi']
     refine ⟨by omega,ih fun k hk hk' hlt=>?_⟩
     grind
   ·have:=no _ (fun hh=>(hh.2 i hi' hi).1) k1
    simp[k1,this]
 ·have h1':¬ (ends.length:Int)=c.deeds.length:=by omega
  have:=no _ (fun hh=>hh.1) h1
  simp[h1',this]
theorem Qoa (c:Qj) (s:YZ) (ends:List Int) (hc:OkD c.deeds c.deeds.length) (hl:c.deeds.length<=1000) (he:c.deeds.length<=ends.length) (hs:Zm s c.deeds):Ev.Good Tryz.prog K 214 [chV c,.agg (sC s),Q8 ends] (.bool (Ve c.deeds (Z4 ends) s)):=by
 refine Qb hK QpD (by simp) ?_
 obtain ⟨s1,s2,s3,s4,s5⟩:=hs;simp only[inR] at s1 s2 s3;have hlt:s.after.toNat<c.deeds.length+1:=by omega
 have hcl:=Xr (Z4 ends) hc s.after.toNat (by omega) (by omega)
 have hcg:=VA c.deeds (Z4 ends) c.deeds.length s.after.toNat (by omega)
 have hcb:=hc.cnt s.after.toNat (by omega) (by omega)
 have hclt:=Qaq c.deeds (Z4 ends) s.after.toNat;have hww:=UW c.deeds s.after.toNat;simp;refine cK (Qia hK c ends hc hl he) ?_;simp[hlt,hcg];refine ⟨by omega,cK (Qih hK c hl) ?_⟩
 simp;intros;refine cK (QdK hK s.pos s.frm (cab c.deeds (Z4 ends) s.after.toNat).length (by omega) (by omega)) ?_
 have hp:(if s.frm=1 then ((cab c.deeds (Z4 ends) s.after.toNat).length:Int)-1-s.pos else s.pos)=(plc s.pos s.frm (cab c.deeds (Z4 ends) s.after.toNat).length:Nat):=by
  unfold plc;split<;>omega
 have hpl:plc s.pos s.frm (cab c.deeds (Z4 ends) s.after.toNat).length<(cab c.deeds (Z4 ends) s.after.toNat).length:=Qb9 (by omega)
 have hwe:Xo Q3 c.deeds 0=XZ c.deeds:=rfl;rw[hp,hwe];have hr:Ve c.deeds (Z4 ends) s=qY c.deeds s (cab c.deeds (Z4 ends) s.after.toNat):=rfl;rw[hr];unfold qY;generalize plc s.pos s.frm (cab c.deeds (Z4 ends) s.after.toNat).length=at_ at *;generalize cab c.deeds (Z4 ends) s.after.toNat=now at *
 have h1:now[at_]<(XZ c.deeds).length:=by
  have:=hclt now[at_] (Qzr hpl);omega
 have h2:(XZ c.deeds)[now[at_]]<c.deeds.length:=QaC (Qzr h1)
 have hm:Xz c.deeds (now.getD at_ 0)=c.deeds[(XZ c.deeds)[now[at_]]]:=by
  simp[Xz,List.getD_eq_getElem?_getD,hpl,h1,h2]
 rw[hm];simp[hpl,h1,h2]
 grind
theorem Qoo (c:Qj) (ends:List Int) (hc:OkC c) (he:c.deeds.length<=ends.length):Ev.Good Tryz.prog K 178 [chV c,Q8 ends] (.int .i64 (QW c.deeds c.sights (Z4 ends))):=by
 refine Qb hK QpU (by simp) ?_
 have hl:=hc.len;simp;refine Qu (fun i=>[(1,AV.iv (Q8 ends)),(2,AV.iv (.ptr [QD c.deeds,Qy c.sights,.int .i64 c.wrong])),(5,AV.iv (IV.int IntKind.i64 (QW c.deeds (c.sights.take i) (Z4 ends):Nat))),(6,AV.iv (IV.int IntKind.i64 (i:Nat)))]) (fun _=>[]) c.sights.length (fun i=>True) trivial ?_ ?_
 ·intro _
  rw[Qa Qer.eq_1];simp
 ·intro i hi _ ih
  have hle:=qL c.deeds (c.sights.take i) (Z4 ends);have hsl:=hc.slen;simp at hle;rw[Qa Qer.eq_1];rw[Uh _ _ _ _ hi] at ih;simp[hi] at ih |-;intros;refine cK (Qoa hK c c.sights[i] ends hc.deeds (by omega) he (hc.sights _ (Qzr hi))) ?_
  cases hr:Ve c.deeds (Z4 ends) c.sights[i]
  ·simp[hr] at ih |-
   grind
  ·simp[hr] at ih |-
   grind
theorem QoL (c:Qj) (ends:List Int) (hc:OkC c):Ev.Good Tryz.prog K 130 [chV c,Q8 ends] (.bool (decide (QhW c ends))):=by
 refine Qb hK Qqy (by simp) ?_
 simp;refine cK (Qop hK c ends) ?_;by_cases h1:QmQ c.deeds ends
 ·simp[h1]
  refine cK (Qoo hK c ends hc (by rw[h1.1];omega)) ?_
  simp[QhW,h1]
 ·simp[h1,QhW]
omit hK
def t0:Qby:=⟨0,0,0⟩
def tr (p:QE) (i:Nat):Qby:=p.trials.getD i t0
theorem Qrv {p:QE} {i:Nat} (h:i<p.trials.length):p.trials[i]=tr p i:=by simp[tr,List.getD_eq_getElem?_getD,h]
def QfT (p:QE) (i:Nat) (e:Nat->Int):List Nat:=cab p.chain.deeds e ((pv p.chain.deeds).getD i 0)
def qp (p:QE) (i:Nat) (e:Nat->Int):Int:=if 0<=(tr p i).broke then ((QfT p i e).getD (tr p i).broke.toNat 0:Nat) else -1
def Qgd (p:QE) (i:Nat) (s:Qd):Int:=num p.machine s (tr p i).weight (tr p i).mins
def Qiv (p:QE) (i:Nat) (t:Xs):Bool:=decide (0<=(tr p i).broke)&&decide (Qgd p i t.set<=p.need*den t.set)
def QoZ (p:QE) (t:Xs):Nat:=(List.range p.trials.length).countP fun i=>Qiv p i t
def inN (l:List Nat) (n:Int):Bool:=decide (n∈l.map fun k:Nat=>(k:Int))
def Qky (p:QE) (link:Int) (t:Xs) (i:Nat):Bool:=decide (p.need*den t.set<=Qgd p i t.set)&&inN (QfT p i (Z4 t.ends)) link&&!decide (qp p i (Z4 t.ends)=link)
def Qdm (p:QE) (link:Int) (t:Xs):Bool:=(List.range p.trials.length).any (Qky p link t)
def QuL (p:QE) (e:Nat->Int):List Nat:=cab p.chain.deeds e p.chain.deeds.length
def QvF (p:QE) (t:Xs):Bool:=((QuL p (Z4 t.ends)).all fun (k:Nat)=>Qdm p k t)&&decide ((QoZ p t:Int)<p.rule)
def Qma (p:QE) (smith:Int) (t:Xs) (i:Nat):Bool:=Qiv p i t&&decide ((Xz p.chain.deeds (qp p i (Z4 t.ends)).toNat).smith=smith)
def QqX (p:QE) (smith:Int) (t:Xs):Bool:=(List.range p.trials.length).any (Qma p smith t)
def Qnm (some many:Int):Int:=if some=many then 1 else if some=0 then 2 else 3
def YI (l:List Int) (lo:Int) (i:Nat):List Int:=((List.range i).map fun j:Nat=>lo+j).filter fun n=>decide (n∈l)
def JK (l:List Int) (lo hi:Int):List Int:=YI l lo (hi+1-lo).toNat
theorem QbL (l:List Int) (lo:Int) (i:Nat):YI l lo (i+1)=if (lo+i)∈l then YI l lo i++[lo+i] else YI l lo i:=by
 unfold YI;rw[QAv,QzU,List.filter_append]
 grind
theorem Wm (l:List Int) (lo:Int) (i:Nat):(YI l lo i).length<=i:=QzT (QzQ _ _) (by simp)
def Qr9 (p:QE) (t:Xs) (k:Nat) (m:Int) (i:Nat):Int :=
 if inN (QfT p i (Z4 t.ends)) k=true/\¬ qp p i (Z4 t.ends)=k then max m ((Qgd p i t.set).tdiv (den t.set)) else m
def Qvu (p:QE) (t:Xs) (k:Nat) (n:Nat):Int:=(List.range n).foldl (Qr9 p t k) (-1)
def Qwm (p:QE) (t:Xs) (now:List Nat):Int:=now.foldl (fun b k=>min b (Qvu p t k p.trials.length)) 999999999
def Qs6 (p:QE) (t:Xs) (i n:Nat):Nat:=(List.range n).countP fun k=>decide (0<=(tr p k).broke)&&decide (Qgd p k t.set<=Qgd p i t.set)
def Qul (p:QE) (t:Xs) (b:Int) (i:Nat):Int :=
 if 0<=(tr p i).broke/\p.rule<=(Qs6 p t i p.trials.length:Int) then min b ((Qgd p i t.set+den t.set-1).tdiv (den t.set)-1) else b
def Qrs (p:QE) (t:Xs):Int:=(List.range p.trials.length).foldl (Qul p t) (Qwm p t (QuL p (Z4 t.ends)))
theorem Qg2 {a b:Int} (h1:0<=a) (h2:1<=b):0<=a.tdiv b/\a.tdiv b<=a:=by
 rw[QAj h1];exact ⟨Int.ediv_nonneg h1 (by omega),Int.ediv_le_self _ h1⟩
structure Fit (p:QE) (t:Xs):Prop where
 ends:p.chain.deeds.length<=t.ends.length
 set:okS p.machine t.set
theorem OkP.trial {p:QE} (h:OkP p) {i:Nat} (hi:i<p.trials.length):QaY (tr p i) (cnt p.chain.deeds ((pv p.chain.deeds).getD i 0)):=by
 have h1:i<(pv p.chain.deeds).length:=by rw[<- h.many];exact hi
 have:=h.trials i h1 hi;rw[Qrv hi] at this
 grind
include hK
theorem QoK (c:Qj) (ends:List Int) (hc:OkD c.deeds c.deeds.length) (hl:c.deeds.length<=1000) (he:c.deeds.length<=ends.length):Ev.Good Tryz.prog K 131 [chV c,Q8 ends] (Yz (cab c.deeds (Z4 ends) c.deeds.length)):=by
 refine Qb hK Qqx (by simp) ?_
 have hcg:=VA c.deeds (Z4 ends) c.deeds.length c.deeds.length (by omega)
 simp;refine cK (Qia hK c ends hc hl he) ?_;simp[hcg]
theorem QoI (l:List Int) (lo hi:Int) (h1 : -1000<=lo) (h2:lo<=hi) (h3:hi<=1000):Ev.Good Tryz.prog K 135 [Q8 l,.int .i64 lo,.int .i64 hi] (Q8 (JK l lo hi)):=by
 refine Qb hK Qqt (by simp) ?_
 simp;have e0:lo=lo+((0:Nat):Int):=by simp
 conv=>arg 8;rw[e0]
 refine Qu (fun i=>[(0,AV.iv (Q8 l)),(2,AV.iv (IV.int IntKind.i64 hi)),(7,AV.aref 7 (YI l lo i).length),(8,AV.iv (IV.int IntKind.i64 (lo+(i:Nat))))])
  (fun i=>[(7,AO.arr 3 1 (emb ((YI l lo i).map fun n=>[.int .i64 n])) 0)]) (hi+1-lo).toNat (fun i=>True) trivial ?_ ?_
 ·intro _
  have e1:lo+((hi+1-lo).toNat:Int)=hi+1:=by omega
  have e2:¬ hi+1<=hi:=by omega
  rw[e1,Qa QeA.eq_1];simp[e2,JK]
 ·intro i hi' _ ih
  have hln:=Wm l lo i;have e1:lo+(i:Int)<=hi:=by omega
  rw[QbL] at ih;rw[Qa QeA.eq_1];simp[e1];refine cK (Qom hK l (lo+i)) ?_;have e3:lo+((i:Int)+1)=lo+i+1:=by omega
  by_cases hm:(lo+(i:Int))∈l
  ·simp[hm,e3] at ih |-
   grind
  ·simp[hm,e3] at ih |-
   grind
omit hK
def UN (d:Qr):List Int:=(if d.frm=0\/d.frm=2 then [0] else [])++(if d.frm=1\/d.frm=2 then [1] else [])
def Zi:List Qr->List (List Int)
 | []=>[[]]
 | d::r=>(UN d).flatMap fun e=>(Zi r).map (e::·)
noncomputable def Xb (c:Qj) (first:List Int) (rest:List Qr):List (List Int):=((Zi rest).map (first++·)).filter fun e=>decide (QhW c e)
theorem Qal (c:Qj) (first:List Int) (d:Qr) (r:List Qr):Xb c first (d::r)=(UN d).flatMap fun e=>Xb c (first++[e]) r:=by
 simp only[Xb,Zi,List.map_flatMap,List.filter_flatMap,List.map_map]
 congr 1
 funext e
 congr 2
 grind
def acc {α:Type} (pc:Nat->List α) (i:Nat):List α:=(List.range i).flatMap pc
theorem Qmk {α:Type} (pc:Nat->List α):acc pc 0=[]:=rfl
theorem QfQ {α:Type} (pc:Nat->List α) (i:Nat):acc pc (i+1)=acc pc i++pc i:=by simp[acc,QAv]
noncomputable def Vg (c:Qj) (first:List Int) (d:Qr) (r:List Qr) (i:Nat):List (List Int):=if d.frm=i\/d.frm=2 then Xb c (first++[(i:Int)]) r else []
theorem QcJ (c:Qj) (first:List Int) (d:Qr) (r:List Qr):Xb c first (d::r)=acc (Vg c first d r) 2:=by
 rw[Qal];unfold acc;have:List.range 2=[0,1]:=rfl;rw[this];unfold UN Vg;by_cases h0:d.frm=0
 all_goals grind
theorem QiP (d:Qr):(UN d).length<=2:=by unfold UN;grind
theorem Q6 {α β:Type} (f:α->List β) (n:Nat):∀ l:List α,(∀ a∈l,(f a).length<=n)->(l.flatMap f).length<=l.length*n
 | [],_=>by simp
 | a::l,h=>by
   have h1:=h a (by simp)
   have h2:=Q6 f n l fun b hb=>h b (by simp[hb])
   simp only[Qz4,Qzp,Qzv,Nat.succ_mul];omega
theorem QeP {α:Type} (pc:Nat->List α) (n:Nat) (h:∀ i,(pc i).length<=n) (i:Nat):(acc pc i).length<=i*n:=by
 have:=Q6 pc n (List.range i) fun a _=>h a
 simpa[acc] using this
theorem qf (c:Qj):∀ (rest:List Qr) (first:List Int),(Xb c first rest).length<=2 ^ rest.length
 | [],first=>by
   have:=QzQ (fun e=>decide (QhW c e)) ([[]].map (first++·))
   simpa[Xb,Zi] using this
 | d::r,first=>by
   rw[Qal];have h1:=Q6 (fun e=>Xb c (first++[e]) r) (2 ^ r.length) (UN d) fun e _=>qf c r (first++[e])
   have h2:=QzN (2 ^ r.length) (QiP d)
   grind
theorem X7 {n:Nat} (h:n<=12):2 ^ n<=4096:=Qz0 (by omega) h
include hK
omit hK
def QB:List ZP->List (List Int)
 | []=>[[]]
 | l::r=>acc (fun i=>(QB r).map ((l.lo+(i:Nat))::·)) (l.hi+1-l.lo).toNat
def QO (m:Machine) (first:List Int) (rest:List ZP):List Qd:=(QB rest).flatMap fun s=>(List.range (m.lhi+1-m.llo).toNat).map fun k:Nat=>⟨first++s,m.llo+k⟩
noncomputable def Xx (m:Machine) (first:List Int) (rest:List ZP):List Qd:=(QO m first rest).filter fun s=>decide (Qgi m s)
theorem Qf0 (m:Machine) (first:List Int) (l:ZP) (r:List ZP):Xx m first (l::r)=acc (fun i=>Xx m (first++[l.lo+(i:Nat)]) r) (l.hi+1-l.lo).toNat:=by
 simp only[Xx,QO,QB,acc,List.flatMap_assoc,List.filter_flatMap]
 congr 1
 funext i
 simp[List.flatMap_map]
theorem QbN (m:Machine):∀ (rest:List ZP) (first:List Int),(∀ l∈rest,1<=J7 l)->1<=m.lhi-m.llo+1->((Xx m first rest).length:Int)<=(m.lhi-m.llo+1)*QX J7 rest
 | [],first,_,h=>by
   have:=QzQ (fun s=>decide (Qgi m s)) (QO m first [])
   simp[QO,QB] at this;simp only[Xx,QX];simp only[QO,QB] at this |-
   grind
 | l::r,first,hs,h=>by
   rw[Qf0];have ih:=fun e:Int=>QbN m r (first++[e]) (fun l hl=>hs l (by simp[hl])) h
   have hl:=hs l (by simp)
   have hp:=Qhu J7 r fun l hl=>hs l (by simp[hl])
   have hpp:=Qz8 (a:=m.lhi-m.llo+1) (b:=QX J7 r) (by omega) (by omega)
   have h1:=QeP (fun i=>Xx m (first++[l.lo+(i:Nat)]) r) ((m.lhi-m.llo+1)*QX J7 r).toNat (fun i=>by grind) (l.hi+1-l.lo).toNat
   have e1:((l.hi+1-l.lo).toNat:Int)=J7 l:=by unfold J7 at *;omega
   have e2:(((m.lhi-m.llo+1)*QX J7 r).toNat:Int)=(m.lhi-m.llo+1)*QX J7 r:=by omega
   have h2:=Int.ofNat_le.2 h1;rw[Int.natCast_mul,e1,e2] at h2;simp only[QX]
   grind
noncomputable def QwJ (m:Machine) (first:List Int) (k:Nat):List Qd:=if Qgi m ⟨first,m.llo+k⟩ then [⟨first,m.llo+k⟩] else []
include hK
omit hK
noncomputable def QhR (p:QE):List Xs:=(Xb p.chain [] p.chain.deeds).flatMap fun e=>(Xx p.machine [] p.machine.levers).map fun s=>⟨e,s⟩
noncomputable def kL (p:QE) (is:Bool):List Xs:=if OkP p/\is=true then QhR p else []
noncomputable def kE (p:QE) (is:Bool):Int:=if OkP p then (if is=true then (if QhR p=[] then 3 else 0) else 1) else 60
theorem Qd1 {c:Qj} {e:List Int} (h:e∈Xb c [] c.deeds):QhW c e:=by
 simp only[Xb,QAo,decide_eq_true_eq] at h;exact h.2
theorem QdE.fit {p:QE} {t:Xs} (h:QdE p t):Fit p t:=⟨by rw[h.1.1.1];omega,h.2.1⟩
theorem Qfx {c:Qj} (h:OkC c):(Xb c [] c.deeds).length<=4096:=QzT (qf c _ _) (X7 h.len)
theorem Qkp {m:Machine} (h:OkM m):((Xx m [] m.levers).length:Int)<=sets m m.levers.length:=by
 have h1:=h.leak;simp only[inR] at h1;have:=QbN m m.levers [] (fun l hl=>(h.span hl).1) (by omega)
 rwa [sets,QzG]
include hK
omit hK
structure Qy9 (p:QE):Prop where
 small:Qwr p
 sets:OkP p->sets p.machine p.machine.levers.length<=1000000
def QnM (p:QE) (link:Int):Bool:=decide (inR link 0 ((XZ p.chain.deeds).length-1))
def Qru (p:QE) (n:Int):Bool:=decide (inR n 0 (p.trials.length-1))
noncomputable def Qvl (p:QE) (link:Int):Int:=if kE p (QnM p link)=0 then Qnm ((kL p (QnM p link)).countP (Qdm p link)) (kL p (QnM p link)).length else 0
noncomputable def QyI (p:QE):Int:=if kE p true=0 then Qnm ((kL p true).countP fun t=>decide (p.rule<=(QoZ p t:Int))) (kL p true).length else 0
noncomputable def QyG (p:QE):Int:=if kE p true=0 then Qnm ((kL p true).countP (QvF p)) (kL p true).length else 0
noncomputable def QmJ (p:QE):Int:=(kL p true).foldl (fun b t=>min b (Qrs p t)) 999999999
noncomputable def QwG (p:QE):Int × Int:=if kE p true=0 then (if QmJ p<0 then (0,3) else (QmJ p,0)) else (0,kE p true)
def span (l:List Int):Int × Int:=match l with
 | []=>(0,0)
 | a::r=>(r.foldl min a,r.foldl max a)
noncomputable def QyH (p:QE):Int × Int:=span ((kL p true).map fun t=>(QoZ p t:Int))
noncomputable def Qvm (p:QE):List Int:=if kE p true=0 then acc (fun s:Nat=>if (kL p true).all (QqX p s) then [(s:Int)] else []) 100 else []
noncomputable def QyE (p:QE):List Int:=if kE p true=0 then acc (fun at_:Nat=>if (kL p true).all (fun t=>Qdm p ((QuL p (Z4 t.ends)).getD at_ 0) t) then [] else [(at_:Int)]) (Qn p.chain.deeds).toNat else []
noncomputable def QwH (p:QE) (n:Int):List Int:=JK ((kL p (Qru p n)).map fun t=>qp p n.toNat (Z4 t.ends)) 0 12
include hK
end Go.Pf
namespace Go.Ev
end Go.Ev
namespace Go.Pf
open Go Go.Ev Go.Proofs Go.RowKit
variable {K:World->Prop} (hK:∀ w w',K w->Below w.heap.size w w'->K w')
set_option maxRecDepth 8000
theorem Va:∀ (r:List ZP) (s:List Int),s∈QB r->s.length=r.length
 | [],s,h=>by simp[QB] at h;simp[h]
 | l::r,s,h=>by
   simp only[QB,acc,QzP,QzI] at h;obtain ⟨i,_,x,hx,rfl⟩:=h;simp[Va r x hx]
theorem Uo:∀ (r:List ZP) (s:List Int),s∈QB r->∀ i (h:i<r.length) (h':i<s.length),inR s[i] r[i].lo r[i].hi
 | [],s,h,i,hi,_=>by simp at hi
 | l::r,s,h,i,hi,hi'=>by
   simp only[QB,acc,QzP,QzI,QAE] at h;obtain ⟨j,hj,x,hx,rfl⟩:=h;cases i with
   | zero=>simp only[List.getElem_cons_zero,inR];omega
   | succ i=>simp only[List.getElem_cons_succ];exact Uo r x hx i (by simpa using hi) (by simpa using hi')
theorem qU {m:Machine} {s:Qd} (h:s∈QO m [] m.levers):okS m s:=by
 simp only[QO,QzP,QzI,QAE,QAa] at h;obtain ⟨x,hx,k,hk,rfl⟩:=h;exact ⟨Va _ _ hx,by simp only[inR];omega,Uo _ _ hx⟩
theorem Uq (m:Machine) (first:List Int) (l:ZP) (r:List ZP):QO m first (l::r)=acc (fun i=>QO m (first++[l.lo+(i:Nat)]) r) (l.hi+1-l.lo).toNat:=by
 simp only[QO,QB,acc,List.flatMap_assoc]
 congr 1
 funext i
 simp[List.flatMap_map]
def Qca (m:Machine) (first:List Int) (k:Nat):List Qd:=[⟨first,m.llo+k⟩]
theorem Wp (m:Machine) (first:List Int):QO m first []=acc (Qca m first) (m.lhi+1-m.llo).toNat:=by
 simp only[QO,QB,acc,Qz4,List.flatMap_nil,QAx];generalize (m.lhi+1-m.llo).toNat=n
 induction n with
 | zero=>rfl
 | succ n ih=>rw[QAv,QzU,ih,QAl];rfl
noncomputable def tL (m:Machine) (is:Bool):List Qd:=if OkM m/\is=true then Xx m [] m.levers else []
noncomputable def tE (m:Machine) (is:Bool):Int:=if OkM m then (if is=true then (if Xx m [] m.levers=[] then 3 else 0) else 1) else 30
def Qro (w mn load:Int):Bool:=decide (inR w 0 9999/\inR mn 0 99/\inR load 0 999999999)
def Qvx (m:Machine) (w mn:Int) (s:Qd):Int:=(num m s w mn).tdiv (den s)
def upS (m:Machine) (w mn:Int) (s:Qd):Int:=(num m s w mn+den s-1).tdiv (den s)
noncomputable def QyF (m:Machine) (w mn:Int):Int × Int:=((span ((tL m (Qro w mn 0)).map (Qvx m w mn))).1,(span ((tL m (Qro w mn 0)).map (upS m w mn))).2)
include hK
def Qq0 (m:Machine) (l:List Qd) (w mn load:Int):Prop:=∀ s∈l,load*den s<=num m s w mn
omit hK
noncomputable def QmO (m:Machine) (l:List Qd) (mn load:Int):Int:=open Classical in ((List.range 10000).findIdx fun (n:Nat)=>decide (Qq0 m l n mn load):Nat)
noncomputable def Qvk (m:Machine) (mn load:Int):Int × Int:=if tE m (Qro 0 mn load)=0 then (if 9999<QmO m (tL m (Qro 0 mn load)) mn load then (0,3) else (QmO m (tL m (Qro 0 mn load)) mn load,0)) else (0,tE m (Qro 0 mn load))
theorem Qrw {m:Machine} {is:Bool} (h:tE m is=0):OkM m/\is=true/\tL m is=Xx m [] m.levers/\Xx m [] m.levers≠[]:=by
 unfold tE at h;split at h
 ·rename_i h1
  split at h
  ·rename_i h2
   split at h
   ·cases h
   ·rename_i h3
    exact ⟨h1,h2,by simp[tL,h1,h2],h3⟩
  ·cases h
 ·cases h
include hK
omit hK
@[simp] def stC (s:List Int) (leak below:Int):List IV:=[.int .i64 (s.getD 0 0),.int .i64 (s.getD 1 0),.int .i64 (s.getD 2 0),.int .i64 leak,.int .i64 below]
@[simp] def wkC (m:Machine):List IV:=[YQ m.levers,.int .i64 m.water,.int .i64 m.llo,.int .i64 m.lhi,Qbu m.bals,.int .i64 m.wrong,.int .i64 (Qbx m)]
def ZO {α:Type} (pc:Nat->List α):Nat->Nat->List α
 | _,0=>[]
 | i,k+1=>pc i++ZO pc (i+1) k
theorem qu {α:Type} (pc:Nat->List α):∀ k i,acc pc i++ZO pc i k=acc pc (i+k)
 | 0,i=>by simp[ZO]
 | k+1,i=>by
   have:=qu pc k (i+1);rw[QfQ] at this;have e:i+(k+1)=i+1+k:=by omega
   rw[ZO,<- QzC,this,e]
theorem Wd {α:Type} (pc:Nat->List α) (n:Nat):acc pc n=ZO pc 0 n:=by
 have:=qu pc n 0;simp only[Qmk,QAa,Qzx] at this;exact this.symm
def V1 (m:Machine) (s:Qd):List IV:=[.agg (stC s.shorts s.leak (den s)),.int .i64 (XG m m.bals s)]
include hK
theorem QsS (m:Machine) (s:Qd) (w mn:Int) (hm:OkM m) (hl:inR s.leak m.llo m.lhi) (hw:inR w 0 9999) (hmn:inR mn 0 99):Ev.Good Tryz.prog K 37 [.ptr (wkC m),.agg (stC s.shorts s.leak (den s)),.int .i64 w,.int .i64 mn] (.int .i64 (qC m s.leak w mn)):=by
 refine Qb hK Qt4 (by simp) ?_
 have hp:=hm.pull hl hw hmn;have h3:=hm.water;simp only[inR] at h3 hw
 have e0:(w+if mn*s.leak<m.water then m.water-mn*s.leak else 0)=qC m s.leak w mn:=by
  simp only[qC];split<;>omega
 simp[e0];omega
theorem QsD (m:Machine) (hm:OkM m):Ev.Good Tryz.prog K 65 [maV m] (.ptr (wkC m)):=by
 refine Qb hK QtJ (by simp) ?_
 have hl:=hm.len;simp
 (repeat' first | omega | (with_reducible apply And.intro) | intro _)
 refine Qu (fun i=>[(3,AV.loc 8 0),(10,AV.iv (YQ m.levers)),(11,AV.iv (.int .i64 m.levers.length)),(12,AV.iv (IV.int IntKind.i64 (i:Nat)))])
  (fun i=>[(8,AO.box [.iv (YQ m.levers),.iv (.int .i64 m.water),.iv (.int .i64 m.llo),.iv (.int .i64 m.lhi),.iv (Qbu m.bals),.iv (.int .i64 m.wrong),.iv (.int .i64 (QX (·.long) (m.levers.take i)))])]) m.levers.length (fun i=>True) trivial ?_ ?_
 ·intro _
  rw[Qa QjE.eq_1];rw[QzG];simp[Qbx]
 ·intro i hi _ ih
  have l1:=hm.longs (i+1);rw[q0 _ _ _ hi] at ih l1;rw[Qa QjE.eq_1];simp[hi] at ih l1 |-
  grind
theorem QoM (m:Machine) (s:Qd) (b:Zq) (hm:OkM m) (hs:okS m s) (hb:b∈m.bals):Ev.Good Tryz.prog K 126 [.ptr (wkC m),.agg (stC s.shorts s.leak (den s)),.agg (baC b)] (.bool (Qb3 m s b)):=by
 refine Qb hK Qqz (by simp) ?_
 have h:=hm.bal hb;simp;refine cK (QsS hK m s b.weight b.mins hm hs.2.1 h.1 h.2.1) ?_;have h1:=hm.numB hs h.1 h.2.1;have h2:=hm.denB hs;have h3:=h.2.2;simp only[inR] at h3;have h4:=QzW h3.1.2 h2.2 (by omega) (by omega)
 have h5:=Qz8 h3.1.1 (Int.le_trans (by omega) h2.1)
 have hr:Qb3 m s b=decide (num m s b.weight b.mins-b.load*den s<=b.off*den s /\ -(num m s b.weight b.mins-b.load*den s)<=b.off*den s):=rfl;have hnum:qC m s.leak b.weight b.mins*Qbx m=num m s b.weight b.mins:=rfl;rw[hr];simp[hnum]
 have key:∀ d:Int,0<=d->(d<=b.off*den s↔(d.tdiv (den s)<b.off\/(d.tdiv (den s)=b.off/\d.tmod (den s)=0))):=fun d hd=>by
  rw[QAj hd,Int.tmod_eq_emod_of_nonneg hd];have e1:=Int.emod_def d (den s);have e2:=Int.emod_nonneg d (b:=den s) (by omega)
  have e3:=Int.emod_lt_of_pos d (b:=den s) (by omega)
  constructor
  ·intro hle
   have h6:d / den s<=b.off:=by
    have:=Int.ediv_le_ediv (c:=den s) (by omega) hle
    rwa [Int.mul_ediv_cancel _ (by omega)] at this
   grind
  ·rintro (h7 | ⟨h7,h8⟩)
   ·have h9:(d / den s+1)*den s<=b.off*den s:=Int.mul_le_mul_of_nonneg_right (by omega) (by omega)
    grind
   grind
 have hd0:¬ den s=0:=by omega
 generalize num m s b.weight b.mins=N at *;generalize b.load*den s=L at *;have hD : -1000000000000000000<=N-L/\N-L<=1000000000000000000:=by omega
 generalize hDe:N-L=D at *;have hO:=Qz8 h3.2.1 (show 0<=den s by omega)
 by_cases hneg:D<0
 ·have hk:=key (-D) (by omega)
  have htd:=Qg2 (a := -D) (b:=den s) (by omega) h2.1
  have ht2:=Int.tmod_nonneg (den s) (a := -D) (by omega)
  generalize b.off*den s=O at *;rw[Int.neg_tdiv] at htd hk;rw[Int.neg_tmod] at ht2 hk
  grind
 ·have hk:=key D (by omega)
  have htd:=Qg2 (a:=D) (b:=den s) (by omega) h2.1
  grind
omit hK
structure Sea where
 thick:Int
 str:Int
 waters:List (Int × Int)
 wlo:Int
 whi:Int
 voys:List (Int × Int)
 gauges:List (Int × Int × Int)
 wrong:Int
 deriving DecidableEq
@[simp] def spC (s:Int × Int):List IV:=[.int .i64 s.1,.int .i64 s.2]
@[simp] def gaC (g:Int × Int × Int):List IV:=[.int .i64 g.1,.int .i64 g.2.1,.int .i64 g.2.2]
@[simp] def ZS (l:List (Int × Int)):IV:=.sl 2 (l.map spC)
@[simp] def V5 (l:List (Int × Int × Int)):IV:=.sl 3 (l.map gaC)
@[simp] def Yt (c:Sea):List IV:=[.int .i64 c.thick,.int .i64 c.str,ZS c.waters,.int .i64 c.wlo,.int .i64 c.whi,ZS c.voys,V5 c.gauges,.int .i64 c.wrong]
@[simp] def VQ (c:Sea):IV:=.agg (Yt c)
def QZ (s:Int × Int):Bool:=!decide (inR s.1 0 s.2)||decide (9<s.2)
def YE (n:Nat) (v:Int × Int):Bool:=!decide (inR v.1 0 ((n:Int)-1))||!decide (inR v.2 0 36)
def XU (n:Nat) (g:Int × Int × Int):Bool:=!decide (inR g.1 0 n)||!decide (inR g.2.1 0 500)||!decide (inR g.2.2 0 500)
structure Qf (c:Sea):Prop where
 thick:inR c.thick 1 500
 str:inR c.str 1 999
 wrong:inR c.wrong 0 6
 nw:c.waters.length<=4
 wear:QZ (c.wlo,c.whi)=false
 waters:∀ s∈c.waters,QZ s=false
 nv:c.voys.length<=8
 voys:∀ v∈c.voys,YE c.waters.length v=false
 ng:c.gauges.length<=6
 gauges:∀ g∈c.gauges,XU c.voys.length g=false
noncomputable instance (c:Sea):Decidable (Qf c):=Classical.propDecidable _
theorem Zb {s:Int × Int} (h:QZ s=false):0<=s.1/\s.1<=s.2/\s.2<=9:=by
 simp[QZ] at h;simp only[inR] at h;omega
theorem Qf.voy {c:Sea} (h:Qf c) {v:Int × Int} (hv:v∈c.voys):0<=v.1/\v.1<c.waters.length/\0<=v.2/\v.2<=36:=by
 have:=h.voys v hv;simp[YE] at this;simp only[inR] at this;omega
theorem Qf.gau {c:Sea} (h:Qf c) {g:Int × Int × Int} (hv:g∈c.gauges):0<=g.1/\g.1<=c.voys.length/\0<=g.2.1/\g.2.1<=500/\0<=g.2.2/\g.2.2<=500:=by
 have:=h.gauges g hv;simp[XU] at this;simp only[inR] at this;omega
@[simp] def X4 (c:Sea):Machine:=⟨c.waters.map fun s=>⟨0,s.1,s.2⟩,0,c.wlo,c.whi,[],0⟩
def Qdv (v:Int × Int) (w:Qd):Int:=v.2*w.shorts.getD v.1.toNat 0+w.leak
def Qdl (c:Sea) (w:Qd) (l:List (Int × Int)):Int:=c.thick-(l.map fun v=>Qdv v w).sum
def QH (c:Sea) (w:Qd) (k:Nat):Int:=max 0 (Qdl c w (c.voys.take k))
def Ze (c:Sea) (t:Int):Int:=(c.str*t*t).tdiv 10000
def Uu (c:Sea) (w:Qd) (g:Int × Int × Int):Bool:=decide (inR (QH c w g.1.toNat-g.2.1) (-g.2.2) g.2.2)
def Xk (c:Sea) (gs:List (Int × Int × Int)) (w:Qd):Nat:=gs.countP fun g=>!Uu c w g
def okW (c:Sea) (w:Qd):Prop:=okS (X4 c) w
def Qkl (c:Sea):List Qd:=QO (X4 c) [] (X4 c).levers
def isW (c:Sea) (w:Qd):Bool:=decide ((Xk c c.gauges w:Int)<=c.wrong)
def wTr (c:Sea):List Qd:=(Qkl c).filter (isW c)
theorem WH (c:Sea) (w:Qd) (k:Nat) (h:k<c.voys.length):Qdl c w (c.voys.take (k+1))=Qdl c w (c.voys.take k)-Qdv c.voys[k] w:=by
 unfold Qdl;rw[Qzn h,QzU,List.sum_append];simp only[QzH,List.map_nil,List.sum_cons,List.sum_nil];omega
theorem Ug (c:Sea) (gs:List (Int × Int × Int)) (w:Qd) (i:Nat) (h:i<gs.length):Xk c (gs.take (i+1)) w=Xk c (gs.take i) w+if Uu c w gs[i] then 0 else 1:=by
 unfold Xk;rw[Qzn h,QAP]
 grind
theorem qK (c:Sea) (gs:List (Int × Int × Int)) (w:Qd):Xk c gs w<=gs.length:=QAC
theorem Qhz {c:Sea} (hc:Qf c) {w:Qd} (hw:okW c w):(0<=w.leak/\w.leak<=9)/\w.shorts.length=c.waters.length/\∀ i:Nat,0<=w.shorts.getD i 0/\w.shorts.getD i 0<=9:=by
 obtain ⟨h1,h2,h3⟩:=hw;have hwr:=Zb hc.wear;simp only[inR,X4] at *;refine ⟨by omega,by simpa using h1,fun i=>?_⟩
 by_cases hi:i<w.shorts.length
 ·have hi':i<c.waters.length:=by simp at h1;omega
  have:=h3 i (by simpa using hi') hi
  have h4:=Zb (hc.waters _ (Qzr hi'));simp at this;rw[List.getD_eq_getElem?_getD,Qzk hi];simp;omega
 ·rw[List.getD_eq_getElem?_getD,List.getElem?_eq_none (by omega)]
  simp
theorem Qa0 {c:Sea} (hc:Qf c) {w:Qd} (hw:okW c w) {v:Int × Int} (hv:v∈c.voys):0<=v.2*w.shorts.getD v.1.toNat 0/\v.2*w.shorts.getD v.1.toNat 0<=324/\0<=Qdv v w/\Qdv v w<=333:=by
 have h1:=hc.voy hv;have h2:=Qhz hc hw;have h3:=h2.2.2 v.1.toNat;have h4:=Qz8 (a:=v.2) (b:=w.shorts.getD v.1.toNat 0) (by omega) (by omega)
 have h5:=QzW (show v.2<=36 by omega) h3.2 (by omega) (by omega)
 unfold Qdv;omega
theorem QaW {c:Sea} (hc:Qf c) {w:Qd} (hw:okW c w):∀ k:Nat,c.thick-333*(k:Int)<=Qdl c w (c.voys.take k)/\Qdl c w (c.voys.take k)<=c.thick
 | 0=>by simp[Qdl]
 | k+1=>by
   have ih:=QaW hc hw k;by_cases h:k<c.voys.length
   ·have:=Qa0 hc hw (Qzr h)
    rw[WH c w k h];omega
   ·rw[Qzt (show c.voys.length<=k+1 by omega)]
    rw[Qzt (show c.voys.length<=k by omega)] at ih
    omega
theorem ZA {c:Sea} (hc:Qf c) {w:Qd} (hw:okW c w) (k:Nat):0<=QH c w k/\QH c w k<=500:=by
 have h1:=QaW hc hw k;have h2:=hc.thick;simp only[inR] at h2;unfold QH;omega
theorem Qnw {s t:Int} (hs:inR s 1 999) (ht:0<=t/\t<=500):0<=s*t/\s*t<=499500/\0<=s*t*t/\s*t*t<=249750000:=by
 simp only[inR] at hs;have h1:=Qz8 (a:=s) (b:=t) (by omega) (by omega)
 have h2:=QzW (show s<=999 by omega) ht.2 (by omega) (by omega)
 have h3:=Qz8 h1 ht.1;have h4:=QzW (show s*t<=499500 by omega) ht.2 (by omega) (by omega)
 omega
theorem XR {c:Sea} (hc:Qf c) {t:Int} (ht:0<=t/\t<=500):0<=Ze c t/\Ze c t<=24975:=by
 have h:=Qnw hc.str ht;unfold Ze;rw[QAj h.2.2.1];omega
theorem QgV {c:Sea} {w:Qd} (h:w∈Qkl c):okW c w:=qU h
set_option maxRecDepth 100000
set_option maxHeartbeats 1000000
def Qwi:=b0 0x12e919e811e90312ee9f111ee31008e0303083c301ecd9f18f1610402463ce95b502a9af2402a9af1402a9af044f523f1c292101787f14028131f411f3d0114dbf102797f14720ab16e12040c263a043bf12f00c268033bf12f07073cf1a2300ce11be121e97021e97021ee02464a502a9af2402a9af1402a9af043f1c222e6f1c20a06e085220400d02439502a9af2402a9af1402a9af048230af3a87773a1dae072013c9f10225f1413e6f721530700403330b0225f149f15230be ⟨_,by conv=>lhs;reduce⟩
def Qwh:=b0 0x67e915ce866e90367ee5c9166ee310ab16e12040c4600d0126c58c91ff12f00c4600d0126c58c916c912f070737c912c208ce0125c58f1052012c5c91df17207ce116ce147037068ee0124c55c917f57969e6f823532700402330bdf15c9142361e ⟨_,by conv=>lhs;reduce⟩
def c3:=f2 0xa06e08582e6f221f411f725c3c1c8751625715ce1230ab16e120470734c9122304ce113ce13702705bee013c57f5795ce6f720a06eb0160851f00123ef1012c57f57982047073ef122302ce111ce13702704dee011c57f5794ee6f720a06e0852204010c57f5794ae6f21718720f331f411f7298754360605719e123718e1213171f411fc07f2781d05e271d7e010117e05e22d0225f04520a06e08522040c4638ea0430bdd0225f042f00c464a0430b0225f142f00c4600d012754f523f1c22f00c46cda0430b0224f042f00c36707301653f1c22f0015531c29c6f3d23b12a2a2a42260183e Qwi Qwh ⟨_,by conv=>lhs;reduce⟩
def Qy7:=fk Tryz.func3 c3 (by kernel_rfl)
def Qpo:=b0 0x1d916e80d9031de6f10de31101383f1402813fa10f3d0114d7f102393f1471004e7f1210480237f12230a02e085220470738f12230ab12e120401735f18f132308e117e15704702de012ac56f101bc51ffd23d6f92153070044a0636f1223dc ⟨_,by conv=>lhs;reduce⟩
def c4:=f1 0xa02eb0160851f0b016df11f0b03601234f1bf11f0b0265a0239f11f0b0267023ef11f0b0267023cf11f07023af1ec202ce111ce137027012ee01dc53f53913e6f7200ce11be13702700dee013c53f5390ee6f720ae119e137027008ee01cc53f53909e6f71314320f3fa10f326543150605816e12305e3a14e019c51ffd2421313fa10fc03f2381d05e231d3e38e4d46e43e4d37e4d46e43e4d36e4d46e43e4d35e4c5e10117e05e22d320a02e08522040c367073018c51ffd22f0017c51fd23c6f723b10a22020130e Qpo ⟨_,by conv=>lhs;reduce⟩
def Qwg:=fk Tryz.func4 c4 (by kernel_rfl)
def c8:=f0 0xa00eb0360125d52a8214d7f11f0b0262a0235f11f0b0262a0233f11f0b0265a0231f11f0b02670238f11f0b02670236f11f0b02670234f11f070232f14d208e117e1370270cce013d504d5dc6f7206e115e13702707ce011d502d58c6f7204e113e13702702ce8024c500d53c6f7202e111e13702709e01cc500d5a6f72b10e12000110e ⟨_,by conv=>lhs;reduce⟩
def Qwb:=fk Tryz.func8 c8 (by kernel_rfl)
def QjO:=b0 0x6d914e85d9036de4f15de3103e07d9830103e5052012c4f10220241f343f17d6fa11530700404330b0220241f344f1623ec ⟨_,by conv=>lhs;reduce⟩
def c19:=f1 0xa02e0c0ee9674ea04303830103e50521f3c403830103e50521f1c40103e50521fb42f00c4674ea0430103e50521f3c42f00c4674ea0430103e50521fb42f0cda0433f100e6f1d1f3043130605714e12303e0103e50520341f34520ab12e12047073018c51ffd23230ac12e12040c56cda0430b0220041f6c42f00c360102e505c21f342f00101e507210456f3c23b10a2202011ce QjO ⟨_,by conv=>lhs;reduce⟩
def Quh:=fk Tryz.func19 c19 (by kernel_rfl)
def QjN:=b0 0x1ee916e81de9031eee6f11dee310a38ea12e12040c27e9600d37ea13e0307e5022014012c6f102595f042f000d37ea13e0307e5022004012c6f102595f041fe6f6c21530700403330b02595f046f152317e ⟨_,by conv=>lhs;reduce⟩
def c20:=f1 0xa712e12516520605716e1230a38ea12e12040c4600d1f40fa13e0307e502595f242f00c08e9600d074307e580130b02595f0402595f142f000d082307e508a17d3f10b02595f04bc2305f358772d351d5e0721f6c4420a38ea12e12040c4600d38ea80307e50221f5c42f00c4600d01869f2fa0206e50521f3c42f00c4600d38ea0206e50521f1c42f000d01869f2fa0206e50521fb4ac230a38ea12e12040c4670730105e505c21f342f070734f182304e113e14703707e0104e507210486f82710a22020131e QjN ⟨_,by conv=>lhs;reduce⟩
def Qug:=fk Tryz.func20 c20 (by kernel_rfl)
def c21:=f0 0xa02e612205e114e213e24713702706ec0208e51fd276f92710a2202011c ⟨_,by conv=>lhs;reduce⟩
def Quf:=fk Tryz.func21 c21 (by kernel_rfl)
def c22:=f0 0xa715e3a14e220a715e814e22340ece80230b8f1fc6f42a715e2a14e224409ce00d0120ce51f18f1ac6f5205308e010be56f1320a05e714e7f1320470737f122307e116e15704709e02209e5010ae51f13fd2a6f91f3717146f1a321504022d ⟨_,by conv=>lhs;reduce⟩
def Que:=fk Tryz.func22 c22 (by kernel_rfl)
def c23:=f0 0xa02f9c283ffd3922201380043f6c4034c252e1c3d0220041f6c40252e1cad82208383f34403383f04010ee505c2634010de5072304a1f3019c38772d777777773d2d772d7775d5d9c31d3e1fd246f32772d777777773d2d772d7775d5d9c21d0a2209c2219c ⟨_,by conv=>lhs;reduce⟩
def Qud:=fk Tryz.func23 c23 (by kernel_rfl)
def c31:=f0 0xa713e02e010be54f1420a03e1d12e5f1320470735122305e114e13702706ec0209e52fd276f72711d10a320302024c ⟨_,by conv=>lhs;reduce⟩
def Qt9:=fk Tryz.func31 c31 (by kernel_rfl)
def c32:=f0 0xa00f9c08036c5a15c423c521c62baf839f307772d777777773d2d772d7775d5d9c2d13e128110103772d32d01224d13e1113e1027722d2a115a1027722d4da114da1027722daa1117722d6da112da1027722d013e51f719b1f3055381652821f31877777531d3e77777521d2e75d5d311d1e23712701704e012e556fb2772d777777773d2d772d7775d5d9c01d0e1209c0217c ⟨_,by conv=>lhs;reduce⟩
def Qt8:=fk Tryz.func32 c32 (by kernel_rfl)
def QjI:=b0 0xad914e89d903ade4f19de3103e0bd98380030613022004012c4f10221f24022014012c4f10221f243f1bd6f5c1f1530700403330b0221f244f15233d ⟨_,by conv=>lhs;reduce⟩
def c46:=f1 0xa02e38ea0433f10be6f32043130605714e12303e800303130220041f340220141f34920ab12e120470730105e51f5c23230ac12e12040c46cda0430b0221f642f00c46cda0430b0221f542f0cda0430b02212456f4c23b10a2202010de QjI ⟨_,by conv=>lhs;reduce⟩
def QtZ:=fk Tryz.func46 c46 (by kernel_rfl)
def c47:=f0 0xa02e8003021302230402211472710a2202019 ⟨_,by conv=>lhs;reduce⟩
def QtY:=fk Tryz.func47 c47 (by kernel_rfl)
def QjH:=b0 0x9e913e808e90309ee3f108ee310a2eea12e120400d0121e5052012c3f10221f240ae6f721530700403330b0221f243f152302e ⟨_,by conv=>lhs;reduce⟩
def QjG:=b0 0x17e914e816e90317ee4f116ee310a2eea12e12040c21e9600d8da70320e5022014012c4f10221f542f000d06222e5022004012c4f10221f541f5c218e6f7c1f33532700403330b0221f544f152310e ⟨_,by conv=>lhs;reduce⟩
def QjF:=b0 0x31e915e830e90331ee5f130ee310a2eea12e12040c4600d1f40fa70320e502696f242f00c4600d1f40fa70320e502696f142f000d02223e502696f041f5c25c206f368777361d6e072013c5f10221f6432e6f725534700403330b0221f645f15232ae ⟨_,by conv=>lhs;reduce⟩
def c49:=f3 0xa712e1205122645715e12304121625714e12303120605713e1230a2eea12e12040c4600d6a70320e50221f742f00c466a0430b0221f642f00c468a0430b0221f542f00c4600d0121e50521f342f00c464a0430b0221f242f00c4600d3e70fa80320e50221f142f000d1f40fa80320e502210476fcd23710a22020148e QjH QjG QjF ⟨_,by conv=>lhs;reduce⟩
def QtW:=fk Tryz.func49 c49 (by kernel_rfl)
def c50:=f0 0xa04eb04601631f10222f141f0b05602630222f140226041f070530222045c2b146f1a2214019c ⟨_,by conv=>lhs;reduce⟩
def QtV:=fk Tryz.func50 c50 (by kernel_rfl)
def c51:=f0 0xa06e012324e561616152b1125601b ⟨_,by conv=>lhs;reduce⟩
def QtU:=fk Tryz.func51 c51 (by kernel_rfl)
def c52:=f0 0xa716e05e114e9f18f1520a3a16e4d15e3d14e32040c3670230b9f12f070230b8f182309e218e0126e52ffd20125e52ffd261f30a816e4d15e3d14e320400d1f12230a06e4d15e3d14e6142047073412207e018c54fd2a6f323714d13d146f1a42160504033d ⟨_,by conv=>lhs;reduce⟩
def QtT:=fk Tryz.func52 c52 (by kernel_rfl)
def c53:=f0 0xa715e04e7f1320a3a15e0e14e22040c6670230b0220ac406d7f12f0702303dd02209c406d7f12c2307e0a01ac219c49c037d1e772d777777773d2d772d7775d5dbc2d0129e52ffd20128e52ffd22ffd281f30a815e0e14e220400d1f12230a05e0e14e5132047073312206e0127e53fd286f323710e146f1a321504029d ⟨_,by conv=>lhs;reduce⟩
def QtS:=fk Tryz.func53 c53 (by kernel_rfl)
def c54:=f0 0xa02e4a8032ae52132b11212015 ⟨_,by conv=>lhs;reduce⟩
def QtR:=fk Tryz.func54 c54 (by kernel_rfl)
def c55:=f0 0xa02e2ce6e022be50220ac406d21621d11212018 ⟨_,by conv=>lhs;reduce⟩
def QtQ:=fk Tryz.func55 c55 (by kernel_rfl)
def c58:=f0 0xa02f8283f5c3922301383f64601383f548f01383f2402cc37ae1c3d0221f64037ae1cad024c278e93d0221f540278e9ad024c2cc53d02242402cc5ad6c1f30183873d2d772d77831d3e15c246f3273d2d772d77821d0a22082219c ⟨_,by conv=>lhs;reduce⟩
def QtN:=fk Tryz.func58 c58 (by kernel_rfl)
def c63:=f0 0xa00f808016215523612cda1138ea10673d2d772d7782d0134d2a122fea11810377732d01224daa1181027722d6a1117722d81181027722d01224d81117722d2a1181027722db273d2d772d77801d0e1208021b ⟨_,by conv=>lhs;reduce⟩
def QtL:=fk Tryz.func63 c63 (by kernel_rfl)
def c76:=f0 0xa06e012310e561616152b1125601b ⟨_,by conv=>lhs;reduce⟩
def QtD:=fk Tryz.func76 c76 (by kernel_rfl)
def c77:=f0 0xa02eb0369a0630221f141f0072320e5022314022104b2b10a2202011c ⟨_,by conv=>lhs;reduce⟩
def QtC:=fk Tryz.func77 c77 (by kernel_rfl)
def c78:=f0 0xa04e074320e580130b0223243172b146f1a221401b ⟨_,by conv=>lhs;reduce⟩
def QtB:=fk Tryz.func78 c78 (by kernel_rfl)
def c79:=f0 0xa04e073320e50b0223543162b146f1a221401a ⟨_,by conv=>lhs;reduce⟩
def QtA:=fk Tryz.func79 c79 (by kernel_rfl)
def QjB:=b0 0xfc917e2aec903fce7f1ece31003e02cd398e33d0134d8f7893f1510401239e58f7891ffd23208f388771d381d8e0121112103771d32d7f16f1022011c5f14f10d6f925534700480637f1223bc ⟨_,by conv=>lhs;reduce⟩
def QjA:=b1 0x6e80036f131317654316064513e17e123532700401238e56f10721f044235c QjB ⟨_,by conv=>lhs;reduce⟩
def Qjz:=b1 0x5e80035f131316543150625716e121530700402330b4f161423b QjA ⟨_,by conv=>lhs;reduce⟩
def c81:=f1 0xa02e3f1ed6f2231543140605715e12304e1d0237e507220496f42398e38d123d10a220201fd Qjz ⟨_,by conv=>lhs;reduce⟩
def Qty:=fk Tryz.func81 c81 (by kernel_rfl)
def Qjy:=b0 0x4e918e803e90304ee8f103ee31003e024d49ce33d0144d9f9993f151040123be59f9991ffd23209f4987777491d9e0131122113104777742d8f17f16f1022011c5f14f105e6fa27536700403630220141f3c48f1523dd ⟨_,by conv=>lhs;reduce⟩
def Qjx:=b1 0x317e8403ade7f19de313187654317066508e0220041f3c4bd6f425534700403630220141f1c47f15233d Qjy ⟨_,by conv=>lhs;reduce⟩
def Qjw:=b1 0x316e84030de6f1fce31317654316064507e0220041f1c41d6f423532700403630220141fb46f15239c Qjx ⟨_,by conv=>lhs;reduce⟩
def Qjv:=b1 0x315e84036ce5f15ce3131654315062506e0220041fb47c6f421530700402330b4f15f14230c Qjw ⟨_,by conv=>lhs;reduce⟩
def c82:=f1 0xa02e3f114e6f2231543140605715e12304e1d023ae505c2234a6f4249ce38d124d10a22020115e Qjv ⟨_,by conv=>lhs;reduce⟩
def Qtx:=fk Tryz.func82 c82 (by kernel_rfl)
def c83:=f0 0xa712e120a38ea12e120403330b02494f045f15206e115e14703701cee0141e50721f041de6f8230a38ea12e12040c4600d1f40fa13e032ae502494f242f00c0ce9600d07432ae580130b02494f0402494f142f00c4601240e53f102494f042f00c5600d8a8032ae50b02494f042f00c4600d38ea8032ae50221f5c42f00c4600d01869f2fa023fe50521f3c42f00c4600d38ea023fe50521f1c42f00c4600d01869f2fa023fe50521fb42f00c467073013ee505c21f342f07073013de50721f0413e2304348772d341d4e07226c476f423ce6e112710a22020127e ⟨_,by conv=>lhs;reduce⟩
def Qtw:=fk Tryz.func83 c83 (by kernel_rfl)
def Qju:=b0 0x1de81d90321200ee92c12ed5f10720ee970111452c11ed800300ee970111452cbcd01331210e9110fe9104b77742d7043020c9cf0401244e511700701247e5af14f749af1bf13f2396c1f01ce1cf20c87720c1d0ce147037008ee01246e5bf14f74909e6f920be01244e511700701245e5af14f749720ae050303830220141f6c49f17f1820570400d0124443e59f17f10721f6c44f74972309e122cdd225534700432a033121d ⟨_,by conv=>lhs;reduce⟩
def Qjt:=b1 0xdce840320e6f212c4331d0ddccc7431806457113e8277204ed2207e1122353270043103312dc Qju ⟨_,by conv=>lhs;reduce⟩
def Qd7:=b0 0x6c9034875d5d341d213 ⟨_,by conv=>lhs;reduce⟩
def Qjs:=b1 0x2c433dccc43150625715f12206e115e13702707ce0141e54f74972157c Qjt ⟨_,by conv=>lhs;reduce⟩
def c84:=f2 0xa02e3f23921e6f222c3231206c10e050142e50721f0432303f1381e131d3e002c7cd2c6f321e10a22020122e Qd7 Qjs ⟨_,by conv=>lhs;reduce⟩
def Qtv:=fk Tryz.func84 c84 (by kernel_rfl)
def QcS:=b0 0x30ee830e90321fa00f32013ee97dd02544e92342e91241e91140e9105777777772d0424de501869f2fa1101027722d022c9004ef340521f3c4052c9ef34af19f1022c9ef044f14c1f03a012c8ef042104b04602430221f5c49f11f04a023022c9ef049230ef72c8777777772c1d2ce03c2137c4255347004310331230e ⟨_,by conv=>lhs;reduce⟩
def Qjr:=b1 0xcd919e8bd903cde9f1bde31fa00fec63430e2fe2eeeca986431b0645710b06274d0234a102777777772d0324de501869f2fa1101027722d8003bf1cf50c90232a102777777772d0224de501117722dbf1cf50c92c1f30cf20c80424de501117722d0220141f3c4cf50c972fa00f32010ae97dd02513e9230ce9120be9118105777777772d0424de501117722d8013020c9cf140521f3c40524de501869f2fa1101027722d80030220041f3c4cf50c9af19f14f17c1f30cf20c87720c1d0ce0324de501869f2fa1101027722d8003af10521fb4820be41ae0124ce59f102696f040124ce59f18f1dd6f91f33532700403630220141f1c49f15235d QcS ⟨_,by conv=>lhs;reduce⟩
def Qjq:=b1 0xfa00fec634ec9864317062509e0220041f1c44208e0072ec1dd3215070043ec20dfcb30d Qjr ⟨_,by conv=>lhs;reduce⟩
def c85:=f1 0xa02e3f2394fe6f22fa00fec634ec6431506050ec0dd014be51ffd232307e16f26877261d6e13702707ce7024ae55f5c598c6f823d01585f642205f85873d2d772d77851d5e05c21f344204e01048e5d3c6f22785e03fa00fc77e131d127d10a22020150e Qjq ⟨_,by conv=>lhs;reduce⟩
def Qtu:=fk Tryz.func85 c85 (by kernel_rfl)
def c86:=f0 0xa06eb03601632f10f11f001630f15192b11256013c ⟨_,by conv=>lhs;reduce⟩
def Qtt:=fk Tryz.func86 c86 (by kernel_rfl)
def Qjp:=b0 0xae8af032105e0481353d0114d00111cd7f3c791f15f171067787777777771d7e03c2137c42153070043103312a ⟨_,by conv=>lhs;reduce⟩
def c87:=f1 0xa04e51014fe0cd5f13251014ee0cd519c6f2251a985150605710b5186f3231358d121d1123401dc Qjp ⟨_,by conv=>lhs;reduce⟩
def Qts:=fk Tryz.func87 c87 (by kernel_rfl)
def c88:=f0 0xa02e02210432710a2202015 ⟨_,by conv=>lhs;reduce⟩
def Qtr:=fk Tryz.func88 c88 (by kernel_rfl)
def Qjk:=b0 0xac916e89c903ace6f19ce31005e09d9cc10d53dbd106237e0cd02813bd3d0114d6f101813bd3d1f1013bdad2f725f1b1f040c262a0237f12f001236f17f17207e022024025c0b1f10222f04bc6f82153070042a0336f12236c ⟨_,by conv=>lhs;reduce⟩
def c99:=f1 0xa04e5f103e6f2251652140605716e12310d58d5e120a1d14e120a04e0114d1f1320401256e51f12f723230403230b0222f040b3186f6231d146f1a22140104e Qjk ⟨_,by conv=>lhs;reduce⟩
def Qm5:=fk Tryz.func99 c99 (by kernel_rfl)
def QeL:=b0 0xac916e89c903ace6f19ce310ab14e12040c16e96b0501ed16e4f027302898f4402999f141f0705302999f142f0b056027302898f3402999f041f0705302999f04ac209f29877291d9e052012c6f10220042f6c48208f58877777581d8e0b20ad95c022041c022011c7f15f10158e50722f040220042f044c1f30ab14e120400d073307e580130b5f17f162307e040301836f10223f240223f14bc6f821530700404330b0220042f6c46f16232c ⟨_,by conv=>lhs;reduce⟩
def Qyz:=f1 0xac14e120653240605716e12305e02257e50223f04072204a6f62b11a1a32140122e QeL ⟨_,by conv=>lhs;reduce⟩
def QqV:=fk Tryz.func101 Qyz (by kernel_rfl)
def QeK:=b0 0xcc916e8bc903cce6f1bce31005e03d981353d0114d03435ae50b0222f547f5792f5c25f1a10401259e57f5792f5c23207f27871d271d7e011110271d22d6f11f1dc6f521530700403630220142f346f15235c ⟨_,by conv=>lhs;reduce⟩
def QeJ:=b0 0xee918e80de9030eee8f10dee3105e00fe981353d11e10623ae0cd0281311e3d0114d8f10181311e3d1f101311ead2f5c25f10fe6fb1f35327004004e963022014022c0b1f10222f248f192303e ⟨_,by conv=>lhs;reduce⟩
def Qyy:=f2 0xa04e1f40fa7035be55f119e6f310510f35185214162508e022004022c0b1f10222f248230a04e5f1cd6f225165214060506e0220042f344230403230b0222f240b4196f6231358d121d146f1a2214011be QeK QeJ ⟨_,by conv=>lhs;reduce⟩
def QjS:=fk Tryz.func102 Qyy (by kernel_rfl)
def Qyx:=f0 0xa04eb0ef60c601ed2c3f03230220242f6c40223f042f070330220242f6c41f002330223f1402435ce50224240222042fd2cc1f3b11a1a3214010d ⟨_,by conv=>lhs;reduce⟩
def QqU:=fk Tryz.func103 Qyx (by kernel_rfl)
def Qyw:=f0 0xa02e0c4600d37ea13e032ae50226142f000d37ea13e032ae5022104b2b10a2202011c ⟨_,by conv=>lhs;reduce⟩
def QqT:=fk Tryz.func104 Qyw (by kernel_rfl)
def Qyu:=f0 0xa712e120a2eea12e12040c4601269e55f10221f642f00c466a0430b0221f642f00c4601268e54f10221f542f08a0430b0221f54ac2305e1f1066e5d2204e1f1064e5d220a2eea12e12040c0d963d101263e00ed3f1024c2cc3d3d0221f24012cc3dad0521f342f00c464a0430b0221f242f00c4600d6a70362e50221f742f00c4600d3e70fa80362e50221f142f000d1f40fa80362e502220466f4d2361e6e112710a22020112e ⟨_,by conv=>lhs;reduce⟩
def QqR:=fk Tryz.func106 Qyu (by kernel_rfl)
def Qyt:=f0 0xa04eb04601631f10222f141f007232ae50224140222040c2b146f1a2214014c ⟨_,by conv=>lhs;reduce⟩
def QqQ:=fk Tryz.func107 Qyt (by kernel_rfl)
def Qys:=f0 0xa04e70530126ae5414152b11234019 ⟨_,by conv=>lhs;reduce⟩
def QqP:=fk Tryz.func108 Qys (by kernel_rfl)
def Qyp:=f0 0xa02e1106ce5d222e10a2202014 ⟨_,by conv=>lhs;reduce⟩
def QqM:=fk Tryz.func110 Qyp (by kernel_rfl)
def QeG:=b0 0xace8ac903210ab18e12040c07e96b00be901ed07e4f067301244e511700701247e5df14f72020c9cf141f07053020c9cf142f0b0cd96067301244e51170070126ee5df14f72020c9cf041f07053020c9cf042d1f30ab18e120400d07232ae580139f1df152301ce03030183bf13f12f1620cf20c821be7720c1d0ce052242c1162153070043103312ac ⟨_,by conv=>lhs;reduce⟩
def Qyo:=f1 0xac18e120ac9c8c943270605710b0225f044230ae119e13702702ce0141e54723c6f72b186f3a3a32380118e QeG ⟨_,by conv=>lhs;reduce⟩
def QqL:=fk Tryz.func111 Qyo (by kernel_rfl)
def Qyn:=f0 0xa04e022701c4142711234018 ⟨_,by conv=>lhs;reduce⟩
def QqK:=fk Tryz.func112 Qyn (by kernel_rfl)
def Qyl:=f0 0xa715e04f24801161027722d022031c80130b6f16f1022701c6f10c1f30a05e14f2487f107722d420470737f122307e116e16705708e01336fe53f1074e5d0173e562237296fa1f37177241d1a1a4215024222d ⟨_,by conv=>lhs;reduce⟩
def QqI:=fk Tryz.func114 Qyl (by kernel_rfl)
def Qyk:=f0 0xa05e114e11700701336fe551075e5d0170e532237291f3711d11a1a421504021c ⟨_,by conv=>lhs;reduce⟩
def QqH:=fk Tryz.func115 Qyk (by kernel_rfl)
def Qui:=f0 0x1f108020ce785e13d0174d33c2320951040149e503c2221a12109 ⟨_,by conv=>lhs;reduce⟩
def Qwl:=fk Tryz.func116 Qui (by kernel_rfl)
def Qyj:=f0 0xa02eb0af603630220141f540220041f541f003630220144340220041345c2b10a2202017c ⟨_,by conv=>lhs;reduce⟩
def QqG:=fk Tryz.func117 Qyj (by kernel_rfl)
def Qyi:=f0 0xa715e04f24801278e53f6f2079e5d6f22514164330f30a05e14f2487f107722d420470737f122307e16f1680e161d6e16705708e03277e501267e53f222f5c235c296fb1f37177241d1a1a421502422bc ⟨_,by conv=>lhs;reduce⟩
def QqF:=fk Tryz.func118 Qyi (by kernel_rfl)
def Qyh:=f0 0xa02e3f23922534370227dd05c263422494202148241307ce5d222e141d4e12021381e131d3e0057cd56f321e10a2202010c ⟨_,by conv=>lhs;reduce⟩
def QqE:=fk Tryz.func119 Qyh (by kernel_rfl)
def Qyf:=f0 0xa04e38ea0930283038ea1341416271123401a ⟨_,by conv=>lhs;reduce⟩
def QqD:=fk Tryz.func120 Qyf (by kernel_rfl)
def Qye:=f0 0xa04f24801151027722d0217d0223f140222f140207d0223040222040c277241d1a1a32124214c ⟨_,by conv=>lhs;reduce⟩
def QqC:=fk Tryz.func121 Qye (by kernel_rfl)
def QeC:=b0 0x3d915e82d9033de5f12de310ab14e120400d068d9320e5022014012c5f10222f24022004012c5f10222f24022011c5f10223f044d6f7c1f31530700403330b0223f045f1523cc ⟨_,by conv=>lhs;reduce⟩
def Qx7:=f1 0xa04e02630222f7401288e53f522f5c207e6f71f3053230605715e1230ab14e12040cdf600d036320e50220142f340220042f340223f142f003730b0226240b02210466f7c23b11a1a3214010de QeC ⟨_,by conv=>lhs;reduce⟩
def Qqv:=fk Tryz.func133 Qx7 (by kernel_rfl)
def QeB:=b0 0xff18e8ef033ce8f12ce3107e04c91302030224f140ac983022061c022004012c8f10223f540224f04022014012c8f10223f54614c6fbc1f1530700401332f121323a ⟨_,by conv=>lhs;reduce⟩
def Qx6:=f1 0xa06e0707d31ad6f3208743250605718e12307e02230496f327166f2a2a322601cd QeB ⟨_,by conv=>lhs;reduce⟩
def Qqu:=fk Tryz.func134 Qx6 (by kernel_rfl)
def Qx4:=f0 0xa06e38ea0930283038ea132f10128ae51f105c2334927166f2a2226013c ⟨_,by conv=>lhs;reduce⟩
def Qqs:=fk Tryz.func136 Qx4 (by kernel_rfl)
def QxZ:=f0 0xa02e0c369a0430221f142f000d072362e50223140221040c2b10a2202012c ⟨_,by conv=>lhs;reduce⟩
def Qqn:=fk Tryz.func141 QxZ (by kernel_rfl)
def QxY:=f0 0xa06eb03601632f10f11f001630f15192b11256013c ⟨_,by conv=>lhs;reduce⟩
def Qqm:=fk Tryz.func142 QxY (by kernel_rfl)
def QxX:=f0 0xa04e70530128be5414152b11234019 ⟨_,by conv=>lhs;reduce⟩
def Qql:=fk Tryz.func143 QxX (by kernel_rfl)
def QxW:=f0 0xa03e0c4600d8da70362e50222f142f000d02265e502220425c20c2b11a2213013c ⟨_,by conv=>lhs;reduce⟩
def Qqk:=fk Tryz.func144 QxW (by kernel_rfl)
def QxV:=f0 0xa04e074362e580130b0223243172b146f1a221401b ⟨_,by conv=>lhs;reduce⟩
def Qqj:=fk Tryz.func145 QxV (by kernel_rfl)
def QxU:=f0 0xa03e0c4600d1f40fa70362e50222f242f00c4600d1f40fa70362e50222f142f000d02267e502220425c26c2b11a2213019c ⟨_,by conv=>lhs;reduce⟩
def Qqi:=fk Tryz.func146 QxU (by kernel_rfl)
def QxT:=f0 0xa04e073362e50b0223543162b146f1a221401a ⟨_,by conv=>lhs;reduce⟩
def Qqh:=fk Tryz.func147 QxT (by kernel_rfl)
def QxS:=f0 0xa04e70530128ce5414152b11234019 ⟨_,by conv=>lhs;reduce⟩
def Qqg:=fk Tryz.func148 QxS (by kernel_rfl)
def QxR:=f0 0xa04e70530128de5414152b11234019 ⟨_,by conv=>lhs;reduce⟩
def Qqf:=fk Tryz.func149 QxR (by kernel_rfl)
def Qez:=b0 0x8e88f03210a04e5f1220400141cd052012c5f10f11f16205e11221530700431033128 ⟨_,by conv=>lhs;reduce⟩
def QxQ:=f1 0xa13e14e120871040605710b4166f323711234017c Qez ⟨_,by conv=>lhs;reduce⟩
def Qqe:=fk Tryz.func150 QxQ (by kernel_rfl)
def QxO:=f0 0x126de8cd3117231206 ⟨_,by conv=>lhs;reduce⟩
def Qqc:=fk Tryz.func152 QxO (by kernel_rfl)
def Qex:=b0 0xace8ac903210ab14e120400d00126de8cd1f18f78941802ac852150f32010d80241250dbd7f15f102898f0472101888f040d0018ee4cd0222f045208f38875d5d381d8e2f723207e11223532700432a03312ac ⟨_,by conv=>lhs;reduce⟩
def Qbt:=b1 0x2ce8ef03dd6f21ac14e1201ac5214062571123017042a07302696f2432306f568215e77777561d6e0b2245c11621530700431033122c Qex ⟨_,by conv=>lhs;reduce⟩
def QxN:=f1 0xa04e00113cd2f721f1420ac14e12047073af1220ae119e1370270ede018fe52f72fd6f723012c1c0c2150605710b022204b6f423b146f1a22140108e Qbt ⟨_,by conv=>lhs;reduce⟩
def QjR:=fk Tryz.func153 QxN (by kernel_rfl)
def QxM:=f0 0xa05e114e11700701336fe551090e5d0170e532237291f3711d11a1a421504021c ⟨_,by conv=>lhs;reduce⟩
def Qqb:=fk Tryz.func154 QxM (by kernel_rfl)
def QxG:=f0 0xa03e0b011d1dcd42202212462711a2213019 ⟨_,by conv=>lhs;reduce⟩
def Qp5:=fk Tryz.func160 QxG (by kernel_rfl)
def QxF:=f0 0xa03e0113ed01276e532217252711a2213018 ⟨_,by conv=>lhs;reduce⟩
def Qp4:=fk Tryz.func161 QxF (by kernel_rfl)
def QfH:=b0 0x0 ⟨_,by conv=>lhs;reduce⟩
def QjQ:=b0 0xa75f15804f1487f27932158c ⟨_,by conv=>lhs;reduce⟩
def QxD:=f2 0xa3a5f1580e4f148227543754308c10e0500197e5d7f27922307f1780e171d7e0a080173d2d772d7782d2f5c2520a85f1580e4f148220400d1f12230a05f1580e4f1485132047073312206e013ee535c286f3237151d0e141d46f1a3211511412ac QfH QjQ ⟨_,by conv=>lhs;reduce⟩
def Qp2:=fk Tryz.func163 QxD (by kernel_rfl)
def QxC:=f0 0xa04f24801161027722d022031c80130b5f161022701c31b1f305e01298e5514166f4277241d12324217c ⟨_,by conv=>lhs;reduce⟩
def Qp1:=fk Tryz.func164 QxC (by kernel_rfl)
def QxB:=f0 0xa04e0427ae501237be55223b242232271f3712a222401b ⟨_,by conv=>lhs;reduce⟩
def Qp0:=fk Tryz.func165 QxB (by kernel_rfl)
def QxA:=f0 0xa04e27101fa09301831f101831f102201400406d41b2711234013c ⟨_,by conv=>lhs;reduce⟩
def QpZ:=fk Tryz.func166 QxA (by kernel_rfl)
def Qev:=b0 0xbce8bc9032107e0fc91302030224f44058302210144dd4f0402999f0402999f147f12c1f09f29877291d9e052132c42153070043103312bc ⟨_,by conv=>lhs;reduce⟩
def Qxz:=f1 0xa06e0707d7f1dd6f320bcac9c7450605710b010125cd2f102205400406d0f192307e02200400406d61a6f627166f2a223601fd Qev ⟨_,by conv=>lhs;reduce⟩
def QpY:=fk Tryz.func167 Qxz (by kernel_rfl)
def Qeu:=b0 0x7d917e86d9037de7f16de31210302237dd80031f18f5c892f209518210487542160f102bd8342bdbd01111027722d7f17f11f102898f2482101888f24bd0017de4cd0225f245208f88873d2d772d77881d8e5f5c28d6f32153070040663022014012c1f10225f247f1823dc ⟨_,by conv=>lhs;reduce⟩
def Qet:=b0 0x12e919e811e90312ee9f111ee31024129cd5f800302712bcd021c9df044f2196102ce1df21c87721c1d1ce167057030ee0324ae50b02a9af54af5ca931e6fb2037040c22e96b0601ed22e4f03730220243f6c402b9bf041f070530220243f6c42f07073cf14c2300ce1bf2b8772b1dbe167057018ee0327ee50b02a9af54af5ca919e6fb2102a8af3401111027722d9f19f1520af8a873d2d772d778a1dae5f5c213e6f323532700403630220145f349f15230be ⟨_,by conv=>lhs;reduce⟩
def QpX:=f2 0x2103954325162509e0220045f3409e6f420a2103754215060507e022004012c1f10225f247230403330b0225f24413c6f5234a12403de Qeu Qet ⟨_,by conv=>lhs;reduce⟩
def Qwk:=fk Tryz.func168 QpX (by kernel_rfl)
def Qxy:=f0 0xa715e04f24801278e53f6f2099e5d6f22514164330f30a05e14f2487f107722d420470737f122307e16f1680e161d6e16705708e03277e501267e53f222f5c235c296fb1f37177241d1a1a421502422bc ⟨_,by conv=>lhs;reduce⟩
def QpW:=fk Tryz.func170 Qxy (by kernel_rfl)
def Qeo:=b0 0xdf16e8cf031ce6f10ce31005e80035f1310400d0563ace5072013c6f10222f643f522f5c22c6f91f31530700403330b02256405236 ⟨_,by conv=>lhs;reduce⟩
def Qxu:=f1 0xa04e11dc6f220653240605711237112711a1a321401ec Qeo ⟨_,by conv=>lhs;reduce⟩
def QpS:=fk Tryz.func180 Qxu (by kernel_rfl)
def Qxs:=f0 0xa04e27101fa09301831f1018351022214827146f1a2214010c ⟨_,by conv=>lhs;reduce⟩
def QpQ:=fk Tryz.func182 Qxs (by kernel_rfl)
def Qem:=b0 0x8e88f03210a04e5f1220400141cd052012c5f10f11f16205e11221530700431033128 ⟨_,by conv=>lhs;reduce⟩
def Qxr:=f1 0xa13e14e120871040605710b4166f323711234017c Qem ⟨_,by conv=>lhs;reduce⟩
def QpP:=fk Tryz.func183 Qxr (by kernel_rfl)
def Qel:=b0 0x8e88f03210a04e5f1220400141cd052012c5f10f11f16205e11221530700431033128 ⟨_,by conv=>lhs;reduce⟩
def Qxq:=f1 0xa13e14e120871040605710b4166f323711234017c Qel ⟨_,by conv=>lhs;reduce⟩
def QpO:=fk Tryz.func184 Qxq (by kernel_rfl)
def Qek:=b0 0x8e88f03210a04e5f1220400141cd072013c5f10f11f16205e11221530700431033128 ⟨_,by conv=>lhs;reduce⟩
def Qxp:=f1 0xa13e14e120871040605710b4166f323711234017c Qek ⟨_,by conv=>lhs;reduce⟩
def QpN:=fk Tryz.func185 Qxp (by kernel_rfl)
def Qxn:=f0 0xa03e0013ed01276e532217252711a2213018 ⟨_,by conv=>lhs;reduce⟩
def QpL:=fk Tryz.func188 Qxn (by kernel_rfl)
def VB:=b0 0x9f1118f054877777541d223 ⟨_,by conv=>lhs;reduce⟩
def qn:=b0 0xa04b04600d00113cd4fb493f2391f0056302207400406d2f22411c2159 ⟨_,by conv=>lhs;reduce⟩
def Qxh:=f2 0x30232209820e05001b3e5d12266f22136cd1a2210bc VB qn ⟨_,by conv=>lhs;reduce⟩
def QpG:=fk Tryz.func195 Qxh (by kernel_rfl)
def Qbp:=b0 0xaf056877777561d215 ⟨_,by conv=>lhs;reduce⟩
def Qeh:=b0 0x25179cd5f800303717bcd00111cd6b693f22525971f15a ⟨_,by conv=>lhs;reduce⟩
def Qxg:=f2 0xa04e0193e50194e542595c6f4151510f37525320a10e0500197e5d0f1223021581e151d5e0077cd76f321d11a2224018c Qbp Qeh ⟨_,by conv=>lhs;reduce⟩
def QpF:=fk Tryz.func196 Qxg (by kernel_rfl)
def Qxf:=f0 0xa04e01237be54222b232252712a2224019 ⟨_,by conv=>lhs;reduce⟩
def QpE:=fk Tryz.func197 Qxf (by kernel_rfl)
def Qxc:=f0 0xa06e02630225f240207d0fcd7f17f18207e02130225f1402335ae502240445235c286f91f3b12a2a2a422601bc ⟨_,by conv=>lhs;reduce⟩
def QpB:=fk Tryz.func216 Qxc (by kernel_rfl)
def Qw6:=f0 0x7124c0e8cd2320c1e5d07777752d122411a1a22108 ⟨_,by conv=>lhs;reduce⟩
def Qpv:=fk Tryz.func223 Qw6 (by kernel_rfl)
def Qeb:=b0 0x541585f449de86038de6d92597de5f446de510ab18e120400d00113cd5fb593f1ad6f4215307004066302201403400406d0f102595f4491f33cc ⟨_,by conv=>lhs;reduce⟩
def Qea:=b0 0x13e919e812e90313ee9f112ee310ab18e120400d001344c0e8cd3f180032f15fb590f1722015820144dd5f049f12f114e6f5235327004007e963022014012c2f102202400406d0f19f1b2306e ⟨_,by conv=>lhs;reduce⟩
def Qw2:=f2 0xac18e12502953205162509e022004012c2f102202400406d0f1ed6fa230ac18e1250253030605101585f4402200403400406d0f18230406230b02202400406d0f161a6f823b186f356cd2248011fe Qeb Qea ⟨_,by conv=>lhs;reduce⟩
def QjM:=fk Tryz.func236 Qw2 (by kernel_rfl)
def Qd9:=b0 0x2ce8ef0321005e80035f1310400d0123c2e57f7793fb21f225207f378777371d7e072133c421530700431033122c ⟨_,by conv=>lhs;reduce⟩
def Qw1:=f1 0xa04e001223cd5f13fb22f22ec6f52012c1c0c532170605710b02206400406d42286f7237112b12a2224012d Qd9 ⟨_,by conv=>lhs;reduce⟩
def Qpr:=fk Tryz.func237 Qw1 (by kernel_rfl)
def Qw0:=f0 0xa06e025362e50225f240fcd0225f247f18207e02130225f1402337be50224044b26186f91f3b12a2a323601bc ⟨_,by conv=>lhs;reduce⟩
def Qpq:=fk Tryz.func238 Qw0 (by kernel_rfl)
end Go.Pf
namespace Go.Pf
open Go Go.Ev Go.Proofs
attribute [simp] c3 c4 c8 c19 c20 c21 c22 c23 c31 c32 c46 c47 c49 c50 c51 c52 c53 c54 c55 c58 c63 c76 c77 c78 c79 c81 c82 c83 c84 c85 c86 c87 c88 c99 Qyz Qyy Qyx Qyw Qyu Qyt Qys Qyp Qyo Qyn Qyl Qyk Qui Qyj Qyi Qyh Qyf Qye Qx7 Qx6 Qx4 QxZ QxY QxX QxW QxV QxU QxT QxS QxR QxQ QxO QxN QxM QxG QxF QxD QxC QxB QxA Qxz QpX Qxy Qxu Qxs Qxr Qxq Qxp Qxn Qxh Qxg Qxf Qxc Qw6 Qw2 Qw1 Qw0
end Go.Pf
namespace Go.Pf
open Go Go.Ev Go.Proofs Go.RowKit
variable {K:World->Prop} (hK:∀ w w',K w->Below w.heap.size w w'->K w')
set_option maxRecDepth 8000
include hK
theorem Yl (n a b:Int):Ev.Good Tryz.prog K 142 [.int .i64 n,.int .i64 a,.int .i64 b] (.bool (decide (inR n a b))):=by
 refine Qb hK Qqm (by simp) ?_
 by_cases h1:a<=n
 ·simp[h1,inR]
 ·simp[h1,inR]
theorem QoC (c:Sea) (n:Int):Ev.Good Tryz.prog K 145 [VQ c,.int .i64 n] (.bool (decide (inR n 0 ((c.waters.length:Int)-1)))):=by
 refine Qb hK Qqj (by simp) ?_
 simp
 (repeat' first | omega | (with_reducible apply And.intro) | intro _)
 exact cK (Yl hK _ _ _) (by simp)
theorem QdP (c:Sea) (n:Int):Ev.Good Tryz.prog K 147 [VQ c,.int .i64 n] (.bool (decide (inR n 0 c.voys.length))):=by
 refine Qb hK Qqh (by simp) ?_
 simp
 (repeat' first | omega | (with_reducible apply And.intro) | intro _)
 exact cK (Yl hK _ _ _) (by simp)
theorem QoF (s:Int × Int):Ev.Good Tryz.prog K 141 [.agg (spC s)] (.bool (QZ s)):=by
 refine Qb hK Qqn (by simp) ?_
 simp;refine cK (Yl hK _ _ _) ?_;by_cases h1:inR s.1 0 s.2
 ·simp[h1,QZ]
 ·simp[h1,QZ]
theorem QoD (c:Sea) (hw:c.waters.length<=1000) (v:Int × Int):Ev.Good Tryz.prog K 144 [.agg (spC v),.ptr (Yt c)] (.bool (YE c.waters.length v)):=by
 refine Qb hK Qqk (by simp) ?_
 simp;refine cK (by simpa using QoC hK c v.1) ?_
 by_cases h1:inR v.1 0 ((c.waters.length:Int)-1)
 ·simp[h1]
  exact cK (Yl hK _ _ _) (by simp[YE,h1])
 ·simp[h1,YE]
theorem QoB (c:Sea) (hw:c.voys.length<=1000) (g:Int × Int × Int):Ev.Good Tryz.prog K 146 [.agg (gaC g),.ptr (Yt c)] (.bool (XU c.voys.length g)):=by
 refine Qb hK Qqi (by simp) ?_
 simp;refine cK (by simpa using QdP hK c g.1) ?_
 by_cases h1:inR g.1 0 c.voys.length
 ·simp[h1]
  refine cK (Yl hK _ _ _) ?_;by_cases h2:inR g.2.1 0 500
  ·simp[h2]
   exact cK (Yl hK _ _ _) (by simp[XU,h1,h2])
  ·simp[h2,XU]
 ·simp[h1,XU]
theorem Qok (l:List (Int × Int)) (g:FuncId) (p:Int × Int->Bool) (hg:∀ x,Ev.Good Tryz.prog K g [.agg (spC x)] (.bool (p x))) (hc:callee Tryz.prog g=true) (hl:l.length<=1000):Ev.Good Tryz.prog K 183 [ZS l,.fn g] (.int .i64 (fi p l)):=by
 refine Qb hK QpP (by simp) ?_
 simp;intro _;refine Qu (fun i=>[(0,AV.iv (ZS l)),(1,AV.iv (.fn g)),(7,AV.iv (.int .i64 l.length)),(8,AV.iv (IV.int IntKind.i64 (i:Nat)))]) (fun _=>[]) l.length (fun i=>∀ x∈l.take i,p x=false) (by simp) ?_ ?_
 ·intro h
  rw[Qa Qem.eq_1];rw[QzG] at h;simp[V8 p l h]
 ·intro i hi h ih
  rw[Qa Qem.eq_1];have hgi:=hg l[i];simp[hi] at ih |-;refine ⟨hc,cK (by simpa using hgi) ?_⟩
  by_cases hp:p l[i]=true
  ·simp[hp,Qgo p l i hi hp h]
  ·have hp':p l[i]=false:=by simpa using hp
   simp[hp'];refine ⟨by omega,ih ?_⟩
   rw[Qzn hi]
   grind
theorem QoE (l:List (Int × Int)) (g:FuncId) (p:Int × Int->Bool) (hg:∀ x,Ev.Good Tryz.prog K g [.agg (spC x)] (.bool (p x))) (hc:callee Tryz.prog g=true) (hl:l.length<=1000):Ev.Good Tryz.prog K 143 [ZS l,.fn g] (.bool (l.any p)):=by
 refine Qb hK Qql (by simp) ?_
 simp;refine cK (by simpa using Qok hK l g p hg hc hl) ?_
 simp[YC]
theorem Qoj (l:List (Int × Int)) (g:FuncId) (fs cs:List IV) (p:Int × Int->Bool) (hg:∀ x,Ev.Good Tryz.prog K g (fs++[.agg (spC x)]++cs) (.bool (p x))) (hc:callee Tryz.prog g=true) (hl:l.length<=1000):Ev.Good Tryz.prog K 184 [ZS l,.clo g fs cs] (.int .i64 (fi p l)):=by
 refine Qb hK QpO (by simp) ?_
 simp;intro _;refine Qu (fun i=>[(0,AV.iv (ZS l)),(1,AV.iv (.clo g fs cs)),(7,AV.iv (.int .i64 l.length)),(8,AV.iv (IV.int IntKind.i64 (i:Nat)))]) (fun _=>[]) l.length (fun i=>∀ x∈l.take i,p x=false) (by simp) ?_ ?_
 ·intro h
  rw[Qa Qel.eq_1];rw[QzG] at h;simp[V8 p l h]
 ·intro i hi h ih
  rw[Qa Qel.eq_1];have hgi:=hg l[i];rw[QzC] at hgi;simp[hi] at ih |-;refine ⟨hc,cK (by simpa using hgi) ?_⟩
  by_cases hp:p l[i]=true
  ·simp[hp,Qgo p l i hi hp h]
  ·have hp':p l[i]=false:=by simpa using hp
   simp[hp'];refine ⟨by omega,ih ?_⟩
   rw[Qzn hi]
   grind
theorem QoA (l:List (Int × Int)) (g:FuncId) (fs cs:List IV) (p:Int × Int->Bool) (hg:∀ x,Ev.Good Tryz.prog K g (fs++[.agg (spC x)]++cs) (.bool (p x))) (hc:callee Tryz.prog g=true) (hl:l.length<=1000):Ev.Good Tryz.prog K 148 [ZS l,.clo g fs cs] (.bool (l.any p)):=by
 refine Qb hK Qqg (by simp) ?_
 simp;refine cK (by simpa using Qoj hK l g fs cs p hg hc hl) ?_
 simp[YC]
theorem Qoi (l:List (Int × Int × Int)) (g:FuncId) (fs cs:List IV) (p:Int × Int × Int->Bool) (hg:∀ x,Ev.Good Tryz.prog K g (fs++[.agg (gaC x)]++cs) (.bool (p x))) (hc:callee Tryz.prog g=true) (hl:l.length<=1000):Ev.Good Tryz.prog K 185 [V5 l,.clo g fs cs] (.int .i64 (fi p l)):=by
 refine Qb hK QpN (by simp) ?_
 simp;intro _;refine Qu (fun i=>[(0,AV.iv (V5 l)),(1,AV.iv (.clo g fs cs)),(7,AV.iv (.int .i64 l.length)),(8,AV.iv (IV.int IntKind.i64 (i:Nat)))]) (fun _=>[]) l.length (fun i=>∀ x∈l.take i,p x=false) (by simp) ?_ ?_
 ·intro h
  rw[Qa Qek.eq_1];rw[QzG] at h;simp[V8 p l h]
 ·intro i hi h ih
  rw[Qa Qek.eq_1];have hgi:=hg l[i];rw[QzC] at hgi;simp[hi] at ih |-;refine ⟨hc,cK (by simpa using hgi) ?_⟩
  by_cases hp:p l[i]=true
  ·simp[hp,Qgo p l i hi hp h]
  ·have hp':p l[i]=false:=by simpa using hp
   simp[hp'];refine ⟨by omega,ih ?_⟩
   rw[Qzn hi]
   grind
theorem Qoz (l:List (Int × Int × Int)) (g:FuncId) (fs cs:List IV) (p:Int × Int × Int->Bool) (hg:∀ x,Ev.Good Tryz.prog K g (fs++[.agg (gaC x)]++cs) (.bool (p x))) (hc:callee Tryz.prog g=true) (hl:l.length<=1000):Ev.Good Tryz.prog K 149 [V5 l,.clo g fs cs] (.bool (l.any p)):=by
 refine Qb hK Qqf (by simp) ?_
 simp;refine cK (by simpa using Qoi hK l g fs cs p hg hc hl) ?_
 simp[YC]
theorem Qik (c:Sea):Ev.Good Tryz.prog K 106 [VQ c] (.int .i64 (if Qf c then 0 else 90)):=by
 refine Qb hK QqR (by simp) ?_
 have no:∀ q:Prop,(Qf c->q)->¬ q->¬ Qf c:=fun q h1 h2 h=>h2 (h1 h)
 simp;refine cK (Yl hK _ _ _) ?_;by_cases h1:inR c.thick 1 500
 ·simp[h1]
  refine cK (Yl hK _ _ _) ?_;by_cases h2:inR c.str 1 999
  ·simp[h2]
   refine cK (Yl hK _ _ _) ?_;by_cases h3:inR c.wrong 0 6
   ·by_cases h4:c.waters.length<=4
    ·have h4':¬ (4:Int)<c.waters.length:=by omega
     simp[h3,h4']
     (repeat' first | omega | (with_reducible apply And.intro) | intro _)
     have e1:1+c.waters.length<=c.waters.length+1:=by omega
     have e2:Qad (List.take (1+c.waters.length) ([AV.iv (.int .i64 c.wlo),AV.iv (.int .i64 c.whi)]::c.waters.map (List.map AV.iv∘spC)))=some ([.int .i64 c.wlo,.int .i64 c.whi]::c.waters.map spC):=by
      rw[Qzt (by simp;omega)]
      have:=Vk ([IV.int .i64 c.wlo,.int .i64 c.whi]::c.waters.map spC);simpa using this
     simp only[e1,e2,if_true,QAt];refine Qw (by simpa using QoE hK ((c.wlo,c.whi)::c.waters) 141 QZ (QoF hK) (by kernel_rfl) (by simp;omega)) (.inr rfl) ?_
     by_cases h5:QZ (c.wlo,c.whi)=false
     ·by_cases h6:c.waters.any QZ=false
      ·simp only[h5,h6,Bool.or_self]
       simp;by_cases h7:c.voys.length<=8
       ·have h7':¬ (8:Int)<c.voys.length:=by omega
        simp[h7']
        (repeat' first | omega | (with_reducible apply And.intro) | intro _)
        refine cK (by simpa using QoA hK c.voys 144 [] [.ptr (Yt c)] (YE c.waters.length) (fun x=>by simpa using QoD hK c (by omega) x) (by kernel_rfl) (by omega)) ?_
        by_cases h8:c.voys.any (YE c.waters.length)=false
        ·by_cases h9:c.gauges.length<=6
         ·have h9':¬ (6:Int)<c.gauges.length:=by omega
          simp only[h8];simp[h9']
          (repeat' first | omega | (with_reducible apply And.intro) | intro _)
          refine cK (by simpa using Qoz hK c.gauges 146 [] [.ptr (Yt c)] (XU c.voys.length) (fun x=>by simpa using QoB hK c (by omega) x) (by kernel_rfl) (by omega)) ?_
          by_cases h10:c.gauges.any (XU c.voys.length)=false
          ·have:Qf c:=⟨h1,h2,h3,h4,h5,by simpa using h6,h7,by simpa using h8,h9,by simpa using h10⟩
           simp[h10,this]
          ·have:=no _ Qf.gauges (by simpa using h10)
           have h10':c.gauges.any (XU c.voys.length)=true:=by simpa using h10
           simp only[h10',this];simp
         ·have h9':(6:Int)<c.gauges.length:=by omega
          have:=no _ Qf.ng h9;simp only[h8];simp[h9',this]
          try (intros;omega)
        ·have:=no _ Qf.voys (by simpa using h8)
         have h8':c.voys.any (YE c.waters.length)=true:=by simpa using h8
         simp only[h8',this];simp
       ·have h7':(8:Int)<c.voys.length:=by omega
        have:=no _ Qf.nv h7;simp[h7',this]
        try (intros;omega)
      ·have:=no _ Qf.waters (by simpa using h6)
       have h6':c.waters.any QZ=true:=by simpa using h6
       simp only[h5,h6',this];simp
     ·have:=no _ Qf.wear h5
      have h5':QZ (c.wlo,c.whi)=true:=by simpa using h5
      simp only[h5',this];simp
    ·have h4':(4:Int)<c.waters.length:=by omega
     have:=no _ Qf.nw h4;simp[h3,h4',this]
     try (intros;omega)
   ·have:=no _ Qf.wrong h3
    simp[h3,this]
  ·have:=no _ Qf.str h2
   simp[h2,this]
 ·have:=no _ Qf.thick h1
  simp[h1,this]
omit hK
@[simp] def weR (s:List Int) (wear:Int):List IV:=[.int .i64 (s.getD 0 0),.int .i64 (s.getD 1 0),.int .i64 (s.getD 2 0),.int .i64 (s.getD 3 0),.int .i64 wear]
@[simp] def weC (w:Qd):List IV:=weR w.shorts w.leak
def Vm (c:Sea) (w:Qd):List IV:=[.agg (weC w),.int .i64 (Xk c c.gauges w:Nat)]
include hK
theorem QdM (c:Sea) (w:Qd) (k:Nat) (hc:Qf c) (hw:okW c w) (hk:k<=c.voys.length):Ev.Good Tryz.prog K 167 [.ptr (Yt c),.agg (weC w),.int .i64 k] (.int .i64 (QH c w k)):=by
 refine Qb hK QpY (by simp) ?_
 have hv8:=hc.nv;have hth:=hc.thick;simp only[inR] at hth;have hm:min k c.voys.length=k:=by omega
 have e0:AV.iv (IV.int IntKind.i64 c.thick)=AV.iv (.int .i64 (Qdl c w (c.voys.take 0))):=by simp[Qdl]
 simp[hm]
 (repeat' first | omega | (with_reducible apply And.intro) | intro _)
 rw[e0,<- QAH];refine Qu (fun i=>[(4,AV.iv (.ptr (weC w))),(7,AV.iv (.int .i64 (Qdl c w (c.voys.take i)))),(21,AV.iv (ZS (c.voys.take k))),(22,AV.iv (.int .i64 k)),(23,AV.iv (.int .i64 (i:Nat)))]) (fun _=>[]) k (fun _=>True) trivial ?_ ?_
 ·intro _
  rw[Qa Qev.eq_1];simp[QH];split<;>omega
 ·intro i hi _ ih
  have hi':i<c.voys.length:=by omega
  have hv:=hc.voy (Qzr hi');have hl:=Qa0 hc hw (Qzr hi');have hr:=QaW hc hw i;have h4:=hc.nw;rw[WH c w i hi'] at ih;rw[Qa Qev.eq_1];generalize Qdl c w (c.voys.take i)=R at *;have hcase:c.voys[i].1=0\/c.voys[i].1=1\/c.voys[i].1=2\/c.voys[i].1=3:=by omega
  unfold Qdv at hl ih;rcases hcase with h | h | h | h
  all_goals
   simp[h] at hl ih;simp[hi,hi',h]
   (repeat' first | omega | (with_reducible apply And.intro) | intro _)
   try grind
theorem Qor (c:Sea) (t:Int) (hc:Qf c) (ht:0<=t/\t<=500):Ev.Good Tryz.prog K 166 [.ptr (Yt c),.int .i64 t] (.int .i64 (Ze c t)):=by
 refine Qb hK QpZ (by simp) ?_
 have h:=Qnw hc.str ht;have h2:=XR hc ht;unfold Ze at h2 |-;simp;omega
theorem Qn3 (c:Sea) (w:Qd) (g:Int × Int × Int) (hc:Qf c) (hw:okW c w) (hg:g∈c.gauges):Ev.Good Tryz.prog K 238 [.ptr (Yt c),.agg (weC w),.agg (gaC g)] (.bool (Uu c w g)):=by
 refine Qb hK Qpq (by simp) ?_
 have h:=hc.gau hg;have hv:=hc.nv;have hb:=ZA hc hw g.1.toNat;have e:g.1=((g.1.toNat:Nat):Int):=by omega
 have hg7:=QdM hK c w g.1.toNat hc hw (by omega)
 rw[<- e] at hg7;simp;refine cK (by simpa using hg7) ?_
 simp
 (repeat' first | omega | (with_reducible apply And.intro) | intro _)
 refine cK (Yl hK _ _ _) ?_;simp[Uu]
theorem QdB (m:Machine) (hm:OkM m) (first:List Int) (leak0:Int) (hlen:first.length=m.levers.length) (hr:∀ i (h:i<m.levers.length) (h':i<first.length),inR first[i] m.levers[i].lo m.levers[i].hi) :
  Qj7 Tryz.prog K 95 [.ptr (wkC m),.agg (stC first leak0 (QX id first)),.int .i64 first.length] [] ((QO m first []).map (V1 m)) (fun b=>.bool b):=by
 intro s b s' hf;refine Q5 Qm6 (by simp) hf.v rfl ?_
 rw[Wp,Wd] at hf;have hlk:=hm.leak;have hlh:=hm.lhi;simp only[inR] at hlk;simp[hlen]
 (repeat' first | omega | (with_reducible apply And.intro) | intro _)
 have e0:AV.iv (IV.int .i64 m.llo)=AV.iv (.int .i64 (m.llo+((0:Nat):Int))):=by simp
 refine UA (m.lhi+1-m.llo).toNat (fun i e o=>∃ si,e=[(0,AV.iv (.ptr (wkC m))),(3,AV.cb 0),(5,AV.loc 5 0)]/\o=[(0,.ext si),(5,.box [.iv (.int .i64 (first.getD 0 0)),.iv (.int .i64 (first.getD 1 0)),.iv (.int .i64 (first.getD 2 0)),.iv (.int .i64 (m.llo+(i:Nat))),.iv (.int .i64 (QX id first))])] /\
  Zz Tryz.prog K ((ZO (Qca m first) i ((m.lhi+1-m.llo).toNat-i)).map (V1 m)) si b s') ?_ ?_ _ _ ⟨s,rfl,by simp,by simpa using hf⟩
 ·rintro e o ⟨si,rfl,rfl,hfd⟩
  have q1:m.llo+((m.lhi+1-m.llo).toNat:Int)=m.lhi+1:=by omega
  have q2:¬ m.lhi+1<=m.lhi:=by omega
  rw[Nat.sub_self] at hfd;cases hfd;rw[q1,Qa Qjl.eq_1];simp[q2]
 ·rintro i e o hi ⟨si,rfl,rfl,hfd⟩ ih
  have q1:m.llo+(i:Int)<=m.lhi:=by omega
  have q3:m.llo+((i:Int)+1)=m.llo+i+1:=by omega
  have hos:okS m ⟨first,m.llo+i⟩:=⟨hlen,by simp only[inR];omega,hr⟩
  have e1:(m.lhi+1-m.llo).toNat-i=((m.lhi+1-m.llo).toNat-(i+1))+1:=by omega
  rw[e1] at hfd;simp only[ZO,Qca,QzU,QzH,List.map_nil,List.singleton_append] at hfd;have hbl:=hm.blen;rw[Qa Qjl.eq_1];simp[q1]
  (repeat' first | omega | (with_reducible apply And.intro) | intro _)
  refine Qu (fun k=>[(0,AV.iv (.ptr (wkC m))),(3,AV.cb 0),(5,AV.loc 5 0),(11,AV.iv (IV.int IntKind.i64 (XG m (m.bals.take k) ⟨first,m.llo+i⟩:Nat))),(87,AV.iv (Qbu m.bals)),(88,AV.iv (.int .i64 m.bals.length)),(89,AV.iv (IV.int IntKind.i64 (k:Nat)))])
   (fun k=>[(0,.ext si),(5,.box [.iv (.int .i64 (first.getD 0 0)),.iv (.int .i64 (first.getD 1 0)),.iv (.int .i64 (first.getD 2 0)),.iv (.int .i64 (m.llo+(i:Nat))),.iv (.int .i64 (QX id first))])]) m.bals.length (fun i=>True) trivial ?_ ?_
  ·intro _
   rw[Qa Qjm.eq_1];simp;have hit:V1 m ⟨first,m.llo+i⟩=[.agg (stC first (m.llo+i) (QX id first)),.int .i64 (XG m m.bals ⟨first,m.llo+i⟩)]:=rfl
   rw[hit] at hfd;cases hfd with
   | stop _ _ _ _ hg =>
     refine ZI (by simpa using hg) rfl ?_
     simp
   | next _ _ _ s1 _ _ hg hr2 =>
     refine ZI (by simpa using hg) rfl ?_
     simp
     (repeat' first | omega | (with_reducible apply And.intro) | intro _)
     exact ih _ _ ⟨s1,rfl,by simp[q3],hr2⟩
  ·intro k hk _ ih2
   have hle:=QfR m (m.bals.take k) ⟨first,m.llo+i⟩
   simp at hle;rw[Qa Qjm.eq_1];rw[QbE _ _ _ _ hk] at ih2;simp[hk] at ih2 |-;have hg:=QoM hK m ⟨first,m.llo+i⟩ m.bals[k] hm hos (Qzr hk)
   refine cK (by simpa[den] using hg) ?_
   cases hrr:Qb3 m ⟨first,m.llo+i⟩ m.bals[k]
   ·simp[hrr] at ih2 |-
    grind
   ·simp[hrr] at ih2 |-
    grind
theorem QmP (m:Machine) (hm:OkM m):∀ (n:Nat) (first:List Int),first.length+n=m.levers.length->(∀ i (h:i<m.levers.length) (h':i<first.length),inR first[i] m.levers[i].lo m.levers[i].hi) ->
  Qj7 Tryz.prog K 95 [.ptr (wkC m),.agg (stC first 0 (QX id first)),.int .i64 first.length] [] ((QO m first (m.levers.drop first.length)).map (V1 m)) (fun b=>.bool b)
 | 0,first,hn,hr=>by
   have e1:m.levers.drop first.length=[]:=QAI (by omega)
   rw[e1];exact QdB hK m hm first 0 (by omega) hr
 | n+1,first,hn,hr=>by
   have ihn:=QmP m hm n;have hlt:first.length<m.levers.length:=by omega
   have hl3:=hm.len;have e1:m.levers.drop first.length=m.levers[first.length]::m.levers.drop (first.length+1):=QAm hlt
   have hlv:=hm.lever (Qzr hlt);rw[e1,Uq]
   have hpb:∀ x:Int,inR x m.levers[first.length].lo m.levers[first.length].hi->1<=QX id (first++[x])/\QX id (first++[x])<=1000000000:=fun x hx=>by
    refine WJ _ _ (fun a ha=>?_) (by simp;omega)
    simp only[inR] at hx;rcases QzD.1 ha with ha | ha
    ·obtain ⟨k,hk,rfl⟩:=QzV ha
     have h1:=hr k (by omega) hk
     have h2:=hm.lever (Qzr (show k<m.levers.length by omega))
     simp only[inR,id] at *;omega
    grind
   have ih2:∀ i:Nat,m.levers[first.length].lo+(i:Int)<=m.levers[first.length].hi->Qj7 Tryz.prog K 95 [.ptr (wkC m),.agg (stC (first++[m.levers[first.length].lo+(i:Int)]) 0 (QX id (first++[m.levers[first.length].lo+(i:Int)]))),.int .i64 (first.length+1:Nat)] []
     (((fun i:Nat=>QO m (first++[m.levers[first.length].lo+(i:Nat)]) (m.levers.drop (first.length+1))) i).map (V1 m)) (fun b=>.bool b):=fun i hi=>by
    have:=ihn (first++[m.levers[first.length].lo+(i:Int)]) (by simp;omega) (fun k h h'=>by
     rcases QAn k first.length with hk | hk
     ·grind
     ·have:k=first.length:=by simp at h';omega
      subst this;simp only[List.getElem_append_right (Qzq _),Nat.sub_self,List.getElem_cons_zero,inR];omega)
    grind
   generalize (fun i:Nat=>QO m (first++[m.levers[first.length].lo+(i:Nat)]) (m.levers.drop (first.length+1)))=pc at *
   intro s b s' hf;refine Q5 Qm6 (by simp) hf.v rfl ?_
   rw[Wd] at hf;have hlt':(first.length:Int)<m.levers.length:=by omega
   simp[hlt]
   (repeat' first | omega | (with_reducible apply And.intro) | intro _)
   refine UA (m.levers[first.length].hi+1-m.levers[first.length].lo).toNat (fun i e o=>∃ si,e=[(0,AV.iv (.ptr (wkC m))),(2,AV.iv (IV.int IntKind.i64 (first.length:Nat))),(3,AV.cb 0),(5,AV.loc 5 0),(9,AV.iv (.int .i64 (m.levers[first.length].lo+(i:Nat))))] /\
    o=[(0,.ext si),(5,.box [.iv (.int .i64 (first.getD 0 0)),.iv (.int .i64 (first.getD 1 0)),.iv (.int .i64 (first.getD 2 0)),.iv (.int .i64 0),.iv (.int .i64 (QX id first))])] /\
    Zz Tryz.prog K ((ZO pc i ((m.levers[first.length].hi+1-m.levers[first.length].lo).toNat-i)).map (V1 m)) si b s') ?_ ?_ _ _ ⟨s,by simp,by simp,by simpa using hf⟩
   ·rintro e o ⟨si,rfl,rfl,hfd⟩
    have q1:m.levers[first.length].lo+((m.levers[first.length].hi+1-m.levers[first.length].lo).toNat:Int)=m.levers[first.length].hi+1:=by omega
    have q2:¬ m.levers[first.length].hi+1<=m.levers[first.length].hi:=by omega
    rw[Nat.sub_self] at hfd;cases hfd;rw[q1,Qa Qjn.eq_1];simp[hlt,q2]
   ·rintro i e o hi ⟨si,rfl,rfl,hfd⟩ ih
    have q1:m.levers[first.length].lo+(i:Int)<=m.levers[first.length].hi:=by omega
    have q3:m.levers[first.length].lo+((i:Int)+1)=m.levers[first.length].lo+i+1:=by omega
    have e1:(m.levers[first.length].hi+1-m.levers[first.length].lo).toNat-i=((m.levers[first.length].hi+1-m.levers[first.length].lo).toNat-(i+1))+1:=by omega
    rw[e1] at hfd;simp only[ZO,QzU] at hfd;have hg:=ih2 i q1;have hb:=hpb (m.levers[first.length].lo+(i:Int)) (by simp only[inR];omega)
    have hpr:QX id (first++[m.levers[first.length].lo+(i:Int)])=QX id first*(m.levers[first.length].lo+(i:Int)):=Qb7 _ _ _
    rw[hpr] at hg hb;rw[Qa Qjn.eq_1]
    have hcase:(∃ s1 b1,Zz Tryz.prog K ((pc i).map (V1 m)) si b1 s1/\(b1=true->Zz Tryz.prog K ((ZO pc (i+1) ((m.levers[first.length].hi+1-m.levers[first.length].lo).toNat-(i+1))).map (V1 m)) s1 b s')/\(b1=false->b=false/\s1=s')):=by
     rcases Zz.append hfd with ⟨s1,h1,h2⟩ | ⟨h1,h2⟩
     all_goals grind
    obtain ⟨s1,b1,f1,f2,f3⟩:=hcase;have hgx:=hg _ _ _ f1
    have hfl:first=[]\/(∃ a,first=[a])\/∃ a c,first=[a,c]:=by
     match first,hlt,hl3 with
     | [],_,_=>exact .inl rfl
     | [a],_,_=>grind
     | [a,c],_,_=>grind
     | _::_::_::_,h,h'=>simp at h;omega
    rcases hfl with rfl | ⟨a,rfl⟩ | ⟨a,c,rfl⟩
    all_goals
     try simp only[QzE,Qzv,Qzx,Nat.reduceAdd] at hlt
     try simp only[QzE,Qzv,Qzx,Nat.reduceAdd] at q1
     try simp only[QzE,Qzv,Qzx,Nat.reduceAdd] at q3
     try simp only[QzE,Qzv,Qzx,Nat.reduceAdd] at hb
     try simp only[QzE,Qzv,Qzx,Nat.reduceAdd] at hgx
     try simp only[QzE,Qzv,Qzx,Nat.reduceAdd] at ih
     try simp only[QzE,Qzv,Qzx,Nat.reduceAdd] at f2
     try simp only[QzE,Qzv,Qzx,Nat.reduceAdd] at hlt'
     try simp only[QzE,Qzv,Qzx,Nat.reduceAdd] at hlv
     try simp only[QzE,Qzv,Qzx,Nat.reduceAdd]
     simp[q1,hlt]
     (repeat' first | omega | (with_reducible apply And.intro) | intro _)
     refine JC (by simpa using hgx) rfl ?_
     cases b1
     ·obtain ⟨rfl,rfl⟩:=f3 rfl
      simp
     ·simp
      (repeat' first | omega | (with_reducible apply And.intro) | intro _)
      exact ih _ _ ⟨s1,by simp[q3],by simp,f2 rfl⟩
omit hK
section
variable {K:World->Prop}
def stI (s:Qd):List IV:=[.agg (stC s.shorts s.leak (den s))]
theorem QaO {m:Machine} {ks:Env} (hks:Q1 [2,3] [0,3] ks=[(2,.iv (.ptr [.ptr (wkC m)])),(3,.loc 3 0)]) :
  ∀ (Ls:List Qd) (s:Ext) (b:Bool) (s':Ext),Zz Tryz.prog K ((Ls.filter fun t=>decide ((XG m m.bals t:Int)<=m.wrong)).map stI) s b s' ->
   ∃ wy,(wy=.fall\/wy=.ret)/\UF Tryz.prog K [8,9] qm QcT [2,3] [0,3] (Q1 [2,3] [0,3] ks) (Ls.map (V1 m)) [(0,.ext s),(3,.box [.cb 0])] wy [(0,.ext s'),(3,.box [.cb 0])]
 | [],s,b,s',h=>by
   cases h;exact ⟨.fall,.inl rfl,.nil _⟩
 | t::Ls,s,b,s',h=>by
   by_cases ht:(XG m m.bals t:Int)<=m.wrong
   ·rw[QAr (by simpa using ht)] at h
    cases h with
    | stop _ _ _ _ hg =>
      refine ⟨.ret,.inr rfl,.stop _ _ _ _ _ (by simp) ?_⟩
      rw[hks];refine ⟨rfl,?_⟩;simp[V1,qm,QcT,ht];refine ZI (by simpa[stI] using hg) rfl ?_
      simp
    | next _ _ _ s1 _ _ hg hr =>
      obtain ⟨wy,h1,h2⟩:=QaO hks Ls s1 b s' hr;refine ⟨wy,h1,.next _ _ _ _ _ _ ?_ h2⟩;rw[hks];refine ⟨rfl,?_⟩;simp[V1,qm,QcT,ht];refine ZI (by simpa[stI] using hg) rfl ?_
      simp
   ·rw[QAs (by simpa using ht)] at h
    obtain ⟨wy,h1,h2⟩:=QaO hks Ls s b s' h;refine ⟨wy,h1,.next _ _ _ _ _ _ ?_ h2⟩;rw[hks];refine ⟨rfl,?_⟩;simp[V1,qm,QcT,ht]
theorem Up (m:Machine):Xx m [] m.levers=(QO m [] m.levers).filter fun t=>decide ((XG m m.bals t:Int)<=m.wrong):=by
 unfold Xx;refine List.filter_congr fun s hs=>?_
 have:=qU hs;simp[Qgi,this]
end
include hK
theorem Qsk (m:Machine) (hm:OkM m):Qbz Tryz.prog K 67 [.ptr (wkC m)] [] ((QO m [] m.levers).map (V1 m)):=by
 intro s b s' hf;have h:=QmP hK m hm m.levers.length [] (by simp) (fun i h h'=>by simp at h')
 simp only[QzE,List.drop_zero] at h;have hgx:=h _ _ _ hf;refine Q5 QtH (by simp) hf.v rfl ?_
 simp;refine JC (by simpa[QX] using hgx) rfl ?_
 simp
theorem QhV (m:Machine) (hm:OkM m):Qbz Tryz.prog K 36 [.ptr (wkC m)] [] ((Xx m [] m.levers).map stI):=by
 intro s b s' hfd;refine Q5 Qt5 (by simp) hfd.v rfl ?_
 rw[Up] at hfd;obtain ⟨wy,h1,h2⟩:=QaO (m:=m) (ks:=[(2,.iv (.ptr [.ptr (wkC m)])),(3,.loc 3 0)]) rfl (QO m [] m.levers) s b s' hfd;simp;refine Za (wy:=wy) (o':=[(0,.ext s'),(3,.box [.cb 0])]) rfl (by kernel_rfl) (Qsk hK m hm) (by simpa using h2) ?_
 rcases h1 with rfl | rfl<;>simp
theorem QsU (m:Machine) (is:Bool) (hl:m.levers.length<=1000) (hb:m.bals.length<=1000):Ev.Good Tryz.prog K 34 [maV m,.bool is] (.tup [if tE m is=0 then .ptr (wkC m) else .nilp,.int .i64 (tE m is)]):=by
 refine Qb hK Qt7 (by simp) ?_
 simp;refine cK (QsE hK m hl hb) ?_;by_cases h1:OkM m
 ·cases is
  ·simp[h1,tE]
  ·simp[h1]
   refine cK (QsD hK m h1) ?_;simp;cases hL:Xx m [] m.levers with
   | nil =>
     refine Za (wy:=.fall) (o':=[(4,.box [.iv .nilp]),(5,.box [.iv (.int .i64 0)]),(7,.box [.iv (.ptr (wkC m))])]) rfl (by kernel_rfl) (QhV hK m h1) (by rw[hL];simpa using UF.nil _) ?_
     simp[tE,h1,hL]
   | cons a r =>
     refine Za (wy:=.ret) (o':=[(4,.box [.iv (.ptr (wkC m))]),(5,.box [.iv (.int .i64 0)]),(7,.box [.iv (.ptr (wkC m))])]) rfl (by kernel_rfl) (QhV hK m h1) (by
      rw[hL];refine .stop _ _ _ _ _ (by simp) ?_
      refine ⟨rfl,?_⟩;simp[stI,QjK,Qm7]) ?_
     simp[tE,h1,hL]
 ·simp[h1,tE]
theorem QsY (m:Machine) (hl:m.levers.length<=1000) (hb:m.bals.length<=1000) (hs:OkM m->sets m m.levers.length<=1000000):Ev.Good Tryz.prog K 29 [maV m] (.tup [.int .i64 (tL m true).length,.int .i64 (tE m true)]):=by
 refine Qb hK Qub (by simp) ?_
 simp;refine cK (QsU hK m true hl hb) ?_;by_cases he:tE m true=0
 ·obtain ⟨hm,_,htl,hne⟩:=Qrw he
  have hln:=Qkp hm;have hln2:=hs hm;simp[he,htl];refine Za (wy:=.fall) (o':=[(2,.box [.iv (.int .i64 ((Xx m [] m.levers).length:Nat))])]) rfl (by kernel_rfl) (QhV hK m hm) ?_ ?_
  ·have:=UF.all (P:=Tryz.prog) (K:=K) (ps:=[15]) (asn:=Qd8) (body:=QjL) (ks:=[2]) (ids:=[2]) (eK:=[(2,.loc 2 0)]) ((Xx m [] m.levers).map stI) (fun i=>[(2,.box [.iv (.int .i64 (i:Int))])]) fun i x hi=>by
    simp only[Qzu,Qzo] at hi;obtain ⟨y,hy,rfl⟩:=hi;have hlt:=(Qzl.1 hy).1;refine ⟨rfl,?_⟩;simp[stI,Qd8,QjL];omega
   simpa using this
  ·simp
 ·have:tL m true=[]:=by
   unfold tE at he;unfold tL
   grind
  simp[he,this]
theorem Qwx (c:Sea) (w:Qd) (hc:Qf c) (hw:okW c w) {s s':Ext} {b:Bool} (hg:XV Tryz.prog K s (Vm c w) (.bool b) s') :
  UT Tryz.prog K 237 [.agg (weC w),.ptr [.ptr (Yt c)],.ptr [.lit s.v]] s (.bool b) s':=by
 refine YS Qpr (by simp) hg.1 rfl ?_
 have h6:=hc.ng;simp
 (repeat' first | omega | (with_reducible apply And.intro) | intro _)
 refine Qu (fun i=>[(1,AV.iv (.ptr [.ptr (Yt c)])),(2,AV.iv (.ptr [.lit s.v])),(3,AV.iv (.ptr (weC w))),(5,AV.iv (IV.int IntKind.i64 (Xk c (c.gauges.take i) w:Nat))),(12,AV.iv (V5 c.gauges)),(13,AV.iv (.int .i64 c.gauges.length)),(14,AV.iv (IV.int IntKind.i64 (i:Nat)))])
  (fun _=>[(0,.ext s)]) c.gauges.length (fun _=>True) trivial ?_ ?_
 ·intro _
  rw[Qa Qd9.eq_1];rw[QzG];simp;refine Qjj (by simpa[Vm] using hg) rfl ?_
  simp
 ·intro i hi _ ih
  have hle:=qK c (c.gauges.take i) w;simp at hle;rw[Qa Qd9.eq_1];rw[Ug c c.gauges w i hi] at ih;simp[hi] at ih |-;have hg8:=Qn3 hK c w c.gauges[i] hc hw (Qzr hi);refine cK (by simpa using hg8) ?_
  cases hr:Uu c w c.gauges[i]
  ·simp[hr] at ih |-
   grind
  ·simp[hr] at ih |-
   grind
omit hK
@[simp] def Qsg (c:Sea) (v:Value):IV:=.clo 237 [] [.ptr [.ptr (Yt c)],.ptr [.lit v]]
include hK
theorem QgR (c:Sea) (hc:Qf c) (first:List Int) (leak0:Int) (hlen:first.length=c.waters.length) (hr:∀ i (h:i<(X4 c).levers.length) (h':i<first.length),inR first[i] (X4 c).levers[i].lo (X4 c).levers[i].hi)
  (s s':Ext) (b:Bool) (hf:Zz Tryz.prog K ((QO (X4 c) first []).map (Vm c)) s b s') :
  UT Tryz.prog K 236 [.ptr (Yt c),.agg (weR first leak0),.int .i64 first.length,Qsg c s.v] s (.bool b) s':=by
 refine YS QjM (by simp) hf.v rfl ?_
 rw[Wp,Wd] at hf;have hwr:=Zb hc.wear;simp only at hwr;have e0:AV.iv (IV.int IntKind.i64 c.wlo)=AV.iv (.int .i64 (c.wlo+((0:Nat):Int))):=by simp
 simp[hlen]
 (repeat' first | omega | (with_reducible apply And.intro) | intro _)
 rw[e0]
 refine UA (c.whi+1-c.wlo).toNat (fun i e o=>∃ si,si.v=s.v/\e=[(0,AV.iv (.ptr (Yt c))),(3,AV.iv (Qsg c s.v)),(5,AV.loc 5 0)]/\o=[(0,.ext si),(5,.box [.iv (.int .i64 (first.getD 0 0)),.iv (.int .i64 (first.getD 1 0)),.iv (.int .i64 (first.getD 2 0)),.iv (.int .i64 (first.getD 3 0)),.iv (.int .i64 (c.wlo+(i:Nat)))])] /\
  Zz Tryz.prog K ((ZO (Qca (X4 c) first) i ((c.whi+1-c.wlo).toNat-i)).map (Vm c)) si b s') ?_ ?_ _ _ ⟨s,rfl,by simp,by simp,by simpa using hf⟩
 ·rintro e o ⟨si,hv,rfl,rfl,hfd⟩
  have q1:c.wlo+((c.whi+1-c.wlo).toNat:Int)=c.whi+1:=by omega
  have q2:¬ c.whi+1<=c.whi:=by omega
  rw[Nat.sub_self] at hfd;cases hfd;rw[q1,Qa Qeb.eq_1];simp[q2]
 ·rintro i e o hi ⟨si,hv,rfl,rfl,hfd⟩ ih
  have q1:c.wlo+(i:Int)<=c.whi:=by omega
  have q3:c.wlo+((i:Int)+1)=c.wlo+i+1:=by omega
  have hos:okW c ⟨first,c.wlo+i⟩:=⟨by simpa using hlen,by simp only[inR,X4];omega,hr⟩
  have e1:(c.whi+1-c.wlo).toNat-i=((c.whi+1-c.wlo).toNat-(i+1))+1:=by omega
  rw[e1] at hfd;simp only[ZO,Qca,QzU,QzH,List.map_nil,List.singleton_append] at hfd;rw[Qa Qeb.eq_1];simp[q1];cases hfd with
  | stop _ _ _ _ hg =>
    have hz:=Qwx hK c ⟨first,c.wlo+i⟩ hc hos hg
    rw[hv] at hz;refine QcQ (by kernel_rfl) (by simpa using hz) rfl ?_
    simp
  | next _ _ _ s1 _ _ hg hr2 =>
    have hz:=Qwx hK c ⟨first,c.wlo+i⟩ hc hos hg
    rw[hv] at hz;refine QcQ (by kernel_rfl) (by simpa using hz) rfl ?_
    simp
    (repeat' first | omega | (with_reducible apply And.intro) | intro _)
    exact ih _ _ ⟨s1,hg.1.trans hv,rfl,by simp[q3],hr2⟩
theorem Qwy (c:Sea) (hc:Qf c):∀ (n:Nat) (first:List Int),first.length+n=c.waters.length->(∀ i (h:i<(X4 c).levers.length) (h':i<first.length),inR first[i] (X4 c).levers[i].lo (X4 c).levers[i].hi) ->
  ∀ (s s':Ext) (b:Bool),Zz Tryz.prog K ((QO (X4 c) first ((X4 c).levers.drop first.length)).map (Vm c)) s b s' ->
  UT Tryz.prog K 236 [.ptr (Yt c),.agg (weR first 0),.int .i64 first.length,Qsg c s.v] s (.bool b) s'
 | 0,first,hn,hr=>by
   intro s s' b hf;have e1:(X4 c).levers.drop first.length=[]:=QAI (by simp;omega)
   rw[e1] at hf;exact QgR hK c hc first 0 (by omega) hr s s' b hf
 | n+1,first,hn,hr=>by
   have ihn:=Qwy c hc n;have hlt:first.length<c.waters.length:=by omega
   have hlm:first.length<(X4 c).levers.length:=by simpa using hlt
   have hl4:=hc.nw;have hlv:=Zb (hc.waters _ (Qzr hlt));have hml:(X4 c).levers[first.length]=⟨0,c.waters[first.length].1,c.waters[first.length].2⟩:=by simp
   have e1:(X4 c).levers.drop first.length=(X4 c).levers[first.length]::(X4 c).levers.drop (first.length+1):=QAm hlm
   intro s s' b hf;rw[e1,Uq,hml] at hf;simp only at hf
   have ih2:∀ i:Nat,c.waters[first.length].1+(i:Int)<=c.waters[first.length].2->∀ (s s':Ext) (b:Bool),Zz Tryz.prog K (((fun i:Nat=>QO (X4 c) (first++[c.waters[first.length].1+(i:Nat)]) ((X4 c).levers.drop (first.length+1))) i).map (Vm c)) s b s' ->
     UT Tryz.prog K 236 [.ptr (Yt c),.agg (weR (first++[c.waters[first.length].1+(i:Int)]) 0),.int .i64 (first.length+1:Nat),Qsg c s.v] s (.bool b) s':=fun i hi s s' b hf=>by
    have:=ihn (first++[c.waters[first.length].1+(i:Int)]) (by simp;omega) (fun k h h'=>by
     rcases QAn k first.length with hk | hk
     ·have:=hr k h hk
      grind
     ·have:k=first.length:=by simp at h';omega
      subst this;rw[hml];simp only[List.getElem_append_right (Qzq _),Nat.sub_self,List.getElem_cons_zero,inR];omega) s s' b (by simpa using hf)
    simpa using this
   generalize (fun i:Nat=>QO (X4 c) (first++[c.waters[first.length].1+(i:Nat)]) ((X4 c).levers.drop (first.length+1)))=pc at *
   refine YS QjM (by simp) hf.v rfl ?_
   rw[Wd] at hf;have hlt':(first.length:Int)<c.waters.length:=by omega
   have hne:¬ (first.length:Int)=c.waters.length:=by omega
   have hne':¬ first.length=c.waters.length:=by omega
   have e0:AV.iv (IV.int IntKind.i64 c.waters[first.length].1)=AV.iv (.int .i64 (c.waters[first.length].1+((0:Nat):Int))):=by simp
   have e0b:AO.box [AV.iv (.int .i64 (first.getD 0 0)),.iv (.int .i64 (first.getD 1 0)),.iv (.int .i64 (first.getD 2 0)),.iv (.int .i64 (first.getD 3 0)),.iv (.int .i64 0)]=AO.box ((weR first 0).map .iv):=by simp
   simp[hlt,hne,hne']
   (repeat' first | omega | (with_reducible apply And.intro) | intro _)
   rw[e0]
   refine UA (c.waters[first.length].2+1-c.waters[first.length].1).toNat (fun i e o=>∃ si y,si.v=s.v/\e=[(0,AV.iv (.ptr (Yt c))),(2,AV.iv (IV.int IntKind.i64 (first.length:Nat))),(3,AV.iv (Qsg c s.v)),(5,AV.loc 5 0),(9,AV.iv (.int .i64 (c.waters[first.length].1+(i:Nat))))] /\
    o=[(0,.ext si),(5,.box ((weR (first++[y]) 0).map .iv))] /\
    Zz Tryz.prog K ((ZO pc i ((c.waters[first.length].2+1-c.waters[first.length].1).toNat-i)).map (Vm c)) si b s') ?_ ?_ _ _ ⟨s,0,rfl,by simp,?_,by simpa using hf⟩
   ·rintro e o ⟨si,y,hv,rfl,rfl,hfd⟩
    have q1:c.waters[first.length].1+((c.waters[first.length].2+1-c.waters[first.length].1).toNat:Int)=c.waters[first.length].2+1:=by omega
    have q2:¬ c.waters[first.length].2+1<=c.waters[first.length].2:=by omega
    rw[Nat.sub_self] at hfd;cases hfd;rw[q1,Qa Qea.eq_1];simp[hlt,q2]
   ·rintro i e o hi ⟨si,y,hv,rfl,rfl,hfd⟩ ih
    have q1:c.waters[first.length].1+(i:Int)<=c.waters[first.length].2:=by omega
    have q3:c.waters[first.length].1+((i:Int)+1)=c.waters[first.length].1+i+1:=by omega
    have e1:(c.waters[first.length].2+1-c.waters[first.length].1).toNat-i=((c.waters[first.length].2+1-c.waters[first.length].1).toNat-(i+1))+1:=by omega
    rw[e1] at hfd;simp only[ZO,QzU] at hfd;rw[Qa Qea.eq_1]
    have hcase:(∃ s1 b1,Zz Tryz.prog K ((pc i).map (Vm c)) si b1 s1/\(b1=true->Zz Tryz.prog K ((ZO pc (i+1) ((c.waters[first.length].2+1-c.waters[first.length].1).toNat-(i+1))).map (Vm c)) s1 b s')/\(b1=false->b=false/\s1=s')):=by
     rcases Zz.append hfd with ⟨s1,h1,h2⟩ | ⟨h1,h2⟩
     all_goals grind
    obtain ⟨s1,b1,f1,f2,f3⟩:=hcase;have hgz:=ih2 i q1 _ _ _ f1;have hv1:=f1.v.trans hv;rw[hv] at hgz
    have hfl:first=[]\/(∃ a,first=[a])\/(∃ a d,first=[a,d])\/∃ a d f,first=[a,d,f]:=by
     match first,hlt,hl4 with
     | [],_,_=>exact .inl rfl
     | [a],_,_=>exact .inr (.inl ⟨a,rfl⟩)
     | [a,d],_,_=>exact .inr (.inr (.inl ⟨a,d,rfl⟩))
     | [a,d,f],_,_=>exact .inr (.inr (.inr ⟨a,d,f,rfl⟩))
     | _::_::_::_::_,h,h'=>simp at h;omega
    rcases hfl with rfl | ⟨a,rfl⟩ | ⟨a,d,rfl⟩ | ⟨a,d,f,rfl⟩
    all_goals
     try simp only[QzE,Qzv,Qzx,Nat.reduceAdd] at hlt
     try simp only[QzE,Qzv,Qzx,Nat.reduceAdd] at q1
     try simp only[QzE,Qzv,Qzx,Nat.reduceAdd] at q3
     try simp only[QzE,Qzv,Qzx,Nat.reduceAdd] at hgz
     try simp only[QzE,Qzv,Qzx,Nat.reduceAdd] at ih
     try simp only[QzE,Qzv,Qzx,Nat.reduceAdd] at f2
     try simp only[QzE,Qzv,Qzx,Nat.reduceAdd] at hlt'
     try simp only[QzE,Qzv,Qzx,Nat.reduceAdd] at hlv
     try simp only[QzE,Qzv,Qzx,Nat.reduceAdd]
     simp[q1,hlt]
     (repeat' first | omega | (with_reducible apply And.intro) | intro _)
     refine Qjh (by simpa using hgz) rfl ?_
     cases b1
     ·obtain ⟨rfl,rfl⟩:=f3 rfl
      simp
     ·simp
      (repeat' first | omega | (with_reducible apply And.intro) | intro _)
      exact ih _ _ ⟨s1,_,hv1,by simp[q3],by simp;rfl,f2 rfl⟩
   ·have hfl:first=[]\/(∃ a,first=[a])\/(∃ a d,first=[a,d])\/∃ a d f,first=[a,d,f]:=by
     match first,hlt,hl4 with
     | [],_,_=>exact .inl rfl
     | [a],_,_=>exact .inr (.inl ⟨a,rfl⟩)
     | [a,d],_,_=>exact .inr (.inr (.inl ⟨a,d,rfl⟩))
     | [a,d,f],_,_=>exact .inr (.inr (.inr ⟨a,d,f,rfl⟩))
     | _::_::_::_::_,h,h'=>simp at h;omega
    rcases hfl with rfl | ⟨a,rfl⟩ | ⟨a,d,rfl⟩ | ⟨a,d,f,rfl⟩<;>simp
theorem QnP (c:Sea) (hc:Qf c):Qbz Tryz.prog K 223 [.ptr (Yt c)] [] ((Qkl c).map (Vm c)):=by
 intro s b s' hf;refine Qgk ?_;have h:=Qwy hK c hc c.waters.length [] (by simp) (fun i h h'=>by simp at h') s s' b (by simpa[Qkl] using hf)
 refine YS Qpv (by simp) hf.v rfl ?_
 simp;refine Qjh (by simpa using h) rfl ?_
 simp
end Go.Pf
namespace Go.Proofs
open Go.Shelf
def Tryz.clone186_ren:Go.Shelf.Ren:=⟨fun | 41=>186 | n=>n,fun | 22=>61 | 23=>158 | 4=>4 | n=>n,fun | n=>n⟩
theorem Tryz.clone186:Go.Proofs.SlLaysE0.n41 Tryz.prog Tryz.clone186_ren:={
 mixed:=by kernel_rfl
 f41:=⟨Tryz.f186.name,by decide,Tryz.func186.trans (congrArg some (by kernel_rfl))⟩
 t4:=Tryz.underlying4
 a4:=Tryz.isAgg4
 z4:=Tryz.sizeOf4
 v4:=Tryz.zeroValue4
 t22:=Tryz.underlying61
 a22:=Tryz.isAgg61
 z22:=Tryz.sizeOf61
 v22:=Tryz.zeroValue61 }
def Tryz.rev243_ren:Go.Shelf.Ren:=⟨fun | 35=>243 | n=>n,fun | 22=>253 | 23=>3 | 3=>3 | 4=>4 | 0=>0 | n=>n,fun | n=>n⟩
theorem Tryz.rev243:Go.Proofs.SlLaysE.n35 Tryz.prog Tryz.rev243_ren:={
 mixed:=by kernel_rfl
 f35:=⟨Tryz.f243.name,by decide,Tryz.func243.trans (congrArg some (by kernel_rfl))⟩
 t0:=Tryz.underlying0
 a0:=Tryz.isAgg0
 z0:=Tryz.sizeOf0
 v0:=Tryz.zeroValue0
 t3:=Tryz.underlying3
 a3:=Tryz.isAgg3
 z3:=Tryz.sizeOf3
 v3:=Tryz.zeroValue3
 t4:=Tryz.underlying4
 a4:=Tryz.isAgg4
 z4:=Tryz.sizeOf4
 v4:=Tryz.zeroValue4
 t22:=Tryz.underlying253
 a22:=Tryz.isAgg253
 z22:=Tryz.sizeOf253
 v22:=Tryz.zeroValue253
 a23:=Tryz.isAgg3
 z23:=Tryz.sizeOf3 }
def Tryz.del242_ren:Go.Shelf.Ren:=⟨fun | 45=>242 | n=>n,fun | 22=>253 | 23=>3 | 3=>3 | 4=>4 | 0=>0 | n=>n,fun | n=>n⟩
theorem Tryz.del242:Go.Proofs.SlLaysE.n45 Tryz.prog Tryz.del242_ren:={
 mixed:=by kernel_rfl
 f45:=⟨Tryz.f242.name,by decide,Tryz.func242.trans (congrArg some (by kernel_rfl))⟩
 t0:=Tryz.underlying0
 a0:=Tryz.isAgg0
 z0:=Tryz.sizeOf0
 v0:=Tryz.zeroValue0
 t3:=Tryz.underlying3
 a3:=Tryz.isAgg3
 z3:=Tryz.sizeOf3
 v3:=Tryz.zeroValue3
 t4:=Tryz.underlying4
 a4:=Tryz.isAgg4
 z4:=Tryz.sizeOf4
 v4:=Tryz.zeroValue4
 t22:=Tryz.underlying253
 a22:=Tryz.isAgg253
 z22:=Tryz.sizeOf253
 v22:=Tryz.zeroValue253
 a23:=Tryz.isAgg3
 z23:=Tryz.sizeOf3 }
def Tryz.keys192_ren:Go.Shelf.Ren:=⟨fun | 7=>192 | 10=>222 | n=>n,fun | 23=>216 | 26=>3 | 3=>3 | 28=>291 | 0=>0 | 27=>290 | 33=>134 | 4=>4 | n=>n,fun | n=>n⟩
theorem Tryz.keys192:Go.Proofs.SlLaysZI.n7 Tryz.prog Tryz.keys192_ren:={
 mixed:=by kernel_rfl
 f7:=⟨Tryz.f192.name,by decide,Tryz.func192.trans (congrArg some (by kernel_rfl))⟩
 f10:=⟨Tryz.f222.name,by decide,Tryz.func222.trans (congrArg some (by kernel_rfl))⟩
 t0:=Tryz.underlying0
 a0:=Tryz.isAgg0
 z0:=Tryz.sizeOf0
 v0:=Tryz.zeroValue0
 t4:=Tryz.underlying4
 a4:=Tryz.isAgg4
 z4:=Tryz.sizeOf4
 v4:=Tryz.zeroValue4
 t23:=Tryz.underlying216
 a23:=Tryz.isAgg216
 z23:=Tryz.sizeOf216
 v23:=Tryz.zeroValue216
 t26:=Tryz.underlying3
 a26:=Tryz.isAgg3
 z26:=Tryz.sizeOf3
 v26:=Tryz.zeroValue3
 t27:=Tryz.underlying290
 a27:=Tryz.isAgg290
 z27:=Tryz.sizeOf290
 v27:=Tryz.zeroValue290
 t28:=Tryz.underlying291
 a28:=Tryz.isAgg291
 z28:=Tryz.sizeOf291
 v28:=Tryz.zeroValue291
 t33:=Tryz.underlying134
 a33:=Tryz.isAgg134
 z33:=Tryz.sizeOf134
 v33:=Tryz.zeroValue134 }
def Tryz.sorted191_ren:Go.Shelf.Ren:=⟨fun | 6=>191 | 8=>221 | 9=>122 | 11=>235 | 13=>172 | 12=>171 | 23=>207 | 24=>208 | 14=>198 | 15=>199 | 16=>200 | 17=>201 | 18=>202 | 19=>203 | 20=>204 | 21=>205 | 22=>206 | 25=>224 | 26=>225 | 27=>226 | 28=>227 | 29=>228 | 30=>229 | 31=>239 | n=>n,fun | 26=>3 | 28=>291 | 24=>28 | 0=>0 | 3=>3 | 37=>47 | 48=>306 | 50=>56 | 4=>4 | 40=>299 | 39=>298 | 45=>303 | 5=>5 | 9=>9 | 51=>316 | 55=>320 | 57=>334 | 58=>103 | 33=>134 | n=>n,fun | n=>n⟩
theorem Tryz.sorted191:Go.Proofs.SlLaysZI.n6 Tryz.prog Tryz.sorted191_ren:={
 mixed:=by kernel_rfl
 f6:=⟨Tryz.f191.name,by decide,Tryz.func191.trans (congrArg some (by kernel_rfl))⟩
 f8:=⟨Tryz.f221.name,by decide,Tryz.func221.trans (congrArg some (by kernel_rfl))⟩
 f11:=⟨Tryz.f235.name,by decide,Tryz.func235.trans (congrArg some (by kernel_rfl))⟩
 t0:=Tryz.underlying0
 a0:=Tryz.isAgg0
 z0:=Tryz.sizeOf0
 v0:=Tryz.zeroValue0
 t24:=Tryz.underlying28
 a24:=Tryz.isAgg28
 z24:=Tryz.sizeOf28
 v24:=Tryz.zeroValue28
 t26:=Tryz.underlying3
 a26:=Tryz.isAgg3
 z26:=Tryz.sizeOf3
 v26:=Tryz.zeroValue3
 t28:=Tryz.underlying291
 a28:=Tryz.isAgg291
 z28:=Tryz.sizeOf291
 v28:=Tryz.zeroValue291
 i26:=by kernel_rfl }
def Tryz.sort122_ren:Go.Shelf.Ren:=⟨fun | 5=>122 | 8=>172 | 7=>171 | 19=>207 | 20=>208 | 10=>198 | 11=>199 | 12=>200 | 13=>201 | 14=>202 | 15=>203 | 16=>204 | 17=>205 | 18=>206 | 30=>224 | 31=>225 | 32=>226 | 33=>227 | 34=>228 | 35=>229 | 40=>239 | n=>n,fun | 23=>28 | 25=>3 | 3=>3 | 32=>47 | 22=>28 | 0=>0 | 44=>306 | 46=>56 | 4=>4 | 36=>299 | 35=>298 | 41=>303 | 5=>5 | 9=>9 | 53=>316 | 57=>320 | 63=>334 | 64=>103 | n=>n,fun | n=>n⟩
theorem Tryz.sort122:Go.Proofs.SlLaysM.n5 Tryz.prog Tryz.sort122_ren:={
 mixed:=by kernel_rfl
 f5:=⟨Tryz.f122.name,by decide,Tryz.func122.trans (congrArg some (by kernel_rfl))⟩
 f7:=⟨Tryz.f171.name,by decide,Tryz.func171.trans (congrArg some (by kernel_rfl))⟩
 f8:=Tryz.func172.trans (congrArg some (by kernel_rfl))
 f10:=⟨Tryz.f198.name,by decide,Tryz.func198.trans (congrArg some (by kernel_rfl))⟩
 f11:=⟨Tryz.f199.name,by decide,Tryz.func199.trans (congrArg some (by kernel_rfl))⟩
 f12:=⟨Tryz.f200.name,by decide,Tryz.func200.trans (congrArg some (by kernel_rfl))⟩
 f13:=⟨Tryz.f201.name,by decide,Tryz.func201.trans (congrArg some (by kernel_rfl))⟩
 f14:=⟨Tryz.f202.name,by decide,Tryz.func202.trans (congrArg some (by kernel_rfl))⟩
 f15:=⟨Tryz.f203.name,by decide,Tryz.func203.trans (congrArg some (by kernel_rfl))⟩
 f16:=⟨Tryz.f204.name,by decide,Tryz.func204.trans (congrArg some (by kernel_rfl))⟩
 f17:=⟨Tryz.f205.name,by decide,Tryz.func205.trans (congrArg some (by kernel_rfl))⟩
 f18:=⟨Tryz.f206.name,by decide,Tryz.func206.trans (congrArg some (by kernel_rfl))⟩
 f19:=Tryz.func207.trans (congrArg some (by kernel_rfl))
 f20:=Tryz.func208.trans (congrArg some (by kernel_rfl))
 f30:=⟨Tryz.f224.name,by decide,Tryz.func224.trans (congrArg some (by kernel_rfl))⟩
 f31:=Tryz.func225.trans (congrArg some (by kernel_rfl))
 f32:=Tryz.func226.trans (congrArg some (by kernel_rfl))
 f33:=⟨Tryz.f227.name,by decide,Tryz.func227.trans (congrArg some (by kernel_rfl))⟩
 f34:=⟨Tryz.f228.name,by decide,Tryz.func228.trans (congrArg some (by kernel_rfl))⟩
 f35:=⟨Tryz.f229.name,by decide,Tryz.func229.trans (congrArg some (by kernel_rfl))⟩
 f40:=⟨Tryz.f239.name,by decide,Tryz.func239.trans (congrArg some (by kernel_rfl))⟩
 t0:=Tryz.underlying0
 a0:=Tryz.isAgg0
 z0:=Tryz.sizeOf0
 v0:=Tryz.zeroValue0
 t3:=Tryz.underlying3
 a3:=Tryz.isAgg3
 z3:=Tryz.sizeOf3
 v3:=Tryz.zeroValue3
 t4:=Tryz.underlying4
 a4:=Tryz.isAgg4
 z4:=Tryz.sizeOf4
 v4:=Tryz.zeroValue4
 t5:=Tryz.underlying5
 a5:=Tryz.isAgg5
 z5:=Tryz.sizeOf5
 v5:=Tryz.zeroValue5
 t9:=Tryz.underlying9
 a9:=Tryz.isAgg9
 z9:=Tryz.sizeOf9
 v9:=Tryz.zeroValue9
 t22:=Tryz.underlying28
 a22:=Tryz.isAgg28
 z22:=Tryz.sizeOf28
 v22:=Tryz.zeroValue28
 t23:=Tryz.underlying28
 a23:=Tryz.isAgg28
 z23:=Tryz.sizeOf28
 v23:=Tryz.zeroValue28
 t25:=Tryz.underlying3
 a25:=Tryz.isAgg3
 z25:=Tryz.sizeOf3
 v25:=Tryz.zeroValue3
 t32:=Tryz.underlying47
 a32:=Tryz.isAgg47
 z32:=Tryz.sizeOf47
 v32:=Tryz.zeroValue47
 t35:=Tryz.underlying298
 a35:=Tryz.isAgg298
 z35:=Tryz.sizeOf298
 v35:=Tryz.zeroValue298
 t36:=Tryz.underlying299
 a36:=Tryz.isAgg299
 z36:=Tryz.sizeOf299
 v36:=Tryz.zeroValue299
 t41:=Tryz.underlying303
 a41:=Tryz.isAgg303
 z41:=Tryz.sizeOf303
 v41:=Tryz.zeroValue303
 t44:=Tryz.underlying306
 a44:=Tryz.isAgg306
 z44:=Tryz.sizeOf306
 v44:=Tryz.zeroValue306
 t46:=Tryz.underlying56
 a46:=Tryz.isAgg56
 z46:=Tryz.sizeOf56
 v46:=Tryz.zeroValue56
 t53:=Tryz.underlying316
 a53:=Tryz.isAgg316
 z53:=Tryz.sizeOf316
 v53:=Tryz.zeroValue316
 t57:=Tryz.underlying320
 a57:=Tryz.isAgg320
 z57:=Tryz.sizeOf320
 v57:=Tryz.zeroValue320
 t63:=Tryz.underlying334
 a63:=Tryz.isAgg334
 z63:=Tryz.sizeOf334
 v63:=Tryz.zeroValue334
 t64:=Tryz.underlying103
 a64:=Tryz.isAgg103
 z64:=Tryz.sizeOf103
 v64:=Tryz.zeroValue103 }
end Go.Proofs
namespace Go.Pf
open Go Go.Ev Go.Proofs Go.RowKit
variable {K:World->Prop} (hK:∀ w w',K w->Below w.heap.size w w'->K w')
set_option maxRecDepth 8000
@[simp] theorem QuA:span []=(0,0):=rfl
def Qvy (m:Machine) (mn load:Int) (s:Qd):Int:=(load*den s+Qbx m-1).tdiv (Qbx m)-qC m s.leak 0 mn
def QyL (m:Machine) (mn load:Int) (l:List Qd):Int:=l.foldl (fun b s=>max b (Qvy m mn load s)) 0
include hK
omit hK
def ZY (ds:List Qr):List Qr:=ds.filter Q3
@[simp] def lkC (d:Qr):List IV:=[.int .i64 d.bar,.int .i64 d.smith]
@[simp] def XH (ds:List Qr) (e:Nat->Int) (pm:IV):List IV:=[Qtj (QfG ds e ds.length),.sl 2 ((ZY ds).map lkC),pm]
theorem W4 (p:Qr->Bool):∀ (l:List Qr) (i k:Nat),(l.filter p)[k]?=((Xo p l i)[k]?).bind fun j=>l[j-i]?
 | [],i,k=>by simp[Xo]
 | d::l,i,k=>by
   have ih:=W4 p l (i+1);have hge:∀ j∈Xo p l (i+1),i+1<=j:=fun j hj=>(W2 p l (i+1) j hj).1
   have sh:∀ k:Nat,((Xo p l (i+1))[k]?).bind (fun j=>l[j-(i+1)]?)=((Xo p l (i+1))[k]?).bind (fun j=>(d::l)[j-i]?):=fun k=>by
    cases hk:(Xo p l (i+1))[k]? with
    | none=>rfl
    | some j =>
      have:=hge j (QzB hk)
      grind
   by_cases hp:p d=true
   ·simp only[QAr hp,Xo,hp,if_true]
    grind
   ·simp only[QAs hp,Xo,hp]
    grind
theorem Jy (ds:List Qr):(ZY ds).length=(XZ ds).length:=by
 have:∀ (l:List Qr) (i:Nat),(l.filter Q3).length=(Xo Q3 l i).length:=by
  intro l
  induction l with
  | nil=>intro i;rfl
  | cons d l ih =>
    intro i;by_cases hp:Q3 d=true
    ·simp only[QAr hp,Xo,hp,if_true,Qzv,ih (i+1)]
    ·simp only[QAs hp,Xo,hp,ih (i+1)]
     simp
 exact this ds 0
theorem VX (ds:List Qr) (k:Nat) (h:k<(ZY ds).length):(ZY ds)[k]=Xz ds k:=by
 have h':k<(XZ ds).length:=by rw[<- Jy];exact h
 have h1:=W4 Q3 ds 0 k;have h2:(XZ ds)[k]<ds.length:=QaC (Qzr h');have e:(Xo Q3 ds 0)[k]?=some (XZ ds)[k]:=Qzk h';rw[e] at h1;simp only[Option.bind_some,Nat.sub_zero,Qzk h2] at h1;have h3:(ZY ds)[k]?=some ds[(XZ ds)[k]]:=h1;rw[Qzk h] at h3;injection h3 with h3
 rw[h3];simp[Xz,List.getD_eq_getElem?_getD,h',h2]
include hK
theorem Qn4 (ds:List Qr) (e:Nat->Int) (pm:IV) (s:YZ) (hc:OkD ds ds.length) (hl:ds.length<=1000) (hs:Zm s ds):Ev.Good Tryz.prog K 234 [.agg (XH ds e pm),.agg (sC s)] (.bool (Ve ds e s)):=by
 refine Qb hK Qps (by simp) ?_
 obtain ⟨s1,s2,s3,s4,s5⟩:=hs;simp only[inR] at s1 s2 s3;have hlt:s.after.toNat<ds.length+1:=by omega
 have hcl:=Xr e hc s.after.toNat (by omega) (by omega)
 have hcg:=VA ds e ds.length s.after.toNat (by omega)
 have hcb:=hc.cnt s.after.toNat (by omega) (by omega)
 have hclt:=Qaq ds e s.after.toNat;have hww:=UW ds s.after.toNat
 have hp:(if s.frm=1 then ((cab ds e s.after.toNat).length:Int)-1-s.pos else s.pos)=(plc s.pos s.frm (cab ds e s.after.toNat).length:Nat):=by
  unfold plc;split<;>omega
 have hpl:plc s.pos s.frm (cab ds e s.after.toNat).length<(cab ds e s.after.toNat).length:=Qb9 (by omega)
 simp[hlt,hcg]
 (repeat' first | omega | (with_reducible apply And.intro) | intro _)
 refine cK (QdJ hK s.pos s.frm (cab ds e s.after.toNat).length (by omega) (by omega)) ?_
 rw[hp];have hr:Ve ds e s=qY ds s (cab ds e s.after.toNat):=rfl;rw[hr];unfold qY;generalize plc s.pos s.frm (cab ds e s.after.toNat).length=at_ at *;generalize cab ds e s.after.toNat=now at *
 have h1:now[at_]<(ZY ds).length:=by
  have:=hclt now[at_] (Qzr hpl);rw[Jy];omega
 have hm:Xz ds (now.getD at_ 0)=(ZY ds)[now[at_]]:=by
  rw[VX ds _ h1]
  grind
 rw[hm];simp[hpl,h1]
 grind
theorem Qn7 (ds:List Qr) (e:Nat->Int) (pm:IV) (ss:List YZ) (hc:OkD ds ds.length) (hl:ds.length<=1000) (hs:∀ s∈ss,Zm s ds) (hsl:ss.length<=1000):Ev.Good Tryz.prog K 220 [.agg (XH ds e pm),Qy ss] (.int .i64 (QW ds ss e)):=by
 refine Qb hK Qpx (by simp) ?_
 simp;intro _;refine Qu (fun i=>[(2,AV.iv (.ptr (XH ds e pm))),(5,AV.iv (IV.int IntKind.i64 (QW ds (ss.take i) e:Nat))),(8,AV.iv (Qy ss)),(9,AV.iv (.int .i64 ss.length)),(10,AV.iv (IV.int IntKind.i64 (i:Nat)))]) (fun _=>[]) ss.length (fun i=>True) trivial ?_ ?_
 ·intro _
  rw[Qa Qee.eq_1];simp
 ·intro i hi _ ih
  have hle:=qL ds (ss.take i) e;simp at hle;rw[Qa Qee.eq_1];rw[Uh _ _ _ _ hi] at ih;simp[hi] at ih |-;have hg:=Qn4 hK ds e pm ss[i] hc hl (hs _ (Qzr hi));refine cK (by simpa using hg) ?_
  cases hr:Ve ds e ss[i]
  ·simp[hr] at ih |-
   grind
  ·simp[hr] at ih |-
   grind
theorem Qie (ds:List Qr) (e:Nat->Int) (pm:IV) (hl:ds.length<=1000):Ev.Good Tryz.prog K 158 [.agg (XH ds e pm)] (Yz (cab ds e ds.length)):=by
 refine Qb hK Qp7 (by simp) ?_
 have hcg:=VA ds e ds.length ds.length (by omega)
 simp[hcg];omega
theorem QdL (left all n:Int) (h : -1000000<=left/\left<=1000000):Ev.Good Tryz.prog K 193 [.int .i64 left,.int .i64 all,.ptr [.int .i64 n]] (.bool (decide (inR n 0 (left-1)))):=by
 refine Qb hK QpI (by simp) ?_
 simp
 (repeat' first | omega | (with_reducible apply And.intro) | intro _)
 exact cK (Xp hK _ _ _) (by simp)
theorem QdN (n:Int):Ev.Good Tryz.prog K 156 [.int .i64 n] (.clo 193 [] [.ptr [.int .i64 n]]):=by
 refine Qb hK Qp9 (by simp) ?_
 simp
theorem Qn8 (a b:Int):Ev.Good Tryz.prog K 217 [.int .i64 a,.int .i64 b] (.bool true):=by
 refine Qb hK QpA (by simp) ?_
 simp
theorem Qow (ds:List Qr) (e:Nat->Int) (pm:IV) (hl:ds.length<=1000) (n:Nat) (hn:n<(cab ds e ds.length).length):Ev.Good Tryz.prog K 157 [.agg (XH ds e pm),.ptr [.int .i64 n]] (.int .i64 ((cab ds e ds.length)[n]:Nat)):=by
 refine Qb hK Qp8 (by simp) ?_
 simp;have hg:=Qie hK ds e pm hl;refine cK (by simpa using hg) ?_
 simp[hn]
omit hK
def Z0 (d:Qr):Bool:=decide (d.frm=2)
def qq:List Nat->Nat->List (MK × IV)
 | [],_=>[]
 | j::t,r=>(.int .i64 (j:Nat),.int .i64 (r:Nat))::qq t (r+1)
theorem QfL (j:Nat):∀ (l:List Nat) (r:Nat),qq (l++[j]) r=qq l r++[(.int .i64 (j:Nat),.int .i64 ((r+l.length:Nat):Int))]
 | [],r=>by simp[qq]
 | a::l,r=>by
   have e:r+1+l.length=r+(l.length+1):=by omega
   simp only[QAB,qq,QfL j l (r+1),Qzv,e]
@[simp] theorem QfK:∀ (l:List Nat) (r:Nat),(qq l r).length=l.length
 | [],_=>rfl
 | _::l,r=>by simp[qq,QfK l (r+1)]
theorem Qat (j:Nat):∀ (l:List Nat) (r:Nat),j ∉ l->∀ y:IV,mins (.int .i64 (j:Nat)) y (qq l r)=qq l r++[(.int .i64 (j:Nat),y)]
 | [],_,_,y=>rfl
 | a::l,r,h,y=>by
   have h1:¬ a=j:=fun c=>h (by simp[c])
   have h2:=Qat j l (r+1) (fun c=>h (by simp[c])) y
   have h3:¬ (MK.int .i64 (a:Nat)=MK.int .i64 (j:Nat)):=by simp;omega
   simp only[qq,mins,h3,if_false,h2,QAB]
theorem QcU (j:Nat):∀ (l:List Nat) (r:Nat),j∈l->Qh (.int .i64 (j:Nat)) (qq l r)=some (.int .i64 ((r+l.idxOf j:Nat):Int))
 | a::l,r,h=>by
   by_cases h1:a=j
   ·subst h1;simp[qq,Qh]
   ·have h2:j∈l:=by
     grind
    have h3:¬ (MK.int .i64 (a:Nat)=MK.int .i64 (j:Nat)):=by simp;omega
    have e:r+1+l.idxOf j=r+(l.idxOf j+1):=by omega
    have hi:(a::l).idxOf j=l.idxOf j+1:=by
     grind
    simp only[qq,Qh,h3,if_false,QcU j l (r+1) h2,hi,e]
theorem Ue:∀ (l:List Nat) (r:Nat),QP (.int .i64) (qq l r)
 | [],_=>trivial
 | _::l,r=>⟨rfl,Ue l (r+1)⟩
def JF (ds:List Qr):List Nat:=Xo Z0 ds 0
theorem Qam (ds:List Qr):(JF ds).length=Z3 ds:=by
 have:∀ (l:List Qr) (i:Nat),(Xo Z0 l i).length=Z3 l:=by
  intro l
  induction l with
  | nil=>intro i;rfl
  | cons d l ih =>
    intro i;by_cases h:d.frm=2
    ·simp[Xo,Z0,h,ih,Z3,QAh]
    ·simp[Xo,Z0,h,ih,Z3,QAh]
 exact this ds 0
@[simp] def VE (c:Qj):List IV:=[QD c.deeds,Qy c.sights,.int .i64 c.wrong,.map (qq (JF c.deeds) 0)]
include hK
theorem Qh7 (c:Qj) (hl:c.deeds.length<=1000):Ev.Good Tryz.prog K 218 [chV c] (.agg (VE c)):=by
 refine Qb hK Qpz (by simp) ?_
 simp;intro _
 refine Qu (fun i=>[(2,AV.loc 2 0),(3,AV.loc 3 0),(10,AV.iv (QD c.deeds)),(11,AV.iv (.int .i64 c.deeds.length)),(12,AV.iv (IV.int IntKind.i64 (i:Nat)))])
  (fun i=>[(2,.box [.iv (.sl 5 []),.iv (.sl 5 []),.iv (.int .i64 0),.iv (.map [])]),(3,.box [.iv (QD c.deeds),.iv (Qy c.sights),.iv (.int .i64 c.wrong),.oref 7]),(7,.mapd (qq (Xo Z0 (c.deeds.take i) 0) 0))]) c.deeds.length (fun i=>True) trivial ?_ ?_
 ·intro _
  rw[Qa Qeg.eq_1];simp[JF]
 ·intro i hi _ ih
  rw[W0 _ _ _ hi] at ih;rw[Qa Qeg.eq_1]
  have hnm:i ∉ Xo Z0 (c.deeds.take i) 0:=fun h=>by
   have:=W2 Z0 (c.deeds.take i) 0 i h
   grind
  have hfr:=Qat i (Xo Z0 (c.deeds.take i) 0) 0 hnm;by_cases hw:c.deeds[i].frm=2
  ·rw[if_pos (by simp[Z0,hw]),QfL] at ih
   simp[hi,hw] at ih |-;rw[hfr];have hkd:=Ue (Xo Z0 (c.deeds.take i) 0) 0
   grind
  ·simp[hi,Z0,hw] at ih |-
   grind
end Go.Pf
namespace Go.Ev
open Go Go.RowKit
section
variable {P:Program} {K:World->Prop}
theorem qi {f:FuncId} {e:TypeId} {sz bytes:Nat}
  (hcl:∀ (b off n c:Nat) (news:List Value) (w:World),news.length=n*sz->n<=maxLen->n*bytes<=140737488355328->(∀ (j:Nat) (u:Value),news[j]?=some u->w.cell? ⟨b,off+j,none⟩=some u)->(∀ u∈news,u.oneCell'=true) ->
    Calls P f #[.slice (some ⟨b,off,none⟩) n c] w fun x w'=>∃ v',x=.returned v'/\w'.ownsRow w.heap.size e sz v' n news/\v'≠.slice none 0 0/\Below w.heap.size w w')
  (rows:List (List IV)) (hb:rows.length*bytes<=140737488355328) (hsz:∀ c∈rows,c.length=sz) (hne:rows≠[]):QcY P K f [.sl sz rows] (.aref 0 rows.length) e sz rows 0:=by
 intro w ok vs hk hnew hl hvs
 obtain ⟨v0,rfl⟩:∃ v0,vs=[v0]:=by
  match vs,hl with
  | [v],_=>exact ⟨v,rfl⟩
 have hrep:=hvs 0 _ v0 rfl rfl
 have fin:∀ (v':Value) (w':World) (news:List Value),w'.ownsRow w.heap.size e sz v' rows.length news->Below w.heap.size w w'->(∀ u∈news,u.oneCell'=true) ->
   (∀ (i j:Nat) (c:List IV) (x:IV) (u:Value),rows[i]?=some c->c[j]?=some x->news[i*sz+j]?=some u->Qv ok w x u) ->
   ∃ v l,Ending.returned v'=.returned v/\Qt (fun b=>b<w.heap.size) (okL ok (one (XX e sz rows 0)) (fun _=>l)) w' (one (XX e sz rows 0)) (fun _=>l) (XX e sz rows 0) l /\
    Qs (okL ok (one (XX e sz rows 0)) (fun _=>l)) w' (one (XX e sz rows 0)) (fun _=>l) (ren 0 (.aref 0 rows.length)) v/\Below w.heap.size w w':=by
  intro v' w' news hown hbel hone hcx;have hsl:=Jg hown;have hge:∀ b,v'.ownBlock=some b->w.heap.size<=b:=fun b h=>(hown.lt b h).1
  have hown0:w'.ownsRow 0 e sz v' rows.length news:=by
   obtain ⟨h1,h2⟩:=hown;refine ⟨h1,?_⟩
   grind
  refine ⟨v',.arr v' news,rfl,⟨⟨by grind,fun b h1 h2=>by grind⟩,QAu _,fun c hc=>?_,hone,fun i j c x u hi hj hu=>?_⟩,?_,hbel⟩
  ·grind
  ·rw[Qzu,Qzo] at hi
   obtain ⟨d,hd,rfl⟩:=hi;rw[Qzu,Qzo] at hj;obtain ⟨y,hy,rfl⟩:=hj;refine .iv _ _ ((hcx i j d y u hd hy hu).mono fun b hb hlt=>⟨⟨hb,fun id o _ hh=>?_⟩,hbel.block b hlt⟩)
   grind
  ·have:=Qs.aref (ok:=okL ok (one (XX e sz rows 0)) (fun _=>.arr v' news)) (w:=w') (lo:=one (XX e sz rows 0)) (L:=fun _=>.arr v' news) 0 e sz (rows.map (List.map AV.iv)) 0 v' news (by simp[one,XX]) rfl hsl
   rw[Qzw] at this;exact this
 cases hrep with
 | sl _ _ b off cap u hlc hc hs hu hx =>
   refine (hcl b off rows.length cap ((List.range (rows.length*sz)).map u) w (by simp) (by omega) hb (fun j v hj=>?_) (fun v hv=>?_)).mono fun x w' ⟨v',hx',hown,_,hbel⟩=>?_
   all_goals grind
 | _=>grind
end
end Go.Ev
namespace Go.Pf
open Go Go.Ev Go.Proofs Go.RowKit Go.Shelf
set_option maxRecDepth 8000
noncomputable def Qwa:TypeInfo:=(Tryz.prog.info? 158).get (by kernel_rfl)
noncomputable def Qsd:TypeInfo:=(Tryz.prog.info? 82).get (by kernel_rfl)
noncomputable def QwM:Value:=Qsd.zero.get (by kernel_rfl)
section
variable {K:World->Prop}
theorem clone186 (l:List Qr) (hl:l.length<=1000) (hne:l≠[]):QcY Tryz.prog K 186 [QD l] (.aref 0 l.length) 158 5 (l.map dC) 0:=by
 have h:=qi (P:=Tryz.prog) (K:=K) (f:=186) (e:=158) (sz:=5) (bytes:=40) (AnyE.slices_Clone Tryz.clone186 Qwa (.agg #[.int .i64 0,.int .i64 0,.int .i64 0,.int .i64 0,.int .i64 0]) 5 40 (by kernel_rfl) (by kernel_rfl) (by kernel_rfl) (by kernel_rfl) rfl (by decide) Tryz.sizeOf158) (l.map dC) (by simp;omega) (by simp) (by simpa using hne)
 simpa using h
end
end Go.Pf
namespace Go.Pf
open Go Go.Ev Go.Proofs Go.RowKit
variable {K:World->Prop} (hK:∀ w w',K w->Below w.heap.size w w'->K w')
set_option maxRecDepth 8000
def Zw (ds:List Qr) (n:Nat) (i:Nat):Int:=match ds[i]? with
 | some d=>if d.frm=2 then ((n.testBit ((JF ds).idxOf i)).toNat:Int) else d.frm
 | none=>0
theorem Qfy (ds:List Qr) (n i:Nat) (h:i<ds.length):Zw ds n i=if ds[i].frm=2 then ((n.testBit ((JF ds).idxOf i)).toNat:Int) else ds[i].frm:=by
 simp[Zw,h]
theorem QiS (ds:List Qr) (i:Nat) (h:i<ds.length) (h2:ds[i].frm=2):i∈JF ds:=by
 have:∀ (l:List Qr) (k i:Nat) (h:i<l.length),l[i].frm=2->k+i∈Xo Z0 l k:=by
  intro l
  induction l with
  | cons d l ih =>
    intro k i h h2;cases i with
    | zero =>
      have h3:d.frm=2:=h2;simp[Xo,Z0,h3]
    | succ i =>
      have:=ih (k+1) i (by simpa using h) (by simpa using h2)
      have e:k+1+i=k+(i+1):=by omega
      rw[e] at this;simp only[Xo]
      grind
  | _=>grind
 simpa[JF] using this ds 0 i h h2
include hK
theorem Qn5 (c:Qj) (n i:Nat) (hn:n<2 ^ 63) (hi:i<c.deeds.length) (h2:c.deeds[i].frm=2):Ev.Good Tryz.prog K 233 [.int .i64 i,.ptr [.int .i64 n],.ptr (VE c)] (.int .i64 (Zw c.deeds n i)):=by
 refine Qb hK Qpt (by simp) ?_
 have hf:=QcU i (JF c.deeds) 0 (QiS c.deeds i hi h2);have hkk:=Ue (JF c.deeds) 0;rw[Qfy _ _ _ hi,if_pos h2];simp only[Qzx] at hf;simp[hkk,hf];exact QqY n _ hn
omit hK
def Xd (ds:List Qr) (pm:Nat->IV) (n:Nat):List IV:=[.agg (XH ds (Zw ds n) (pm n))]
theorem Qnx {n:Nat} (h:n<=12):QmC IntKind.i64 1 (n:Int)=((2 ^ n:Nat):Int):=by
 have:n=0\/n=1\/n=2\/n=3\/n=4\/n=5\/n=6\/n=7\/n=8\/n=9\/n=10\/n=11\/n=12:=by omega
 rcases this with rfl | rfl | rfl | rfl | rfl | rfl | rfl | rfl | rfl | rfl | rfl | rfl | rfl<;>decide
include hK
theorem QnQ (c:Qj) (pm:Nat->IV) (ht:Z3 c.deeds<=12) (h201:∀ n:Nat,n<2 ^ Z3 c.deeds->Ev.Good Tryz.prog K 232 [QD c.deeds,.clo 233 [] [.ptr [.int .i64 n],.ptr (VE c)]] (.agg (XH c.deeds (Zw c.deeds n) (pm n)))) :
  Qbz Tryz.prog K 219 [.agg (VE c)] [] ((List.range (2 ^ Z3 c.deeds)).map (Xd c.deeds pm)):=by
 intro s b s' hf;have hp:=X7 ht;refine Q5 Qpy (by simp) hf.v rfl ?_
 have hlen:(qq (JF c.deeds) 0).length=Z3 c.deeds:=by rw[QfK,Qam]
 simp[Qam,Qnx ht];have hN:0<2 ^ Z3 c.deeds:=Nat.pos_of_ne_zero (by simp)
 have hcast:((2:Int) ^ Z3 c.deeds)=((2 ^ Z3 c.deeds:Nat):Int):=by push_cast;rfl
 rw[hcast];generalize 2 ^ Z3 c.deeds=N at *
 refine UA N (fun i e o=>∃ si,e=[(1,AV.cb 0),(2,AV.iv (.ptr (VE c))),(8,AV.iv (.int .i64 (N:Nat))),(9,AV.iv (.int .i64 (i:Nat)))]/\o=[(0,.ext si)] /\
  Zz Tryz.prog K (((List.range N).drop i).map (Xd c.deeds pm)) si b s') ?_ ?_ _ _ ⟨s,rfl,rfl,by simpa using hf⟩
 ·rintro e o ⟨si,rfl,rfl,hfd⟩
  rw[QAI (by simp)] at hfd
  cases hfd;rw[Qa Qef.eq_1];simp
 ·rintro i e o hi ⟨si,rfl,rfl,hfd⟩ ih
  rw[QAm (by simpa using hi)] at hfd
  simp only[List.getElem_range,QzH] at hfd;have hg:=h201 i hi;rw[Qa Qef.eq_1];simp[hi];refine Qus _ _ _ _ _ _ _ _ ?_;simp;refine cK (by simpa using hg) ?_
  have hst:Xd c.deeds pm i=[.agg (XH c.deeds (Zw c.deeds i) (pm i))]:=rfl;rw[hst] at hfd;simp;cases hfd with
  | stop _ _ _ _ hg =>
    refine ZI (by simpa using hg) rfl ?_
    simp
  | next _ _ _ s1 _ _ hg hr =>
    refine ZI (by simpa using hg) rfl ?_
    simp
    (repeat' first | omega | (with_reducible apply And.intro) | intro _)
    exact ih _ _ ⟨s1,by simp,rfl,hr⟩
omit hK
section
variable {K:World->Prop}
def Qx (c:Qj):List Nat:=(List.range (2 ^ Z3 c.deeds)).filter fun n=>decide ((QW c.deeds c.sights (Zw c.deeds n):Int)<=c.wrong)
theorem Wx (hK:∀ w w',K w->Below w.heap.size w w'->K w') {c:Qj} (hc:OkC c) {pm:Nat->IV} {ks:Env} (hks:Q1 [2,3] [0,3] ks=[(2,.iv (.ptr (VE c))),(3,.loc 3 0)]) :
  ∀ (Ls:List Nat) (s:Ext) (b:Bool) (s':Ext),Zz Tryz.prog K ((Ls.filter fun n=>decide ((QW c.deeds c.sights (Zw c.deeds n):Int)<=c.wrong)).map (Xd c.deeds pm)) s b s' ->
   ∃ wy,(wy=.fall\/wy=.ret)/\UF Tryz.prog K [7] VC qo [2,3] [0,3] (Q1 [2,3] [0,3] ks) (Ls.map (Xd c.deeds pm)) [(0,.ext s),(3,.box [.cb 0])] wy [(0,.ext s'),(3,.box [.cb 0])]
 | [],s,b,s',h=>by
   cases h;exact ⟨.fall,.inl rfl,.nil _⟩
 | t::Ls,s,b,s',h=>by
   have hl:=hc.len;have hsl:=hc.slen;have hw:=Qn7 hK c.deeds (Zw c.deeds t) (pm t) c.sights hc.deeds (by omega) hc.sights (by omega)
   by_cases ht:(QW c.deeds c.sights (Zw c.deeds t):Int)<=c.wrong
   ·rw[QAr (by simpa using ht)] at h
    cases h with
    | stop _ _ _ _ hg =>
      refine ⟨.ret,.inr rfl,.stop _ _ _ _ _ (by simp) ?_⟩
      rw[hks];refine ⟨rfl,?_⟩;simp[Xd,VC,qo];refine cK (by simpa using hw) ?_
      simp[ht];refine ZI (by simpa[Xd] using hg) rfl ?_
      simp
    | next _ _ _ s1 _ _ hg hr =>
      obtain ⟨wy,h1,h2⟩:=Wx hK hc hks Ls s1 b s' hr;refine ⟨wy,h1,.next _ _ _ _ _ _ ?_ h2⟩;rw[hks];refine ⟨rfl,?_⟩;simp[Xd,VC,qo];refine cK (by simpa using hw) ?_
      simp[ht];refine ZI (by simpa[Xd] using hg) rfl ?_
      simp
   ·rw[QAs (by simpa using ht)] at h
    obtain ⟨wy,h1,h2⟩:=Wx hK hc hks Ls s b s' h;refine ⟨wy,h1,.next _ _ _ _ _ _ ?_ h2⟩;rw[hks];refine ⟨rfl,?_⟩;simp[Xd,VC,qo];refine cK (by simpa using hw) ?_
    simp[ht]
end
def QcW (K:World->Prop) (c:Qj) (pm:Nat->IV):Prop:=∀ n:Nat,n<2 ^ Z3 c.deeds->Ev.Good Tryz.prog K 232 [QD c.deeds,.clo 233 [] [.ptr [.int .i64 n],.ptr (VE c)]] (.agg (XH c.deeds (Zw c.deeds n) (pm n)))
theorem Wg (ds:List Qr):Z3 ds<=ds.length:=QAC
include hK
theorem V0 (c:Qj) (hc:OkC c) (pm:Nat->IV) (ht:QcW K c pm):Qbz Tryz.prog K 190 [.agg (VE c)] [] ((Qx c).map (Xd c.deeds pm)):=by
 intro s b s' hfd;have h12:=hc.len;have htw:=Wg c.deeds;refine Q5 QpK (by simp) hfd.v rfl ?_
 obtain ⟨wy,h1,h2⟩:=Wx (pm:=pm) hK hc (ks:=[(2,.iv (.ptr (VE c))),(3,.loc 3 0)]) rfl (List.range (2 ^ Z3 c.deeds)) s b s' hfd;simp;refine Za (wy:=wy) (o':=[(0,.ext s'),(3,.box [.cb 0])]) rfl (by kernel_rfl) (QnQ hK c pm (by omega) ht) (by simpa using h2) ?_
 rcases h1 with rfl | rfl<;>simp
noncomputable def YF (c:Qj) (is:Bool):Int:=if OkC c then (if is=true then (if Qx c=[] then 3 else 0) else 1) else 20
theorem Qof (c:Qj) (pm:Nat->IV) (ht:OkC c->QcW K c pm) (g:FuncId) (fs cs:List IV) (is:Bool) (hg:OkC c->Ev.Good Tryz.prog K g (fs++[.int .i64 (Qn c.deeds),.int .i64 (qy c.deeds)]++cs) (.bool is)) (hcg:callee Tryz.prog g=true) (hl:c.deeds.length<=1000) (hs:c.sights.length<=1000) :
  Ev.Good Tryz.prog K 189 [chV c,.clo g fs cs] (.tup [if OkC c/\is=true then .agg (VE c) else .agg [.sl 5 [],.sl 5 [],.int .i64 0,.map []],.int .i64 (YF c is)]):=by
 refine Qb hK QjP (by simp) ?_
 simp;refine cK (Qa9 hK c hl hs) ?_;by_cases h1:OkC c
 ·simp[h1]
  refine cK (QdO hK c hl) ?_;simp;refine ⟨hcg,cK (by simpa using hg h1) ?_⟩
  cases is
  ·simp[YF,h1]
  ·simp
   refine cK (by simpa using Qh7 hK c hl) ?_
   simp;cases hR:Qx c with
   | nil =>
     refine Za (wy:=.fall) (o':=[(4,.box [.iv (.sl 5 []),.iv (.sl 5 []),.iv (.int .i64 0),.iv (.map [])]),(5,.box [.iv (.int .i64 0)]),(7,.box [.iv (QD c.deeds),.iv (Qy c.sights),.iv (.int .i64 c.wrong),.iv (.map (qq (JF c.deeds) 0))])]) rfl (by kernel_rfl) (V0 hK c h1 pm (ht h1)) (by rw[hR];simpa using UF.nil _) ?_
     simp[YF,h1,hR]
   | cons a r =>
     refine Za (wy:=.ret) (o':=[(4,.box [.iv (QD c.deeds),.iv (Qy c.sights),.iv (.int .i64 c.wrong),.iv (.map (qq (JF c.deeds) 0))]),(5,.box [.iv (.int .i64 0)]),(7,.box [.iv (QD c.deeds),.iv (Qy c.sights),.iv (.int .i64 c.wrong),.iv (.map (qq (JF c.deeds) 0))])]) rfl (by kernel_rfl) (V0 hK c h1 pm (ht h1)) (by
      rw[hR];refine .stop _ _ _ _ _ (by simp) ?_
      refine ⟨rfl,?_⟩;simp[Xd,Qbq,Qei]) ?_
     simp[YF,h1,hR]
 ·simp[h1,YF]
theorem QkY (c:Qj) (pm:Nat->IV) (ht:OkC c->QcW K c pm) (g:FuncId) (is:Bool) (hg:OkC c->Ev.Good Tryz.prog K g [.int .i64 (Qn c.deeds),.int .i64 (qy c.deeds)] (.bool is)) (hcg:callee Tryz.prog g=true) (hl:c.deeds.length<=1000) (hs:c.sights.length<=1000) :
  Ev.Good Tryz.prog K 189 [chV c,.fn g] (.tup [if OkC c/\is=true then .agg (VE c) else .agg [.sl 5 [],.sl 5 [],.int .i64 0,.map []],.int .i64 (YF c is)]):=by
 refine Qb hK QjP (by simp) ?_
 simp;refine cK (Qa9 hK c hl hs) ?_;by_cases h1:OkC c
 ·simp[h1]
  refine cK (QdO hK c hl) ?_;simp;refine ⟨hcg,cK (by simpa using hg h1) ?_⟩
  cases is
  ·simp[YF,h1]
  ·simp
   refine cK (by simpa using Qh7 hK c hl) ?_
   simp;cases hR:Qx c with
   | nil =>
     refine Za (wy:=.fall) (o':=[(4,.box [.iv (.sl 5 []),.iv (.sl 5 []),.iv (.int .i64 0),.iv (.map [])]),(5,.box [.iv (.int .i64 0)]),(7,.box [.iv (QD c.deeds),.iv (Qy c.sights),.iv (.int .i64 c.wrong),.iv (.map (qq (JF c.deeds) 0))])]) rfl (by kernel_rfl) (V0 hK c h1 pm (ht h1)) (by rw[hR];simpa using UF.nil _) ?_
     simp[YF,h1,hR]
   | cons a r =>
     refine Za (wy:=.ret) (o':=[(4,.box [.iv (QD c.deeds),.iv (Qy c.sights),.iv (.int .i64 c.wrong),.iv (.map (qq (JF c.deeds) 0))]),(5,.box [.iv (.int .i64 0)]),(7,.box [.iv (QD c.deeds),.iv (Qy c.sights),.iv (.int .i64 c.wrong),.iv (.map (qq (JF c.deeds) 0))])]) rfl (by kernel_rfl) (V0 hK c h1 pm (ht h1)) (by
      rw[hR];refine .stop _ _ _ _ _ (by simp) ?_
      refine ⟨rfl,?_⟩;simp[Xd,Qbq,Qei]) ?_
     simp[YF,h1,hR]
 ·simp[h1,YF]
theorem Qoh (c:Qj) (pm:Nat->IV) (ht:OkC c->QcW K c pm) (hl:c.deeds.length<=1000) (hs:c.sights.length<=1000):Ev.Good Tryz.prog K 187 [chV c] (.tup [.int .i64 (if YF c true=0 then (Qx c).length else 0),.int .i64 (YF c true)]):=by
 refine Qb hK QpM (by simp) ?_
 simp;refine cK (QkY hK c pm ht 217 true (fun _=>Qn8 hK _ _) (by kernel_rfl) hl hs) ?_
 by_cases he:YF c true=0
 ·have h1:OkC c:=by
   unfold YF at he
   grind
  have hlen:(Qx c).length<=4096:=by
   have h1':=QzQ (fun n=>decide ((QW c.deeds c.sights (Zw c.deeds n):Int)<=c.wrong)) (List.range (2 ^ Z3 c.deeds))
   have h2':=X7 (n:=Z3 c.deeds) (by have:=Wg c.deeds;have:=h1.len;omega)
   simp at h1';unfold Qx;omega
  simp[he,h1];refine Za (wy:=.fall) (o':=[(6,.box [.iv (.int .i64 ((Qx c).length:Nat))])]) rfl (by kernel_rfl) (V0 hK c h1 pm (ht h1)) ?_ ?_
  ·have:=UF.all (P:=Tryz.prog) (K:=K) (ps:=[17]) (asn:=Qbr) (body:=Qej) (ks:=[6]) (ids:=[6]) (eK:=[(6,.loc 6 0)]) ((Qx c).map (Xd c.deeds pm)) (fun i=>[(6,.box [.iv (.int .i64 (i:Int))])]) fun i x hi=>by
    simp only[Qzu,Qzo] at hi;obtain ⟨y,hy,rfl⟩:=hi;have hlt:=(Qzl.1 hy).1;refine ⟨rfl,?_⟩;simp[Xd,Qbr,Qej];omega
   simpa using this
  ·simp
 ·by_cases h1:OkC c<;>simp[he,h1]
omit hK
def Qis (m:Machine) (n:Int):Machine:={ m with llo:=n,lhi:=n }
noncomputable def Qr1 (m:Machine) (k:Nat):List Machine:=if tE (Qis m (m.llo+k)) true=0 then [Qis m (m.llo+k)] else []
def QyR (m:Machine):List IV:=[maV m]
include hK
end Go.Pf
namespace Go.Ev
open Go Go.RowKit Go.Sort
section
variable {P:Program} {K:World->Prop}
@[reducible] def Q0 (zs:List Int) (mv:Nat):AO:=.arr 3 1 (zs.map fun z=>[AV.iv (.int .i64 z)]) mv
@[reducible] def QgN (zs:List Int):IV:=.sl 1 (zs.map fun z=>[IV.int .i64 z])
theorem WU {w:World} {g:Nat} {f:Array Value->Array Value} {c:Array Value} {e:TypeId} {fr:Nat × Nat} (h:w.heap[g]?=some (.cells c e fr)):(mapBlock w g f).heap[g]?=some (.cells (f c) e fr):=by
 simp only[mapBlock,QAJ,if_true,h,QAt,onCells]
theorem Qdu {w:World} {g k:Nat} {f:Array Value->Array Value} (h:k≠g):(mapBlock w g f).heap[k]?=w.heap[k]?:=by
 simp only[mapBlock,QAJ,if_neg (Ne.symm h)]
theorem QaZ {w:World} {g:Nat} {f:Array Value->Array Value}:(mapBlock w g f).heap.size=w.heap.size:=by
 simp only[mapBlock,Array.size_modify]
theorem ZX {Fr:Nat->Prop} {w:World} {g:Nat} {f:Array Value->Array Value} (h:¬ Fr g):QL Fr w (mapBlock w g f) :=
 ⟨rfl,rfl,rfl,by rw[QaZ];omega,fun k hk=>Qdu fun e=>h (e▸hk)⟩
theorem Zt {Fr:Nat->Prop} {g:Nat} (h:¬ Fr g):∀ (vs:List Value) (o:Nat) (w:World),QL Fr w (w.setCells g o vs)
 | [],_,w=>QL.refl _ _
 | v::r,o,w=>by
   rw[World.setCells];have h1:QL Fr w (w.setCell ⟨g,o,none⟩ v):=by rw[setCell_eq];exact ZX h
   have h2:=Zt h r (o+1) (w.setCell ⟨g,o,none⟩ v);exact ⟨h2.os.trans h1.os,h2.tape.trans h1.tape,h2.output.trans h1.output,QzT h1.size h2.size,fun k hk=>(h2.block k hk).trans (h1.block k hk)⟩
theorem Qaw (w:World) (o:Obj):QL (fun b=>b<w.heap.size) w (w.alloc o) :=
 ⟨rfl,rfl,rfl,by show _<=(w.heap.push o).size;grind,fun k hk=>by
  show (w.heap.push o)[k]?=_
  grind⟩
structure qJ (w:World) (v:Value) (zs:List Int) (g cap:Nat) (cur:Array Value):Prop where
 v:v=.slice (some ⟨g,0,none⟩) zs.length cap
 at_:w.heap[g]?=some (.cells cur 3 (0,0))
 le:zs.length<=cap
 max:cap<=maxLen
 size:cur.size=cap
 take:cur.toList.take zs.length=zs.map (.int .i64)
theorem qJ.cell {w:World} {v:Value} {zs:List Int} {g cap:Nat} {cur:Array Value} (h:qJ w v zs g cap cur) (j:Nat):w.cell? ⟨g,j,none⟩=cur[j]?:=by
 simp[World.cell?,h.at_]
theorem qJ.frozen {w:World} {v:Value} {zs:List Int} {g cap:Nat} {cur:Array Value} (h:qJ w v zs g cap cur) (j:Nat):w.frozen? ⟨g,j,none⟩=false:=by
 simp[World.frozen?,h.at_]
theorem qJ.get {w:World} {v:Value} {zs:List Int} {g cap:Nat} {cur:Array Value} (h:qJ w v zs g cap cur) (j:Nat) (hj:j<zs.length):cur[j]?=some (.int .i64 zs[j]):=by
 have h1:(cur.toList.take zs.length)[j]?=some (.int .i64 zs[j]):=by rw[h.take];simp[hj]
 grind
theorem qJ.holds {w:World} {v:Value} {zs:List Int} {g cap:Nat} {cur:Array Value} (h:qJ w v zs g cap cur):Holds (Value.int .i64) w g 0 zs.toArray:=by
 intro j hj;have hj':j<zs.length:=by simpa using hj
 refine ⟨?_,by rw[Qzx];exact h.frozen j⟩
 rw[Qzx,h.cell,h.get j hj',getElem!_pos _ j hj];simp
theorem qX {Fr ok:Nat->Prop} {w:World} {lo:Nat->Option AO} {L:Nat->Lay} {zs:List Int} {mv:Nat} {l:Lay} (h:Qt Fr ok w lo L (Q0 zs mv) l) :
  ∃ v xs,l=.arr v xs/\((v=.slice none 0 0/\zs=[])\/∃ g cap cur,qJ w v zs g cap cur/\¬ Fr g):=by
 cases l with
 | arr v xs =>
   obtain ⟨⟨⟨h1,h2⟩,h3⟩,h4,h5,h6,h7⟩:=h;refine ⟨v,xs,rfl,?_⟩;simp only[Qzw] at h1 h2;rcases h2 with ⟨h2,h8⟩ | ⟨g,cap,cur,h8,h9,h10,h11,h12,h13,h14⟩
   ·grind
   ·refine .inr ⟨g,cap,cur,⟨h8,h10,h11,h12,by omega,?_⟩,h3 g (by simp[h8,Value.ownBlock])⟩
    rw[QAp] at h14;rw[h14];refine QAF fun i=>?_
    by_cases hi:i<zs.length
    ·have hx:i<xs.length:=by omega
     rw[Qzk hx];have:=h7 i 0 [AV.iv (.int .i64 zs[i])] (.iv (.int .i64 zs[i])) xs[i] (by simp[hi]) (by simp) (by simp[hx])
     cases this with
     | iv _ _ r =>
       generalize hz:xs[i]=z at r;cases r;simp[hi,hz]
    grind
 | _=>exact absurd h (by simp[Qt])
theorem Qav {ok:Nat->Prop} {w:World} {lo:Nat->Option AO} {L:Nat->Lay} {zs:List Int} {mv id n:Nat} {v u:Value} {xs:List Value} (hid:lo id=some (Q0 zs mv)) (hL:L id=.arr v xs) (hn:n=zs.length) (h:Qs ok w lo L (.aref id n) u):u=v:=by
 grind
theorem Vf {ok:Nat->Prop} {w:World} (zs:List Int) (b cap:Nat) (hcap:zs.length<=cap) (hmax:cap<=maxLen) (hb:ok b) (hc:∀ j z,zs[j]?=some z->w.cell? ⟨b,j,none⟩=some (.int .i64 z)) :
  Qv ok w (QgN zs) (.slice (some ⟨b,0,none⟩) zs.length cap):=by
 have h:=Qv.sl (ok:=ok) (w:=w) 1 (zs.map fun z=>[IV.int .i64 z]) b 0 cap (fun k=>.int .i64 (zs.getD k 0)) (by simpa using hcap) hmax (by simp) (fun k hk=>?_) (fun i j c x hi hj=>?_)
 ·simpa using h
 ·simp only[Qzw,QAp] at hk
  refine ⟨hb,?_,rfl⟩
  grind
 ·rw[Qzu,Qzo] at hi
  obtain ⟨z,hz,rfl⟩:=hi;cases j with
  | zero =>
    simp at hj;subst hj;rw[QAp,QAe,List.getD_eq_getElem?_getD,hz];exact .int _ _
  | succ j=>simp at hj
theorem Vj {Fr ok:Nat->Prop} {w:World} {L:Nat->Lay}:QgQ Fr ok w (Qc []) L:=⟨by simp[Qc],by simp[Qc]⟩
theorem QaQ {f:FuncId}
  (he:∀ (a:Option Addr) (cap:Nat) (w:World),Calls P f #[.slice a 0 cap] w fun e w'=>e=.returned (.tuple #[])/\w'=w)
  (hr:∀ (blk off cap:Nat) (zs:List Int) (w:World),Holds (Value.int .i64) w blk off zs.toArray->zs.length<=9223372036854775807 ->
    Calls P f #[.slice (some ⟨blk,off,none⟩) zs.length cap] w fun e w'=>e=.returned (.tuple #[])/\∃ n,w'=putRow (Value.int .i64) (Sort.ahead w n) blk off zs.reverse.toArray)
  (zs:List Int) (mv:Nat):ZG P K f [.aref 0 zs.length] [(0,Q0 zs mv)] [0] (.iv (.tup [])) [(0,Q0 zs.reverse zs.length)]:=by
 intro w ok L vs hK hnew hown hlaid hvl hvs
 obtain ⟨v0,rfl⟩:∃ v0,vs=[v0]:=by
  match vs,hvl with
  | [v],_=>exact ⟨v,rfl⟩
 have hob:=hlaid.objs 0 (Q0 zs mv) rfl;obtain ⟨v,xs,hL,hrow⟩:=qX hob;have hv:v0=v:=Qav (id:=0) (zs:=zs) (mv:=mv) rfl hL rfl (hvs 0 _ v0 rfl rfl);subst hv
 have fin:∀ (w':World) (xs':List Value),QL (FrO w (Qc [(0,Q0 zs mv)]) L) w w'->Xm (FrO w (Qc [(0,Q0 zs mv)]) L) w' 3 1 v0 zs.length xs'->xs'=zs.reverse.map (.int .i64) ->
   ∃ v1 L',(Ending.returned (.tuple #[]):Ending)=.returned v1/\QgQ (FrO w (Qc [(0,Q0 zs mv)]) L) ok w' (Qc [(0,Q0 zs.reverse zs.length)]) L'/\Qs (okL ok (Qc [(0,Q0 zs.reverse zs.length)]) L') w' (Qc [(0,Q0 zs.reverse zs.length)]) L' (.iv (.tup [])) v1/\QL (FrO w (Qc [(0,Q0 zs mv)]) L) w w' /\
    ∀ i∈[0],∀ o,Qc [(0,Q0 zs mv)] i=some o->∃ o',Qc [(0,Q0 zs.reverse zs.length)] i=some o'/\Yn o o' (L i) (L' i):=by
  intro w' xs' hk ho hx;refine ⟨.tuple #[],fun _=>.arr v0 xs',rfl,⟨fun id o hid=>?_,fun i j oi oj b hij hi hj=>?_⟩,.iv _ _ (.tup [] [] rfl (by simp)),hk,fun i hi o h=>?_⟩
  ·simp only[Qc] at hid
   split at hid
   ·injection hid with hid
    subst hid;refine ⟨by simpa using ho,by simp,by simp,fun u hu=>?_,fun i j c x u hi hj hu=>?_⟩
    ·rw[hx] at hu
     obtain ⟨z,_,rfl⟩:=QzI.1 hu;rfl
    ·rw[Qzu,Qzo] at hi
     obtain ⟨z,hz,rfl⟩:=hi;cases j with
     | zero =>
       simp at hj;subst hj;rw[hx,QAp,QAe,Qzu,hz] at hu;simp at hu;subst hu;exact .iv _ _ (.int _ _)
     | succ j=>simp at hj
   ·cases hid
  ·simp only[Qc] at hi hj
   grind
  ·simp at hi
   subst hi;simp only[Qc,if_true] at h;injection h with h
   subst h;refine ⟨Q0 zs.reverse zs.length,by simp[Qc],?_⟩
   rw[hL];simp[Yn]
 rcases hrow with ⟨rfl,rfl⟩ | ⟨g,cap,cur,hr1,hfr⟩
 ·refine (he none 0 w).mono fun e w' ⟨h1,h2⟩=>?_
  subst h1 h2;exact fin w' [] (QL.refl _ _) ⟨⟨by simp,.inl ⟨rfl,rfl⟩⟩,by simp[Value.ownBlock]⟩ (by simp)
 ·have hv:=hr1.v
  subst hv;refine (hr g 0 cap zs w hr1.holds (by have:=hr1.max;have:=hr1.le;unfold maxLen at *;omega)).mono fun e w' ⟨h1,n,h2⟩=>?_
  subst h1
  have hk:QL (FrO w (Qc [(0,Q0 zs mv)]) L) w w':=by
   have h3:QL (FrO w (Qc [(0,Q0 zs mv)]) L) (Sort.ahead w n) w':=by rw[h2];exact ZX hfr
   exact ⟨h3.os,h3.tape,h3.output,h3.size,h3.block⟩
  have hh:w'.heap[g]?=some (.cells (putCells (Value.int .i64) 0 zs.reverse.toArray cur) 3 (0,0)):=by
   rw[h2];exact WU (w:=Sort.ahead w n) hr1.at_
  refine fin w' _ hk ⟨⟨?_,.inr ⟨g,cap,_,rfl,QAu _,hh,hr1.le,hr1.max,?_,rfl⟩⟩,fun b hb=>?_⟩ ?_
  ·simp[putCells,hr1.size,hr1.le]
  ·simp[putCells,hr1.size]
  ·simp[Value.ownBlock] at hb
   grind
  ·refine QAF fun i=>?_
   rw[QzR];by_cases hi:i<zs.length
   ·have h1:=hr1.size
    have h2:=hr1.le;have h3:i<cur.size:=by omega
    rw[QAp,if_pos hi];simp only[putCells,Array.getElem?_toList,Array.getElem?_mapIdx,QzF h3,QAt,Qzu]
    grind
   grind
theorem QcM {f:FuncId}
  (hd:∀ (blk off cap i j:Nat) (d:Array Int) (w:World),Holds (Value.int .i64) w blk off d->d.size<=cap->cap<=9223372036854775807->i<=j->j<=d.size ->
    Calls P f #[.slice (some ⟨blk,off,none⟩) d.size cap,.int .i64 i,.int .i64 j] w fun e w'=>e=.returned (.slice (some ⟨blk,off,none⟩) (d.size-(j-i)) cap)/\∃ q,w'=putRow (Value.int .i64) (Sort.ahead w q) blk off (d.toList.take i++d.toList.drop j++List.replicate (j-i) 0).toArray)
  (zs:List Int) (mv:Nat) (i:Nat) (hi:i<zs.length):ZG P K f [.aref 0 zs.length,.iv (.int .i64 (i:Nat)),.iv (.int .i64 ((i+1:Nat):Int))] [(0,Q0 zs mv)] [] (.iv (QgN (zs.eraseIdx i))) []:=by
 intro w ok L vs hK hnew hown hlaid hvl hvs
 obtain ⟨v0,v1,v2,rfl⟩:∃ v0 v1 v2,vs=[v0,v1,v2]:=by
  match vs,hvl with
  | [v,u,z],_=>grind
 have hob:=hlaid.objs 0 (Q0 zs mv) rfl;obtain ⟨v,xs,hL,hrow⟩:=qX hob;have hv:v0=v:=Qav (id:=0) (zs:=zs) (mv:=mv) rfl hL rfl (hvs 0 _ v0 rfl rfl);subst hv
 have e1:v1=.int .i64 (i:Nat):=by
  have:=hvs 1 _ v1 rfl rfl;cases this with
  | iv _ _ r=>cases r;rfl
 have e2:v2=.int .i64 ((i+1:Nat):Int):=by
  have:=hvs 2 _ v2 rfl rfl;cases this with
  | iv _ _ r=>cases r;rfl
 subst e1 e2;rcases hrow with ⟨rfl,rfl⟩ | ⟨g,cap,cur,hr1,hfr⟩
 ·simp at hi
 ·have hv:=hr1.v
  subst hv;have hm:=hr1.max;have hle:=hr1.le;have:=hd g 0 cap i (i+1) zs.toArray w hr1.holds (by simpa using hle) (by unfold maxLen at *;omega) (by omega) (by simp;omega)
  have es:zs.toArray.size=zs.length:=by simp
  rw[es] at this;refine this.mono fun e w' ⟨h1,q,h2⟩=>?_
  have hgo:ok g:=hown g ⟨0,Q0 zs mv,rfl,by rw[hL];simp[Lay.has,Value.ownBlock]⟩
  have hk:QL (FrO w (Qc [(0,Q0 zs mv)]) L) w w':=by
   have h3:QL (FrO w (Qc [(0,Q0 zs mv)]) L) (Sort.ahead w q) w':=by rw[h2];exact ZX hfr
   exact ⟨h3.os,h3.tape,h3.output,h3.size,h3.block⟩
  have hnew:Holds (Value.int .i64) w' g 0 (zs.take i++zs.drop (i+1)++List.replicate (i+1-i) 0).toArray:=by
   have h3:=holds_putRow (Value.int .i64) (Sort.ahead w q) g 0 zs.toArray (zs.take i++zs.drop (i+1)++List.replicate (i+1-i) 0).toArray (holds_ahead _ w q g 0 _ hr1.holds) (by simp;omega)
   grind
  have hlen:(zs.eraseIdx i).length=zs.length-(i+1-i):=by grind
  subst h1;refine ⟨_,fun _=>.one 0,rfl,Vj,.iv _ _ ?_,hk,by simp⟩
  rw[<- hlen];refine Vf _ _ _ (by omega) hm ⟨hgo,by simp[Qc]⟩ fun j z hj=>?_
  rw[List.eraseIdx_eq_take_drop_succ] at hj;have hjl:=(Qzl.1 hj).1;have h3:=(hnew j (by grind)).1
  grind
theorem Qcq {f:FuncId}
  (hshift:∀ (b n c i vb vc:Nat) (cs:List Value) (x:Value) (w:World),i<n->n+1<=c->c<=9223372036854775807->vb≠b->cs.length=n ->
    (∀ j v,cs[j]?=some v->w.cell? ⟨b,0+j,none⟩=some v)->(∀ j,j<n+1->(w.cell? ⟨b,0+j,none⟩).isSome=true)->(∀ j,j<n+1->w.frozen? ⟨b,0+j,none⟩=false) ->
    (∀ j v,[x][j]?=some v->w.cell? ⟨vb,0+j,none⟩=some v)->(∀ v∈cs,v.oneCell'=true)->(∀ v∈[x],v.oneCell'=true) ->
    ∀ (tA tB:TypeId) (kA kB:Nat),w.shape? vb=some (tA,kA)->w.shape? b=some (tB,kB)->kB≠0->w.frozen? ⟨vb,0,none⟩=false->w.frozen? ⟨vb,kA,none⟩=false ->
    Calls P f #[.slice (some ⟨b,0,none⟩) n c,.int .i64 i,.slice (some ⟨vb,0,none⟩) 1 vc] w fun e w' =>
     e=.returned (.slice (some ⟨b,0,none⟩) (n+1) c)/\w'=(w.drew.setCells b (0+(i+1)) (cs.drop i)).setCells b (0+i) [x])
  (hroom:∀ (b n c vb vc:Nat) (x:Value) (w:World),n+1<=c->c<=9223372036854775807->(∀ j,j<1->(w.cell? ⟨b,0+n+j,none⟩).isSome=true)->(∀ j,j<1->w.frozen? ⟨b,0+n+j,none⟩=false) ->
    (∀ j v,[x][j]?=some v->w.cell? ⟨vb,0+j,none⟩=some v)->(∀ v∈[x],v.oneCell'=true) ->
    Calls P f #[.slice (some ⟨b,0,none⟩) n c,.int .i64 n,.slice (some ⟨vb,0,none⟩) 1 vc] w fun e w' =>
     e=.returned (.slice (some ⟨b,0,none⟩) (n+1) c)/\w'=w.setCells b (0+n) [x])
  (hend:∀ (base:Option Addr) (n c vb vc:Nat) (cs:List Value) (x:Value) (w:World),n<=c->c<n+1->(n+1)*8<=140737488355328->cs.length=n->(base=none->n=0) ->
    (∀ a,base=some a->∀ j v,cs[j]?=some v->w.cell? (a.add j)=some v)->(∀ j v,[x][j]?=some v->w.cell? ⟨vb,0+j,none⟩=some v)->(∀ v∈[x],v.oneCell'=true) ->
    Calls P f #[.slice base n c,.int .i64 n,.slice (some ⟨vb,0,none⟩) 1 vc] w fun e w' =>
     e=.returned (.slice (some ⟨w.heap.size,0,none⟩) (n+1) (grownCap w (n+1) c 3)) /\
     w'=w.drew.alloc (.cells ((cs++[x]).toArray++Builtin.zeroCells (Value.int .i64 0).cells (grownCap w (n+1) c 3-(n+1))) 3))
  (hgrow:∀ (b n c i vb vc:Nat) (cs:List Value) (x:Value) (w:World),i<n->n<=c->c<n+1->(n+1)*8<=140737488355328->cs.length=n ->
    (∀ j v,cs[j]?=some v->w.cell? ⟨b,0+j,none⟩=some v)->(∀ j v,[x][j]?=some v->w.cell? ⟨vb,0+j,none⟩=some v)->(∀ v∈cs,v.oneCell'=true)->(∀ v∈[x],v.oneCell'=true) ->
    Calls P f #[.slice (some ⟨b,0,none⟩) n c,.int .i64 i,.slice (some ⟨vb,0,none⟩) 1 vc] w fun e w' =>
     e=.returned (.slice (some ⟨w.heap.size,0,none⟩) (n+1) (grownCap w (n+1) c 3)) /\
     w'=(((w.alloc (.cells ((cs.take i).toArray++Builtin.zeroCells (Value.int .i64 0).cells (n+1-i)++Builtin.zeroCells (Value.int .i64 0).cells (grownCap w (n+1) c 3-(n+1))) 3)).drew.setCells w.heap.size i [x]).drew).setCells w.heap.size (i+1) (cs.drop i))
  (zs:List Int) (mv:Nat) (i:Nat) (hi:i<=zs.length) (x:Int) (mv':Nat) (hlen:zs.length<=1000000):ZG P K f [.aref 0 zs.length,.iv (.int .i64 (i:Nat)),.aref 1 1] [(0,Q0 zs mv),(1,Q0 [x] mv')] [] (.iv (QgN (zs.take i++x::zs.drop i))) []:=by
 intro w ok L vs hK hnew hown hlaid hvl hvs
 obtain ⟨v0,v1,v2,rfl⟩:∃ v0 v1 v2,vs=[v0,v1,v2]:=by
  match vs,hvl with
  | [v,u,z],_=>grind
 obtain ⟨v,xs,hL,hrow⟩:=qX (hlaid.objs 0 (Q0 zs mv) rfl);obtain ⟨v',xs',hL',hrow'⟩:=qX (zs:=[x]) (hlaid.objs 1 (Q0 [x] mv') rfl);have hv:v0=v:=Qav (id:=0) (zs:=zs) (mv:=mv) rfl hL rfl (hvs 0 _ v0 rfl rfl);have hv':v2=v':=Qav (id:=1) (zs:=[x]) (mv:=mv') rfl hL' rfl (hvs 2 _ v2 rfl rfl)
 have e1:v1=.int .i64 (i:Nat):=by
  have:=hvs 1 _ v1 rfl rfl;cases this with
  | iv _ _ r=>cases r;rfl
 subst hv hv' e1;have hmax:maxLen=1099511627775\/2000000<=maxLen/\maxLen<=9223372036854775807:=by unfold maxLen;omega
 rcases hrow' with ⟨_,h⟩ | ⟨vb,vc,cur',hr2,hfr2⟩
 ·cases h
 have hv2:=hr2.v;subst hv2
 have hx:∀ j v,[Value.int .i64 x][j]?=some v->w.cell? ⟨vb,0+j,none⟩=some v:=fun j v hj=>by
  cases j with
  | zero =>
    simp at hj;subst hj;rw[hr2.cell,hr2.get 0 (by simp)]
    simp
  | succ j=>simp at hj
 have hone:∀ v∈[Value.int .i64 x],v.oneCell'=true:=by simp[Value.oneCell']
 have hvw:vb<w.heap.size:=(Qzs.1 hr2.at_).1;have hlen':(zs.take i++x::zs.drop i).length=zs.length+1:=by simp;omega
 have fresh:∀ (w':World) (cap:Nat),QL (fun b=>b<w.heap.size) w w'->zs.length+1<=cap->cap<=maxLen->(∀ j z,(zs.take i++x::zs.drop i)[j]?=some z->w'.cell? ⟨w.heap.size,j,none⟩=some (.int .i64 z)) ->
   ∃ v1 L',(Ending.returned (.slice (some ⟨w.heap.size,0,none⟩) (zs.length+1) cap):Ending)=.returned v1/\QgQ (FrO w (Qc [(0,Q0 zs mv),(1,Q0 [x] mv')]) L) ok w' (Qc []) L'/\Qs (okL ok (Qc []) L') w' (Qc []) L' (.iv (QgN (zs.take i++x::zs.drop i))) v1/\QL (FrO w (Qc [(0,Q0 zs mv),(1,Q0 [x] mv')]) L) w w' /\
    ∀ i∈([]:List Nat),∀ o,Qc [(0,Q0 zs mv),(1,Q0 [x] mv')] i=some o->∃ o',Qc [] i=some o'/\Yn o o' (L i) (L' i):=fun w' cap hk h1 h2 h3=>by
  refine ⟨_,fun _=>.one 0,rfl,Vj,.iv _ _ ?_,⟨hk.os,hk.tape,hk.output,hk.size,fun k hkk=>hk.block k hkk.1⟩,by simp⟩
  rw[<- hlen'] at h1 |-;exact Vf _ _ _ h1 h2 ⟨hnew _ (Qzq _),by simp[Qc]⟩ h3
 have inplace:∀ (g cap:Nat) (cur:Array Value) (w':World),qJ w v0 zs g cap cur->¬ FrO w (Qc [(0,Q0 zs mv),(1,Q0 [x] mv')]) L g->QL (FrO w (Qc [(0,Q0 zs mv),(1,Q0 [x] mv')]) L) w w'->zs.length+1<=cap->(∀ j z,(zs.take i++x::zs.drop i)[j]?=some z->w'.cell? ⟨g,j,none⟩=some (.int .i64 z)) ->
   ∃ v1 L',(Ending.returned (.slice (some ⟨g,0,none⟩) (zs.length+1) cap):Ending)=.returned v1/\QgQ (FrO w (Qc [(0,Q0 zs mv),(1,Q0 [x] mv')]) L) ok w' (Qc []) L'/\Qs (okL ok (Qc []) L') w' (Qc []) L' (.iv (QgN (zs.take i++x::zs.drop i))) v1/\QL (FrO w (Qc [(0,Q0 zs mv),(1,Q0 [x] mv')]) L) w w' /\
    ∀ i∈([]:List Nat),∀ o,Qc [(0,Q0 zs mv),(1,Q0 [x] mv')] i=some o->∃ o',Qc [] i=some o'/\Yn o o' (L i) (L' i):=fun g cap cur w' hr1 _ hk h1 h3=>by
  have hgo:ok g:=hown g ⟨0,Q0 zs mv,rfl,by rw[hL,hr1.v];simp[Lay.has,Value.ownBlock]⟩
  refine ⟨_,fun _=>.one 0,rfl,Vj,.iv _ _ ?_,hk,by simp⟩
  have h2:=hr1.max;rw[<- hlen'] at h1 |-;exact Vf _ _ _ h1 h2 ⟨hgo,by simp[Qc]⟩ h3
 have hcs:∀ j,j<zs.length->(zs.map (Value.int .i64))[j]?=some (.int .i64 zs[j]!):=fun j hj=>by simp[hj]
 have onev:∀ v∈zs.map (Value.int .i64),v.oneCell'=true:=fun v hv=>by
  obtain ⟨z,_,rfl⟩:=QzI.1 hv;rfl
 rcases QAn i zs.length with hlt | hge
 ·
  rcases hrow with ⟨_,h⟩ | ⟨g,cap,cur,hr1,hfr⟩
  ·grind
  have hv:=hr1.v;have hm:=hr1.max;have hle:=hr1.le;have hgw:g<w.heap.size:=(Qzs.1 hr1.at_).1;have hne:vb≠g:=fun e=>hlaid.apart 0 1 (Q0 zs mv) (Q0 [x] mv') g (by simp) rfl rfl (by rw[hL,hv];simp[Lay.has,Value.ownBlock]) (by rw[hL',e];simp[Lay.has,Value.ownBlock])
  have hc:∀ j v,(zs.map (Value.int .i64))[j]?=some v->w.cell? ⟨g,0+j,none⟩=some v:=fun j v hj=>by
   rw[Qzu,Qzo] at hj;obtain ⟨z,hz,rfl⟩:=hj;obtain ⟨h1,h2⟩:=Qzl.1 hz;rw[Qzx,hr1.cell,hr1.get j h1,h2]
  have hmid:∀ j z,(zs.take i++x::zs.drop i)[j]?=some z->(j<i/\zs[j]?=some z)\/(j=i/\z=x)\/(i+1<=j/\(zs.drop i)[j-(i+1)]?=some z):=fun j z hj=>by
   rcases Nat.lt_trichotomy j i with h | h | h
   ·rw[QzA (by simp;omega),QzR,if_pos h] at hj
    grind
   ·subst h
    rw[Qzz (by simp;omega),QAg,QzZ (by omega),Nat.sub_self] at hj
    grind
   ·rw[Qzz (by simp;omega),QAg,QzZ (by omega)] at hj
    obtain ⟨k,rfl⟩:∃ k,j=i+1+k:=⟨j-(i+1),by omega⟩
    rw[show i+1+k-i=k+1 by omega,List.getElem?_cons_succ] at hj
    exact .inr (.inr ⟨by omega,by rw[show i+1+k-(i+1)=k by omega];exact hj⟩)
  rcases QAn zs.length cap with hcap | hcap
  ·
   have hsome:∀ j,j<zs.length+1->(w.cell? ⟨g,0+j,none⟩).isSome=true:=fun j hj=>by
    rw[Qzx,hr1.cell,QzF (by have:=hr1.size;omega)];rfl
   have h0:=hshift g zs.length cap i vb vc (zs.map (.int .i64)) (.int .i64 x) w hlt (by omega) (by omega) hne (by simp) hc hsome (fun j _=>hr1.frozen _) hx onev hone 3 3 cur'.size cur.size
    (by simp[World.shape?,hr2.at_]) (by simp[World.shape?,hr1.at_]) (by have:=hr1.size;omega) (hr2.frozen _) (hr2.frozen _)
   rw[<- hv] at h0;refine h0.mono fun e w' ⟨h1,h2⟩=>?_
   subst h1
   have hk:QL (FrO w (Qc [(0,Q0 zs mv),(1,Q0 [x] mv')]) L) w w':=by
    have k1:=Zt (Fr:=FrO w (Qc [(0,Q0 zs mv),(1,Q0 [x] mv')]) L) hfr ((zs.map (Value.int .i64)).drop i) (0+(i+1)) w.drew;have k2:=Zt (Fr:=FrO w (Qc [(0,Q0 zs mv),(1,Q0 [x] mv')]) L) hfr [Value.int .i64 x] (0+i) (w.drew.setCells g (0+(i+1)) ((zs.map (Value.int .i64)).drop i));rw[h2];exact ⟨k2.os.trans k1.os,k2.tape.trans k1.tape,k2.output.trans k1.output,QzT k1.size k2.size,fun k hk=>(k2.block k hk).trans (k1.block k hk)⟩
   refine inplace g cap cur w' hr1 hfr hk (by omega) fun j z hj=>?_
   have in1:∀ k,k<((zs.map (Value.int .i64)).drop i).length->(w.drew.cell? ⟨g,0+(i+1)+k,none⟩).isSome=true:=fun k hk=>by
    have:=hsome (i+1+k) (by simp at hk;omega)
    rw[show 0+(i+1)+k=0+(i+1+k) by omega]
    exact this
   have sm1:∀ k,(w.cell? ⟨g,k,none⟩).isSome=true->((w.drew.setCells g (0+(i+1)) ((zs.map (Value.int .i64)).drop i)).cell? ⟨g,k,none⟩).isSome=true:=fun k hk=>by
    by_cases hin:0+(i+1)<=k/\k<0+(i+1)+((zs.map (Value.int .i64)).drop i).length
    ·have:=World.cell?_setCells_in g _ (0+(i+1)) w.drew in1 (k-(0+(i+1))) (by omega)
     rw[show 0+(i+1)+(k-(0+(i+1)))=k by omega] at this
     rw[this];rfl
    ·rw[World.cell?_setCells_out g _ (0+(i+1)) w.drew ⟨g,k,none⟩ (fun _ _=>by grind)]
     exact hk
   rw[h2];rcases hmid j z hj with ⟨h3,h4⟩ | ⟨h3,h4⟩ | ⟨h3,h4⟩
   ·rw[World.cell?_setCells_out g [_] (0+i) _ ⟨g,j,none⟩ (fun _ _=>by grind),World.cell?_setCells_out g _ (0+(i+1)) w.drew ⟨g,j,none⟩ (fun _ _=>by grind)]
    have:=hc j (.int .i64 z) (by simp[h4])
    rw[Qzx] at this;exact this
   ·subst h3 h4
    have:=World.cell?_setCells_in g [Value.int .i64 z] (0+j) (w.drew.setCells g (0+(j+1)) ((zs.map (Value.int .i64)).drop j)) (fun k hk=>sm1 _ (by
     have:=hsome j (by omega)
     simp at hk;subst hk;simpa using this)) 0 (by simp)
    simpa using this
   ·obtain ⟨k,rfl⟩:∃ k,j=i+1+k:=⟨j-(i+1),by omega⟩
    rw[show i+1+k-(i+1)=k by omega] at h4
    have hkl:=(Qzl.1 h4).1;rw[World.cell?_setCells_out g [_] (0+i) _ ⟨g,i+1+k,none⟩ (fun _ _=>by show i+1+k<_\/_<=i+1+k;simp)]
    have:=World.cell?_setCells_in g ((zs.map (Value.int .i64)).drop i) (0+(i+1)) w.drew in1 k (by simpa using hkl)
    rw[Qzx] at this;rw[Qzx,this]
    have h5:(List.drop i (zs.map (Value.int .i64)))[k]?=some (.int .i64 z):=by
     rw[<- QAO,Qzu,h4];rfl
    rw[Qzk (by simpa using hkl)] at h5
    exact h5
  ·
   have hcap':cap=zs.length:=by omega
   have h0:=hgrow g zs.length cap i vb vc (zs.map (.int .i64)) (.int .i64 x) w hlt (by omega) (by omega) (by omega) (by simp) hc hx onev hone
   rw[<- hv] at h0;have hgc1:=grownCap_ge w (zs.length+1) cap 3;have hgc2:=grownCap_le_maxLen w (zs.length+1) cap 3 (by omega)
   generalize grownCap w (zs.length+1) cap 3=G at *;refine h0.mono fun e w' ⟨h1,h2⟩=>?_
   subst h1;obtain ⟨ROW,hROW⟩:∃ ROW:Array Value,ROW=((zs.map (Value.int .i64)).take i).toArray++Builtin.zeroCells (Value.int .i64 0).cells (zs.length+1-i)++Builtin.zeroCells (Value.int .i64 0).cells (G-(zs.length+1)):=⟨_,rfl⟩
   rw[<- hROW] at h2
   have hRs:zs.length+1<=ROW.size:=by
    rw[hROW];simp[Builtin.zeroCells,Value.cells];omega
   have hRt:∀ j z,j<i->zs[j]?=some z->ROW[j]?=some (.int .i64 z):=fun j z hj hz=>by
    rw[hROW,Array.append_assoc,Array.getElem?_append_left (by simp;omega)]
    simp[QzR,hj,hz]
   have hN:∀ j,j<zs.length+1->((w.alloc (.cells ROW 3)).cell? ⟨w.heap.size,j,none⟩).isSome=true:=fun j hj=>by
    rw[World.cell?_alloc_at (w:=w) ROW _ w.heap.size j rfl,QzF (by omega)];rfl
   obtain ⟨W1,hW1⟩:∃ W1,W1=(w.alloc (.cells ROW 3)).drew.setCells w.heap.size i [Value.int .i64 x]:=⟨_,rfl⟩
   rw[<- hW1] at h2;have hkA:QL (fun b=>b<w.heap.size) w (w.alloc (.cells ROW 3)):=Qaw w _
   have hk1:QL (fun b=>b<w.heap.size) w W1:=by
    have k2:=Zt (Fr:=fun b=>b<w.heap.size) (g:=w.heap.size) (by simp) [Value.int .i64 x] i (w.alloc (.cells ROW 3)).drew
    rw[hW1];exact ⟨k2.os.trans hkA.os,k2.tape.trans hkA.tape,k2.output.trans hkA.output,QzT hkA.size k2.size,fun k hk=>(k2.block k hk).trans (hkA.block k hk)⟩
   have hk2:QL (fun b=>b<w.heap.size) w w':=by
    have k2:=Zt (Fr:=fun b=>b<w.heap.size) (g:=w.heap.size) (by simp) ((zs.map (Value.int .i64)).drop i) (i+1) W1.drew
    rw[h2];exact ⟨k2.os.trans hk1.os,k2.tape.trans hk1.tape,k2.output.trans hk1.output,QzT hk1.size k2.size,fun k hk=>(k2.block k hk).trans (hk1.block k hk)⟩
   have sm1:∀ k,k<zs.length+1->(W1.cell? ⟨w.heap.size,k,none⟩).isSome=true:=fun k hk=>by
    rw[hW1];by_cases hin:k=i
    ·subst hin
     have:=World.cell?_setCells_in w.heap.size [Value.int .i64 x] k (w.alloc (.cells ROW 3)).drew (fun t ht=>by simp at ht;subst ht;exact hN k hk) 0 (by simp)
     rw[QAe] at this;rw[this];rfl
    ·rw[World.cell?_setCells_out w.heap.size [_] i _ ⟨w.heap.size,k,none⟩ (fun _ _=>by show k<_\/_<=k;simp;omega)]
     exact hN k hk
   refine fresh w' G hk2 hgc1 hgc2 fun j z hj=>?_
   have in2:∀ k,k<((zs.map (Value.int .i64)).drop i).length->(W1.drew.cell? ⟨w.heap.size,i+1+k,none⟩).isSome=true:=fun k hk=>sm1 _ (by simp at hk;omega)
   rw[h2];rcases hmid j z hj with ⟨h3,h4⟩ | ⟨h3,h4⟩ | ⟨h3,h4⟩
   ·rw[World.cell?_setCells_out w.heap.size _ (i+1) W1.drew ⟨w.heap.size,j,none⟩ (fun _ _=>by grind)]
    show W1.cell? _=_
    rw[hW1,World.cell?_setCells_out w.heap.size [_] i _ ⟨w.heap.size,j,none⟩ (fun _ _=>by grind)]
    show (w.alloc (.cells ROW 3)).cell? _=_
    rw[World.cell?_alloc_at (w:=w) ROW _ w.heap.size j rfl];exact hRt j z h3 h4
   ·subst h3 h4
    rw[World.cell?_setCells_out w.heap.size _ (j+1) W1.drew ⟨w.heap.size,j,none⟩ (fun _ _=>by grind)]
    show W1.cell? _=_
    rw[hW1];have:=World.cell?_setCells_in w.heap.size [Value.int .i64 z] j (w.alloc (.cells ROW 3)).drew (fun t ht=>by simp at ht;subst ht;exact hN j (by omega)) 0 (by simp)
    simpa using this
   ·obtain ⟨k,rfl⟩:∃ k,j=i+1+k:=⟨j-(i+1),by omega⟩
    rw[show i+1+k-(i+1)=k by omega] at h4
    have hkl:=(Qzl.1 h4).1;have:=World.cell?_setCells_in w.heap.size ((zs.map (Value.int .i64)).drop i) (i+1) W1.drew in2 k (by simpa using hkl)
    rw[this]
    have h5:(List.drop i (zs.map (Value.int .i64)))[k]?=some (.int .i64 z):=by
     rw[<- QAO,Qzu,h4];rfl
    rw[Qzk (by simpa using hkl)] at h5
    exact h5
 ·
  have hie:i=zs.length:=by omega
  subst hie;have hsame:zs.take zs.length++x::zs.drop zs.length=zs++[x]:=by simp
  have grow:∀ (base:Option Addr) (c:Nat),v0=.slice base zs.length c->zs.length<=c->c<zs.length+1->(base=none->zs.length=0)->(∀ a,base=some a->∀ j v,(zs.map (Value.int .i64))[j]?=some v->w.cell? (a.add j)=some v) ->
    Calls P f [v0,Value.int .i64 (zs.length:Nat),Value.slice (some ⟨vb,0,none⟩) [x].length vc].toArray w (fun e w'=>∃ v1 L',e=.returned v1/\QgQ (FrO w (Qc [(0,Q0 zs mv),(1,Q0 [x] mv')]) L) ok w' (Qc []) L'/\Qs (okL ok (Qc []) L') w' (Qc []) L' (.iv (QgN (zs.take zs.length++x::zs.drop zs.length))) v1/\QL (FrO w (Qc [(0,Q0 zs mv),(1,Q0 [x] mv')]) L) w w' /\
     ∀ i∈([]:List Nat),∀ o,Qc [(0,Q0 zs mv),(1,Q0 [x] mv')] i=some o->∃ o',Qc [] i=some o'/\Yn o o' (L i) (L' i)):=fun base c hv h1 h2 h3 h4=>by
   have h0:=hend base zs.length c vb vc (zs.map (.int .i64)) (.int .i64 x) w h1 h2 (by omega) (by simp) h3 h4 hx hone
   rw[<- hv] at h0;have hgc1:=grownCap_ge w (zs.length+1) c 3;have hgc2:=grownCap_le_maxLen w (zs.length+1) c 3 (by omega)
   generalize grownCap w (zs.length+1) c 3=G at *;refine h0.mono fun e w' ⟨h5,h6⟩=>?_
   subst h5;obtain ⟨ROW,hROW⟩:∃ ROW:Array Value,ROW=(zs.map (Value.int .i64)++[Value.int .i64 x]).toArray++Builtin.zeroCells (Value.int .i64 0).cells (G-(zs.length+1)):=⟨_,rfl⟩
   rw[<- hROW] at h6;refine fresh w' G ?_ hgc1 hgc2 fun j z hj=>?_
   ·rw[h6]
    have:=Qaw w.drew (.cells ROW 3);exact ⟨this.os,this.tape,this.output,this.size,this.block⟩
   ·rw[h6,World.cell?_alloc_at (w:=w.drew) ROW _ w.heap.size j rfl,hROW]
    rw[hsame] at hj;have hjl:=(Qzl.1 hj).1;simp at hjl;rw[Array.getElem?_append_left (by simp;omega)]
    have:(zs.map (Value.int .i64)++[Value.int .i64 x])=(zs++[x]).map (.int .i64):=by simp
    rw[this,List.getElem?_toArray,Qzu,hj];rfl
  rcases hrow with ⟨h1,h2⟩ | ⟨g,cap,cur,hr1,hfr⟩
  ·subst h2
   grind
  have hv:=hr1.v;have hm:=hr1.max;have hle:=hr1.le;rcases QAn zs.length cap with hcap | hcap
  ·have h0:=hroom g zs.length cap vb vc (.int .i64 x) w (by omega) (by omega) (fun j hj=>by
    rw[hr1.cell,QzF (by have:=hr1.size;omega)];rfl) (fun j _=>hr1.frozen _) hx hone
   rw[<- hv] at h0;refine h0.mono fun e w' ⟨h1,h2⟩=>?_
   subst h1
   have hk:QL (FrO w (Qc [(0,Q0 zs mv),(1,Q0 [x] mv')]) L) w w':=by
    rw[h2];exact Zt hfr _ _ _
   refine inplace g cap cur w' hr1 hfr hk (by omega) fun j z hj=>?_
   rw[hsame] at hj;rw[h2];rcases QAn j zs.length with h | h
   ·rw[QzA h] at hj
    rw[World.cell?_setCells_out g [_] (0+zs.length) _ ⟨g,j,none⟩ (fun _ _=>by grind),hr1.cell,hr1.get j h]
    obtain ⟨h3,h4⟩:=Qzl.1 hj;rw[h4]
   ·have hj':j=zs.length:=by have:=(Qzl.1 hj).1;grind
    subst hj';simp at hj;subst hj
    have:=World.cell?_setCells_in g [Value.int .i64 x] (0+zs.length) w (fun k hk=>by
     simp at hk;subst hk;rw[hr1.cell,QzF (by have:=hr1.size;omega)];rfl) 0 (by simp)
    simpa using this
  ·refine grow (some ⟨g,0,none⟩) cap hv hle (by omega) (by simp) (fun a ha j v hj=>?_)
   injection ha with ha
   subst ha;rw[Qzu,Qzo] at hj;obtain ⟨z,hz,rfl⟩:=hj;obtain ⟨h1,h2⟩:=Qzl.1 hz;rw[Addr.add_lit,Qzx,hr1.cell,hr1.get j h1,h2]
end
end Go.Ev
