/- Readings and truths of papers, as plain data, and the small functions. -/
import Derived.Test.YtmjdnhobojjjaaaGreatDoorPartThree
import Derived.Shelf.LaysM
import Derived.Shelf.Strings.SplitShaped
import Derived.Test.YtmjdnhobojjjaaaGreatDoorProg
import Derived.Lib.SplitLaws
import Derived.ChangeAgain
import Derived.Shelf.SlGeneric
import Derived.Ground.SlgnProg
import Derived.Ground.GgzProg
import Derived.Ground.SlgmProg
import Derived.Shelf.SlIterI.Nil
import Derived.Shelf.SlicesE.Clone
import Derived.Shelf.SlicesE.Delete
import Derived.Shelf.SlicesE.Reverse
import Derived.Shelf.SortM.Plain
import Derived.Shelf.SortM.SortNone
set_option linter.all false
namespace Go.Pp
open Go Go.Ev Go.Proofs Go.RowKit
variable {K:World->Prop} (hK:∀ w w',K w->Below w.heap.size w w'->K w')
open Go.Pf (c18_ok c33_ok c60_ok c68_ok c69_ok c70_ok c90_ok)
attribute [simp] W5
abbrev W:=List UInt8
inductive Op where
 | and | or | ifw
 deriving DecidableEq
def Op.word:Op->W
 | .and=>[97,110,100]
 | .or=>[111,114]
 | .ifw=>[105,102]
def Qe8:W:=[110,111,116]
def QfO (w:W):Option Op:=if w=[97,110,100] then some .and else if w=[111,114] then some .or else if w=[105,102] then some .ifw else none
def QlH (w:W):Bool:=(QfO w).isSome
inductive Rd where
 | fact (n:Nat)
 | no (r:Rd)
 | bin (o:Op) (a b:Rd)
def QeZ:Rd->List IV
 | .fact n=>[.int .i64 n,.str [],.nilp,.nilp]
 | .no r=>[.int .i64 0,.str Qe8,.nilp,.ptr (QeZ r)]
 | .bin o a b=>[.int .i64 0,.str o.word,.ptr (QeZ a),.ptr (QeZ b)]
@[simp] def enc (r:Rd):IV:=.ptr (QeZ r)
def val:Rd->Nat->Bool
 | .fact n,t=>t.testBit n
 | .no r,t=>!val r t
 | .bin .and a b,t=>val a t&&val b t
 | .bin .or a b,t=>val a t||val b t
 | .bin .ifw a b,t=>val a t||!val b t
def text:Rd->W
 | .fact n=>[UInt8.ofNat (97+n)]
 | .no r=>[40,110,111,116,32]++text r++[41]
 | .bin o a b=>[40]++text a++[32]++o.word++[32]++text b++[41]
def fok:Rd->Prop
 | .fact n=>n<6
 | .no r=>fok r
 | .bin _ a b=>fok a/\fok b
@[simp] def Yq (l:List Int):IV:=.sl 1 (l.map fun n=>[.int .i64 n])
@[simp] def Qlu (l:List Nat):IV:=.sl 1 (l.map fun n=>[.int .u64 (n:Nat)])
@[simp] def strs (l:List W):IV:=.sl 1 (l.map fun s=>[.str s])
@[simp] def rds (l:List Rd):IV:=.sl 1 (l.map fun r=>[enc r])
@[simp] def Jb (w:W) (fs:List Int):IV:=.agg [.str w,Yq fs]
def Qf8 (a b:Int):Int:=if a=b then 1 else if a=0 then 2 else 3
def VU (k:Int) (b:Bool):Bool:=if k=1 then b else if k=2 then !b else decide (k=3)
def Qgb (w:W) (a b:Nat):Nat:=if w=[97,110,100] then a &&& b else if w=[111,114] then a ||| b else a ||| (18446744073709551615 ^^^ b)
def Zo (n:Nat):Nat->Nat
 | 0=>0
 | i+1=>if i.testBit n then Zo n i ||| 2 ^ i else Zo n i
theorem qd (n i:Nat) (h:i<=64):Zo n i<2 ^ 64:=by
 induction i with
 | zero=>simp[Zo]
 | succ i ih =>
   simp only[Zo];split
   ·exact QyP (ih (by omega)) (QyQ (by omega) (by omega))
   ·exact ih (by omega)
include hK
theorem Qgk (n l h:Int):Ev.Good Tryz.prog K 60 [.int .i64 n,.int .i64 l,.int .i64 h] (.bool (decide (l<=n)&&decide (n<=h))):=by
 refine Qb hK c60_ok (by simp) ?_
 simp;omega
theorem good18 (k:Int) (b:Bool):Ev.Good Tryz.prog K 18 [.int .i64 k,.bool b] (.bool (VU k b)):=by
 refine Qb hK c18_ok (by simp) ?_
 simp[VU];split<;>simp_all
theorem good33 (l m:List Int):Ev.Good Tryz.prog K 33 [Yq l,Yq m] (.bool (decide (l=m))):=by
 refine Qb hK c33_ok (by simp) ?_
 simp;intro hl hm;refine ⟨fun e c=>e (by rw[c]),fun e=>?_⟩
 have e:l.length=m.length:=by omega
 refine QI (fun i=>[(0,AV.iv (Yq l)),(1,AV.iv (Yq m)),(5,AV.iv (IV.int IntKind.i64 (i:Nat)))]) (fun _=>[]) l.length (fun i=>l.take i=m.take i) (by simp) ?_ ?_
 ·intro h
  rw[Qa Go.Pf.c33_b0.eq_1];simp at h |-;intro _;rw[e,QxM] at h;exact h
 ·intro i hi h ih
  have hi':i<m.length:=by omega
  rw[Qa Go.Pf.c33_b0.eq_1];simp[hi,hi'] at h ih |-;intro _;refine ⟨fun e c=>e (by subst c;rfl),fun e=>⟨by omega,ih ?_⟩⟩
  rw[Qxt hi,Qxt hi',h,e]
theorem Qp9 (w:W):Ev.Good Tryz.prog K 69 [.str w] (.bool (QlH w)):=by
 refine Qb hK c69_ok (by simp) ?_
 simp[QlH,QfO];split<;>simp_all;split<;>simp_all
theorem Qp8 (w:W) (a b:Nat) (ha:a<2 ^ 64) (hb:b<2 ^ 64):Ev.Good Tryz.prog K 70 [.str w,.int .u64 a,.int .u64 b] (.int .u64 (Qgb w a b:Nat)):=by
 refine Qb hK c70_ok (by simp) ?_
 have hx:=Qfe 18446744073709551615 b (by omega) hb
 have hx':18446744073709551615 ^^^ b<2 ^ 64:=Nat.xor_lt_two_pow (by omega) hb
 have ho:=W2 a (18446744073709551615 ^^^ b) ha hx';rw[<- hx] at ho;simp[Qgb,Qdi a b ha hb,W2 a b ha hb];split<;>simp_all
theorem Qqa (n:Nat) (hn:n<64):Ev.Good Tryz.prog K 68 [.int .i64 n] (.int .u64 (Zo n 64:Nat)):=by
 refine Qb hK c68_ok (by simp) ?_
 simp;refine QI (fun i=>[(0,AV.iv (IV.int IntKind.i64 n)),(3,AV.iv (IV.int IntKind.u64 (Zo n i:Nat))),(4,AV.iv (IV.int IntKind.i64 (i:Nat)))]) (fun _=>[]) 64 (fun _=>True) trivial ?_ ?_
 ·intro h
  rw[Qa Go.Pf.c68_b0.eq_1];simp
 ·intro i hi h ih
  have h1:IntKind.wrap .u64 (n:Int)=n:=X5 (by omega) (by omega)
  have h2:IntKind.wrap .u64 (i:Int)=i:=X5 (by omega) (by omega)
  have h3:=QbP 1 i hi (by rw[Nat.one_mul];exact QyQ (by omega) hi)
  have h4:=W2 (Zo n i) (2 ^ i) (qd n i (by omega)) (QyQ (by omega) hi)
  simp at h3 h4;rw[Qa Go.Pf.c68_b0.eq_1];have hf:Zo n (i+1)=if i.testBit n then Zo n i ||| 2 ^ i else Zo n i:=rfl
  have hi':(i:Int)<64:=by omega
  simp[h1,h2,QhN i n (by omega),Up,h3,h4,hf,hi'] at ih |-
  refine ⟨fun e=>⟨by omega,?_⟩,fun e=>⟨by omega,?_⟩⟩
  ·simpa[e] using ih
  ·simpa[e] using ih
theorem Qp0 (r:Rd) (t:Nat) (ht:t<2 ^ 64):Ev.Good Tryz.prog K 90 [enc r,.int .u64 t] (.bool (val r t)):=by
 induction r with
 | fact n =>
   refine Qb hK c90_ok (by simp) ?_
   simp[QeZ,val,QhM t n ht,Up]
 | no r ih =>
   refine Qb hK c90_ok (by simp) ?_
   simp[QeZ,Qe8,val];refine Qk ih (by simp) ?_
   simp
 | bin o a b ia ib =>
   refine Qb hK c90_ok (by simp) ?_
   cases o<;>simp[QeZ,val,Op.word]<;>refine Qk ia (by simp) ?_<;>simp <;>
    refine ⟨fun e=>?_,fun e=>?_⟩<;>first | (refine Qk ib (by simp) ?_;simp[e]) | simp[e]
end Go.Pp
namespace Go.Pp
open Go Go.Ev Go.Proofs Go.RowKit
variable {K:World->Prop} (hK:∀ w w',K w->Below w.heap.size w w'->K w')
open Go.Pf (c17_ok c39_ok c40_ok c43_ok c73_ok)
def Qw (out:List W) (c:UInt8):List W:=if c=32 then out++[[]] else out.set (out.length-1) (out.getD (out.length-1) []++[c])
def spl (s:W):List W:=s.foldl Qw [[]]
def okT (fs:List Int) (n:Nat):Nat->Bool
 | 0=>true
 | i+1=>okT fs n i&&(!n.testBit i||decide (fs.getD i 0≠2))&&(n.testBit i||decide (fs.getD i 0≠1))
def Qfg (fs:List Int) (m:Nat):List Nat:=(List.range m).filter fun n=>okT fs n fs.length
def Qkj (fs:List Int):List Nat:=Qfg fs (2 ^ fs.length)
@[simp] def US (l:List Nat):IV:=.sl 1 (l.map fun n=>[.int .i64 (n:Nat)])
include hK
theorem QkJ (s:W) (hs:s.length<4294967296):Ev.Good Tryz.prog K 39 [.str s] (strs (spl s)):=by
 refine Qb hK c39_ok (by simp) ?_
 simp
 refine JG s.length (fun i e o=>∃ mv,mv<=((s.take i).foldl Qw [[]]).length/\0<((s.take i).foldl Qw [[]]).length/\((s.take i).foldl Qw [[]]).length<=i+1/\(∀ x∈(s.take i).foldl Qw [[]],x.length<=i) /\
  e=[(0,AV.iv (IV.str s)),(3,AV.aref 5 ((s.take i).foldl Qw [[]]).length),(4,AV.iv (IV.int IntKind.i64 (i:Nat)))] /\
  o=[(5,AO.arr 9 1 (emb (((s.take i).foldl Qw [[]]).map fun s=>[.str s])) mv)]) ?_ ?_ _ _ ⟨0,by simp,by simp,by simp,by simp,rfl,rfl⟩
 ·rintro e o ⟨mv,h1,h2,h3,_,rfl,rfl⟩
  rw[Qa Go.Pf.c39_b0.eq_1];simp[spl] at h1 h2 h3 |-;simp[h1]
 ·rintro i e o hi ⟨mv,h1,h2,h3,hx,rfl,rfl⟩ ih
  have e1:(s.take (i+1)).foldl Qw [[]]=Qw ((s.take i).foldl Qw [[]]) s[i]:=by
   rw[Qxt hi,List.foldl_append];rfl
  rw[Qa Go.Pf.c39_b0.eq_1];rw[e1] at ih;generalize (s.take i).foldl Qw [[]]=X at *;have h4:X.length-1<X.length:=by omega
  have h5:((X.length:Int)-1).toNat=X.length-1:=by omega
  have h6:s[i].toNat<256:=s[i].toNat_lt
  have h7:s[i]=32↔(s[i].toNat:Int)=32:=by
   rw[<- UInt8.toNat_inj];simp;omega
  simp[hi];refine ⟨fun e=>⟨⟨h1,by omega,by omega⟩,by omega,?_⟩,fun e=>⟨h1,fun _=>⟨by omega,⟨by omega,h4,h1⟩,?_⟩⟩⟩
  ·refine ih _ _ ⟨mv,?_,?_,?_,?_,?_,?_⟩<;>simp[Qw,h7.2 e]
   ·omega
   ·omega
   ·intro x hm
    rcases hm with hm | hm
    ·exact Nat.le_succ_of_le (hx x hm)
    ·simp[hm]
  ·simp[h4,h5,bytesOf,Z4,hi]
   have h8:¬ s[i]=32:=fun c=>e (h7.1 c)
   have h9:=hx _ (Qxx h4);refine ⟨h1,by omega,by omega,⟨by omega,h1⟩,h1,by omega,?_⟩
   refine ih _ _ ⟨X.length,?_,?_,?_,?_,?_,?_⟩<;>simp[Qw,h8,h2,h4]
   ·omega
   ·intro x hm
    rcases List.mem_or_eq_of_mem_set hm with c | c
    ·exact Nat.le_succ_of_le (hx x c)
    ·subst c;simp;omega
theorem good17 (s:W) (n t:Nat) (hn:n<2 ^ 64) (ht:t<2 ^ 63):Ev.Good Tryz.prog K 17 [.agg [.str s,.int .u64 n],.int .i64 t] (.bool (n.testBit t)):=by
 refine Qb hK c17_ok (by simp) ?_
 simp;have h1:IntKind.wrap .u64 (t:Int)=t:=X5 (by omega) (by omega)
 simp[h1,QhM n t hn,Up]
theorem Qp7 (rs:IV) (T:List Nat) (r:Rd) (hT:∀ t∈T,t<64) (hl:T.length<=64):Ev.Good Tryz.prog K 73 [.ptr [rs,Qlu T],enc r] (.int .i64 (T.countP (val r):Nat)):=by
 refine Qb hK c73_ok (by simp) ?_
 simp;intro _;refine QI (fun i=>[(1,AV.iv (enc r)),(4,AV.iv (IV.int IntKind.i64 ((T.take i).countP (val r):Nat))),(10,AV.iv (Qlu T)),(11,AV.iv (IV.int IntKind.i64 (T.length:Nat))),(12,AV.iv (IV.int IntKind.i64 (i:Nat)))]) (fun _=>[]) T.length (fun _=>True) trivial ?_ ?_
 ·intro _
  rw[Qa Go.Pf.c73_b0.eq_1];simp
 ·intro i hi _ ih
  rw[Qa Go.Pf.c73_b0.eq_1];simp[hi];have ht:=hT T[i] (Qxx hi);refine Qk (Qp0 hK r T[i] (by omega)) (by simp) ?_
  have e1:(T.take (i+1)).countP (val r)=(T.take i).countP (val r)+(if val r T[i] then 1 else 0):=by
   rw[Qxt hi,QyV];simp[Qym]
  have e2:(T.take i).countP (val r)<=i:=Qx7 (Qyr) (by rw[QyE];omega)
  rw[e1] at ih;cases hb:val r T[i]<;>simp[hb] at ih |-
  ·exact ⟨by omega,ih⟩
  ·exact ⟨by omega,by omega,ih⟩
theorem QkH (rs:IV) (T:List Nat) (r:Rd) (hT:∀ t∈T,t<64) (hl:T.length<=64):Ev.Good Tryz.prog K 43 [.ptr [rs,Qlu T],enc r] (.int .i64 (Qf8 (T.countP (val r):Nat) T.length)):=by
 refine Qb hK c43_ok (by simp) ?_
 simp;refine Qk (Qp7 hK rs T r hT hl) (by simp) ?_
 simp[Qf8];intro _;split<;>simp_all
theorem Qqk (s:W) (fs:List Int):Ev.Good Tryz.prog K 40 [Jb s fs] (.bool (fs.all (fun k=>decide (1<=k)&&decide (k<=3))&&decide (fs.length<=6))):=by
 refine Qb hK c40_ok (by simp) ?_
 simp;refine QI (fun i=>[(1,AV.iv (.ptr [.str s,Yq fs])),(3,AV.iv (IV.int IntKind.i64 (i:Nat)))]) (fun _=>[]) fs.length (fun i=>∀ k∈fs.take i,1<=k/\k<=3) (by simp) ?_ ?_
 ·intro h
  rw[Qa Go.Pf.c40_b0.eq_1];simp at h |-;intro _;have h1:(fs.all fun k=>decide (1<=k)&&decide (k<=3))=true:=by simpa using h
  rw[h1];simp;omega
 ·intro i hi h ih
  rw[Qa Go.Pf.c40_b0.eq_1];simp[hi];intro _;refine Qk (Qgk hK fs[i] 1 3) (by simp) ?_
  simp;refine ⟨fun e c=>?_,fun e1 e2=>⟨by omega,?_⟩⟩
  ·have:=c _ (Qxx hi)
   omega
  ·refine ih fun k hk=>?_
   rw[Qxt hi] at hk;rcases QxI.1 hk with c | c
   ·exact h k c
   ·rw[Qx9] at c;subst c;exact ⟨e1,e2⟩
end Go.Pp
namespace Go.Pp
open Go Go.Ev Go.Proofs Go.RowKit
open Go.Pf (c72_b0 c72_b1 c72_b2 c72_b3 c72_ok)
def Xc (n:Nat):List W->Option Nat
 | [[c]]=>if 97<=c.toNat/\c.toNat-97<n then some (c.toNat-97) else none
 | _=>none
def QM (o:Op) (A B:List Rd):List Rd:=A.flatMap fun a=>B.map fun b=>.bin o a b
def Q4 (f:List W->List Rd) (ws:List W) (i:Nat):List Rd :=
 if i=0\/i+1=ws.length then [] else
  match QfO (ws.getD i []) with
  | none=>[]
  | some o=>QM o (f (ws.take i)) (f (ws.drop (i+1)))
def ZH (f:List W->List Rd) (ws:List W):List Rd:=if 1<ws.length/\ws.getD 0 []=Qe8 then (f (ws.drop 1)).map .no else []
def Q3 (f:List W->List Rd) (ws:List W) (i:Nat):List Rd:=ZH f ws++(List.range i).flatMap (Q4 f ws)
def rdg (n:Nat):Nat->List W->List Rd
 | 0,_=>[]
 | k+1,ws =>
   match Xc n ws with
   | some m=>[.fact m]
   | none=>Q3 (rdg n k) ws ws.length
def mo:Nat->Nat->Nat
 | 0,_=>0
 | k+1,l=>if l<=1 then 1 else mo k (l-1)+((List.range l).map fun i=>if i=0\/i+1=l then 0 else mo k i*mo k (l-(i+1))).sum
theorem QsQ:∀ k,k<=9->∀ l,l<=9->mo k l<=323:=by decide +kernel
theorem Zf {α β:Type} (g:α->List β) (c:Nat):∀ l:List α,(∀ x∈l,(g x).length<=c)->(l.flatMap g).length<=l.length*c
 | [],_=>by simp
 | a::l,h=>by
   have h1:=Zf g c l (fun x hx=>h x (by simp[hx]))
   have h2:=h a (by simp)
   simp only[Qx6,Qxy,QxA];rw[QxS];omega
theorem WP {α:Type} (f g:α->Nat):∀ l:List α,(∀ x∈l,f x<=g x)->(l.map f).sum<=(l.map g).sum
 | [],_=>by simp
 | a::l,h=>by
   have h1:=WP f g l (fun x hx=>h x (by simp[hx]))
   have h2:=h a (by simp)
   simp only[QxN,List.sum_cons];omega
theorem YH (o:Op) (A B:List Rd):(QM o A B).length=A.length*B.length:=by
 unfold QM
 induction A with
 | nil=>simp
 | cons a A ih =>
   rw[Qx6,Qxy,ih,QxB,QxA,QxS];omega
theorem qe {n:Nat} {ws:List W} {m:Nat} (h:Xc n ws=some m):ws.length=1/\m<n:=by
 unfold Xc at h;split at h
 ·split at h
  ·injection h with h;subst h;rename_i h;exact ⟨rfl,h.2⟩
  ·cases h
 ·cases h
theorem qO (n:Nat):∀ (k:Nat) (ws:List W),(rdg n k ws).length<=mo k ws.length
 | 0,ws=>by simp[rdg]
 | k+1,ws=>by
   simp only[rdg];split
   ·rename_i m hm
    simp[mo,(qe hm).1]
   ·simp only[mo]
    split
    ·rename_i h1
     have:Q3 (rdg n k) ws ws.length=[]:=by
      have h2:ZH (rdg n k) ws=[]:=by simp[ZH];omega
      simp only[Q3,h2,Qyj];rw[List.flatMap_eq_nil_iff];intro i hi;simp at hi;have:i=0:=by omega
      simp[Q4,this]
     rw[this];simp
    ·simp only[Q3,Qxy,List.length_flatMap]
     have h1:(ZH (rdg n k) ws).length<=mo k (ws.length-1):=by
      unfold ZH;split
      ·have:=qO n k (ws.drop 1)
       simpa using this
      ·simp
     refine Nat.add_le_add h1 (WP _ _ _ fun i hi=>?_)
     simp at hi;unfold Q4;split
     ·simp
     ·split
      ·simp
      ·rw[YH]
       have h2:=qO n k (ws.take i);have h3:=qO n k (ws.drop (i+1));rw[QyE,Qx2 (by omega)] at h2
       rw[List.length_drop] at h3;exact QyM h2 h3
theorem UJ {n k:Nat} {ws:List W} (hk:k<=9) (hw:ws.length<=9):(rdg n k ws).length<=323:=Qx7 (qO n k ws) (QsQ k hk _ hw)
@[simp] def ob (L:List Rd):Qh:=[(5,AO.arr 112 1 (emb (L.map fun r=>[enc r])) 0)]
theorem W0 (o:Op) (A B:List Rd) (j:Nat) (hj:j<A.length):QM o (A.take (j+1)) B=QM o (A.take j) B++B.map (Rd.bin o A[j]):=by
 rw[Qxt hj];simp only[QM,Qyx,Qx6,List.flatMap_nil,Qyy]
section
variable {K:World->Prop} {r:IV}
theorem QlJ (o:Op) (w:W) (hw:w=o.word) (a:Rd) (X0 X1 X11 X68 X69 X70 X109 X110 X111:IV) (B L:List Rd) (kk:List AI) (hb:L.length+B.length<=1000000000)
  (h:QP Tryz.prog K (FnF (Zb [ZY.tmp 4] r)) c72_b1 [0,1,5,10,11,13,68,69,70,109,110,111,115,116,117] [5] kk
    [(0,.iv X0),(1,.iv X1),(5,AV.aref 5 (L++B.map (Rd.bin o a)).length),(10,AV.iv (.str w)),(11,.iv X11),(13,AV.iv (enc a)),(68,.iv X68),(69,.iv X69),(70,.iv X70),(109,.iv X109),(110,.iv X110),(111,.iv X111),(115,AV.iv (rds B)),(116,AV.iv (.int .i64 (B.length:Nat))),(117,AV.iv (.int .i64 (B.length:Nat)))] (ob (L++B.map (Rd.bin o a)))) :
  QP Tryz.prog K (FnF (Zb [ZY.tmp 4] r)) c72_b1 [0,1,5,10,11,13,68,69,70,109,110,111,115,116,117] [5] kk
   [(0,.iv X0),(1,.iv X1),(5,AV.aref 5 L.length),(10,AV.iv (.str w)),(11,.iv X11),(13,AV.iv (enc a)),(68,.iv X68),(69,.iv X69),(70,.iv X70),(109,.iv X109),(110,.iv X110),(111,.iv X111),(115,AV.iv (rds B)),(116,AV.iv (.int .i64 (B.length:Nat))),(117,AV.iv (.int .i64 0))] (ob L):=by
 have:=XK (P:=Tryz.prog) (K:=K) (F:=FnF (Zb [ZY.tmp 4] r)) (c:=c72_b1) (ks:=[0,1,5,10,11,13,68,69,70,109,110,111,115,116,117]) (ids:=[5]) (k:=kk)
  (fun m=>[(0,.iv X0),(1,.iv X1),(5,AV.aref 5 (L++(B.take m).map (Rd.bin o a)).length),(10,AV.iv (.str w)),(11,.iv X11),(13,AV.iv (enc a)),(68,.iv X68),(69,.iv X69),(70,.iv X70),(109,.iv X109),(110,.iv X110),(111,.iv X111),(115,AV.iv (rds B)),(116,AV.iv (.int .i64 (B.length:Nat))),(117,AV.iv (.int .i64 (m:Nat)))])
  (fun m=>ob (L++(B.take m).map (Rd.bin o a))) B.length (by rw[QxM];exact h) (fun i hi ih=>?_)
 ·simpa using this
 ·have e1:L++(B.take (i+1)).map (Rd.bin o a)=(L++(B.take i).map (Rd.bin o a))++[Rd.bin o a B[i]]:=by
   rw[Qxt hi,QxV,<- QxJ];rfl
  have e2:(L++(B.take i).map (Rd.bin o a)).length<=1000000000:=by
   simp;omega
  rw[e1] at ih;generalize L++(B.take i).map (Rd.bin o a)=Y at *;rw[Qa Go.Pf.c72_b1.eq_1];simp[QeZ,<- hw] at ih;simp[hi];exact ⟨by omega,by omega,ih⟩
theorem QsR (o:Op) (w:W) (hw:w=o.word) (X0 X1 X68 X69 X70:IV) (A B L:List Rd) (kk:List AI) (hA:A.length<=323) (hB:B.length<=323) (hL:L.length<=9000000)
  (h:QP Tryz.prog K (FnF (Zb [ZY.tmp 4] r)) c72_b2 [0,1,5,10,11,68,69,70,109,110,111] [5] kk
    [(0,.iv X0),(1,.iv X1),(5,AV.aref 5 (L++QM o A B).length),(10,AV.iv (.str w)),(11,.iv (rds B)),(68,.iv X68),(69,.iv X69),(70,.iv X70),(109,.iv (rds A)),(110,AV.iv (.int .i64 (A.length:Nat))),(111,AV.iv (.int .i64 (A.length:Nat)))] (ob (L++QM o A B))) :
  QP Tryz.prog K (FnF (Zb [ZY.tmp 4] r)) c72_b2 [0,1,5,10,11,68,69,70,109,110,111] [5] kk
   [(0,.iv X0),(1,.iv X1),(5,AV.aref 5 L.length),(10,AV.iv (.str w)),(11,.iv (rds B)),(68,.iv X68),(69,.iv X69),(70,.iv X70),(109,.iv (rds A)),(110,AV.iv (.int .i64 (A.length:Nat))),(111,AV.iv (.int .i64 0))] (ob L):=by
 have:=XK (P:=Tryz.prog) (K:=K) (F:=FnF (Zb [ZY.tmp 4] r)) (c:=c72_b2) (ks:=[0,1,5,10,11,68,69,70,109,110,111]) (ids:=[5]) (k:=kk)
  (fun m=>[(0,.iv X0),(1,.iv X1),(5,AV.aref 5 (L++QM o (A.take m) B).length),(10,AV.iv (.str w)),(11,.iv (rds B)),(68,.iv X68),(69,.iv X69),(70,.iv X70),(109,.iv (rds A)),(110,AV.iv (.int .i64 (A.length:Nat))),(111,AV.iv (.int .i64 (m:Nat)))])
  (fun m=>ob (L++QM o (A.take m) B)) A.length (by rw[QxM];exact h) (fun i hi ih=>?_)
 ·simpa[QM] using this
 ·have e2:(L++QM o (A.take i) B).length<=100000000:=by
   rw[Qxy,YH,QyE,Qx2 (by omega)]
   have:=QyM (show i<=323 by omega) hB
   omega
  rw[W0 o A B i hi,<- QxJ] at ih;generalize L++QM o (A.take i) B=Y at *;rw[Qa Go.Pf.c72_b2.eq_1];simp[hi];intro _
  have:=QlJ (K:=K) (r:=r) o w hw A[i] X0 X1 (rds B) X68 X69 X70 (rds A) (.int .i64 (A.length:Nat)) (.int .i64 (i:Nat)) B Y
   (AI.inBlock 6::.inBlock 5::.code (.ops [⟨some 130,none,.bin .add (.t 111) (.int .i64 1)⟩,⟨some 111,none,.mov (.t 130)⟩] false)::.inLoop c72_b2 [0,1,5,10,11,68,69,70,109,110,111] [5]::kk) (by omega) ?_
  ·simpa using this
  ·rw[Qa Go.Pf.c72_b1.eq_1]
   simp at ih |-;exact ⟨by omega,ih⟩
theorem QsN (X0 X1:IV) (A:List Rd) (kk:List AI) (hA:A.length<=323)
  (h:QP Tryz.prog K (FnF (Zb [ZY.tmp 4] r)) c72_b0 [0,1,5,55,56,57] [5] kk
    [(0,.iv X0),(1,.iv X1),(5,AV.aref 5 (A.map Rd.no).length),(55,.iv (rds A)),(56,AV.iv (.int .i64 (A.length:Nat))),(57,AV.iv (.int .i64 (A.length:Nat)))] (ob (A.map Rd.no))) :
  QP Tryz.prog K (FnF (Zb [ZY.tmp 4] r)) c72_b0 [0,1,5,55,56,57] [5] kk
   [(0,.iv X0),(1,.iv X1),(5,AV.aref 5 0),(55,.iv (rds A)),(56,AV.iv (.int .i64 (A.length:Nat))),(57,AV.iv (.int .i64 0))] (ob []):=by
 have:=XK (P:=Tryz.prog) (K:=K) (F:=FnF (Zb [ZY.tmp 4] r)) (c:=c72_b0) (ks:=[0,1,5,55,56,57]) (ids:=[5]) (k:=kk)
  (fun m=>[(0,.iv X0),(1,.iv X1),(5,AV.aref 5 ((A.take m).map Rd.no).length),(55,.iv (rds A)),(56,AV.iv (.int .i64 (A.length:Nat))),(57,AV.iv (.int .i64 (m:Nat)))])
  (fun m=>ob ((A.take m).map Rd.no)) A.length (by rw[QxM];exact h) (fun i hi ih=>?_)
 ·simpa using this
 ·have e1:(A.take (i+1)).map Rd.no=(A.take i).map Rd.no++[Rd.no A[i]]:=by
   rw[Qxt hi,QxV];rfl
  have e2:((A.take i).map Rd.no).length<=323:=by
   simp;omega
  rw[e1] at ih;generalize (A.take i).map Rd.no=Y at *;rw[Qa Go.Pf.c72_b0.eq_1];simp[QeZ,Qe8] at ih;simp[hi];exact ⟨by omega,by omega,ih⟩
variable (hK:∀ w w',K w->Below w.heap.size w w'->K w')
include hK
theorem QkG (n:Nat) (hn:n<=6):∀ (k:Nat),k<=9->∀ ws:List W,ws.length<=k->Ev.Good Tryz.prog K 72 [strs ws,.int .i64 n] (rds (rdg n k ws))
 | 0,_,ws,hw=>by
   have:ws=[]:=List.length_eq_zero_iff.1 (by omega)
   subst this;refine Qb hK c72_ok (by simp) ?_
   simp[rdg];rw[Qa Go.Pf.c72_b3.eq_1];simp
 | k+1,hk,ws,hw=>by
   have IH:=QkG n hn k (by omega)
   have small:∀ ws:List W,ws.length<=k->(rdg n k ws).length<=323:=fun ws h=>UJ (by omega) (by omega)
   refine Qb hK c72_ok (by simp) ?_
   generalize hf:rdg n k=f at *
   have outer:QP Tryz.prog K (FnF (Zb [ZY.tmp 4] (rds (Q3 f ws ws.length)))) c72_b3 [0,1,5,68,69,70] [5] [AI.inBlock 2,AI.code (.seq (.ops [⟨some 132,none,.mov (.t 5)⟩,⟨some 4,none,.mov (.t 132)⟩] false) .ret)]
     [(0,.iv (strs ws)),(1,.iv (.int .i64 n)),(5,.aref 5 (ZH f ws).length),(68,.iv (strs ws)),(69,.iv (.int .i64 (ws.length:Nat))),(70,.iv (.int .i64 0))] (ob (ZH f ws)):=by
    have:=XK (P:=Tryz.prog) (K:=K) (F:=FnF (Zb [ZY.tmp 4] (rds (Q3 f ws ws.length)))) (c:=c72_b3) (ks:=[0,1,5,68,69,70]) (ids:=[5]) (k:=[AI.inBlock 2,AI.code (.seq (.ops [⟨some 132,none,.mov (.t 5)⟩,⟨some 4,none,.mov (.t 132)⟩] false) .ret)])
     (fun i=>[(0,.iv (strs ws)),(1,.iv (.int .i64 n)),(5,.aref 5 (Q3 f ws i).length),(68,.iv (strs ws)),(69,.iv (.int .i64 (ws.length:Nat))),(70,.iv (.int .i64 (i:Nat)))])
     (fun i=>ob (Q3 f ws i)) ws.length ?_ (fun i hi ih=>?_)
    ·simpa[Q3] using this
    ·rw[Qa Go.Pf.c72_b3.eq_1]
     simp
    ·have e1:Q3 f ws (i+1)=Q3 f ws i++Q4 f ws i:=by
      simp[Q3,Qye]
     have e2:(Q3 f ws i).length<=8000000:=by
      have h1:(ZH f ws).length<=323:=by
       unfold ZH;split
       ·rw[QxB]
        exact small _ (by simp;omega)
       ·simp
      have h2:((List.range i).flatMap (Q4 f ws)).length<=i*(323*323):=by
       refine Qx7 (Zf _ (323*323) _ fun x hx=>?_) (by simp)
       simp at hx;unfold Q4;split
       ·simp
       ·split
        ·simp
        ·rw[YH]
         exact QyM (small _ (by simp;omega)) (small _ (by simp;omega))
      simp only[Q3,Qxy];omega
     rw[e1] at ih;generalize Q3 f ws i=Y at *;rw[Qa Go.Pf.c72_b3.eq_1]
     have skip:Q4 f ws i=[]->QP Tryz.prog K (FnF (Zb [ZY.tmp 4] (rds (Q3 f ws ws.length)))) c72_b3 [0,1,5,68,69,70] [5] [AI.inBlock 2,AI.code (.seq (.ops [⟨some 132,none,.mov (.t 5)⟩,⟨some 4,none,.mov (.t 132)⟩] false) .ret)]
       [(0,.iv (strs ws)),(1,.iv (.int .i64 n)),(5,.aref 5 Y.length),(68,.iv (strs ws)),(69,.iv (.int .i64 (ws.length:Nat))),(70,.iv (.int .i64 ((i:Int)+1)))] (ob Y):=by
      intro h;rw[h] at ih;simpa using ih
     have go:∀ o:Op,ws[i]=o.word->¬ i=0->¬ i+1=ws.length->QP Tryz.prog K (FnF (Zb [ZY.tmp 4] (rds (Q3 f ws ws.length)))) c72_b2 [0,1,5,10,11,68,69,70,109,110,111] [5]
       [.inBlock 4,.inBlock 3,.code (.ops [⟨some 131,none,.bin .add (.t 70) (.int .i64 1)⟩,⟨some 70,none,.mov (.t 131)⟩] false),.inLoop c72_b3 [0,1,5,68,69,70] [5],AI.inBlock 2,AI.code (.seq (.ops [⟨some 132,none,.mov (.t 5)⟩,⟨some 4,none,.mov (.t 132)⟩] false) .ret)]
       [(0,.iv (strs ws)),(1,.iv (.int .i64 n)),(5,.aref 5 Y.length),(10,.iv (.str ws[i])),(11,.iv (rds (f (ws.drop (i+1))))),(68,.iv (strs ws)),(69,.iv (.int .i64 (ws.length:Nat))),(70,.iv (.int .i64 (i:Nat))),
         (109,.iv (rds (f (ws.take i)))),(110,.iv (.int .i64 ((f (ws.take i)).length:Nat))),(111,.iv (.int .i64 0))] (ob Y):=by
      intro o ho c0 c1
      have e3:Q4 f ws i=QM o (f (ws.take i)) (f (ws.drop (i+1))):=by
       have:QfO ws[i]=some o:=by rw[ho];cases o<;>rfl
       simp[Q4,c0,c1,hi,this]
      rw[e3] at ih;refine QsR o ws[i] ho (strs ws) (.int .i64 n) (strs ws) (.int .i64 (ws.length:Nat)) (.int .i64 (i:Nat)) _ _ Y _ (small _ (by simp;omega)) (small _ (by simp;omega)) (by omega) ?_
      rw[Qa Go.Pf.c72_b2.eq_1];simp at ih |-;exact ⟨by omega,ih⟩
     have hst:∀ o:Op,ws[i]=o.word->f (ws.drop (i+1))=[]->Q4 f ws i=[]:=by
      intro o ho he;have:QfO ws[i]=some o:=by rw[ho];cases o<;>rfl
      simp[Q4,hi,this,he,QM]
     simp[hi];refine ⟨fun c0 hl=>⟨by omega,fun c1=>⟨fun ca=>⟨fun co=>⟨fun ci=>?s1,fun ci=>⟨by omega,by omega,fun _=>?g1⟩⟩,fun co=>⟨by omega,by omega,fun _=>?g2⟩⟩,fun ca=>⟨by omega,by omega,fun _=>?g3⟩⟩,fun c1=>?s2⟩,fun c0=>?s3⟩
     case s1 =>
      refine ⟨by omega,skip ?_⟩
      have:QfO ws[i]=none:=by simp[QfO,ca,co,ci]
      simp[Q4,hi,this]
     case s2 =>
      have c1':i+1=ws.length:=by omega
      exact ⟨by omega,skip (by simp[Q4,c1'])⟩
     case s3=>exact ⟨by omega,skip (by simp[Q4,c0])⟩
     case g1 =>
      rw[<- QyU];refine Qk (IH (ws.drop (i+1)) (by simp;omega)) (by simp) ?_
      simp;intro _;refine ⟨fun e=>⟨by omega,skip (hst .ifw ci e)⟩,fun e=>⟨by omega,fun _=>?_⟩⟩
      rw[<- QyT];refine Qk (IH (ws.take i) (by simp;omega)) (by simp) ?_
      simp;intro _;have:=go .ifw ci c0 (by omega)
      simpa using this
     case g2 =>
      rw[<- QyU];refine Qk (IH (ws.drop (i+1)) (by simp;omega)) (by simp) ?_
      simp;intro _;refine ⟨fun e=>⟨by omega,skip (hst .or co e)⟩,fun e=>⟨by omega,fun _=>?_⟩⟩
      rw[<- QyT];refine Qk (IH (ws.take i) (by simp;omega)) (by simp) ?_
      simp;intro _;have:=go .or co c0 (by omega)
      simpa using this
     case g3 =>
      rw[<- QyU];refine Qk (IH (ws.drop (i+1)) (by simp;omega)) (by simp) ?_
      simp;intro _;refine ⟨fun e=>⟨by omega,skip (hst .and ca e)⟩,fun e=>⟨by omega,fun _=>?_⟩⟩
      rw[<- QyT];refine Qk (IH (ws.take i) (by simp;omega)) (by simp) ?_
      simp;intro _;have:=go .and ca c0 (by omega)
      simpa using this
   rcases ws with _ | ⟨w0,_ | ⟨w1,rest⟩⟩
   ·have h3:ZH f []=[]:=by simp[ZH]
    rw[h3] at outer;have h4:rdg n (k+1) []=Q3 f [] 0:=by simp[rdg,Xc,hf]
    rw[h4];simp at outer |-;exact outer
   ·have h3:ZH f [w0]=[]:=by simp[ZH]
    rw[h3] at outer
    have go:Xc n [w0]=none->QP Tryz.prog K (FnF (Zb [ZY.tmp 4] (rds (rdg n (k+1) [w0])))) c72_b3 [0,1,5,68,69,70] [5] [AI.inBlock 2,AI.code (.seq (.ops [⟨some 132,none,.mov (.t 5)⟩,⟨some 4,none,.mov (.t 132)⟩] false) .ret)]
     [(0,.iv (strs [w0])),(1,.iv (.int .i64 n)),(5,.aref 5 0),(68,.iv (strs [w0])),(69,.iv (.int .i64 1)),(70,.iv (.int .i64 0))] (ob []):=by
     intro h;have h4:rdg n (k+1) [w0]=Q3 f [w0] 1:=by simp[rdg,h,hf]
     rw[h4];exact outer
    rcases w0 with _ | ⟨c,_ | ⟨d,w0⟩⟩
    ·simp at go |-
     exact go rfl
    ·have h6:c.toNat<256:=c.toNat_lt
     by_cases h7:97<=c.toNat/\c.toNat-97<n
     ·have h8:IntKind.wrap .i64 (c.toNat:Int)=c.toNat:=wrap_i64 (by omega) (by omega)
      have h9:rdg n (k+1) [[c]]=[.fact (c.toNat-97)]:=by simp[rdg,Xc,h7]
      have h10:(97:Int)<=c.toNat:=by omega
      have h11:(c.toNat:Int)-97<n:=by omega
      have h12:((c.toNat-97:Nat):Int)=(c.toNat:Int)-97:=by omega
      rw[h9];simp[h8,h10,h11,QeZ,h12];omega
     ·have h8:IntKind.wrap .i64 (c.toNat:Int)=c.toNat:=wrap_i64 (by omega) (by omega)
      have go':=go (by simp[Xc];omega)
      simp[h8] at go' |-;refine ⟨by omega,fun a=>⟨fun b=>absurd ⟨by omega,by omega⟩ h7,fun _=>go'⟩,fun _=>go'⟩
    ·have go':=go rfl
     simp at go' |-;exact ⟨fun h=>by omega,fun _=>go'⟩
   ·have h4:rdg n (k+1) (w0::w1::rest)=Q3 f (w0::w1::rest) (w0::w1::rest).length:=by simp[rdg,Xc,hf]
    have h5:(1:Int)<(rest.length:Int)+1+1:=by omega
    have h6:¬ (rest.length:Int)+1+1=1:=by omega
    rw[h4];by_cases h2:w0=Qe8
    ·have h3:ZH f (w0::w1::rest)=(f (w1::rest)).map .no:=by simp[ZH,h2]
     rw[h3] at outer;have h7:((rest.length:Int)+1+1).toNat=rest.length+2:=by omega
     have h8:=small (w1::rest) (by simp at hw |-;omega)
     simp[Qe8] at h2;simp[h2,h5,h6,h7];refine fun _=>⟨by omega,fun _=>?_⟩
     refine Qk (IH (w1::rest) (by simp at hw |-;omega)) (by simp) ?_
     simp;intro _;refine QsN _ _ _ _ h8 ?_;rw[Qa Go.Pf.c72_b0.eq_1];subst h2;simp at outer |-;exact fun _=>outer
    ·have h3:ZH f (w0::w1::rest)=[]:=by simp[ZH,h2]
     rw[h3] at outer;simp[Qe8] at h2;simp at outer;simp[h2,h5,h6];exact fun _=>outer
end
end Go.Pp
namespace Go.Pp
open Go Go.Ev Go.Proofs Go.RowKit
open Go.Pf (c41_b0 c41_b1 c41_b2 c41_b3 c41_b4 c41_ok)
def tset:Rd->Nat
 | .fact n=>Zo n 64
 | .no r=>18446744073709551615 ^^^ tset r
 | .bin o a b=>Qgb o.word (tset a) (tset b)
theorem tset_lt:∀ r:Rd,tset r<2 ^ 64
 | .fact n=>qd n 64 (by omega)
 | .no r=>Nat.xor_lt_two_pow (by omega) (tset_lt r)
 | .bin o a b=>by
   have ha:=tset_lt a;have hb:=tset_lt b;simp only[tset,Qgb];split
   ·exact Nat.and_lt_two_pow _ hb
   ·split
    ·exact QyP ha hb
    ·exact QyP ha (Nat.xor_lt_two_pow (by omega) hb)
@[simp] def Qxh (r:Rd):List IV:=[.str (text r),.int .u64 (tset r:Nat)]
@[simp] def rrs (L:List Rd):IV:=.sl 2 (L.map fun r=>[.str (text r),.int .u64 (tset r:Nat)])
@[simp] def ob2 (L:List Rd):Qh:=[(5,AO.arr 58 2 (emb (L.map fun r=>[.str (text r),.int .u64 (tset r:Nat)])) 0)]
theorem Uc (n:Nat):∀ (k:Nat) (ws:List W) (r:Rd),r∈rdg n k ws->(text r).length<=9*ws.length
 | 0,ws,r=>by simp[rdg]
 | k+1,ws,r=>by
   simp only[rdg];split
   ·rename_i m hm
    have:=(qe hm).1;intro h;simp at h;subst h;simp[text,this]
   ·intro h
    simp only[Q3,QxI] at h;rcases h with h | h
    ·unfold ZH at h
     split at h
     ·rename_i hc
      rw[QxR] at h;obtain ⟨a,ha,rfl⟩:=h;have:=Uc n k _ a ha;simp[text] at this |-;omega
     ·simp at h
    ·rw[QxZ] at h
     obtain ⟨i,hi,h⟩:=h;simp at hi;unfold Q4 at h;split at h
     ·simp at h
     ·split at h
      ·simp at h
      ·rename_i o _
       unfold QM at h;rw[QxZ] at h;obtain ⟨a,ha,h⟩:=h;rw[QxR] at h;obtain ⟨b,hb,rfl⟩:=h;have h1:=Uc n k _ a ha;have h2:=Uc n k _ b hb;have h3:o.word.length<=3:=by cases o<;>decide
       simp[text] at h1 h2 |-;omega
theorem Qa2 {w:W} {o:Op} (h:QfO w=some o):w=o.word:=by
 unfold QfO at h;split at h
 ·injection h with h;subst h;assumption
 ·split at h
  ·injection h with h;subst h;assumption
  ·split at h
   ·injection h with h;subst h;assumption
   ·cases h
def Y6 (w:W) (n:Nat):List Rd:=((List.range n).filter fun m=>decide (w=[UInt8.ofNat (97+m)])).map Rd.fact
theorem qf (w:W) (n:Nat):Y6 w (n+1)=Y6 w n++(if w=[UInt8.ofNat (97+n)] then [.fact n] else []):=by
 simp only[Y6,Qye,List.filter_append,QxV]
 congr 1
 by_cases h:w=[UInt8.ofNat (97+n)]
 ·rw[if_pos h]
  simp only[List.filter_cons,decide_eq_true h,if_true,List.filter_nil,QxN,List.map_nil]
 ·rw[if_neg h]
  simp only[List.filter_cons,decide_eq_false h,List.filter_nil,QxQ,if_false,List.map_nil]
theorem Qbp (w:W) (n:Nat):(Y6 w n).length<=n:=by
 have:=Qx0 (fun m=>decide (w=[UInt8.ofNat (97+m)])) (List.range n)
 simpa[Y6] using this
theorem Qd0 (w:W):∀ n,n<=6->Y6 w n=(match Xc n [w] with | some m=>[.fact m] | none=>[])
 | 0,_=>by
   rcases w with _ | ⟨c,_ | ⟨d,w⟩⟩<;>simp[Y6,Xc]
 | n+1,h=>by
   rw[qf,Qd0 w n (by omega)]
   rcases w with _ | ⟨c,_ | ⟨d,w⟩⟩
   ·simp[Xc]
   ·have h1:c=UInt8.ofNat (97+n)↔c.toNat=97+n:=by
     rw[<- UInt8.toNat_inj];simp;omega
    simp only[Xc,List.cons.injEq,and_true,h1];by_cases h2:97<=c.toNat/\c.toNat-97<n
    ·have h3:97<=c.toNat/\c.toNat-97<n+1:=by omega
     have h4:¬ c.toNat=97+n:=by omega
     rw[if_pos h2,if_pos h3,if_neg h4];simp
    ·by_cases h4:c.toNat=97+n
     ·have h3:97<=c.toNat/\c.toNat-97<n+1:=by omega
      have h5:c.toNat-97=n:=by omega
      rw[if_neg h2,if_pos h3,if_pos h4];simp[h5]
     ·have h3:¬ (97<=c.toNat/\c.toNat-97<n+1):=by omega
      rw[if_neg h2,if_neg h3,if_neg h4];simp
   ·simp[Xc]
section
variable {K:World->Prop} {r:IV}
theorem QsO (X0 X1:IV) (A:List Rd) (kk:List AI) (hA:A.length<=323) (hT:∀ a∈A,(text a).length<=1000)
  (h:QP Tryz.prog K (FnF (Zb [ZY.tmp 4] r)) c41_b1 [0,1,5,7,8] [5] kk
    [(0,.iv X0),(1,.iv X1),(5,AV.aref 5 (A.map Rd.no).length),(7,.iv (rrs A)),(8,AV.iv (.int .i64 (A.length:Nat)))] (ob2 (A.map Rd.no))) :
  QP Tryz.prog K (FnF (Zb [ZY.tmp 4] r)) c41_b1 [0,1,5,7,8] [5] kk
   [(0,.iv X0),(1,.iv X1),(5,AV.aref 5 0),(7,.iv (rrs A)),(8,AV.iv (.int .i64 0))] (ob2 []):=by
 have:=XK (P:=Tryz.prog) (K:=K) (F:=FnF (Zb [ZY.tmp 4] r)) (c:=c41_b1) (ks:=[0,1,5,7,8]) (ids:=[5]) (k:=kk)
  (fun m=>[(0,.iv X0),(1,.iv X1),(5,AV.aref 5 ((A.take m).map Rd.no).length),(7,.iv (rrs A)),(8,AV.iv (.int .i64 (m:Nat)))])
  (fun m=>ob2 ((A.take m).map Rd.no)) A.length (by rw[QxM];exact h) (fun i hi ih=>?_)
 ·simpa using this
 ·have e1:(A.take (i+1)).map Rd.no=(A.take i).map Rd.no++[Rd.no A[i]]:=by
   rw[Qxt hi,QxV];rfl
  have e2:((A.take i).map Rd.no).length<=323:=by
   simp;omega
  have e3:=hT _ (Qxx hi);have e4:=Qfe 18446744073709551615 (tset A[i]) (by omega) (tset_lt _)
  rw[e1] at ih;generalize (A.take i).map Rd.no=Y at *;rw[Qa Go.Pf.c41_b1.eq_1];simp[tset,text] at ih e4;simp[hi,e4];intro _;exact ⟨by omega,by omega,by omega,by omega,ih⟩
variable (hK:∀ w w',K w->Below w.heap.size w w'->K w')
include hK
theorem QlK (o:Op) (ws:List W) (at':Nat) (hat:at'<ws.length) (hw:ws[at']=o.word) (X1:IV) (A B L:List Rd) (j:Nat) (hj:j<A.length) (kk:List AI) (hb:L.length+B.length<=1000000000)
  (hA:∀ a∈A,(text a).length<=1000) (hB:∀ a∈B,(text a).length<=1000)
  (h:QP Tryz.prog K (FnF (Zb [ZY.tmp 4] r)) c41_b2 [0,1,5,9,10,11,12,13] [5] kk
    [(0,.iv (strs ws)),(1,.iv X1),(5,AV.aref 5 (L++B.map (Rd.bin o A[j])).length),(9,.iv (.int .i64 (at':Nat))),(10,.iv (rrs A)),(11,.iv (rrs B)),(12,.iv (.int .i64 (j:Nat))),(13,.iv (.int .i64 (B.length:Nat)))] (ob2 (L++B.map (Rd.bin o A[j])))) :
  QP Tryz.prog K (FnF (Zb [ZY.tmp 4] r)) c41_b2 [0,1,5,9,10,11,12,13] [5] kk
   [(0,.iv (strs ws)),(1,.iv X1),(5,AV.aref 5 L.length),(9,.iv (.int .i64 (at':Nat))),(10,.iv (rrs A)),(11,.iv (rrs B)),(12,.iv (.int .i64 (j:Nat))),(13,.iv (.int .i64 0))] (ob2 L):=by
 have:=XK (P:=Tryz.prog) (K:=K) (F:=FnF (Zb [ZY.tmp 4] r)) (c:=c41_b2) (ks:=[0,1,5,9,10,11,12,13]) (ids:=[5]) (k:=kk)
  (fun m=>[(0,.iv (strs ws)),(1,.iv X1),(5,AV.aref 5 (L++(B.take m).map (Rd.bin o A[j])).length),(9,.iv (.int .i64 (at':Nat))),(10,.iv (rrs A)),(11,.iv (rrs B)),(12,.iv (.int .i64 (j:Nat))),(13,.iv (.int .i64 (m:Nat)))])
  (fun m=>ob2 (L++(B.take m).map (Rd.bin o A[j]))) B.length (by rw[QxM];exact h) (fun i hi ih=>?_)
 ·simpa using this
 ·have e1:L++(B.take (i+1)).map (Rd.bin o A[j])=(L++(B.take i).map (Rd.bin o A[j]))++[Rd.bin o A[j] B[i]]:=by
   rw[Qxt hi,QxV,<- QxJ];rfl
  have e2:(L++(B.take i).map (Rd.bin o A[j])).length<=1000000000:=by
   simp;omega
  have e3:=hA _ (Qxx hj);have e4:=hB _ (Qxx hi);have e5:o.word.length<=3:=by cases o<;>decide
  rw[e1] at ih;generalize L++(B.take i).map (Rd.bin o A[j])=Y at *;rw[Qa Go.Pf.c41_b2.eq_1];simp[tset,text] at ih;simp[hi,hj,hat,hw];intro _;refine ⟨by omega,by omega,by omega,by omega,by omega,by omega,?_⟩
  refine Qk (Qp8 hK o.word (tset A[j]) (tset B[i]) (tset_lt _) (tset_lt _)) (by simp) ?_
  simp;exact ⟨by omega,by omega,ih⟩
theorem QsS (o:Op) (ws:List W) (at':Nat) (hat:at'<ws.length) (hw:ws[at']=o.word) (X1:IV) (A B L:List Rd) (kk:List AI) (hA:A.length<=323) (hB:B.length<=323) (hL:L.length<=9000000)
  (hTA:∀ a∈A,(text a).length<=1000) (hTB:∀ a∈B,(text a).length<=1000)
  (h:QP Tryz.prog K (FnF (Zb [ZY.tmp 4] r)) c41_b3 [0,1,5,9,10,11,12] [5] kk
    [(0,.iv (strs ws)),(1,.iv X1),(5,AV.aref 5 (L++QM o A B).length),(9,.iv (.int .i64 (at':Nat))),(10,.iv (rrs A)),(11,.iv (rrs B)),(12,.iv (.int .i64 (A.length:Nat)))] (ob2 (L++QM o A B))) :
  QP Tryz.prog K (FnF (Zb [ZY.tmp 4] r)) c41_b3 [0,1,5,9,10,11,12] [5] kk
   [(0,.iv (strs ws)),(1,.iv X1),(5,AV.aref 5 L.length),(9,.iv (.int .i64 (at':Nat))),(10,.iv (rrs A)),(11,.iv (rrs B)),(12,.iv (.int .i64 0))] (ob2 L):=by
 have:=XK (P:=Tryz.prog) (K:=K) (F:=FnF (Zb [ZY.tmp 4] r)) (c:=c41_b3) (ks:=[0,1,5,9,10,11,12]) (ids:=[5]) (k:=kk)
  (fun m=>[(0,.iv (strs ws)),(1,.iv X1),(5,AV.aref 5 (L++QM o (A.take m) B).length),(9,.iv (.int .i64 (at':Nat))),(10,.iv (rrs A)),(11,.iv (rrs B)),(12,.iv (.int .i64 (m:Nat)))])
  (fun m=>ob2 (L++QM o (A.take m) B)) A.length (by rw[QxM];exact h) (fun i hi ih=>?_)
 ·simpa[QM] using this
 ·have e2:(L++QM o (A.take i) B).length<=100000000:=by
   rw[Qxy,YH,QyE,Qx2 (by omega)]
   have:=QyM (show i<=323 by omega) hB
   omega
  rw[W0 o A B i hi,<- QxJ] at ih;generalize L++QM o (A.take i) B=Y at *;rw[Qa Go.Pf.c41_b3.eq_1];simp[hi];intro _
  have:=QlK (K:=K) (r:=r) hK o ws at' hat hw X1 A B Y i hi
   (AI.inBlock 8::.inBlock 7::.code (.ops [⟨some 105,none,.mov (.t 12)⟩,⟨some 106,none,.bin .add (.t 105) (.int .i64 1)⟩,⟨some 12,none,.mov (.t 106)⟩] false)::.inLoop c41_b3 [0,1,5,9,10,11,12] [5]::kk) (by omega) hTA hTB ?_
  ·simpa using this
  ·rw[Qa Go.Pf.c41_b2.eq_1]
   simp at ih |-;exact fun _=>⟨by omega,ih⟩
theorem Qqx (w:W) (n:Nat) (hn:n<=6) (kk:List AI)
  (h:QP Tryz.prog K (FnF (Zb [ZY.tmp 4] r)) c41_b0 [0,1,5,6] [5] kk
    [(0,.iv (strs [w])),(1,.iv (.int .i64 n)),(5,AV.aref 5 (Y6 w n).length),(6,AV.iv (.int .i64 n))] (ob2 (Y6 w n))) :
  QP Tryz.prog K (FnF (Zb [ZY.tmp 4] r)) c41_b0 [0,1,5,6] [5] kk
   [(0,.iv (strs [w])),(1,.iv (.int .i64 n)),(5,AV.aref 5 0),(6,AV.iv (.int .i64 0))] (ob2 []):=by
 have:=XK (P:=Tryz.prog) (K:=K) (F:=FnF (Zb [ZY.tmp 4] r)) (c:=c41_b0) (ks:=[0,1,5,6]) (ids:=[5]) (k:=kk)
  (fun m=>[(0,.iv (strs [w])),(1,.iv (.int .i64 n)),(5,AV.aref 5 (Y6 w m).length),(6,AV.iv (.int .i64 (m:Nat)))])
  (fun m=>ob2 (Y6 w m)) n h (fun i hi ih=>?_)
 ·simpa[Y6] using this
 ·have e2:=Qbp w i
  have e3:IntKind.wrap .u8 (97+(i:Int))=97+i:=QkZ (by omega) (by omega)
  have e4:(97+(i:Int)).toNat=97+i:=by omega
  have e5:(97+i) % 256=97+i:=by omega
  have hi':(i:Int)<n:=by omega
  rw[qf] at ih;rw[Qa Go.Pf.c41_b0.eq_1];by_cases hw:w=[UInt8.ofNat (97+i)]
  ·rw[if_pos hw] at ih
   generalize hY:Y6 w i=Y at *;simp[hi',e3,e4,bytesOf,byteOf,Z4];refine ⟨by omega,by omega,fun _=>?_,fun e=>?_⟩
   ·refine Qk (Qqa hK i (by omega)) (by simp) ?_
    have e6:text (Rd.fact i)=w:=hw.symm;have e7:tset (Rd.fact i)=Zo i 64:=rfl;simp[e6,e7] at ih |-;exact ⟨by omega,by omega,ih⟩
   ·exact absurd (by simpa using hw) e
  ·rw[if_neg hw] at ih
   simp[hi',e3,e4,bytesOf,Z4];refine ⟨by omega,by omega,fun e=>?_,fun e=>⟨by omega,?_⟩⟩
   ·exact absurd (by simpa using e) hw
   ·simpa using ih
theorem QkI (n:Nat) (hn:n<=6):∀ (k:Nat),k<=9->∀ ws:List W,ws.length<=k->Ev.Good Tryz.prog K 41 [strs ws,.int .i64 n] (rrs (rdg n k ws))
 | 0,_,ws,hw=>by
   have:ws=[]:=List.length_eq_zero_iff.1 (by omega)
   subst this;refine Qb hK c41_ok (by simp) ?_
   simp[rdg];rw[Qa Go.Pf.c41_b4.eq_1];simp
 | k+1,hk,ws,hw=>by
   have IH:=QkI n hn k (by omega)
   have small:∀ ws:List W,ws.length<=k->(rdg n k ws).length<=323:=fun ws h=>UJ (by omega) (by omega)
   have tex:∀ ws:List W,ws.length<=k->∀ a∈rdg n k ws,(text a).length<=1000:=fun ws h a ha=>by
    have:=Uc n k ws a ha;omega
   refine Qb hK c41_ok (by simp) ?_
   generalize hf:rdg n k=f at *
   have outer:2<=ws.length->QP Tryz.prog K (FnF (Zb [ZY.tmp 4] (rrs (Q3 f ws ws.length)))) c41_b4 [0,1,5,9] [5] [AI.inBlock 4,AI.code (.seq (.ops [⟨some 152,none,.mov (.t 5)⟩,⟨some 4,none,.mov (.t 152)⟩] false) .ret)]
     [(0,.iv (strs ws)),(1,.iv (.int .i64 n)),(5,.aref 5 (ZH f ws).length),(9,.iv (.int .i64 1))] (ob2 (ZH f ws)):=by
    intro h2;obtain ⟨m,hm⟩:∃ m,ws.length=m+2:=⟨ws.length-2,by omega⟩
    have:=XK (P:=Tryz.prog) (K:=K) (F:=FnF (Zb [ZY.tmp 4] (rrs (Q3 f ws ws.length)))) (c:=c41_b4) (ks:=[0,1,5,9]) (ids:=[5]) (k:=[AI.inBlock 4,AI.code (.seq (.ops [⟨some 152,none,.mov (.t 5)⟩,⟨some 4,none,.mov (.t 152)⟩] false) .ret)])
     (fun i=>[(0,.iv (strs ws)),(1,.iv (.int .i64 n)),(5,.aref 5 (Q3 f ws (i+1)).length),(9,.iv (.int .i64 ((i+1:Nat):Int)))])
     (fun i=>ob2 (Q3 f ws (i+1))) m ?_ (fun i hi ih=>?_)
    ·simpa[Q3,Q4,Qye] using this
    ·have e1:Q3 f ws (m+1)=Q3 f ws ws.length:=by
      have e3:Q4 f ws (m+1)=[]:=by simp[Q4,hm]
      rw[hm];simp only[Q3,Qye (n:=m+1),Qyx,Qx6,List.flatMap_nil,e3,Qyy]
     rw[e1];have e4:¬ ((m:Int)+1<(ws.length:Int)-1):=by omega
     rw[Qa Go.Pf.c41_b4.eq_1];generalize Q3 f ws ws.length=Y at *;simp[e4];omega
    ·have hi':i+1<ws.length:=by omega
     have e4:(i:Int)+1<(ws.length:Int)-1:=by omega
     have e1:Q3 f ws (i+1+1)=Q3 f ws (i+1)++Q4 f ws (i+1):=by
      simp[Q3,Qye]
     have e2:(Q3 f ws (i+1)).length<=8000000:=by
      have h1:(ZH f ws).length<=323:=by
       unfold ZH;split
       ·rw[QxB]
        exact small _ (by simp;omega)
       ·simp
      have h2:((List.range (i+1)).flatMap (Q4 f ws)).length<=(i+1)*(323*323):=by
       refine Qx7 (Zf _ (323*323) _ fun x hx=>?_) (by simp)
       simp at hx;unfold Q4;split
       ·simp
       ·split
        ·simp
        ·rw[YH]
         exact QyM (small _ (by simp;omega)) (small _ (by simp;omega))
      simp only[Q3,Qxy];omega
     rw[e1] at ih;generalize Q3 f ws (i+1)=Y at *;have e5:((i:Int)+1).toNat=i+1:=by omega
     rw[Qa Go.Pf.c41_b4.eq_1];simp[e4,hi',e5];intro _;refine ⟨by omega,by omega,?_⟩
     refine Qk (Qp9 hK ws[i+1]) (by simp) ?_
     simp;refine ⟨fun e=>⟨by omega,?_⟩,fun e=>⟨by omega,fun _=>?_⟩⟩
     ·have e6:QfO ws[i+1]=none:=by simpa[QlH] using e
      have e7:Q4 f ws (i+1)=[]:=by simp[Q4,hi',e6]
      rw[e7] at ih;simpa using ih
     ·obtain ⟨o,ho⟩:∃ o,QfO ws[i+1]=some o:=Qx1.1 e
      have e6:ws[i+1]=o.word:=Qa2 ho;have e7:((i:Int)+1+1).toNat=i+1+1:=by omega
      have c1:¬ i+1+1=ws.length:=by omega
      have e8:Q4 f ws (i+1)=QM o (f (ws.take (i+1))) (f (ws.drop (i+1+1))):=by
       simp[Q4,hi',ho,c1]
      rw[e8] at ih;rw[<- QyT];refine Qk (IH (ws.take (i+1)) (by simp;omega)) (by simp) ?_
      simp[e7];refine ⟨by omega,by omega,fun _=>?_⟩
      rw[<- QyU];refine Qk (IH (ws.drop (i+1+1)) (by simp;omega)) (by simp) ?_
      simp
      have:=QsS (K:=K) (r:=rrs (Q3 f ws ws.length)) hK o ws (i+1) hi' e6 (.int .i64 n) (f (ws.take (i+1))) (f (ws.drop (i+1+1))) Y
       [.inBlock 6,.inBlock 5,.code (.ops [⟨some 82,none,.mov (.t 9)⟩,⟨some 83,none,.bin .add (.t 82) (.int .i64 1)⟩,⟨some 9,none,.mov (.t 83)⟩] false),.inLoop c41_b4 [0,1,5,9] [5],AI.inBlock 4,AI.code (.seq (.ops [⟨some 152,none,.mov (.t 5)⟩,⟨some 4,none,.mov (.t 152)⟩] false) .ret)]
       (small _ (by simp;omega)) (small _ (by simp;omega)) (by omega) (tex _ (by simp;omega)) (tex _ (by simp;omega)) ?_
      ·simpa using this
      ·rw[Qa Go.Pf.c41_b3.eq_1]
       simp at ih |-;exact fun _=>⟨by omega,ih⟩
   rcases ws with _ | ⟨w0,_ | ⟨w1,rest⟩⟩
   ·have h4:rdg n (k+1) []=[]:=by simp[rdg,Xc,Q3,ZH]
    rw[h4];simp;rw[Qa Go.Pf.c41_b4.eq_1];simp
   ·have h4:rdg n (k+1) [w0]=Y6 w0 n:=by
     rw[Qd0 w0 n hn];have h5:Q3 (rdg n k) [w0] 1=[]:=by simp[Q3,ZH,Q4,Qye]
     simp only[rdg];split<;>simp_all
    rw[h4];have hl:=Qbp w0 n;simp;refine Qqx hK w0 n hn _ ?_;rw[Qa Go.Pf.c41_b0.eq_1];simp
   ·have h4:rdg n (k+1) (w0::w1::rest)=Q3 f (w0::w1::rest) (w0::w1::rest).length:=by simp[rdg,Xc,hf]
    have h5:(1:Int)<(rest.length:Int)+1+1:=by omega
    have h6:¬ (rest.length:Int)+1+1=1:=by omega
    have outer:=outer (by simp)
    rw[h4];by_cases h2:w0=Qe8
    ·have h3:ZH f (w0::w1::rest)=(f (w1::rest)).map .no:=by simp[ZH,h2]
     rw[h3] at outer;have h7:((rest.length:Int)+1+1).toNat=rest.length+2:=by omega
     have h8:=small (w1::rest) (by simp at hw |-;omega)
     have h9:=tex (w1::rest) (by simp at hw |-;omega)
     simp[Qe8] at h2;simp[h2,h5,h6,h7];refine fun _=>⟨by omega,fun _=>?_⟩
     refine Qk (IH (w1::rest) (by simp at hw |-;omega)) (by simp) ?_
     simp;refine QsO _ _ _ _ h8 h9 ?_;rw[Qa Go.Pf.c41_b1.eq_1];subst h2;simp at outer |-;exact fun _=>outer
    ·have h3:ZH f (w0::w1::rest)=[]:=by simp[ZH,h2]
     rw[h3] at outer;simp[Qe8] at h2;simp at outer;simp[h2,h5,h6];exact fun _=>outer
end
end Go.Pp
namespace Go.Pp
open Go Go.Ev Go.Proofs Go.RowKit
open Go.Pf (c42_b0 c42_b1 c42_b2 c42_ok)
def Yt (ts:List Nat) (i:Nat) (k:Int):List Nat:=if k=1 then ts.map (· ||| 2 ^ i) else if k=3 then ts++ts.map (· ||| 2 ^ i) else ts
def trN (fs:List Int):Nat->List Nat
 | 0=>[0]
 | i+1=>Yt (trN fs i) i (fs.getD i 0)
theorem QbN (fs:List Int):∀ i,(trN fs i).length<=2 ^ i
 | 0=>by simp[trN]
 | i+1=>by
   have:=QbN fs i;simp only[trN,Yt];rw[Nat.pow_succ];split
   ·simp;omega
   ·split
    ·simp;omega
    ·omega
theorem Qfj (fs:List Int):∀ i,∀ t∈trN fs i,t<2 ^ i
 | 0=>by simp[trN]
 | i+1=>by
   have ih:=Qfj fs i;have h1:∀ t∈trN fs i,t<2 ^ (i+1):=fun t ht=>QxP (ih t ht) (QxW (by omega) (by omega))
   have h2:∀ t∈(trN fs i).map (· ||| 2 ^ i),t<2 ^ (i+1):=by
    intro t ht;rw[QxR] at ht;obtain ⟨u,hu,rfl⟩:=ht;exact QyP (h1 u hu) (QyQ (by omega) (by omega))
   simp only[trN,Yt];split
   ·exact h2
   ·split
    ·intro t ht
     rcases QxI.1 ht with c | c
     ·exact h1 t c
     ·exact h2 t c
    ·exact h1
@[simp] def ob3 (T:List Nat) (mv n:Nat):Qh:=[(16,AO.arr 153 1 (emb (T.map fun t=>[.int .u64 (t:Nat)])) mv),(18,AO.box [.iv (.sl 1 []),.aref 16 n])]
def QeD (T:List Nat) (b m:Nat):List Nat:=(T.take m).map (· ||| b)++T.drop m
theorem Qiw (T:List Nat) (b m:Nat):(QeD T b m).length=T.length:=by
 simp[QeD];omega
theorem Qix (T:List Nat) (b m:Nat) (h:m<T.length):(QeD T b m)[m]?=some T[m]:=by
 unfold QeD;rw[QxD (by simp;omega)]
 simp[Qx2 (Nat.le_of_lt h),h]
theorem Qiv (T:List Nat) (b m:Nat) (h:m<T.length):(QeD T b m).set m (T[m] ||| b)=QeD T b (m+1):=by
 apply QyH;intro i;simp only[QeD,Qyh,List.getElem?_append,Qxz,QxU,Qyk,QxB,QyE,Qxy,List.length_drop];by_cases h1:m=i
 ·subst h1
  have h5:¬ T.length-m=0:=by omega
  simp[Qx2 (Nat.le_of_lt h),Qx2 (show m+1<=T.length from h),h,h5]
 ·by_cases h2:i<m
  ·have h3:i<m+1:=by omega
   simp[Qx2 (Nat.le_of_lt h),Qx2 (show m+1<=T.length from h),h1,h2,h3]
  ·have h3:¬ i<m+1:=by omega
   have h4:m+(i-m)=m+1+(i-(m+1)):=by omega
   simp[Qx2 (Nat.le_of_lt h),Qx2 (show m+1<=T.length from h),h1,h2,h3,h4]
def factsOk (fs:List Int):Bool:=fs.all (fun k=>decide (1<=k)&&decide (k<=3))&&decide (fs.length<=6)
def rs (s:W) (fs:List Int):List Rd:=if factsOk fs=true/\(spl s).length<=9 then rdg fs.length 9 (spl s) else []
def err (s:W) (fs:List Int):Int:=if factsOk fs=false then 130 else if rs s fs=[] then 131 else 0
def tru (fs:List Int):List Nat:=trN fs fs.length
def pap (s:W) (fs:List Int):IV:=if err s fs=0 then .ptr [rds (rs s fs),Qlu (tru fs)] else .nilp
section
variable {K:World->Prop} {r:IV}
theorem Qo5 (X1 X20 X21 X22:IV) (T:List Nat) (i mv:Nat) (hi:i<6) (hT:T.length<=64) (ht:∀ t∈T,t<64) (hm:mv<=T.length) (kk:List AI)
  (h:∀ mv,mv<=T.length->QP Tryz.prog K (FnF (Zb [ZY.tmp 2,ZY.tmp 3] r)) c42_b0 [1,4,7,20,21,22,36,37] [16,18] kk
    [(1,.iv X1),(4,.loc 18 0),(7,.iv (.int .u64 (2 ^ i:Nat))),(20,.iv X20),(21,.iv X21),(22,.iv X22),(36,.iv (.int .i64 (T.length:Nat))),(37,.iv (.int .i64 (T.length:Nat)))] (ob3 (T.map (· ||| 2 ^ i)) mv T.length)) :
  QP Tryz.prog K (FnF (Zb [ZY.tmp 2,ZY.tmp 3] r)) c42_b0 [1,4,7,20,21,22,36,37] [16,18] kk
   [(1,.iv X1),(4,.loc 18 0),(7,.iv (.int .u64 (2 ^ i:Nat))),(20,.iv X20),(21,.iv X21),(22,.iv X22),(36,.iv (.int .i64 (T.length:Nat))),(37,.iv (.int .i64 0))] (ob3 T mv T.length):=by
 refine JG T.length (fun m e o=>∃ mv,mv<=T.length /\
  e=[(1,.iv X1),(4,.loc 18 0),(7,.iv (.int .u64 (2 ^ i:Nat))),(20,.iv X20),(21,.iv X21),(22,.iv X22),(36,.iv (.int .i64 (T.length:Nat))),(37,.iv (.int .i64 (m:Nat)))] /\
  o=ob3 (QeD T (2 ^ i) m) mv T.length) ?_ ?_ _ _ ⟨mv,hm,rfl,by simp[QeD]⟩
 ·rintro e o ⟨mv,h1,rfl,rfl⟩
  have:QeD T (2 ^ i) T.length=T.map (· ||| 2 ^ i):=by simp[QeD]
  rw[this];exact h mv h1
 ·rintro m e o hi' ⟨mv,h1,rfl,rfl⟩ ih
  have e1:=Qix T (2 ^ i) m hi';have e2:=Qiw T (2 ^ i) m;have e3:=Qiv T (2 ^ i) m hi';have e4:=ht _ (Qxx hi');have e5:2 ^ i<=2 ^ 5:=QxW (by omega) (by omega)
  have e6:Jt .or .u64 (T[m]:Int) (2 ^ i)=((T[m] ||| 2 ^ i:Nat):Int):=by
   have:=W2 T[m] (2 ^ i) (by omega) (by omega)
   rw[<- this];simp
  have ih':=fun mv h=>ih _ _ ⟨mv,h,rfl,rfl⟩
  generalize QeD T (2 ^ i) m=Y at *;have e7:m<Y.length:=by omega
  have e8:Y[m]=T[m]:=by
   rw[Qxq e7] at e1;injection e1
  have e9:(Y.map fun t=>[IV.int .u64 (t:Nat)]).set m [IV.int .u64 ((T[m] ||| 2 ^ i:Nat):Int)]=(QeD T (2 ^ i) (m+1)).map fun t=>[IV.int .u64 (t:Nat)]:=by
   rw[<- e3,List.map_set]
  have:=ih' T.length (Qxw _);rw[Qa Go.Pf.c42_b0.eq_1];simp[hi',e2,e6,e8,e9];simp at this;exact ⟨h1,by omega,this⟩
theorem QpC (X1 X20 X21 X22:IV) (T:List Nat) (i mv:Nat) (hi:i<6) (hT:T.length<=64) (ht:∀ t∈T,t<64) (hm:mv<=T.length) (kk:List AI)
  (h:QP Tryz.prog K (FnF (Zb [ZY.tmp 2,ZY.tmp 3] r)) c42_b1 [1,4,7,20,21,22,58,59,60] [16,18] kk
    [(1,.iv X1),(4,.loc 18 0),(7,.iv (.int .u64 (2 ^ i:Nat))),(20,.iv X20),(21,.iv X21),(22,.iv X22),(58,.aref 16 T.length),(59,.iv (.int .i64 (T.length:Nat))),(60,.iv (.int .i64 (T.length:Nat)))] (ob3 (T++T.map (· ||| 2 ^ i)) mv (T++T.map (· ||| 2 ^ i)).length)) :
  QP Tryz.prog K (FnF (Zb [ZY.tmp 2,ZY.tmp 3] r)) c42_b1 [1,4,7,20,21,22,58,59,60] [16,18] kk
   [(1,.iv X1),(4,.loc 18 0),(7,.iv (.int .u64 (2 ^ i:Nat))),(20,.iv X20),(21,.iv X21),(22,.iv X22),(58,.aref 16 T.length),(59,.iv (.int .i64 (T.length:Nat))),(60,.iv (.int .i64 0))] (ob3 T mv T.length):=by
 have:=XK (P:=Tryz.prog) (K:=K) (F:=FnF (Zb [ZY.tmp 2,ZY.tmp 3] r)) (c:=c42_b1) (ks:=[1,4,7,20,21,22,58,59,60]) (ids:=[16,18]) (k:=kk)
  (fun m=>[(1,.iv X1),(4,.loc 18 0),(7,.iv (.int .u64 (2 ^ i:Nat))),(20,.iv X20),(21,.iv X21),(22,.iv X22),(58,.aref 16 T.length),(59,.iv (.int .i64 (T.length:Nat))),(60,.iv (.int .i64 (m:Nat)))])
  (fun m=>ob3 (T++(T.take m).map (· ||| 2 ^ i)) mv (T++(T.take m).map (· ||| 2 ^ i)).length) T.length (by rw[QxM];exact h) (fun m hi' ih=>?_)
 ·simpa using this
 ·have e1:T++(T.take (m+1)).map (· ||| 2 ^ i)=(T++(T.take m).map (· ||| 2 ^ i))++[T[m] ||| 2 ^ i]:=by
   rw[Qxt hi',QxV,<- QxJ];rfl
  have e2:(T++(T.take m).map (· ||| 2 ^ i)).length<=128:=by
   simp;omega
  have e3:(T++(T.take m).map (· ||| 2 ^ i))[m]?=some T[m]:=by
   rw[QxG hi',Qxq hi']
  have e4:=ht _ (Qxx hi');have e5:2 ^ i<=2 ^ 5:=QxW (by omega) (by omega)
  have e6:Jt .or .u64 (T[m]:Int) (2 ^ i)=((T[m] ||| 2 ^ i:Nat):Int):=by
   have:=W2 T[m] (2 ^ i) (by omega) (by omega)
   rw[<- this];simp
  have e7:T.length<=(T++(T.take m).map (· ||| 2 ^ i)).length:=by simp
  rw[e1] at ih;generalize T++(T.take m).map (· ||| 2 ^ i)=Y at *
  rw[Qa Go.Pf.c42_b1.eq_1];simp[hi',e3,e6];simp at ih;exact ⟨⟨hm,e7⟩,hm,by omega,by omega,ih⟩
variable (hK:∀ w w',K w->Below w.heap.size w w'->K w') (hS:∀ s:W,s.length<=1000->Ev.Good Tryz.prog K 71 [.str s,.str [32]] (strs (spl s)))
include hK hS
theorem QdT (s:W) (fs:List Int) (hs:s.length<=1000) (hw:(spl s).length<=9\/11<(spl s).length):Ev.Good Tryz.prog K 42 [Jb s fs] (.tup [pap s fs,.int .i64 (err s fs)]):=by
 refine Qb hK c42_ok (by simp) ?_
 simp;intro _;refine ⟨fun e=>?_,fun e _=>?_⟩
 ·have h1:factsOk fs=false:=by simp[factsOk];omega
  simp[pap,err,h1]
 have hf:fs.length<=6:=by omega
 refine JG fs.length (fun i e o=>∃ mv,mv<=(trN fs i).length/\(∀ k∈fs.take i,1<=k/\k<=3) /\
  e=[(1,.iv (.ptr [.str s,Yq fs])),(4,.loc 18 0),(20,.iv (Yq fs)),(21,.iv (.int .i64 (fs.length:Nat))),(22,.iv (.int .i64 (i:Nat)))] /\
  o=ob3 (trN fs i) mv (trN fs i).length) ?_ ?_ _ _ ⟨0,by simp,by simp,rfl,rfl⟩
 ·rintro e o ⟨mv,h1,h2,rfl,rfl⟩
  have h3:factsOk fs=true:=by
   simp at h2;simp[factsOk];exact ⟨h2,hf⟩
  rw[Qa Go.Pf.c42_b2.eq_1];simp;refine Qk (hS s hs) (by simp) ?_
  simp;intro _;refine ⟨fun e=>?_,fun e=>?_⟩
  ·have h4:rs s fs=[]:=by simp[rs];omega
   simp[pap,err,h3,h4]
  ·have h4:(spl s).length<=9:=by omega
   have h5:rs s fs=rdg fs.length 9 (spl s):=by simp[rs,h3,h4]
   refine fun _=>?_
   refine Qk (QkG hK fs.length hf 9 (by omega) (spl s) h4) (by simp) ?_
   rw[<- h5];simp;refine fun _=>⟨fun e=>?_,fun e=>?_⟩
   ·simp[pap,err,h3,e]
   ·simp[h1,pap,err,h3,e,tru]
 ·rintro i e o hi ⟨mv,h1,h2,rfl,rfl⟩ ih
  have l1:=QbN fs i;have l2:=Qfj fs i;have e5:2 ^ i<=2 ^ 5:=QxW (by omega) (by omega)
  have e6:Qii .u64 1 (i:Int)=2 ^ i:=by
   have:=QbP 1 i (by omega) (by omega)
   simpa using this
  have e7:trN fs (i+1)=Yt (trN fs i) i fs[i]:=by simp[trN,hi]
  have ih':=fun mv h h'=>ih _ _ ⟨mv,h,h',rfl,rfl⟩
  rw[e7] at ih';generalize trN fs i=T at *;rw[Qa Go.Pf.c42_b2.eq_1]
  have ok:1<=fs[i]/\fs[i]<=3->∀ k∈fs.take (i+1),1<=k/\k<=3:=by
   intro h k hk;rw[Qxt hi] at hk;rcases QxI.1 hk with c | c
   ·exact h2 k c
   ·rw[Qx9] at c;subst c;exact h
  simp[hi,e6];refine ⟨fun f1=>⟨h1,fun _=>?_⟩,fun f1=>⟨fun f2=>⟨by omega,?_⟩,fun f2=>⟨fun f3=>⟨h1,fun _=>?_⟩,fun f3=>?_⟩⟩⟩
  ·have e8:Yt T i fs[i]=T.map (· ||| 2 ^ i):=by simp[Yt,f1]
   rw[e8] at ih'
   have:=Qo5 (K:=K) (r:=.tup [pap s fs,.int .i64 (err s fs)]) (.ptr [.str s,Yq fs]) (Yq fs) (.int .i64 (fs.length:Nat)) (.int .i64 (i:Nat)) T i mv (by omega) (by omega)
    (fun t ht=>QxP (l2 t ht) (by omega)) h1
    [AI.inBlock 3,AI.inBlock 2,AI.inBlock 1,.code (.ops [⟨some 77,none,.bin .add (.t 22) (.int .i64 1)⟩,⟨some 22,none,.mov (.t 77)⟩] false),.inLoop c42_b2 [1,4,20,21,22] [16,18],AI.inBlock 0,.code (.seq (.ops [⟨some 78,none,.fld 0 (.t 1)⟩,⟨some 79,none,.ldi 1 false (.t 78)⟩,⟨some 80,none,.call 71 [.t 79,.str [32]] []⟩,⟨some 11,none,.mov (.t 80)⟩] false) (.seq (.seq (.ops [⟨some 81,none,.mov (.t 11)⟩,⟨some 82,none,.len (.t 81)⟩,⟨some 83,none,.bin .gtr (.t 82) (.int .i64 11)⟩] false) (.cond (.t 83) (.seq (.ops [⟨some 2,none,.mov (.nilp)⟩,⟨some 3,none,.mov (.int .i64 131)⟩] false) (.ret)) (.skip))) (.seq (.seq (.ops [⟨some 84,none,.mov (.t 4)⟩,⟨some 85,none,.mov (.t 11)⟩,⟨some 86,none,.fld 1 (.t 1)⟩,⟨some 87,none,.ldi 1 false (.t 86)⟩,⟨some 88,none,.len (.t 87)⟩,⟨some 89,none,.call 72 [.t 85,.t 88] []⟩,⟨some 90,none,.nilc (.t 84)⟩,⟨some 91,none,.fld 0 (.t 90)⟩,⟨none,none,.sto 18 1 (.t 91) (.t 89)⟩] false) (.seq (.ops [⟨some 92,none,.mov (.t 4)⟩,⟨some 93,none,.nilc (.t 92)⟩,⟨some 94,none,.fld 0 (.t 93)⟩,⟨some 95,none,.ldo 18 1 false (.t 94)⟩,⟨some 96,none,.len (.t 95)⟩,⟨some 97,none,.bin .eql (.t 96) (.int .i64 0)⟩] false) (.cond (.t 97) (.seq (.ops [⟨some 2,none,.mov (.nilp)⟩,⟨some 3,none,.mov (.int .i64 131)⟩] false) (.ret)) (.skip)))) (.seq (.ops [⟨some 98,none,.mov (.t 4)⟩,⟨some 2,none,.mov (.t 98)⟩,⟨some 3,none,.mov (.int .i64 0)⟩] false) (.ret)))))]
    ?_
   ·simpa using this
   ·intro mv' hm'
    have:=ih' mv' (by simpa using hm') (ok (by omega))
    rw[Qa Go.Pf.c42_b0.eq_1];simp at this |-;exact ⟨by omega,this⟩
  ·have e8:Yt T i fs[i]=T:=by simp[Yt,f2]
   rw[e8] at ih';have:=ih' mv h1 (ok (by omega))
   simpa using this
  ·have e8:Yt T i fs[i]=T++T.map (· ||| 2 ^ i):=by simp[Yt,f3]
   rw[e8] at ih'
   have:=QpC (K:=K) (r:=.tup [pap s fs,.int .i64 (err s fs)]) (.ptr [.str s,Yq fs]) (Yq fs) (.int .i64 (fs.length:Nat)) (.int .i64 (i:Nat)) T i mv (by omega) (by omega)
    (fun t ht=>QxP (l2 t ht) (by omega)) h1
    [AI.inBlock 5,AI.inBlock 2,AI.inBlock 1,.code (.ops [⟨some 77,none,.bin .add (.t 22) (.int .i64 1)⟩,⟨some 22,none,.mov (.t 77)⟩] false),.inLoop c42_b2 [1,4,20,21,22] [16,18],AI.inBlock 0,.code (.seq (.ops [⟨some 78,none,.fld 0 (.t 1)⟩,⟨some 79,none,.ldi 1 false (.t 78)⟩,⟨some 80,none,.call 71 [.t 79,.str [32]] []⟩,⟨some 11,none,.mov (.t 80)⟩] false) (.seq (.seq (.ops [⟨some 81,none,.mov (.t 11)⟩,⟨some 82,none,.len (.t 81)⟩,⟨some 83,none,.bin .gtr (.t 82) (.int .i64 11)⟩] false) (.cond (.t 83) (.seq (.ops [⟨some 2,none,.mov (.nilp)⟩,⟨some 3,none,.mov (.int .i64 131)⟩] false) (.ret)) (.skip))) (.seq (.seq (.ops [⟨some 84,none,.mov (.t 4)⟩,⟨some 85,none,.mov (.t 11)⟩,⟨some 86,none,.fld 1 (.t 1)⟩,⟨some 87,none,.ldi 1 false (.t 86)⟩,⟨some 88,none,.len (.t 87)⟩,⟨some 89,none,.call 72 [.t 85,.t 88] []⟩,⟨some 90,none,.nilc (.t 84)⟩,⟨some 91,none,.fld 0 (.t 90)⟩,⟨none,none,.sto 18 1 (.t 91) (.t 89)⟩] false) (.seq (.ops [⟨some 92,none,.mov (.t 4)⟩,⟨some 93,none,.nilc (.t 92)⟩,⟨some 94,none,.fld 0 (.t 93)⟩,⟨some 95,none,.ldo 18 1 false (.t 94)⟩,⟨some 96,none,.len (.t 95)⟩,⟨some 97,none,.bin .eql (.t 96) (.int .i64 0)⟩] false) (.cond (.t 97) (.seq (.ops [⟨some 2,none,.mov (.nilp)⟩,⟨some 3,none,.mov (.int .i64 131)⟩] false) (.ret)) (.skip)))) (.seq (.ops [⟨some 98,none,.mov (.t 4)⟩,⟨some 2,none,.mov (.t 98)⟩,⟨some 3,none,.mov (.int .i64 0)⟩] false) (.ret)))))]
    ?_
   ·simpa using this
   ·have:=ih' mv (by simp;omega) (ok (by omega))
    rw[Qa Go.Pf.c42_b1.eq_1];simp at this |-;exact ⟨by omega,this⟩
  ·have h3:factsOk fs=false:=by
    cases hc:factsOk fs with
    | false=>rfl
    | true =>
      simp[factsOk] at hc;have:=hc.1 _ (Qxx hi);omega
   simp[pap,err,h3]
end
end Go.Pp
namespace Go.Pp
open Go Go.Ev
theorem Qep (x:List W) (l:W) (c:UInt8):Qw (x++[l]) c=x++Qw [l] c:=by
 unfold Qw;split
 ·simp
 ·simp
theorem JQ (s:W):∀ (x:List W) (l:W),s.foldl Qw (x++[l])=x++s.foldl Qw [l]:=by
 induction s with
 | nil=>intro x l;rfl
 | cons c s ih =>
   intro x l;simp only[Qyq];rw[Qep];by_cases h:c=32
   ·have e:Qw [l] c=[l]++[[]]:=by simp[Qw,h]
    rw[e,<- QxJ,ih,ih [l] []];simp
   ·have e:Qw [l] c=[l++[c]]:=by simp[Qw,h]
    rw[e,ih]
def QiH:List W->W
 | []=>[]
 | [w]=>w
 | w::v::r=>w++32::QiH (v::r)
theorem QdX (s:W):∀ l:W,s.foldl Qw [l]≠[]:=by
 induction s with
 | nil=>intro l;simp
 | cons c s ih =>
   intro l;simp only[Qyq];by_cases h:c=32
   ·have e:Qw [l] c=[l]++[[]]:=by simp[Qw,h]
    rw[e,JQ];simp
   ·have e:Qw [l] c=[l++[c]]:=by simp[Qw,h]
    rw[e];exact ih _
theorem Qba (w:W) (r:List W) (h:r≠[]):QiH (w::r)=w++32::QiH r:=by
 cases r with
 | nil=>exact absurd rfl h
 | cons v r=>rfl
theorem QeK (s:W):∀ l:W,QiH (s.foldl Qw [l])=l++s:=by
 induction s with
 | nil=>intro l;simp[QiH]
 | cons c s ih =>
   intro l;simp only[Qyq];by_cases h:c=32
   ·have e:Qw [l] c=[l]++[[]]:=by simp[Qw,h]
    rw[e,JQ];simp only[Qyt,Qyj];rw[Qba _ _ (QdX s []),ih,h];rfl
   ·have e:Qw [l] c=[l++[c]]:=by simp[Qw,h]
    rw[e,ih];simp
theorem QiF (s:W):QiH (spl s)=s:=by
 have:=QeK s [];simpa[spl] using this
theorem Qfq (a b:W):spl (a++32::b)=spl a++spl b:=by
 unfold spl;rw[List.foldl_append];have h:=QdX a [];generalize a.foldl Qw [[]]=x at *;obtain ⟨y,l,rfl⟩:∃ y l,x=y++[l]:=⟨x.dropLast,x.getLast h,(List.dropLast_concat_getLast h).symm⟩
 simp only[Qyq];have e:Qw (y++[l]) 32=(y++[l])++[[]]:=by simp[Qw]
 rw[e,JQ]
theorem QiG (ws:List W) (c:Nat) (h:∀ w∈ws,w.length<=c):(QiH ws).length<=(c+1)*ws.length:=by
 induction ws with
 | nil=>simp[QiH]
 | cons w r ih =>
   have h1:=h w (by simp)
   have h2:=ih (fun x hx=>h x (by simp[hx]))
   by_cases hr:r=[]
   ·subst hr
    simp[QiH];omega
   ·rw[Qba _ _ hr]
    simp only[Qxy,QxA];rw[Nat.mul_add];omega
def Xj:Rd->List W
 | .fact n=>[[UInt8.ofNat (97+n)]]
 | .no r=>Qe8::Xj r
 | .bin o a b=>Xj a++o.word::Xj b
theorem QbM (r:Rd):∀ w∈Xj r,w.length<=3:=by
 induction r with
 | fact n=>simp[Xj]
 | no r ih=>simpa[Xj,Qe8] using ih
 | bin o a b ia ib =>
   intro w hw;simp only[Xj,QxI,Qx4] at hw;rcases hw with h | h | h
   ·exact ia w h
   ·subst h;cases o<;>decide
   ·exact ib w h
theorem JE (n:Nat):∀ (k:Nat) (ws:List W) (r:Rd),r∈rdg n k ws->Xj r=ws
 | 0,ws,r=>by simp[rdg]
 | k+1,ws,r=>by
   simp only[rdg];split
   ·rename_i m hm
    intro h;simp at h;subst h;unfold Xc at hm;split at hm
    ·rename_i c
     split at hm
     ·rename_i hc
      injection hm with hm
      subst hm
      have:UInt8.ofNat (97+(c.toNat-97))=c:=by
       rw[show 97+(c.toNat-97)=c.toNat by omega]
       exact UInt8.ofNat_toNat
      simp only[Xj,this]
     ·cases hm
    ·cases hm
   ·intro h
    simp only[Q3,QxI] at h;rcases h with h | h
    ·unfold ZH at h
     split at h
     ·rename_i hc
      rw[QxR] at h;obtain ⟨a,ha,rfl⟩:=h;have:=JE n k _ a ha;rcases ws with _ | ⟨w,ws⟩
      ·simp at hc
      ·simp at hc this
       simp[Xj,this,hc.2]
     ·simp at h
    ·rw[QxZ] at h
     obtain ⟨i,hi,h⟩:=h;simp at hi;unfold Q4 at h;split at h
     ·simp at h
     ·split at h
      ·simp at h
      ·rename_i o ho
       unfold QM at h;rw[QxZ] at h;obtain ⟨a,ha,h⟩:=h;rw[QxR] at h;obtain ⟨b,hb,rfl⟩:=h;have h1:=JE n k _ a ha;have h2:=JE n k _ b hb;have h3:=Qa2 ho;simp only[Xj,h1,h2,<- h3];rw[List.getD_eq_getElem?_getD,Qxq hi];simp
theorem Qf3 (s:W) (fs:List Int) (h:36<s.length):rs s fs=[]:=by
 unfold rs;split
 ·rename_i hc
  rw[List.eq_nil_iff_forall_not_mem];intro r hr;have h1:=JE _ _ _ _ hr;have h2:=QiG (spl s) 3 (h1▸QbM r);rw[QiF] at h2;omega
 ·rfl
theorem Wd (n:Nat):∀ (i t:Nat),(Zo n i).testBit t=(decide (t<i)&&t.testBit n)
 | 0,t=>by simp[Zo]
 | i+1,t=>by
   simp only[Zo];have ih:=Wd n i t;by_cases h:t=i
   ·subst h
    split
    ·rename_i hb
     simp[Nat.testBit_or,ih,hb,Nat.testBit_two_pow_self]
    ·rename_i hb
     simp[ih,hb]
   ·have e:decide (t<i+1)=decide (t<i):=by
     by_cases h1:t<i
     ·simp[h1];omega
     ·simp[h1];omega
    rw[e];split
    ·simp[Nat.testBit_or,ih,Nat.testBit_two_pow_of_ne (Ne.symm h)]
    ·exact ih
theorem QhX (t:Nat) (h:t<64):(18446744073709551615:Nat).testBit t=true:=by
 have:(18446744073709551615:Nat)=2 ^ 64-1:=by decide
 rw[this,Nat.testBit_two_pow_sub_one];simp[h]
theorem tset_bit (r:Rd) (t:Nat) (h:t<64):(tset r).testBit t=val r t:=by
 induction r with
 | fact n=>simp[tset,val,Wd,h]
 | no r ih=>simp[tset,val,Nat.testBit_xor,ih,QhX t h]
 | bin o a b ia ib =>
   cases o<;>simp[tset,val,Qgb,Op.word,Nat.testBit_and,Nat.testBit_or,Nat.testBit_xor,ia,ib,QhX t h]
theorem W4 (fs:List Int) (n b:Nat):∀ i,n<2 ^ b->i<=b->okT fs (n+2 ^ b) i=okT fs n i
 | 0,_,_=>rfl
 | i+1,h,hi=>by
   simp only[okT];rw[W4 fs n b i h (by omega)]
   have:(n+2 ^ b).testBit i=n.testBit i:=by
    rw[QyI,Nat.testBit_two_pow_add_gt (by omega)]
   rw[this]
theorem Qkl (fs:List Int) (hf:∀ k∈fs,1<=k/\k<=3):∀ i,i<=fs.length->trN fs i=(List.range (2 ^ i)).filter fun n=>okT fs n i
 | 0,_=>by simp[trN,okT,Qye]
 | i+1,h=>by
   have ih:=Qkl fs hf i (by omega)
   have hk:=hf _ (Qxx (show i<fs.length from h))
   have hg:fs.getD i 0=fs[i]:=by
    rw[List.getD_eq_getElem?_getD,Qxq (show i<fs.length from h)]
    rfl
   have e1:List.range (2 ^ (i+1))=List.range (2 ^ i)++(List.range (2 ^ i)).map (·+2 ^ i):=by
    rw[Nat.pow_succ,Nat.mul_two,List.range_add]
    congr 1
    apply QyJ;intro x _;omega
   have e2:∀ n,n<2 ^ i->n.testBit i=false:=fun n hn=>Nat.testBit_lt_two_pow hn
   have e3:∀ n,n<2 ^ i->(n+2 ^ i).testBit i=true:=fun n hn=>by
    rw[QyI,Nat.testBit_two_pow_add_eq,e2 n hn];rfl
   have e4:∀ n,n<2 ^ i->n ||| 2 ^ i=n+2 ^ i:=fun n hn=>by
    have:=Nat.two_pow_add_eq_or_of_lt hn 1;rw[Qyn] at this;rw[Nat.or_comm,<- this];omega
   have low:(List.range (2 ^ i)).filter (fun n=>okT fs n (i+1))=if fs[i]≠1 then trN fs i else []:=by
    rw[ih];split
    ·rename_i h1
     apply List.filter_congr;intro n hn;simp only[Qyf] at hn;simp only[okT,e2 n hn,hg];simp[h1]
    ·rename_i h1
     rw[List.filter_eq_nil_iff];intro n hn;simp only[Qyf] at hn;simp only[okT,e2 n hn,hg];simp at h1;simp[h1]
   have high:((List.range (2 ^ i)).map (·+2 ^ i)).filter (fun n=>okT fs n (i+1))=if fs[i]≠2 then (trN fs i).map (· ||| 2 ^ i) else []:=by
    rw[ih,List.filter_map];split
    ·rename_i h1
     have:(List.range (2 ^ i)).filter ((fun n=>okT fs n (i+1))∘(·+2 ^ i))=(List.range (2 ^ i)).filter (fun n=>okT fs n i):=by
      apply List.filter_congr;intro n hn;simp only[Qyf] at hn;simp only[Function.comp,okT,e3 n hn,hg,W4 fs n i i hn (Qxw _)];simp[h1]
     rw[this];apply QyJ;intro n hn;have:=(Qyp.1 hn).1;simp only[Qyf] at this;exact (e4 n this).symm
    ·rename_i h1
     rw[List.map_eq_nil_iff,List.filter_eq_nil_iff];intro n hn;simp only[Qyf] at hn;simp at h1;simp only[Function.comp,okT,e3 n hn,hg];simp[h1]
   rw[e1,List.filter_append,low,high];simp only[trN,Yt,hg];by_cases f1:fs[i]=1
   ·simp[f1]
   ·by_cases f2:fs[i]=2
    ·simp[f2]
    ·have f3:fs[i]=3:=by omega
     simp[f3]
theorem Qo0 (fs:List Int) (h:factsOk fs=true):tru fs=Qkj fs:=by
 simp[factsOk] at h;exact Qkl fs h.1 fs.length (Qxw _)
end Go.Pp
namespace Go.Proofs
open Go.Shelf
def Tryz.laysM146_ren:Go.Shelf.Ren:=⟨fun | 146=>71 | 221=>96 | 268=>127 | 138=>128 | 143=>129 | 195=>173 | 197=>174 | 218=>175 | 219=>176 | 260=>209 | 217=>210 | 225=>211 | 224=>212 | 267=>213 | 266=>230 | 314=>231 | n=>n,fun | 9=>9 | 31=>105 | 3=>3 | 4=>4 | 0=>0 | 105=>274 | 21=>21 | 5=>5 | 46=>47 | 119=>322 | 139=>325 | 138=>324 | 146=>326 | 51=>306 | n=>n,fun | 1=>0 | 3=>1 | 4=>2 | n=>n⟩
theorem Tryz.laysM146:Go.Proofs.LaysM.n146 Tryz.prog Tryz.laysM146_ren:={
 mixed:=by kernel_rfl
 f138:=Tryz.func128.trans (congrArg some (by kernel_rfl))
 f143:=Tryz.func129.trans (congrArg some (by kernel_rfl))
 f146:=Tryz.func71.trans (congrArg some (by kernel_rfl))
 f195:=Tryz.func173.trans (congrArg some (by kernel_rfl))
 f197:=Tryz.func174.trans (congrArg some (by kernel_rfl))
 f217:=Tryz.func210.trans (congrArg some (by kernel_rfl))
 f218:=Tryz.func175.trans (congrArg some (by kernel_rfl))
 f219:=Tryz.func176.trans (congrArg some (by kernel_rfl))
 f221:=Tryz.func96.trans (congrArg some (by kernel_rfl))
 f224:=Tryz.func212.trans (congrArg some (by kernel_rfl))
 f225:=Tryz.func211.trans (congrArg some (by kernel_rfl))
 f260:=Tryz.func209.trans (congrArg some (by kernel_rfl))
 f266:=Tryz.func230.trans (congrArg some (by kernel_rfl))
 f267:=Tryz.func213.trans (congrArg some (by kernel_rfl))
 f268:=Tryz.func127.trans (congrArg some (by kernel_rfl))
 f314:=Tryz.func231.trans (congrArg some (by kernel_rfl))
 t0:=Tryz.underlying0
 a0:=Tryz.isAgg0
 z0:=Tryz.sizeOf0
 v0:=Tryz.zeroValue0
 t3:=Tryz.underlying3
 a3:=Tryz.isAgg3
 z3:=Tryz.sizeOf3
 v3:=Tryz.zeroValue3
 t4:=Tryz.underlying4
 a4:=Tryz.isAgg4
 z4:=Tryz.sizeOf4
 v4:=Tryz.zeroValue4
 t5:=Tryz.underlying5
 a5:=Tryz.isAgg5
 z5:=Tryz.sizeOf5
 v5:=Tryz.zeroValue5
 t9:=Tryz.underlying9
 a9:=Tryz.isAgg9
 z9:=Tryz.sizeOf9
 v9:=Tryz.zeroValue9
 t21:=Tryz.underlying21
 a21:=Tryz.isAgg21
 z21:=Tryz.sizeOf21
 v21:=Tryz.zeroValue21
 t31:=Tryz.underlying105
 a31:=Tryz.isAgg105
 z31:=Tryz.sizeOf105
 v31:=Tryz.zeroValue105
 t46:=Tryz.underlying47
 a46:=Tryz.isAgg47
 z46:=Tryz.sizeOf47
 v46:=Tryz.zeroValue47
 t51:=Tryz.underlying306
 a51:=Tryz.isAgg306
 z51:=Tryz.sizeOf306
 v51:=Tryz.zeroValue306
 t105:=Tryz.underlying274
 a105:=Tryz.isAgg274
 z105:=Tryz.sizeOf274
 v105:=Tryz.zeroValue274
 t119:=Tryz.underlying322
 a119:=Tryz.isAgg322
 z119:=Tryz.sizeOf322
 t138:=Tryz.underlying324
 a138:=Tryz.isAgg324
 z138:=Tryz.sizeOf324
 v138:=Tryz.zeroValue324
 t139:=Tryz.underlying325
 a139:=Tryz.isAgg325
 z139:=Tryz.sizeOf325
 v139:=Tryz.zeroValue325
 t146:=Tryz.underlying326
 a146:=Tryz.isAgg326
 z146:=Tryz.sizeOf326
 v146:=Tryz.zeroValue326
 g1:=by kernel_rfl
 g3:=by kernel_rfl
 g4:=by kernel_rfl
 i0:=by kernel_rfl
 i3:=by kernel_rfl
 i4:=by kernel_rfl
 i5:=by kernel_rfl
 i9:=by kernel_rfl
 i21:=by kernel_rfl
 i31:=by kernel_rfl
 i46:=by kernel_rfl
 i51:=by kernel_rfl
 i105:=by kernel_rfl
 i138:=by kernel_rfl
 i139:=by kernel_rfl
 i146:=by kernel_rfl
 m1:=by kernel_rfl
 s1_3:=fun w h=>Go.Proofs.cell_of_shapedOpen_int (zero:=#[.int .i64 0]) (t:=3) h (of_decide_eq_true (by kernel_rfl)) (by kernel_rfl) rfl (by kernel_rfl) (by kernel_rfl) Tryz.underlying3
 m3:=by kernel_rfl
 m4:=by kernel_rfl }
theorem Tryz.strings_Split_shaped (s sep:ByteArray) (w:World) (h:w.ShapedOpen Tryz.prog) (hs:s.size<4294967281) (h1:1<=sep.size) :
  Calls Tryz.prog 71 #[.string s,.string sep] w fun e w' =>
   e=.returned (.slice (some ⟨w.heap.size,0,none⟩) (Lib.countB s sep+1) (Lib.countB s sep+1))/\w'=w.alloc (.cells ((Lib.splitB sep 0 (Lib.countB s sep) s).map Value.string).toArray 9):=Any.strings_Split_shaped Tryz.laysM146 s sep w h hs h1
end Go.Proofs
namespace Go.Pp
open Go Go.Ev Go.Proofs Go.RowKit
theorem XG (s:W):spl (32::s)=[]::spl s:=by
 have:=Qfq [] s;simpa[spl] using this
theorem QeP (s:W):∀ l:W,s.foldl Qw [l]=(l++(spl s).headD [])::(spl s).tail:=by
 induction s with
 | nil=>intro l;simp[spl]
 | cons c s ih =>
   intro l;by_cases h:c=32
   ·subst h
    rw[XG,Qyq];have e:Qw [l] 32=[l]++[[]]:=by simp[Qw]
    rw[e,JQ];simp[spl]
   ·have e:∀ l,Qw [l] c=[l++[c]]:=fun l=>by simp[Qw,h]
    rw[Qyq,e,ih]
    have:spl (c::s)=([c]++(spl s).headD [])::(spl s).tail:=by
     unfold spl;rw[Qyq,e,ih];rfl
    rw[this];simp
theorem Qdp (c:UInt8) (s:W) (h:c≠32):spl (c::s)=(c::(spl s).headD [])::(spl s).tail:=by
 have e:Qw [[]] c=[[c]]:=by simp[Qw,h]
 unfold spl;rw[Qyq,e,QeP];rfl
theorem WR:∀ s:W,Lib.splitK [32] 0 (Lib.count s [32]) s=spl s
 | []=>by
   rw[Lib.count_miss (by simp[Lib.index])]
   rfl
 | c::s=>by
   have ih:=WR s;by_cases h:c=32
   ·subst h
    have hix:Lib.index ((32:UInt8)::s) [32]=0:=by rw[Lib.index];simp[List.isPrefixOf]
    rw[Lib.count_cons_eq,QyI,Lib.splitK,hix,XG,<- ih];simp
   ·rw[Lib.count_cons_ne c 32 s h,Qdp c s h,<- ih]
    have hp:([32]:List UInt8).isPrefixOf (c::s)=false:=by simp[List.isPrefixOf,Ne.symm h]
    have hix:Lib.index (c::s) [32]=if Lib.index s [32] == -1 then -1 else Lib.index s [32]+1:=by rw[Lib.index,hp];simp
    cases hk:Lib.count s [32] with
    | zero=>simp[Lib.splitK]
    | succ k =>
      have hm:¬ Lib.index s [32] = -1:=fun e=>by rw[Lib.count_miss e] at hk;cases hk
      have hge:=Lib.index_ge s [32];obtain ⟨j,hj⟩:∃ j:Nat,Lib.index s [32]=j:=⟨(Lib.index s [32]).toNat,by omega⟩
      have h1:¬ ((j:Int) == -1)=true:=by simp
      have h2:¬ ((j:Int)+1 == -1)=true:=by simp;omega
      have h3:((j:Int)+1).toNat=j+1:=by omega
      simp only[Lib.splitK,hix,hj,if_neg h1,if_neg h2,h3,Int.toNat_natCast];simp
theorem Qfp:∀ s:W,(spl s).length<=s.length+1
 | []=>by simp[spl]
 | c::s=>by
   have ih:=Qfp s;by_cases h:c=32
   ·subst h;rw[XG];simp;exact ih
   ·rw[Qdp c s h];simp;omega
def KW:World->Prop:=fun w=>w.ShapedOpen Tryz.prog
theorem hKW:∀ w w',KW w->Below w.heap.size w w'->KW w':=fun _ _ h hb=>World.ShapedOpen.keptBut h (hb.frame (fun _=>False)) (fun _ c=>c.elim)
theorem hSW (s:W) (hs:s.length<=1000):Ev.Good Tryz.prog KW 71 [.str s,.str [32]] (strs (spl s)):=by
 intro w ok vs hk hok hl hx
 obtain ⟨v0,v1,rfl⟩:∃ v0 v1,vs=[v0,v1]:=by
  match vs,hl with
  | [a,b],_=>exact ⟨a,b,rfl⟩
 have r0:=hx 0 _ v0 rfl rfl;have r1:=hx 1 _ v1 rfl rfl;cases r0;cases r1;have:=Tryz.strings_Split_shaped ⟨s.toArray⟩ ⟨[32].toArray⟩ w hk (by simp[ByteArray.size];omega) (by simp[ByteArray.size])
 refine this.mono fun e w' ⟨he,hw⟩=>?_
 subst he hw;have hb:=Qm w (.cells ((Lib.splitB ⟨[32].toArray⟩ 0 (Lib.countB ⟨s.toArray⟩ ⟨[32].toArray⟩) ⟨s.toArray⟩).map Value.string).toArray 9)
 have hd:(Lib.splitB ⟨[32].toArray⟩ 0 (Lib.countB ⟨s.toArray⟩ ⟨[32].toArray⟩) ⟨s.toArray⟩).map (·.data.toList)=spl s:=by
  rw[Lib.splitB_data];exact WR s
 have hlen:=Lib.splitB_all ⟨[32].toArray⟩ (by simp[ByteArray.size]) 0 _ ⟨s.toArray⟩ rfl
 generalize Lib.countB ⟨s.toArray⟩ ⟨[32].toArray⟩=n at *;generalize Lib.splitB ⟨[32].toArray⟩ 0 n ⟨s.toArray⟩=L at *;refine ⟨_,rfl,?_,hb⟩;have hl2:(spl s).length=n+1:=by rw[<- hd,QxB,hlen]
 have hnl:n+1<=maxLen:=by
  have:=Qfp s;simp only[maxLen];omega
 have rep:=Qq.sl (ok:=ok) (w:=w.alloc (.cells (L.map Value.string).toArray 9)) 1 ((spl s).map fun s=>[IV.str s]) w.heap.size 0 (n+1) (fun k=>.string (L.getD k default)) (by simp[hl2]) hnl (by simp) (fun k hk=>?_) (fun i j c x hi hj=>?_)
 ·simpa[hl2] using rep
 ·simp[hl2] at hk
  have hkl:k<L.length:=by omega
  refine ⟨hok _ (Qxw _),?_,rfl⟩;rw[QxE];exact XP w _ 9 k _ (by simp[hkl])
 ·simp only[Qxz,Qxu] at hi
  obtain ⟨t,ht,rfl⟩:=hi
  have hj0:j=0:=by
   have:=(Qxr.1 hj).1;simp at this;exact this
  subst hj0;simp at hj;subst hj;rw[<- hd,Qxz,Qxu] at ht;obtain ⟨z,hz,rfl⟩:=ht;have e:L.getD (i*1+0) default=z:=by simp[hz]
  rw[e];have:=Qq.str (ok:=ok) (w:=w.alloc (.cells (L.map Value.string).toArray 9)) z.data.toList;simpa using this
end Go.Pp
namespace Go.Pf
open Go Go.Ev Go.Proofs Go.RowKit
variable {K:World->Prop} (hK:∀ w w',K w->Below w.heap.size w w'->K w')
set_option maxRecDepth 8000
structure Qy where
 what:Int
 pos:Int
 frm:Int
 bar:Int
 smith:Int
 deriving DecidableEq
structure J2 where
 after:Int
 pos:Int
 frm:Int
 bar:Int
 smith:Int
 deriving DecidableEq
structure Qn where
 deeds:List Qy
 sights:List J2
 wrong:Int
 deriving DecidableEq
structure Zv where
 long:Int
 lo:Int
 hi:Int
 deriving DecidableEq
structure Q7 where
 weight:Int
 mins:Int
 load:Int
 off:Int
 deriving DecidableEq
structure Machine where
 levers:List Zv
 water:Int
 llo:Int
 lhi:Int
 bals:List Q7
 wrong:Int
 deriving DecidableEq
structure Qaq where
 weight:Int
 mins:Int
 broke:Int
 deriving DecidableEq
structure Qv where
 chain:Qn
 machine:Machine
 trials:List Qaq
 need:Int
 rule:Int
 deriving DecidableEq
@[simp] def dC (d:Qy):List IV:=[.int .i64 d.what,.int .i64 d.pos,.int .i64 d.frm,.int .i64 d.bar,.int .i64 d.smith]
@[simp] def sC (s:J2):List IV:=[.int .i64 s.after,.int .i64 s.pos,.int .i64 s.frm,.int .i64 s.bar,.int .i64 s.smith]
@[simp] def leC (l:Zv):List IV:=[.int .i64 l.long,.int .i64 l.lo,.int .i64 l.hi]
@[simp] def baC (b:Q7):List IV:=[.int .i64 b.weight,.int .i64 b.mins,.int .i64 b.load,.int .i64 b.off]
@[simp] def trC (t:Qaq):List IV:=[.int .i64 t.weight,.int .i64 t.mins,.int .i64 t.broke]
@[simp] def Yq (l:List Int):IV:=.sl 1 (l.map fun n=>[.int .i64 n])
@[simp] def QO (l:List Qy):IV:=.sl 5 (l.map dC)
@[simp] def QJ (l:List J2):IV:=.sl 5 (l.map sC)
@[simp] def Zm (l:List Zv):IV:=.sl 3 (l.map leC)
@[simp] def Y8 (l:List Q7):IV:=.sl 4 (l.map baC)
@[simp] def Qfi (l:List Qaq):IV:=.sl 3 (l.map trC)
@[simp] def chV (c:Qn):IV:=.agg [QO c.deeds,QJ c.sights,.int .i64 c.wrong]
@[simp] def maV (m:Machine):IV:=.agg [Zm m.levers,.int .i64 m.water,.int .i64 m.llo,.int .i64 m.lhi,Y8 m.bals,.int .i64 m.wrong]
@[simp] def prV (p:Qv):IV:=.agg [QO p.chain.deeds,QJ p.chain.sights,.int .i64 p.chain.wrong,Zm p.machine.levers,.int .i64 p.machine.water,.int .i64 p.machine.llo,.int .i64 p.machine.lhi,Y8 p.machine.bals,.int .i64 p.machine.wrong,
 Qfi p.trials,.int .i64 p.need,.int .i64 p.rule]
def inR (n a b:Int):Prop:=a<=n/\n<=b
instance (n a b:Int):Decidable (inR n a b):=by unfold inR;infer_instance
include hK
theorem Z8 (x a b:Int):Ev.Good Tryz.prog K 137 [.int .i64 x,.int .i64 a,.int .i64 b] (.bool (decide (inR x a b))):=by
 refine Qb hK Qn3 (by simp) ?_
 by_cases h:a<=x<;>simp[inR,h]
theorem JO (x a b:Int):Ev.Good Tryz.prog K 66 [.int .i64 x,.int .i64 a,.int .i64 b] (.bool (decide (inR x a b))):=by
 refine Qb hK Qq6 (by simp) ?_
 by_cases h:a<=x<;>simp[inR,h]
theorem Qgk (x a b:Int):Ev.Good Tryz.prog K 60 [.int .i64 x,.int .i64 a,.int .i64 b] (.bool (decide (inR x a b))):=by
 refine Qb hK c60_ok (by simp) ?_
 by_cases h:a<=x<;>simp[inR,h]
theorem YM (x a b:Int):Ev.Good Tryz.prog K 26 [.int .i64 x,.int .i64 a,.int .i64 b] (.bool (decide (inR x a b))):=by
 refine Qb hK Qrv (by simp) ?_
 simp;exact cK (Qgk hK x a b) (by simp)
theorem Qcp (a b c:Int) (ha:0<=a/\a<1000000) (hc:0<=c/\c<1000000):Ev.Good Tryz.prog K 241 [.int .i64 a,.int .i64 b,.int .i64 c] (.int .i64 (if b=1 then c-1-a else a)):=by
 refine Qb hK Qm4 (by simp) ?_
 by_cases hb:b=1
 ·simp[hb,IntKind.inR,IntKind.min,IntKind.max,IntKind.bits,IntKind.signed]
  omega
 ·simp[hb]
theorem Qgr (bar smith least:Int):Ev.Good Tryz.prog K 140 [.int .i64 bar,.int .i64 smith,.int .i64 least] (.bool (decide (inR bar least 99/\inR smith least 99))):=by
 refine Qb hK Qn0 (by simp) ?_
 simp;refine cK (Z8 hK _ _ _) ?_;by_cases h:inR bar least 99
 ·simp[h]
  exact cK (Z8 hK _ _ _) (by simp)
 ·simp[h]
def grow (d:Qy):Int:=if d.what=1 then 1 else if d.what=2 then -1 else 0
theorem Qcv (d:Qy):Ev.Good Tryz.prog K 139 [.agg (dC d)] (.int .i64 (grow d)):=by
 refine Qb hK Qn1 (by simp) ?_
 by_cases h1:d.what=1
 ·simp[grow,h1]
 ·by_cases h2:d.what=2<;>simp[grow,h1,h2]
def Zn (d:Qy) (many:Int):Prop :=
 (d.what=1/\inR d.frm 0 2/\inR d.pos 0 many/\inR d.bar 0 99/\inR d.smith 0 99)\/(d.what=2/\inR d.frm 0 2/\inR d.pos 0 (many-1)/\d.bar=0/\d.smith=0) \/
 ((d.what=3\/d.what=4)/\d.pos=0/\d.frm=0/\d.bar=0/\d.smith=0)
instance (d:Qy) (many:Int):Decidable (Zn d many):=by unfold Zn;infer_instance
theorem Qmn (d:Qy) (many:Int) (hm:0<=many/\many<1000000):Ev.Good Tryz.prog K 138 [.agg (dC d),.int .i64 many] (.bool (decide (Zn d many))):=by
 refine Qb hK Qn2 (by simp) ?_
 by_cases h1:d.what=1
 ·simp[h1,Zn]
  refine cK (Z8 hK _ _ _) ?_;by_cases h:inR d.frm 0 2
  ·simp[h]
   refine cK (Z8 hK _ _ _) ?_;by_cases h':inR d.pos 0 many
   ·simp[h']
    exact cK (Qgr hK _ _ _) (by simp)
   ·simp[h']
  ·simp[h]
 ·by_cases h2:d.what=2
  ·by_cases h3:d.bar=0
   ·by_cases h4:d.smith=0
    ·simp[h2,h3,h4,Zn]
     refine cK (Z8 hK _ _ _) ?_;by_cases h:inR d.frm 0 2
     ·simp[h]
      exact ⟨by omega,cK (Z8 hK _ _ _) (by simp)⟩
     ·simp[h]
    ·simp[h2,h3,h4,Zn]
   ·simp[h2,h3,Zn]
  ·by_cases h3:d.what=3
   ·simp[h3,Zn]
   ·by_cases h4:d.what=4
    ·simp[h4,Zn]
    ·simp[h1,h2,h3,h4,Zn]
omit hK
@[simp] def US (l:List Nat):IV:=.sl 1 (l.map fun (n:Nat)=>[.int .i64 (n:Int)])
def cnt (ds:List Qy) (i:Nat):Int:=((ds.take i).map grow).sum
@[simp] theorem Qsj (ds:List Qy):cnt ds 0=0:=by simp[cnt]
theorem Uj (ds:List Qy) (i:Nat) (h:i<ds.length):cnt ds (i+1)=cnt ds i+grow ds[i]:=by
 unfold cnt;rw[Qxt h,QxV,List.sum_append];simp
theorem QjR (ds:List Qy) (i n:Nat) (h:i<=n):cnt (ds.take n) i=cnt ds i:=by
 simp[cnt,List.take_take,Qx2 h]
theorem Vl (d:Qy) : -1<=grow d/\grow d<=1:=by
 unfold grow;omega
def OkD (ds:List Qy) (n:Nat):Prop:=∀ i (h:i<ds.length),i<n->Zn ds[i] (cnt ds i)
noncomputable instance (ds:List Qy) (n:Nat):Decidable (OkD ds n):=Classical.propDecidable _
theorem OkD.cnt {ds:List Qy} {n:Nat} (h:OkD ds n):∀ i,i<=n->i<=ds.length->0<=cnt ds i/\cnt ds i<=i
 | 0,_,_=>by simp
 | i+1,h1,h2=>by
   have ih:=OkD.cnt h i (by omega) (by omega)
   rw[Uj ds i (by omega)]
   have hd:=h i (by omega) (by omega)
   have hb:=Vl (ds[i]'(by omega))
   refine ⟨?_,by push_cast;omega⟩
   rcases hd with ⟨h3,_⟩ | ⟨h3,_,h4,_⟩ | ⟨h3,_⟩
   ·simp[grow,h3];omega
   ·simp only[inR] at h4
    omega
   ·have:grow (ds[i]'(by omega))=0:=by rcases h3 with h3 | h3<;>simp[grow,h3]
    omega
theorem OkD.succ {ds:List Qy} {n:Nat} (h:OkD ds n) (hn:n<ds.length) (hd:Zn ds[n] (Go.Pf.cnt ds n)):OkD ds (n+1):=fun i hi hin=>by
 rcases Nat.lt_succ_iff_lt_or_eq.1 hin with h1 | h1
 ·exact h i hi h1
 grind
def qT (ds:List Qy) (n:Nat):List Int:=(List.range (n+1)).map (cnt ds)
@[simp] theorem QpN (ds:List Qy) (n:Nat):(qT ds n).length=n+1:=by simp[qT]
theorem QeG (ds:List Qy) (n:Nat):qT ds (n+1)=qT ds n++[cnt ds (n+1)]:=by simp[qT,Qye]
theorem U0 (ds:List Qy) (n i:Nat) (h:i<n+1):(qT ds n)[i]'(by simpa using h)=cnt ds i:=by simp[qT]
def Ye (s:J2) (ds:List Qy):Prop:=inR s.after 0 ds.length/\inR s.frm 0 1/\inR s.pos 0 (cnt ds s.after.toNat-1)/\inR s.bar (-1) 99/\inR s.smith (-1) 99
instance (s:J2) (ds:List Qy):Decidable (Ye s ds):=by unfold Ye;infer_instance
structure OkC (c:Qn):Prop where
 len:c.deeds.length<=12
 slen:c.sights.length<=8
 wrong:inR c.wrong 0 8
 deeds:OkD c.deeds c.deeds.length
 sights:∀ s∈c.sights,Ye s c.deeds
noncomputable instance (c:Qn):Decidable (OkC c):=Classical.propDecidable _
def XN (p:Qy->Bool):List Qy->Nat->List Nat
 | [],_=>[]
 | d::r,i=>if p d then i::XN p r (i+1) else XN p r (i+1)
theorem Jm (p:Qy->Bool) (r:List Qy):∀ (l:List Qy) (i:Nat),XN p (l++r) i=XN p l i++XN p r (i+l.length)
 | [],i=>by simp[XN]
 | d::l,i=>by
   have e:i+1+l.length=i+(l.length+1):=by omega
   simp only[Qyt,XN,Jm p r l,QxA,e];split<;>simp
theorem Qbi (p:Qy->Bool) (ds:List Qy) (i:Nat) (h:i<ds.length):XN p (ds.take (i+1)) 0=if p ds[i] then XN p (ds.take i) 0++[i] else XN p (ds.take i) 0:=by
 rw[Qxt h,Jm];have e:(ds.take i).length=i:=by simp;omega
 simp only[e,QxE,XN];split<;>simp
theorem QdR (p:Qy->Bool):∀ (l:List Qy) (i:Nat),(XN p l i).length<=l.length
 | [],_=>by simp[XN]
 | d::l,i=>by
   have:=QdR p l (i+1);simp only[XN]
   grind
def ZN (d:Qy):Bool:=decide (d.what=1)
def QlG (d:Qy):Bool:=decide (d.what=4)
def Qsy (ds:List Qy):List Int:=(ds.filter ZN).map (·.smith)
def QC (ds:List Qy):Int:=cnt ds ds.length
def WA (ds:List Qy):Nat:=(ds.filter ZN).length
def Qt6 (c:Qn) (n:Nat):Qn:=⟨c.deeds.take n,[],0⟩
include hK
theorem q0 (c:Qn) (hl:c.deeds.length<=1000) (hs:c.sights.length<=1000):Ev.Good Tryz.prog K 105 [chV c] (.int .i64 (if OkC c then 0 else 20)):=by
 refine Qb hK Qoq (by simp) ?_
 by_cases h1:c.deeds.length<=12
 ·by_cases h2:c.sights.length<=8
  ·have h1':¬ (12:Int)<c.deeds.length:=by omega
   have h2':¬ (8:Int)<c.sights.length:=by omega
   simp[h1',h2'];intro _ _;refine cK (Z8 hK _ _ _) ?_;by_cases h3:inR c.wrong 0 8
   ·simp[h3]
    intro _
    refine QI (fun i=>[(1,AV.iv (.ptr [QO c.deeds,QJ c.sights,.int .i64 c.wrong])),(3,AV.aref 24 (i+1)),(26,AV.iv (QO c.deeds)),(27,AV.iv (.int .i64 c.deeds.length)),(28,AV.iv (IV.int IntKind.i64 (i:Nat)))])
     (fun i=>[(24,AO.arr 3 1 (emb ((qT c.deeds i).map fun n=>[.int .i64 n])) 0)]) c.deeds.length (fun i=>OkD c.deeds i) (fun i _ h=>by omega) ?_ ?_
    ·intro h4
     rw[Qa Qdc.eq_1];simp;intro _
     refine QI (fun i=>[(1,AV.iv (.ptr [QO c.deeds,QJ c.sights,.int .i64 c.wrong])),(3,AV.aref 24 (c.deeds.length+1)),(52,AV.iv (QJ c.sights)),(53,AV.iv (.int .i64 c.sights.length)),(54,AV.iv (IV.int IntKind.i64 (i:Nat)))])
      (fun i=>[(24,AO.arr 3 1 (emb ((qT c.deeds c.deeds.length).map fun n=>[.int .i64 n])) 0)]) c.sights.length (fun i=>∀ s∈c.sights.take i,Ye s c.deeds) (by simp) ?_ ?_
     ·intro h
      rw[Qa Qdb.eq_1];have:OkC c:=⟨h1,h2,h3,h4,by simpa using h⟩
      simp[this]
     ·intro i hi h ih
      rw[Qa Qdb.eq_1];simp[hi] at ih |-;intros;have hb0:=h4.cnt c.deeds.length (Qxw _) (Qxw _);refine cK (Z8 hK _ _ _) ?_;by_cases k1:inR c.sights[i].after 0 c.deeds.length
      ·have k1':=k1
       simp only[inR] at k1';have hlt:c.sights[i].after.toNat<c.deeds.length+1:=by omega
       have hb:=h4.cnt c.sights[i].after.toNat (by omega) (by omega)
       have hg:=U0 c.deeds c.deeds.length c.sights[i].after.toNat hlt;simp[k1];refine cK (Z8 hK _ _ _) ?_;by_cases k2:inR c.sights[i].frm 0 1
       ·simp[k2,hlt,hg]
        have no:∀ q:Prop,(Ye c.sights[i] c.deeds->q)->¬ q->¬ OkC c:=fun q h1 h2 hh=>h2 (h1 (hh.sights _ (Qxx hi)))
        refine ⟨by omega,by omega,cK (Z8 hK _ _ _) ?_⟩
        by_cases k3:inR c.sights[i].pos 0 (cnt c.deeds c.sights[i].after.toNat-1)
        ·simp[k3]
         refine cK (Qgr hK _ _ _) ?_;by_cases k4:inR c.sights[i].bar (-1) 99/\inR c.sights[i].smith (-1) 99
         ·simp[k4]
          refine ⟨by omega,ih ?_⟩
          rw[Qxt hi];intro s hs;rcases QxI.1 hs with hs | hs
          ·exact h s hs
          ·rw[Qx9] at hs;subst hs;exact ⟨k1,k2,k3,k4⟩
         ·have:=no _ (fun h=>h.2.2.2) k4
          simp[k4,this]
        ·have:=no _ (fun h=>h.2.2.1) k3
         simp[k3,this]
       ·have:¬ OkC c:=fun hh=>k2 (hh.sights _ (Qxx hi)).2.1
        simp[k2,this]
      ·have:¬ OkC c:=fun hh=>k1 (hh.sights _ (Qxx hi)).1
       simp[k1,this]
    ·intro i hi h ih
     have hb:=h.cnt i (Qxw _) (by omega)
     rw[Qa Qdc.eq_1];simp[hi,U0] at ih |-;refine cK (Qmn hK c.deeds[i] (cnt c.deeds i) ⟨by omega,by omega⟩) ?_
     by_cases hd:Zn c.deeds[i] (cnt c.deeds i)
     ·have ih:=ih (h.succ hi hd)
      have hs:=Uj c.deeds i hi;have hg:=Vl c.deeds[i];rw[QeG,hs] at ih;simp[hd,hi,U0];refine cK (Qcv hK c.deeds[i]) ?_;simp at ih |-
      grind
     ·have:¬ OkC c:=fun hh=>hd (hh.deeds i hi hi)
      simp[hd,this]
   ·have:¬ OkC c:=fun hh=>h3 hh.wrong
    simp[h3,this]
  ·have h1':¬ (12:Int)<c.deeds.length:=by omega
   have h2':(8:Int)<c.sights.length:=by omega
   have:¬ OkC c:=fun hh=>h2 hh.slen
   simp[h1',h2',this]
 ·have h1':(12:Int)<c.deeds.length:=by omega
  have:¬ OkC c:=fun hh=>h1 hh.len
  simp[h1',this]
theorem Qct (c:Qn) (hl:c.deeds.length<=1000):Ev.Good Tryz.prog K 151 [chV c] (.tup [.int .i64 (QC c.deeds),.int .i64 (WA c.deeds)]):=by
 refine Qb hK QnP (by simp) ?_
 simp;intro _
 refine QI (fun i=>[(2,AV.iv (.int .i64 (cnt c.deeds i))),(3,AV.iv (.int .i64 (WA (c.deeds.take i)))),(7,AV.iv (QO c.deeds)),(8,AV.iv (.int .i64 c.deeds.length)),(9,AV.iv (IV.int IntKind.i64 (i:Nat)))])
  (fun i=>[]) c.deeds.length (fun i => -(i:Int)<=cnt c.deeds i/\cnt c.deeds i<=i) (by simp) ?_ ?_
 ·intro _
  rw[Qa Qc5.eq_1];simp[QC]
 ·intro i hi hb ih
  have hbn:WA (c.deeds.take i)<=i:=Qx7 (Qx0 _ _) (by simp;omega)
  have e:WA (c.deeds.take (i+1))=if ZN c.deeds[i] then WA (c.deeds.take i)+1 else WA (c.deeds.take i):=by
   rw[Qxt hi];simp only[WA,List.filter_append,List.filter_cons,List.filter_nil];split<;>simp
  have hg:=Vl c.deeds[i];have hs:=Uj c.deeds i hi;rw[hs,e] at ih;rw[Qa Qc5.eq_1];simp[hi] at ih |-;refine cK (Qcv hK c.deeds[i]) ?_;simp;refine ⟨by omega,?_⟩
  refine cK (Qcv hK c.deeds[i]) ?_;by_cases hw:c.deeds[i].what=1
  ·have hg1:grow c.deeds[i]=1:=by simp[grow,hw]
   simp[hg1,ZN,hw] at ih |-
   grind
  ·have hg1:grow c.deeds[i]<=0:=by unfold grow;omega
   have hg2:¬ 0<grow c.deeds[i]:=by omega
   simp[hg2,ZN,hw] at ih |-
   grind
theorem Qcw (c:Qn) (hl:c.deeds.length<=1000) (hs:c.sights.length<=1000):Ev.Good Tryz.prog K 109 [chV c] (.tup [.int .i64 (if OkC c then QC c.deeds else 0),.int .i64 (if OkC c then 0 else 20)]):=by
 refine Qb hK Qom (by simp) ?_
 simp;refine cK (q0 hK c hl hs) ?_;by_cases h:OkC c
 ·simp[h]
  exact cK (Qct hK c hl) (by simp)
 ·simp[h]
omit hK
def fi {α:Type} (p:α->Bool) (l:List α):Int:=if l.any p then (l.findIdx p:Int) else -1
theorem QeQ {α:Type} (p:α->Bool) (l:List α) (i:Nat) (h:i<l.length) (hp:p l[i]=true) (hn:∀ x∈l.take i,p x=false):fi p l=i:=by
 have h1:l.any p=true:=List.any_eq_true.2 ⟨l[i],Qxx h,hp⟩
 have h2:l.findIdx p=i:=by
  rw[List.findIdx_eq h];refine ⟨hp,fun j hj=>?_⟩
  have hm:l[j]'(by omega)∈l.take i:=by
   rw[List.mem_take_iff_getElem]
   grind
  grind
 simp[fi,h1,h2]
theorem Vr {α:Type} (p:α->Bool) (l:List α) (hn:∀ x∈l,p x=false):fi p l = -1:=by
 have h1:l.any p=false:=List.any_eq_false.2 (fun x hx=>by simp[hn x hx])
 simp[fi,h1]
theorem X3 {α:Type} (p:α->Bool) (l:List α):decide (0<=fi p l)=l.any p:=by
 unfold fi
 grind
def QT (l:Zv):Bool:=!(decide (inR l.long 1 1000)&&decide (inR l.lo 1 l.hi)&&decide (l.hi<=1000))
def Xw (b:Q7):Bool:=!(decide (inR b.weight 0 9999)&&decide (inR b.mins 0 99)&&decide (inR b.load 0 999999999)&&decide (inR b.off 0 999999999))
structure OkM (m:Machine):Prop where
 len:m.levers.length<=3
 levers:∀ l∈m.levers,QT l=false
 water:inR m.water 0 9999
 leak:inR m.llo 0 m.lhi
 lhi:m.lhi<=20
 blen:m.bals.length<=6
 bals:∀ b∈m.bals,Xw b=false
 wrong:inR m.wrong 0 6
noncomputable instance (m:Machine):Decidable (OkM m):=Classical.propDecidable _
include hK
theorem QkM (a b c:Int):Ev.Good Tryz.prog K 35 [.int .i64 a,.int .i64 b,.int .i64 c] (.bool (decide (inR a 0 9999/\inR b 0 99/\inR c 0 999999999))):=by
 refine Qb hK Qro (by simp) ?_
 simp;refine cK (JO hK _ _ _) ?_;by_cases h1:inR a 0 9999
 ·simp[h1]
  refine cK (JO hK _ _ _) ?_;by_cases h2:inR b 0 99
  ·simp[h2]
   exact cK (JO hK _ _ _) (by simp)
  ·simp[h2]
 ·simp[h1]
theorem Qp1 (a b c:Int):Ev.Good Tryz.prog K 9 [.int .i64 a,.int .i64 b,.int .i64 c] (.bool (decide (inR a 0 9999/\inR b 0 99/\inR c 0 999999999))):=by
 refine Qb hK QtB (by simp) ?_
 simp;refine cK (YM hK _ _ _) ?_;by_cases h1:inR a 0 9999
 ·simp[h1]
  refine cK (YM hK _ _ _) ?_;by_cases h2:inR b 0 99
  ·simp[h2]
   exact cK (YM hK _ _ _) (by simp)
  ·simp[h2]
 ·simp[h1]
theorem QpZ (l:Zv):Ev.Good Tryz.prog K 91 [.agg (leC l)] (.bool (QT l)):=by
 refine Qb hK QqO (by simp) ?_
 simp;refine cK (JO hK _ _ _) ?_;by_cases h1:inR l.long 1 1000
 ·simp[h1]
  refine cK (JO hK _ _ _) ?_;by_cases h2:inR l.lo 1 l.hi
  ·by_cases h3:l.hi<=1000
   ·have h3':¬ 1000<l.hi:=by omega
    simp[h1,h2,h3,QT,h3']
   ·have h3':1000<l.hi:=by omega
    simp[h1,h2,h3,QT,h3']
  ·simp[h2,QT]
 ·simp[h1,QT]
theorem QpY (b:Q7):Ev.Good Tryz.prog K 92 [.agg (baC b)] (.bool (Xw b)):=by
 refine Qb hK QqN (by simp) ?_
 simp;refine cK (QkM hK _ _ _) ?_;by_cases h1:inR b.weight 0 9999/\inR b.mins 0 99/\inR b.load 0 999999999
 ·simp[h1]
  refine cK (JO hK _ _ _) ?_;by_cases h2:inR b.off 0 999999999
  ·simp[h1,h2,Xw]
  ·simp[h2,Xw]
 ·have:Xw b=true:=by
   simp only[Xw,QxO,Bool.and_eq_false_iff,decide_eq_false_iff_not]
   grind
  simp[h1,this]
theorem Qmq (l:List Zv) (g:FuncId) (p:Zv->Bool) (hg:∀ x,Ev.Good Tryz.prog K g [.agg (leC x)] (.bool (p x))) (hc:callee Tryz.prog g=true) (hl:l.length<=1000):Ev.Good Tryz.prog K 124 [Zm l,.fn g] (.int .i64 (fi p l)):=by
 refine Qb hK Qoa (by simp) ?_
 simp;intro _;refine QI (fun i=>[(0,AV.iv (Zm l)),(1,AV.iv (.fn g)),(7,AV.iv (.int .i64 l.length)),(8,AV.iv (IV.int IntKind.i64 (i:Nat)))]) (fun _=>[]) l.length (fun i=>∀ x∈l.take i,p x=false) (by simp) ?_ ?_
 ·intro h
  rw[Qa Qc8.eq_1];rw[QxM] at h;simp[Vr p l h]
 ·intro i hi h ih
  rw[Qa Qc8.eq_1];simp[hi] at ih |-;refine ⟨hc,cK (hg l[i]) ?_⟩;by_cases hp:p l[i]=true
  ·simp[hp,QeQ p l i hi hp h]
  ·have hp':p l[i]=false:=by simpa using hp
   simp[hp'];refine ⟨by omega,ih ?_⟩
   rw[Qxt hi]
   grind
theorem Qmp (l:List Q7) (g:FuncId) (p:Q7->Bool) (hg:∀ x,Ev.Good Tryz.prog K g [.agg (baC x)] (.bool (p x))) (hc:callee Tryz.prog g=true) (hl:l.length<=1000):Ev.Good Tryz.prog K 125 [Y8 l,.fn g] (.int .i64 (fi p l)):=by
 refine Qb hK Qn9 (by simp) ?_
 simp;intro _;refine QI (fun i=>[(0,AV.iv (Y8 l)),(1,AV.iv (.fn g)),(7,AV.iv (.int .i64 l.length)),(8,AV.iv (IV.int IntKind.i64 (i:Nat)))]) (fun _=>[]) l.length (fun i=>∀ x∈l.take i,p x=false) (by simp) ?_ ?_
 ·intro h
  rw[Qa Qc7.eq_1];rw[QxM] at h;simp[Vr p l h]
 ·intro i hi h ih
  rw[Qa Qc7.eq_1];simp[hi] at ih |-;refine ⟨hc,cK (hg l[i]) ?_⟩;by_cases hp:p l[i]=true
  ·simp[hp,QeQ p l i hi hp h]
  ·have hp':p l[i]=false:=by simpa using hp
   simp[hp'];refine ⟨by omega,ih ?_⟩
   rw[Qxt hi]
   grind
theorem QpX (l:List Zv) (g:FuncId) (p:Zv->Bool) (hg:∀ x,Ev.Good Tryz.prog K g [.agg (leC x)] (.bool (p x))) (hc:callee Tryz.prog g=true) (hl:l.length<=1000):Ev.Good Tryz.prog K 93 [Zm l,.fn g] (.bool (l.any p)):=by
 refine Qb hK QqM (by simp) ?_
 simp;refine cK (Qmq hK l g p hg hc hl) ?_;simp[X3]
theorem QpW (l:List Q7) (g:FuncId) (p:Q7->Bool) (hg:∀ x,Ev.Good Tryz.prog K g [.agg (baC x)] (.bool (p x))) (hc:callee Tryz.prog g=true) (hl:l.length<=1000):Ev.Good Tryz.prog K 94 [Y8 l,.fn g] (.bool (l.any p)):=by
 refine Qb hK QqL (by simp) ?_
 simp;refine cK (Qmp hK l g p hg hc hl) ?_;simp[X3]
theorem Qqc (m:Machine) (hl:m.levers.length<=1000) (hb:m.bals.length<=1000):Ev.Good Tryz.prog K 64 [maV m] (.int .i64 (if OkM m then 0 else 30)):=by
 refine Qb hK Qq8 (by simp) ?_
 have no:∀ q:Prop,(OkM m->q)->¬ q->¬ OkM m:=fun q h1 h2 h=>h2 (h1 h)
 by_cases h1:m.levers.length<=3
 ·have h1':¬ (3:Int)<m.levers.length:=by omega
  simp[h1'];intro _;refine cK (QpX hK m.levers 91 QT (QpZ hK) (by kernel_rfl) hl) ?_
  by_cases h2:m.levers.any QT=true
  ·have:¬ OkM m:=no (m.levers.any QT=false) (fun h=>by simpa using h.levers) (by simp[h2])
   simp[h2,this]
  ·have h2':m.levers.any QT=false:=by simpa using h2
   simp[h2'];refine cK (JO hK _ _ _) ?_;by_cases h3:inR m.water 0 9999
   ·simp[h3]
    refine cK (JO hK _ _ _) ?_;by_cases h4:inR m.llo 0 m.lhi
    ·by_cases h5:m.lhi<=20
     ·have h5':¬ 20<m.lhi:=by omega
      by_cases h6:m.bals.length<=6
      ·have h6':¬ (6:Int)<m.bals.length:=by omega
       simp[h4,h5',h6'];intro _;refine cK (QpW hK m.bals 92 Xw (QpY hK) (by kernel_rfl) hb) ?_
       by_cases h7:m.bals.any Xw=true
       ·have:¬ OkM m:=no (m.bals.any Xw=false) (fun h=>by simpa using h.bals) (by simp[h7])
        simp[h7,this]
       ·have h7':m.bals.any Xw=false:=by simpa using h7
        simp[h7'];refine cK (JO hK _ _ _) ?_;by_cases h8:inR m.wrong 0 6
        ·have:OkM m:=⟨h1,by simpa using h2',h3,h4,h5,h6,by simpa using h7',h8⟩
         simp[h8,this]
        ·have:=no _ OkM.wrong h8
         simp[h8,this]
      ·have h6':(6:Int)<m.bals.length:=by omega
       have:=no _ OkM.blen h6;simp[h4,h5',h6',this]
     ·have h5':20<m.lhi:=by omega
      have:=no _ OkM.lhi h5;simp[h4,h5',this]
    ·have:=no _ OkM.leak h4
     simp[h4,this]
   ·have:=no _ OkM.water h3
    simp[h3,this]
 ·have h1':(3:Int)<m.levers.length:=by omega
  have:=no _ OkM.len h1;simp[h1',this]
omit hK
section
variable {P:Program} {K:World->Prop}
theorem Vx.first {ps:List Nat} {asn body:AC} {ks ids:List Nat} {eK:Env} {wy:Ev.Way} (hwy:wy≠.fall):∀ (L:List (List IV)) (so oR:Nat->Qh) (bad:Nat->Prop),
  (∀ i x,L[i]?=some x->(∀ j,j<i->¬ bad j)->¬ bad i->Rnd P K ps asn body ks ids eK x (so i) .fall (so (i+1)))->(∀ i x,L[i]?=some x->(∀ j,j<i->¬ bad j)->bad i->Rnd P K ps asn body ks ids eK x (so i) wy (oR i)) ->
  (∃ i,i<L.length/\bad i/\(∀ j,j<i->¬ bad j)/\Vx P K ps asn body ks ids eK L (so 0) wy (oR i))\/((∀ i,i<L.length->¬ bad i)/\Vx P K ps asn body ks ids eK L (so 0) .fall (so L.length))
 | [],so,oR,bad,_,_=>.inr ⟨by simp,.nil _⟩
 | x::r,so,oR,bad,h1,h2=>by
   by_cases hb:bad 0
   ·exact .inl ⟨0,by simp,hb,by simp,.stop x r _ _ wy hwy (h2 0 x rfl (by simp) hb)⟩
   ·have hx:=h1 0 x rfl (by simp) hb
    have lift:∀ i,(∀ j,j<i->¬ bad (j+1))->∀ j,j<i+1->¬ bad j:=fun i hh j hj=>by
     cases j with
     | _=>grind
    rcases Vx.first hwy r (fun i=>so (i+1)) (fun i=>oR (i+1)) (fun i=>bad (i+1)) (fun i y hy hh hn=>h1 (i+1) y (by simpa using hy) (lift i hh) hn) (fun i y hy hh hn=>h2 (i+1) y (by simpa using hy) (lift i hh) hn) with ⟨i,g1,g2,g3,g4⟩ | ⟨g1,g2⟩
    ·exact .inl ⟨i+1,by simp;omega,g2,lift i g3,.next x r _ _ _ _ hx g4⟩
    ·refine .inr ⟨fun i hi=>?_,.next x r _ _ _ _ hx g2⟩
     cases i with
     | _=>grind
end
def pv (ds:List Qy):List Nat:=XN QlG ds 0
theorem U4 (p:Qy->Bool):∀ (l:List Qy) (i j:Nat),j∈XN p l i->i<=j/\j<i+l.length
 | [],i,j,h=>by simp[XN] at h
 | d::l,i,j,h=>by
   simp only[XN] at h;split at h
   ·rcases Qx4.1 h with h | h
    ·subst h;simp
    ·have:=U4 p l (i+1) j h
     simp;omega
   ·have:=U4 p l (i+1) j h
    simp;omega
def trs:List Nat->Nat->List (List IV)
 | [],_=>[]
 | j::r,t=>[.int .i64 t,.int .i64 j]::trs r (t+1)
@[simp] theorem Qk5:∀ (l:List Nat) (t:Nat),(trs l t).length=l.length
 | [],_=>rfl
 | j::r,t=>by simp[trs,Qk5 r (t+1)]
section
variable {K:World->Prop}
end
def qR (t:Qaq) (many:Int):Prop:=inR t.weight 0 9999/\inR t.mins 0 99/\inR t.broke (-1) (many-1)
instance (t:Qaq) (many:Int):Decidable (qR t many):=by unfold qR;infer_instance
structure OkP (p:Qv):Prop where
 chain:OkC p.chain
 machine:OkM p.machine
 need:inR p.need 0 999999999
 rule:inR p.rule 1 12
 many:p.trials.length=(pv p.chain.deeds).length
 trials:∀ i (h:i<(pv p.chain.deeds).length) (h':i<p.trials.length),qR p.trials[i] (cnt p.chain.deeds (pv p.chain.deeds)[i])
noncomputable instance (p:Qv):Decidable (OkP p):=Classical.propDecidable _
structure Qua (p:Qv):Prop where
 deeds:p.chain.deeds.length<=1000
 sights:p.chain.sights.length<=1000
 levers:p.machine.levers.length<=1000
 bals:p.machine.bals.length<=1000
 trials:p.trials.length<=1000
theorem OkD.take {ds:List Qy} {n m:Nat} (h:OkD ds n) (hm:m<=n):OkD (ds.take m) (ds.take m).length:=fun i hi hin=>by
 have hl:(ds.take m).length<=m:=by simp;omega
 have h1:i<ds.length:=by simp at hi;omega
 rw[List.getElem_take,QjR ds i m (by omega)]
 exact h i h1 (by omega)
include hK
omit hK
def plc (pos e:Int) (n:Nat):Nat:=(if e=1 then (n:Int)-1-pos else pos).toNat
def Y4 (d:Qy) (e:Int) (k:Nat) (now:List Nat):List Nat :=
 if d.what=1 then now.take (plc d.pos e (now.length+1))++[k]++now.drop (plc d.pos e (now.length+1))
 else if d.what=2 then now.take (plc d.pos e now.length)++now.drop (plc d.pos e now.length+1)
 else if d.what=3 then now.reverse else now
def wn (ds:List Qy) (i:Nat):Nat:=(XN ZN (ds.take i) 0).length
theorem Qk0 (ds:List Qy) (i:Nat) (h:i<ds.length):wn ds (i+1)=if ds[i].what=1 then wn ds i+1 else wn ds i:=by
 unfold wn;rw[Qbi _ _ _ h];by_cases hw:ds[i].what=1<;>simp[ZN,hw]
theorem QoY (ds:List Qy) (i:Nat):wn ds i<=i:=by
 have:=QdR ZN (ds.take i) 0;unfold wn
 grind
def cab (ds:List Qy) (e:Nat->Int):Nat->List Nat
 | 0=>[]
 | i+1=>match ds[i]? with
   | some d=>Y4 d (e i) (wn ds i) (cab ds e i)
   | none=>cab ds e i
theorem Qai (ds:List Qy) (e:Nat->Int) (i:Nat) (h:i<ds.length):cab ds e (i+1)=Y4 ds[i] (e i) (wn ds i) (cab ds e i):=by
 simp only[cab,Qxq h]
theorem Qky {pos e:Int} {n:Nat} (h:0<=pos/\pos<=n):plc pos e (n+1)<=n:=by
 unfold plc;split<;>omega
theorem QfN {pos e:Int} {n:Nat} (h:0<=pos/\pos<=(n:Int)-1):plc pos e n<n:=by
 unfold plc;split<;>omega
theorem Qfo {d:Qy} {e:Int} {k:Nat} {now:List Nat} (h:Zn d now.length):((Y4 d e k now).length:Int)=now.length+grow d:=by
 rcases h with ⟨h1,_,h3,_⟩ | ⟨h1,_,h3,_⟩ | ⟨h1,_⟩
 ·have:=Qky (e:=e) h3
  simp[Y4,grow,h1];omega
 ·have:=QfN (e:=e) h3
  simp[Y4,grow,h1];omega
 ·rcases h1 with h1 | h1<;>simp[Y4,grow,h1]
theorem Yk {ds:List Qy} (e:Nat->Int) {n:Nat} (h:OkD ds n):∀ i,i<=n->i<=ds.length->((cab ds e i).length:Int)=cnt ds i
 | 0,_,_=>by simp[cab]
 | i+1,h1,h2=>by
   have ih:=Yk e h i (by omega) (by omega)
   rw[Qai ds e i (by omega),Qfo (by rw[ih];exact h i (by omega) (by omega)),Uj ds i (by omega),ih]
theorem Qdo {d:Qy} {e:Int} {k m:Nat} {now:List Nat} (h:∀ x∈now,x<m) (hk:k<m):∀ x∈Y4 d e k now,x<m:=by
 intro x hx;unfold Y4 at hx
 grind
theorem Qd9 (ds:List Qy) (e:Nat->Int):∀ i,∀ x∈cab ds e i,x<wn ds i
 | 0=>by simp[cab]
 | i+1=>by
   intro x hx;have ih:=Qd9 ds e i;cases hd:ds[i]? with
   | none =>
     simp only[cab,hd] at hx
     have hge:ds.length<=i:=by
      grind
     have e1:wn ds (i+1)=wn ds i:=by simp[wn,QxH hge,QxH (Nat.le_succ_of_le hge)]
     grind
   | some d =>
     have hlt:=(Qxr.1 hd).1;rw[Qai ds e i hlt] at hx;rw[Qk0 ds i hlt];have hm:∀ y∈cab ds e i,y<wn ds i:=ih
     by_cases hw:ds[i].what=1
     ·rw[if_pos hw]
      exact Qdo (fun y hy=>by grind) (by omega) x hx
     ·rw[if_neg hw]
      have:Y4 ds[i] (e i) (wn ds i) (cab ds e i)=Y4 ds[i] (e i) 0 (cab ds e i):=by simp[Y4,hw]
      rw[this] at hx;rcases Nat.eq_zero_or_pos (wn ds i) with hz | hp
      ·have he:cab ds e i=[]:=by
        rcases List.eq_nil_or_concat (cab ds e i) with h | ⟨l,a,h⟩
        ·exact h
        ·have:=hm a (by rw[h];simp)
         omega
       rw[he] at hx;simp[Y4,hw] at hx
      ·exact Qdo hm hp x hx
def Qhr (ds:List Qy) (e:Nat->Int) (n:Nat):List (List Nat):=(List.range (n+1)).map (cab ds e)
@[simp] theorem QjV (ds:List Qy) (e:Nat->Int) (n:Nat):(Qhr ds e n).length=n+1:=by simp[Qhr]
theorem Qhq (ds:List Qy) (e:Nat->Int) (n:Nat):Qhr ds e (n+1)=Qhr ds e n++[cab ds e (n+1)]:=by simp[Qhr,Qye]
theorem Qah (ds:List Qy) (e:Nat->Int) (n i:Nat) (h:i<n+1):(Qhr ds e n)[i]'(by simpa using h)=cab ds e i:=by simp[Qhr]
@[simp] def QtA (l:List (List Nat)):IV:=.sl 1 (l.map fun c=>[US c])
theorem QE (L:List (List IV)):List.map (List.map AV.iv) L=emb L:=rfl
theorem Q1 (L M:List (List IV)):emb L++emb M=emb (L++M):=by simp[emb]
theorem QX:emb []=[]:=rfl
theorem Qr (L:List (List IV)):W8 (emb L)=some L:=Ud L
def QbK (ends:List Int) (i:Nat):Int:=ends.getD i 0
include hK
omit hK
@[simp] theorem QpR {α:Type} (f:α->List IV) (l:List α):W8 (l.map (List.map AV.iv∘f))=some (l.map f):=by
 rw[<- List.map_map];exact Ud _
theorem Qy.ext {a b:Qy} (h0:a.what=b.what) (h1:a.pos=b.pos) (h2:a.frm=b.frm) (h3:a.bar=b.bar) (h4:a.smith=b.smith):a=b:=by
 cases a;cases b;simp_all
theorem J2.ext {a b:J2} (h0:a.after=b.after) (h1:a.pos=b.pos) (h2:a.frm=b.frm) (h3:a.bar=b.bar) (h4:a.smith=b.smith):a=b:=by
 cases a;cases b;simp_all
theorem Zv.ext {a b:Zv} (h0:a.long=b.long) (h1:a.lo=b.lo) (h2:a.hi=b.hi):a=b:=by
 cases a;cases b;simp_all
theorem Q7.ext {a b:Q7} (h0:a.weight=b.weight) (h1:a.mins=b.mins) (h2:a.load=b.load) (h3:a.off=b.off):a=b:=by
 cases a;cases b;simp_all
theorem Qaq.ext {a b:Qaq} (h0:a.weight=b.weight) (h1:a.mins=b.mins) (h2:a.broke=b.broke):a=b:=by
 cases a;cases b;simp_all
def QL {α:Type} (f:α->Int):List α->Int
 | []=>1
 | a::l=>f a*QL f l
theorem UM {α:Type} (f:α->Int) (l:List α) (a:α):QL f (l++[a])=QL f l*f a:=by
 induction l with
 | nil=>simp[QL]
 | cons b l ih=>simp[QL,ih,Int.mul_assoc]
theorem QaV {α:Type} (f:α->Int) (l:List α) (h:∀ a∈l,1<=f a):1<=QL f l:=by
 induction l with
 | nil=>simp[QL]
 | cons b l ih =>
   have h1:=h b (by simp)
   have h2:=ih fun a ha=>h a (by simp[ha])
   have:=QxY h1 h2 (by omega) (by omega)
   simp only[QL];omega
def X7 (l:Zv):Int:=l.hi-l.lo+1
def sets (m:Machine) (i:Nat):Int:=(m.lhi-m.llo+1)*QL X7 (m.levers.take i)
def Xy (ds:List Qy):Nat:=ds.countP fun d=>decide (d.frm=2)
theorem Qfu (m:Machine) (i:Nat) (h:i<m.levers.length):sets m (i+1)=sets m i*X7 m.levers[i]:=by
 unfold sets;rw[Qxt h,UM,Int.mul_assoc]
def Qh8 (m:Machine):Prop:=40<m.levers.length\/40<m.bals.length\/(OkM m/\∃ i,0<i/\i<=m.levers.length/\150<sets m i)
noncomputable instance (m:Machine):Decidable (Qh8 m):=Classical.propDecidable _
def QuB (c:Qn):Prop:=40<c.deeds.length\/40<c.sights.length\/(OkC c/\5<Xy c.deeds)
noncomputable instance (c:Qn):Decidable (QuB c):=Classical.propDecidable _
def ways (p:Qv):Int:=sets p.machine p.machine.levers.length*(2 ^ Xy p.chain.deeds:Nat)
def Qxc (p:Qv):Prop:=QuB p.chain\/Qh8 p.machine\/40<p.trials.length\/(OkP p/\48<ways p)
noncomputable instance (p:Qv):Decidable (Qxc p):=Classical.propDecidable _
theorem OkM.span {m:Machine} (h:OkM m) {l:Zv} (hl:l∈m.levers):1<=X7 l/\X7 l<=1000:=by
 have:=h.levers l hl;simp[QT,inR] at this;have h1:=of_decide_eq_true this.1.2;unfold X7;omega
theorem OkM.sets_pos {m:Machine} (h:OkM m) (i:Nat):1<=sets m i:=by
 have h1:=QaV X7 (m.levers.take i) fun a ha=>(h.span (Qx8 ha)).1
 have h2:=h.leak;simp only[inR] at h2;have:=QxY (show (1:Int)<=m.lhi-m.llo+1 by omega) h1 (by omega) (by omega)
 unfold sets;omega
include hK
theorem Qqg (m:Machine) (hl:m.levers.length<=1000) (hb:m.bals.length<=1000):Ev.Good Tryz.prog K 6 [maV m] (.int .i64 (if OkM m then 0 else 30)):=by
 refine Qb hK QtE (by simp) ?_
 have no:∀ q:Prop,(OkM m->q)->¬ q->¬ OkM m:=fun q h1 h2 h=>h2 (h1 h)
 by_cases h1:m.levers.length<=3
 ·have h1':¬ (3:Int)<m.levers.length:=by omega
  simp[h1'];intros;refine cK (YM hK _ _ _) ?_;by_cases h3:inR m.water 0 9999
  ·simp[h3]
   refine cK (YM hK _ _ _) ?_;by_cases h4:inR m.llo 0 m.lhi
   ·by_cases h5:m.lhi<=20
    ·have h5':¬ 20<m.lhi:=by omega
     by_cases h6:m.bals.length<=6
     ·have h6':¬ (6:Int)<m.bals.length:=by omega
      simp[h4,h5',h6'];intros;refine cK (YM hK _ _ _) ?_;by_cases h8:inR m.wrong 0 6
      ·simp[h8]
       refine QI (fun i=>[(1,AV.iv (.ptr [Zm m.levers,.int .i64 m.water,.int .i64 m.llo,.int .i64 m.lhi,Y8 m.bals,.int .i64 m.wrong])),(3,AV.iv (IV.int IntKind.i64 (i:Nat)))]) (fun _=>[]) m.levers.length (fun i=>∀ l∈m.levers.take i,QT l=false) (by simp) ?_ ?_
       ·intro h2
        rw[QxM] at h2;rw[Qa Qm0.eq_1];simp;intros;refine QI (fun i=>[(1,AV.iv (.ptr [Zm m.levers,.int .i64 m.water,.int .i64 m.llo,.int .i64 m.lhi,Y8 m.bals,.int .i64 m.wrong])),(4,AV.iv (IV.int IntKind.i64 (i:Nat)))]) (fun _=>[]) m.bals.length (fun i=>∀ l∈m.bals.take i,Xw l=false) (by simp) ?_ ?_
        ·intro h7
         rw[QxM] at h7;have:OkM m:=⟨h1,h2,h3,h4,h5,h6,h7,h8⟩;rw[Qa QmZ.eq_1];simp[this]
        ·intro i hi h ih
         rw[Qa QmZ.eq_1];simp[hi] at ih |-;intros;refine cK (Qp1 hK _ _ _) ?_;by_cases k1:inR m.bals[i].weight 0 9999/\inR m.bals[i].mins 0 99/\inR m.bals[i].load 0 999999999
         ·simp[k1]
          refine cK (YM hK _ _ _) ?_;by_cases k2:inR m.bals[i].off 0 999999999
          ·simp[k2]
           refine ⟨by omega,ih ?_⟩
           rw[Qxt hi];intro l hl;rcases QxI.1 hl with hl | hl
           ·exact h l hl
           ·rw[Qx9.1 hl];simp[Xw,k1,k2]
          ·have:=no _ (fun hh=>hh.bals _ (Qxx hi)) (by simp[Xw,k2])
           simp[k2,this]
         ·have:=no _ (fun hh=>hh.bals _ (Qxx hi)) (by simp only[Xw];grind)
          simp[k1,this]
       ·intro i hi h ih
        rw[Qa Qm0.eq_1];simp[hi] at ih |-;intros;refine cK (YM hK _ _ _) ?_;by_cases k1:inR m.levers[i].long 1 1000
        ·simp[k1,hi]
         refine cK (YM hK _ _ _) ?_;by_cases k2:inR m.levers[i].lo 1 m.levers[i].hi
         ·by_cases k3:m.levers[i].hi<=1000
          ·have k3':¬ 1000<m.levers[i].hi:=by omega
           simp[k2,k3',hi];refine ⟨by omega,ih ?_⟩
           rw[Qxt hi];intro l hl;rcases QxI.1 hl with hl | hl
           ·exact h l hl
           ·rw[Qx9.1 hl];simp[QT,k1,k2,k3]
          ·have k3':1000<m.levers[i].hi:=by omega
           have:=no _ (fun hh=>hh.levers _ (Qxx hi)) (by simp[QT,k3])
           simp[k2,k3',hi,this]
         ·have:=no _ (fun hh=>hh.levers _ (Qxx hi)) (by simp[QT,k2])
          simp[k2,this]
        ·have:=no _ (fun hh=>hh.levers _ (Qxx hi)) (by simp[QT,k1])
         simp[k1,this]
      ·have:=no _ OkM.wrong h8
       simp[h8,this]
     ·have h6':(6:Int)<m.bals.length:=by omega
      have:=no _ OkM.blen h6;simp[h4,h5',h6',this]
    ·have h5':20<m.lhi:=by omega
     have:=no _ OkM.lhi h5;simp[h4,h5',this]
   ·have:=no _ OkM.leak h4
    simp[h4,this]
  ·have:=no _ OkM.water h3
   simp[h3,this]
 ·have h1':(3:Int)<m.levers.length:=by omega
  have:=no _ OkM.len h1;simp[h1',this]
theorem Qs4 (m:Machine):Ev.Good Tryz.prog K 5 [maV m] (.bool (decide (Qh8 m))):=by
 refine Qb hK QtF (by simp) ?_
 by_cases h1:m.levers.length<=40
 ·by_cases h2:m.bals.length<=40
  ·have h1':¬ (40:Int)<m.levers.length:=by omega
   have h2':¬ (40:Int)<m.bals.length:=by omega
   simp[h1',h2'];intros;refine cK (Qqg hK m (by omega) (by omega)) ?_
   by_cases h3:OkM m
   ·have h4:=h3.leak
    have h5:=h3.lhi;simp only[inR] at h4;simp[h3]
    (repeat' first | omega | (with_reducible apply And.intro) | intro _)
    have e0:m.lhi-m.llo+1=sets m 0:=by simp[sets,QL]
    rw[e0];refine QI (fun i=>[(1,AV.iv (.ptr [Zm m.levers,.int .i64 m.water,.int .i64 m.llo,.int .i64 m.lhi,Y8 m.bals,.int .i64 m.wrong])),(3,AV.iv (IV.int IntKind.i64 (sets m i))),(4,AV.iv (IV.int IntKind.i64 (i:Nat)))]) (fun _=>[]) m.levers.length (fun i=>sets m i<=150/\∀ k,0<k->k<=i->sets m k<=150) ⟨by rw[<- e0];omega,fun k h h'=>by omega⟩ ?_ ?_
    ·intro ⟨_,h⟩
     have:¬ Qh8 m:=by
      rintro (h | h | ⟨_,k,hk,hk',hk2⟩)
      all_goals grind
     rw[Qa Qm1.eq_1];simp[this]
    ·intro i hi ⟨hq,hall⟩ ih
     have hs:=h3.span (Qxx hi);have hss:=Qfu m i hi;have hp:=h3.sets_pos i;have hb:sets m i*X7 m.levers[i]<=150*1000:=QxY hq hs.2 (by omega) (by omega)
     have hb':0<=sets m i*X7 m.levers[i]:=Qx3 (by omega) (by omega)
     have hsp:X7 m.levers[i]=m.levers[i].hi-m.levers[i].lo+1:=rfl;have hlv:=h3.levers _ (Qxx hi);simp[QT] at hlv;have hlv1:=hlv.1.2;have hlv2:=hlv.2;simp only[inR] at hlv1;rw[Qa Qm1.eq_1];rw[hss,hsp] at ih;simp only[hsp] at hb hb' hss;by_cases hg:150<sets m i*(m.levers[i].hi-m.levers[i].lo+1)
     ·have hex:Qh8 m:=.inr (.inr ⟨h3,i+1,by omega,by omega,by rw[hss];exact hg⟩)
      simp[hi,hg,hex];omega
     ·have:=ih ⟨by omega,fun k hk hk'=>by
       grind⟩
      simp[hi,hg] at this |-
      grind
   ·have:¬ Qh8 m:=by
     rintro (h | h | ⟨h,_⟩)
     all_goals grind
    simp[h3,this]
  ·have h1':¬ (40:Int)<m.levers.length:=by omega
   have h2':(40:Int)<m.bals.length:=by omega
   have:Qh8 m:=.inr (.inl (by omega))
   simp[h1',h2',this]
 ·have h1':(40:Int)<m.levers.length:=by omega
  have:Qh8 m:=.inl (by omega)
  simp[h1',this]
omit hK
def d0:Qy:=⟨0,0,0,0,0⟩
def WB (ds:List Qy):List Nat:=XN ZN ds 0
def Ve (ds:List Qy) (k:Nat):Qy:=ds.getD ((WB ds).getD k 0) d0
theorem Qie {ds:List Qy} {j:Nat} (h:j∈WB ds):j<ds.length:=by
 have:=U4 ZN ds 0 j h;omega
theorem Qdl (ds:List Qy) (i:Nat):wn ds i<=(WB ds).length:=by
 unfold wn WB
 conv=>rhs;rw[<- List.take_append_drop i ds,Jm]
 simp
def QfH (ds:List Qy) (s:J2) (now:List Nat):Bool :=
 (decide (s.bar<0)||decide (s.bar=(Ve ds (now.getD (plc s.pos s.frm now.length) 0)).bar)) &&
 (decide (s.smith<0)||decide (s.smith=(Ve ds (now.getD (plc s.pos s.frm now.length) 0)).smith))
def QaR (ds:List Qy) (e:Nat->Int) (s:J2):Bool:=QfH ds s (cab ds e s.after.toNat)
def ZE (ds:List Qy) (ss:List J2) (e:Nat->Int):Nat:=ss.countP fun s=>!QaR ds e s
theorem Qav (ds:List Qy) (ss:List J2) (e:Nat->Int) (i:Nat) (h:i<ss.length):ZE ds (ss.take (i+1)) e=ZE ds (ss.take i) e+if QaR ds e ss[i] then 0 else 1:=by
 unfold ZE;rw[Qxt h,QyV]
 grind
theorem Qek (ds:List Qy) (ss:List J2) (e:Nat->Int):ZE ds ss e<=ss.length:=Qyr
def Qux (ds:List Qy) (ends:List Int):Prop:=ends.length=ds.length/\∀ i (h:i<ds.length) (h':i<ends.length),inR ends[i] 0 1/\(ds[i].frm<2->ends[i]=ds[i].frm)
noncomputable instance (ds:List Qy) (ends:List Int):Decidable (Qux ds ends):=Classical.propDecidable _
def QsV (c:Qn) (ends:List Int):Prop:=Qux c.deeds ends/\(ZE c.deeds c.sights (QbK ends):Int)<=c.wrong
noncomputable instance (c:Qn) (ends:List Int):Decidable (QsV c ends):=Classical.propDecidable _
structure Qd where
 shorts:List Int
 leak:Int
 deriving DecidableEq
structure Z9 where
 ends:List Int
 set:Qd
 deriving DecidableEq
@[simp] def seC (s:Qd):List IV:=[Yq s.shorts,.int .i64 s.leak]
@[simp] def tuC (t:Z9):List IV:=[Yq t.ends,Yq t.set.shorts,.int .i64 t.set.leak]
def okS (m:Machine) (s:Qd):Prop:=s.shorts.length=m.levers.length/\inR s.leak m.llo m.lhi/\∀ i (h:i<m.levers.length) (h':i<s.shorts.length),inR s.shorts[i] m.levers[i].lo m.levers[i].hi
noncomputable instance (m:Machine) (s:Qd):Decidable (okS m s):=Classical.propDecidable _
def Jf (m:Machine) (leak w mn:Int):Int:=w+max 0 (m.water-mn*leak)
def Wv (m:Machine):Int:=QL (·.long) m.levers
def den (s:Qd):Int:=QL id s.shorts
def num (m:Machine) (s:Qd) (w mn:Int):Int:=Jf m s.leak w mn*Wv m
theorem Va {α:Type} (f:α->Int) (l:List α) (i:Nat) (h:i<l.length):QL f (l.take (i+1))=QL f (l.take i)*f l[i]:=by
 rw[Qxt h,UM]
theorem Qdy {α:Type} (f:α->Int):∀ (l:List α),(∀ a∈l,1<=f a/\f a<=1000)->1<=QL f l/\QL f l<=(1000 ^ l.length:Nat)
 | [],_=>by simp[QL]
 | a::l,h=>by
   have h1:=h a (by simp)
   have h2:=Qdy f l fun a ha=>h a (by simp[ha])
   have h3:=QxY h1.1 h2.1 (by omega) (by omega)
   have h4:=QxY h1.2 h2.2 (by omega) (by omega)
   simp only[QL,QxA];omega
theorem Qlq {n:Nat} (h:n<=3):1000 ^ n<=1000000000:=by
 have:n=0\/n=1\/n=2\/n=3:=by omega
 grind
theorem UL {α:Type} (f:α->Int) (l:List α) (h:∀ a∈l,1<=f a/\f a<=1000) (hl:l.length<=3):1<=QL f l/\QL f l<=1000000000:=by
 have h1:=Qdy f l h;have h2:=Qlq hl;omega
theorem OkM.lever {m:Machine} (h:OkM m) {l:Zv} (hl:l∈m.levers):(1<=l.long/\l.long<=1000)/\1<=l.lo/\l.lo<=l.hi/\l.hi<=1000:=by
 have:=h.levers l hl;simp[QT] at this;simp only[inR] at this;omega
theorem OkM.bal {m:Machine} (h:OkM m) {b:Q7} (hl:b∈m.bals):inR b.weight 0 9999/\inR b.mins 0 99/\inR b.load 0 999999999/\inR b.off 0 999999999:=by
 have:=h.bals b hl;simp[Xw] at this
 grind
theorem OkM.pull {m:Machine} (h:OkM m) {leak w mn:Int} (hl:inR leak m.llo m.lhi) (hw:inR w 0 9999) (hm:inR mn 0 99):(0<=mn*leak/\mn*leak<=1980)/\0<=Jf m leak w mn/\Jf m leak w mn<=19998:=by
 have h1:=h.leak;have h2:=h.lhi;have h3:=h.water;simp only[inR] at *;have h4:=Qx3 (a:=mn) (b:=leak) (by omega) (by omega)
 have h5:=QxY (show mn<=99 by omega) (show leak<=20 by omega) (by omega) (by omega)
 unfold Jf;omega
theorem OkM.longs {m:Machine} (h:OkM m) (i:Nat):1<=QL (·.long) (m.levers.take i)/\QL (·.long) (m.levers.take i)<=1000000000 :=
 UL _ _ (fun a ha=>(h.lever (Qx8 ha)).1) (by have:=h.len;simp;omega)
theorem OkM.shorts {m:Machine} (h:OkM m) {s:Qd} (hs:okS m s) (i:Nat):1<=QL id (s.shorts.take i)/\QL id (s.shorts.take i)<=1000000000 :=
 UL _ _ (fun a ha=>by
  obtain ⟨k,hk,rfl⟩:=Qyb (Qx8 ha);have h1:=hs.2.2 k (by rw[<- hs.1];exact hk) hk
  have h2:=h.lever (Qxx (show k<m.levers.length by grind))
  simp only[inR,id] at *;omega) (by have:=h.len;have:=hs.1;simp;omega)
theorem OkM.aboveB {m:Machine} (h:OkM m):1<=Wv m/\Wv m<=1000000000:=by
 have:=h.longs m.levers.length
 rwa [QxM] at this
theorem OkM.denB {m:Machine} (h:OkM m) {s:Qd} (hs:okS m s):1<=den s/\den s<=1000000000:=by
 have:=h.shorts hs s.shorts.length
 rwa [QxM] at this
theorem OkM.numB {m:Machine} (h:OkM m) {s:Qd} (hs:okS m s) {w mn:Int} (hw:inR w 0 9999) (hm:inR mn 0 99):0<=num m s w mn/\num m s w mn<=19998000000000:=by
 have h1:=h.aboveB;have h2:=(h.pull hs.2.1 hw hm).2;have h3:=Qx3 (a:=Jf m s.leak w mn) (b:=Wv m) (by omega) (by omega)
 have h4:=QxY h2.2 h1.2 (by omega) (by omega)
 unfold num;omega
def VJ (m:Machine) (s:Qd) (b:Q7):Bool :=
 decide (num m s b.weight b.mins-b.load*den s<=b.off*den s /\ -(num m s b.weight b.mins-b.load*den s)<=b.off*den s)
def ZT (m:Machine) (bs:List Q7) (s:Qd):Nat:=bs.countP fun b=>!VJ m s b
theorem Vy (m:Machine) (bs:List Q7) (s:Qd) (i:Nat) (h:i<bs.length):ZT m (bs.take (i+1)) s=ZT m (bs.take i) s+if VJ m s bs[i] then 0 else 1:=by
 unfold ZT;rw[Qxt h,QyV]
 grind
theorem WN (m:Machine) (bs:List Q7) (s:Qd):ZT m bs s<=bs.length:=Qyr
def U2 (m:Machine) (s:Qd):Prop:=okS m s/\(ZT m m.bals s:Int)<=m.wrong
noncomputable instance (m:Machine) (s:Qd):Decidable (U2 m s):=Classical.propDecidable _
def Qck (p:Qv) (t:Z9):Prop:=QsV p.chain t.ends/\U2 p.machine t.set
noncomputable instance (p:Qv) (t:Z9):Decidable (Qck p t):=Classical.propDecidable _
include hK
theorem QkK (m:Machine) (s:Qd) (w mn:Int) (hm:OkM m) (hs:okS m s) (hw:inR w 0 9999) (hmn:inR mn 0 99):Ev.Good Tryz.prog K 38 [maV m,.agg (seC s),.int .i64 w,.int .i64 mn] (.tup [.int .i64 (num m s w mn),.int .i64 (den s)]):=by
 refine Qb hK Qrl (by simp) ?_
 have hp:=hm.pull hs.2.1 hw hmn;have h3:=hm.water;simp only[inR] at h3 hw;simp
 (repeat' first | omega | (with_reducible apply And.intro) | intro _)
 have e0:(w+if mn*s.leak<m.water then m.water-mn*s.leak else 0)=Jf m s.leak w mn*QL (·.long) (m.levers.take 0):=by
  simp only[Jf,QL,List.take_zero,Int.mul_one];split<;>omega
 have hsl:=hs.1;rw[e0];refine QI (fun i=>[(4,AV.iv (.ptr [Zm m.levers,.int .i64 m.water,.int .i64 m.llo,.int .i64 m.lhi,Y8 m.bals,.int .i64 m.wrong])),(5,AV.iv (.ptr [Yq s.shorts,.int .i64 s.leak])),(8,AV.iv (IV.int IntKind.i64 (Jf m s.leak w mn*QL (·.long) (m.levers.take i)))),(9,AV.iv (IV.int IntKind.i64 (QL id (s.shorts.take i)))),(10,AV.iv (IV.int IntKind.i64 (i:Nat)))]) (fun _=>[]) m.levers.length (fun i=>True) trivial ?_ ?_
 ·intro _
  rw[Qa QhC.eq_1];have e2:s.shorts.take m.levers.length=s.shorts:=by grind
  rw[QxM,e2];simp[num,den,Wv]
 ·intro i hi _ ih
  have hi':i<s.shorts.length:=by omega
  have l1:=hm.longs i;have l2:=hm.longs (i+1);have k1:=hm.shorts hs i;have k2:=hm.shorts hs (i+1);have b1:=QxY hp.2.2 l2.2 (by omega) (by omega)
  have b2:=Qx3 hp.2.1 (Int.le_trans (by omega) l2.1)
  rw[Va _ _ _ hi] at ih b1 b2;rw[Va _ _ _ hi'] at ih k2;rw[<- Int.mul_assoc] at ih b1 b2;rw[Qa QhC.eq_1];generalize Jf m s.leak w mn*QL (fun x=>x.long) (m.levers.take i)=A at *
  generalize QL id (s.shorts.take i)=B at *;simp[hi,hi'] at ih b1 b2 k2 |-
  grind
theorem Qqf (m:Machine) (s:Qd) (b:Q7) (hm:OkM m) (hs:okS m s) (hb:b∈m.bals):Ev.Good Tryz.prog K 61 [maV m,.agg (seC s),.agg (baC b)] (.bool (VJ m s b)):=by
 refine Qb hK Qrb (by simp) ?_
 have h:=hm.bal hb;simp;refine cK (QkK hK m s b.weight b.mins hm hs h.1 h.2.1) ?_;have h1:=hm.numB hs h.1 h.2.1;have h2:=hm.denB hs;have h3:=h.2.2;simp only[inR] at h3;have h4:=QxY h3.1.2 h2.2 (by omega) (by omega)
 have h5:=Qx3 h3.1.1 (Int.le_trans (by omega) h2.1)
 have h6:=QxY h3.2.2 h2.2 (by omega) (by omega)
 have h7:=Qx3 h3.2.1 (Int.le_trans (by omega) h2.1)
 simp;unfold VJ
 grind
theorem Qqp (m:Machine) (s:Qd) (hm:OkM m) (hs:okS m s):Ev.Good Tryz.prog K 27 [maV m,.agg (seC s)] (.int .i64 (ZT m m.bals s)):=by
 refine Qb hK Qru (by simp) ?_
 have hl:=hm.blen;simp;refine QI (fun i=>[(2,AV.iv (.ptr [Zm m.levers,.int .i64 m.water,.int .i64 m.llo,.int .i64 m.lhi,Y8 m.bals,.int .i64 m.wrong])),(3,AV.iv (.ptr [Yq s.shorts,.int .i64 s.leak])),(5,AV.iv (IV.int IntKind.i64 (ZT m (m.bals.take i) s:Nat))),(6,AV.iv (IV.int IntKind.i64 (i:Nat)))]) (fun _=>[]) m.bals.length (fun i=>True) trivial ?_ ?_
 ·intro _
  rw[Qa QhF.eq_1];simp
 ·intro i hi _ ih
  have hle:=WN m (m.bals.take i) s;simp at hle;rw[Qa QhF.eq_1];rw[Vy _ _ _ _ hi] at ih;simp[hi] at ih |-;intros;refine cK (Qqf hK m s m.bals[i] hm hs (Qxx hi)) ?_;cases hr:VJ m s m.bals[i]
  ·simp[hr] at ih |-
   grind
  ·simp[hr] at ih |-
   grind
theorem Qs3 (m:Machine) (s:Qd) (hm:OkM m):Ev.Good Tryz.prog K 7 [maV m,.agg (seC s)] (.bool (decide (U2 m s))):=by
 refine Qb hK QtD (by simp) ?_
 have no:∀ q:Prop,(okS m s->q)->¬ q->¬ U2 m s:=fun q h1 h2 h=>h2 (h1 h.1)
 by_cases h1:s.shorts.length=m.levers.length
 ·simp[h1]
  intros;refine cK (YM hK _ _ _) ?_;by_cases h2:inR s.leak m.llo m.lhi
  ·simp[h2]
   refine QI (fun i=>[(2,AV.iv (.ptr [Zm m.levers,.int .i64 m.water,.int .i64 m.llo,.int .i64 m.lhi,Y8 m.bals,.int .i64 m.wrong])),(3,AV.iv (.ptr [Yq s.shorts,.int .i64 s.leak])),(5,AV.iv (IV.int IntKind.i64 (i:Nat)))]) (fun _=>[]) s.shorts.length (fun i=>∀ k (h:k<m.levers.length) (h':k<s.shorts.length),k<i->inR s.shorts[k] m.levers[k].lo m.levers[k].hi) (by simp) ?_ ?_
   ·intro h
    have hs:okS m s:=⟨h1,h2,fun k hk hk'=>h k hk hk' hk'⟩
    rw[Qa QmY.eq_1];simp;intros;refine cK (Qqp hK m s hm hs) ?_;simp[U2,hs]
   ·intro i hi h ih
    have hi':i<m.levers.length:=by omega
    rw[Qa QmY.eq_1];simp[hi,hi'] at ih |-;intros;refine cK (YM hK _ _ _) ?_;by_cases k1:inR s.shorts[i] m.levers[i].lo m.levers[i].hi
    ·have ih:=ih fun k hk hk' hlt=>by
      grind
     simp[k1]
     grind
    ·have:=no _ (fun hh=>hh.2.2 i hi' hi) k1
     simp[k1,this]
  ·have:=no _ (fun hh=>hh.2.1) h2
   simp[h2,this]
 ·have h1':¬ (s.shorts.length:Int)=m.levers.length:=by omega
  have:=no _ (fun hh=>hh.1) h1
  simp[h1',this]
omit hK
def t0:Qaq:=⟨0,0,0⟩
def tr (p:Qv) (i:Nat):Qaq:=p.trials.getD i t0
theorem Qo2 {p:Qv} {i:Nat} (h:i<p.trials.length):p.trials[i]=tr p i:=by simp[tr,List.getD_eq_getElem?_getD,h]
def Qel (p:Qv) (i:Nat) (e:Nat->Int):List Nat:=cab p.chain.deeds e ((pv p.chain.deeds).getD i 0)
def Wp (p:Qv) (i:Nat) (e:Nat->Int):Int:=if 0<=(tr p i).broke then ((Qel p i e).getD (tr p i).broke.toNat 0:Nat) else -1
def QeF (p:Qv) (i:Nat) (s:Qd):Int:=num p.machine s (tr p i).weight (tr p i).mins
def QgD (p:Qv) (i:Nat) (t:Z9):Bool:=decide (0<=(tr p i).broke)&&decide (QeF p i t.set<=p.need*den t.set)
def QmA (p:Qv) (t:Z9):Nat:=(List.range p.trials.length).countP fun i=>QgD p i t
def inN (l:List Nat) (n:Int):Bool:=decide (n∈l.map fun k:Nat=>(k:Int))
def Qis (p:Qv) (link:Int) (t:Z9) (i:Nat):Bool:=decide (p.need*den t.set<=QeF p i t.set)&&inN (Qel p i (QbK t.ends)) link&&!decide (Wp p i (QbK t.ends)=link)
def Qb3 (p:Qv) (link:Int) (t:Z9):Bool:=(List.range p.trials.length).any (Qis p link t)
def Qr2 (p:Qv) (e:Nat->Int):List Nat:=cab p.chain.deeds e p.chain.deeds.length
def Qs1 (p:Qv) (t:Z9):Bool:=((Qr2 p (QbK t.ends)).all fun (k:Nat)=>Qb3 p k t)&&decide ((QmA p t:Int)<p.rule)
def QjY (p:Qv) (smith:Int) (t:Z9) (i:Nat):Bool:=QgD p i t&&decide ((Ve p.chain.deeds (Wp p i (QbK t.ends)).toNat).smith=smith)
def Qov (p:Qv) (smith:Int) (t:Z9):Bool:=(List.range p.trials.length).any (QjY p smith t)
def Qk6 (some many:Int):Int:=if some=many then 1 else if some=0 then 2 else 3
def Qlg (l:List Int) (lo:Int) (i:Nat):List Int:=((List.range i).map fun j:Nat=>lo+j).filter fun n=>decide (n∈l)
def Qlh (l:List Int) (lo hi:Int):List Int:=Qlg l lo (hi+1-lo).toNat
def QpI (p:Qv) (t:Z9) (k:Nat) (m:Int) (i:Nat):Int :=
 if inN (Qel p i (QbK t.ends)) k=true/\¬ Wp p i (QbK t.ends)=k then max m ((QeF p i t.set).tdiv (den t.set)) else m
def QsP (p:Qv) (t:Z9) (k:Nat) (n:Nat):Int:=(List.range n).foldl (QpI p t k) (-1)
def Qt5 (p:Qv) (t:Z9) (now:List Nat):Int:=now.foldl (fun b k=>min b (QsP p t k p.trials.length)) 999999999
def Qqv (p:Qv) (t:Z9) (i n:Nat):Nat:=(List.range n).countP fun k=>decide (0<=(tr p k).broke)&&decide (QeF p k t.set<=QeF p i t.set)
def QrC (p:Qv) (t:Z9) (b:Int) (i:Nat):Int :=
 if 0<=(tr p i).broke/\p.rule<=(Qqv p t i p.trials.length:Int) then min b ((QeF p i t.set+den t.set-1).tdiv (den t.set)-1) else b
def QoX (p:Qv) (t:Z9):Int:=(List.range p.trials.length).foldl (QrC p t) (Qt5 p t (Qr2 p (QbK t.ends)))
theorem Qfl {a b:Int} (h1:0<=a) (h2:1<=b):0<=a.tdiv b/\a.tdiv b<=a:=by
 rw[QyB h1];exact ⟨Int.ediv_nonneg h1 (by omega),Int.ediv_le_self _ h1⟩
structure Fit (p:Qv) (t:Z9):Prop where
 ends:p.chain.deeds.length<=t.ends.length
 set:okS p.machine t.set
theorem OkP.trial {p:Qv} (h:OkP p) {i:Nat} (hi:i<p.trials.length):qR (tr p i) (cnt p.chain.deeds ((pv p.chain.deeds).getD i 0)):=by
 have h1:i<(pv p.chain.deeds).length:=by rw[<- h.many];exact hi
 have:=h.trials i h1 hi;rw[Qo2 hi] at this
 grind
include hK
omit hK
def Qtw (d:Qy):List Int:=(if d.frm=0\/d.frm=2 then [0] else [])++(if d.frm=1\/d.frm=2 then [1] else [])
def QcJ:List Qy->List (List Int)
 | []=>[[]]
 | d::r=>(Qtw d).flatMap fun e=>(QcJ r).map (e::·)
noncomputable def Qi4 (c:Qn) (first:List Int) (rest:List Qy):List (List Int):=((QcJ rest).map (first++·)).filter fun e=>decide (QsV c e)
def acc {α:Type} (pc:Nat->List α) (i:Nat):List α:=(List.range i).flatMap pc
theorem Qj8 {α:Type} (pc:Nat->List α):acc pc 0=[]:=rfl
theorem Qj9 {α:Type} (pc:Nat->List α) (i:Nat):acc pc (i+1)=acc pc i++pc i:=by simp[acc,Qye]
noncomputable def Qus (c:Qn) (first:List Int) (d:Qy) (r:List Qy) (i:Nat):List (List Int):=if d.frm=i\/d.frm=2 then Qi4 c (first++[(i:Int)]) r else []
theorem Zf {α β:Type} (f:α->List β) (n:Nat):∀ l:List α,(∀ a∈l,(f a).length<=n)->(l.flatMap f).length<=l.length*n
 | [],_=>by simp
 | a::l,h=>by
   have h1:=h a (by simp)
   have h2:=Zf f n l fun b hb=>h b (by simp[hb])
   simp only[Qx6,Qxy,QxA,Nat.succ_mul];omega
theorem QhY {α:Type} (pc:Nat->List α) (n:Nat) (h:∀ i,(pc i).length<=n) (i:Nat):(acc pc i).length<=i*n:=by
 have:=Zf pc n (List.range i) fun a _=>h a
 simpa[acc] using this
theorem YV {n:Nat} (h:n<=12):2 ^ n<=4096:=QxW (by omega) h
include hK
omit hK
def Qt:List Zv->List (List Int)
 | []=>[[]]
 | l::r=>acc (fun i=>(Qt r).map ((l.lo+(i:Nat))::·)) (l.hi+1-l.lo).toNat
def QK (m:Machine) (first:List Int) (rest:List Zv):List Qd:=(Qt rest).flatMap fun s=>(List.range (m.lhi+1-m.llo).toNat).map fun k:Nat=>⟨first++s,m.llo+k⟩
noncomputable def QV (m:Machine) (first:List Int) (rest:List Zv):List Qd:=(QK m first rest).filter fun s=>decide (U2 m s)
theorem Qer (m:Machine) (first:List Int) (l:Zv) (r:List Zv):QV m first (l::r)=acc (fun i=>QV m (first++[l.lo+(i:Nat)]) r) (l.hi+1-l.lo).toNat:=by
 simp only[QV,QK,Qt,acc,List.flatMap_assoc,List.filter_flatMap]
 congr 1
 funext i
 simp[List.flatMap_map]
theorem QaB (m:Machine):∀ (rest:List Zv) (first:List Int),(∀ l∈rest,1<=X7 l)->1<=m.lhi-m.llo+1->((QV m first rest).length:Int)<=(m.lhi-m.llo+1)*QL X7 rest
 | [],first,_,h=>by
   have:=Qx0 (fun s=>decide (U2 m s)) (QK m first [])
   simp[QK,Qt] at this;simp only[QV,QL];simp only[QK,Qt] at this |-
   grind
 | l::r,first,hs,h=>by
   rw[Qer];have ih:=fun e:Int=>QaB m r (first++[e]) (fun l hl=>hs l (by simp[hl])) h
   have hl:=hs l (by simp)
   have hp:=QaV X7 r fun l hl=>hs l (by simp[hl])
   have hpp:=Qx3 (a:=m.lhi-m.llo+1) (b:=QL X7 r) (by omega) (by omega)
   have h1:=QhY (fun i=>QV m (first++[l.lo+(i:Nat)]) r) ((m.lhi-m.llo+1)*QL X7 r).toNat (fun i=>by grind) (l.hi+1-l.lo).toNat
   have e1:((l.hi+1-l.lo).toNat:Int)=X7 l:=by unfold X7 at *;omega
   have e2:(((m.lhi-m.llo+1)*QL X7 r).toNat:Int)=(m.lhi-m.llo+1)*QL X7 r:=by omega
   have h2:=Int.ofNat_le.2 h1;rw[Int.natCast_mul,e1,e2] at h2;simp only[QL]
   grind
noncomputable def Qur (m:Machine) (first:List Int) (k:Nat):List Qd:=if U2 m ⟨first,m.llo+k⟩ then [⟨first,m.llo+k⟩] else []
include hK
omit hK
noncomputable def Qf7 (p:Qv):List Z9:=(Qi4 p.chain [] p.chain.deeds).flatMap fun e=>(QV p.machine [] p.machine.levers).map fun s=>⟨e,s⟩
noncomputable def kL (p:Qv) (is:Bool):List Z9:=if OkP p/\is=true then Qf7 p else []
noncomputable def kE (p:Qv) (is:Bool):Int:=if OkP p then (if is=true then (if Qf7 p=[] then 3 else 0) else 1) else 60
theorem Qck.fit {p:Qv} {t:Z9} (h:Qck p t):Fit p t:=⟨by rw[h.1.1.1];omega,h.2.1⟩
theorem Qdr {m:Machine} (h:OkM m):((QV m [] m.levers).length:Int)<=sets m m.levers.length:=by
 have h1:=h.leak;simp only[inR] at h1;have:=QaB m m.levers [] (fun l hl=>(h.span hl).1) (by omega)
 rwa [sets,QxM]
include hK
omit hK
structure Qxf (p:Qv):Prop where
 small:Qua p
 sets:OkP p->sets p.machine p.machine.levers.length<=1000000
def QlA (p:Qv) (link:Int):Bool:=decide (inR link 0 ((WB p.chain.deeds).length-1))
def Qo1 (p:Qv) (n:Int):Bool:=decide (inR n 0 (p.trials.length-1))
noncomputable def QsG (p:Qv) (link:Int):Int:=if kE p (QlA p link)=0 then Qk6 ((kL p (QlA p link)).countP (Qb3 p link)) (kL p (QlA p link)).length else 0
noncomputable def QwU (p:Qv):Int:=if kE p true=0 then Qk6 ((kL p true).countP fun t=>decide (p.rule<=(QmA p t:Int))) (kL p true).length else 0
noncomputable def QwS (p:Qv):Int:=if kE p true=0 then Qk6 ((kL p true).countP (Qs1 p)) (kL p true).length else 0
noncomputable def Qkx (p:Qv):Int:=(kL p true).foldl (fun b t=>min b (QoX p t)) 999999999
noncomputable def Quo (p:Qv):Int × Int:=if kE p true=0 then (if Qkx p<0 then (0,3) else (Qkx p,0)) else (0,kE p true)
def span (l:List Int):Int × Int:=match l with
 | []=>(0,0)
 | a::r=>(r.foldl min a,r.foldl max a)
noncomputable def QwT (p:Qv):Int × Int:=span ((kL p true).map fun t=>(QmA p t:Int))
noncomputable def QsH (p:Qv):List Int:=if kE p true=0 then acc (fun s:Nat=>if (kL p true).all (Qov p s) then [(s:Int)] else []) 100 else []
noncomputable def QwQ (p:Qv):List Int:=if kE p true=0 then acc (fun at_:Nat=>if (kL p true).all (fun t=>Qb3 p ((Qr2 p (QbK t.ends)).getD at_ 0) t) then [] else [(at_:Int)]) (QC p.chain.deeds).toNat else []
noncomputable def Qup (p:Qv) (n:Int):List Int:=Qlh ((kL p (Qo1 p n)).map fun t=>Wp p n.toNat (QbK t.ends)) 0 12
include hK
end Go.Pf
namespace Go.Ev
end Go.Ev
namespace Go.Pf
open Go Go.Ev Go.Proofs Go.RowKit
variable {K:World->Prop} (hK:∀ w w',K w->Below w.heap.size w w'->K w')
set_option maxRecDepth 8000
theorem Jz:∀ (r:List Zv) (s:List Int),s∈Qt r->s.length=r.length
 | [],s,h=>by simp[Qt] at h;simp[h]
 | l::r,s,h=>by
   simp only[Qt,acc,QxZ,QxR] at h;obtain ⟨i,_,x,hx,rfl⟩:=h;simp[Jz r x hx]
theorem VE:∀ (r:List Zv) (s:List Int),s∈Qt r->∀ i (h:i<r.length) (h':i<s.length),inR s[i] r[i].lo r[i].hi
 | [],s,h,i,hi,_=>by simp at hi
 | l::r,s,h,i,hi,hi'=>by
   simp only[Qt,acc,QxZ,QxR,Qyf] at h;obtain ⟨j,hj,x,hx,rfl⟩:=h;cases i with
   | zero=>simp only[List.getElem_cons_zero,inR];omega
   | succ i=>simp only[List.getElem_cons_succ];exact VE r x hx i (by simpa using hi) (by simpa using hi')
theorem J8 {m:Machine} {s:Qd} (h:s∈QK m [] m.levers):okS m s:=by
 simp only[QK,QxZ,QxR,Qyf,Qyj] at h;obtain ⟨x,hx,k,hk,rfl⟩:=h;exact ⟨Jz _ _ hx,by simp only[inR];omega,VE _ _ hx⟩
theorem VF (m:Machine) (first:List Int) (l:Zv) (r:List Zv):QK m first (l::r)=acc (fun i=>QK m (first++[l.lo+(i:Nat)]) r) (l.hi+1-l.lo).toNat:=by
 simp only[QK,Qt,acc,List.flatMap_assoc]
 congr 1
 funext i
 simp[List.flatMap_map]
def QaX (m:Machine) (first:List Int) (k:Nat):List Qd:=[⟨first,m.llo+k⟩]
theorem Ut (m:Machine) (first:List Int):QK m first []=acc (QaX m first) (m.lhi+1-m.llo).toNat:=by
 simp only[QK,Qt,acc,Qx6,List.flatMap_nil,Qyy];generalize (m.lhi+1-m.llo).toNat=n
 induction n with
 | zero=>rfl
 | succ n ih=>rw[Qye,QxV,ih,Qyx];rfl
noncomputable def tL (m:Machine) (is:Bool):List Qd:=if OkM m/\is=true then QV m [] m.levers else []
noncomputable def tE (m:Machine) (is:Bool):Int:=if OkM m then (if is=true then (if QV m [] m.levers=[] then 3 else 0) else 1) else 30
def QoT (w mn load:Int):Bool:=decide (inR w 0 9999/\inR mn 0 99/\inR load 0 999999999)
def QsT (m:Machine) (w mn:Int) (s:Qd):Int:=(num m s w mn).tdiv (den s)
def upS (m:Machine) (w mn:Int) (s:Qd):Int:=(num m s w mn+den s-1).tdiv (den s)
noncomputable def QwR (m:Machine) (w mn:Int):Int × Int:=((span ((tL m (QoT w mn 0)).map (QsT m w mn))).1,(span ((tL m (QoT w mn 0)).map (upS m w mn))).2)
include hK
theorem Qqq (m:Machine) (s:Qd) (w mn load:Int) (hm:OkM m) (hs:okS m s) (hw:inR w 0 9999) (hmn:inR mn 0 99) (hld:inR load 0 999999999) :
  Ev.Good Tryz.prog K 11 [maV m,.agg (seC s),.int .i64 w,.int .i64 mn,.int .i64 load] (.bool (decide (load*den s<=num m s w mn))):=by
 refine Qb hK Qry (by simp) ?_
 simp;refine cK (QkK hK m s w mn hm hs hw hmn) ?_;have h2:=hm.denB hs;simp only[inR] at hld;have h4:=QxY hld.2 h2.2 (by omega) (by omega)
 have h5:=Qx3 hld.1 (Int.le_trans (by omega) h2.1)
 simp;omega
def Qox (m:Machine) (l:List Qd) (w mn load:Int):Prop:=∀ s∈l,load*den s<=num m s w mn
omit hK
noncomputable def QkD (m:Machine) (l:List Qd) (mn load:Int):Int:=open Classical in ((List.range 10000).findIdx fun (n:Nat)=>decide (Qox m l n mn load):Nat)
noncomputable def QsF (m:Machine) (mn load:Int):Int × Int:=if tE m (QoT 0 mn load)=0 then (if 9999<QkD m (tL m (QoT 0 mn load)) mn load then (0,3) else (QkD m (tL m (QoT 0 mn load)) mn load,0)) else (0,tE m (QoT 0 mn load))
theorem Qk8 {m:Machine} {is:Bool} (h:tE m is=0):OkM m/\is=true/\tL m is=QV m [] m.levers/\QV m [] m.levers≠[]:=by
 unfold tE at h;split at h
 ·rename_i h1
  split at h
  ·rename_i h2
   split at h
   ·cases h
   ·rename_i h3
    exact ⟨h1,h2,by simp[tL,h1,h2],h3⟩
  ·cases h
 ·cases h
include hK
omit hK
@[simp] def stC (s:List Int) (leak below:Int):List IV:=[.int .i64 (s.getD 0 0),.int .i64 (s.getD 1 0),.int .i64 (s.getD 2 0),.int .i64 leak,.int .i64 below]
@[simp] def wkC (m:Machine):List IV:=[Zm m.levers,.int .i64 m.water,.int .i64 m.llo,.int .i64 m.lhi,Y8 m.bals,.int .i64 m.wrong,.int .i64 (Wv m)]
def ZA {α:Type} (pc:Nat->List α):Nat->Nat->List α
 | _,0=>[]
 | i,k+1=>pc i++ZA pc (i+1) k
theorem Wu {α:Type} (pc:Nat->List α):∀ k i,acc pc i++ZA pc i k=acc pc (i+k)
 | 0,i=>by simp[ZA]
 | k+1,i=>by
   have:=Wu pc k (i+1);rw[Qj9] at this;have e:i+(k+1)=i+1+k:=by omega
   rw[ZA,<- QxJ,this,e]
theorem Um {α:Type} (pc:Nat->List α) (n:Nat):acc pc n=ZA pc 0 n:=by
 have:=Wu pc n 0;simp only[Qj8,Qyj,QxE] at this;exact this.symm
def Vj (m:Machine) (s:Qd):List IV:=[.agg (stC s.shorts s.leak (den s)),.int .i64 (ZT m m.bals s)]
include hK
theorem QkL (m:Machine) (s:Qd) (w mn:Int) (hm:OkM m) (hl:inR s.leak m.llo m.lhi) (hw:inR w 0 9999) (hmn:inR mn 0 99):Ev.Good Tryz.prog K 37 [.ptr (wkC m),.agg (stC s.shorts s.leak (den s)),.int .i64 w,.int .i64 mn] (.int .i64 (Jf m s.leak w mn)):=by
 refine Qb hK Qrm (by simp) ?_
 have hp:=hm.pull hl hw hmn;have h3:=hm.water;simp only[inR] at h3 hw
 have e0:(w+if mn*s.leak<m.water then m.water-mn*s.leak else 0)=Jf m s.leak w mn:=by
  simp only[Jf];split<;>omega
 simp[e0];omega
theorem Qqb (m:Machine) (hm:OkM m):Ev.Good Tryz.prog K 65 [maV m] (.ptr (wkC m)):=by
 refine Qb hK Qq7 (by simp) ?_
 have hl:=hm.len;simp
 (repeat' first | omega | (with_reducible apply And.intro) | intro _)
 refine QI (fun i=>[(3,AV.loc 8 0),(10,AV.iv (Zm m.levers)),(11,AV.iv (.int .i64 m.levers.length)),(12,AV.iv (IV.int IntKind.i64 (i:Nat)))])
  (fun i=>[(8,AO.box [.iv (Zm m.levers),.iv (.int .i64 m.water),.iv (.int .i64 m.llo),.iv (.int .i64 m.lhi),.iv (Y8 m.bals),.iv (.int .i64 m.wrong),.iv (.int .i64 (QL (·.long) (m.levers.take i)))])]) m.levers.length (fun i=>True) trivial ?_ ?_
 ·intro _
  rw[Qa QhB.eq_1];rw[QxM];simp[Wv]
 ·intro i hi _ ih
  have l1:=hm.longs (i+1);rw[Va _ _ _ hi] at ih l1;rw[Qa QhB.eq_1];simp[hi] at ih l1 |-
  grind
theorem Qmo (m:Machine) (s:Qd) (b:Q7) (hm:OkM m) (hs:okS m s) (hb:b∈m.bals):Ev.Good Tryz.prog K 126 [.ptr (wkC m),.agg (stC s.shorts s.leak (den s)),.agg (baC b)] (.bool (VJ m s b)):=by
 refine Qb hK Qn8 (by simp) ?_
 have h:=hm.bal hb;simp;refine cK (QkL hK m s b.weight b.mins hm hs.2.1 h.1 h.2.1) ?_;have h1:=hm.numB hs h.1 h.2.1;have h2:=hm.denB hs;have h3:=h.2.2;simp only[inR] at h3;have h4:=QxY h3.1.2 h2.2 (by omega) (by omega)
 have h5:=Qx3 h3.1.1 (Int.le_trans (by omega) h2.1)
 have hr:VJ m s b=decide (num m s b.weight b.mins-b.load*den s<=b.off*den s /\ -(num m s b.weight b.mins-b.load*den s)<=b.off*den s):=rfl;have hnum:Jf m s.leak b.weight b.mins*Wv m=num m s b.weight b.mins:=rfl;rw[hr];simp[hnum]
 have key:∀ d:Int,0<=d->(d<=b.off*den s↔(d.tdiv (den s)<b.off\/(d.tdiv (den s)=b.off/\d.tmod (den s)=0))):=fun d hd=>by
  rw[QyB hd,Int.tmod_eq_emod_of_nonneg hd];have e1:=Int.emod_def d (den s);have e2:=Int.emod_nonneg d (b:=den s) (by omega)
  have e3:=Int.emod_lt_of_pos d (b:=den s) (by omega)
  constructor
  ·intro hle
   have h6:d / den s<=b.off:=by
    have:=Int.ediv_le_ediv (c:=den s) (by omega) hle
    rwa [Int.mul_ediv_cancel _ (by omega)] at this
   grind
  ·rintro (h7 | ⟨h7,h8⟩)
   ·have h9:(d / den s+1)*den s<=b.off*den s:=Int.mul_le_mul_of_nonneg_right (by omega) (by omega)
    grind
   grind
 have hd0:¬ den s=0:=by omega
 generalize num m s b.weight b.mins=N at *;generalize b.load*den s=L at *;have hD : -1000000000000000000<=N-L/\N-L<=1000000000000000000:=by omega
 generalize hDe:N-L=D at *;have hO:=Qx3 h3.2.1 (show 0<=den s by omega)
 by_cases hneg:D<0
 ·have hk:=key (-D) (by omega)
  have htd:=Qfl (a := -D) (b:=den s) (by omega) h2.1
  have ht2:=Int.tmod_nonneg (den s) (a := -D) (by omega)
  generalize b.off*den s=O at *;rw[Int.neg_tdiv] at htd hk;rw[Int.neg_tmod] at ht2 hk
  grind
 ·have hk:=key D (by omega)
  have htd:=Qfl (a:=D) (b:=den s) (by omega) h2.1
  grind
omit hK
structure Sea where
 thick:Int
 str:Int
 waters:List (Int × Int)
 wlo:Int
 whi:Int
 voys:List (Int × Int)
 gauges:List (Int × Int × Int)
 wrong:Int
 deriving DecidableEq
@[simp] def spC (s:Int × Int):List IV:=[.int .i64 s.1,.int .i64 s.2]
@[simp] def gaC (g:Int × Int × Int):List IV:=[.int .i64 g.1,.int .i64 g.2.1,.int .i64 g.2.2]
@[simp] def ZR (l:List (Int × Int)):IV:=.sl 2 (l.map spC)
@[simp] def Vn (l:List (Int × Int × Int)):IV:=.sl 3 (l.map gaC)
@[simp] def Y9 (c:Sea):List IV:=[.int .i64 c.thick,.int .i64 c.str,ZR c.waters,.int .i64 c.wlo,.int .i64 c.whi,ZR c.voys,Vn c.gauges,.int .i64 c.wrong]
@[simp] def Qfw (c:Sea):IV:=.agg (Y9 c)
def Zz (s:Int × Int):Bool:=!decide (inR s.1 0 s.2)||decide (9<s.2)
def VT (n:Nat) (v:Int × Int):Bool:=!decide (inR v.1 0 ((n:Int)-1))||!decide (inR v.2 0 36)
def JZ (n:Nat) (g:Int × Int × Int):Bool:=!decide (inR g.1 0 n)||!decide (inR g.2.1 0 500)||!decide (inR g.2.2 0 500)
structure Qx (c:Sea):Prop where
 thick:inR c.thick 1 500
 str:inR c.str 1 999
 wrong:inR c.wrong 0 6
 nw:c.waters.length<=4
 wear:Zz (c.wlo,c.whi)=false
 waters:∀ s∈c.waters,Zz s=false
 nv:c.voys.length<=8
 voys:∀ v∈c.voys,VT c.waters.length v=false
 ng:c.gauges.length<=6
 gauges:∀ g∈c.gauges,JZ c.voys.length g=false
noncomputable instance (c:Sea):Decidable (Qx c):=Classical.propDecidable _
theorem Z6 {s:Int × Int} (h:Zz s=false):0<=s.1/\s.1<=s.2/\s.2<=9:=by
 simp[Zz] at h;simp only[inR] at h;omega
theorem Qx.voy {c:Sea} (h:Qx c) {v:Int × Int} (hv:v∈c.voys):0<=v.1/\v.1<c.waters.length/\0<=v.2/\v.2<=36:=by
 have:=h.voys v hv;simp[VT] at this;simp only[inR] at this;omega
theorem Qx.gau {c:Sea} (h:Qx c) {g:Int × Int × Int} (hv:g∈c.gauges):0<=g.1/\g.1<=c.voys.length/\0<=g.2.1/\g.2.1<=500/\0<=g.2.2/\g.2.2<=500:=by
 have:=h.gauges g hv;simp[JZ] at this;simp only[inR] at this;omega
@[simp] def Yz (c:Sea):Machine:=⟨c.waters.map fun s=>⟨0,s.1,s.2⟩,0,c.wlo,c.whi,[],0⟩
def QeE (v:Int × Int) (w:Qd):Int:=v.2*w.shorts.getD v.1.toNat 0+w.leak
def QfL (c:Sea) (w:Qd) (l:List (Int × Int)):Int:=c.thick-(l.map fun v=>QeE v w).sum
def Zk (c:Sea) (w:Qd) (k:Nat):Int:=max 0 (QfL c w (c.voys.take k))
def Xt (c:Sea) (t:Int):Int:=(c.str*t*t).tdiv 10000
def QaQ (c:Sea) (w:Qd) (g:Int × Int × Int):Bool:=decide (inR (Zk c w g.1.toNat-g.2.1) (-g.2.2) g.2.2)
def Ys (c:Sea) (gs:List (Int × Int × Int)) (w:Qd):Nat:=gs.countP fun g=>!QaQ c w g
def okW (c:Sea) (w:Qd):Prop:=okS (Yz c) w
def Qk3 (c:Sea):List Qd:=QK (Yz c) [] (Yz c).levers
def isW (c:Sea) (w:Qd):Bool:=decide ((Ys c c.gauges w:Int)<=c.wrong)
def wTr (c:Sea):List Qd:=(Qk3 c).filter (isW c)
theorem QaU (c:Sea) (w:Qd) (k:Nat) (h:k<c.voys.length):QfL c w (c.voys.take (k+1))=QfL c w (c.voys.take k)-QeE c.voys[k] w:=by
 unfold QfL;rw[Qxt h,QxV,List.sum_append];simp only[QxN,List.map_nil,List.sum_cons,List.sum_nil];omega
theorem Qau (c:Sea) (gs:List (Int × Int × Int)) (w:Qd) (i:Nat) (h:i<gs.length):Ys c (gs.take (i+1)) w=Ys c (gs.take i) w+if QaQ c w gs[i] then 0 else 1:=by
 unfold Ys;rw[Qxt h,QyV]
 grind
theorem Qej (c:Sea) (gs:List (Int × Int × Int)) (w:Qd):Ys c gs w<=gs.length:=Qyr
theorem Qlr {c:Sea} (hc:Qx c) {w:Qd} (hw:okW c w):(0<=w.leak/\w.leak<=9)/\w.shorts.length=c.waters.length/\∀ i:Nat,0<=w.shorts.getD i 0/\w.shorts.getD i 0<=9:=by
 obtain ⟨h1,h2,h3⟩:=hw;have hwr:=Z6 hc.wear;simp only[inR,Yz] at *;refine ⟨by omega,by simpa using h1,fun i=>?_⟩
 by_cases hi:i<w.shorts.length
 ·have hi':i<c.waters.length:=by simp at h1;omega
  have:=h3 i (by simpa using hi') hi
  have h4:=Z6 (hc.waters _ (Qxx hi'));simp at this;rw[List.getD_eq_getElem?_getD,Qxq hi];simp;omega
 ·rw[List.getD_eq_getElem?_getD,List.getElem?_eq_none (by omega)]
  simp
theorem QdL {c:Sea} (hc:Qx c) {w:Qd} (hw:okW c w) {v:Int × Int} (hv:v∈c.voys):0<=v.2*w.shorts.getD v.1.toNat 0/\v.2*w.shorts.getD v.1.toNat 0<=324/\0<=QeE v w/\QeE v w<=333:=by
 have h1:=hc.voy hv;have h2:=Qlr hc hw;have h3:=h2.2.2 v.1.toNat;have h4:=Qx3 (a:=v.2) (b:=w.shorts.getD v.1.toNat 0) (by omega) (by omega)
 have h5:=QxY (show v.2<=36 by omega) h3.2 (by omega) (by omega)
 unfold QeE;omega
theorem Qb2 {c:Sea} (hc:Qx c) {w:Qd} (hw:okW c w):∀ k:Nat,c.thick-333*(k:Int)<=QfL c w (c.voys.take k)/\QfL c w (c.voys.take k)<=c.thick
 | 0=>by simp[QfL]
 | k+1=>by
   have ih:=Qb2 hc hw k;by_cases h:k<c.voys.length
   ·have:=QdL hc hw (Qxx h)
    rw[QaU c w k h];omega
   ·rw[QxH (show c.voys.length<=k+1 by omega)]
    rw[QxH (show c.voys.length<=k by omega)] at ih
    omega
theorem Yu {c:Sea} (hc:Qx c) {w:Qd} (hw:okW c w) (k:Nat):0<=Zk c w k/\Zk c w k<=500:=by
 have h1:=Qb2 hc hw k;have h2:=hc.thick;simp only[inR] at h2;unfold Zk;omega
theorem Qpv {s t:Int} (hs:inR s 1 999) (ht:0<=t/\t<=500):0<=s*t/\s*t<=499500/\0<=s*t*t/\s*t*t<=249750000:=by
 simp only[inR] at hs;have h1:=Qx3 (a:=s) (b:=t) (by omega) (by omega)
 have h2:=QxY (show s<=999 by omega) ht.2 (by omega) (by omega)
 have h3:=Qx3 h1 ht.1;have h4:=QxY (show s*t<=499500 by omega) ht.2 (by omega) (by omega)
 omega
theorem U7 {c:Sea} (hc:Qx c) {t:Int} (ht:0<=t/\t<=500):0<=Xt c t/\Xt c t<=24975:=by
 have h:=Qpv hc.str ht;unfold Xt;rw[QyB h.2.2.1];omega
theorem Qk1 {c:Sea} {w:Qd} (h:w∈Qk3 c):okW c w:=J8 h
set_option maxRecDepth 100000
set_option maxHeartbeats 1000000
def Qm3:=b0 0x12e919e811e90312ee9f111ee31008e0303083c301ecd9f18f1610402463ce95b502a9af2402a9af1402a9af044f523f1c292101787f14028131f411f3d0114dbf102797f14720ab16e12040c263a043bf12f00c268033bf12f07073cf1a2300ce11be121e97021e97021ee02464a502a9af2402a9af1402a9af043f1c222e6f1c20a06e085220400d02439502a9af2402a9af1402a9af048230af3a87773a1dae072013c9f10225f1413e6f721530700403330b0225f149f15230be ⟨_,by conv=>lhs;reduce⟩
def Qm2:=b0 0x67e915ce866e90367ee5c9166ee310ab16e12040c4600d0126c58c91ff12f00c4600d0126c58c916c912f070737c912c208ce0125c58f1052012c5c91df17207ce116ce147037068ee0124c55c917f57969e6f823532700402330bdf15c9142361e ⟨_,by conv=>lhs;reduce⟩
def c3:=f2 0xa06e08582e6f221f411f725c3c1c8751625715ce1230ab16e120470734c9122304ce113ce13702705bee013c57f5795ce6f720a06eb0160851f00123ef1012c57f57982047073ef122302ce111ce13702704dee011c57f5794ee6f720a06e0852204010c57f5794ae6f21718720f331f411f7298754360605719e123718e1213171f411fc07f2781d05e271d7e010117e05e22d0225f04520a06e08522040c4638ea0430bdd0225f042f00c464a0430b0225f142f00c4600d012754f523f1c22f00c46cda0430b0224f042f00c36707301653f1c22f0015531c29c6f3d23b12a2a2a42260183e Qm3 Qm2 ⟨_,by conv=>lhs;reduce⟩
def QtH:=fk Tryz.func3 c3 (by kernel_rfl)
def QtG:=b0 0x1d916e80d9031de6f10de31101383f1402813fa10f3d0114d7f102393f1471004e7f1210480237f12230a02e085220470738f12230ab12e120401735f18f132308e117e15704702de012ac56f101bc51ffd23d6f92153070044a0636f1223dc ⟨_,by conv=>lhs;reduce⟩
def c4:=f1 0xa02eb0160851f0b016df11f0b03601234f1bf11f0b0265a0239f11f0b0267023ef11f0b0267023cf11f07023af1ec202ce111ce137027012ee01dc53f53913e6f7200ce11be13702700dee013c53f5390ee6f720ae119e137027008ee01cc53f53909e6f71314320f3fa10f326543150605816e12305e3a14e019c51ffd2421313fa10fc03f2381d05e231d3e38e4d46e43e4d37e4d46e43e4d36e4d46e43e4d35e4c5e10117e05e22d320a02e08522040c367073018c51ffd22f0017c51fd23c6f723b10a22020130e QtG ⟨_,by conv=>lhs;reduce⟩
def Qxd:=fk Tryz.func4 c4 (by kernel_rfl)
def c8:=f0 0xa00eb0360125d52a8214d7f11f0b0262a0235f11f0b0262a0233f11f0b0265a0231f11f0b02670238f11f0b02670236f11f0b02670234f11f070232f14d208e117e1370270cce013d504d5dc6f7206e115e13702707ce011d502d58c6f7204e113e13702702ce8024c500d53c6f7202e111e13702709e01cc500d5a6f72b10e12000110e ⟨_,by conv=>lhs;reduce⟩
def QtC:=fk Tryz.func8 c8 (by kernel_rfl)
def Qrx:=b0 0x6d914e85d9036de4f15de3103e07d9830103e5052012c4f10220241f343f17d6fa11530700404330b0220241f344f1623ec ⟨_,by conv=>lhs;reduce⟩
def c19:=f1 0xa02e0c0ee9674ea04303830103e50521f3c403830103e50521f1c40103e50521fb42f00c4674ea0430103e50521f3c42f00c4674ea0430103e50521fb42f0cda0433f100e6f1d1f3043130605714e12303e0103e50520341f34520ab12e12047073018c51ffd23230ac12e12040c56cda0430b0220041f6c42f00c360102e505c21f342f00101e507210456f3c23b10a2202011ce Qrx ⟨_,by conv=>lhs;reduce⟩
def Qvr:=fk Tryz.func19 c19 (by kernel_rfl)
def Qrw:=b0 0x1ee916e81de9031eee6f11dee310a38ea12e12040c27e9600d37ea13e0307e5022014012c6f102595f042f000d37ea13e0307e5022004012c6f102595f041fe6f6c21530700403330b02595f046f152317e ⟨_,by conv=>lhs;reduce⟩
def c20:=f1 0xa712e12516520605716e1230a38ea12e12040c4600d1f40fa13e0307e502595f242f00c08e9600d074307e580130b02595f0402595f142f000d082307e508a17d3f10b02595f04bc2305f358772d351d5e0721f6c4420a38ea12e12040c4600d38ea80307e50221f5c42f00c4600d01869f2fa0206e50521f3c42f00c4600d38ea0206e50521f1c42f000d01869f2fa0206e50521fb4ac230a38ea12e12040c4670730105e505c21f342f070734f182304e113e14703707e0104e507210486f82710a22020131e Qrw ⟨_,by conv=>lhs;reduce⟩
def Qvq:=fk Tryz.func20 c20 (by kernel_rfl)
def c21:=f0 0xa02e612205e114e213e24713702706ec0208e51fd276f92710a2202011c ⟨_,by conv=>lhs;reduce⟩
def Qvj:=fk Tryz.func21 c21 (by kernel_rfl)
def c22:=f0 0xa715e3a14e220a715e814e22340ece80230b8f1fc6f42a715e2a14e224409ce00d0120ce51f18f1ac6f5205308e010be56f1320a05e714e7f1320470737f122307e116e15704709e02209e5010ae51f13fd2a6f91f3717146f1a321504022d ⟨_,by conv=>lhs;reduce⟩
def Qvf:=fk Tryz.func22 c22 (by kernel_rfl)
def c23:=f0 0xa02f9c283ffd3922201380043f6c4034c252e1c3d0220041f6c40252e1cad82208383f34403383f04010ee505c2634010de5072304a1f3019c38772d777777773d2d772d7775d5d9c31d3e1fd246f32772d777777773d2d772d7775d5d9c21d0a2209c2219c ⟨_,by conv=>lhs;reduce⟩
def Qu8:=fk Tryz.func23 c23 (by kernel_rfl)
def c31:=f0 0xa713e02e010be54f1420a03e1d12e5f1320470735122305e114e13702706ec0209e52fd276f72711d10a320302024c ⟨_,by conv=>lhs;reduce⟩
def Qrr:=fk Tryz.func31 c31 (by kernel_rfl)
def c32:=f0 0xa00f9c08036c5a15c423c521c62baf839f307772d777777773d2d772d7775d5d9c2d13e128110103772d32d01224d13e1113e1027722d2a115a1027722d4da114da1027722daa1117722d6da112da1027722d013e51f719b1f3055381652821f31877777531d3e77777521d2e75d5d311d1e23712701704e012e556fb2772d777777773d2d772d7775d5d9c01d0e1209c0217c ⟨_,by conv=>lhs;reduce⟩
def Qrq:=fk Tryz.func32 c32 (by kernel_rfl)
def Qrj:=b0 0xad914e89d903ade4f19de3103e0bd98380030613022004012c4f10221f24022014012c4f10221f243f1bd6f5c1f1530700403330b0221f244f15233d ⟨_,by conv=>lhs;reduce⟩
def c46:=f1 0xa02e38ea0433f10be6f32043130605714e12303e800303130220041f340220141f34920ab12e120470730105e51f5c23230ac12e12040c46cda0430b0221f642f00c46cda0430b0221f542f0cda0430b02212456f4c23b10a2202010de Qrj ⟨_,by conv=>lhs;reduce⟩
def Qu5:=fk Tryz.func46 c46 (by kernel_rfl)
def c47:=f0 0xa02e8003021302230402211472710a2202019 ⟨_,by conv=>lhs;reduce⟩
def Qu4:=fk Tryz.func47 c47 (by kernel_rfl)
def Qri:=b0 0x9e913e808e90309ee3f108ee310a2eea12e120400d0121e5052012c3f10221f240ae6f721530700403330b0221f243f152302e ⟨_,by conv=>lhs;reduce⟩
def Qrh:=b0 0x17e914e816e90317ee4f116ee310a2eea12e12040c21e9600d8da70320e5022014012c4f10221f542f000d06222e5022004012c4f10221f541f5c218e6f7c1f33532700403330b0221f544f152310e ⟨_,by conv=>lhs;reduce⟩
def Qrg:=b0 0x31e915e830e90331ee5f130ee310a2eea12e12040c4600d1f40fa70320e502696f242f00c4600d1f40fa70320e502696f142f000d02223e502696f041f5c25c206f368777361d6e072013c5f10221f6432e6f725534700403330b0221f645f15232ae ⟨_,by conv=>lhs;reduce⟩
def c49:=f3 0xa712e1205122645715e12304121625714e12303120605713e1230a2eea12e12040c4600d6a70320e50221f742f00c466a0430b0221f642f00c468a0430b0221f542f00c4600d0121e50521f342f00c464a0430b0221f242f00c4600d3e70fa80320e50221f142f000d1f40fa80320e502210476fcd23710a22020148e Qri Qrh Qrg ⟨_,by conv=>lhs;reduce⟩
def Qu2:=fk Tryz.func49 c49 (by kernel_rfl)
def c50:=f0 0xa04eb04601631f10222f141f0b05602630222f140226041f070530222045c2b146f1a2214019c ⟨_,by conv=>lhs;reduce⟩
def Qu1:=fk Tryz.func50 c50 (by kernel_rfl)
def c51:=f0 0xa06e012324e561616152b1125601b ⟨_,by conv=>lhs;reduce⟩
def Qu0:=fk Tryz.func51 c51 (by kernel_rfl)
def c52:=f0 0xa716e05e114e9f18f1520a3a16e4d15e3d14e32040c3670230b9f12f070230b8f182309e218e0126e52ffd20125e52ffd261f30a816e4d15e3d14e320400d1f12230a06e4d15e3d14e6142047073412207e018c54fd2a6f323714d13d146f1a42160504033d ⟨_,by conv=>lhs;reduce⟩
def QuZ:=fk Tryz.func52 c52 (by kernel_rfl)
def c53:=f0 0xa715e04e7f1320a3a15e0e14e22040c6670230b0220ac406d7f12f0702303dd02209c406d7f12c2307e0a01ac219c49c037d1e772d777777773d2d772d7775d5dbc2d0129e52ffd20128e52ffd22ffd281f30a815e0e14e220400d1f12230a05e0e14e5132047073312206e0127e53fd286f323710e146f1a321504029d ⟨_,by conv=>lhs;reduce⟩
def Qrf:=fk Tryz.func53 c53 (by kernel_rfl)
def c54:=f0 0xa02e4a8032ae52132b11212015 ⟨_,by conv=>lhs;reduce⟩
def QuY:=fk Tryz.func54 c54 (by kernel_rfl)
def c55:=f0 0xa02e2ce6e022be50220ac406d21621d11212018 ⟨_,by conv=>lhs;reduce⟩
def Qre:=fk Tryz.func55 c55 (by kernel_rfl)
def c58:=f0 0xa02f8283f5c3922301383f64601383f548f01383f2402cc37ae1c3d0221f64037ae1cad024c278e93d0221f540278e9ad024c2cc53d02242402cc5ad6c1f30183873d2d772d77831d3e15c246f3273d2d772d77821d0a22082219c ⟨_,by conv=>lhs;reduce⟩
def QuV:=fk Tryz.func58 c58 (by kernel_rfl)
def c63:=f0 0xa00f808016215523612cda1138ea10673d2d772d7782d0134d2a122fea11810377732d01224daa1181027722d6a1117722d81181027722d01224d81117722d2a1181027722db273d2d772d77801d0e1208021b ⟨_,by conv=>lhs;reduce⟩
def Qq9:=fk Tryz.func63 c63 (by kernel_rfl)
def c76:=f0 0xa06e012310e561616152b1125601b ⟨_,by conv=>lhs;reduce⟩
def QuS:=fk Tryz.func76 c76 (by kernel_rfl)
def c77:=f0 0xa02eb0369a0630221f141f0072320e5022314022104b2b10a2202011c ⟨_,by conv=>lhs;reduce⟩
def QuR:=fk Tryz.func77 c77 (by kernel_rfl)
def c78:=f0 0xa04e074320e580130b0223243172b146f1a221401b ⟨_,by conv=>lhs;reduce⟩
def QuQ:=fk Tryz.func78 c78 (by kernel_rfl)
def c79:=f0 0xa04e073320e50b0223543162b146f1a221401a ⟨_,by conv=>lhs;reduce⟩
def QuP:=fk Tryz.func79 c79 (by kernel_rfl)
def Qq2:=b0 0xfc917e2aec903fce7f1ece31003e02cd398e33d0134d8f7893f1510401239e58f7891ffd23208f388771d381d8e0121112103771d32d7f16f1022011c5f14f10d6f925534700480637f1223bc ⟨_,by conv=>lhs;reduce⟩
def Qq1:=b1 0x6e80036f131317654316064513e17e123532700401238e56f10721f044235c Qq2 ⟨_,by conv=>lhs;reduce⟩
def Qq0:=b1 0x5e80035f131316543150625716e121530700402330b4f161423b Qq1 ⟨_,by conv=>lhs;reduce⟩
def c81:=f1 0xa02e3f1ed6f2231543140605715e12304e1d0237e507220496f42398e38d123d10a220201fd Qq0 ⟨_,by conv=>lhs;reduce⟩
def QuN:=fk Tryz.func81 c81 (by kernel_rfl)
def QqZ:=b0 0x4e918e803e90304ee8f103ee31003e024d49ce33d0144d9f9993f151040123be59f9991ffd23209f4987777491d9e0131122113104777742d8f17f16f1022011c5f14f105e6fa27536700403630220141f3c48f1523dd ⟨_,by conv=>lhs;reduce⟩
def QqY:=b1 0x317e8403ade7f19de313187654317066508e0220041f3c4bd6f425534700403630220141f1c47f15233d QqZ ⟨_,by conv=>lhs;reduce⟩
def QqX:=b1 0x316e84030de6f1fce31317654316064507e0220041f1c41d6f423532700403630220141fb46f15239c QqY ⟨_,by conv=>lhs;reduce⟩
def QqW:=b1 0x315e84036ce5f15ce3131654315062506e0220041fb47c6f421530700402330b4f15f14230c QqX ⟨_,by conv=>lhs;reduce⟩
def c82:=f1 0xa02e3f114e6f2231543140605715e12304e1d023ae505c2234a6f4249ce38d124d10a22020115e QqW ⟨_,by conv=>lhs;reduce⟩
def QuM:=fk Tryz.func82 c82 (by kernel_rfl)
def c83:=f0 0xa712e120a38ea12e120403330b02494f045f15206e115e14703701cee0141e50721f041de6f8230a38ea12e12040c4600d1f40fa13e032ae502494f242f00c0ce9600d07432ae580130b02494f0402494f142f00c4601240e53f102494f042f00c5600d8a8032ae50b02494f042f00c4600d38ea8032ae50221f5c42f00c4600d01869f2fa023fe50521f3c42f00c4600d38ea023fe50521f1c42f00c4600d01869f2fa023fe50521fb42f00c467073013ee505c21f342f07073013de50721f0413e2304348772d341d4e07226c476f423ce6e112710a22020127e ⟨_,by conv=>lhs;reduce⟩
def QqV:=fk Tryz.func83 c83 (by kernel_rfl)
def QhA:=b0 0x1de81d90321200ee92c12ed5f10720ee970111452c11ed800300ee970111452cbcd01331210e9110fe9104b77742d7043020c9cf0401244e511700701247e5af14f749af1bf13f2396c1f01ce1cf20c87720c1d0ce147037008ee01246e5bf14f74909e6f920be01244e511700701245e5af14f749720ae050303830220141f6c49f17f1820570400d0124443e59f17f10721f6c44f74972309e122cdd225534700432a033121d ⟨_,by conv=>lhs;reduce⟩
def Qhz:=b1 0xdce840320e6f212c4331d0ddccc7431806457113e8277204ed2207e1122353270043103312dc QhA ⟨_,by conv=>lhs;reduce⟩
def QcK:=b0 0x6c9034875d5d341d213 ⟨_,by conv=>lhs;reduce⟩
def Qhy:=b1 0x2c433dccc43150625715f12206e115e13702707ce0141e54f74972157c Qhz ⟨_,by conv=>lhs;reduce⟩
def c84:=f2 0xa02e3f23921e6f222c3231206c10e050142e50721f0432303f1381e131d3e002c7cd2c6f321e10a22020122e QcK Qhy ⟨_,by conv=>lhs;reduce⟩
def QqU:=fk Tryz.func84 c84 (by kernel_rfl)
def QbB:=b0 0x30ee830e90321fa00f32013ee97dd02544e92342e91241e91140e9105777777772d0424de501869f2fa1101027722d022c9004ef340521f3c4052c9ef34af19f1022c9ef044f14c1f03a012c8ef042104b04602430221f5c49f11f04a023022c9ef049230ef72c8777777772c1d2ce03c2137c4255347004310331230e ⟨_,by conv=>lhs;reduce⟩
def Qhx:=b1 0xcd919e8bd903cde9f1bde31fa00fec63430e2fe2eeeca986431b0645710b06274d0234a102777777772d0324de501869f2fa1101027722d8003bf1cf50c90232a102777777772d0224de501117722dbf1cf50c92c1f30cf20c80424de501117722d0220141f3c4cf50c972fa00f32010ae97dd02513e9230ce9120be9118105777777772d0424de501117722d8013020c9cf140521f3c40524de501869f2fa1101027722d80030220041f3c4cf50c9af19f14f17c1f30cf20c87720c1d0ce0324de501869f2fa1101027722d8003af10521fb4820be41ae0124ce59f102696f040124ce59f18f1dd6f91f33532700403630220141f1c49f15235d QbB ⟨_,by conv=>lhs;reduce⟩
def Qhw:=b1 0xfa00fec634ec9864317062509e0220041f1c44208e0072ec1dd3215070043ec20dfcb30d Qhx ⟨_,by conv=>lhs;reduce⟩
def c85:=f1 0xa02e3f2394fe6f22fa00fec634ec6431506050ec0dd014be51ffd232307e16f26877261d6e13702707ce7024ae55f5c598c6f823d01585f642205f85873d2d772d77851d5e05c21f344204e01048e5d3c6f22785e03fa00fc77e131d127d10a22020150e Qhw ⟨_,by conv=>lhs;reduce⟩
def QqT:=fk Tryz.func85 c85 (by kernel_rfl)
def c86:=f0 0xa06eb03601632f10f11f001630f15192b11256013c ⟨_,by conv=>lhs;reduce⟩
def QqS:=fk Tryz.func86 c86 (by kernel_rfl)
def Qhv:=b0 0xae8af032105e0481353d0114d00111cd7f3c791f15f171067787777777771d7e03c2137c42153070043103312a ⟨_,by conv=>lhs;reduce⟩
def c87:=f1 0xa04e51014fe0cd5f13251014ee0cd519c6f2251a985150605710b5186f3231358d121d1123401dc Qhv ⟨_,by conv=>lhs;reduce⟩
def QqR:=fk Tryz.func87 c87 (by kernel_rfl)
def c88:=f0 0xa02e02210432710a2202015 ⟨_,by conv=>lhs;reduce⟩
def QqQ:=fk Tryz.func88 c88 (by kernel_rfl)
def QqK:=b0 0xac916e89c903ace6f19ce31005e09d9cc10d53dbd106237e0cd02813bd3d0114d6f101813bd3d1f1013bdad2f725f1b1f040c262a0237f12f001236f17f17207e022024025c0b1f10222f04bc6f82153070042a0336f12236c ⟨_,by conv=>lhs;reduce⟩
def c99:=f1 0xa04e5f103e6f2251652140605716e12310d58d5e120a1d14e120a04e0114d1f1320401256e51f12f723230403230b0222f040b3186f6231d146f1a22140104e QqK ⟨_,by conv=>lhs;reduce⟩
def QuI:=fk Tryz.func99 c99 (by kernel_rfl)
def Qou:=b0 0xac916e89c903ace6f19ce310ab14e12040c16e96b0501ed16e4f027302898f4402999f141f0705302999f142f0b056027302898f3402999f041f0705302999f04ac209f29877291d9e052012c6f10220042f6c48208f58877777581d8e0b20ad95c022041c022011c7f15f10158e50722f040220042f044c1f30ab14e120400d073307e580130b5f17f162307e040301836f10223f240223f14bc6f821530700404330b0220042f6c46f16232c ⟨_,by conv=>lhs;reduce⟩
def QwK:=f1 0xac14e120653240605716e12305e02257e50223f04072204a6f62b11a1a32140122e Qou ⟨_,by conv=>lhs;reduce⟩
def Qt3:=fk Tryz.func101 QwK (by kernel_rfl)
def Qot:=b0 0xcc916e8bc903cce6f1bce31005e03d981353d0114d03435ae50b0222f547f5792f5c25f1a10401259e57f5792f5c23207f27871d271d7e011110271d22d6f11f1dc6f521530700403630220142f346f15235c ⟨_,by conv=>lhs;reduce⟩
def Qos:=b0 0xee918e80de9030eee8f10dee3105e00fe981353d11e10623ae0cd0281311e3d0114d8f10181311e3d1f101311ead2f5c25f10fe6fb1f35327004004e963022014022c0b1f10222f248f192303e ⟨_,by conv=>lhs;reduce⟩
def QwJ:=f2 0xa04e1f40fa7035be55f119e6f310510f35185214162508e022004022c0b1f10222f248230a04e5f1cd6f225165214060506e0220042f344230403230b0222f240b4196f6231358d121d146f1a2214011be Qot Qos ⟨_,by conv=>lhs;reduce⟩
def Qt2:=fk Tryz.func102 QwJ (by kernel_rfl)
def QwI:=f0 0xa04eb0ef60c601ed2c3f03230220242f6c40223f042f070330220242f6c41f002330223f1402435ce50224240222042fd2cc1f3b11a1a3214010d ⟨_,by conv=>lhs;reduce⟩
def Qt1:=fk Tryz.func103 QwI (by kernel_rfl)
def QwH:=f0 0xa02e0c4600d37ea13e032ae50226142f000d37ea13e032ae5022104b2b10a2202011c ⟨_,by conv=>lhs;reduce⟩
def Qor:=fk Tryz.func104 QwH (by kernel_rfl)
def QwF:=f0 0xa712e120a2eea12e12040c4601269e55f10221f642f00c466a0430b0221f642f00c4601268e54f10221f542f08a0430b0221f54ac2305e1f1066e5d2204e1f1064e5d220a2eea12e12040c0d963d101263e00ed3f1024c2cc3d3d0221f24012cc3dad0521f342f00c464a0430b0221f242f00c4600d6a70362e50221f742f00c4600d3e70fa80362e50221f142f000d1f40fa80362e502220466f4d2361e6e112710a22020112e ⟨_,by conv=>lhs;reduce⟩
def Qop:=fk Tryz.func106 QwF (by kernel_rfl)
def QwE:=f0 0xa04eb04601631f10222f141f007232ae50224140222040c2b146f1a2214014c ⟨_,by conv=>lhs;reduce⟩
def Qoo:=fk Tryz.func107 QwE (by kernel_rfl)
def QwD:=f0 0xa04e70530126ae5414152b11234019 ⟨_,by conv=>lhs;reduce⟩
def Qon:=fk Tryz.func108 QwD (by kernel_rfl)
def QwB:=f0 0xa02e1106ce5d222e10a2202014 ⟨_,by conv=>lhs;reduce⟩
def Qol:=fk Tryz.func110 QwB (by kernel_rfl)
def Qc9:=b0 0xace8ac903210ab18e12040c07e96b00be901ed07e4f067301244e511700701247e5df14f72020c9cf141f07053020c9cf142f0b0cd96067301244e51170070126ee5df14f72020c9cf041f07053020c9cf042d1f30ab18e120400d07232ae580139f1df152301ce03030183bf13f12f1620cf20c821be7720c1d0ce052242c1162153070043103312ac ⟨_,by conv=>lhs;reduce⟩
def QwA:=f1 0xac18e120ac9c8c943270605710b0225f044230ae119e13702702ce0141e54723c6f72b186f3a3a32380118e Qc9 ⟨_,by conv=>lhs;reduce⟩
def Qok:=fk Tryz.func111 QwA (by kernel_rfl)
def Qwz:=f0 0xa04e022701c4142711234018 ⟨_,by conv=>lhs;reduce⟩
def Qoj:=fk Tryz.func112 Qwz (by kernel_rfl)
def Qwx:=f0 0xa715e04f24801161027722d022031c80130b6f16f1022701c6f10c1f30a05e14f2487f107722d420470737f122307e116e16705708e01336fe53f1074e5d0173e562237296fa1f37177241d1a1a4215024222d ⟨_,by conv=>lhs;reduce⟩
def Qoh:=fk Tryz.func114 Qwx (by kernel_rfl)
def Qww:=f0 0xa05e114e11700701336fe551075e5d0170e532237291f3711d11a1a421504021c ⟨_,by conv=>lhs;reduce⟩
def Qog:=fk Tryz.func115 Qww (by kernel_rfl)
def Qrz:=f0 0x1f108020ce785e13d0174d33c2320951040149e503c2221a12109 ⟨_,by conv=>lhs;reduce⟩
def Qt0:=fk Tryz.func116 Qrz (by kernel_rfl)
def Qwv:=f0 0xa02eb0af603630220141f540220041f541f003630220144340220041345c2b10a2202017c ⟨_,by conv=>lhs;reduce⟩
def Qof:=fk Tryz.func117 Qwv (by kernel_rfl)
def Qwu:=f0 0xa715e04f24801278e53f6f2079e5d6f22514164330f30a05e14f2487f107722d420470737f122307e16f1680e161d6e16705708e03277e501267e53f222f5c235c296fb1f37177241d1a1a421502422bc ⟨_,by conv=>lhs;reduce⟩
def Qoe:=fk Tryz.func118 Qwu (by kernel_rfl)
def Qwt:=f0 0xa02e3f23922534370227dd05c263422494202148241307ce5d222e141d4e12021381e131d3e0057cd56f321e10a2202010c ⟨_,by conv=>lhs;reduce⟩
def Qod:=fk Tryz.func119 Qwt (by kernel_rfl)
def Qws:=f0 0xa04e38ea0930283038ea1341416271123401a ⟨_,by conv=>lhs;reduce⟩
def Qoc:=fk Tryz.func120 Qws (by kernel_rfl)
def Qwr:=f0 0xa04f24801151027722d0217d0223f140222f140207d0223040222040c277241d1a1a32124214c ⟨_,by conv=>lhs;reduce⟩
def Qob:=fk Tryz.func121 Qwr (by kernel_rfl)
def Qn6:=b0 0x3d915e82d9033de5f12de310ab14e120400d068d9320e5022014012c5f10222f24022004012c5f10222f24022011c5f10223f044d6f7c1f31530700403330b0223f045f1523cc ⟨_,by conv=>lhs;reduce⟩
def Qwk:=f1 0xa04e02630222f7401288e53f522f5c207e6f71f3053230605715e1230ab14e12040cdf600d036320e50220142f340220042f340223f142f003730b0226240b02210466f7c23b11a1a3214010de Qn6 ⟨_,by conv=>lhs;reduce⟩
def QtW:=fk Tryz.func133 Qwk (by kernel_rfl)
def Qn5:=b0 0xff18e8ef033ce8f12ce3107e04c91302030224f140ac983022061c022004012c8f10223f540224f04022014012c8f10223f54614c6fbc1f1530700401332f121323a ⟨_,by conv=>lhs;reduce⟩
def Qwj:=f1 0xa06e0707d31ad6f3208743250605718e12307e02230496f327166f2a2a322601cd Qn5 ⟨_,by conv=>lhs;reduce⟩
def QtV:=fk Tryz.func134 Qwj (by kernel_rfl)
def Qwh:=f0 0xa06e38ea0930283038ea132f10128ae51f105c2334927166f2a2226013c ⟨_,by conv=>lhs;reduce⟩
def QtT:=fk Tryz.func136 Qwh (by kernel_rfl)
def Qwc:=f0 0xa02e0c369a0430221f142f000d072362e50223140221040c2b10a2202012c ⟨_,by conv=>lhs;reduce⟩
def QnZ:=fk Tryz.func141 Qwc (by kernel_rfl)
def Qwb:=f0 0xa06eb03601632f10f11f001630f15192b11256013c ⟨_,by conv=>lhs;reduce⟩
def QnY:=fk Tryz.func142 Qwb (by kernel_rfl)
def Qwa:=f0 0xa04e70530128be5414152b11234019 ⟨_,by conv=>lhs;reduce⟩
def QnX:=fk Tryz.func143 Qwa (by kernel_rfl)
def Qv9:=f0 0xa03e0c4600d8da70362e50222f142f000d02265e502220425c20c2b11a2213013c ⟨_,by conv=>lhs;reduce⟩
def QnW:=fk Tryz.func144 Qv9 (by kernel_rfl)
def Qv8:=f0 0xa04e074362e580130b0223243172b146f1a221401b ⟨_,by conv=>lhs;reduce⟩
def QnV:=fk Tryz.func145 Qv8 (by kernel_rfl)
def Qv7:=f0 0xa03e0c4600d1f40fa70362e50222f242f00c4600d1f40fa70362e50222f142f000d02267e502220425c26c2b11a2213019c ⟨_,by conv=>lhs;reduce⟩
def QnU:=fk Tryz.func146 Qv7 (by kernel_rfl)
def Qv6:=f0 0xa04e073362e50b0223543162b146f1a221401a ⟨_,by conv=>lhs;reduce⟩
def QnT:=fk Tryz.func147 Qv6 (by kernel_rfl)
def Qv5:=f0 0xa04e70530128ce5414152b11234019 ⟨_,by conv=>lhs;reduce⟩
def QnS:=fk Tryz.func148 Qv5 (by kernel_rfl)
def Qv4:=f0 0xa04e70530128de5414152b11234019 ⟨_,by conv=>lhs;reduce⟩
def QnR:=fk Tryz.func149 Qv4 (by kernel_rfl)
def Qc6:=b0 0x8e88f03210a04e5f1220400141cd052012c5f10f11f16205e11221530700431033128 ⟨_,by conv=>lhs;reduce⟩
def Qv3:=f1 0xa13e14e120871040605710b4166f323711234017c Qc6 ⟨_,by conv=>lhs;reduce⟩
def QnQ:=fk Tryz.func150 Qv3 (by kernel_rfl)
def Qv1:=f0 0x126de8cd3117231206 ⟨_,by conv=>lhs;reduce⟩
def QnO:=fk Tryz.func152 Qv1 (by kernel_rfl)
def Qc4:=b0 0xace8ac903210ab14e120400d00126de8cd1f18f78941802ac852150f32010d80241250dbd7f15f102898f0472101888f040d0018ee4cd0222f045208f38875d5d381d8e2f723207e11223532700432a03312ac ⟨_,by conv=>lhs;reduce⟩
def Qan:=b1 0x2ce8ef03dd6f21ac14e1201ac5214062571123017042a07302696f2432306f568215e77777561d6e0b2245c11621530700431033122c Qc4 ⟨_,by conv=>lhs;reduce⟩
def Qv0:=f1 0xa04e00113cd2f721f1420ac14e12047073af1220ae119e1370270ede018fe52f72fd6f723012c1c0c2150605710b022204b6f423b146f1a22140108e Qan ⟨_,by conv=>lhs;reduce⟩
def QhJ:=fk Tryz.func153 Qv0 (by kernel_rfl)
def QvZ:=f0 0xa05e114e11700701336fe551090e5d0170e532237291f3711d11a1a421504021c ⟨_,by conv=>lhs;reduce⟩
def QnN:=fk Tryz.func154 QvZ (by kernel_rfl)
def QvT:=f0 0xa03e0b011d1dcd42202212462711a2213019 ⟨_,by conv=>lhs;reduce⟩
def QnH:=fk Tryz.func160 QvT (by kernel_rfl)
def QvS:=f0 0xa03e0113ed01276e532217252711a2213018 ⟨_,by conv=>lhs;reduce⟩
def QnG:=fk Tryz.func161 QvS (by kernel_rfl)
def Qea:=b0 0x0 ⟨_,by conv=>lhs;reduce⟩
def QhI:=b0 0xa75f15804f1487f27932158c ⟨_,by conv=>lhs;reduce⟩
def QvQ:=f2 0xa3a5f1580e4f148227543754308c10e0500197e5d7f27922307f1780e171d7e0a080173d2d772d7782d2f5c2520a85f1580e4f148220400d1f12230a05f1580e4f1485132047073312206e013ee535c286f3237151d0e141d46f1a3211511412ac Qea QhI ⟨_,by conv=>lhs;reduce⟩
def QnE:=fk Tryz.func163 QvQ (by kernel_rfl)
def QvP:=f0 0xa04f24801161027722d022031c80130b5f161022701c31b1f305e01298e5514166f4277241d12324217c ⟨_,by conv=>lhs;reduce⟩
def QnD:=fk Tryz.func164 QvP (by kernel_rfl)
def QvO:=f0 0xa04e0427ae501237be55223b242232271f3712a222401b ⟨_,by conv=>lhs;reduce⟩
def QnC:=fk Tryz.func165 QvO (by kernel_rfl)
def QvN:=f0 0xa04e27101fa09301831f101831f102201400406d41b2711234013c ⟨_,by conv=>lhs;reduce⟩
def QnB:=fk Tryz.func166 QvN (by kernel_rfl)
def Qc2:=b0 0xbce8bc9032107e0fc91302030224f44058302210144dd4f0402999f0402999f147f12c1f09f29877291d9e052132c42153070043103312bc ⟨_,by conv=>lhs;reduce⟩
def QvM:=f1 0xa06e0707d7f1dd6f320bcac9c7450605710b010125cd2f102205400406d0f192307e02200400406d61a6f627166f2a223601fd Qc2 ⟨_,by conv=>lhs;reduce⟩
def QnA:=fk Tryz.func167 QvM (by kernel_rfl)
def Qc1:=b0 0x7d917e86d9037de7f16de31210302237dd80031f18f5c892f209518210487542160f102bd8342bdbd01111027722d7f17f11f102898f2482101888f24bd0017de4cd0225f245208f88873d2d772d77881d8e5f5c28d6f32153070040663022014012c1f10225f247f1823dc ⟨_,by conv=>lhs;reduce⟩
def Qc0:=b0 0x12e919e811e90312ee9f111ee31024129cd5f800302712bcd021c9df044f2196102ce1df21c87721c1d1ce167057030ee0324ae50b02a9af54af5ca931e6fb2037040c22e96b0601ed22e4f03730220243f6c402b9bf041f070530220243f6c42f07073cf14c2300ce1bf2b8772b1dbe167057018ee0327ee50b02a9af54af5ca919e6fb2102a8af3401111027722d9f19f1520af8a873d2d772d778a1dae5f5c213e6f323532700403630220145f349f15230be ⟨_,by conv=>lhs;reduce⟩
def Qnz:=f2 0x2103954325162509e0220045f3409e6f420a2103754215060507e022004012c1f10225f247230403330b0225f24413c6f5234a12403de Qc1 Qc0 ⟨_,by conv=>lhs;reduce⟩
def QtS:=fk Tryz.func168 Qnz (by kernel_rfl)
def QvL:=f0 0xa715e04f24801278e53f6f2099e5d6f22514164330f30a05e14f2487f107722d420470737f122307e16f1680e161d6e16705708e03277e501267e53f222f5c235c296fb1f37177241d1a1a421502422bc ⟨_,by conv=>lhs;reduce⟩
def Qny:=fk Tryz.func170 QvL (by kernel_rfl)
def Qnt:=b0 0xdf16e8cf031ce6f10ce31005e80035f1310400d0563ace5072013c6f10222f643f522f5c22c6f91f31530700403330b02256405236 ⟨_,by conv=>lhs;reduce⟩
def QvH:=f1 0xa04e11dc6f220653240605711237112711a1a321401ec Qnt ⟨_,by conv=>lhs;reduce⟩
def QtO:=fk Tryz.func180 QvH (by kernel_rfl)
def QvF:=f0 0xa04e27101fa09301831f1018351022214827146f1a2214010c ⟨_,by conv=>lhs;reduce⟩
def QtM:=fk Tryz.func182 QvF (by kernel_rfl)
def QcZ:=b0 0x8e88f03210a04e5f1220400141cd052012c5f10f11f16205e11221530700431033128 ⟨_,by conv=>lhs;reduce⟩
def QvE:=f1 0xa13e14e120871040605710b4166f323711234017c QcZ ⟨_,by conv=>lhs;reduce⟩
def Qnr:=fk Tryz.func183 QvE (by kernel_rfl)
def QcY:=b0 0x8e88f03210a04e5f1220400141cd052012c5f10f11f16205e11221530700431033128 ⟨_,by conv=>lhs;reduce⟩
def QvD:=f1 0xa13e14e120871040605710b4166f323711234017c QcY ⟨_,by conv=>lhs;reduce⟩
def Qnq:=fk Tryz.func184 QvD (by kernel_rfl)
def QcX:=b0 0x8e88f03210a04e5f1220400141cd072013c5f10f11f16205e11221530700431033128 ⟨_,by conv=>lhs;reduce⟩
def QvC:=f1 0xa13e14e120871040605710b4166f323711234017c QcX ⟨_,by conv=>lhs;reduce⟩
def Qnp:=fk Tryz.func185 QvC (by kernel_rfl)
def QvA:=f0 0xa03e0013ed01276e532217252711a2213018 ⟨_,by conv=>lhs;reduce⟩
def Qnn:=fk Tryz.func188 QvA (by kernel_rfl)
def JV:=b0 0x9f1118f054877777541d223 ⟨_,by conv=>lhs;reduce⟩
def Wn:=b0 0xa04b04600d00113cd4fb493f2391f0056302207400406d2f22411c2159 ⟨_,by conv=>lhs;reduce⟩
def Qvu:=f2 0x30232209820e05001b3e5d12266f22136cd1a2210bc JV Wn ⟨_,by conv=>lhs;reduce⟩
def Qni:=fk Tryz.func195 Qvu (by kernel_rfl)
def Qaj:=b0 0xaf056877777561d215 ⟨_,by conv=>lhs;reduce⟩
def QcU:=b0 0x25179cd5f800303717bcd00111cd6b693f22525971f15a ⟨_,by conv=>lhs;reduce⟩
def Qvt:=f2 0xa04e0193e50194e542595c6f4151510f37525320a10e0500197e5d0f1223021581e151d5e0077cd76f321d11a2224018c Qaj QcU ⟨_,by conv=>lhs;reduce⟩
def Qnh:=fk Tryz.func196 Qvt (by kernel_rfl)
def Qvs:=f0 0xa04e01237be54222b232252712a2224019 ⟨_,by conv=>lhs;reduce⟩
def Qng:=fk Tryz.func197 Qvs (by kernel_rfl)
def Qvn:=f0 0xa06e02630225f240207d0fcd7f17f18207e02130225f1402335ae502240445235c286f91f3b12a2a2a422601bc ⟨_,by conv=>lhs;reduce⟩
def QtJ:=fk Tryz.func216 Qvn (by kernel_rfl)
def Qvg:=f0 0x7124c0e8cd2320c1e5d07777752d122411a1a22108 ⟨_,by conv=>lhs;reduce⟩
def Qna:=fk Tryz.func223 Qvg (by kernel_rfl)
def QcO:=b0 0x541585f449de86038de6d92597de5f446de510ab18e120400d00113cd5fb593f1ad6f4215307004066302201403400406d0f102595f4491f33cc ⟨_,by conv=>lhs;reduce⟩
def QcN:=b0 0x13e919e812e90313ee9f112ee310ab18e120400d001344c0e8cd3f180032f15fb590f1722015820144dd5f049f12f114e6f5235327004007e963022014012c2f102202400406d0f19f1b2306e ⟨_,by conv=>lhs;reduce⟩
def Qvb:=f2 0xac18e12502953205162509e022004012c2f102202400406d0f1ed6fa230ac18e1250253030605101585f4402200403400406d0f18230406230b02202400406d0f161a6f823b186f356cd2248011fe QcO QcN ⟨_,by conv=>lhs;reduce⟩
def QhG:=fk Tryz.func236 Qvb (by kernel_rfl)
def QcM:=b0 0x2ce8ef0321005e80035f1310400d0123c2e57f7793fb21f225207f378777371d7e072133c421530700431033122c ⟨_,by conv=>lhs;reduce⟩
def Qva:=f1 0xa04e001223cd5f13fb22f22ec6f52012c1c0c532170605710b02206400406d42286f7237112b12a2224012d QcM ⟨_,by conv=>lhs;reduce⟩
def Qm6:=fk Tryz.func237 Qva (by kernel_rfl)
def Qu9:=f0 0xa06e025362e50225f240fcd0225f247f18207e02130225f1402337be50224044b26186f91f3b12a2a323601bc ⟨_,by conv=>lhs;reduce⟩
def Qm5:=fk Tryz.func238 Qu9 (by kernel_rfl)
end Go.Pf
namespace Go.Pf
open Go Go.Ev Go.Proofs
attribute [simp] c3 c4 c8 c19 c20 c21 c22 c23 c31 c32 c46 c47 c49 c50 c51 c52 c53 c54 c55 c58 c63 c76 c77 c78 c79 c81 c82 c83 c84 c85 c86 c87 c88 c99 QwK QwJ QwI QwH QwF QwE QwD QwB QwA Qwz Qwx Qww Qrz Qwv Qwu Qwt Qws Qwr Qwk Qwj Qwh Qwc Qwb Qwa Qv9 Qv8 Qv7 Qv6 Qv5 Qv4 Qv3 Qv1 Qv0 QvZ QvT QvS QvQ QvP QvO QvN QvM Qnz QvL QvH QvF QvE QvD QvC QvA Qvu Qvt Qvs Qvn Qvg Qvb Qva Qu9
end Go.Pf
namespace Go.Pf
open Go Go.Ev Go.Proofs Go.RowKit
variable {K:World->Prop} (hK:∀ w w',K w->Below w.heap.size w w'->K w')
set_option maxRecDepth 8000
include hK
theorem XO (n a b:Int):Ev.Good Tryz.prog K 142 [.int .i64 n,.int .i64 a,.int .i64 b] (.bool (decide (inR n a b))):=by
 refine Qb hK QnY (by simp) ?_
 by_cases h1:a<=n
 ·simp[h1,inR]
 ·simp[h1,inR]
theorem Qmj (c:Sea) (n:Int):Ev.Good Tryz.prog K 145 [Qfw c,.int .i64 n] (.bool (decide (inR n 0 ((c.waters.length:Int)-1)))):=by
 refine Qb hK QnV (by simp) ?_
 simp
 (repeat' first | omega | (with_reducible apply And.intro) | intro _)
 exact cK (XO hK _ _ _) (by simp)
theorem Qcu (c:Sea) (n:Int):Ev.Good Tryz.prog K 147 [Qfw c,.int .i64 n] (.bool (decide (inR n 0 c.voys.length))):=by
 refine Qb hK QnT (by simp) ?_
 simp
 (repeat' first | omega | (with_reducible apply And.intro) | intro _)
 exact cK (XO hK _ _ _) (by simp)
theorem Qmm (s:Int × Int):Ev.Good Tryz.prog K 141 [.agg (spC s)] (.bool (Zz s)):=by
 refine Qb hK QnZ (by simp) ?_
 simp;refine cK (XO hK _ _ _) ?_;by_cases h1:inR s.1 0 s.2
 ·simp[h1,Zz]
 ·simp[h1,Zz]
theorem Qmk (c:Sea) (hw:c.waters.length<=1000) (v:Int × Int):Ev.Good Tryz.prog K 144 [.agg (spC v),.ptr (Y9 c)] (.bool (VT c.waters.length v)):=by
 refine Qb hK QnW (by simp) ?_
 simp;refine cK (by simpa using Qmj hK c v.1) ?_
 by_cases h1:inR v.1 0 ((c.waters.length:Int)-1)
 ·simp[h1]
  exact cK (XO hK _ _ _) (by simp[VT,h1])
 ·simp[h1,VT]
theorem Qmi (c:Sea) (hw:c.voys.length<=1000) (g:Int × Int × Int):Ev.Good Tryz.prog K 146 [.agg (gaC g),.ptr (Y9 c)] (.bool (JZ c.voys.length g)):=by
 refine Qb hK QnU (by simp) ?_
 simp;refine cK (by simpa using Qcu hK c g.1) ?_
 by_cases h1:inR g.1 0 c.voys.length
 ·simp[h1]
  refine cK (XO hK _ _ _) ?_;by_cases h2:inR g.2.1 0 500
  ·simp[h2]
   exact cK (XO hK _ _ _) (by simp[JZ,h1,h2])
  ·simp[h2,JZ]
 ·simp[h1,JZ]
theorem Ql6 (l:List (Int × Int)) (g:FuncId) (p:Int × Int->Bool) (hg:∀ x,Ev.Good Tryz.prog K g [.agg (spC x)] (.bool (p x))) (hc:callee Tryz.prog g=true) (hl:l.length<=1000):Ev.Good Tryz.prog K 183 [ZR l,.fn g] (.int .i64 (fi p l)):=by
 refine Qb hK Qnr (by simp) ?_
 simp;intro _;refine QI (fun i=>[(0,AV.iv (ZR l)),(1,AV.iv (.fn g)),(7,AV.iv (.int .i64 l.length)),(8,AV.iv (IV.int IntKind.i64 (i:Nat)))]) (fun _=>[]) l.length (fun i=>∀ x∈l.take i,p x=false) (by simp) ?_ ?_
 ·intro h
  rw[Qa QcZ.eq_1];rw[QxM] at h;simp[Vr p l h]
 ·intro i hi h ih
  rw[Qa QcZ.eq_1];have hgi:=hg l[i];simp[hi] at ih |-;refine ⟨hc,cK (by simpa using hgi) ?_⟩
  by_cases hp:p l[i]=true
  ·simp[hp,QeQ p l i hi hp h]
  ·have hp':p l[i]=false:=by simpa using hp
   simp[hp'];refine ⟨by omega,ih ?_⟩
   rw[Qxt hi]
   grind
theorem Qml (l:List (Int × Int)) (g:FuncId) (p:Int × Int->Bool) (hg:∀ x,Ev.Good Tryz.prog K g [.agg (spC x)] (.bool (p x))) (hc:callee Tryz.prog g=true) (hl:l.length<=1000):Ev.Good Tryz.prog K 143 [ZR l,.fn g] (.bool (l.any p)):=by
 refine Qb hK QnX (by simp) ?_
 simp;refine cK (by simpa using Ql6 hK l g p hg hc hl) ?_
 simp[X3]
theorem Ql5 (l:List (Int × Int)) (g:FuncId) (fs cs:List IV) (p:Int × Int->Bool) (hg:∀ x,Ev.Good Tryz.prog K g (fs++[.agg (spC x)]++cs) (.bool (p x))) (hc:callee Tryz.prog g=true) (hl:l.length<=1000):Ev.Good Tryz.prog K 184 [ZR l,.clo g fs cs] (.int .i64 (fi p l)):=by
 refine Qb hK Qnq (by simp) ?_
 simp;intro _;refine QI (fun i=>[(0,AV.iv (ZR l)),(1,AV.iv (.clo g fs cs)),(7,AV.iv (.int .i64 l.length)),(8,AV.iv (IV.int IntKind.i64 (i:Nat)))]) (fun _=>[]) l.length (fun i=>∀ x∈l.take i,p x=false) (by simp) ?_ ?_
 ·intro h
  rw[Qa QcY.eq_1];rw[QxM] at h;simp[Vr p l h]
 ·intro i hi h ih
  rw[Qa QcY.eq_1];have hgi:=hg l[i];rw[QxJ] at hgi;simp[hi] at ih |-;refine ⟨hc,cK (by simpa using hgi) ?_⟩
  by_cases hp:p l[i]=true
  ·simp[hp,QeQ p l i hi hp h]
  ·have hp':p l[i]=false:=by simpa using hp
   simp[hp'];refine ⟨by omega,ih ?_⟩
   rw[Qxt hi]
   grind
theorem Qmh (l:List (Int × Int)) (g:FuncId) (fs cs:List IV) (p:Int × Int->Bool) (hg:∀ x,Ev.Good Tryz.prog K g (fs++[.agg (spC x)]++cs) (.bool (p x))) (hc:callee Tryz.prog g=true) (hl:l.length<=1000):Ev.Good Tryz.prog K 148 [ZR l,.clo g fs cs] (.bool (l.any p)):=by
 refine Qb hK QnS (by simp) ?_
 simp;refine cK (by simpa using Ql5 hK l g fs cs p hg hc hl) ?_
 simp[X3]
theorem Ql4 (l:List (Int × Int × Int)) (g:FuncId) (fs cs:List IV) (p:Int × Int × Int->Bool) (hg:∀ x,Ev.Good Tryz.prog K g (fs++[.agg (gaC x)]++cs) (.bool (p x))) (hc:callee Tryz.prog g=true) (hl:l.length<=1000):Ev.Good Tryz.prog K 185 [Vn l,.clo g fs cs] (.int .i64 (fi p l)):=by
 refine Qb hK Qnp (by simp) ?_
 simp;intro _;refine QI (fun i=>[(0,AV.iv (Vn l)),(1,AV.iv (.clo g fs cs)),(7,AV.iv (.int .i64 l.length)),(8,AV.iv (IV.int IntKind.i64 (i:Nat)))]) (fun _=>[]) l.length (fun i=>∀ x∈l.take i,p x=false) (by simp) ?_ ?_
 ·intro h
  rw[Qa QcX.eq_1];rw[QxM] at h;simp[Vr p l h]
 ·intro i hi h ih
  rw[Qa QcX.eq_1];have hgi:=hg l[i];rw[QxJ] at hgi;simp[hi] at ih |-;refine ⟨hc,cK (by simpa using hgi) ?_⟩
  by_cases hp:p l[i]=true
  ·simp[hp,QeQ p l i hi hp h]
  ·have hp':p l[i]=false:=by simpa using hp
   simp[hp'];refine ⟨by omega,ih ?_⟩
   rw[Qxt hi]
   grind
theorem Qmg (l:List (Int × Int × Int)) (g:FuncId) (fs cs:List IV) (p:Int × Int × Int->Bool) (hg:∀ x,Ev.Good Tryz.prog K g (fs++[.agg (gaC x)]++cs) (.bool (p x))) (hc:callee Tryz.prog g=true) (hl:l.length<=1000):Ev.Good Tryz.prog K 149 [Vn l,.clo g fs cs] (.bool (l.any p)):=by
 refine Qb hK QnR (by simp) ?_
 simp;refine cK (by simpa using Ql4 hK l g fs cs p hg hc hl) ?_
 simp[X3]
theorem Qgu (c:Sea):Ev.Good Tryz.prog K 106 [Qfw c] (.int .i64 (if Qx c then 0 else 90)):=by
 refine Qb hK Qop (by simp) ?_
 have no:∀ q:Prop,(Qx c->q)->¬ q->¬ Qx c:=fun q h1 h2 h=>h2 (h1 h)
 simp;refine cK (XO hK _ _ _) ?_;by_cases h1:inR c.thick 1 500
 ·simp[h1]
  refine cK (XO hK _ _ _) ?_;by_cases h2:inR c.str 1 999
  ·simp[h2]
   refine cK (XO hK _ _ _) ?_;by_cases h3:inR c.wrong 0 6
   ·by_cases h4:c.waters.length<=4
    ·have h4':¬ (4:Int)<c.waters.length:=by omega
     simp[h3,h4']
     (repeat' first | omega | (with_reducible apply And.intro) | intro _)
     have e1:1+c.waters.length<=c.waters.length+1:=by omega
     have e2:W8 (List.take (1+c.waters.length) ([AV.iv (.int .i64 c.wlo),AV.iv (.int .i64 c.whi)]::c.waters.map (List.map AV.iv∘spC)))=some ([.int .i64 c.wlo,.int .i64 c.whi]::c.waters.map spC):=by
      rw[QxH (by simp;omega)]
      have:=Ud ([IV.int .i64 c.wlo,.int .i64 c.whi]::c.waters.map spC);simpa using this
     simp only[e1,e2,if_true,QyG];refine Qk (by simpa using Qml hK ((c.wlo,c.whi)::c.waters) 141 Zz (Qmm hK) (by kernel_rfl) (by simp;omega)) (.inr rfl) ?_
     by_cases h5:Zz (c.wlo,c.whi)=false
     ·by_cases h6:c.waters.any Zz=false
      ·simp only[h5,h6,Bool.or_self]
       simp;by_cases h7:c.voys.length<=8
       ·have h7':¬ (8:Int)<c.voys.length:=by omega
        simp[h7']
        (repeat' first | omega | (with_reducible apply And.intro) | intro _)
        refine cK (by simpa using Qmh hK c.voys 144 [] [.ptr (Y9 c)] (VT c.waters.length) (fun x=>by simpa using Qmk hK c (by omega) x) (by kernel_rfl) (by omega)) ?_
        by_cases h8:c.voys.any (VT c.waters.length)=false
        ·by_cases h9:c.gauges.length<=6
         ·have h9':¬ (6:Int)<c.gauges.length:=by omega
          simp only[h8];simp[h9']
          (repeat' first | omega | (with_reducible apply And.intro) | intro _)
          refine cK (by simpa using Qmg hK c.gauges 146 [] [.ptr (Y9 c)] (JZ c.voys.length) (fun x=>by simpa using Qmi hK c (by omega) x) (by kernel_rfl) (by omega)) ?_
          by_cases h10:c.gauges.any (JZ c.voys.length)=false
          ·have:Qx c:=⟨h1,h2,h3,h4,h5,by simpa using h6,h7,by simpa using h8,h9,by simpa using h10⟩
           simp[h10,this]
          ·have:=no _ Qx.gauges (by simpa using h10)
           have h10':c.gauges.any (JZ c.voys.length)=true:=by simpa using h10
           simp only[h10',this];simp
         ·have h9':(6:Int)<c.gauges.length:=by omega
          have:=no _ Qx.ng h9;simp only[h8];simp[h9',this]
          try (intros;omega)
        ·have:=no _ Qx.voys (by simpa using h8)
         have h8':c.voys.any (VT c.waters.length)=true:=by simpa using h8
         simp only[h8',this];simp
       ·have h7':(8:Int)<c.voys.length:=by omega
        have:=no _ Qx.nv h7;simp[h7',this]
        try (intros;omega)
      ·have:=no _ Qx.waters (by simpa using h6)
       have h6':c.waters.any Zz=true:=by simpa using h6
       simp only[h5,h6',this];simp
     ·have:=no _ Qx.wear h5
      have h5':Zz (c.wlo,c.whi)=true:=by simpa using h5
      simp only[h5',this];simp
    ·have h4':(4:Int)<c.waters.length:=by omega
     have:=no _ Qx.nw h4;simp[h3,h4',this]
     try (intros;omega)
   ·have:=no _ Qx.wrong h3
    simp[h3,this]
  ·have:=no _ Qx.str h2
   simp[h2,this]
 ·have:=no _ Qx.thick h1
  simp[h1,this]
omit hK
@[simp] def weR (s:List Int) (wear:Int):List IV:=[.int .i64 (s.getD 0 0),.int .i64 (s.getD 1 0),.int .i64 (s.getD 2 0),.int .i64 (s.getD 3 0),.int .i64 wear]
@[simp] def weC (w:Qd):List IV:=weR w.shorts w.leak
def JK (c:Sea) (w:Qd):List IV:=[.agg (weC w),.int .i64 (Ys c c.gauges w:Nat)]
include hK
theorem Qcr (c:Sea) (w:Qd) (k:Nat) (hc:Qx c) (hw:okW c w) (hk:k<=c.voys.length):Ev.Good Tryz.prog K 167 [.ptr (Y9 c),.agg (weC w),.int .i64 k] (.int .i64 (Zk c w k)):=by
 refine Qb hK QnA (by simp) ?_
 have hv8:=hc.nv;have hth:=hc.thick;simp only[inR] at hth;have hm:min k c.voys.length=k:=by omega
 have e0:AV.iv (IV.int IntKind.i64 c.thick)=AV.iv (.int .i64 (QfL c w (c.voys.take 0))):=by simp[QfL]
 simp[hm]
 (repeat' first | omega | (with_reducible apply And.intro) | intro _)
 rw[e0,<- QyT];refine QI (fun i=>[(4,AV.iv (.ptr (weC w))),(7,AV.iv (.int .i64 (QfL c w (c.voys.take i)))),(21,AV.iv (ZR (c.voys.take k))),(22,AV.iv (.int .i64 k)),(23,AV.iv (.int .i64 (i:Nat)))]) (fun _=>[]) k (fun _=>True) trivial ?_ ?_
 ·intro _
  rw[Qa Qc2.eq_1];simp[Zk];split<;>omega
 ·intro i hi _ ih
  have hi':i<c.voys.length:=by omega
  have hv:=hc.voy (Qxx hi');have hl:=QdL hc hw (Qxx hi');have hr:=Qb2 hc hw i;have h4:=hc.nw;rw[QaU c w i hi'] at ih;rw[Qa Qc2.eq_1];generalize QfL c w (c.voys.take i)=R at *;have hcase:c.voys[i].1=0\/c.voys[i].1=1\/c.voys[i].1=2\/c.voys[i].1=3:=by omega
  unfold QeE at hl ih;rcases hcase with h | h | h | h
  all_goals
   simp[h] at hl ih;simp[hi,hi',h]
   (repeat' first | omega | (with_reducible apply And.intro) | intro _)
   try grind
theorem Ql8 (c:Sea) (t:Int) (hc:Qx c) (ht:0<=t/\t<=500):Ev.Good Tryz.prog K 166 [.ptr (Y9 c),.int .i64 t] (.int .i64 (Xt c t)):=by
 refine Qb hK QnB (by simp) ?_
 have h:=Qpv hc.str ht;have h2:=U7 hc ht;unfold Xt at h2 |-;simp;omega
theorem QlR (c:Sea) (w:Qd) (g:Int × Int × Int) (hc:Qx c) (hw:okW c w) (hg:g∈c.gauges):Ev.Good Tryz.prog K 238 [.ptr (Y9 c),.agg (weC w),.agg (gaC g)] (.bool (QaQ c w g)):=by
 refine Qb hK Qm5 (by simp) ?_
 have h:=hc.gau hg;have hv:=hc.nv;have hb:=Yu hc hw g.1.toNat;have e:g.1=((g.1.toNat:Nat):Int):=by omega
 have hg7:=Qcr hK c w g.1.toNat hc hw (by omega)
 rw[<- e] at hg7;simp;refine cK (by simpa using hg7) ?_
 simp
 (repeat' first | omega | (with_reducible apply And.intro) | intro _)
 refine cK (XO hK _ _ _) ?_;simp[QaQ]
theorem Qch (m:Machine) (hm:OkM m) (first:List Int) (leak0:Int) (hlen:first.length=m.levers.length) (hr:∀ i (h:i<m.levers.length) (h':i<first.length),inR first[i] m.levers[i].lo m.levers[i].hi) :
  Qh2 Tryz.prog K 95 [.ptr (wkC m),.agg (stC first leak0 (QL id first)),.int .i64 first.length] [] ((QK m first []).map (Vj m)) (fun b=>.bool b):=by
 intro s b s' hf;refine Q0 QkS (by simp) hf.v rfl ?_
 rw[Ut,Um] at hf;have hlk:=hm.leak;have hlh:=hm.lhi;simp only[inR] at hlk;simp[hlen]
 (repeat' first | omega | (with_reducible apply And.intro) | intro _)
 have e0:AV.iv (IV.int .i64 m.llo)=AV.iv (.int .i64 (m.llo+((0:Nat):Int))):=by simp
 refine JG (m.lhi+1-m.llo).toNat (fun i e o=>∃ si,e=[(0,AV.iv (.ptr (wkC m))),(3,AV.cb 0),(5,AV.loc 5 0)]/\o=[(0,.ext si),(5,.box [.iv (.int .i64 (first.getD 0 0)),.iv (.int .i64 (first.getD 1 0)),.iv (.int .i64 (first.getD 2 0)),.iv (.int .i64 (m.llo+(i:Nat))),.iv (.int .i64 (QL id first))])] /\
  Zp Tryz.prog K ((ZA (QaX m first) i ((m.lhi+1-m.llo).toNat-i)).map (Vj m)) si b s') ?_ ?_ _ _ ⟨s,rfl,by simp,by simpa using hf⟩
 ·rintro e o ⟨si,rfl,rfl,hfd⟩
  have q1:m.llo+((m.lhi+1-m.llo).toNat:Int)=m.lhi+1:=by omega
  have q2:¬ m.lhi+1<=m.lhi:=by omega
  rw[Nat.sub_self] at hfd;cases hfd;rw[q1,Qa Qhs.eq_1];simp[q2]
 ·rintro i e o hi ⟨si,rfl,rfl,hfd⟩ ih
  have q1:m.llo+(i:Int)<=m.lhi:=by omega
  have q3:m.llo+((i:Int)+1)=m.llo+i+1:=by omega
  have hos:okS m ⟨first,m.llo+i⟩:=⟨hlen,by simp only[inR];omega,hr⟩
  have e1:(m.lhi+1-m.llo).toNat-i=((m.lhi+1-m.llo).toNat-(i+1))+1:=by omega
  rw[e1] at hfd;simp only[ZA,QaX,QxV,QxN,List.map_nil,List.singleton_append] at hfd;have hbl:=hm.blen;rw[Qa Qhs.eq_1];simp[q1]
  (repeat' first | omega | (with_reducible apply And.intro) | intro _)
  refine QI (fun k=>[(0,AV.iv (.ptr (wkC m))),(3,AV.cb 0),(5,AV.loc 5 0),(11,AV.iv (IV.int IntKind.i64 (ZT m (m.bals.take k) ⟨first,m.llo+i⟩:Nat))),(87,AV.iv (Y8 m.bals)),(88,AV.iv (.int .i64 m.bals.length)),(89,AV.iv (IV.int IntKind.i64 (k:Nat)))])
   (fun k=>[(0,.ext si),(5,.box [.iv (.int .i64 (first.getD 0 0)),.iv (.int .i64 (first.getD 1 0)),.iv (.int .i64 (first.getD 2 0)),.iv (.int .i64 (m.llo+(i:Nat))),.iv (.int .i64 (QL id first))])]) m.bals.length (fun i=>True) trivial ?_ ?_
  ·intro _
   rw[Qa Qht.eq_1];simp;have hit:Vj m ⟨first,m.llo+i⟩=[.agg (stC first (m.llo+i) (QL id first)),.int .i64 (ZT m m.bals ⟨first,m.llo+i⟩)]:=rfl
   rw[hit] at hfd;cases hfd with
   | stop _ _ _ _ hg =>
     refine Zw (by simpa using hg) rfl ?_
     simp
   | next _ _ _ s1 _ _ hg hr2 =>
     refine Zw (by simpa using hg) rfl ?_
     simp
     (repeat' first | omega | (with_reducible apply And.intro) | intro _)
     exact ih _ _ ⟨s1,rfl,by simp[q3],hr2⟩
  ·intro k hk _ ih2
   have hle:=WN m (m.bals.take k) ⟨first,m.llo+i⟩
   simp at hle;rw[Qa Qht.eq_1];rw[Vy _ _ _ _ hk] at ih2;simp[hk] at ih2 |-;have hg:=Qmo hK m ⟨first,m.llo+i⟩ m.bals[k] hm hos (Qxx hk)
   refine cK (by simpa[den] using hg) ?_
   cases hrr:VJ m ⟨first,m.llo+i⟩ m.bals[k]
   ·simp[hrr] at ih2 |-
    grind
   ·simp[hrr] at ih2 |-
    grind
theorem QkE (m:Machine) (hm:OkM m):∀ (n:Nat) (first:List Int),first.length+n=m.levers.length->(∀ i (h:i<m.levers.length) (h':i<first.length),inR first[i] m.levers[i].lo m.levers[i].hi) ->
  Qh2 Tryz.prog K 95 [.ptr (wkC m),.agg (stC first 0 (QL id first)),.int .i64 first.length] [] ((QK m first (m.levers.drop first.length)).map (Vj m)) (fun b=>.bool b)
 | 0,first,hn,hr=>by
   have e1:m.levers.drop first.length=[]:=List.drop_eq_nil_of_le (by omega)
   rw[e1];exact Qch hK m hm first 0 (by omega) hr
 | n+1,first,hn,hr=>by
   have ihn:=QkE m hm n;have hlt:first.length<m.levers.length:=by omega
   have hl3:=hm.len;have e1:m.levers.drop first.length=m.levers[first.length]::m.levers.drop (first.length+1):=QyR hlt
   have hlv:=hm.lever (Qxx hlt);rw[e1,VF]
   have hpb:∀ x:Int,inR x m.levers[first.length].lo m.levers[first.length].hi->1<=QL id (first++[x])/\QL id (first++[x])<=1000000000:=fun x hx=>by
    refine UL _ _ (fun a ha=>?_) (by simp;omega)
    simp only[inR] at hx;rcases QxI.1 ha with ha | ha
    ·obtain ⟨k,hk,rfl⟩:=Qyb ha
     have h1:=hr k (by omega) hk
     have h2:=hm.lever (Qxx (show k<m.levers.length by omega))
     simp only[inR,id] at *;omega
    grind
   have ih2:∀ i:Nat,m.levers[first.length].lo+(i:Int)<=m.levers[first.length].hi->Qh2 Tryz.prog K 95 [.ptr (wkC m),.agg (stC (first++[m.levers[first.length].lo+(i:Int)]) 0 (QL id (first++[m.levers[first.length].lo+(i:Int)]))),.int .i64 (first.length+1:Nat)] []
     (((fun i:Nat=>QK m (first++[m.levers[first.length].lo+(i:Nat)]) (m.levers.drop (first.length+1))) i).map (Vj m)) (fun b=>.bool b):=fun i hi=>by
    have:=ihn (first++[m.levers[first.length].lo+(i:Int)]) (by simp;omega) (fun k h h'=>by
     rcases Qyv k first.length with hk | hk
     ·grind
     ·have:k=first.length:=by simp at h';omega
      subst this;simp only[List.getElem_append_right (Qxw _),Nat.sub_self,List.getElem_cons_zero,inR];omega)
    grind
   generalize (fun i:Nat=>QK m (first++[m.levers[first.length].lo+(i:Nat)]) (m.levers.drop (first.length+1)))=pc at *
   intro s b s' hf;refine Q0 QkS (by simp) hf.v rfl ?_
   rw[Um] at hf;have hlt':(first.length:Int)<m.levers.length:=by omega
   simp[hlt]
   (repeat' first | omega | (with_reducible apply And.intro) | intro _)
   refine JG (m.levers[first.length].hi+1-m.levers[first.length].lo).toNat (fun i e o=>∃ si,e=[(0,AV.iv (.ptr (wkC m))),(2,AV.iv (IV.int IntKind.i64 (first.length:Nat))),(3,AV.cb 0),(5,AV.loc 5 0),(9,AV.iv (.int .i64 (m.levers[first.length].lo+(i:Nat))))] /\
    o=[(0,.ext si),(5,.box [.iv (.int .i64 (first.getD 0 0)),.iv (.int .i64 (first.getD 1 0)),.iv (.int .i64 (first.getD 2 0)),.iv (.int .i64 0),.iv (.int .i64 (QL id first))])] /\
    Zp Tryz.prog K ((ZA pc i ((m.levers[first.length].hi+1-m.levers[first.length].lo).toNat-i)).map (Vj m)) si b s') ?_ ?_ _ _ ⟨s,by simp,by simp,by simpa using hf⟩
   ·rintro e o ⟨si,rfl,rfl,hfd⟩
    have q1:m.levers[first.length].lo+((m.levers[first.length].hi+1-m.levers[first.length].lo).toNat:Int)=m.levers[first.length].hi+1:=by omega
    have q2:¬ m.levers[first.length].hi+1<=m.levers[first.length].hi:=by omega
    rw[Nat.sub_self] at hfd;cases hfd;rw[q1,Qa Qhu.eq_1];simp[hlt,q2]
   ·rintro i e o hi ⟨si,rfl,rfl,hfd⟩ ih
    have q1:m.levers[first.length].lo+(i:Int)<=m.levers[first.length].hi:=by omega
    have q3:m.levers[first.length].lo+((i:Int)+1)=m.levers[first.length].lo+i+1:=by omega
    have e1:(m.levers[first.length].hi+1-m.levers[first.length].lo).toNat-i=((m.levers[first.length].hi+1-m.levers[first.length].lo).toNat-(i+1))+1:=by omega
    rw[e1] at hfd;simp only[ZA,QxV] at hfd;have hg:=ih2 i q1;have hb:=hpb (m.levers[first.length].lo+(i:Int)) (by simp only[inR];omega)
    have hpr:QL id (first++[m.levers[first.length].lo+(i:Int)])=QL id first*(m.levers[first.length].lo+(i:Int)):=UM _ _ _
    rw[hpr] at hg hb;rw[Qa Qhu.eq_1]
    have hcase:(∃ s1 b1,Zp Tryz.prog K ((pc i).map (Vj m)) si b1 s1/\(b1=true->Zp Tryz.prog K ((ZA pc (i+1) ((m.levers[first.length].hi+1-m.levers[first.length].lo).toNat-(i+1))).map (Vj m)) s1 b s')/\(b1=false->b=false/\s1=s')):=by
     rcases Zp.append hfd with ⟨s1,h1,h2⟩ | ⟨h1,h2⟩
     all_goals grind
    obtain ⟨s1,b1,f1,f2,f3⟩:=hcase;have hgx:=hg _ _ _ f1
    have hfl:first=[]\/(∃ a,first=[a])\/∃ a c,first=[a,c]:=by
     match first,hlt,hl3 with
     | [],_,_=>exact .inl rfl
     | [a],_,_=>grind
     | [a,c],_,_=>grind
     | _::_::_::_,h,h'=>simp at h;omega
    rcases hfl with rfl | ⟨a,rfl⟩ | ⟨a,c,rfl⟩
    all_goals
     try simp only[QxL,QxA,QxE,Nat.reduceAdd] at hlt
     try simp only[QxL,QxA,QxE,Nat.reduceAdd] at q1
     try simp only[QxL,QxA,QxE,Nat.reduceAdd] at q3
     try simp only[QxL,QxA,QxE,Nat.reduceAdd] at hb
     try simp only[QxL,QxA,QxE,Nat.reduceAdd] at hgx
     try simp only[QxL,QxA,QxE,Nat.reduceAdd] at ih
     try simp only[QxL,QxA,QxE,Nat.reduceAdd] at f2
     try simp only[QxL,QxA,QxE,Nat.reduceAdd] at hlt'
     try simp only[QxL,QxA,QxE,Nat.reduceAdd] at hlv
     try simp only[QxL,QxA,QxE,Nat.reduceAdd]
     simp[q1,hlt]
     (repeat' first | omega | (with_reducible apply And.intro) | intro _)
     refine Y3 (by simpa using hgx) rfl ?_
     cases b1
     ·obtain ⟨rfl,rfl⟩:=f3 rfl
      simp
     ·simp
      (repeat' first | omega | (with_reducible apply And.intro) | intro _)
      exact ih _ _ ⟨s1,by simp[q3],by simp,f2 rfl⟩
omit hK
section
variable {K:World->Prop}
def stI (s:Qd):List IV:=[.agg (stC s.shorts s.leak (den s))]
theorem qI {m:Machine} {ks:Env} (hks:QW [2,3] [0,3] ks=[(2,.iv (.ptr [.ptr (wkC m)])),(3,.loc 3 0)]) :
  ∀ (Ls:List Qd) (s:Ext) (b:Bool) (s':Ext),Zp Tryz.prog K ((Ls.filter fun t=>decide ((ZT m m.bals t:Int)<=m.wrong)).map stI) s b s' ->
   ∃ wy,(wy=.fall\/wy=.ret)/\Vx Tryz.prog K [8,9] Wm QbC [2,3] [0,3] (QW [2,3] [0,3] ks) (Ls.map (Vj m)) [(0,.ext s),(3,.box [.cb 0])] wy [(0,.ext s'),(3,.box [.cb 0])]
 | [],s,b,s',h=>by
   cases h;exact ⟨.fall,.inl rfl,.nil _⟩
 | t::Ls,s,b,s',h=>by
   by_cases ht:(ZT m m.bals t:Int)<=m.wrong
   ·rw[QyK (by simpa using ht)] at h
    cases h with
    | stop _ _ _ _ hg =>
      refine ⟨.ret,.inr rfl,.stop _ _ _ _ _ (by simp) ?_⟩
      rw[hks];refine ⟨rfl,?_⟩;simp[Vj,Wm,QbC,ht];refine Zw (by simpa[stI] using hg) rfl ?_
      simp
    | next _ _ _ s1 _ _ hg hr =>
      obtain ⟨wy,h1,h2⟩:=qI hks Ls s1 b s' hr;refine ⟨wy,h1,.next _ _ _ _ _ _ ?_ h2⟩;rw[hks];refine ⟨rfl,?_⟩;simp[Vj,Wm,QbC,ht];refine Zw (by simpa[stI] using hg) rfl ?_
      simp
   ·rw[QyL (by simpa using ht)] at h
    obtain ⟨wy,h1,h2⟩:=qI hks Ls s b s' h;refine ⟨wy,h1,.next _ _ _ _ _ _ ?_ h2⟩;rw[hks];refine ⟨rfl,?_⟩;simp[Vj,Wm,QbC,ht]
theorem Yw (m:Machine):QV m [] m.levers=(QK m [] m.levers).filter fun t=>decide ((ZT m m.bals t:Int)<=m.wrong):=by
 unfold QV;refine List.filter_congr fun s hs=>?_
 have:=J8 hs;simp[U2,this]
end
include hK
theorem QpT (m:Machine) (hm:OkM m):Qar Tryz.prog K 67 [.ptr (wkC m)] [] ((QK m [] m.levers).map (Vj m)):=by
 intro s b s' hf;have h:=QkE hK m hm m.levers.length [] (by simp) (fun i h h'=>by simp at h')
 simp only[QxL,List.drop_zero] at h;have hgx:=h _ _ _ hf;refine Q0 Qq5 (by simp) hf.v rfl ?_
 simp;refine Y3 (by simpa[QL] using hgx) rfl ?_
 simp
theorem QdN (m:Machine) (hm:OkM m):Qar Tryz.prog K 36 [.ptr (wkC m)] [] ((QV m [] m.levers).map stI):=by
 intro s b s' hfd;refine Q0 Qrn (by simp) hfd.v rfl ?_
 rw[Yw] at hfd;obtain ⟨wy,h1,h2⟩:=qI (m:=m) (ks:=[(2,.iv (.ptr [.ptr (wkC m)])),(3,.loc 3 0)]) rfl (QK m [] m.levers) s b s' hfd;simp;refine QZ (wy:=wy) (o':=[(0,.ext s'),(3,.box [.cb 0])]) rfl (by kernel_rfl) (QpT hK m hm) (by simpa using h2) ?_
 rcases h1 with rfl | rfl<;>simp
theorem QkN (m:Machine) (is:Bool) (hl:m.levers.length<=1000) (hb:m.bals.length<=1000):Ev.Good Tryz.prog K 34 [maV m,.bool is] (.tup [if tE m is=0 then .ptr (wkC m) else .nilp,.int .i64 (tE m is)]):=by
 refine Qb hK Qrp (by simp) ?_
 simp;refine cK (Qqc hK m hl hb) ?_;by_cases h1:OkM m
 ·cases is
  ·simp[h1,tE]
  ·simp[h1]
   refine cK (Qqb hK m h1) ?_;simp;cases hL:QV m [] m.levers with
   | nil =>
     refine QZ (wy:=.fall) (o':=[(4,.box [.iv .nilp]),(5,.box [.iv (.int .i64 0)]),(7,.box [.iv (.ptr (wkC m))])]) rfl (by kernel_rfl) (QdN hK m h1) (by rw[hL];simpa using Vx.nil _) ?_
     simp[tE,h1,hL]
   | cons a r =>
     refine QZ (wy:=.ret) (o':=[(4,.box [.iv (.ptr (wkC m))]),(5,.box [.iv (.int .i64 0)]),(7,.box [.iv (.ptr (wkC m))])]) rfl (by kernel_rfl) (QdN hK m h1) (by
      rw[hL];refine .stop _ _ _ _ _ (by simp) ?_
      refine ⟨rfl,?_⟩;simp[stI,QhD,QkT]) ?_
     simp[tE,h1,hL]
 ·simp[h1,tE]
theorem Qqo (m:Machine) (hl:m.levers.length<=1000) (hb:m.bals.length<=1000) (hs:OkM m->sets m m.levers.length<=1000000):Ev.Good Tryz.prog K 29 [maV m] (.tup [.int .i64 (tL m true).length,.int .i64 (tE m true)]):=by
 refine Qb hK Qrt (by simp) ?_
 simp;refine cK (QkN hK m true hl hb) ?_;by_cases he:tE m true=0
 ·obtain ⟨hm,_,htl,hne⟩:=Qk8 he
  have hln:=Qdr hm;have hln2:=hs hm;simp[he,htl];refine QZ (wy:=.fall) (o':=[(2,.box [.iv (.int .i64 ((QV m [] m.levers).length:Nat))])]) rfl (by kernel_rfl) (QdN hK m hm) ?_ ?_
  ·have:=Vx.all (P:=Tryz.prog) (K:=K) (ps:=[15]) (asn:=QcL) (body:=QhE) (ks:=[2]) (ids:=[2]) (eK:=[(2,.loc 2 0)]) ((QV m [] m.levers).map stI) (fun i=>[(2,.box [.iv (.int .i64 (i:Int))])]) fun i x hi=>by
    simp only[Qxz,Qxu] at hi;obtain ⟨y,hy,rfl⟩:=hi;have hlt:=(Qxr.1 hy).1;refine ⟨rfl,?_⟩;simp[stI,QcL,QhE];omega
   simpa using this
  ·simp
 ·have:tL m true=[]:=by
   unfold tE at he;unfold tL
   grind
  simp[he,this]
theorem Qug (c:Sea) (w:Qd) (hc:Qx c) (hw:okW c w) {s s':Ext} {b:Bool} (hg:Xx Tryz.prog K s (JK c w) (.bool b) s') :
  V5 Tryz.prog K 237 [.agg (weC w),.ptr [.ptr (Y9 c)],.ptr [.lit s.v]] s (.bool b) s':=by
 refine Yg Qm6 (by simp) hg.1 rfl ?_
 have h6:=hc.ng;simp
 (repeat' first | omega | (with_reducible apply And.intro) | intro _)
 refine QI (fun i=>[(1,AV.iv (.ptr [.ptr (Y9 c)])),(2,AV.iv (.ptr [.lit s.v])),(3,AV.iv (.ptr (weC w))),(5,AV.iv (IV.int IntKind.i64 (Ys c (c.gauges.take i) w:Nat))),(12,AV.iv (Vn c.gauges)),(13,AV.iv (.int .i64 c.gauges.length)),(14,AV.iv (IV.int IntKind.i64 (i:Nat)))])
  (fun _=>[(0,.ext s)]) c.gauges.length (fun _=>True) trivial ?_ ?_
 ·intro _
  rw[Qa QcM.eq_1];rw[QxM];simp;refine Qhp (by simpa[JK] using hg) rfl ?_
  simp
 ·intro i hi _ ih
  have hle:=Qej c (c.gauges.take i) w;simp at hle;rw[Qa QcM.eq_1];rw[Qau c c.gauges w i hi] at ih;simp[hi] at ih |-;have hg8:=QlR hK c w c.gauges[i] hc hw (Qxx hi);refine cK (by simpa using hg8) ?_
  cases hr:QaQ c w c.gauges[i]
  ·simp[hr] at ih |-
   grind
  ·simp[hr] at ih |-
   grind
omit hK
@[simp] def QpP (c:Sea) (v:Value):IV:=.clo 237 [] [.ptr [.ptr (Y9 c)],.ptr [.lit v]]
include hK
theorem Qfc (c:Sea) (hc:Qx c) (first:List Int) (leak0:Int) (hlen:first.length=c.waters.length) (hr:∀ i (h:i<(Yz c).levers.length) (h':i<first.length),inR first[i] (Yz c).levers[i].lo (Yz c).levers[i].hi)
  (s s':Ext) (b:Bool) (hf:Zp Tryz.prog K ((QK (Yz c) first []).map (JK c)) s b s') :
  V5 Tryz.prog K 236 [.ptr (Y9 c),.agg (weR first leak0),.int .i64 first.length,QpP c s.v] s (.bool b) s':=by
 refine Yg QhG (by simp) hf.v rfl ?_
 rw[Ut,Um] at hf;have hwr:=Z6 hc.wear;simp only at hwr;have e0:AV.iv (IV.int IntKind.i64 c.wlo)=AV.iv (.int .i64 (c.wlo+((0:Nat):Int))):=by simp
 simp[hlen]
 (repeat' first | omega | (with_reducible apply And.intro) | intro _)
 rw[e0]
 refine JG (c.whi+1-c.wlo).toNat (fun i e o=>∃ si,si.v=s.v/\e=[(0,AV.iv (.ptr (Y9 c))),(3,AV.iv (QpP c s.v)),(5,AV.loc 5 0)]/\o=[(0,.ext si),(5,.box [.iv (.int .i64 (first.getD 0 0)),.iv (.int .i64 (first.getD 1 0)),.iv (.int .i64 (first.getD 2 0)),.iv (.int .i64 (first.getD 3 0)),.iv (.int .i64 (c.wlo+(i:Nat)))])] /\
  Zp Tryz.prog K ((ZA (QaX (Yz c) first) i ((c.whi+1-c.wlo).toNat-i)).map (JK c)) si b s') ?_ ?_ _ _ ⟨s,rfl,by simp,by simp,by simpa using hf⟩
 ·rintro e o ⟨si,hv,rfl,rfl,hfd⟩
  have q1:c.wlo+((c.whi+1-c.wlo).toNat:Int)=c.whi+1:=by omega
  have q2:¬ c.whi+1<=c.whi:=by omega
  rw[Nat.sub_self] at hfd;cases hfd;rw[q1,Qa QcO.eq_1];simp[q2]
 ·rintro i e o hi ⟨si,hv,rfl,rfl,hfd⟩ ih
  have q1:c.wlo+(i:Int)<=c.whi:=by omega
  have q3:c.wlo+((i:Int)+1)=c.wlo+i+1:=by omega
  have hos:okW c ⟨first,c.wlo+i⟩:=⟨by simpa using hlen,by simp only[inR,Yz];omega,hr⟩
  have e1:(c.whi+1-c.wlo).toNat-i=((c.whi+1-c.wlo).toNat-(i+1))+1:=by omega
  rw[e1] at hfd;simp only[ZA,QaX,QxV,QxN,List.map_nil,List.singleton_append] at hfd;rw[Qa QcO.eq_1];simp[q1];cases hfd with
  | stop _ _ _ _ hg =>
    have hz:=Qug hK c ⟨first,c.wlo+i⟩ hc hos hg
    rw[hv] at hz;refine QbA (by kernel_rfl) (by simpa using hz) rfl ?_
    simp
  | next _ _ _ s1 _ _ hg hr2 =>
    have hz:=Qug hK c ⟨first,c.wlo+i⟩ hc hos hg
    rw[hv] at hz;refine QbA (by kernel_rfl) (by simpa using hz) rfl ?_
    simp
    (repeat' first | omega | (with_reducible apply And.intro) | intro _)
    exact ih _ _ ⟨s1,hg.1.trans hv,rfl,by simp[q3],hr2⟩
theorem Quh (c:Sea) (hc:Qx c):∀ (n:Nat) (first:List Int),first.length+n=c.waters.length->(∀ i (h:i<(Yz c).levers.length) (h':i<first.length),inR first[i] (Yz c).levers[i].lo (Yz c).levers[i].hi) ->
  ∀ (s s':Ext) (b:Bool),Zp Tryz.prog K ((QK (Yz c) first ((Yz c).levers.drop first.length)).map (JK c)) s b s' ->
  V5 Tryz.prog K 236 [.ptr (Y9 c),.agg (weR first 0),.int .i64 first.length,QpP c s.v] s (.bool b) s'
 | 0,first,hn,hr=>by
   intro s s' b hf;have e1:(Yz c).levers.drop first.length=[]:=List.drop_eq_nil_of_le (by simp;omega)
   rw[e1] at hf;exact Qfc hK c hc first 0 (by omega) hr s s' b hf
 | n+1,first,hn,hr=>by
   have ihn:=Quh c hc n;have hlt:first.length<c.waters.length:=by omega
   have hlm:first.length<(Yz c).levers.length:=by simpa using hlt
   have hl4:=hc.nw;have hlv:=Z6 (hc.waters _ (Qxx hlt));have hml:(Yz c).levers[first.length]=⟨0,c.waters[first.length].1,c.waters[first.length].2⟩:=by simp
   have e1:(Yz c).levers.drop first.length=(Yz c).levers[first.length]::(Yz c).levers.drop (first.length+1):=QyR hlm
   intro s s' b hf;rw[e1,VF,hml] at hf;simp only at hf
   have ih2:∀ i:Nat,c.waters[first.length].1+(i:Int)<=c.waters[first.length].2->∀ (s s':Ext) (b:Bool),Zp Tryz.prog K (((fun i:Nat=>QK (Yz c) (first++[c.waters[first.length].1+(i:Nat)]) ((Yz c).levers.drop (first.length+1))) i).map (JK c)) s b s' ->
     V5 Tryz.prog K 236 [.ptr (Y9 c),.agg (weR (first++[c.waters[first.length].1+(i:Int)]) 0),.int .i64 (first.length+1:Nat),QpP c s.v] s (.bool b) s':=fun i hi s s' b hf=>by
    have:=ihn (first++[c.waters[first.length].1+(i:Int)]) (by simp;omega) (fun k h h'=>by
     rcases Qyv k first.length with hk | hk
     ·have:=hr k h hk
      grind
     ·have:k=first.length:=by simp at h';omega
      subst this;rw[hml];simp only[List.getElem_append_right (Qxw _),Nat.sub_self,List.getElem_cons_zero,inR];omega) s s' b (by simpa using hf)
    simpa using this
   generalize (fun i:Nat=>QK (Yz c) (first++[c.waters[first.length].1+(i:Nat)]) ((Yz c).levers.drop (first.length+1)))=pc at *
   refine Yg QhG (by simp) hf.v rfl ?_
   rw[Um] at hf;have hlt':(first.length:Int)<c.waters.length:=by omega
   have hne:¬ (first.length:Int)=c.waters.length:=by omega
   have hne':¬ first.length=c.waters.length:=by omega
   have e0:AV.iv (IV.int IntKind.i64 c.waters[first.length].1)=AV.iv (.int .i64 (c.waters[first.length].1+((0:Nat):Int))):=by simp
   have e0b:AO.box [AV.iv (.int .i64 (first.getD 0 0)),.iv (.int .i64 (first.getD 1 0)),.iv (.int .i64 (first.getD 2 0)),.iv (.int .i64 (first.getD 3 0)),.iv (.int .i64 0)]=AO.box ((weR first 0).map .iv):=by simp
   simp[hlt,hne,hne']
   (repeat' first | omega | (with_reducible apply And.intro) | intro _)
   rw[e0]
   refine JG (c.waters[first.length].2+1-c.waters[first.length].1).toNat (fun i e o=>∃ si y,si.v=s.v/\e=[(0,AV.iv (.ptr (Y9 c))),(2,AV.iv (IV.int IntKind.i64 (first.length:Nat))),(3,AV.iv (QpP c s.v)),(5,AV.loc 5 0),(9,AV.iv (.int .i64 (c.waters[first.length].1+(i:Nat))))] /\
    o=[(0,.ext si),(5,.box ((weR (first++[y]) 0).map .iv))] /\
    Zp Tryz.prog K ((ZA pc i ((c.waters[first.length].2+1-c.waters[first.length].1).toNat-i)).map (JK c)) si b s') ?_ ?_ _ _ ⟨s,0,rfl,by simp,?_,by simpa using hf⟩
   ·rintro e o ⟨si,y,hv,rfl,rfl,hfd⟩
    have q1:c.waters[first.length].1+((c.waters[first.length].2+1-c.waters[first.length].1).toNat:Int)=c.waters[first.length].2+1:=by omega
    have q2:¬ c.waters[first.length].2+1<=c.waters[first.length].2:=by omega
    rw[Nat.sub_self] at hfd;cases hfd;rw[q1,Qa QcN.eq_1];simp[hlt,q2]
   ·rintro i e o hi ⟨si,y,hv,rfl,rfl,hfd⟩ ih
    have q1:c.waters[first.length].1+(i:Int)<=c.waters[first.length].2:=by omega
    have q3:c.waters[first.length].1+((i:Int)+1)=c.waters[first.length].1+i+1:=by omega
    have e1:(c.waters[first.length].2+1-c.waters[first.length].1).toNat-i=((c.waters[first.length].2+1-c.waters[first.length].1).toNat-(i+1))+1:=by omega
    rw[e1] at hfd;simp only[ZA,QxV] at hfd;rw[Qa QcN.eq_1]
    have hcase:(∃ s1 b1,Zp Tryz.prog K ((pc i).map (JK c)) si b1 s1/\(b1=true->Zp Tryz.prog K ((ZA pc (i+1) ((c.waters[first.length].2+1-c.waters[first.length].1).toNat-(i+1))).map (JK c)) s1 b s')/\(b1=false->b=false/\s1=s')):=by
     rcases Zp.append hfd with ⟨s1,h1,h2⟩ | ⟨h1,h2⟩
     all_goals grind
    obtain ⟨s1,b1,f1,f2,f3⟩:=hcase;have hgz:=ih2 i q1 _ _ _ f1;have hv1:=f1.v.trans hv;rw[hv] at hgz
    have hfl:first=[]\/(∃ a,first=[a])\/(∃ a d,first=[a,d])\/∃ a d f,first=[a,d,f]:=by
     match first,hlt,hl4 with
     | [],_,_=>exact .inl rfl
     | [a],_,_=>exact .inr (.inl ⟨a,rfl⟩)
     | [a,d],_,_=>exact .inr (.inr (.inl ⟨a,d,rfl⟩))
     | [a,d,f],_,_=>exact .inr (.inr (.inr ⟨a,d,f,rfl⟩))
     | _::_::_::_::_,h,h'=>simp at h;omega
    rcases hfl with rfl | ⟨a,rfl⟩ | ⟨a,d,rfl⟩ | ⟨a,d,f,rfl⟩
    all_goals
     try simp only[QxL,QxA,QxE,Nat.reduceAdd] at hlt
     try simp only[QxL,QxA,QxE,Nat.reduceAdd] at q1
     try simp only[QxL,QxA,QxE,Nat.reduceAdd] at q3
     try simp only[QxL,QxA,QxE,Nat.reduceAdd] at hgz
     try simp only[QxL,QxA,QxE,Nat.reduceAdd] at ih
     try simp only[QxL,QxA,QxE,Nat.reduceAdd] at f2
     try simp only[QxL,QxA,QxE,Nat.reduceAdd] at hlt'
     try simp only[QxL,QxA,QxE,Nat.reduceAdd] at hlv
     try simp only[QxL,QxA,QxE,Nat.reduceAdd]
     simp[q1,hlt]
     (repeat' first | omega | (with_reducible apply And.intro) | intro _)
     refine Qhn (by simpa using hgz) rfl ?_
     cases b1
     ·obtain ⟨rfl,rfl⟩:=f3 rfl
      simp
     ·simp
      (repeat' first | omega | (with_reducible apply And.intro) | intro _)
      exact ih _ _ ⟨s1,_,hv1,by simp[q3],by simp;rfl,f2 rfl⟩
   ·have hfl:first=[]\/(∃ a,first=[a])\/(∃ a d,first=[a,d])\/∃ a d f,first=[a,d,f]:=by
     match first,hlt,hl4 with
     | [],_,_=>exact .inl rfl
     | [a],_,_=>exact .inr (.inl ⟨a,rfl⟩)
     | [a,d],_,_=>exact .inr (.inr (.inl ⟨a,d,rfl⟩))
     | [a,d,f],_,_=>exact .inr (.inr (.inr ⟨a,d,f,rfl⟩))
     | _::_::_::_::_,h,h'=>simp at h;omega
    rcases hfl with rfl | ⟨a,rfl⟩ | ⟨a,d,rfl⟩ | ⟨a,d,f,rfl⟩<;>simp
theorem QlD (c:Sea) (hc:Qx c):Qar Tryz.prog K 223 [.ptr (Y9 c)] [] ((Qk3 c).map (JK c)):=by
 intro s b s' hf;refine QeM ?_;have h:=Quh hK c hc c.waters.length [] (by simp) (fun i h h'=>by simp at h') s s' b (by simpa[Qk3] using hf)
 refine Yg Qna (by simp) hf.v rfl ?_
 simp;refine Qhn (by simpa using h) rfl ?_
 simp
end Go.Pf
namespace Go.Proofs
open Go.Shelf
def Tryz.clone186_ren:Go.Shelf.Ren:=⟨fun | 41=>186 | n=>n,fun | 22=>61 | 23=>158 | 4=>4 | n=>n,fun | n=>n⟩
theorem Tryz.clone186:Go.Proofs.SlLaysE0.n41 Tryz.prog Tryz.clone186_ren:={
 mixed:=by kernel_rfl
 f41:=⟨Tryz.f186.name,by decide,Tryz.func186.trans (congrArg some (by kernel_rfl))⟩
 t4:=Tryz.underlying4
 a4:=Tryz.isAgg4
 z4:=Tryz.sizeOf4
 v4:=Tryz.zeroValue4
 t22:=Tryz.underlying61
 a22:=Tryz.isAgg61
 z22:=Tryz.sizeOf61
 v22:=Tryz.zeroValue61 }
def Tryz.rev243_ren:Go.Shelf.Ren:=⟨fun | 35=>243 | n=>n,fun | 22=>253 | 23=>3 | 3=>3 | 4=>4 | 0=>0 | n=>n,fun | n=>n⟩
theorem Tryz.rev243:Go.Proofs.SlLaysE.n35 Tryz.prog Tryz.rev243_ren:={
 mixed:=by kernel_rfl
 f35:=⟨Tryz.f243.name,by decide,Tryz.func243.trans (congrArg some (by kernel_rfl))⟩
 t0:=Tryz.underlying0
 a0:=Tryz.isAgg0
 z0:=Tryz.sizeOf0
 v0:=Tryz.zeroValue0
 t3:=Tryz.underlying3
 a3:=Tryz.isAgg3
 z3:=Tryz.sizeOf3
 v3:=Tryz.zeroValue3
 t4:=Tryz.underlying4
 a4:=Tryz.isAgg4
 z4:=Tryz.sizeOf4
 v4:=Tryz.zeroValue4
 t22:=Tryz.underlying253
 a22:=Tryz.isAgg253
 z22:=Tryz.sizeOf253
 v22:=Tryz.zeroValue253
 a23:=Tryz.isAgg3
 z23:=Tryz.sizeOf3 }
def Tryz.del242_ren:Go.Shelf.Ren:=⟨fun | 45=>242 | n=>n,fun | 22=>253 | 23=>3 | 3=>3 | 4=>4 | 0=>0 | n=>n,fun | n=>n⟩
theorem Tryz.del242:Go.Proofs.SlLaysE.n45 Tryz.prog Tryz.del242_ren:={
 mixed:=by kernel_rfl
 f45:=⟨Tryz.f242.name,by decide,Tryz.func242.trans (congrArg some (by kernel_rfl))⟩
 t0:=Tryz.underlying0
 a0:=Tryz.isAgg0
 z0:=Tryz.sizeOf0
 v0:=Tryz.zeroValue0
 t3:=Tryz.underlying3
 a3:=Tryz.isAgg3
 z3:=Tryz.sizeOf3
 v3:=Tryz.zeroValue3
 t4:=Tryz.underlying4
 a4:=Tryz.isAgg4
 z4:=Tryz.sizeOf4
 v4:=Tryz.zeroValue4
 t22:=Tryz.underlying253
 a22:=Tryz.isAgg253
 z22:=Tryz.sizeOf253
 v22:=Tryz.zeroValue253
 a23:=Tryz.isAgg3
 z23:=Tryz.sizeOf3 }
def Tryz.keys192_ren:Go.Shelf.Ren:=⟨fun | 7=>192 | 10=>222 | n=>n,fun | 23=>216 | 26=>3 | 3=>3 | 28=>291 | 0=>0 | 27=>290 | 33=>134 | 4=>4 | n=>n,fun | n=>n⟩
theorem Tryz.keys192:Go.Proofs.SlLaysZI.n7 Tryz.prog Tryz.keys192_ren:={
 mixed:=by kernel_rfl
 f7:=⟨Tryz.f192.name,by decide,Tryz.func192.trans (congrArg some (by kernel_rfl))⟩
 f10:=⟨Tryz.f222.name,by decide,Tryz.func222.trans (congrArg some (by kernel_rfl))⟩
 t0:=Tryz.underlying0
 a0:=Tryz.isAgg0
 z0:=Tryz.sizeOf0
 v0:=Tryz.zeroValue0
 t4:=Tryz.underlying4
 a4:=Tryz.isAgg4
 z4:=Tryz.sizeOf4
 v4:=Tryz.zeroValue4
 t23:=Tryz.underlying216
 a23:=Tryz.isAgg216
 z23:=Tryz.sizeOf216
 v23:=Tryz.zeroValue216
 t26:=Tryz.underlying3
 a26:=Tryz.isAgg3
 z26:=Tryz.sizeOf3
 v26:=Tryz.zeroValue3
 t27:=Tryz.underlying290
 a27:=Tryz.isAgg290
 z27:=Tryz.sizeOf290
 v27:=Tryz.zeroValue290
 t28:=Tryz.underlying291
 a28:=Tryz.isAgg291
 z28:=Tryz.sizeOf291
 v28:=Tryz.zeroValue291
 t33:=Tryz.underlying134
 a33:=Tryz.isAgg134
 z33:=Tryz.sizeOf134
 v33:=Tryz.zeroValue134 }
def Tryz.sorted191_ren:Go.Shelf.Ren:=⟨fun | 6=>191 | 8=>221 | 9=>122 | 11=>235 | 13=>172 | 12=>171 | 23=>207 | 24=>208 | 14=>198 | 15=>199 | 16=>200 | 17=>201 | 18=>202 | 19=>203 | 20=>204 | 21=>205 | 22=>206 | 25=>224 | 26=>225 | 27=>226 | 28=>227 | 29=>228 | 30=>229 | 31=>239 | n=>n,fun | 26=>3 | 28=>291 | 24=>28 | 0=>0 | 3=>3 | 37=>47 | 48=>306 | 50=>56 | 4=>4 | 40=>299 | 39=>298 | 45=>303 | 5=>5 | 9=>9 | 51=>316 | 55=>320 | 57=>334 | 58=>103 | 33=>134 | n=>n,fun | n=>n⟩
theorem Tryz.sorted191:Go.Proofs.SlLaysZI.n6 Tryz.prog Tryz.sorted191_ren:={
 mixed:=by kernel_rfl
 f6:=⟨Tryz.f191.name,by decide,Tryz.func191.trans (congrArg some (by kernel_rfl))⟩
 f8:=⟨Tryz.f221.name,by decide,Tryz.func221.trans (congrArg some (by kernel_rfl))⟩
 f11:=⟨Tryz.f235.name,by decide,Tryz.func235.trans (congrArg some (by kernel_rfl))⟩
 t0:=Tryz.underlying0
 a0:=Tryz.isAgg0
 z0:=Tryz.sizeOf0
 v0:=Tryz.zeroValue0
 t24:=Tryz.underlying28
 a24:=Tryz.isAgg28
 z24:=Tryz.sizeOf28
 v24:=Tryz.zeroValue28
 t26:=Tryz.underlying3
 a26:=Tryz.isAgg3
 z26:=Tryz.sizeOf3
 v26:=Tryz.zeroValue3
 t28:=Tryz.underlying291
 a28:=Tryz.isAgg291
 z28:=Tryz.sizeOf291
 v28:=Tryz.zeroValue291
 i26:=by kernel_rfl }
def Tryz.sort122_ren:Go.Shelf.Ren:=⟨fun | 5=>122 | 8=>172 | 7=>171 | 19=>207 | 20=>208 | 10=>198 | 11=>199 | 12=>200 | 13=>201 | 14=>202 | 15=>203 | 16=>204 | 17=>205 | 18=>206 | 30=>224 | 31=>225 | 32=>226 | 33=>227 | 34=>228 | 35=>229 | 40=>239 | n=>n,fun | 23=>28 | 25=>3 | 3=>3 | 32=>47 | 22=>28 | 0=>0 | 44=>306 | 46=>56 | 4=>4 | 36=>299 | 35=>298 | 41=>303 | 5=>5 | 9=>9 | 53=>316 | 57=>320 | 63=>334 | 64=>103 | n=>n,fun | n=>n⟩
theorem Tryz.sort122:Go.Proofs.SlLaysM.n5 Tryz.prog Tryz.sort122_ren:={
 mixed:=by kernel_rfl
 f5:=⟨Tryz.f122.name,by decide,Tryz.func122.trans (congrArg some (by kernel_rfl))⟩
 f7:=⟨Tryz.f171.name,by decide,Tryz.func171.trans (congrArg some (by kernel_rfl))⟩
 f8:=Tryz.func172.trans (congrArg some (by kernel_rfl))
 f10:=⟨Tryz.f198.name,by decide,Tryz.func198.trans (congrArg some (by kernel_rfl))⟩
 f11:=⟨Tryz.f199.name,by decide,Tryz.func199.trans (congrArg some (by kernel_rfl))⟩
 f12:=⟨Tryz.f200.name,by decide,Tryz.func200.trans (congrArg some (by kernel_rfl))⟩
 f13:=⟨Tryz.f201.name,by decide,Tryz.func201.trans (congrArg some (by kernel_rfl))⟩
 f14:=⟨Tryz.f202.name,by decide,Tryz.func202.trans (congrArg some (by kernel_rfl))⟩
 f15:=⟨Tryz.f203.name,by decide,Tryz.func203.trans (congrArg some (by kernel_rfl))⟩
 f16:=⟨Tryz.f204.name,by decide,Tryz.func204.trans (congrArg some (by kernel_rfl))⟩
 f17:=⟨Tryz.f205.name,by decide,Tryz.func205.trans (congrArg some (by kernel_rfl))⟩
 f18:=⟨Tryz.f206.name,by decide,Tryz.func206.trans (congrArg some (by kernel_rfl))⟩
 f19:=Tryz.func207.trans (congrArg some (by kernel_rfl))
 f20:=Tryz.func208.trans (congrArg some (by kernel_rfl))
 f30:=⟨Tryz.f224.name,by decide,Tryz.func224.trans (congrArg some (by kernel_rfl))⟩
 f31:=Tryz.func225.trans (congrArg some (by kernel_rfl))
 f32:=Tryz.func226.trans (congrArg some (by kernel_rfl))
 f33:=⟨Tryz.f227.name,by decide,Tryz.func227.trans (congrArg some (by kernel_rfl))⟩
 f34:=⟨Tryz.f228.name,by decide,Tryz.func228.trans (congrArg some (by kernel_rfl))⟩
 f35:=⟨Tryz.f229.name,by decide,Tryz.func229.trans (congrArg some (by kernel_rfl))⟩
 f40:=⟨Tryz.f239.name,by decide,Tryz.func239.trans (congrArg some (by kernel_rfl))⟩
 t0:=Tryz.underlying0
 a0:=Tryz.isAgg0
 z0:=Tryz.sizeOf0
 v0:=Tryz.zeroValue0
 t3:=Tryz.underlying3
 a3:=Tryz.isAgg3
 z3:=Tryz.sizeOf3
 v3:=Tryz.zeroValue3
 t4:=Tryz.underlying4
 a4:=Tryz.isAgg4
 z4:=Tryz.sizeOf4
 v4:=Tryz.zeroValue4
 t5:=Tryz.underlying5
 a5:=Tryz.isAgg5
 z5:=Tryz.sizeOf5
 v5:=Tryz.zeroValue5
 t9:=Tryz.underlying9
 a9:=Tryz.isAgg9
 z9:=Tryz.sizeOf9
 v9:=Tryz.zeroValue9
 t22:=Tryz.underlying28
 a22:=Tryz.isAgg28
 z22:=Tryz.sizeOf28
 v22:=Tryz.zeroValue28
 t23:=Tryz.underlying28
 a23:=Tryz.isAgg28
 z23:=Tryz.sizeOf28
 v23:=Tryz.zeroValue28
 t25:=Tryz.underlying3
 a25:=Tryz.isAgg3
 z25:=Tryz.sizeOf3
 v25:=Tryz.zeroValue3
 t32:=Tryz.underlying47
 a32:=Tryz.isAgg47
 z32:=Tryz.sizeOf47
 v32:=Tryz.zeroValue47
 t35:=Tryz.underlying298
 a35:=Tryz.isAgg298
 z35:=Tryz.sizeOf298
 v35:=Tryz.zeroValue298
 t36:=Tryz.underlying299
 a36:=Tryz.isAgg299
 z36:=Tryz.sizeOf299
 v36:=Tryz.zeroValue299
 t41:=Tryz.underlying303
 a41:=Tryz.isAgg303
 z41:=Tryz.sizeOf303
 v41:=Tryz.zeroValue303
 t44:=Tryz.underlying306
 a44:=Tryz.isAgg306
 z44:=Tryz.sizeOf306
 v44:=Tryz.zeroValue306
 t46:=Tryz.underlying56
 a46:=Tryz.isAgg56
 z46:=Tryz.sizeOf56
 v46:=Tryz.zeroValue56
 t53:=Tryz.underlying316
 a53:=Tryz.isAgg316
 z53:=Tryz.sizeOf316
 v53:=Tryz.zeroValue316
 t57:=Tryz.underlying320
 a57:=Tryz.isAgg320
 z57:=Tryz.sizeOf320
 v57:=Tryz.zeroValue320
 t63:=Tryz.underlying334
 a63:=Tryz.isAgg334
 z63:=Tryz.sizeOf334
 v63:=Tryz.zeroValue334
 t64:=Tryz.underlying103
 a64:=Tryz.isAgg103
 z64:=Tryz.sizeOf103
 v64:=Tryz.zeroValue103 }
end Go.Proofs
namespace Go.Pf
open Go Go.Ev Go.Proofs Go.RowKit
variable {K:World->Prop} (hK:∀ w w',K w->Below w.heap.size w w'->K w')
set_option maxRecDepth 8000
@[simp] theorem QrR:span []=(0,0):=rfl
def QsU (m:Machine) (mn load:Int) (s:Qd):Int:=(load*den s+Wv m-1).tdiv (Wv m)-Jf m s.leak 0 mn
def QwX (m:Machine) (mn load:Int) (l:List Qd):Int:=l.foldl (fun b s=>max b (QsU m mn load s)) 0
include hK
omit hK
def ZL (ds:List Qy):List Qy:=ds.filter ZN
@[simp] def lkC (d:Qy):List IV:=[.int .i64 d.bar,.int .i64 d.smith]
@[simp] def Xk (ds:List Qy) (e:Nat->Int) (pm:IV):List IV:=[QtA (Qhr ds e ds.length),.sl 2 ((ZL ds).map lkC),pm]
theorem U5 (p:Qy->Bool):∀ (l:List Qy) (i k:Nat),(l.filter p)[k]?=((XN p l i)[k]?).bind fun j=>l[j-i]?
 | [],i,k=>by simp[XN]
 | d::l,i,k=>by
   have ih:=U5 p l (i+1);have hge:∀ j∈XN p l (i+1),i+1<=j:=fun j hj=>(U4 p l (i+1) j hj).1
   have sh:∀ k:Nat,((XN p l (i+1))[k]?).bind (fun j=>l[j-(i+1)]?)=((XN p l (i+1))[k]?).bind (fun j=>(d::l)[j-i]?):=fun k=>by
    cases hk:(XN p l (i+1))[k]? with
    | none=>rfl
    | some j =>
      have:=hge j (QxF hk)
      grind
   by_cases hp:p d=true
   ·simp only[QyK hp,XN,hp,if_true]
    grind
   ·simp only[QyL hp,XN,hp]
    grind
theorem YZ (ds:List Qy):(ZL ds).length=(WB ds).length:=by
 have:∀ (l:List Qy) (i:Nat),(l.filter ZN).length=(XN ZN l i).length:=by
  intro l
  induction l with
  | nil=>intro i;rfl
  | cons d l ih =>
    intro i;by_cases hp:ZN d=true
    ·simp only[QyK hp,XN,hp,if_true,QxA,ih (i+1)]
    ·simp only[QyL hp,XN,hp,ih (i+1)]
     simp
 exact this ds 0
theorem Vg (ds:List Qy) (k:Nat) (h:k<(ZL ds).length):(ZL ds)[k]=Ve ds k:=by
 have h':k<(WB ds).length:=by rw[<- YZ];exact h
 have h1:=U5 ZN ds 0 k;have h2:(WB ds)[k]<ds.length:=Qie (Qxx h');have e:(XN ZN ds 0)[k]?=some (WB ds)[k]:=Qxq h';rw[e] at h1;simp only[Option.bind_some,Nat.sub_zero,Qxq h2] at h1;have h3:(ZL ds)[k]?=some ds[(WB ds)[k]]:=h1;rw[Qxq h] at h3;injection h3 with h3
 rw[h3];simp[Ve,List.getD_eq_getElem?_getD,h',h2]
include hK
theorem QlS (ds:List Qy) (e:Nat->Int) (pm:IV) (s:J2) (hc:OkD ds ds.length) (hl:ds.length<=1000) (hs:Ye s ds):Ev.Good Tryz.prog K 234 [.agg (Xk ds e pm),.agg (sC s)] (.bool (QaR ds e s)):=by
 refine Qb hK Qm7 (by simp) ?_
 obtain ⟨s1,s2,s3,s4,s5⟩:=hs;simp only[inR] at s1 s2 s3;have hlt:s.after.toNat<ds.length+1:=by omega
 have hcl:=Yk e hc s.after.toNat (by omega) (by omega)
 have hcg:=Qah ds e ds.length s.after.toNat (by omega)
 have hcb:=hc.cnt s.after.toNat (by omega) (by omega)
 have hclt:=Qd9 ds e s.after.toNat;have hww:=Qdl ds s.after.toNat
 have hp:(if s.frm=1 then ((cab ds e s.after.toNat).length:Int)-1-s.pos else s.pos)=(plc s.pos s.frm (cab ds e s.after.toNat).length:Nat):=by
  unfold plc;split<;>omega
 have hpl:plc s.pos s.frm (cab ds e s.after.toNat).length<(cab ds e s.after.toNat).length:=QfN (by omega)
 simp[hlt,hcg]
 (repeat' first | omega | (with_reducible apply And.intro) | intro _)
 refine cK (Qcp hK s.pos s.frm (cab ds e s.after.toNat).length (by omega) (by omega)) ?_
 rw[hp];have hr:QaR ds e s=QfH ds s (cab ds e s.after.toNat):=rfl;rw[hr];unfold QfH;generalize plc s.pos s.frm (cab ds e s.after.toNat).length=at_ at *;generalize cab ds e s.after.toNat=now at *
 have h1:now[at_]<(ZL ds).length:=by
  have:=hclt now[at_] (Qxx hpl);rw[YZ];omega
 have hm:Ve ds (now.getD at_ 0)=(ZL ds)[now[at_]]:=by
  rw[Vg ds _ h1]
  grind
 rw[hm];simp[hpl,h1]
 grind
theorem QlV (ds:List Qy) (e:Nat->Int) (pm:IV) (ss:List J2) (hc:OkD ds ds.length) (hl:ds.length<=1000) (hs:∀ s∈ss,Ye s ds) (hsl:ss.length<=1000):Ev.Good Tryz.prog K 220 [.agg (Xk ds e pm),QJ ss] (.int .i64 (ZE ds ss e)):=by
 refine Qb hK Qnc (by simp) ?_
 simp;intro _;refine QI (fun i=>[(2,AV.iv (.ptr (Xk ds e pm))),(5,AV.iv (IV.int IntKind.i64 (ZE ds (ss.take i) e:Nat))),(8,AV.iv (QJ ss)),(9,AV.iv (.int .i64 ss.length)),(10,AV.iv (IV.int IntKind.i64 (i:Nat)))]) (fun _=>[]) ss.length (fun i=>True) trivial ?_ ?_
 ·intro _
  rw[Qa QcR.eq_1];simp
 ·intro i hi _ ih
  have hle:=Qek ds (ss.take i) e;simp at hle;rw[Qa QcR.eq_1];rw[Qav _ _ _ _ hi] at ih;simp[hi] at ih |-;have hg:=QlS hK ds e pm ss[i] hc hl (hs _ (Qxx hi));refine cK (by simpa using hg) ?_
  cases hr:QaR ds e ss[i]
  ·simp[hr] at ih |-
   grind
  ·simp[hr] at ih |-
   grind
theorem Qgq (ds:List Qy) (e:Nat->Int) (pm:IV) (hl:ds.length<=1000):Ev.Good Tryz.prog K 158 [.agg (Xk ds e pm)] (US (cab ds e ds.length)):=by
 refine Qb hK QnJ (by simp) ?_
 have hcg:=Qah ds e ds.length ds.length (by omega)
 simp[hcg];omega
theorem Qcq (left all n:Int) (h : -1000000<=left/\left<=1000000):Ev.Good Tryz.prog K 193 [.int .i64 left,.int .i64 all,.ptr [.int .i64 n]] (.bool (decide (inR n 0 (left-1)))):=by
 refine Qb hK Qnk (by simp) ?_
 simp
 (repeat' first | omega | (with_reducible apply And.intro) | intro _)
 exact cK (Z8 hK _ _ _) (by simp)
theorem Qcs (n:Int):Ev.Good Tryz.prog K 156 [.int .i64 n] (.clo 193 [] [.ptr [.int .i64 n]]):=by
 refine Qb hK QnL (by simp) ?_
 simp
theorem QlW (a b:Int):Ev.Good Tryz.prog K 217 [.int .i64 a,.int .i64 b] (.bool true):=by
 refine Qb hK Qnf (by simp) ?_
 simp
theorem Qmd (ds:List Qy) (e:Nat->Int) (pm:IV) (hl:ds.length<=1000) (n:Nat) (hn:n<(cab ds e ds.length).length):Ev.Good Tryz.prog K 157 [.agg (Xk ds e pm),.ptr [.int .i64 n]] (.int .i64 ((cab ds e ds.length)[n]:Nat)):=by
 refine Qb hK QnK (by simp) ?_
 simp;have hg:=Qgq hK ds e pm hl;refine cK (by simpa using hg) ?_
 simp[hn]
omit hK
def ZO (d:Qy):Bool:=decide (d.frm=2)
def Wq:List Nat->Nat->List (MK × IV)
 | [],_=>[]
 | j::t,r=>(.int .i64 (j:Nat),.int .i64 (r:Nat))::Wq t (r+1)
theorem Qee (j:Nat):∀ (l:List Nat) (r:Nat),Wq (l++[j]) r=Wq l r++[(.int .i64 (j:Nat),.int .i64 ((r+l.length:Nat):Int))]
 | [],r=>by simp[Wq]
 | a::l,r=>by
   have e:r+1+l.length=r+(l.length+1):=by omega
   simp only[Qyt,Wq,Qee j l (r+1),QxA,e]
@[simp] theorem Qed:∀ (l:List Nat) (r:Nat),(Wq l r).length=l.length
 | [],_=>rfl
 | _::l,r=>by simp[Wq,Qed l (r+1)]
theorem qq (j:Nat):∀ (l:List Nat) (r:Nat),j ∉ l->∀ y:IV,mins (.int .i64 (j:Nat)) y (Wq l r)=Wq l r++[(.int .i64 (j:Nat),y)]
 | [],_,_,y=>rfl
 | a::l,r,h,y=>by
   have h1:¬ a=j:=fun c=>h (by simp[c])
   have h2:=qq j l (r+1) (fun c=>h (by simp[c])) y
   have h3:¬ (MK.int .i64 (a:Nat)=MK.int .i64 (j:Nat)):=by simp;omega
   simp only[Wq,mins,h3,if_false,h2,Qyt]
theorem QbD (j:Nat):∀ (l:List Nat) (r:Nat),j∈l->Qg (.int .i64 (j:Nat)) (Wq l r)=some (.int .i64 ((r+l.idxOf j:Nat):Int))
 | a::l,r,h=>by
   by_cases h1:a=j
   ·subst h1;simp[Wq,Qg]
   ·have h2:j∈l:=by
     grind
    have h3:¬ (MK.int .i64 (a:Nat)=MK.int .i64 (j:Nat)):=by simp;omega
    have e:r+1+l.idxOf j=r+(l.idxOf j+1):=by omega
    have hi:(a::l).idxOf j=l.idxOf j+1:=by
     grind
    simp only[Wq,Qg,h3,if_false,QbD j l (r+1) h2,hi,e]
theorem Vv:∀ (l:List Nat) (r:Nat),QN (.int .i64) (Wq l r)
 | [],_=>trivial
 | _::l,r=>⟨rfl,Vv l (r+1)⟩
def Y7 (ds:List Qy):List Nat:=XN ZO ds 0
theorem qk (ds:List Qy):(Y7 ds).length=Xy ds:=by
 have:∀ (l:List Qy) (i:Nat),(XN ZO l i).length=Xy l:=by
  intro l
  induction l with
  | nil=>intro i;rfl
  | cons d l ih =>
    intro i;by_cases h:d.frm=2
    ·simp[XN,ZO,h,ih,Xy,Qym]
    ·simp[XN,ZO,h,ih,Xy,Qym]
 exact this ds 0
@[simp] def JY (c:Qn):List IV:=[QO c.deeds,QJ c.sights,.int .i64 c.wrong,.map (Wq (Y7 c.deeds) 0)]
include hK
theorem Qgl (c:Qn) (hl:c.deeds.length<=1000):Ev.Good Tryz.prog K 218 [chV c] (.agg (JY c)):=by
 refine Qb hK Qne (by simp) ?_
 simp;intro _
 refine QI (fun i=>[(2,AV.loc 2 0),(3,AV.loc 3 0),(10,AV.iv (QO c.deeds)),(11,AV.iv (.int .i64 c.deeds.length)),(12,AV.iv (IV.int IntKind.i64 (i:Nat)))])
  (fun i=>[(2,.box [.iv (.sl 5 []),.iv (.sl 5 []),.iv (.int .i64 0),.iv (.map [])]),(3,.box [.iv (QO c.deeds),.iv (QJ c.sights),.iv (.int .i64 c.wrong),.oref 7]),(7,.mapd (Wq (XN ZO (c.deeds.take i) 0) 0))]) c.deeds.length (fun i=>True) trivial ?_ ?_
 ·intro _
  rw[Qa QcT.eq_1];simp[Y7]
 ·intro i hi _ ih
  rw[Qbi _ _ _ hi] at ih;rw[Qa QcT.eq_1]
  have hnm:i ∉ XN ZO (c.deeds.take i) 0:=fun h=>by
   have:=U4 ZO (c.deeds.take i) 0 i h
   grind
  have hfr:=qq i (XN ZO (c.deeds.take i) 0) 0 hnm;by_cases hw:c.deeds[i].frm=2
  ·rw[if_pos (by simp[ZO,hw]),Qee] at ih
   simp[hi,hw] at ih |-;rw[hfr];have hkd:=Vv (XN ZO (c.deeds.take i) 0) 0
   grind
  ·simp[hi,ZO,hw] at ih |-
   grind
end Go.Pf
namespace Go.Ev
open Go Go.RowKit
section
variable {P:Program} {K:World->Prop}
theorem Wi {f:FuncId} {e:TypeId} {sz bytes:Nat}
  (hcl:∀ (b off n c:Nat) (news:List Value) (w:World),news.length=n*sz->n<=maxLen->n*bytes<=140737488355328->(∀ (j:Nat) (u:Value),news[j]?=some u->w.cell? ⟨b,off+j,none⟩=some u)->(∀ u∈news,u.oneCell'=true) ->
    Calls P f #[.slice (some ⟨b,off,none⟩) n c] w fun x w'=>∃ v',x=.returned v'/\w'.ownsRow w.heap.size e sz v' n news/\v'≠.slice none 0 0/\Below w.heap.size w w')
  (rows:List (List IV)) (hb:rows.length*bytes<=140737488355328) (hsz:∀ c∈rows,c.length=sz) (hne:rows≠[]):QbH P K f [.sl sz rows] (.aref 0 rows.length) e sz rows 0:=by
 intro w ok vs hk hnew hl hvs
 obtain ⟨v0,rfl⟩:∃ v0,vs=[v0]:=by
  match vs,hl with
  | [v],_=>exact ⟨v,rfl⟩
 have hrep:=hvs 0 _ v0 rfl rfl
 have fin:∀ (v':Value) (w':World) (news:List Value),w'.ownsRow w.heap.size e sz v' rows.length news->Below w.heap.size w w'->(∀ u∈news,u.oneCell'=true) ->
   (∀ (i j:Nat) (c:List IV) (x:IV) (u:Value),rows[i]?=some c->c[j]?=some x->news[i*sz+j]?=some u->Qq ok w x u) ->
   ∃ v l,Ending.returned v'=.returned v/\Qp (fun b=>b<w.heap.size) (okL ok (one (Xz e sz rows 0)) (fun _=>l)) w' (one (Xz e sz rows 0)) (fun _=>l) (Xz e sz rows 0) l /\
    Qo (okL ok (one (Xz e sz rows 0)) (fun _=>l)) w' (one (Xz e sz rows 0)) (fun _=>l) (ren 0 (.aref 0 rows.length)) v/\Below w.heap.size w w':=by
  intro v' w' news hown hbel hone hcx;have hsl:=YJ hown;have hge:∀ b,v'.ownBlock=some b->w.heap.size<=b:=fun b h=>(hown.lt b h).1
  have hown0:w'.ownsRow 0 e sz v' rows.length news:=by
   obtain ⟨h1,h2⟩:=hown;refine ⟨h1,?_⟩
   grind
  refine ⟨v',.arr v' news,rfl,⟨⟨by grind,fun b h1 h2=>by grind⟩,Qyw _,fun c hc=>?_,hone,fun i j c x u hi hj hu=>?_⟩,?_,hbel⟩
  ·grind
  ·rw[Qxz,Qxu] at hi
   obtain ⟨d,hd,rfl⟩:=hi;rw[Qxz,Qxu] at hj;obtain ⟨y,hy,rfl⟩:=hj;refine .iv _ _ ((hcx i j d y u hd hy hu).mono fun b hb hlt=>⟨⟨hb,fun id o _ hh=>?_⟩,hbel.block b hlt⟩)
   grind
  ·have:=Qo.aref (ok:=okL ok (one (Xz e sz rows 0)) (fun _=>.arr v' news)) (w:=w') (lo:=one (Xz e sz rows 0)) (L:=fun _=>.arr v' news) 0 e sz (rows.map (List.map AV.iv)) 0 v' news (by simp[one,Xz]) rfl hsl
   rw[QxB] at this;exact this
 cases hrep with
 | sl _ _ b off cap u hlc hc hs hu hx =>
   refine (hcl b off rows.length cap ((List.range (rows.length*sz)).map u) w (by simp) (by omega) hb (fun j v hj=>?_) (fun v hv=>?_)).mono fun x w' ⟨v',hx',hown,_,hbel⟩=>?_
   all_goals grind
 | _=>grind
end
end Go.Ev
namespace Go.Pf
open Go Go.Ev Go.Proofs Go.RowKit Go.Shelf
set_option maxRecDepth 8000
noncomputable def Qtz:TypeInfo:=(Tryz.prog.info? 158).get (by kernel_rfl)
noncomputable def QpM:TypeInfo:=(Tryz.prog.info? 82).get (by kernel_rfl)
noncomputable def Quv:Value:=QpM.zero.get (by kernel_rfl)
section
variable {K:World->Prop}
theorem clone186 (l:List Qy) (hl:l.length<=1000) (hne:l≠[]):QbH Tryz.prog K 186 [QO l] (.aref 0 l.length) 158 5 (l.map dC) 0:=by
 have h:=Wi (P:=Tryz.prog) (K:=K) (f:=186) (e:=158) (sz:=5) (bytes:=40) (AnyE.slices_Clone Tryz.clone186 Qtz (.agg #[.int .i64 0,.int .i64 0,.int .i64 0,.int .i64 0,.int .i64 0]) 5 40 (by kernel_rfl) (by kernel_rfl) (by kernel_rfl) (by kernel_rfl) rfl (by decide) Tryz.sizeOf158) (l.map dC) (by simp;omega) (by simp) (by simpa using hne)
 simpa using h
end
end Go.Pf
namespace Go.Pf
open Go Go.Ev Go.Proofs Go.RowKit
variable {K:World->Prop} (hK:∀ w w',K w->Below w.heap.size w w'->K w')
set_option maxRecDepth 8000
def Zq (ds:List Qy) (n:Nat) (i:Nat):Int:=match ds[i]? with
 | some d=>if d.frm=2 then ((n.testBit ((Y7 ds).idxOf i)).toNat:Int) else d.frm
 | none=>0
theorem Qd4 (ds:List Qy) (n i:Nat) (h:i<ds.length):Zq ds n i=if ds[i].frm=2 then ((n.testBit ((Y7 ds).idxOf i)).toNat:Int) else ds[i].frm:=by
 simp[Zq,h]
theorem QgY (ds:List Qy) (i:Nat) (h:i<ds.length) (h2:ds[i].frm=2):i∈Y7 ds:=by
 have:∀ (l:List Qy) (k i:Nat) (h:i<l.length),l[i].frm=2->k+i∈XN ZO l k:=by
  intro l
  induction l with
  | cons d l ih =>
    intro k i h h2;cases i with
    | zero =>
      have h3:d.frm=2:=h2;simp[XN,ZO,h3]
    | succ i =>
      have:=ih (k+1) i (by simpa using h) (by simpa using h2)
      have e:k+1+i=k+(i+1):=by omega
      rw[e] at this;simp only[XN]
      grind
  | _=>grind
 simpa[Y7] using this ds 0 i h h2
include hK
theorem QlT (c:Qn) (n i:Nat) (hn:n<2 ^ 63) (hi:i<c.deeds.length) (h2:c.deeds[i].frm=2):Ev.Good Tryz.prog K 233 [.int .i64 i,.ptr [.int .i64 n],.ptr (JY c)] (.int .i64 (Zq c.deeds n i)):=by
 refine Qb hK Qm8 (by simp) ?_
 have hf:=QbD i (Y7 c.deeds) 0 (QgY c.deeds i hi h2);have hkk:=Vv (Y7 c.deeds) 0;rw[Qd4 _ _ _ hi,if_pos h2];simp only[QxE] at hf;simp[hkk,hf];exact QhN n _ hn
omit hK
def ZZ (ds:List Qy) (pm:Nat->IV) (n:Nat):List IV:=[.agg (Xk ds (Zq ds n) (pm n))]
theorem Qli {n:Nat} (h:n<=12):Qii IntKind.i64 1 (n:Int)=((2 ^ n:Nat):Int):=by
 have:n=0\/n=1\/n=2\/n=3\/n=4\/n=5\/n=6\/n=7\/n=8\/n=9\/n=10\/n=11\/n=12:=by omega
 rcases this with rfl | rfl | rfl | rfl | rfl | rfl | rfl | rfl | rfl | rfl | rfl | rfl | rfl<;>decide
include hK
theorem QlE (c:Qn) (pm:Nat->IV) (ht:Xy c.deeds<=12) (h201:∀ n:Nat,n<2 ^ Xy c.deeds->Ev.Good Tryz.prog K 232 [QO c.deeds,.clo 233 [] [.ptr [.int .i64 n],.ptr (JY c)]] (.agg (Xk c.deeds (Zq c.deeds n) (pm n)))) :
  Qar Tryz.prog K 219 [.agg (JY c)] [] ((List.range (2 ^ Xy c.deeds)).map (ZZ c.deeds pm)):=by
 intro s b s' hf;have hp:=YV ht;refine Q0 Qnd (by simp) hf.v rfl ?_
 have hlen:(Wq (Y7 c.deeds) 0).length=Xy c.deeds:=by rw[Qed,qk]
 simp[qk,Qli ht];have hN:0<2 ^ Xy c.deeds:=Nat.pos_of_ne_zero (by simp)
 have hcast:((2:Int) ^ Xy c.deeds)=((2 ^ Xy c.deeds:Nat):Int):=by push_cast;rfl
 rw[hcast];generalize 2 ^ Xy c.deeds=N at *
 refine JG N (fun i e o=>∃ si,e=[(1,AV.cb 0),(2,AV.iv (.ptr (JY c))),(8,AV.iv (.int .i64 (N:Nat))),(9,AV.iv (.int .i64 (i:Nat)))]/\o=[(0,.ext si)] /\
  Zp Tryz.prog K (((List.range N).drop i).map (ZZ c.deeds pm)) si b s') ?_ ?_ _ _ ⟨s,rfl,rfl,by simpa using hf⟩
 ·rintro e o ⟨si,rfl,rfl,hfd⟩
  rw[List.drop_eq_nil_of_le (by simp)] at hfd
  cases hfd;rw[Qa QcS.eq_1];simp
 ·rintro i e o hi ⟨si,rfl,rfl,hfd⟩ ih
  rw[QyR (by simpa using hi)] at hfd
  simp only[List.getElem_range,QxN] at hfd;have hg:=h201 i hi;rw[Qa QcS.eq_1];simp[hi];refine QrJ _ _ _ _ _ _ _ _ ?_;simp;refine cK (by simpa using hg) ?_
  have hst:ZZ c.deeds pm i=[.agg (Xk c.deeds (Zq c.deeds i) (pm i))]:=rfl;rw[hst] at hfd;simp;cases hfd with
  | stop _ _ _ _ hg =>
    refine Zw (by simpa using hg) rfl ?_
    simp
  | next _ _ _ s1 _ _ hg hr =>
    refine Zw (by simpa using hg) rfl ?_
    simp
    (repeat' first | omega | (with_reducible apply And.intro) | intro _)
    exact ih _ _ ⟨s1,by simp,rfl,hr⟩
omit hK
section
variable {K:World->Prop}
def Qu (c:Qn):List Nat:=(List.range (2 ^ Xy c.deeds)).filter fun n=>decide ((ZE c.deeds c.sights (Zq c.deeds n):Int)<=c.wrong)
theorem UA (hK:∀ w w',K w->Below w.heap.size w w'->K w') {c:Qn} (hc:OkC c) {pm:Nat->IV} {ks:Env} (hks:QW [2,3] [0,3] ks=[(2,.iv (.ptr (JY c))),(3,.loc 3 0)]) :
  ∀ (Ls:List Nat) (s:Ext) (b:Bool) (s':Ext),Zp Tryz.prog K ((Ls.filter fun n=>decide ((ZE c.deeds c.sights (Zq c.deeds n):Int)<=c.wrong)).map (ZZ c.deeds pm)) s b s' ->
   ∃ wy,(wy=.fall\/wy=.ret)/\Vx Tryz.prog K [7] JW Wo [2,3] [0,3] (QW [2,3] [0,3] ks) (Ls.map (ZZ c.deeds pm)) [(0,.ext s),(3,.box [.cb 0])] wy [(0,.ext s'),(3,.box [.cb 0])]
 | [],s,b,s',h=>by
   cases h;exact ⟨.fall,.inl rfl,.nil _⟩
 | t::Ls,s,b,s',h=>by
   have hl:=hc.len;have hsl:=hc.slen;have hw:=QlV hK c.deeds (Zq c.deeds t) (pm t) c.sights hc.deeds (by omega) hc.sights (by omega)
   by_cases ht:(ZE c.deeds c.sights (Zq c.deeds t):Int)<=c.wrong
   ·rw[QyK (by simpa using ht)] at h
    cases h with
    | stop _ _ _ _ hg =>
      refine ⟨.ret,.inr rfl,.stop _ _ _ _ _ (by simp) ?_⟩
      rw[hks];refine ⟨rfl,?_⟩;simp[ZZ,JW,Wo];refine cK (by simpa using hw) ?_
      simp[ht];refine Zw (by simpa[ZZ] using hg) rfl ?_
      simp
    | next _ _ _ s1 _ _ hg hr =>
      obtain ⟨wy,h1,h2⟩:=UA hK hc hks Ls s1 b s' hr;refine ⟨wy,h1,.next _ _ _ _ _ _ ?_ h2⟩;rw[hks];refine ⟨rfl,?_⟩;simp[ZZ,JW,Wo];refine cK (by simpa using hw) ?_
      simp[ht];refine Zw (by simpa[ZZ] using hg) rfl ?_
      simp
   ·rw[QyL (by simpa using ht)] at h
    obtain ⟨wy,h1,h2⟩:=UA hK hc hks Ls s b s' h;refine ⟨wy,h1,.next _ _ _ _ _ _ ?_ h2⟩;rw[hks];refine ⟨rfl,?_⟩;simp[ZZ,JW,Wo];refine cK (by simpa using hw) ?_
    simp[ht]
end
def QbF (K:World->Prop) (c:Qn) (pm:Nat->IV):Prop:=∀ n:Nat,n<2 ^ Xy c.deeds->Ev.Good Tryz.prog K 232 [QO c.deeds,.clo 233 [] [.ptr [.int .i64 n],.ptr (JY c)]] (.agg (Xk c.deeds (Zq c.deeds n) (pm n)))
theorem Uo (ds:List Qy):Xy ds<=ds.length:=Qyr
include hK
theorem Vi (c:Qn) (hc:OkC c) (pm:Nat->IV) (ht:QbF K c pm):Qar Tryz.prog K 190 [.agg (JY c)] [] ((Qu c).map (ZZ c.deeds pm)):=by
 intro s b s' hfd;have h12:=hc.len;have htw:=Uo c.deeds;refine Q0 Qnm (by simp) hfd.v rfl ?_
 obtain ⟨wy,h1,h2⟩:=UA (pm:=pm) hK hc (ks:=[(2,.iv (.ptr (JY c))),(3,.loc 3 0)]) rfl (List.range (2 ^ Xy c.deeds)) s b s' hfd;simp;refine QZ (wy:=wy) (o':=[(0,.ext s'),(3,.box [.cb 0])]) rfl (by kernel_rfl) (QlE hK c pm (by omega) ht) (by simpa using h2) ?_
 rcases h1 with rfl | rfl<;>simp
noncomputable def Ym (c:Qn) (is:Bool):Int:=if OkC c then (if is=true then (if Qu c=[] then 3 else 0) else 1) else 20
theorem Ql1 (c:Qn) (pm:Nat->IV) (ht:OkC c->QbF K c pm) (g:FuncId) (fs cs:List IV) (is:Bool) (hg:OkC c->Ev.Good Tryz.prog K g (fs++[.int .i64 (QC c.deeds),.int .i64 (WA c.deeds)]++cs) (.bool is)) (hcg:callee Tryz.prog g=true) (hl:c.deeds.length<=1000) (hs:c.sights.length<=1000) :
  Ev.Good Tryz.prog K 189 [chV c,.clo g fs cs] (.tup [if OkC c/\is=true then .agg (JY c) else .agg [.sl 5 [],.sl 5 [],.int .i64 0,.map []],.int .i64 (Ym c is)]):=by
 refine Qb hK QhH (by simp) ?_
 simp;refine cK (q0 hK c hl hs) ?_;by_cases h1:OkC c
 ·simp[h1]
  refine cK (Qct hK c hl) ?_;simp;refine ⟨hcg,cK (by simpa using hg h1) ?_⟩
  cases is
  ·simp[Ym,h1]
  ·simp
   refine cK (by simpa using Qgl hK c hl) ?_
   simp;cases hR:Qu c with
   | nil =>
     refine QZ (wy:=.fall) (o':=[(4,.box [.iv (.sl 5 []),.iv (.sl 5 []),.iv (.int .i64 0),.iv (.map [])]),(5,.box [.iv (.int .i64 0)]),(7,.box [.iv (QO c.deeds),.iv (QJ c.sights),.iv (.int .i64 c.wrong),.iv (.map (Wq (Y7 c.deeds) 0))])]) rfl (by kernel_rfl) (Vi hK c h1 pm (ht h1)) (by rw[hR];simpa using Vx.nil _) ?_
     simp[Ym,h1,hR]
   | cons a r =>
     refine QZ (wy:=.ret) (o':=[(4,.box [.iv (QO c.deeds),.iv (QJ c.sights),.iv (.int .i64 c.wrong),.iv (.map (Wq (Y7 c.deeds) 0))]),(5,.box [.iv (.int .i64 0)]),(7,.box [.iv (QO c.deeds),.iv (QJ c.sights),.iv (.int .i64 c.wrong),.iv (.map (Wq (Y7 c.deeds) 0))])]) rfl (by kernel_rfl) (Vi hK c h1 pm (ht h1)) (by
      rw[hR];refine .stop _ _ _ _ _ (by simp) ?_
      refine ⟨rfl,?_⟩;simp[ZZ,Qak,QcV]) ?_
     simp[Ym,h1,hR]
 ·simp[h1,Ym]
theorem QiR (c:Qn) (pm:Nat->IV) (ht:OkC c->QbF K c pm) (g:FuncId) (is:Bool) (hg:OkC c->Ev.Good Tryz.prog K g [.int .i64 (QC c.deeds),.int .i64 (WA c.deeds)] (.bool is)) (hcg:callee Tryz.prog g=true) (hl:c.deeds.length<=1000) (hs:c.sights.length<=1000) :
  Ev.Good Tryz.prog K 189 [chV c,.fn g] (.tup [if OkC c/\is=true then .agg (JY c) else .agg [.sl 5 [],.sl 5 [],.int .i64 0,.map []],.int .i64 (Ym c is)]):=by
 refine Qb hK QhH (by simp) ?_
 simp;refine cK (q0 hK c hl hs) ?_;by_cases h1:OkC c
 ·simp[h1]
  refine cK (Qct hK c hl) ?_;simp;refine ⟨hcg,cK (by simpa using hg h1) ?_⟩
  cases is
  ·simp[Ym,h1]
  ·simp
   refine cK (by simpa using Qgl hK c hl) ?_
   simp;cases hR:Qu c with
   | nil =>
     refine QZ (wy:=.fall) (o':=[(4,.box [.iv (.sl 5 []),.iv (.sl 5 []),.iv (.int .i64 0),.iv (.map [])]),(5,.box [.iv (.int .i64 0)]),(7,.box [.iv (QO c.deeds),.iv (QJ c.sights),.iv (.int .i64 c.wrong),.iv (.map (Wq (Y7 c.deeds) 0))])]) rfl (by kernel_rfl) (Vi hK c h1 pm (ht h1)) (by rw[hR];simpa using Vx.nil _) ?_
     simp[Ym,h1,hR]
   | cons a r =>
     refine QZ (wy:=.ret) (o':=[(4,.box [.iv (QO c.deeds),.iv (QJ c.sights),.iv (.int .i64 c.wrong),.iv (.map (Wq (Y7 c.deeds) 0))]),(5,.box [.iv (.int .i64 0)]),(7,.box [.iv (QO c.deeds),.iv (QJ c.sights),.iv (.int .i64 c.wrong),.iv (.map (Wq (Y7 c.deeds) 0))])]) rfl (by kernel_rfl) (Vi hK c h1 pm (ht h1)) (by
      rw[hR];refine .stop _ _ _ _ _ (by simp) ?_
      refine ⟨rfl,?_⟩;simp[ZZ,Qak,QcV]) ?_
     simp[Ym,h1,hR]
 ·simp[h1,Ym]
theorem Ql3 (c:Qn) (pm:Nat->IV) (ht:OkC c->QbF K c pm) (hl:c.deeds.length<=1000) (hs:c.sights.length<=1000):Ev.Good Tryz.prog K 187 [chV c] (.tup [.int .i64 (if Ym c true=0 then (Qu c).length else 0),.int .i64 (Ym c true)]):=by
 refine Qb hK Qno (by simp) ?_
 simp;refine cK (QiR hK c pm ht 217 true (fun _=>QlW hK _ _) (by kernel_rfl) hl hs) ?_
 by_cases he:Ym c true=0
 ·have h1:OkC c:=by
   unfold Ym at he
   grind
  have hlen:(Qu c).length<=4096:=by
   have h1':=Qx0 (fun n=>decide ((ZE c.deeds c.sights (Zq c.deeds n):Int)<=c.wrong)) (List.range (2 ^ Xy c.deeds))
   have h2':=YV (n:=Xy c.deeds) (by have:=Uo c.deeds;have:=h1.len;omega)
   simp at h1';unfold Qu;omega
  simp[he,h1];refine QZ (wy:=.fall) (o':=[(6,.box [.iv (.int .i64 ((Qu c).length:Nat))])]) rfl (by kernel_rfl) (Vi hK c h1 pm (ht h1)) ?_ ?_
  ·have:=Vx.all (P:=Tryz.prog) (K:=K) (ps:=[17]) (asn:=Qal) (body:=QcW) (ks:=[6]) (ids:=[6]) (eK:=[(6,.loc 6 0)]) ((Qu c).map (ZZ c.deeds pm)) (fun i=>[(6,.box [.iv (.int .i64 (i:Int))])]) fun i x hi=>by
    simp only[Qxz,Qxu] at hi;obtain ⟨y,hy,rfl⟩:=hi;have hlt:=(Qxr.1 hy).1;refine ⟨rfl,?_⟩;simp[ZZ,Qal,QcW];omega
   simpa using this
  ·simp
 ·by_cases h1:OkC c<;>simp[he,h1]
omit hK
def QgA (m:Machine) (n:Int):Machine:={ m with llo:=n,lhi:=n }
noncomputable def QpA (m:Machine) (k:Nat):List Machine:=if tE (QgA m (m.llo+k)) true=0 then [QgA m (m.llo+k)] else []
def Qw2 (m:Machine):List IV:=[maV m]
include hK
end Go.Pf
