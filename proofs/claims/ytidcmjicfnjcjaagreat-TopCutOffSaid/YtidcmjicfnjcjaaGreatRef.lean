/- Deeds, sights, chains, machines, proofs as data; the smallest functions. -/
import Derived.Test.YtidcmjicfnjcjaaGreatCodesTwo
import Derived.Test.YtidcmjicfnjcjaaGreatEvFour
set_option linter.all false

namespace Go.Pf
open Go Go.Ev Go.Proofs Go.RowKit
set_option maxRecDepth 8000
structure Deed where
 what:Int
 pos:Int
 frm:Int
 bar:Int
 smith:Int
 deriving DecidableEq
structure Sight where
 after:Int
 pos:Int
 frm:Int
 bar:Int
 smith:Int
 deriving DecidableEq
structure Chain where
 deeds:List Deed
 sights:List Sight
 wrong:Int
 deriving DecidableEq
structure Lever where
 long:Int
 lo:Int
 hi:Int
 deriving DecidableEq
structure Balance where
 weight:Int
 mins:Int
 load:Int
 off:Int
 deriving DecidableEq
structure Machine where
 levers:List Lever
 water:Int
 llo:Int
 lhi:Int
 bals:List Balance
 wrong:Int
 deriving DecidableEq
structure Trial where
 weight:Int
 mins:Int
 broke:Int
 deriving DecidableEq
structure Proof where
 chain:Chain
 machine:Machine
 trials:List Trial
 need:Int
 rule:Int
 deriving DecidableEq
@[simp] def dC (d:Deed):List IV:=[.int .i64 d.what,.int .i64 d.pos,.int .i64 d.frm,.int .i64 d.bar,.int .i64 d.smith]
@[simp] def sC (s:Sight):List IV:=[.int .i64 s.after,.int .i64 s.pos,.int .i64 s.frm,.int .i64 s.bar,.int .i64 s.smith]
@[simp] def leC (l:Lever):List IV:=[.int .i64 l.long,.int .i64 l.lo,.int .i64 l.hi]
@[simp] def baC (b:Balance):List IV:=[.int .i64 b.weight,.int .i64 b.mins,.int .i64 b.load,.int .i64 b.off]
@[simp] def trC (t:Trial):List IV:=[.int .i64 t.weight,.int .i64 t.mins,.int .i64 t.broke]
@[simp] def ints (l:List Int):IV:=.sl 1 (l.map fun n=>[.int .i64 n])
@[simp] def deedsV (l:List Deed):IV:=.sl 5 (l.map dC)
@[simp] def sightsV (l:List Sight):IV:=.sl 5 (l.map sC)
@[simp] def leversV (l:List Lever):IV:=.sl 3 (l.map leC)
@[simp] def balsV (l:List Balance):IV:=.sl 4 (l.map baC)
@[simp] def trialsV (l:List Trial):IV:=.sl 3 (l.map trC)
@[simp] def chV (c:Chain):IV:=.agg [deedsV c.deeds,sightsV c.sights,.int .i64 c.wrong]
@[simp] def maV (m:Machine):IV:=.agg [leversV m.levers,.int .i64 m.water,.int .i64 m.llo,.int .i64 m.lhi,balsV m.bals,.int .i64 m.wrong]
@[simp] def prV (p:Proof):IV:=.agg [deedsV p.chain.deeds,sightsV p.chain.sights,.int .i64 p.chain.wrong,leversV p.machine.levers,.int .i64 p.machine.water,.int .i64 p.machine.llo,.int .i64 p.machine.lhi,balsV p.machine.bals,.int .i64 p.machine.wrong,
 trialsV p.trials,.int .i64 p.need,.int .i64 p.rule]
def inR (n a b:Int):Prop:=a≤n∧n≤b
instance (n a b:Int):Decidable (inR n a b):=by unfold inR;infer_instance
section
variable {K:World→Prop} (hK:∀ w w',K w→Below w.heap.size w w'→K w')
include hK
theorem good67 (x a b:Int):Ev.Good Tryz.prog K 67 [.int .i64 x,.int .i64 a,.int .i64 b] (.bool (decide (inR x a b))):=by
 refine good_of_wp hK c67_ok (by simp) ?_
 by_cases h:a≤x<;>simp[inR,h]
theorem good130 (x a b:Int):Ev.Good Tryz.prog K 130 [.int .i64 x,.int .i64 a,.int .i64 b] (.bool (decide (inR x a b))):=by
 refine good_of_wp hK c130_ok (by simp) ?_
 by_cases h:a≤x<;>simp[inR,h]
theorem good135 (x a b:Int):Ev.Good Tryz.prog K 135 [.int .i64 x,.int .i64 a,.int .i64 b] (.bool (decide (inR x a b))):=by
 refine good_of_wp hK c135_ok (by simp) ?_
 by_cases h:a≤x<;>simp[inR,h]
theorem good58 (x a b:Int):Ev.Good Tryz.prog K 58 [.int .i64 x,.int .i64 a,.int .i64 b] (.bool (decide (inR x a b))):=by
 refine good_of_wp hK c58_ok (by simp) ?_
 by_cases h:a≤x<;>simp[inR,h]
theorem good174 (x a b:Int):Ev.Good Tryz.prog K 174 [.int .i64 x,.int .i64 a,.int .i64 b] (.bool (decide (inR x a b))):=by
 refine good_of_wp hK c174_ok (by simp) ?_
 by_cases h:a≤x<;>simp[inR,h]
theorem good87 (x a b:Int):Ev.Good Tryz.prog K 87 [.int .i64 x,.int .i64 a,.int .i64 b] (.bool (decide (inR x a b))):=by
 refine good_of_wp hK c87_ok (by simp) ?_
 simp
 exact callK_of (good58 hK x a b) (.inl rfl) (by simp)
theorem good144 (x a b:Int):Ev.Good Tryz.prog K 144 [.int .i64 x,.int .i64 a,.int .i64 b] (.bool (decide (inR x a b))):=by
 refine good_of_wp hK c144_ok (by simp) ?_
 simp
 exact callK_of (good174 hK x a b) (.inl rfl) (by simp)
theorem good214 (a b c:Int) (ha:0≤a∧a<1000000) (hc:0≤c∧c<1000000):Ev.Good Tryz.prog K 214 [.int .i64 a,.int .i64 b,.int .i64 c] (.int .i64 (if b=1 then c-1-a else a)):=by
 refine good_of_wp hK c214_ok (by simp) ?_
 by_cases hb:b=1
 ·simp[hb,IntKind.inR,IntKind.min,IntKind.max,IntKind.bits,IntKind.signed]
  omega
 ·simp[hb]
theorem good145 (a b c:Int) (ha:0≤a∧a<1000000) (hc:0≤c∧c<1000000):Ev.Good Tryz.prog K 145 [.int .i64 a,.int .i64 b,.int .i64 c] (.int .i64 (if b=1 then c-1-a else a)):=by
 refine good_of_wp hK c145_ok (by simp) ?_
 by_cases hb:b=1
 ·simp[hb,IntKind.inR,IntKind.min,IntKind.max,IntKind.bits,IntKind.signed]
  omega
 ·simp[hb]
theorem good133 (bar smith least:Int):Ev.Good Tryz.prog K 133 [.int .i64 bar,.int .i64 smith,.int .i64 least] (.bool (decide (inR bar least 99∧inR smith least 99))):=by
 refine good_of_wp hK c133_ok (by simp) ?_
 simp
 refine callK_of (good130 hK _ _ _) (.inl rfl) ?_
 by_cases h:inR bar least 99
 ·simp[h]
  exact callK_of (good130 hK _ _ _) (.inl rfl) (by simp)
 ·simp[h]
def grow (d:Deed):Int:=if d.what=1 then 1 else if d.what=2 then -1 else 0
theorem good132 (d:Deed):Ev.Good Tryz.prog K 132 [.agg (dC d)] (.int .i64 (grow d)):=by
 refine good_of_wp hK c132_ok (by simp) ?_
 by_cases h1:d.what=1
 ·simp[grow,h1]
 ·by_cases h2:d.what=2<;>simp[grow,h1,h2]
def isDeedS (d:Deed) (many:Int):Prop :=
 (d.what=1∧inR d.frm 0 2∧inR d.pos 0 many∧inR d.bar 0 99∧inR d.smith 0 99)∨(d.what=2∧inR d.frm 0 2∧inR d.pos 0 (many-1)∧d.bar=0∧d.smith=0) ∨
 ((d.what=3∨d.what=4)∧d.pos=0∧d.frm=0∧d.bar=0∧d.smith=0)
instance (d:Deed) (many:Int):Decidable (isDeedS d many):=by unfold isDeedS;infer_instance
theorem good131 (d:Deed) (many:Int) (hm:0≤many∧many<1000000):Ev.Good Tryz.prog K 131 [.agg (dC d),.int .i64 many] (.bool (decide (isDeedS d many))):=by
 refine good_of_wp hK c131_ok (by simp) ?_
 by_cases h1:d.what=1
 ·simp[h1,isDeedS]
  refine callK_of (good130 hK _ _ _) (.inl rfl) ?_
  by_cases h:inR d.frm 0 2
  ·simp[h]
   refine callK_of (good130 hK _ _ _) (.inl rfl) ?_
   by_cases h':inR d.pos 0 many
   ·simp[h']
    exact callK_of (good133 hK _ _ _) (.inl rfl) (by simp)
   ·simp[h']
  ·simp[h]
 ·by_cases h2:d.what=2
  ·by_cases h3:d.bar=0
   ·by_cases h4:d.smith=0
    ·simp[h2,h3,h4,isDeedS]
     refine callK_of (good130 hK _ _ _) (.inl rfl) ?_
     by_cases h:inR d.frm 0 2
     ·simp[h]
      exact ⟨by omega,callK_of (good130 hK _ _ _) (.inl rfl) (by simp)⟩
     ·simp[h]
    ·simp[h2,h3,h4,isDeedS]
   ·simp[h2,h3,isDeedS]
  ·by_cases h3:d.what=3
   ·simp[h3,isDeedS]
   ·by_cases h4:d.what=4
    ·simp[h4,isDeedS]
    ·simp[h1,h2,h3,h4,isDeedS]
end
end Go.Pf

/- Chains: lengths, checks, the links' numbers. -/
namespace Go.Pf
open Go Go.Ev Go.Proofs Go.RowKit
set_option maxRecDepth 8000
@[simp] def natsI (l:List Nat):IV:=.sl 1 (l.map fun (n:Nat)=>[.int .i64 (n:Int)])
def cnt (ds:List Deed) (i:Nat):Int:=((ds.take i).map grow).sum
@[simp] theorem cnt_zero (ds:List Deed):cnt ds 0=0:=by simp[cnt]
theorem cnt_succ (ds:List Deed) (i:Nat) (h:i<ds.length):cnt ds (i+1)=cnt ds i+grow ds[i]:=by
 unfold cnt
 rw[List.take_succ_eq_append_getElem h,List.map_append,List.sum_append]
 simp
theorem cnt_take (ds:List Deed) (i n:Nat) (h:i≤n):cnt (ds.take n) i=cnt ds i:=by
 simp[cnt,List.take_take,Nat.min_eq_left h]
theorem grow_bound (d:Deed) : -1≤grow d∧grow d≤1:=by
 unfold grow
 split
 ·omega
 ·split<;>omega
def OkD (ds:List Deed) (n:Nat):Prop:=∀ i (h:i<ds.length),i<n→isDeedS ds[i] (cnt ds i)
noncomputable instance (ds:List Deed) (n:Nat):Decidable (OkD ds n):=Classical.propDecidable _
theorem OkD.cnt {ds:List Deed} {n:Nat} (h:OkD ds n):∀ i,i≤n→i≤ds.length→0≤cnt ds i∧cnt ds i≤i
 | 0,_,_=>by simp
 | i+1,h1,h2=>by
   have ih:=OkD.cnt h i (by omega) (by omega)
   rw[cnt_succ ds i (by omega)]
   have hd:=h i (by omega) (by omega)
   have hb:=grow_bound (ds[i]'(by omega))
   refine ⟨?_,by push_cast;omega⟩
   rcases hd with ⟨h3,_⟩ | ⟨h3,_,h4,_⟩ | ⟨h3,_⟩
   ·simp[grow,h3];omega
   ·simp only[inR] at h4
    simp[grow,h3];omega
   ·have:grow (ds[i]'(by omega))=0:=by rcases h3 with h3 | h3<;>simp[grow,h3]
    omega
theorem OkD.succ {ds:List Deed} {n:Nat} (h:OkD ds n) (hn:n<ds.length) (hd:isDeedS ds[n] (Go.Pf.cnt ds n)):OkD ds (n+1):=fun i hi hin=>by
 rcases Nat.lt_succ_iff_lt_or_eq.1 hin with h1 | h1
 ·exact h i hi h1
 ·subst h1;exact hd
def lensL (ds:List Deed) (n:Nat):List Int:=(List.range (n+1)).map (cnt ds)
@[simp] theorem lensL_len (ds:List Deed) (n:Nat):(lensL ds n).length=n+1:=by simp[lensL]
theorem lensL_succ (ds:List Deed) (n:Nat):lensL ds (n+1)=lensL ds n++[cnt ds (n+1)]:=by simp[lensL,List.range_succ]
theorem lensL_get (ds:List Deed) (n i:Nat) (h:i<n+1):(lensL ds n)[i]'(by simpa using h)=cnt ds i:=by simp[lensL]
def isSightS (s:Sight) (ds:List Deed):Prop:=inR s.after 0 ds.length∧inR s.frm 0 1∧inR s.pos 0 (cnt ds s.after.toNat-1)∧inR s.bar (-1) 99∧inR s.smith (-1) 99
instance (s:Sight) (ds:List Deed):Decidable (isSightS s ds):=by unfold isSightS;infer_instance
structure OkC (c:Chain):Prop where
 len:c.deeds.length≤12
 slen:c.sights.length≤8
 wrong:inR c.wrong 0 8
 deeds:OkD c.deeds c.deeds.length
 sights:∀ s∈c.sights,isSightS s c.deeds
noncomputable instance (c:Chain):Decidable (OkC c):=Classical.propDecidable _
def idxs (p:Deed→Bool):List Deed→Nat→List Nat
 | [],_=>[]
 | d::r,i=>if p d then i::idxs p r (i+1) else idxs p r (i+1)
theorem idxs_append (p:Deed→Bool) (r:List Deed):∀ (l:List Deed) (i:Nat),idxs p (l++r) i=idxs p l i++idxs p r (i+l.length)
 | [],i=>by simp[idxs]
 | d::l,i=>by
   have e:i+1+l.length=i+(l.length+1):=by omega
   simp only[List.cons_append,idxs,idxs_append p r l,List.length_cons,e]
   split<;>simp
theorem idxs_succ (p:Deed→Bool) (ds:List Deed) (i:Nat) (h:i<ds.length):idxs p (ds.take (i+1)) 0=if p ds[i] then idxs p (ds.take i) 0++[i] else idxs p (ds.take i) 0:=by
 rw[List.take_succ_eq_append_getElem h,idxs_append]
 have e:(ds.take i).length=i:=by simp;omega
 simp only[e,Nat.zero_add,idxs]
 split<;>simp
theorem idxs_len (p:Deed→Bool):∀ (l:List Deed) (i:Nat),(idxs p l i).length≤l.length
 | [],_=>by simp[idxs]
 | d::l,i=>by
   have:=idxs_len p l (i+1)
   simp only[idxs]
   split<;>simp<;>omega
def isWeld (d:Deed):Bool:=decide (d.what=1)
def isProve (d:Deed):Bool:=decide (d.what=4)
def smithsL (ds:List Deed):List Int:=(ds.filter isWeld).map (·.smith)
def leftN (ds:List Deed):Int:=cnt ds ds.length
def allN (ds:List Deed):Nat:=(ds.filter isWeld).length
def beforeC (c:Chain) (n:Nat):Chain:=⟨c.deeds.take n,[],0⟩
section
variable {K:World→Prop} (hK:∀ w w',K w→Below w.heap.size w w'→K w')
include hK
theorem good173 (d:Deed) (many:Int) (hm:0≤many∧many<1000000):Ev.Good Tryz.prog K 173 [.agg (dC d),.int .i64 many] (.bool (decide (isDeedS d many))):=by
 refine good_of_wp hK c173_ok (by simp) ?_
 by_cases h1:d.what=1
 ·simp[h1,isDeedS]
  refine callK_of (good58 hK _ _ _) (.inl rfl) ?_
  by_cases h:inR d.frm 0 2
  ·simp[h]
   refine callK_of (good58 hK _ _ _) (.inl rfl) ?_
   by_cases h':inR d.pos 0 many
   ·simp[h']
    refine callK_of (good58 hK _ _ _) (.inl rfl) ?_
    by_cases h'':inR d.bar 0 99
    ·simp[h'']
     exact callK_of (good58 hK _ _ _) (.inl rfl) (by simp)
    ·simp[h'']
   ·simp[h']
  ·simp[h]
 ·by_cases h2:d.what=2
  ·simp[h2,isDeedS]
   refine callK_of (good58 hK _ _ _) (.inl rfl) ?_
   by_cases h:inR d.frm 0 2
   ·simp[h]
    refine ⟨by omega,callK_of (good58 hK _ _ _) (.inl rfl) ?_⟩
    by_cases h':inR d.pos 0 (many-1)
    ·simp[h']
     by_cases h'':d.bar=0
     ·simp[h'']
     ·simp[h'']
    ·simp[h']
   ·simp[h]
  ·by_cases h3:d.what=3
   ·simp[h3,isDeedS]
   ·by_cases h4:d.what=4
    ·simp[h4,isDeedS]
    ·simp[h1,h2,h3,h4,isDeedS]
theorem good142 (ds:List Deed) (hl:ds.length≤1000):Ev.Good Tryz.prog K 142 [deedsV ds] (.tup [if OkD ds ds.length then ints (lensL ds ds.length) else .sl 1 [],.bool (decide (OkD ds ds.length))]):=by
 refine good_of_wp hK c142_ok (by simp) ?_
 simp
 refine loop_q (fun i=>[(0,AV.iv (deedsV ds)),(4,AV.aref 7 (i+1)),(5,AV.iv (IV.int IntKind.i64 (i:Nat)))]) (fun i=>[(7,AO.arr 3 1 (emb ((lensL ds i).map fun n=>[.int .i64 n])) 0)]) ds.length (fun i=>OkD ds i) (fun i _ h=>by omega) ?_ ?_
 ·intro h
  rw[LoopAt_enter c142_b0.eq_1]
  simp[h]
  intro _
  exact List.take_of_length_le (by simp)
 ·intro i hi h ih
  have hb:=h.cnt i (Nat.le_refl _) (by omega)
  rw[LoopAt_enter c142_b0.eq_1]
  simp[hi,List.getElem?_append,lensL_get] at ih ⊢
  intro _
  refine callK_of (good173 hK ds[i] (cnt ds i) ⟨by omega,by omega⟩) (.inl rfl) ?_
  by_cases hd:isDeedS ds[i] (cnt ds i)
  ·have ih:=ih (h.succ hi hd)
   have hs:=cnt_succ ds i hi
   rw[lensL_succ,hs] at ih
   by_cases h1:ds[i].what=1
   ·have hg:cnt ds i+grow ds[i]=cnt ds i+1:=by simp[grow,h1]
    rw[hg] at ih
    simp[hd,h1,hi]
    exact ⟨by omega,by omega,by omega,by simpa using ih⟩
   ·by_cases h2:ds[i].what=2
    ·have hg:cnt ds i+grow ds[i]=cnt ds i-1:=by simp[grow,h2];omega
     rw[hg] at ih
     simp[hd,h2,hi]
     exact ⟨by omega,by omega,by omega,by simpa using ih⟩
    ·have hg:cnt ds i+grow ds[i]=cnt ds i:=by simp[grow,h1,h2]
     rw[hg] at ih
     simp[hd,h1,h2,hi]
     exact ⟨by omega,by omega,by simpa using ih⟩
  ·have hno:¬ OkD ds ds.length:=fun hh=>hd (hh i hi hi)
   simp[hd,hno]
theorem good143 (s:Sight) (ds:List Deed) (h:OkD ds ds.length) (hl:ds.length≤1000):Ev.Good Tryz.prog K 143 [.agg (sC s),ints (lensL ds ds.length)] (.bool (decide (isSightS s ds))):=by
 refine good_of_wp hK c143_ok (by simp) ?_
 by_cases h1:inR s.after 0 ds.length
 ·have h1':=h1
  simp only[inR] at h1'
  have hlt:s.after.toNat<ds.length+1:=by omega
  have hb:=h.cnt s.after.toNat (by omega) (by omega)
  have hg:=lensL_get ds ds.length s.after.toNat hlt
  simp[isSightS,h1]
  intros
  refine ⟨by omega,callK_of (good58 hK _ _ _) (.inl rfl) ?_⟩
  simp[h1]
  refine callK_of (good58 hK _ _ _) (.inl rfl) ?_
  by_cases h2:inR s.frm 0 1
  ·simp[h2,hlt,hg]
   refine ⟨by omega,by omega,callK_of (good58 hK _ _ _) (.inl rfl) ?_⟩
   by_cases h3:inR s.pos 0 (cnt ds s.after.toNat-1)
   ·simp[h3]
    refine callK_of (good58 hK _ _ _) (.inl rfl) ?_
    by_cases h4:inR s.bar (-1) 99
    ·simp[h4]
     exact callK_of (good58 hK _ _ _) (.inl rfl) (by simp)
    ·simp[h4]
   ·simp[h3]
  ·simp[h2]
 ·simp[isSightS,h1]
  intros
  refine ⟨by omega,callK_of (good58 hK _ _ _) (.inl rfl) ?_⟩
  simp[h1]
theorem good85 (c:Chain) (hl:c.deeds.length≤1000) (hs:c.sights.length≤1000):Ev.Good Tryz.prog K 85 [chV c] (.int .i64 (if OkC c then 0 else 20)):=by
 refine good_of_wp hK c85_ok (by simp) ?_
 by_cases h1:c.deeds.length≤12
 ·by_cases h2:c.sights.length≤8
  ·have h1':¬ (12:Int)<c.deeds.length:=by omega
   have h2':¬ (8:Int)<c.sights.length:=by omega
   simp[h1',h2']
   intro _ _
   refine callK_of (good58 hK _ _ _) (.inl rfl) ?_
   by_cases h3:inR c.wrong 0 8
   ·simp[h3]
    refine callK_of (good142 hK c.deeds hl) (.inl rfl) ?_
    by_cases h4:OkD c.deeds c.deeds.length
    ·simp[h4]
     refine loop_q (fun i=>[(1,AV.iv (.ptr [deedsV c.deeds,sightsV c.sights,.int .i64 c.wrong])),(3,AV.iv (ints (lensL c.deeds c.deeds.length))),(5,AV.iv (IV.int IntKind.i64 (i:Nat)))]) (fun _=>[]) c.sights.length (fun i=>∀ s∈c.sights.take i,isSightS s c.deeds) (by simp) ?_ ?_
     ·intro h
      rw[LoopAt_enter c85_b0.eq_1]
      have:OkC c:=⟨h1,h2,h3,h4,by simpa using h⟩
      simp[this]
     ·intro i hi h ih
      rw[LoopAt_enter c85_b0.eq_1]
      simp[hi] at ih ⊢
      intro _
      refine callK_of (good143 hK c.sights[i] c.deeds h4 hl) (.inl rfl) ?_
      by_cases h5:isSightS c.sights[i] c.deeds
      ·simp[h5]
       refine ⟨by omega,ih ?_⟩
       rw[List.take_succ_eq_append_getElem hi]
       intro s hs
       rcases List.mem_append.1 hs with hs | hs
       ·exact h s hs
       ·rw[List.mem_singleton] at hs;subst hs;exact h5
      ·have:¬ OkC c:=fun hh=>h5 (hh.sights _ (List.getElem_mem hi))
       simp[h5,this]
    ·have:¬ OkC c:=fun hh=>h4 hh.deeds
     simp[h4,this]
   ·have:¬ OkC c:=fun hh=>h3 hh.wrong
    simp[h3,this]
  ·have h1':¬ (12:Int)<c.deeds.length:=by omega
   have h2':(8:Int)<c.sights.length:=by omega
   have:¬ OkC c:=fun hh=>h2 hh.slen
   simp[h1',h2',this]
 ·have h1':(12:Int)<c.deeds.length:=by omega
  have:¬ OkC c:=fun hh=>h1 hh.len
  simp[h1',this]
theorem good80 (c:Chain) (hl:c.deeds.length≤1000) (hs:c.sights.length≤1000):Ev.Good Tryz.prog K 80 [chV c] (.int .i64 (if OkC c then 0 else 20)):=by
 refine good_of_wp hK c80_ok (by simp) ?_
 by_cases h1:c.deeds.length≤12
 ·by_cases h2:c.sights.length≤8
  ·have h1':¬ (12:Int)<c.deeds.length:=by omega
   have h2':¬ (8:Int)<c.sights.length:=by omega
   simp[h1',h2']
   intro _ _
   refine callK_of (good130 hK _ _ _) (.inl rfl) ?_
   by_cases h3:inR c.wrong 0 8
   ·simp[h3]
    intro _
    refine loop_q (fun i=>[(1,AV.iv (.ptr [deedsV c.deeds,sightsV c.sights,.int .i64 c.wrong])),(3,AV.aref 24 (i+1)),(26,AV.iv (deedsV c.deeds)),(27,AV.iv (.int .i64 c.deeds.length)),(28,AV.iv (IV.int IntKind.i64 (i:Nat)))])
     (fun i=>[(24,AO.arr 3 1 (emb ((lensL c.deeds i).map fun n=>[.int .i64 n])) 0)]) c.deeds.length (fun i=>OkD c.deeds i) (fun i _ h=>by omega) ?_ ?_
    ·intro h4
     rw[LoopAt_enter c80_b0.eq_1]
     simp
     intro _
     refine loop_q (fun i=>[(1,AV.iv (.ptr [deedsV c.deeds,sightsV c.sights,.int .i64 c.wrong])),(3,AV.aref 24 (c.deeds.length+1)),(52,AV.iv (sightsV c.sights)),(53,AV.iv (.int .i64 c.sights.length)),(54,AV.iv (IV.int IntKind.i64 (i:Nat)))])
      (fun i=>[(24,AO.arr 3 1 (emb ((lensL c.deeds c.deeds.length).map fun n=>[.int .i64 n])) 0)]) c.sights.length (fun i=>∀ s∈c.sights.take i,isSightS s c.deeds) (by simp) ?_ ?_
     ·intro h
      rw[LoopAt_enter c80_b1.eq_1]
      have:OkC c:=⟨h1,h2,h3,h4,by simpa using h⟩
      simp[this]
     ·intro i hi h ih
      rw[LoopAt_enter c80_b1.eq_1]
      simp[hi] at ih ⊢
      intros
      have hb0:=h4.cnt c.deeds.length (Nat.le_refl _) (Nat.le_refl _)
      refine callK_of (good130 hK _ _ _) (.inl rfl) ?_
      by_cases k1:inR c.sights[i].after 0 c.deeds.length
      ·have k1':=k1
       simp only[inR] at k1'
       have hlt:c.sights[i].after.toNat<c.deeds.length+1:=by omega
       have hb:=h4.cnt c.sights[i].after.toNat (by omega) (by omega)
       have hg:=lensL_get c.deeds c.deeds.length c.sights[i].after.toNat hlt
       simp[k1]
       refine callK_of (good130 hK _ _ _) (.inl rfl) ?_
       by_cases k2:inR c.sights[i].frm 0 1
       ·simp[k2,hlt,hg]
        have no:∀ q:Prop,(isSightS c.sights[i] c.deeds→q)→¬ q→¬ OkC c:=fun q h1 h2 hh=>h2 (h1 (hh.sights _ (List.getElem_mem hi)))
        refine ⟨by omega,by omega,callK_of (good130 hK _ _ _) (.inl rfl) ?_⟩
        by_cases k3:inR c.sights[i].pos 0 (cnt c.deeds c.sights[i].after.toNat-1)
        ·simp[k3]
         refine callK_of (good133 hK _ _ _) (.inl rfl) ?_
         by_cases k4:inR c.sights[i].bar (-1) 99∧inR c.sights[i].smith (-1) 99
         ·simp[k4]
          refine ⟨by omega,ih ?_⟩
          rw[List.take_succ_eq_append_getElem hi]
          intro s hs
          rcases List.mem_append.1 hs with hs | hs
          ·exact h s hs
          ·rw[List.mem_singleton] at hs;subst hs;exact ⟨k1,k2,k3,k4⟩
         ·have:=no _ (fun h=>h.2.2.2) k4
          simp[k4,this]
        ·have:=no _ (fun h=>h.2.2.1) k3
         simp[k3,this]
       ·have:¬ OkC c:=fun hh=>k2 (hh.sights _ (List.getElem_mem hi)).2.1
        simp[k2,this]
      ·have:¬ OkC c:=fun hh=>k1 (hh.sights _ (List.getElem_mem hi)).1
       simp[k1,this]
    ·intro i hi h ih
     have hb:=h.cnt i (Nat.le_refl _) (by omega)
     rw[LoopAt_enter c80_b0.eq_1]
     simp[hi,lensL_get] at ih ⊢
     refine callK_of (good131 hK c.deeds[i] (cnt c.deeds i) ⟨by omega,by omega⟩) (.inl rfl) ?_
     by_cases hd:isDeedS c.deeds[i] (cnt c.deeds i)
     ·have ih:=ih (h.succ hi hd)
      have hs:=cnt_succ c.deeds i hi
      have hg:=grow_bound c.deeds[i]
      rw[lensL_succ,hs] at ih
      simp[hd,hi,lensL_get]
      refine callK_of (good132 hK c.deeds[i]) (.inl rfl) ?_
      simp at ih ⊢
      intros
      and_intros<;>first | omega | exact ih
     ·have:¬ OkC c:=fun hh=>hd (hh.deeds i hi hi)
      simp[hd,this]
   ·have:¬ OkC c:=fun hh=>h3 hh.wrong
    simp[h3,this]
  ·have h1':¬ (12:Int)<c.deeds.length:=by omega
   have h2':(8:Int)<c.sights.length:=by omega
   have:¬ OkC c:=fun hh=>h2 hh.slen
   simp[h1',h2',this]
 ·have h1':(12:Int)<c.deeds.length:=by omega
  have:¬ OkC c:=fun hh=>h1 hh.len
  simp[h1',this]
theorem good88 (c:Chain) (hl:c.deeds.length≤1000):Ev.Good Tryz.prog K 88 [chV c] (natsI (idxs isProve c.deeds 0)):=by
 refine good_of_wp hK c88_ok (by simp) ?_
 simp
 refine loop_q (fun i=>[(1,AV.iv (.ptr [deedsV c.deeds,sightsV c.sights,.int .i64 c.wrong])),(3,AV.aref 3 (idxs isProve (c.deeds.take i) 0).length),(4,AV.iv (IV.int IntKind.i64 (i:Nat)))])
  (fun i=>[(3,AO.arr 3 1 (emb ((idxs isProve (c.deeds.take i) 0).map fun (n:Nat)=>[.int .i64 (n:Int)])) 0)]) c.deeds.length (fun i=>True) trivial ?_ ?_
 ·intro _
  rw[LoopAt_enter c88_b0.eq_1]
  simp
 ·intro i hi _ ih
  have hbn:=idxs_len isProve (c.deeds.take i) 0
  simp at hbn
  rw[idxs_succ _ _ _ hi] at ih
  rw[LoopAt_enter c88_b0.eq_1]
  by_cases hw:c.deeds[i].what=4
  ·simp[hi,isProve,hw] at ih ⊢
   intros
   and_intros<;>first | omega | exact ih
  ·simp[hi,isProve,hw] at ih ⊢
   intros
   and_intros<;>first | omega | exact ih
theorem good52 (l:List Int) (n:Int):Ev.Good Tryz.prog K 52 [ints l,.int .i64 n] (.bool (decide (n∈l))):=by
 refine good_of_wp hK c52_ok (by simp) ?_
 simp
 refine loop_q (fun i=>[(0,AV.iv (ints l)),(1,AV.iv (IV.int IntKind.i64 n)),(5,AV.iv (IV.int IntKind.i64 (i:Nat)))]) (fun _=>[]) l.length (fun i=>n ∉ l.take i) (by simp) ?_ ?_
 ·intro h
  rw[LoopAt_enter c52_b0.eq_1]
  simp at h ⊢
  exact fun _=>h
 ·intro i hi h ih
  rw[LoopAt_enter c52_b0.eq_1]
  simp[hi] at h ih ⊢
  refine fun hl=>⟨fun e=>e▸List.getElem_mem hi,fun e=>⟨by omega,ih ?_⟩⟩
  rw[List.take_succ_eq_append_getElem hi]
  simp only[List.mem_append,List.mem_singleton,not_or]
  exact ⟨h,fun c=>e c.symm⟩
theorem good34 (l m:List Int):Ev.Good Tryz.prog K 34 [ints l,ints m] (.bool (decide (l=m))):=by
 refine good_of_wp hK c34_ok (by simp) ?_
 simp
 intro hl hm
 refine ⟨fun e c=>e (by rw[c]),fun e=>?_⟩
 have e:l.length=m.length:=by omega
 refine loop_q (fun i=>[(0,AV.iv (ints l)),(1,AV.iv (ints m)),(5,AV.iv (IV.int IntKind.i64 (i:Nat)))]) (fun _=>[]) l.length (fun i=>l.take i=m.take i) (by simp) ?_ ?_
 ·intro h
  rw[LoopAt_enter c34_b0.eq_1]
  simp at h ⊢
  intro _
  rw[e,List.take_length] at h
  exact h
 ·intro i hi h ih
  have hi':i<m.length:=by omega
  rw[LoopAt_enter c34_b0.eq_1]
  simp[hi,hi'] at h ih ⊢
  intro _
  refine ⟨fun e c=>e (by subst c;rfl),fun e=>⟨by omega,ih ?_⟩⟩
  rw[List.take_succ_eq_append_getElem hi,List.take_succ_eq_append_getElem hi',h,e]
theorem good141 (c:Chain) (hl:c.deeds.length≤1000):Ev.Good Tryz.prog K 141 [chV c] (.tup [.int .i64 (leftN c.deeds),.int .i64 (allN c.deeds)]):=by
 refine good_of_wp hK c141_ok (by simp) ?_
 simp
 intro _
 refine loop_q (fun i=>[(2,AV.iv (.int .i64 (cnt c.deeds i))),(3,AV.iv (.int .i64 (allN (c.deeds.take i)))),(7,AV.iv (deedsV c.deeds)),(8,AV.iv (.int .i64 c.deeds.length)),(9,AV.iv (IV.int IntKind.i64 (i:Nat)))])
  (fun i=>[]) c.deeds.length (fun i => -(i:Int)≤cnt c.deeds i∧cnt c.deeds i≤i) (by simp) ?_ ?_
 ·intro _
  rw[LoopAt_enter c141_b0.eq_1]
  simp[leftN]
 ·intro i hi hb ih
  have hbn:allN (c.deeds.take i)≤i:=Nat.le_trans (List.length_filter_le _ _) (by simp;omega)
  have e:allN (c.deeds.take (i+1))=if isWeld c.deeds[i] then allN (c.deeds.take i)+1 else allN (c.deeds.take i):=by
   rw[List.take_succ_eq_append_getElem hi]
   simp only[allN,List.filter_append,List.filter_cons,List.filter_nil]
   split<;>simp
  have hg:=grow_bound c.deeds[i]
  have hs:=cnt_succ c.deeds i hi
  rw[hs,e] at ih
  rw[LoopAt_enter c141_b0.eq_1]
  simp[hi] at ih ⊢
  refine callK_of (good132 hK c.deeds[i]) (.inl rfl) ?_
  simp
  refine ⟨by omega,?_⟩
  refine callK_of (good132 hK c.deeds[i]) (.inl rfl) ?_
  by_cases hw:c.deeds[i].what=1
  ·have hg1:grow c.deeds[i]=1:=by simp[grow,hw]
   simp[hg1,isWeld,hw] at ih ⊢
   and_intros<;>first | omega | exact ih (by omega) (by omega)
  ·have hg1:grow c.deeds[i]≤0:=by unfold grow;split<;>first | omega | (split<;>omega)
   have hg2:¬ 0<grow c.deeds[i]:=by omega
   simp[hg2,isWeld,hw] at ih ⊢
   and_intros<;>first | omega | exact ih (by omega) (by omega)
theorem good83 (c:Chain) (hl:c.deeds.length≤1000) (hs:c.sights.length≤1000):Ev.Good Tryz.prog K 83 [chV c] (.tup [.int .i64 (if OkC c then leftN c.deeds else 0),.int .i64 (if OkC c then 0 else 20)]):=by
 refine good_of_wp hK c83_ok (by simp) ?_
 simp
 refine callK_of (good80 hK c hl hs) (.inl rfl) ?_
 by_cases h:OkC c
 ·simp[h]
  exact callK_of (good141 hK c hl) (.inl rfl) (by simp)
 ·simp[h]
theorem good84 (c:Chain) (n:Nat) (hn:n≤c.deeds.length):Ev.Good Tryz.prog K 84 [chV c,.int .i64 n] (chV (beforeC c n)):=by
 refine good_of_wp hK c84_ok (by simp) ?_
 simp[beforeC,List.map_take]
 omega
end
end Go.Pf

/- Machines: checks; copies; what is too large; what is equal. -/
namespace Go.Pf
open Go Go.Ev Go.Proofs Go.RowKit
set_option maxRecDepth 8000
def fi {α:Type} (p:α→Bool) (l:List α):Int:=if l.any p then (l.findIdx p:Int) else -1
theorem fi_at {α:Type} (p:α→Bool) (l:List α) (i:Nat) (h:i<l.length) (hp:p l[i]=true) (hn:∀ x∈l.take i,p x=false):fi p l=i:=by
 have h1:l.any p=true:=List.any_eq_true.2 ⟨l[i],List.getElem_mem h,hp⟩
 have h2:l.findIdx p=i:=by
  rw[List.findIdx_eq h]
  refine ⟨hp,fun j hj=>?_⟩
  have hm:l[j]'(by omega)∈l.take i:=by
   rw[List.mem_take_iff_getElem]
   exact ⟨j,by omega,rfl⟩
  have:=hn _ hm
  simpa using this
 simp[fi,h1,h2]
theorem fi_none {α:Type} (p:α→Bool) (l:List α) (hn:∀ x∈l,p x=false):fi p l = -1:=by
 have h1:l.any p=false:=List.any_eq_false.2 (fun x hx=>by simp[hn x hx])
 simp[fi,h1]
theorem fi_nonneg {α:Type} (p:α→Bool) (l:List α):decide (0≤fi p l)=l.any p:=by
 unfold fi
 cases l.any p<;>simp
def badLever (l:Lever):Bool:=!(decide (inR l.long 1 1000)&&decide (inR l.lo 1 l.hi)&&decide (l.hi≤1000))
def badBal (b:Balance):Bool:=!(decide (inR b.weight 0 9999)&&decide (inR b.mins 0 99)&&decide (inR b.load 0 999999999)&&decide (inR b.off 0 999999999))
structure OkM (m:Machine):Prop where
 len:m.levers.length≤3
 levers:∀ l∈m.levers,badLever l=false
 water:inR m.water 0 9999
 leak:inR m.llo 0 m.lhi
 lhi:m.lhi≤20
 blen:m.bals.length≤6
 bals:∀ b∈m.bals,badBal b=false
 wrong:inR m.wrong 0 6
noncomputable instance (m:Machine):Decidable (OkM m):=Classical.propDecidable _
section
variable {K:World→Prop} (hK:∀ w w',K w→Below w.heap.size w w'→K w')
include hK
theorem good137 (a b c:Int):Ev.Good Tryz.prog K 137 [.int .i64 a,.int .i64 b,.int .i64 c] (.bool (decide (inR a 0 9999∧inR b 0 99∧inR c 0 999999999))):=by
 refine good_of_wp hK c137_ok (by simp) ?_
 simp
 refine callK_of (good135 hK _ _ _) (.inl rfl) ?_
 by_cases h1:inR a 0 9999
 ·simp[h1]
  refine callK_of (good135 hK _ _ _) (.inl rfl) ?_
  by_cases h2:inR b 0 99
  ·simp[h2]
   exact callK_of (good135 hK _ _ _) (.inl rfl) (by simp)
  ·simp[h2]
 ·simp[h1]
theorem good91 (a b c:Int):Ev.Good Tryz.prog K 91 [.int .i64 a,.int .i64 b,.int .i64 c] (.bool (decide (inR a 0 9999∧inR b 0 99∧inR c 0 999999999))):=by
 refine good_of_wp hK c91_ok (by simp) ?_
 simp
 refine callK_of (good144 hK _ _ _) (.inl rfl) ?_
 by_cases h1:inR a 0 9999
 ·simp[h1]
  refine callK_of (good144 hK _ _ _) (.inl rfl) ?_
  by_cases h2:inR b 0 99
  ·simp[h2]
   exact callK_of (good144 hK _ _ _) (.inl rfl) (by simp)
  ·simp[h2]
 ·simp[h1]
theorem good134 (l:Lever):Ev.Good Tryz.prog K 134 [.agg (leC l)] (.bool (badLever l)):=by
 refine good_of_wp hK c134_ok (by simp) ?_
 simp
 refine callK_of (good135 hK _ _ _) (.inl rfl) ?_
 by_cases h1:inR l.long 1 1000
 ·simp[h1]
  refine callK_of (good135 hK _ _ _) (.inl rfl) ?_
  by_cases h2:inR l.lo 1 l.hi
  ·by_cases h3:l.hi≤1000
   ·have h3':¬ 1000<l.hi:=by omega
    simp[h1,h2,h3,badLever,h3']
   ·have h3':1000<l.hi:=by omega
    simp[h1,h2,h3,badLever,h3']
  ·simp[h2,badLever]
 ·simp[h1,badLever]
theorem good136 (b:Balance):Ev.Good Tryz.prog K 136 [.agg (baC b)] (.bool (badBal b)):=by
 refine good_of_wp hK c136_ok (by simp) ?_
 simp
 refine callK_of (good137 hK _ _ _) (.inl rfl) ?_
 by_cases h1:inR b.weight 0 9999∧inR b.mins 0 99∧inR b.load 0 999999999
 ·simp[h1]
  refine callK_of (good135 hK _ _ _) (.inl rfl) ?_
  by_cases h2:inR b.off 0 999999999
  ·simp[h1,h2,badBal]
  ·simp[h2,badBal]
 ·have:badBal b=true:=by
   simp only[badBal,Bool.not_eq_true',Bool.and_eq_false_iff,decide_eq_false_iff_not]
   by_cases h2:inR b.weight 0 9999
   ·by_cases h3:inR b.mins 0 99
    ·by_cases h4:inR b.load 0 999999999
     ·exact absurd ⟨h2,h3,h4⟩ h1
     ·simp[h4]
    ·simp[h3]
   ·simp[h2]
  simp[h1,this]
theorem good171 (l:List Lever) (g:FuncId) (p:Lever→Bool) (hg:∀ x,Ev.Good Tryz.prog K g [.agg (leC x)] (.bool (p x))) (hc:callee Tryz.prog g=true) (hl:l.length≤1000):Ev.Good Tryz.prog K 171 [leversV l,.fn g] (.int .i64 (fi p l)):=by
 refine good_of_wp hK c171_ok (by simp) ?_
 simp
 intro _
 refine loop_q (fun i=>[(0,AV.iv (leversV l)),(1,AV.iv (.fn g)),(7,AV.iv (.int .i64 l.length)),(8,AV.iv (IV.int IntKind.i64 (i:Nat)))]) (fun _=>[]) l.length (fun i=>∀ x∈l.take i,p x=false) (by simp) ?_ ?_
 ·intro h
  rw[LoopAt_enter c171_b0.eq_1]
  rw[List.take_length] at h
  simp[fi_none p l h]
 ·intro i hi h ih
  rw[LoopAt_enter c171_b0.eq_1]
  simp[hi] at ih ⊢
  refine ⟨hc,callK_of (hg l[i]) (.inl rfl) ?_⟩
  by_cases hp:p l[i]=true
  ·simp[hp,fi_at p l i hi hp h]
  ·have hp':p l[i]=false:=by simpa using hp
   simp[hp']
   refine ⟨by omega,ih ?_⟩
   rw[List.take_succ_eq_append_getElem hi]
   intro x hx
   rcases List.mem_append.1 hx with hx | hx
   ·exact h x hx
   ·rw[List.mem_singleton] at hx;subst hx;exact hp'
theorem good172 (l:List Balance) (g:FuncId) (p:Balance→Bool) (hg:∀ x,Ev.Good Tryz.prog K g [.agg (baC x)] (.bool (p x))) (hc:callee Tryz.prog g=true) (hl:l.length≤1000):Ev.Good Tryz.prog K 172 [balsV l,.fn g] (.int .i64 (fi p l)):=by
 refine good_of_wp hK c172_ok (by simp) ?_
 simp
 intro _
 refine loop_q (fun i=>[(0,AV.iv (balsV l)),(1,AV.iv (.fn g)),(7,AV.iv (.int .i64 l.length)),(8,AV.iv (IV.int IntKind.i64 (i:Nat)))]) (fun _=>[]) l.length (fun i=>∀ x∈l.take i,p x=false) (by simp) ?_ ?_
 ·intro h
  rw[LoopAt_enter c172_b0.eq_1]
  rw[List.take_length] at h
  simp[fi_none p l h]
 ·intro i hi h ih
  rw[LoopAt_enter c172_b0.eq_1]
  simp[hi] at ih ⊢
  refine ⟨hc,callK_of (hg l[i]) (.inl rfl) ?_⟩
  by_cases hp:p l[i]=true
  ·simp[hp,fi_at p l i hi hp h]
  ·have hp':p l[i]=false:=by simpa using hp
   simp[hp']
   refine ⟨by omega,ih ?_⟩
   rw[List.take_succ_eq_append_getElem hi]
   intro x hx
   rcases List.mem_append.1 hx with hx | hx
   ·exact h x hx
   ·rw[List.mem_singleton] at hx;subst hx;exact hp'
theorem good163 (l:List Deed) (g:FuncId) (p:Deed→Bool) (hg:∀ x,Ev.Good Tryz.prog K g [.agg (dC x)] (.bool (p x))) (hc:callee Tryz.prog g=true) (hl:l.length≤1000):Ev.Good Tryz.prog K 163 [deedsV l,.fn g] (.int .i64 (fi p l)):=by
 refine good_of_wp hK c163_ok (by simp) ?_
 simp
 intro _
 refine loop_q (fun i=>[(0,AV.iv (deedsV l)),(1,AV.iv (.fn g)),(7,AV.iv (.int .i64 l.length)),(8,AV.iv (IV.int IntKind.i64 (i:Nat)))]) (fun _=>[]) l.length (fun i=>∀ x∈l.take i,p x=false) (by simp) ?_ ?_
 ·intro h
  rw[LoopAt_enter c163_b0.eq_1]
  rw[List.take_length] at h
  simp[fi_none p l h]
 ·intro i hi h ih
  rw[LoopAt_enter c163_b0.eq_1]
  simp[hi] at ih ⊢
  refine ⟨hc,callK_of (hg l[i]) (.inl rfl) ?_⟩
  by_cases hp:p l[i]=true
  ·simp[hp,fi_at p l i hi hp h]
  ·have hp':p l[i]=false:=by simpa using hp
   simp[hp']
   refine ⟨by omega,ih ?_⟩
   rw[List.take_succ_eq_append_getElem hi]
   intro x hx
   rcases List.mem_append.1 hx with hx | hx
   ·exact h x hx
   ·rw[List.mem_singleton] at hx;subst hx;exact hp'
theorem good170 (l:List Int) (g:FuncId) (fs cs:List IV) (p:Int→Bool) (hg:∀ x∈l,Ev.Good Tryz.prog K g (fs++[.int .i64 x]++cs) (.bool (p x))) (hc:callee Tryz.prog g=true) (hl:l.length≤1000):Ev.Good Tryz.prog K 170 [ints l,.clo g fs cs] (.int .i64 (fi p l)):=by
 refine good_of_wp hK c170_ok (by simp) ?_
 simp
 intro _
 refine loop_q (fun i=>[(0,AV.iv (ints l)),(1,AV.iv (.clo g fs cs)),(7,AV.iv (.int .i64 l.length)),(8,AV.iv (IV.int IntKind.i64 (i:Nat)))]) (fun _=>[]) l.length (fun i=>∀ x∈l.take i,p x=false) (by simp) ?_ ?_
 ·intro h
  rw[LoopAt_enter c170_b0.eq_1]
  rw[List.take_length] at h
  simp[fi_none p l h]
 ·intro i hi h ih
  rw[LoopAt_enter c170_b0.eq_1]
  have hgi:=hg l[i] (List.getElem_mem hi)
  rw[List.append_assoc] at hgi
  simp[hi] at ih ⊢
  refine ⟨hc,callK_of hgi (.inl rfl) ?_⟩
  by_cases hp:p l[i]=true
  ·simp[hp,fi_at p l i hi hp h]
  ·have hp':p l[i]=false:=by simpa using hp
   simp[hp']
   refine ⟨by omega,ih ?_⟩
   rw[List.take_succ_eq_append_getElem hi]
   intro x hx
   rcases List.mem_append.1 hx with hx | hx
   ·exact h x hx
   ·rw[List.mem_singleton] at hx;subst hx;exact hp'
theorem good129 (l:List Int) (g:FuncId) (fs cs:List IV) (p:Int→Bool) (hg:∀ x∈l,Ev.Good Tryz.prog K g (fs++[.int .i64 x]++cs) (.bool (p x))) (hc:callee Tryz.prog g=true) (hl:l.length≤1000):Ev.Good Tryz.prog K 129 [ints l,.clo g fs cs] (.bool (l.any p)):=by
 refine good_of_wp hK c129_ok (by simp) ?_
 simp
 refine callK_of (good170 hK l g fs cs p hg hc hl) (.inl rfl) ?_
 simp[fi_nonneg]
theorem good138 (l:List Lever) (g:FuncId) (p:Lever→Bool) (hg:∀ x,Ev.Good Tryz.prog K g [.agg (leC x)] (.bool (p x))) (hc:callee Tryz.prog g=true) (hl:l.length≤1000):Ev.Good Tryz.prog K 138 [leversV l,.fn g] (.bool (l.any p)):=by
 refine good_of_wp hK c138_ok (by simp) ?_
 simp
 refine callK_of (good171 hK l g p hg hc hl) (.inl rfl) ?_
 simp[fi_nonneg]
theorem good139 (l:List Balance) (g:FuncId) (p:Balance→Bool) (hg:∀ x,Ev.Good Tryz.prog K g [.agg (baC x)] (.bool (p x))) (hc:callee Tryz.prog g=true) (hl:l.length≤1000):Ev.Good Tryz.prog K 139 [balsV l,.fn g] (.bool (l.any p)):=by
 refine good_of_wp hK c139_ok (by simp) ?_
 simp
 refine callK_of (good172 hK l g p hg hc hl) (.inl rfl) ?_
 simp[fi_nonneg]
theorem good81 (m:Machine) (hl:m.levers.length≤1000) (hb:m.bals.length≤1000):Ev.Good Tryz.prog K 81 [maV m] (.int .i64 (if OkM m then 0 else 30)):=by
 refine good_of_wp hK c81_ok (by simp) ?_
 have no:∀ q:Prop,(OkM m→q)→¬ q→¬ OkM m:=fun q h1 h2 h=>h2 (h1 h)
 by_cases h1:m.levers.length≤3
 ·have h1':¬ (3:Int)<m.levers.length:=by omega
  simp[h1']
  intro _
  refine callK_of (good138 hK m.levers 134 badLever (good134 hK) (by kernel_rfl) hl) (.inl rfl) ?_
  by_cases h2:m.levers.any badLever=true
  ·have:¬ OkM m:=no (m.levers.any badLever=false) (fun h=>by simpa using h.levers) (by simp[h2])
   simp[h2,this]
  ·have h2':m.levers.any badLever=false:=by simpa using h2
   simp[h2']
   refine callK_of (good135 hK _ _ _) (.inl rfl) ?_
   by_cases h3:inR m.water 0 9999
   ·simp[h3]
    refine callK_of (good135 hK _ _ _) (.inl rfl) ?_
    by_cases h4:inR m.llo 0 m.lhi
    ·by_cases h5:m.lhi≤20
     ·have h5':¬ 20<m.lhi:=by omega
      by_cases h6:m.bals.length≤6
      ·have h6':¬ (6:Int)<m.bals.length:=by omega
       simp[h4,h5',h6']
       intro _
       refine callK_of (good139 hK m.bals 136 badBal (good136 hK) (by kernel_rfl) hb) (.inl rfl) ?_
       by_cases h7:m.bals.any badBal=true
       ·have:¬ OkM m:=no (m.bals.any badBal=false) (fun h=>by simpa using h.bals) (by simp[h7])
        simp[h7,this]
       ·have h7':m.bals.any badBal=false:=by simpa using h7
        simp[h7']
        refine callK_of (good135 hK _ _ _) (.inl rfl) ?_
        by_cases h8:inR m.wrong 0 6
        ·have:OkM m:=⟨h1,by simpa using h2',h3,h4,h5,h6,by simpa using h7',h8⟩
         simp[h8,this]
        ·have:=no _ OkM.wrong h8
         simp[h8,this]
      ·have h6':(6:Int)<m.bals.length:=by omega
       have:=no _ OkM.blen h6
       simp[h4,h5',h6',this]
     ·have h5':20<m.lhi:=by omega
      have:=no _ OkM.lhi h5
      simp[h4,h5',this]
    ·have:=no _ OkM.leak h4
     simp[h4,this]
   ·have:=no _ OkM.water h3
    simp[h3,this]
 ·have h1':(3:Int)<m.levers.length:=by omega
  have:=no _ OkM.len h1
  simp[h1',this]
end
end Go.Pf

/- The trials of a chain: the iterator; the check of a proof. -/
namespace Go.Pf
open Go Go.Ev Go.Proofs Go.RowKit
set_option maxRecDepth 8000
section
variable {P:Program} {K:World→Prop}
theorem Rnds.first {ps:List Nat} {asn body:AC} {ks ids:List Nat} {eK:Env} {wy:Ev.Way} (hwy:wy≠.fall):∀ (L:List (List IV)) (so oR:Nat→Objs) (bad:Nat→Prop),
  (∀ i x,L[i]?=some x→(∀ j,j<i→¬ bad j)→¬ bad i→Rnd P K ps asn body ks ids eK x (so i) .fall (so (i+1)))→(∀ i x,L[i]?=some x→(∀ j,j<i→¬ bad j)→bad i→Rnd P K ps asn body ks ids eK x (so i) wy (oR i)) →
  (∃ i,i<L.length∧bad i∧(∀ j,j<i→¬ bad j)∧Rnds P K ps asn body ks ids eK L (so 0) wy (oR i))∨((∀ i,i<L.length→¬ bad i)∧Rnds P K ps asn body ks ids eK L (so 0) .fall (so L.length))
 | [],so,oR,bad,_,_=>.inr ⟨by simp,.nil _⟩
 | x::r,so,oR,bad,h1,h2=>by
   by_cases hb:bad 0
   ·exact .inl ⟨0,by simp,hb,by simp,.stop x r _ _ wy hwy (h2 0 x rfl (by simp) hb)⟩
   ·have hx:=h1 0 x rfl (by simp) hb
    have lift:∀ i,(∀ j,j<i→¬ bad (j+1))→∀ j,j<i+1→¬ bad j:=fun i hh j hj=>by
     cases j with
     | zero=>exact hb
     | succ j=>exact hh j (by omega)
    rcases Rnds.first hwy r (fun i=>so (i+1)) (fun i=>oR (i+1)) (fun i=>bad (i+1)) (fun i y hy hh hn=>h1 (i+1) y (by simpa using hy) (lift i hh) hn) (fun i y hy hh hn=>h2 (i+1) y (by simpa using hy) (lift i hh) hn) with ⟨i,g1,g2,g3,g4⟩ | ⟨g1,g2⟩
    ·exact .inl ⟨i+1,by simp;omega,g2,lift i g3,.next x r _ _ _ _ hx g4⟩
    ·refine .inr ⟨fun i hi=>?_,.next x r _ _ _ _ hx g2⟩
     cases i with
     | zero=>exact hb
     | succ i=>exact g1 i (by simpa using hi)
end
def pv (ds:List Deed):List Nat:=idxs isProve ds 0
theorem pv_len (ds:List Deed):(pv ds).length≤ds.length:=idxs_len _ _ _
theorem idxs_lt (p:Deed→Bool):∀ (l:List Deed) (i j:Nat),j∈idxs p l i→i≤j∧j<i+l.length
 | [],i,j,h=>by simp[idxs] at h
 | d::l,i,j,h=>by
   simp only[idxs] at h
   split at h
   ·rcases List.mem_cons.1 h with h | h
    ·subst h;simp
    ·have:=idxs_lt p l (i+1) j h
     simp;omega
   ·have:=idxs_lt p l (i+1) j h
    simp;omega
theorem pv_lt {ds:List Deed} {j:Nat} (h:j∈pv ds):j<ds.length:=by
 have:=idxs_lt isProve ds 0 j h
 omega
theorem pv_get {ds:List Deed} {t:Nat} (h:t<(pv ds).length):(pv ds)[t]<ds.length:=pv_lt (List.getElem_mem h)
def trs:List Nat→Nat→List (List IV)
 | [],_=>[]
 | j::r,t=>[.int .i64 t,.int .i64 j]::trs r (t+1)
theorem trs_get:∀ (l:List Nat) (t i:Nat) (x:List IV),(trs l t)[i]?=some x→∃ h:i<l.length,x=[.int .i64 ((t+i:Nat):Int),.int .i64 (l[i]:Nat)]
 | [],t,i,x,h=>by simp[trs] at h
 | j::r,t,0,x,h=>by
   simp[trs] at h
   exact ⟨by simp,by simp[h]⟩
 | j::r,t,i+1,x,h=>by
   simp[trs] at h
   obtain ⟨h1,h2⟩:=trs_get r (t+1) i x h
   refine ⟨by simpa using h1,?_⟩
   rw[h2]
   have e:t+1+i=t+(i+1):=by omega
   simp[e]
@[simp] theorem trs_len:∀ (l:List Nat) (t:Nat),(trs l t).length=l.length
 | [],_=>rfl
 | j::r,t=>by simp[trs,trs_len r (t+1)]
section
variable {K:World→Prop}
theorem iter140 (c:Chain) (hl:c.deeds.length≤1000):IterX Tryz.prog K 140 [] [.ptr [deedsV c.deeds,sightsV c.sights,.int .i64 c.wrong]] (trs (pv c.deeds) 0):=by
 intro s b s' hf
 refine goodx_of_wp c140_ok (by simp) hf.v rfl ?_
 simp
 intro _
 refine loop_i c.deeds.length (fun i e o=>∃ t si,e=[(0,AV.cb 0),(3,AV.iv (.int .i64 (t:Nat))),(7,AV.iv (deedsV c.deeds)),(8,AV.iv (.int .i64 c.deeds.length)),(9,AV.iv (.int .i64 (i:Nat)))]∧o=[(0,.ext si)]∧t≤i ∧
  Feeds Tryz.prog K (trs (idxs isProve (c.deeds.drop i) i) t) si b s') ?_ ?_ _ _ ⟨0,s,rfl,rfl,Nat.le_refl _,by simpa[pv] using hf⟩
 ·rintro e o ⟨t,si,rfl,rfl,ht,hfd⟩
  rw[LoopAt_enter c140_b0.eq_1]
  rw[List.drop_length] at hfd
  simp only[idxs,trs] at hfd
  cases hfd
  simp
 ·rintro i e o hi ⟨t,si,rfl,rfl,ht,hfd⟩ ih
  rw[LoopAt_enter c140_b0.eq_1]
  rw[List.drop_eq_getElem_cons hi] at hfd
  simp only[idxs] at hfd
  by_cases hp:c.deeds[i].what=4
  ·simp[isProve,hp,trs] at hfd
   simp[hi,hp]
   cases hfd with
   | stop _ _ _ _ hg =>
     refine callB_of hg rfl ?_
     simp
   | next _ _ _ s1 _ _ hg hr =>
     refine callB_of hg rfl ?_
     simp
     refine ⟨by omega,by omega,ih _ _ ⟨t+1,s1,by simp,rfl,by omega,by simpa using hr⟩⟩
  ·simp[isProve,hp] at hfd
   simp[hi,hp]
   refine ⟨by omega,ih _ _ ⟨t,si,by simp,rfl,by omega,by simpa[isProve] using hfd⟩⟩
end
def okTrial (t:Trial) (many:Int):Prop:=inR t.weight 0 9999∧inR t.mins 0 99∧inR t.broke (-1) (many-1)
instance (t:Trial) (many:Int):Decidable (okTrial t many):=by unfold okTrial;infer_instance
structure OkP (p:Proof):Prop where
 chain:OkC p.chain
 machine:OkM p.machine
 need:inR p.need 0 999999999
 rule:inR p.rule 1 12
 many:p.trials.length=(pv p.chain.deeds).length
 trials:∀ i (h:i<(pv p.chain.deeds).length) (h':i<p.trials.length),okTrial p.trials[i] (cnt p.chain.deeds (pv p.chain.deeds)[i])
noncomputable instance (p:Proof):Decidable (OkP p):=Classical.propDecidable _
structure Small (p:Proof):Prop where
 deeds:p.chain.deeds.length≤1000
 sights:p.chain.sights.length≤1000
 levers:p.machine.levers.length≤1000
 bals:p.machine.bals.length≤1000
 trials:p.trials.length≤1000
theorem OkD.take {ds:List Deed} {n m:Nat} (h:OkD ds n) (hm:m≤n):OkD (ds.take m) (ds.take m).length:=fun i hi hin=>by
 have hl:(ds.take m).length≤m:=by simp;omega
 have h1:i<ds.length:=by simp at hi;omega
 rw[List.getElem_take,cnt_take ds i m (by omega)]
 exact h i h1 (by omega)
theorem okC_before {c:Chain} {n:Nat} (h:OkD c.deeds c.deeds.length) (hl:c.deeds.length≤12) (hn:n≤c.deeds.length):OkC (beforeC c n) :=
 ⟨by simp[beforeC];omega,by simp[beforeC],by simp[beforeC,inR],h.take hn,by simp[beforeC]⟩
theorem left_before (c:Chain) (n:Nat) (hn:n≤c.deeds.length):leftN (beforeC c n).deeds=cnt c.deeds n:=by
 have:(c.deeds.take n).length=n:=by simp;omega
 simp only[leftN,beforeC,this]
 exact cnt_take _ _ _ (Nat.le_refl _)
section
variable {K:World→Prop} (hK:∀ w w',K w→Below w.heap.size w w'→K w')
include hK
theorem good82 (c:Chain):Ev.Good Tryz.prog K 82 [chV c] (.clo 140 [] [.ptr [deedsV c.deeds,sightsV c.sights,.int .i64 c.wrong]]):=by
 refine good_of_wp hK c82_ok (by simp) ?_
 simp
theorem good25 (p:Proof) (hs:Small p):Ev.Good Tryz.prog K 25 [prV p] (.int .i64 (if OkP p then 0 else 60)):=by
 refine good_of_wp hK c25_ok (by simp) ?_
 have no:∀ q:Prop,(OkP p→q)→¬ q→¬ OkP p:=fun q h1 h2 h=>h2 (h1 h)
 simp
 refine callK_of (good80 hK p.chain hs.deeds hs.sights) (.inl rfl) ?_
 by_cases h1:OkC p.chain
 ·simp[h1]
  refine callK_of (good81 hK p.machine hs.levers hs.bals) (.inl rfl) ?_
  by_cases h2:OkM p.machine
  ·simp[h2]
   refine callK_of (good67 hK _ _ _) (.inl rfl) ?_
   by_cases h3:inR p.need 0 999999999
   ·simp[h3]
    refine callK_of (good67 hK _ _ _) (.inl rfl) ?_
    by_cases h4:inR p.rule 1 12
    ·simp[h4]
     refine callK_of (good82 hK p.chain) (.inl rfl) ?_
     simp
     have hb:=h1.deeds.cnt
     let bad:Nat→Prop:=fun i=>¬ ∃ (h:i<(pv p.chain.deeds).length) (h':i<p.trials.length),okTrial p.trials[i] (cnt p.chain.deeds (pv p.chain.deeds)[i])
     have hpl:=pv_len p.chain.deeds
     have hd12:=h1.len
     rcases Rnds.first (P:=Tryz.prog) (K:=K) (ps:=[34,35]) (asn:=c25_b0a) (body:=c25_b0) (ks:=[1,2,3]) (ids:=[2,3]) (eK:=[(1,AV.iv (.ptr [deedsV p.chain.deeds,sightsV p.chain.sights,.int .i64 p.chain.wrong,leversV p.machine.levers,.int .i64 p.machine.water,.int .i64 p.machine.llo,.int .i64 p.machine.lhi,balsV p.machine.bals,.int .i64 p.machine.wrong,trialsV p.trials,.int .i64 p.need,.int .i64 p.rule])),(2,AV.loc 2 0),(3,AV.loc 3 0)]) (wy:=.ret) (by simp) (trs (pv p.chain.deeds) 0)
      (fun i=>[(2,.box [.iv (.int .i64 0)]),(3,.box [.iv (.int .i64 (i:Nat))])]) (fun i=>[(2,.box [.iv (.int .i64 60)]),(3,.box [.iv (.int .i64 ((i+1:Nat):Int))])]) bad
      (fun i x hx hj hn=>by
        obtain ⟨hi,rfl⟩:=trs_get _ _ _ _ hx
        obtain ⟨_,hi',ho⟩:=Classical.not_not.1 hn
        have hlt:=pv_get hi
        refine ⟨rfl,?_⟩
        have hi2:¬ (p.trials.length:Int)≤i:=by omega
        simp[c25_b0a,c25_b0,hi2,hi']
        have hb':=hb (pv p.chain.deeds)[i] (by omega) (by omega)
        have hC:OkC (beforeC p.chain (pv p.chain.deeds)[i]):=okC_before h1.deeds hd12 (by omega)
        have hL:=left_before p.chain (pv p.chain.deeds)[i] (by omega)
        refine ⟨by omega,fun _=>?_⟩
        refine callK_of (good84 hK p.chain (pv p.chain.deeds)[i] (by omega)) (.inl rfl) ?_
        simp
        refine callK_of (good83 hK (beforeC p.chain (pv p.chain.deeds)[i]) (by simp[beforeC];omega) (by simp[beforeC])) (.inl rfl) ?_
        simp[hC,hL]
        refine callK_of (good67 hK _ _ _) (.inl rfl) ?_
        simp[ho.1]
        refine callK_of (good67 hK _ _ _) (.inl rfl) ?_
        simp[ho.2.1]
        refine ⟨by omega,callK_of (good67 hK _ _ _) (.inl rfl) ?_⟩
        simp[ho.2.2]) (fun i x hx hj hn=>by
        obtain ⟨hi,rfl⟩:=trs_get _ _ _ _ hx
        have hlt:=pv_get hi
        refine ⟨rfl,?_⟩
        by_cases hi':i<p.trials.length
        ·have hi2:¬ (p.trials.length:Int)≤i:=by omega
         have ho:¬ okTrial p.trials[i] (cnt p.chain.deeds (pv p.chain.deeds)[i]):=fun h=>hn ⟨hi,hi',h⟩
         simp[c25_b0a,c25_b0,hi2,hi']
         have hb':=hb (pv p.chain.deeds)[i] (by omega) (by omega)
         have hC:OkC (beforeC p.chain (pv p.chain.deeds)[i]):=okC_before h1.deeds hd12 (by omega)
         have hL:=left_before p.chain (pv p.chain.deeds)[i] (by omega)
         refine ⟨by omega,fun _=>?_⟩
         refine callK_of (good84 hK p.chain (pv p.chain.deeds)[i] (by omega)) (.inl rfl) ?_
         simp
         refine callK_of (good83 hK (beforeC p.chain (pv p.chain.deeds)[i]) (by simp[beforeC];omega) (by simp[beforeC])) (.inl rfl) ?_
         simp[hC,hL]
         refine callK_of (good67 hK _ _ _) (.inl rfl) ?_
         by_cases k1:inR p.trials[i].weight 0 9999
         ·simp[k1]
          refine callK_of (good67 hK _ _ _) (.inl rfl) ?_
          by_cases k2:inR p.trials[i].mins 0 99
          ·simp[k2]
           refine ⟨by omega,callK_of (good67 hK _ _ _) (.inl rfl) ?_⟩
           by_cases k3:inR p.trials[i].broke (-1) (cnt p.chain.deeds (pv p.chain.deeds)[i]-1)
           ·exact absurd ⟨k1,k2,k3⟩ ho
           ·simp[k3]
          ·simp[k2]
         ·simp[k1]
        ·have hi2:(p.trials.length:Int)≤i:=by omega
         simp[c25_b0a,c25_b0,hi2]
         omega) with ⟨i,g1,g2,g3,g4⟩ | ⟨g1,g2⟩
     ·refine Wp_range (wy:=.ret) (o':=[(2,.box [.iv (.int .i64 60)]),(3,.box [.iv (.int .i64 ((i+1:Nat):Int))])]) rfl (by kernel_rfl) (iter140 p.chain hs.deeds) (by simpa using g4) ?_
      rw[trs_len] at g1
      have:¬ OkP p:=fun hh=>g2 ⟨g1,by rw[hh.many];exact g1,hh.trials i g1 (by rw[hh.many];exact g1)⟩
      simp[this]
     ·refine Wp_range (wy:=.fall) (o':=[(2,.box [.iv (.int .i64 0)]),(3,.box [.iv (.int .i64 ((trs (pv p.chain.deeds) 0).length:Nat))])]) rfl (by kernel_rfl) (iter140 p.chain hs.deeds) (by simpa using g2) ?_
      rw[trs_len] at g1
      have hge:(pv p.chain.deeds).length≤p.trials.length:=by
       rcases Nat.eq_zero_or_pos (pv p.chain.deeds).length with h | h
       ·omega
       ·obtain ⟨_,h2,_⟩:=Classical.not_not.1 (g1 ((pv p.chain.deeds).length-1) (by omega))
        omega
      by_cases h5:p.trials.length=(pv p.chain.deeds).length
      ·have:OkP p:=⟨h1,h2,h3,h4,h5,fun i h h'=>by obtain ⟨_,_,h⟩:=Classical.not_not.1 (g1 i h);exact h⟩
       simp[h5,this]
      ·have h5':¬ ((pv p.chain.deeds).length:Int)=p.trials.length:=by omega
       have:=no _ OkP.many h5
       simp[h5',this]
    ·have:=no _ OkP.rule h4
     simp[h4,this]
   ·have:=no _ OkP.need h3
    simp[h3,this]
  ·have:=no _ OkP.machine h2
   simp[h2,this]
 ·have:=no _ OkP.chain h1
  simp[h1,this]
end
end Go.Pf

/- The stories of a chain. -/
namespace Go.Pf
open Go Go.Ev Go.Proofs Go.RowKit
set_option maxRecDepth 8000
def plc (pos e:Int) (n:Nat):Nat:=(if e=1 then (n:Int)-1-pos else pos).toNat
def stepC (d:Deed) (e:Int) (k:Nat) (now:List Nat):List Nat :=
 if d.what=1 then now.take (plc d.pos e (now.length+1))++[k]++now.drop (plc d.pos e (now.length+1))
 else if d.what=2 then now.take (plc d.pos e now.length)++now.drop (plc d.pos e now.length+1)
 else if d.what=3 then now.reverse else now
def wn (ds:List Deed) (i:Nat):Nat:=(idxs isWeld (ds.take i) 0).length
theorem wn_succ (ds:List Deed) (i:Nat) (h:i<ds.length):wn ds (i+1)=if ds[i].what=1 then wn ds i+1 else wn ds i:=by
 unfold wn
 rw[idxs_succ _ _ _ h]
 by_cases hw:ds[i].what=1<;>simp[isWeld,hw]
theorem wn_le (ds:List Deed) (i:Nat):wn ds i≤i:=by
 have:=idxs_len isWeld (ds.take i) 0
 unfold wn
 simp at this
 omega
def cab (ds:List Deed) (e:Nat→Int):Nat→List Nat
 | 0=>[]
 | i+1=>match ds[i]? with
   | some d=>stepC d (e i) (wn ds i) (cab ds e i)
   | none=>cab ds e i
theorem cab_succ (ds:List Deed) (e:Nat→Int) (i:Nat) (h:i<ds.length):cab ds e (i+1)=stepC ds[i] (e i) (wn ds i) (cab ds e i):=by
 simp only[cab,List.getElem?_eq_getElem h]
theorem plc_le {pos e:Int} {n:Nat} (h:0≤pos∧pos≤n):plc pos e (n+1)≤n:=by
 unfold plc
 split<;>omega
theorem plc_lt {pos e:Int} {n:Nat} (h:0≤pos∧pos≤(n:Int)-1):plc pos e n<n:=by
 unfold plc
 split<;>omega
theorem stepC_len {d:Deed} {e:Int} {k:Nat} {now:List Nat} (h:isDeedS d now.length):((stepC d e k now).length:Int)=now.length+grow d:=by
 rcases h with ⟨h1,_,h3,_⟩ | ⟨h1,_,h3,_⟩ | ⟨h1,_⟩
 ·have:=plc_le (e:=e) h3
  simp[stepC,grow,h1]
  omega
 ·have:=plc_lt (e:=e) h3
  simp[stepC,grow,h1]
  omega
 ·rcases h1 with h1 | h1<;>simp[stepC,grow,h1]
theorem cab_len {ds:List Deed} (e:Nat→Int) {n:Nat} (h:OkD ds n):∀ i,i≤n→i≤ds.length→((cab ds e i).length:Int)=cnt ds i
 | 0,_,_=>by simp[cab]
 | i+1,h1,h2=>by
   have ih:=cab_len e h i (by omega) (by omega)
   rw[cab_succ ds e i (by omega),stepC_len (by rw[ih];exact h i (by omega) (by omega)),cnt_succ ds i (by omega),ih]
theorem stepC_lt {d:Deed} {e:Int} {k m:Nat} {now:List Nat} (h:∀ x∈now,x<m) (hk:k<m):∀ x∈stepC d e k now,x<m:=by
 intro x hx
 unfold stepC at hx
 split at hx
 ·simp only[List.mem_append,List.mem_singleton] at hx
  rcases hx with (hx | hx) | hx
  ·exact h x (List.mem_of_mem_take hx)
  ·omega
  ·exact h x (List.mem_of_mem_drop hx)
 ·split at hx
  ·rcases List.mem_append.1 hx with hx | hx
   ·exact h x (List.mem_of_mem_take hx)
   ·exact h x (List.mem_of_mem_drop hx)
  ·split at hx
   ·exact h x (by simpa using hx)
   ·exact h x hx
theorem cab_lt (ds:List Deed) (e:Nat→Int):∀ i,∀ x∈cab ds e i,x<wn ds i
 | 0=>by simp[cab]
 | i+1=>by
   intro x hx
   have ih:=cab_lt ds e i
   cases hd:ds[i]? with
   | none =>
     simp only[cab,hd] at hx
     have hge:ds.length≤i:=by
      rcases Nat.lt_or_ge i ds.length with h | h
      ·rw[List.getElem?_eq_getElem h] at hd;cases hd
      ·exact h
     have e1:wn ds (i+1)=wn ds i:=by simp[wn,List.take_of_length_le hge,List.take_of_length_le (Nat.le_succ_of_le hge)]
     rw[e1]
     exact ih x hx
   | some d =>
     have hlt:=(List.getElem?_eq_some_iff.1 hd).1
     rw[cab_succ ds e i hlt] at hx
     rw[wn_succ ds i hlt]
     have hm:∀ y∈cab ds e i,y<wn ds i:=ih
     by_cases hw:ds[i].what=1
     ·rw[if_pos hw]
      exact stepC_lt (fun y hy=>by have:=hm y hy;omega) (by omega) x hx
     ·rw[if_neg hw]
      have:stepC ds[i] (e i) (wn ds i) (cab ds e i)=stepC ds[i] (e i) 0 (cab ds e i):=by simp[stepC,hw]
      rw[this] at hx
      rcases Nat.eq_zero_or_pos (wn ds i) with hz | hp
      ·have he:cab ds e i=[]:=by
        rcases List.eq_nil_or_concat (cab ds e i) with h | ⟨l,a,h⟩
        ·exact h
        ·have:=hm a (by rw[h];simp)
         omega
       rw[he] at hx
       simp[stepC,hw] at hx
      ·exact stepC_lt hm hp x hx
def cabs (ds:List Deed) (e:Nat→Int) (n:Nat):List (List Nat):=(List.range (n+1)).map (cab ds e)
@[simp] theorem cabs_len (ds:List Deed) (e:Nat→Int) (n:Nat):(cabs ds e n).length=n+1:=by simp[cabs]
theorem cabs_succ (ds:List Deed) (e:Nat→Int) (n:Nat):cabs ds e (n+1)=cabs ds e n++[cab ds e (n+1)]:=by simp[cabs,List.range_succ]
theorem cabs_get (ds:List Deed) (e:Nat→Int) (n i:Nat) (h:i<n+1):(cabs ds e n)[i]'(by simpa using h)=cab ds e i:=by simp[cabs]
@[simp] def cabsV (l:List (List Nat)):IV:=.sl 1 (l.map fun c=>[natsI c])
theorem emb_fold (L:List (List IV)):List.map (List.map AV.iv) L=emb L:=rfl
theorem emb_emb (L M:List (List IV)):emb L++emb M=emb (L++M):=by simp[emb]
theorem emb_dropA (L:List (List IV)) (n:Nat):(emb L).drop n=emb (L.drop n):=by simp[emb,List.map_drop]
theorem emb_nil:emb []=[]:=rfl
theorem ivss_embA (L:List (List IV)):ivss (emb L)=some L:=ivss_map L
def endF (ends:List Int) (i:Nat):Int:=ends.getD i 0
section
variable {K:World→Prop} (hK:∀ w w',K w→Below w.heap.size w w'→K w')
include hK
theorem good90 (c:Chain) (hl:c.deeds.length≤1000):Ev.Good Tryz.prog K 90 [chV c] (ints (c.deeds.map fun d=>d.frm.tmod 2)):=by
 refine good_of_wp hK c90_ok (by simp) ?_
 simp
 refine loop_q (fun i=>[(1,AV.iv (.ptr [deedsV c.deeds,sightsV c.sights,.int .i64 c.wrong])),(3,AV.aref 3 i),(4,AV.iv (IV.int IntKind.i64 (i:Nat)))])
  (fun i=>[(3,AO.arr 3 1 (emb (((c.deeds.take i).map fun d=>d.frm.tmod 2).map fun n=>[.int .i64 n])) 0)]) c.deeds.length (fun i=>True) trivial ?_ ?_
 ·intro _
  rw[LoopAt_enter c90_b0.eq_1]
  simp
 ·intro i hi _ ih
  rw[LoopAt_enter c90_b0.eq_1]
  rw[List.take_succ_eq_append_getElem hi,List.map_append] at ih
  have e:min i c.deeds.length=i:=by omega
  simp[hi,e] at ih ⊢
  intros
  and_intros<;>first | omega | exact ih
theorem good89 (c:Chain) (ends:List Int) (hc:OkD c.deeds c.deeds.length) (hl:c.deeds.length≤1000) (he:c.deeds.length≤ends.length):Ev.Good Tryz.prog K 89 [chV c,ints ends] (cabsV (cabs c.deeds (endF ends) c.deeds.length)):=by
 refine good_of_wp hK c89_ok (by simp) ?_
 simp
 refine loop_q (fun i=>[(1,AV.iv (ints ends)),(2,AV.iv (.ptr [deedsV c.deeds,sightsV c.sights,.int .i64 c.wrong])),(5,AV.iv (natsI (cab c.deeds (endF ends) i))),(6,AV.aref 14 (i+1)),(7,AV.iv (.int .i64 (wn c.deeds i))),(8,AV.iv (IV.int IntKind.i64 (i:Nat)))])
  (fun i=>[(14,AO.arr 64 1 (emb ((cabs c.deeds (endF ends) i).map fun c=>[natsI c])) 0)]) c.deeds.length (fun i=>True) trivial ?_ ?_
 ·intro _
  rw[LoopAt_enter c89_b1.eq_1]
  simp
  intro _
  exact List.take_of_length_le (by simp)
 ·intro i hi _ ih
  have hcl:=cab_len (endF ends) hc i (by omega) (by omega)
  have hcb:=hc.cnt i (by omega) (by omega)
  have hd:=hc i hi hi
  have hw:=wn_le c.deeds i
  have hws:=wn_succ c.deeds i hi
  have hei:endF ends i=ends[i]'(by omega):=by simp[endF,List.getD_eq_getElem?_getD,List.getElem?_eq_getElem (show i<ends.length by omega)]
  rw[cabs_succ,hws,cab_succ _ _ _ hi] at ih
  rw[LoopAt_enter c89_b1.eq_1]
  generalize cab c.deeds (endF ends) i=now at *
  rw[hei] at ih
  rcases hd with ⟨h1,h2,h3,h4⟩ | ⟨h1,h2,h3,h4⟩ | ⟨h1,h4⟩
  ·have hi':i<ends.length:=by omega
   simp only[inR] at h3
   have hp:(if ends[i]=1 then (now.length:Int)+1-1-c.deeds[i].pos else c.deeds[i].pos)=(plc c.deeds[i].pos ends[i] (now.length+1):Nat):=by
    unfold plc
    split<;>push_cast<;>omega
   have hpl:plc c.deeds[i].pos ends[i] (now.length+1)≤now.length:=plc_le (by omega)
   simp[hi,h1,hi',stepC] at ih
   simp[hi,h1,hi',-List.map_map,emb_fold,emb_emb,emb_nil,ivss_embA]
   generalize plc c.deeds[i].pos ends[i] (now.length+1)=at_ at *
   intros
   refine ⟨by omega,?_⟩
   refine callK_of (good145 hK c.deeds[i].pos ends[i] (now.length+1) (by omega) (by omega)) (.inl rfl) ?_
   rw[hp]
   have hm:min at_ now.length=at_:=by omega
   have hq:at_+1+(now.length-at_)=now.length+1:=by omega
   have hq1:at_+(now.length-at_+1)=now.length+1:=by omega
   have hq2:at_+(1+(now.length-at_))=now.length+1:=by omega
   simp[-List.map_map,emb_fold,emb_emb,emb_nil,ivss_embA,emb_dropA,hm,hpl,hq,hq1,hq2,List.take_of_length_le]
   repeat' first | omega | exact ih | intro _ | apply And.intro
  ·have hi':i<ends.length:=by omega
   have h11:¬ c.deeds[i].what=1:=by omega
   simp only[inR] at h3
   have hp:(if ends[i]=1 then (now.length:Int)-1-c.deeds[i].pos else c.deeds[i].pos)=(plc c.deeds[i].pos ends[i] now.length:Nat):=by
    unfold plc
    split<;>omega
   have hpl:plc c.deeds[i].pos ends[i] now.length<now.length:=plc_lt (by omega)
   simp[hi,h1,hi',stepC] at ih
   simp[hi,h1,hi',-List.map_map,emb_fold,emb_emb,emb_nil,ivss_embA]
   generalize plc c.deeds[i].pos ends[i] now.length=at_ at *
   intros
   refine callK_of (good145 hK c.deeds[i].pos ends[i] now.length (by omega) (by omega)) (.inl rfl) ?_
   rw[hp]
   have hm:min at_ now.length=at_:=by omega
   have hle:at_≤now.length:=by omega
   have hle':at_+1≤now.length:=by omega
   have hti:((at_:Int)+1).toNat=at_+1:=by omega
   have hq:at_+(now.length-(at_+1))=now.length-1:=by omega
   simp[-List.map_map,emb_fold,emb_emb,emb_nil,ivss_embA,emb_dropA,hm,hle,hle',hti,hq,List.take_of_length_le]
   repeat' first | omega | exact ih | intro _ | apply And.intro
  ·rcases h1 with h1 | h1
   ·simp[hi,h1,stepC] at ih
    simp[hi,h1,-List.map_map,emb_fold,emb_emb,emb_nil,ivss_embA]
    intro _ _
    refine ⟨by omega,?_⟩
    have e00:((now.length:Int)-1)=(now.length:Int)-1-((0:Nat):Int):=by simp
    rw[e00]
    refine loop_q (fun k=>[(1,AV.iv (ints ends)),(2,AV.iv (.ptr [deedsV c.deeds,sightsV c.sights,.int .i64 c.wrong])),(5,AV.iv (natsI now)),(6,AV.aref 14 (i+1)),(7,AV.iv (.int .i64 (wn c.deeds i))),(8,AV.iv (IV.int IntKind.i64 (i:Nat))),(10,AV.aref 10 k),(13,AV.iv (.int .i64 ((now.length:Int)-1-k)))])
     (fun k=>[(10,AO.arr 3 1 (emb ((now.reverse.take k).map fun (n:Nat)=>[.int .i64 (n:Int)])) 0),(14,AO.arr 64 1 (emb ((cabs c.deeds (endF ends) i).map fun c=>[natsI c])) 0)]) now.length (fun _=>True) trivial ?_ ?_
    ·intro _
     rw[LoopAt_enter c89_b0.eq_1]
     simp[-List.map_map,emb_fold,emb_emb,emb_nil,ivss_embA,List.take_of_length_le]
     repeat' first | omega | exact ih | intro _ | apply And.intro
    ·intro k hk _ ih2
     rw[LoopAt_enter c89_b0.eq_1]
     have hrk:now.reverse.take (k+1)=now.reverse.take k++[now[now.length-1-k]'(by omega)]:=by
      rw[List.take_succ_eq_append_getElem (by simpa using hk)]
      simp[List.getElem_reverse]
     rw[hrk] at ih2
     have e0:¬ ((now.length:Int)-1-k<0):=by omega
     have e1:((now.length:Int)-1-k)=((now.length-1-k:Nat):Int):=by omega
     have e2:now.length-1-k<now.length:=by omega
     have e3:min k now.length=k:=by omega
     have e4:((now.length-1-k:Nat):Int)-1=(now.length:Int)-1-((k:Int)+1):=by omega
     simp[-List.map_map,emb_fold,emb_emb,emb_nil,ivss_embA,e1,e2,e3] at ih2 ⊢
     rw[e4]
     repeat' first | omega | exact ih2 | intro _ | apply And.intro
   ·simp[hi,h1,stepC] at ih
    simp[hi,h1,-List.map_map,emb_fold,emb_emb,emb_nil,ivss_embA]
    repeat' first | omega | exact ih | intro _ | apply And.intro
end
end Go.Pf

/- Copies, comparisons, what is far too much, the reference's checks. -/
namespace Go.Pf
open Go Go.Ev Go.Proofs Go.RowKit
set_option maxRecDepth 8000
@[simp] theorem ivss_comp {α:Type} (f:α→List IV) (l:List α):ivss (l.map (List.map AV.iv∘f))=some (l.map f):=by
 rw[← List.map_map];exact ivss_map _
theorem Deed.ext {a b:Deed} (h0:a.what=b.what) (h1:a.pos=b.pos) (h2:a.frm=b.frm) (h3:a.bar=b.bar) (h4:a.smith=b.smith):a=b:=by
 cases a
 cases b
 simp_all
theorem Sight.ext {a b:Sight} (h0:a.after=b.after) (h1:a.pos=b.pos) (h2:a.frm=b.frm) (h3:a.bar=b.bar) (h4:a.smith=b.smith):a=b:=by
 cases a
 cases b
 simp_all
theorem Lever.ext {a b:Lever} (h0:a.long=b.long) (h1:a.lo=b.lo) (h2:a.hi=b.hi):a=b:=by
 cases a
 cases b
 simp_all
theorem Balance.ext {a b:Balance} (h0:a.weight=b.weight) (h1:a.mins=b.mins) (h2:a.load=b.load) (h3:a.off=b.off):a=b:=by
 cases a
 cases b
 simp_all
theorem Trial.ext {a b:Trial} (h0:a.weight=b.weight) (h1:a.mins=b.mins) (h2:a.broke=b.broke):a=b:=by
 cases a
 cases b
 simp_all
def prodF {α:Type} (f:α→Int):List α→Int
 | []=>1
 | a::l=>f a*prodF f l
theorem prodF_app {α:Type} (f:α→Int) (l:List α) (a:α):prodF f (l++[a])=prodF f l*f a:=by
 induction l with
 | nil=>simp[prodF]
 | cons b l ih=>simp[prodF,ih,Int.mul_assoc]
theorem prodF_pos {α:Type} (f:α→Int) (l:List α) (h:∀ a∈l,1≤f a):1≤prodF f l:=by
 induction l with
 | nil=>simp[prodF]
 | cons b l ih =>
   have h1:=h b (by simp)
   have h2:=ih fun a ha=>h a (by simp[ha])
   have:=Int.mul_le_mul h1 h2 (by omega) (by omega)
   simp only[prodF];omega
def spanL (l:Lever):Int:=l.hi-l.lo+1
def sets (m:Machine) (i:Nat):Int:=(m.lhi-m.llo+1)*prodF spanL (m.levers.take i)
def twos (ds:List Deed):Nat:=ds.countP fun d=>decide (d.frm=2)
theorem sets_succ (m:Machine) (i:Nat) (h:i<m.levers.length):sets m (i+1)=sets m i*spanL m.levers[i]:=by
 unfold sets
 rw[List.take_succ_eq_append_getElem h,prodF_app,Int.mul_assoc]
def farM (m:Machine):Prop:=40<m.levers.length∨40<m.bals.length∨(OkM m∧∃ i,0<i∧i≤m.levers.length∧150<sets m i)
noncomputable instance (m:Machine):Decidable (farM m):=Classical.propDecidable _
def farC (c:Chain):Prop:=40<c.deeds.length∨40<c.sights.length∨(OkC c∧5<twos c.deeds)
noncomputable instance (c:Chain):Decidable (farC c):=Classical.propDecidable _
def ways (p:Proof):Int:=sets p.machine p.machine.levers.length*(2 ^ twos p.chain.deeds:Nat)
def farP (p:Proof):Prop:=farC p.chain∨farM p.machine∨40<p.trials.length∨(OkP p∧48<ways p)
noncomputable instance (p:Proof):Decidable (farP p):=Classical.propDecidable _
theorem twos_succ (ds:List Deed) (i:Nat) (h:i<ds.length):twos (ds.take (i+1))=twos (ds.take i)+if ds[i].frm=2 then 1 else 0:=by
 unfold twos
 rw[List.take_succ_eq_append_getElem h,List.countP_append]
 simp[List.countP_cons]
theorem twos_take (ds:List Deed) (i:Nat):twos (ds.take i)≤twos ds:=by
 conv=>rhs;rw[← List.take_append_drop i ds]
 unfold twos
 rw[List.countP_append]
 omega
theorem pow_le5 {n:Nat} (h:n≤5):2 ^ n≤32:=by
 have:n=0∨n=1∨n=2∨n=3∨n=4∨n=5:=by omega
 rcases this with rfl | rfl | rfl | rfl | rfl | rfl<;>decide
theorem OkM.span {m:Machine} (h:OkM m) {l:Lever} (hl:l∈m.levers):1≤spanL l∧spanL l≤1000:=by
 have:=h.levers l hl
 simp[badLever,inR] at this
 have h1:=of_decide_eq_true this.1.2
 unfold spanL;omega
theorem OkM.sets_pos {m:Machine} (h:OkM m) (i:Nat):1≤sets m i:=by
 have h1:=prodF_pos spanL (m.levers.take i) fun a ha=>(h.span (List.mem_of_mem_take ha)).1
 have h2:=h.leak
 simp only[inR] at h2
 have:=Int.mul_le_mul (show (1:Int)≤m.lhi-m.llo+1 by omega) h1 (by omega) (by omega)
 unfold sets;omega
section
variable {K:World→Prop} (hK:∀ w w',K w→Below w.heap.size w w'→K w')
include hK
theorem good62 (m:Machine) (hl:m.levers.length≤1000) (hs:m.bals.length≤1000):Ev.Good Tryz.prog K 62 [maV m] (maV m):=by
 refine good_of_wp hK c62_ok (by simp) ?_
 simp
 omega
theorem good86 (m:Machine) (hl:m.levers.length≤1000) (hb:m.bals.length≤1000):Ev.Good Tryz.prog K 86 [maV m] (.int .i64 (if OkM m then 0 else 30)):=by
 refine good_of_wp hK c86_ok (by simp) ?_
 have no:∀ q:Prop,(OkM m→q)→¬ q→¬ OkM m:=fun q h1 h2 h=>h2 (h1 h)
 by_cases h1:m.levers.length≤3
 ·have h1':¬ (3:Int)<m.levers.length:=by omega
  simp[h1']
  intros
  refine callK_of (good144 hK _ _ _) (.inl rfl) ?_
  by_cases h3:inR m.water 0 9999
  ·simp[h3]
   refine callK_of (good144 hK _ _ _) (.inl rfl) ?_
   by_cases h4:inR m.llo 0 m.lhi
   ·by_cases h5:m.lhi≤20
    ·have h5':¬ 20<m.lhi:=by omega
     by_cases h6:m.bals.length≤6
     ·have h6':¬ (6:Int)<m.bals.length:=by omega
      simp[h4,h5',h6']
      intros
      refine callK_of (good144 hK _ _ _) (.inl rfl) ?_
      by_cases h8:inR m.wrong 0 6
      ·simp[h8]
       refine loop_q (fun i=>[(1,AV.iv (.ptr [leversV m.levers,.int .i64 m.water,.int .i64 m.llo,.int .i64 m.lhi,balsV m.bals,.int .i64 m.wrong])),(3,AV.iv (IV.int IntKind.i64 (i:Nat)))]) (fun _=>[]) m.levers.length (fun i=>∀ l∈m.levers.take i,badLever l=false) (by simp) ?_ ?_
       ·intro h2
        rw[List.take_length] at h2
        rw[LoopAt_enter c86_b0.eq_1]
        simp
        intros
        refine loop_q (fun i=>[(1,AV.iv (.ptr [leversV m.levers,.int .i64 m.water,.int .i64 m.llo,.int .i64 m.lhi,balsV m.bals,.int .i64 m.wrong])),(4,AV.iv (IV.int IntKind.i64 (i:Nat)))]) (fun _=>[]) m.bals.length (fun i=>∀ l∈m.bals.take i,badBal l=false) (by simp) ?_ ?_
        ·intro h7
         rw[List.take_length] at h7
         have:OkM m:=⟨h1,h2,h3,h4,h5,h6,h7,h8⟩
         rw[LoopAt_enter c86_b1.eq_1]
         simp[this]
        ·intro i hi h ih
         rw[LoopAt_enter c86_b1.eq_1]
         simp[hi] at ih ⊢
         intros
         refine callK_of (good91 hK _ _ _) (.inl rfl) ?_
         by_cases k1:inR m.bals[i].weight 0 9999∧inR m.bals[i].mins 0 99∧inR m.bals[i].load 0 999999999
         ·simp[k1]
          refine callK_of (good144 hK _ _ _) (.inl rfl) ?_
          by_cases k2:inR m.bals[i].off 0 999999999
          ·simp[k2]
           refine ⟨by omega,ih ?_⟩
           rw[List.take_succ_eq_append_getElem hi]
           intro l hl
           rcases List.mem_append.1 hl with hl | hl
           ·exact h l hl
           ·rw[List.mem_singleton.1 hl];simp[badBal,k1,k2]
          ·have:=no _ (fun hh=>hh.bals _ (List.getElem_mem hi)) (by simp[badBal,k2])
           simp[k2,this]
         ·have:=no _ (fun hh=>hh.bals _ (List.getElem_mem hi)) (by simp only[badBal];simp;intro a b c;exact absurd ⟨a,b,c⟩ k1)
          simp[k1,this]
       ·intro i hi h ih
        rw[LoopAt_enter c86_b0.eq_1]
        simp[hi] at ih ⊢
        intros
        refine callK_of (good144 hK _ _ _) (.inl rfl) ?_
        by_cases k1:inR m.levers[i].long 1 1000
        ·simp[k1,hi]
         refine callK_of (good144 hK _ _ _) (.inl rfl) ?_
         by_cases k2:inR m.levers[i].lo 1 m.levers[i].hi
         ·by_cases k3:m.levers[i].hi≤1000
          ·have k3':¬ 1000<m.levers[i].hi:=by omega
           simp[k2,k3',hi]
           refine ⟨by omega,ih ?_⟩
           rw[List.take_succ_eq_append_getElem hi]
           intro l hl
           rcases List.mem_append.1 hl with hl | hl
           ·exact h l hl
           ·rw[List.mem_singleton.1 hl];simp[badLever,k1,k2,k3]
          ·have k3':1000<m.levers[i].hi:=by omega
           have:=no _ (fun hh=>hh.levers _ (List.getElem_mem hi)) (by simp[badLever,k3])
           simp[k2,k3',hi,this]
         ·have:=no _ (fun hh=>hh.levers _ (List.getElem_mem hi)) (by simp[badLever,k2])
          simp[k2,this]
        ·have:=no _ (fun hh=>hh.levers _ (List.getElem_mem hi)) (by simp[badLever,k1])
         simp[k1,this]
      ·have:=no _ OkM.wrong h8
       simp[h8,this]
     ·have h6':(6:Int)<m.bals.length:=by omega
      have:=no _ OkM.blen h6
      simp[h4,h5',h6',this]
    ·have h5':20<m.lhi:=by omega
     have:=no _ OkM.lhi h5
     simp[h4,h5',this]
   ·have:=no _ OkM.leak h4
    simp[h4,this]
  ·have:=no _ OkM.water h3
   simp[h3,this]
 ·have h1':(3:Int)<m.levers.length:=by omega
  have:=no _ OkM.len h1
  simp[h1',this]
theorem good26 (p:Proof) (hs:Small p):Ev.Good Tryz.prog K 26 [prV p] (.int .i64 (if OkP p then 0 else 60)):=by
 refine good_of_wp hK c26_ok (by simp) ?_
 have no:∀ q:Prop,(OkP p→q)→¬ q→¬ OkP p:=fun q h1 h2 h=>h2 (h1 h)
 simp
 refine callK_of (good85 hK p.chain hs.deeds hs.sights) (.inl rfl) ?_
 by_cases h1:OkC p.chain
 ·simp[h1]
  refine callK_of (good86 hK p.machine hs.levers hs.bals) (.inl rfl) ?_
  by_cases h2:OkM p.machine
  ·simp[h2]
   refine callK_of (good87 hK _ _ _) (.inl rfl) ?_
   by_cases h3:inR p.need 0 999999999
   ·simp[h3]
    refine callK_of (good87 hK _ _ _) (.inl rfl) ?_
    by_cases h4:inR p.rule 1 12
    ·simp[h4]
     refine callK_of (good88 hK p.chain hs.deeds) (.inl rfl) ?_
     have hpl:=pv_len p.chain.deeds
     have hpv:idxs isProve p.chain.deeds 0=pv p.chain.deeds:=rfl
     rw[hpv]
     by_cases h5:p.trials.length=(pv p.chain.deeds).length
     ·simp[h5]
      intros
      have h90:=good90 hK p.chain hs.deeds
      have hEl:(p.chain.deeds.map fun d=>d.frm.tmod 2).length=p.chain.deeds.length:=by simp
      generalize (p.chain.deeds.map fun d=>d.frm.tmod 2)=E at h90 hEl
      refine callK_of h90 (.inl rfl) ?_
      simp
      refine callK_of (good89 hK p.chain E h1.deeds hs.deeds (by omega)) (.inl rfl) ?_
      simp
      refine loop_q (fun i=>[(1,AV.iv (.ptr [deedsV p.chain.deeds,sightsV p.chain.sights,.int .i64 p.chain.wrong,leversV p.machine.levers,.int .i64 p.machine.water,.int .i64 p.machine.llo,.int .i64 p.machine.lhi,balsV p.machine.bals,.int .i64 p.machine.wrong,trialsV p.trials,.int .i64 p.need,.int .i64 p.rule])),(3,AV.iv (natsI (pv p.chain.deeds))),(4,AV.iv (cabsV (cabs p.chain.deeds (endF E) p.chain.deeds.length))),(5,AV.iv (IV.int IntKind.i64 (i:Nat)))]) (fun _=>[]) p.trials.length (fun i=>∀ k (h:k<(pv p.chain.deeds).length) (h':k<p.trials.length),k<i→okTrial p.trials[k] (cnt p.chain.deeds (pv p.chain.deeds)[k])) (by simp) ?_ ?_
      ·intro h
       have:OkP p:=⟨h1,h2,h3,h4,h5,fun i h1 h2=>h i h1 h2 h2⟩
       rw[LoopAt_enter c26_b0.eq_1]
       simp[this]
      ·intro i hi h ih
       have hi':i<(pv p.chain.deeds).length:=by omega
       have hlt:=pv_get hi'
       have hb:=h1.deeds.cnt (pv p.chain.deeds)[i] (by omega) (by omega)
       have hcg:=cabs_get p.chain.deeds (endF E) p.chain.deeds.length (pv p.chain.deeds)[i] (by omega)
       have hcl:=cab_len (endF E) h1.deeds (pv p.chain.deeds)[i] (by omega) (by omega)
       rw[LoopAt_enter c26_b0.eq_1]
       by_cases k:okTrial p.trials[i] (cnt p.chain.deeds (pv p.chain.deeds)[i])
       ·have ih':=ih (fun k' h1' h2' hk=>by
         rcases Nat.lt_succ_iff_lt_or_eq.1 hk with hk | rfl
         ·exact h k' h1' h2' hk
         ·exact k)
        simp[hi,hi'] at ih' ⊢
        intros
        refine callK_of (good91 hK _ _ _) (.inl rfl) ?_
        have k1:=k.1
        have k2:=k.2.1
        have hz:inR 0 0 999999999:=by simp[inR]
        have hlt1:(pv p.chain.deeds)[i]<p.chain.deeds.length+1:=by omega
        simp[k1,k2,hz,hi',hlt1,hcg,hcl]
        have k3:=k.2.2
        (repeat' first | omega | (with_reducible apply And.intro) | intro _)
        refine callK_of (good87 hK _ _ _) (.inl rfl) ?_
        simp[k3]
        repeat' first | omega | exact ih' | intro _ | apply And.intro
       ·have:=no _ (fun hh=>hh.trials i hi' hi) k
        simp[hi,hi',this]
        intros
        refine callK_of (good91 hK _ _ _) (.inl rfl) ?_
        by_cases kk:inR p.trials[i].weight 0 9999∧inR p.trials[i].mins 0 99∧inR 0 0 999999999
        ·have hlt1:(pv p.chain.deeds)[i]<p.chain.deeds.length+1:=by omega
         simp[kk,hi',hlt1,hcg,hcl]
         (repeat' first | omega | (with_reducible apply And.intro) | intro _)
         refine callK_of (good87 hK _ _ _) (.inl rfl) ?_
         have k3:¬ inR p.trials[i].broke (-1) (cnt p.chain.deeds (pv p.chain.deeds)[i]-1):=fun c=>k ⟨kk.1,kk.2.1,c⟩
         simp[k3]
        ·simp[kk]
     ·have h5':¬ ((pv p.chain.deeds).length:Int)=p.trials.length:=by omega
      have:=no _ OkP.many h5
      simp[h5',this]
    ·have:=no _ OkP.rule h4
     simp[h4,this]
   ·have:=no _ OkP.need h3
    simp[h3,this]
  ·have:=no _ OkP.machine h2
   simp[h2,this]
 ·have:=no _ OkP.chain h1
  simp[h1,this]
theorem good78 (c:Chain):Ev.Good Tryz.prog K 78 [chV c] (.bool (decide (farC c))):=by
 have hd:decide (farC c)=decide (40<c.deeds.length∨40<c.sights.length∨(OkC c∧5<twos c.deeds)):=by
  by_cases h:farC c
  ·rw[decide_eq_true h];exact (decide_eq_true (p:=40<c.deeds.length∨40<c.sights.length∨(OkC c∧5<twos c.deeds)) h).symm
  ·rw[decide_eq_false h];exact (decide_eq_false (p:=40<c.deeds.length∨40<c.sights.length∨(OkC c∧5<twos c.deeds)) h).symm
 rw[hd]
 refine good_of_wp hK c78_ok (by simp) ?_
 by_cases h1:c.deeds.length≤40
 ·by_cases h2:c.sights.length≤40
  ·have h1':¬ (40:Int)<c.deeds.length:=by omega
   have h2':¬ (40:Int)<c.sights.length:=by omega
   have h1'':¬ 40<c.deeds.length:=by omega
   have h2'':¬ 40<c.sights.length:=by omega
   simp[h1',h2',h1'',h2'']
   intros
   refine callK_of (good85 hK c (by omega) (by omega)) (.inl rfl) ?_
   by_cases h3:OkC c
   ·simp[h3]
    refine loop_q (fun i=>[(1,AV.iv (.ptr [deedsV c.deeds,sightsV c.sights,.int .i64 c.wrong])),(3,AV.iv (IV.int IntKind.i64 (twos (c.deeds.take i):Nat))),(4,AV.iv (IV.int IntKind.i64 (i:Nat)))]) (fun _=>[]) c.deeds.length (fun i=>True) trivial ?_ ?_
    ·intro _
     rw[LoopAt_enter c78_b0.eq_1]
     simp
     omega
    ·intro i hi _ ih
     have hb:twos (c.deeds.take i)≤i:=by
      have:=List.countP_le_length (p:=fun d:Deed=>decide (d.frm=2)) (l:=c.deeds.take i)
      simp at this;unfold twos;omega
     rw[LoopAt_enter c78_b0.eq_1]
     have hc:twos (c.deeds.take (i+1))=twos (c.deeds.take i)+if c.deeds[i].frm=2 then 1 else 0:=by
      unfold twos
      rw[List.take_succ_eq_append_getElem hi,List.countP_append]
      simp[List.countP_cons]
     rw[hc] at ih
     by_cases e:c.deeds[i].frm=2
     ·simp[hi,e] at ih ⊢
      repeat' first | omega | exact ih | intro _ | apply And.intro
     ·simp[hi,e] at ih ⊢
      repeat' first | omega | exact ih | intro _ | apply And.intro
   ·simp[h3]
  ·have h1':¬ (40:Int)<c.deeds.length:=by omega
   have h2':(40:Int)<c.sights.length:=by omega
   have h2'':40<c.sights.length:=by omega
   simp[h1',h2',h2'']
   try omega
 ·have h1':(40:Int)<c.deeds.length:=by omega
  have h1'':40<c.deeds.length:=by omega
  simp[h1',h1'']
  try omega
theorem good79 (m:Machine):Ev.Good Tryz.prog K 79 [maV m] (.bool (decide (farM m))):=by
 refine good_of_wp hK c79_ok (by simp) ?_
 by_cases h1:m.levers.length≤40
 ·by_cases h2:m.bals.length≤40
  ·have h1':¬ (40:Int)<m.levers.length:=by omega
   have h2':¬ (40:Int)<m.bals.length:=by omega
   simp[h1',h2']
   intros
   refine callK_of (good86 hK m (by omega) (by omega)) (.inl rfl) ?_
   by_cases h3:OkM m
   ·have h4:=h3.leak
    have h5:=h3.lhi
    simp only[inR] at h4
    simp[h3]
    (repeat' first | omega | (with_reducible apply And.intro) | intro _)
    have e0:m.lhi-m.llo+1=sets m 0:=by simp[sets,prodF]
    rw[e0]
    refine loop_q (fun i=>[(1,AV.iv (.ptr [leversV m.levers,.int .i64 m.water,.int .i64 m.llo,.int .i64 m.lhi,balsV m.bals,.int .i64 m.wrong])),(3,AV.iv (IV.int IntKind.i64 (sets m i))),(4,AV.iv (IV.int IntKind.i64 (i:Nat)))]) (fun _=>[]) m.levers.length (fun i=>sets m i≤150∧∀ k,0<k→k≤i→sets m k≤150) ⟨by rw[← e0];omega,fun k h h'=>by omega⟩ ?_ ?_
    ·intro ⟨_,h⟩
     have:¬ farM m:=by
      rintro (h | h | ⟨_,k,hk,hk',hk2⟩)
      ·omega
      ·omega
      ·have:=h k hk hk';omega
     rw[LoopAt_enter c79_b0.eq_1]
     simp[this]
    ·intro i hi ⟨hq,hall⟩ ih
     have hs:=h3.span (List.getElem_mem hi)
     have hss:=sets_succ m i hi
     have hp:=h3.sets_pos i
     have hb:sets m i*spanL m.levers[i]≤150*1000:=Int.mul_le_mul hq hs.2 (by omega) (by omega)
     have hb':0≤sets m i*spanL m.levers[i]:=Int.mul_nonneg (by omega) (by omega)
     have hsp:spanL m.levers[i]=m.levers[i].hi-m.levers[i].lo+1:=rfl
     have hlv:=h3.levers _ (List.getElem_mem hi)
     simp[badLever] at hlv
     have hlv1:=hlv.1.2
     have hlv2:=hlv.2
     simp only[inR] at hlv1
     rw[LoopAt_enter c79_b0.eq_1]
     rw[hss,hsp] at ih
     simp only[hsp] at hb hb' hss
     by_cases hg:150<sets m i*(m.levers[i].hi-m.levers[i].lo+1)
     ·have hex:farM m:=.inr (.inr ⟨h3,i+1,by omega,by omega,by rw[hss];exact hg⟩)
      simp[hi,hg,hex]
      (repeat' first | omega | (with_reducible apply And.intro) | intro _)
     ·have:=ih ⟨by omega,fun k hk hk'=>by
       rcases Nat.lt_or_ge k (i+1) with hk2 | hk2
       ·exact hall k hk (by omega)
       ·have:k=i+1:=by omega
        subst this;omega⟩
      simp[hi,hg] at this ⊢
      (repeat' first | omega | (with_reducible apply And.intro) | intro _)
   ·have:¬ farM m:=by
     rintro (h | h | ⟨h,_⟩)
     ·omega
     ·omega
     ·exact h3 h
    simp[h3,this]
  ·have h1':¬ (40:Int)<m.levers.length:=by omega
   have h2':(40:Int)<m.bals.length:=by omega
   have:farM m:=.inr (.inl (by omega))
   simp[h1',h2',this]
 ·have h1':(40:Int)<m.levers.length:=by omega
  have:farM m:=.inl (by omega)
  simp[h1',this]
theorem good24 (p:Proof):Ev.Good Tryz.prog K 24 [prV p] (.bool (decide (farP p))):=by
 refine good_of_wp hK c24_ok (by simp) ?_
 simp
 refine callK_of (good78 hK p.chain) (.inl rfl) ?_
 by_cases h1:farC p.chain
 ·have:farP p:=.inl h1
  simp[h1,this]
 ·simp[h1]
  refine callK_of (good79 hK p.machine) (.inl rfl) ?_
  by_cases h2:farM p.machine
  ·have:farP p:=.inr (.inl h2)
   simp[h2,this]
  ·by_cases h3:p.trials.length≤40
   ·have h3':¬ (40:Int)<p.trials.length:=by omega
    simp[h2,h3']
    intros
    have g1:p.chain.deeds.length≤40:=Nat.not_lt.1 fun c=>h1 (.inl c)
    have g2:p.chain.sights.length≤40:=Nat.not_lt.1 fun c=>h1 (.inr (.inl c))
    have g3:p.machine.levers.length≤40:=Nat.not_lt.1 fun c=>h2 (.inl c)
    have g4:p.machine.bals.length≤40:=Nat.not_lt.1 fun c=>h2 (.inr (.inl c))
    refine callK_of (good26 hK p ⟨by omega,by omega,by omega,by omega,by omega⟩) (.inl rfl) ?_
    by_cases h4:OkP p
    ·have k4:=h4.machine.leak
     have k5:=h4.machine.lhi
     simp only[inR] at k4
     have hlen:=h4.machine.len
     have htw:twos p.chain.deeds≤5:=Nat.not_lt.1 fun c=>h1 (.inr (.inr ⟨h4.chain,c⟩))
     have hset:∀ i,i≤p.machine.levers.length→sets p.machine i≤150:=fun i hi=>by
      rcases Nat.eq_zero_or_pos i with rfl | hp
      ·simp[sets,prodF];omega
      ·exact Int.not_lt.1 fun c=>h2 (.inr (.inr ⟨h4.machine,i,hp,hi,c⟩))
     simp[h4]
     (repeat' first | omega | (with_reducible apply And.intro) | intro _)
     have e0:p.machine.lhi-p.machine.llo+1=sets p.machine 0:=by simp[sets,prodF]
     rw[e0]
     refine loop_q (fun i=>[(1,AV.iv (.ptr [deedsV p.chain.deeds,sightsV p.chain.sights,.int .i64 p.chain.wrong,leversV p.machine.levers,.int .i64 p.machine.water,.int .i64 p.machine.llo,.int .i64 p.machine.lhi,balsV p.machine.bals,.int .i64 p.machine.wrong,trialsV p.trials,.int .i64 p.need,.int .i64 p.rule])),(3,AV.iv (IV.int IntKind.i64 (sets p.machine i))),(4,AV.iv (IV.int IntKind.i64 (i:Nat)))]) (fun _=>[]) p.machine.levers.length (fun i=>True) trivial ?_ ?_
     ·intro _
      rw[LoopAt_enter c24_b0.eq_1]
      simp
      (repeat' first | omega | (with_reducible apply And.intro) | intro _)
      have e1:sets p.machine p.machine.levers.length=sets p.machine p.machine.levers.length*(2 ^ twos (p.chain.deeds.take 0):Nat):=by simp[twos]
      rw[e1]
      refine loop_q (fun i=>[(1,AV.iv (.ptr [deedsV p.chain.deeds,sightsV p.chain.sights,.int .i64 p.chain.wrong,leversV p.machine.levers,.int .i64 p.machine.water,.int .i64 p.machine.llo,.int .i64 p.machine.lhi,balsV p.machine.bals,.int .i64 p.machine.wrong,trialsV p.trials,.int .i64 p.need,.int .i64 p.rule])),(3,AV.iv (IV.int IntKind.i64 (sets p.machine p.machine.levers.length*(2 ^ twos (p.chain.deeds.take i):Nat)))),(5,AV.iv (IV.int IntKind.i64 (i:Nat)))]) (fun _=>[]) p.chain.deeds.length (fun i=>True) trivial ?_ ?_
      ·intro _
       rw[LoopAt_enter c24_b1.eq_1]
       have:farP p↔48<ways p:=⟨fun h=>by
        rcases h with h | h | h | h
        ·exact absurd h h1
        ·exact absurd h h2
        ·omega
        ·exact h.2,fun h=>.inr (.inr (.inr ⟨h4,h⟩))⟩
       rw[List.take_length]
       by_cases hw:48<ways p
       ·have hf:=this.2 hw
        unfold ways at hw
        generalize sets p.machine p.machine.levers.length*(2 ^ twos p.chain.deeds:Nat)=W at *
        simp[hf,hw]
       ·have hf:¬ farP p:=fun c=>hw (this.1 c)
        unfold ways at hw
        generalize sets p.machine p.machine.levers.length*(2 ^ twos p.chain.deeds:Nat)=W at *
        simp[hf,hw]
      ·intro i hi _ ih
       have hpw:=pow_le5 (Nat.le_trans (twos_take p.chain.deeds i) htw)
       have hs1:=hset _ (Nat.le_refl _)
       have hs2:=h4.machine.sets_pos p.machine.levers.length
       have hb:sets p.machine p.machine.levers.length*(2 ^ twos (p.chain.deeds.take i):Nat)≤150*32:=Int.mul_le_mul hs1 (Int.ofNat_le.2 hpw) (Int.natCast_nonneg _) (by omega)
       have hb':0≤sets p.machine p.machine.levers.length*(2 ^ twos (p.chain.deeds.take i):Nat):=Int.mul_nonneg (by omega) (Int.natCast_nonneg _)
       rw[LoopAt_enter c24_b1.eq_1]
       rw[twos_succ _ _ hi] at ih
       by_cases e:p.chain.deeds[i].frm=2
       ·have e2:sets p.machine p.machine.levers.length*(2 ^ (twos (p.chain.deeds.take i)+1):Nat)=sets p.machine p.machine.levers.length*(2 ^ twos (p.chain.deeds.take i):Nat)*2:=by
         rw[Nat.pow_succ];push_cast;rw[Int.mul_assoc]
        rw[if_pos e,e2] at ih
        generalize sets p.machine p.machine.levers.length*(2 ^ twos (p.chain.deeds.take i):Nat)=W at *
        simp[hi,e] at ih ⊢
        (repeat' first | omega | (with_reducible apply And.intro) | intro _)
       ·rw[if_neg e,Nat.add_zero] at ih
        generalize sets p.machine p.machine.levers.length*(2 ^ twos (p.chain.deeds.take i):Nat)=W at *
        simp[hi,e] at ih ⊢
        (repeat' first | omega | (with_reducible apply And.intro) | intro _)
     ·intro i hi _ ih
      have hs:=h4.machine.span (List.getElem_mem hi)
      have hss:=sets_succ p.machine i hi
      have hp:=h4.machine.sets_pos i
      have hb:sets p.machine i*spanL p.machine.levers[i]≤150*1000:=Int.mul_le_mul (hset i (by omega)) hs.2 (by omega) (by omega)
      have hb':0≤sets p.machine i*spanL p.machine.levers[i]:=Int.mul_nonneg (by omega) (by omega)
      have hsp:spanL p.machine.levers[i]=p.machine.levers[i].hi-p.machine.levers[i].lo+1:=rfl
      have hlv:=h4.machine.levers _ (List.getElem_mem hi)
      simp[badLever] at hlv
      have hlv1:=hlv.1.2
      have hlv2:=hlv.2
      simp only[inR] at hlv1
      rw[LoopAt_enter c24_b0.eq_1]
      rw[hss,hsp] at ih
      simp only[hsp] at hb hb' hss
      simp[hi] at ih ⊢
      (repeat' first | omega | (with_reducible apply And.intro) | intro _)
    ·have:¬ farP p:=by
      rintro (h | h | h | h)
      ·exact h1 h
      ·exact h2 h
      ·omega
      ·exact h4 h.1
     simp[h4,this]
   ·have h3':(40:Int)<p.trials.length:=by omega
    have:farP p:=.inr (.inr (.inl (by omega)))
    simp[h2,h3',this]
end
end Go.Pf

/- The reference's truths: ends, settings, sights, balances. -/
namespace Go.Pf
open Go Go.Ev Go.Proofs Go.RowKit
set_option maxRecDepth 8000
def d0:Deed:=⟨0,0,0,0,0⟩
def welds (ds:List Deed):List Nat:=idxs isWeld ds 0
def markD (ds:List Deed) (k:Nat):Deed:=ds.getD ((welds ds).getD k 0) d0
theorem welds_lt {ds:List Deed} {j:Nat} (h:j∈welds ds):j<ds.length:=by
 have:=idxs_lt isWeld ds 0 j h
 omega
theorem wn_welds (ds:List Deed) (i:Nat):wn ds i≤(welds ds).length:=by
 unfold wn welds
 conv=>rhs;rw[← List.take_append_drop i ds,idxs_append]
 simp
def rightC (ds:List Deed) (s:Sight) (now:List Nat):Bool :=
 (decide (s.bar<0)||decide (s.bar=(markD ds (now.getD (plc s.pos s.frm now.length) 0)).bar)) &&
 (decide (s.smith<0)||decide (s.smith=(markD ds (now.getD (plc s.pos s.frm now.length) 0)).smith))
def rightE (ds:List Deed) (e:Nat→Int) (s:Sight):Bool:=rightC ds s (cab ds e s.after.toNat)
def wrongsE (ds:List Deed) (ss:List Sight) (e:Nat→Int):Nat:=ss.countP fun s=>!rightE ds e s
theorem wrongsE_succ (ds:List Deed) (ss:List Sight) (e:Nat→Int) (i:Nat) (h:i<ss.length):wrongsE ds (ss.take (i+1)) e=wrongsE ds (ss.take i) e+if rightE ds e ss[i] then 0 else 1:=by
 unfold wrongsE
 rw[List.take_succ_eq_append_getElem h,List.countP_append]
 cases hr:rightE ds e ss[i]<;>simp[hr]
theorem wrongsE_le (ds:List Deed) (ss:List Sight) (e:Nat→Int):wrongsE ds ss e≤ss.length:=List.countP_le_length
def isCh (ds:List Deed) (ends:List Int):Prop:=ends.length=ds.length∧∀ i (h:i<ds.length) (h':i<ends.length),inR ends[i] 0 1∧(ds[i].frm<2→ends[i]=ds[i].frm)
noncomputable instance (ds:List Deed) (ends:List Int):Decidable (isCh ds ends):=Classical.propDecidable _
def isTr (c:Chain) (ends:List Int):Prop:=isCh c.deeds ends∧(wrongsE c.deeds c.sights (endF ends):Int)≤c.wrong
noncomputable instance (c:Chain) (ends:List Int):Decidable (isTr c ends):=Classical.propDecidable _
structure Setting where
 shorts:List Int
 leak:Int
 deriving DecidableEq
structure Truth where
 ends:List Int
 set:Setting
 deriving DecidableEq
@[simp] def seC (s:Setting):List IV:=[ints s.shorts,.int .i64 s.leak]
@[simp] def tuC (t:Truth):List IV:=[ints t.ends,ints t.set.shorts,.int .i64 t.set.leak]
def okS (m:Machine) (s:Setting):Prop:=s.shorts.length=m.levers.length∧inR s.leak m.llo m.lhi∧∀ i (h:i<m.levers.length) (h':i<s.shorts.length),inR s.shorts[i] m.levers[i].lo m.levers[i].hi
noncomputable instance (m:Machine) (s:Setting):Decidable (okS m s):=Classical.propDecidable _
def pullN (m:Machine) (leak w mn:Int):Int:=w+max 0 (m.water-mn*leak)
def above (m:Machine):Int:=prodF (·.long) m.levers
def den (s:Setting):Int:=prodF id s.shorts
def num (m:Machine) (s:Setting) (w mn:Int):Int:=pullN m s.leak w mn*above m
theorem prodF_take {α:Type} (f:α→Int) (l:List α) (i:Nat) (h:i<l.length):prodF f (l.take (i+1))=prodF f (l.take i)*f l[i]:=by
 rw[List.take_succ_eq_append_getElem h,prodF_app]
theorem prodF_bd {α:Type} (f:α→Int):∀ (l:List α),(∀ a∈l,1≤f a∧f a≤1000)→1≤prodF f l∧prodF f l≤(1000 ^ l.length:Nat)
 | [],_=>by simp[prodF]
 | a::l,h=>by
   have h1:=h a (by simp)
   have h2:=prodF_bd f l fun a ha=>h a (by simp[ha])
   have h3:=Int.mul_le_mul h1.1 h2.1 (by omega) (by omega)
   have h4:=Int.mul_le_mul h1.2 h2.2 (by omega) (by omega)
   simp only[prodF,List.length_cons]
   refine ⟨by omega,?_⟩
   rw[Nat.pow_succ]
   push_cast at h4 ⊢
   rw[Int.mul_comm (1000 ^ l.length)]
   exact h4
theorem pow_le3 {n:Nat} (h:n≤3):1000 ^ n≤1000000000:=by
 have:n=0∨n=1∨n=2∨n=3:=by omega
 rcases this with rfl | rfl | rfl | rfl<;>decide
theorem prodF_bd3 {α:Type} (f:α→Int) (l:List α) (h:∀ a∈l,1≤f a∧f a≤1000) (hl:l.length≤3):1≤prodF f l∧prodF f l≤1000000000:=by
 have h1:=prodF_bd f l h
 have h2:=pow_le3 hl
 omega
theorem OkM.lever {m:Machine} (h:OkM m) {l:Lever} (hl:l∈m.levers):(1≤l.long∧l.long≤1000)∧1≤l.lo∧l.lo≤l.hi∧l.hi≤1000:=by
 have:=h.levers l hl
 simp[badLever] at this
 simp only[inR] at this
 omega
theorem OkM.bal {m:Machine} (h:OkM m) {b:Balance} (hl:b∈m.bals):inR b.weight 0 9999∧inR b.mins 0 99∧inR b.load 0 999999999∧inR b.off 0 999999999:=by
 have:=h.bals b hl
 simp[badBal] at this
 exact ⟨this.1.1.1,this.1.1.2,this.1.2,this.2⟩
theorem OkM.pull {m:Machine} (h:OkM m) {leak w mn:Int} (hl:inR leak m.llo m.lhi) (hw:inR w 0 9999) (hm:inR mn 0 99):(0≤mn*leak∧mn*leak≤1980)∧0≤pullN m leak w mn∧pullN m leak w mn≤19998:=by
 have h1:=h.leak
 have h2:=h.lhi
 have h3:=h.water
 simp only[inR] at *
 have h4:=Int.mul_nonneg (a:=mn) (b:=leak) (by omega) (by omega)
 have h5:=Int.mul_le_mul (show mn≤99 by omega) (show leak≤20 by omega) (by omega) (by omega)
 unfold pullN
 omega
theorem OkM.longs {m:Machine} (h:OkM m) (i:Nat):1≤prodF (·.long) (m.levers.take i)∧prodF (·.long) (m.levers.take i)≤1000000000 :=
 prodF_bd3 _ _ (fun a ha=>(h.lever (List.mem_of_mem_take ha)).1) (by have:=h.len;simp;omega)
theorem OkM.shorts {m:Machine} (h:OkM m) {s:Setting} (hs:okS m s) (i:Nat):1≤prodF id (s.shorts.take i)∧prodF id (s.shorts.take i)≤1000000000 :=
 prodF_bd3 _ _ (fun a ha=>by
  obtain ⟨k,hk,rfl⟩:=List.getElem_of_mem (List.mem_of_mem_take ha)
  have h1:=hs.2.2 k (by rw[← hs.1];exact hk) hk
  have h2:=h.lever (List.getElem_mem (show k<m.levers.length by rw[← hs.1];exact hk))
  simp only[inR,id] at *
  omega) (by have:=h.len;have:=hs.1;simp;omega)
theorem OkM.aboveB {m:Machine} (h:OkM m):1≤above m∧above m≤1000000000:=by
 have:=h.longs m.levers.length
 rwa [List.take_length] at this
theorem OkM.denB {m:Machine} (h:OkM m) {s:Setting} (hs:okS m s):1≤den s∧den s≤1000000000:=by
 have:=h.shorts hs s.shorts.length
 rwa [List.take_length] at this
theorem OkM.numB {m:Machine} (h:OkM m) {s:Setting} (hs:okS m s) {w mn:Int} (hw:inR w 0 9999) (hm:inR mn 0 99):0≤num m s w mn∧num m s w mn≤19998000000000:=by
 have h1:=h.aboveB
 have h2:=(h.pull hs.2.1 hw hm).2
 have h3:=Int.mul_nonneg (a:=pullN m s.leak w mn) (b:=above m) (by omega) (by omega)
 have h4:=Int.mul_le_mul h2.2 h1.2 (by omega) (by omega)
 unfold num
 omega
def rightS (m:Machine) (s:Setting) (b:Balance):Bool :=
 decide (num m s b.weight b.mins-b.load*den s≤b.off*den s ∧ -(num m s b.weight b.mins-b.load*den s)≤b.off*den s)
def wrongsS (m:Machine) (bs:List Balance) (s:Setting):Nat:=bs.countP fun b=>!rightS m s b
theorem wrongsS_succ (m:Machine) (bs:List Balance) (s:Setting) (i:Nat) (h:i<bs.length):wrongsS m (bs.take (i+1)) s=wrongsS m (bs.take i) s+if rightS m s bs[i] then 0 else 1:=by
 unfold wrongsS
 rw[List.take_succ_eq_append_getElem h,List.countP_append]
 cases hr:rightS m s bs[i]<;>simp[hr]
theorem wrongsS_le (m:Machine) (bs:List Balance) (s:Setting):wrongsS m bs s≤bs.length:=List.countP_le_length
def isSet (m:Machine) (s:Setting):Prop:=okS m s∧(wrongsS m m.bals s:Int)≤m.wrong
noncomputable instance (m:Machine) (s:Setting):Decidable (isSet m s):=Classical.propDecidable _
def isTruth (p:Proof) (t:Truth):Prop:=isTr p.chain t.ends∧isSet p.machine t.set
noncomputable instance (p:Proof) (t:Truth):Decidable (isTruth p t):=Classical.propDecidable _
section
variable {K:World→Prop} (hK:∀ w w',K w→Below w.heap.size w w'→K w')
include hK
end
end Go.Pf
