/- slices.Insert, Delete and Reverse at a row of ints of the caller's own, from contracts in the kit's words. -/
import Derived.Test.YtidcmjicfnjcjaaGreatEvFour
import Derived.Ground.SlgnProg
import Derived.Shelf.SlicesE.Reverse
import Derived.Shelf.SlicesE.Delete
import Derived.Lib.SliceRun
import Derived.Lib.JoinLaws
import Derived.Test.YtidcmjicfnjcjaaGreatLays
import Derived.Test.YtidcmjicfnjcjaaGreatKeys
import Derived.Test.YtidcmjicfnjcjaaGreatLevers
import Derived.Test.YtidcmjicfnjcjaaGreatRef
import Derived.Shelf.SortM.Plain
import Derived.Shelf.SortM.SortNone
import Derived.Ground.GgzProg
import Derived.Ground.SlgmProg
set_option linter.all false

namespace Go.Ev
open Go Go.RowKit Go.Sort
section
variable {P:Program} {K:World→Prop}
@[reducible] def intO (zs:List Int) (mv:Nat):AO:=.arr 3 1 (zs.map fun z=>[AV.iv (.int .i64 z)]) mv
@[reducible] def intI (zs:List Int):IV:=.sl 1 (zs.map fun z=>[IV.int .i64 z])
theorem mapBlock_at {w:World} {g:Nat} {f:Array Value→Array Value} {c:Array Value} {e:TypeId} {fr:Nat × Nat} (h:w.heap[g]?=some (.cells c e fr)):(mapBlock w g f).heap[g]?=some (.cells (f c) e fr):=by
 simp only[mapBlock,Array.getElem?_modify,if_true,h,Option.map_some,onCells]
theorem mapBlock_ne {w:World} {g k:Nat} {f:Array Value→Array Value} (h:k≠g):(mapBlock w g f).heap[k]?=w.heap[k]?:=by
 simp only[mapBlock,Array.getElem?_modify,if_neg (Ne.symm h)]
theorem mapBlock_size {w:World} {g:Nat} {f:Array Value→Array Value}:(mapBlock w g f).heap.size=w.heap.size:=by
 simp only[mapBlock,Array.size_modify]
theorem mapBlock_keep {Fr:Nat→Prop} {w:World} {g:Nat} {f:Array Value→Array Value} (h:¬ Fr g):Keep Fr w (mapBlock w g f) :=
 ⟨rfl,rfl,rfl,by rw[mapBlock_size];exact Nat.le_refl _,fun k hk=>mapBlock_ne fun e=>h (e▸hk)⟩
theorem setCells_keep {Fr:Nat→Prop} {g:Nat} (h:¬ Fr g):∀ (vs:List Value) (o:Nat) (w:World),Keep Fr w (w.setCells g o vs)
 | [],_,w=>Keep.refl _ _
 | v::r,o,w=>by
   rw[World.setCells]
   have h1:Keep Fr w (w.setCell ⟨g,o,none⟩ v):=by rw[setCell_eq];exact mapBlock_keep h
   have h2:=setCells_keep h r (o+1) (w.setCell ⟨g,o,none⟩ v)
   exact ⟨h2.os.trans h1.os,h2.tape.trans h1.tape,h2.output.trans h1.output,Nat.le_trans h1.size h2.size,fun k hk=>(h2.block k hk).trans (h1.block k hk)⟩
theorem alloc_keep (w:World) (o:Obj):Keep (fun b=>b<w.heap.size) w (w.alloc o) :=
 ⟨rfl,rfl,rfl,by show _≤(w.heap.push o).size;rw[Array.size_push];omega,fun k hk=>by
  show (w.heap.push o)[k]?=_
  rw[Array.getElem?_push,if_neg (Nat.ne_of_lt hk)]⟩
structure RowAt (w:World) (v:Value) (zs:List Int) (g cap:Nat) (cur:Array Value):Prop where
 v:v=.slice (some ⟨g,0,none⟩) zs.length cap
 at_:w.heap[g]?=some (.cells cur 3 (0,0))
 le:zs.length≤cap
 max:cap≤maxLen
 size:cur.size=cap
 take:cur.toList.take zs.length=zs.map (.int .i64)
theorem RowAt.cell {w:World} {v:Value} {zs:List Int} {g cap:Nat} {cur:Array Value} (h:RowAt w v zs g cap cur) (j:Nat):w.cell? ⟨g,j,none⟩=cur[j]?:=by
 simp[World.cell?,h.at_]
theorem RowAt.frozen {w:World} {v:Value} {zs:List Int} {g cap:Nat} {cur:Array Value} (h:RowAt w v zs g cap cur) (j:Nat):w.frozen? ⟨g,j,none⟩=false:=by
 simp[World.frozen?,h.at_]
theorem RowAt.get {w:World} {v:Value} {zs:List Int} {g cap:Nat} {cur:Array Value} (h:RowAt w v zs g cap cur) (j:Nat) (hj:j<zs.length):cur[j]?=some (.int .i64 zs[j]):=by
 have h1:(cur.toList.take zs.length)[j]?=some (.int .i64 zs[j]):=by rw[h.take];simp[hj]
 rw[List.getElem?_take,if_pos hj] at h1
 simpa using h1
theorem RowAt.holds {w:World} {v:Value} {zs:List Int} {g cap:Nat} {cur:Array Value} (h:RowAt w v zs g cap cur):Holds (Value.int .i64) w g 0 zs.toArray:=by
 intro j hj
 have hj':j<zs.length:=by simpa using hj
 refine ⟨?_,by rw[Nat.zero_add];exact h.frozen j⟩
 rw[Nat.zero_add,h.cell,h.get j hj',getElem!_pos _ j hj]
 simp
theorem row_of {Fr ok:Nat→Prop} {w:World} {lo:Nat→Option AO} {L:Nat→Lay} {zs:List Int} {mv:Nat} {l:Lay} (h:ObjRep Fr ok w lo L (intO zs mv) l) :
  ∃ v xs,l=.arr v xs∧((v=.slice none 0 0∧zs=[])∨∃ g cap cur,RowAt w v zs g cap cur∧¬ Fr g):=by
 cases l with
 | arr v xs =>
   obtain ⟨⟨⟨h1,h2⟩,h3⟩,h4,h5,h6,h7⟩:=h
   refine ⟨v,xs,rfl,?_⟩
   simp only[List.length_map] at h1 h2
   rcases h2 with ⟨h2,h8⟩ | ⟨g,cap,cur,h8,h9,h10,h11,h12,h13,h14⟩
   ·exact .inl ⟨h2,by simpa using h8⟩
   ·refine .inr ⟨g,cap,cur,⟨h8,h10,h11,h12,by omega,?_⟩,h3 g (by simp[h8,Value.ownBlock])⟩
    rw[Nat.mul_one] at h14
    rw[h14]
    refine List.ext_getElem? fun i=>?_
    by_cases hi:i<zs.length
    ·have hx:i<xs.length:=by omega
     rw[List.getElem?_eq_getElem hx]
     have:=h7 i 0 [AV.iv (.int .i64 zs[i])] (.iv (.int .i64 zs[i])) xs[i] (by simp[hi]) (by simp) (by simp[hx])
     cases this with
     | iv _ _ r => 
       generalize hz:xs[i]=z at r
       cases r
       simp[hi,hz]
    ·rw[List.getElem?_eq_none (by omega),List.getElem?_eq_none (by simp;omega)]
 | _=>exact absurd h (by simp[ObjRep])
theorem arg_of {ok:Nat→Prop} {w:World} {lo:Nat→Option AO} {L:Nat→Lay} {zs:List Int} {mv id n:Nat} {v u:Value} {xs:List Value} (hid:lo id=some (intO zs mv)) (hL:L id=.arr v xs) (hn:n=zs.length) (h:RepA ok w lo L (.aref id n) u):u=v:=by
 cases h with
 | aref _ e sz es mv' v' xs' ho hL' h1 =>
   rw[hL] at hL'
   injection hL' with h3 h4
   exact h3.symm
 | old _ _ e sz es mv' v1 v2 xs' ho hL' h1 hlt hv =>
   rw[hid] at ho
   injection ho with ho
   injection ho with _ _ ho _
   subst ho
   simp at hlt
   omega
theorem rep_ints {ok:Nat→Prop} {w:World} (zs:List Int) (b cap:Nat) (hcap:zs.length≤cap) (hmax:cap≤maxLen) (hb:ok b) (hc:∀ j z,zs[j]?=some z→w.cell? ⟨b,j,none⟩=some (.int .i64 z)) :
  RepI ok w (intI zs) (.slice (some ⟨b,0,none⟩) zs.length cap):=by
 have h:=RepI.sl (ok:=ok) (w:=w) 1 (zs.map fun z=>[IV.int .i64 z]) b 0 cap (fun k=>.int .i64 (zs.getD k 0)) (by simpa using hcap) hmax (by simp) (fun k hk=>?_) (fun i j c x hi hj=>?_)
 ·simpa using h
 ·simp only[List.length_map,Nat.mul_one] at hk
  refine ⟨hb,?_,rfl⟩
  rw[Nat.zero_add,hc k zs[k] (by simp[hk])]
  simp[List.getD_eq_getElem?_getD,hk]
 ·rw[List.getElem?_map,Option.map_eq_some_iff] at hi
  obtain ⟨z,hz,rfl⟩:=hi
  cases j with
  | zero =>
    simp at hj
    subst hj
    rw[Nat.mul_one,Nat.add_zero,List.getD_eq_getElem?_getD,hz]
    exact .int _ _
  | succ j=>simp at hj
theorem laid_none {Fr ok:Nat→Prop} {w:World} {L:Nat→Lay}:Laid Fr ok w (lookO []) L:=⟨by simp[lookO],by simp[lookO]⟩
theorem reverse_goodh {f:FuncId}
  (he:∀ (a:Option Addr) (cap:Nat) (w:World),Calls P f #[.slice a 0 cap] w fun e w'=>e=.returned (.tuple #[])∧w'=w)
  (hr:∀ (blk off cap:Nat) (zs:List Int) (w:World),Holds (Value.int .i64) w blk off zs.toArray→zs.length≤9223372036854775807 →
    Calls P f #[.slice (some ⟨blk,off,none⟩) zs.length cap] w fun e w'=>e=.returned (.tuple #[])∧∃ n,w'=putRow (Value.int .i64) (Sort.ahead w n) blk off zs.reverse.toArray)
  (zs:List Int) (mv:Nat):GoodH P K f [.aref 0 zs.length] [(0,intO zs mv)] [0] (.iv (.tup [])) [(0,intO zs.reverse zs.length)]:=by
 intro w ok L vs hK hnew hown hlaid hvl hvs
 obtain ⟨v0,rfl⟩:∃ v0,vs=[v0]:=by
  match vs,hvl with
  | [v],_=>exact ⟨v,rfl⟩
 have hob:=hlaid.objs 0 (intO zs mv) rfl
 obtain ⟨v,xs,hL,hrow⟩:=row_of hob
 have hv:v0=v:=arg_of (id:=0) (zs:=zs) (mv:=mv) rfl hL rfl (hvs 0 _ v0 rfl rfl)
 subst hv
 have fin:∀ (w':World) (xs':List Value),Keep (FrO w (lookO [(0,intO zs mv)]) L) w w'→ownsF (FrO w (lookO [(0,intO zs mv)]) L) w' 3 1 v0 zs.length xs'→xs'=zs.reverse.map (.int .i64) →
   ∃ v1 L',(Ending.returned (.tuple #[]):Ending)=.returned v1∧Laid (FrO w (lookO [(0,intO zs mv)]) L) ok w' (lookO [(0,intO zs.reverse zs.length)]) L'∧RepA (okL ok (lookO [(0,intO zs.reverse zs.length)]) L') w' (lookO [(0,intO zs.reverse zs.length)]) L' (.iv (.tup [])) v1∧Keep (FrO w (lookO [(0,intO zs mv)]) L) w w' ∧
    ∀ i∈[0],∀ o,lookO [(0,intO zs mv)] i=some o→∃ o',lookO [(0,intO zs.reverse zs.length)] i=some o'∧StayO o o' (L i) (L' i):=by
  intro w' xs' hk ho hx
  refine ⟨.tuple #[],fun _=>.arr v0 xs',rfl,⟨fun id o hid=>?_,fun i j oi oj b hij hi hj=>?_⟩,.iv _ _ (.tup [] [] rfl (by simp)),hk,fun i hi o h=>?_⟩
  ·simp only[lookO] at hid
   split at hid
   ·injection hid with hid
    subst hid
    refine ⟨by simpa using ho,by simp,by simp,fun u hu=>?_,fun i j c x u hi hj hu=>?_⟩
    ·rw[hx] at hu
     obtain ⟨z,_,rfl⟩:=List.mem_map.1 hu
     rfl
    ·rw[List.getElem?_map,Option.map_eq_some_iff] at hi
     obtain ⟨z,hz,rfl⟩:=hi
     cases j with
     | zero =>
       simp at hj
       subst hj
       rw[hx,Nat.mul_one,Nat.add_zero,List.getElem?_map,hz] at hu
       simp at hu
       subst hu
       exact .iv _ _ (.int _ _)
     | succ j=>simp at hj
   ·cases hid
  ·simp only[lookO] at hi hj
   split at hi<;>split at hj<;>simp_all
  ·simp at hi
   subst hi
   simp only[lookO,if_true] at h
   injection h with h
   subst h
   refine ⟨intO zs.reverse zs.length,by simp[lookO],?_⟩
   rw[hL]
   simp[StayO]
 rcases hrow with ⟨rfl,rfl⟩ | ⟨g,cap,cur,hr1,hfr⟩
 ·refine (he none 0 w).mono fun e w' ⟨h1,h2⟩=>?_
  subst h1 h2
  exact fin w' [] (Keep.refl _ _) ⟨⟨by simp,.inl ⟨rfl,rfl⟩⟩,by simp[Value.ownBlock]⟩ (by simp)
 ·have hv:=hr1.v
  subst hv
  refine (hr g 0 cap zs w hr1.holds (by have:=hr1.max;have:=hr1.le;unfold maxLen at *;omega)).mono fun e w' ⟨h1,n,h2⟩=>?_
  subst h1
  have hk:Keep (FrO w (lookO [(0,intO zs mv)]) L) w w':=by
   have h3:Keep (FrO w (lookO [(0,intO zs mv)]) L) (Sort.ahead w n) w':=by rw[h2];exact mapBlock_keep hfr
   exact ⟨h3.os,h3.tape,h3.output,h3.size,h3.block⟩
  have hh:w'.heap[g]?=some (.cells (putCells (Value.int .i64) 0 zs.reverse.toArray cur) 3 (0,0)):=by
   rw[h2];exact mapBlock_at (w:=Sort.ahead w n) hr1.at_
  refine fin w' _ hk ⟨⟨?_,.inr ⟨g,cap,_,rfl,Nat.zero_le _,hh,hr1.le,hr1.max,?_,rfl⟩⟩,fun b hb=>?_⟩ ?_
  ·simp[putCells,hr1.size,hr1.le]
  ·simp[putCells,hr1.size]
  ·simp[Value.ownBlock] at hb
   subst hb
   exact hfr
  ·refine List.ext_getElem? fun i=>?_
   rw[List.getElem?_take]
   by_cases hi:i<zs.length
   ·have h1:=hr1.size
    have h2:=hr1.le
    have h3:i<cur.size:=by omega
    rw[Nat.mul_one,if_pos hi]
    simp only[putCells,Array.getElem?_toList,Array.getElem?_mapIdx,Array.getElem?_eq_getElem h3,Option.map_some,List.getElem?_map]
    rw[if_pos ⟨Nat.zero_le _,by simpa using hi⟩,getElem!_pos _ _ (by simpa using hi)]
    have:i<zs.reverse.length:=by simpa using hi
    rw[List.getElem?_eq_getElem this]
    simp
   ·rw[Nat.mul_one,if_neg hi,List.getElem?_eq_none (by simp;omega)]
theorem delete_goodh {f:FuncId} 
  (hd:∀ (blk off cap i j:Nat) (d:Array Int) (w:World),Holds (Value.int .i64) w blk off d→d.size≤cap→cap≤9223372036854775807→i≤j→j≤d.size →
    Calls P f #[.slice (some ⟨blk,off,none⟩) d.size cap,.int .i64 i,.int .i64 j] w fun e w'=>e=.returned (.slice (some ⟨blk,off,none⟩) (d.size-(j-i)) cap)∧∃ q,w'=putRow (Value.int .i64) (Sort.ahead w q) blk off (d.toList.take i++d.toList.drop j++List.replicate (j-i) 0).toArray)
  (zs:List Int) (mv:Nat) (i:Nat) (hi:i<zs.length):GoodH P K f [.aref 0 zs.length,.iv (.int .i64 (i:Nat)),.iv (.int .i64 ((i+1:Nat):Int))] [(0,intO zs mv)] [] (.iv (intI (zs.eraseIdx i))) []:=by
 intro w ok L vs hK hnew hown hlaid hvl hvs
 obtain ⟨v0,v1,v2,rfl⟩:∃ v0 v1 v2,vs=[v0,v1,v2]:=by
  match vs,hvl with
  | [v,u,z],_=>exact ⟨v,u,z,rfl⟩
 have hob:=hlaid.objs 0 (intO zs mv) rfl
 obtain ⟨v,xs,hL,hrow⟩:=row_of hob
 have hv:v0=v:=arg_of (id:=0) (zs:=zs) (mv:=mv) rfl hL rfl (hvs 0 _ v0 rfl rfl)
 subst hv
 have e1:v1=.int .i64 (i:Nat):=by
  have:=hvs 1 _ v1 rfl rfl
  cases this with
  | iv _ _ r=>cases r;rfl
 have e2:v2=.int .i64 ((i+1:Nat):Int):=by
  have:=hvs 2 _ v2 rfl rfl
  cases this with
  | iv _ _ r=>cases r;rfl
 subst e1 e2
 rcases hrow with ⟨rfl,rfl⟩ | ⟨g,cap,cur,hr1,hfr⟩
 ·simp at hi
 ·have hv:=hr1.v
  subst hv
  have hm:=hr1.max
  have hle:=hr1.le
  have:=hd g 0 cap i (i+1) zs.toArray w hr1.holds (by simpa using hle) (by unfold maxLen at *;omega) (by omega) (by simp;omega)
  have es:zs.toArray.size=zs.length:=by simp
  rw[es] at this
  refine this.mono fun e w' ⟨h1,q,h2⟩=>?_
  have hgo:ok g:=hown g ⟨0,intO zs mv,rfl,by rw[hL];simp[Lay.has,Value.ownBlock]⟩
  have hk:Keep (FrO w (lookO [(0,intO zs mv)]) L) w w':=by
   have h3:Keep (FrO w (lookO [(0,intO zs mv)]) L) (Sort.ahead w q) w':=by rw[h2];exact mapBlock_keep hfr
   exact ⟨h3.os,h3.tape,h3.output,h3.size,h3.block⟩
  have hnew:Holds (Value.int .i64) w' g 0 (zs.take i++zs.drop (i+1)++List.replicate (i+1-i) 0).toArray:=by
   have h3:=holds_putRow (Value.int .i64) (Sort.ahead w q) g 0 zs.toArray (zs.take i++zs.drop (i+1)++List.replicate (i+1-i) 0).toArray (holds_ahead _ w q g 0 _ hr1.holds) (by simp;omega)
   rw[h2]
   simpa using h3
  have hlen:(zs.eraseIdx i).length=zs.length-(i+1-i):=by rw[List.length_eraseIdx_of_lt hi];omega
  subst h1
  refine ⟨_,fun _=>.one 0,rfl,laid_none,.iv _ _ ?_,hk,by simp⟩
  rw[← hlen]
  refine rep_ints _ _ _ (by omega) hm ⟨hgo,by simp[lookO]⟩ fun j z hj=>?_
  rw[List.eraseIdx_eq_take_drop_succ] at hj
  have hjl:=(List.getElem?_eq_some_iff.1 hj).1
  have h3:=(hnew j (by simp at hjl ⊢;omega)).1
  rw[Nat.zero_add] at h3
  rw[h3,getElem!_pos _ _ (by simp at hjl ⊢;omega)]
  congr 2
  have:(zs.take i++zs.drop (i+1)++List.replicate (i+1-i) 0)[j]?=some z:=by
   rw[List.getElem?_append_left hjl,hj]
  obtain ⟨h4,h5⟩:=List.getElem?_eq_some_iff.1 this
  simpa using h5
theorem insert_goodh {f:FuncId}
  (hshift:∀ (b n c i vb vc:Nat) (cs:List Value) (x:Value) (w:World),i<n→n+1≤c→c≤9223372036854775807→vb≠b→cs.length=n →
    (∀ j v,cs[j]?=some v→w.cell? ⟨b,0+j,none⟩=some v)→(∀ j,j<n+1→(w.cell? ⟨b,0+j,none⟩).isSome=true)→(∀ j,j<n+1→w.frozen? ⟨b,0+j,none⟩=false) →
    (∀ j v,[x][j]?=some v→w.cell? ⟨vb,0+j,none⟩=some v)→(∀ v∈cs,v.oneCell'=true)→(∀ v∈[x],v.oneCell'=true) →
    ∀ (tA tB:TypeId) (kA kB:Nat),w.shape? vb=some (tA,kA)→w.shape? b=some (tB,kB)→kB≠0→w.frozen? ⟨vb,0,none⟩=false→w.frozen? ⟨vb,kA,none⟩=false →
    Calls P f #[.slice (some ⟨b,0,none⟩) n c,.int .i64 i,.slice (some ⟨vb,0,none⟩) 1 vc] w fun e w' =>
     e=.returned (.slice (some ⟨b,0,none⟩) (n+1) c)∧w'=(w.drew.setCells b (0+(i+1)) (cs.drop i)).setCells b (0+i) [x])
  (hroom:∀ (b n c vb vc:Nat) (x:Value) (w:World),n+1≤c→c≤9223372036854775807→(∀ j,j<1→(w.cell? ⟨b,0+n+j,none⟩).isSome=true)→(∀ j,j<1→w.frozen? ⟨b,0+n+j,none⟩=false) →
    (∀ j v,[x][j]?=some v→w.cell? ⟨vb,0+j,none⟩=some v)→(∀ v∈[x],v.oneCell'=true) →
    Calls P f #[.slice (some ⟨b,0,none⟩) n c,.int .i64 n,.slice (some ⟨vb,0,none⟩) 1 vc] w fun e w' =>
     e=.returned (.slice (some ⟨b,0,none⟩) (n+1) c)∧w'=w.setCells b (0+n) [x])
  (hend:∀ (base:Option Addr) (n c vb vc:Nat) (cs:List Value) (x:Value) (w:World),n≤c→c<n+1→(n+1)*8≤140737488355328→cs.length=n→(base=none→n=0) →
    (∀ a,base=some a→∀ j v,cs[j]?=some v→w.cell? (a.add j)=some v)→(∀ j v,[x][j]?=some v→w.cell? ⟨vb,0+j,none⟩=some v)→(∀ v∈[x],v.oneCell'=true) →
    Calls P f #[.slice base n c,.int .i64 n,.slice (some ⟨vb,0,none⟩) 1 vc] w fun e w' =>
     e=.returned (.slice (some ⟨w.heap.size,0,none⟩) (n+1) (grownCap w (n+1) c 3)) ∧
     w'=w.drew.alloc (.cells ((cs++[x]).toArray++Builtin.zeroCells (Value.int .i64 0).cells (grownCap w (n+1) c 3-(n+1))) 3))
  (hgrow:∀ (b n c i vb vc:Nat) (cs:List Value) (x:Value) (w:World),i<n→n≤c→c<n+1→(n+1)*8≤140737488355328→cs.length=n →
    (∀ j v,cs[j]?=some v→w.cell? ⟨b,0+j,none⟩=some v)→(∀ j v,[x][j]?=some v→w.cell? ⟨vb,0+j,none⟩=some v)→(∀ v∈cs,v.oneCell'=true)→(∀ v∈[x],v.oneCell'=true) →
    Calls P f #[.slice (some ⟨b,0,none⟩) n c,.int .i64 i,.slice (some ⟨vb,0,none⟩) 1 vc] w fun e w' =>
     e=.returned (.slice (some ⟨w.heap.size,0,none⟩) (n+1) (grownCap w (n+1) c 3)) ∧
     w'=(((w.alloc (.cells ((cs.take i).toArray++Builtin.zeroCells (Value.int .i64 0).cells (n+1-i)++Builtin.zeroCells (Value.int .i64 0).cells (grownCap w (n+1) c 3-(n+1))) 3)).drew.setCells w.heap.size i [x]).drew).setCells w.heap.size (i+1) (cs.drop i))
  (zs:List Int) (mv:Nat) (i:Nat) (hi:i≤zs.length) (x:Int) (mv':Nat) (hlen:zs.length≤1000000):GoodH P K f [.aref 0 zs.length,.iv (.int .i64 (i:Nat)),.aref 1 1] [(0,intO zs mv),(1,intO [x] mv')] [] (.iv (intI (zs.take i++x::zs.drop i))) []:=by
 intro w ok L vs hK hnew hown hlaid hvl hvs
 obtain ⟨v0,v1,v2,rfl⟩:∃ v0 v1 v2,vs=[v0,v1,v2]:=by
  match vs,hvl with
  | [v,u,z],_=>exact ⟨v,u,z,rfl⟩
 obtain ⟨v,xs,hL,hrow⟩:=row_of (hlaid.objs 0 (intO zs mv) rfl)
 obtain ⟨v',xs',hL',hrow'⟩:=row_of (zs:=[x]) (hlaid.objs 1 (intO [x] mv') rfl)
 have hv:v0=v:=arg_of (id:=0) (zs:=zs) (mv:=mv) rfl hL rfl (hvs 0 _ v0 rfl rfl)
 have hv':v2=v':=arg_of (id:=1) (zs:=[x]) (mv:=mv') rfl hL' rfl (hvs 2 _ v2 rfl rfl)
 have e1:v1=.int .i64 (i:Nat):=by
  have:=hvs 1 _ v1 rfl rfl
  cases this with
  | iv _ _ r=>cases r;rfl
 subst hv hv' e1
 have hmax:maxLen=1099511627775∨2000000≤maxLen∧maxLen≤9223372036854775807:=by unfold maxLen;omega
 rcases hrow' with ⟨_,h⟩ | ⟨vb,vc,cur',hr2,hfr2⟩
 ·cases h
 have hv2:=hr2.v
 subst hv2
 have hx:∀ j v,[Value.int .i64 x][j]?=some v→w.cell? ⟨vb,0+j,none⟩=some v:=fun j v hj=>by
  cases j with
  | zero =>
    simp at hj
    subst hj
    rw[hr2.cell,hr2.get 0 (by simp)]
    simp
  | succ j=>simp at hj
 have hone:∀ v∈[Value.int .i64 x],v.oneCell'=true:=by simp[Value.oneCell']
 have hvw:vb<w.heap.size:=(Array.getElem?_eq_some_iff.1 hr2.at_).1
 have hlen':(zs.take i++x::zs.drop i).length=zs.length+1:=by simp;omega
 -- a new row
 have fresh:∀ (w':World) (cap:Nat),Keep (fun b=>b<w.heap.size) w w'→zs.length+1≤cap→cap≤maxLen→(∀ j z,(zs.take i++x::zs.drop i)[j]?=some z→w'.cell? ⟨w.heap.size,j,none⟩=some (.int .i64 z)) →
   ∃ v1 L',(Ending.returned (.slice (some ⟨w.heap.size,0,none⟩) (zs.length+1) cap):Ending)=.returned v1∧Laid (FrO w (lookO [(0,intO zs mv),(1,intO [x] mv')]) L) ok w' (lookO []) L'∧RepA (okL ok (lookO []) L') w' (lookO []) L' (.iv (intI (zs.take i++x::zs.drop i))) v1∧Keep (FrO w (lookO [(0,intO zs mv),(1,intO [x] mv')]) L) w w' ∧
    ∀ i∈([]:List Nat),∀ o,lookO [(0,intO zs mv),(1,intO [x] mv')] i=some o→∃ o',lookO [] i=some o'∧StayO o o' (L i) (L' i):=fun w' cap hk h1 h2 h3=>by
  refine ⟨_,fun _=>.one 0,rfl,laid_none,.iv _ _ ?_,⟨hk.os,hk.tape,hk.output,hk.size,fun k hkk=>hk.block k hkk.1⟩,by simp⟩
  rw[← hlen'] at h1 ⊢
  exact rep_ints _ _ _ h1 h2 ⟨hnew _ (Nat.le_refl _),by simp[lookO]⟩ h3
 -- in place
 have inplace:∀ (g cap:Nat) (cur:Array Value) (w':World),RowAt w v0 zs g cap cur→¬ FrO w (lookO [(0,intO zs mv),(1,intO [x] mv')]) L g→Keep (FrO w (lookO [(0,intO zs mv),(1,intO [x] mv')]) L) w w'→zs.length+1≤cap→(∀ j z,(zs.take i++x::zs.drop i)[j]?=some z→w'.cell? ⟨g,j,none⟩=some (.int .i64 z)) →
   ∃ v1 L',(Ending.returned (.slice (some ⟨g,0,none⟩) (zs.length+1) cap):Ending)=.returned v1∧Laid (FrO w (lookO [(0,intO zs mv),(1,intO [x] mv')]) L) ok w' (lookO []) L'∧RepA (okL ok (lookO []) L') w' (lookO []) L' (.iv (intI (zs.take i++x::zs.drop i))) v1∧Keep (FrO w (lookO [(0,intO zs mv),(1,intO [x] mv')]) L) w w' ∧
    ∀ i∈([]:List Nat),∀ o,lookO [(0,intO zs mv),(1,intO [x] mv')] i=some o→∃ o',lookO [] i=some o'∧StayO o o' (L i) (L' i):=fun g cap cur w' hr1 _ hk h1 h3=>by
  have hgo:ok g:=hown g ⟨0,intO zs mv,rfl,by rw[hL,hr1.v];simp[Lay.has,Value.ownBlock]⟩
  refine ⟨_,fun _=>.one 0,rfl,laid_none,.iv _ _ ?_,hk,by simp⟩
  have h2:=hr1.max
  rw[← hlen'] at h1 ⊢
  exact rep_ints _ _ _ h1 h2 ⟨hgo,by simp[lookO]⟩ h3
 have hcs:∀ j,j<zs.length→(zs.map (Value.int .i64))[j]?=some (.int .i64 zs[j]!):=fun j hj=>by simp[hj]
 have onev:∀ v∈zs.map (Value.int .i64),v.oneCell'=true:=fun v hv=>by
  obtain ⟨z,_,rfl⟩:=List.mem_map.1 hv
  rfl
 rcases Nat.lt_or_ge i zs.length with hlt | hge
 ·
  rcases hrow with ⟨_,h⟩ | ⟨g,cap,cur,hr1,hfr⟩
  ·subst h;simp at hlt
  have hv:=hr1.v
  have hm:=hr1.max
  have hle:=hr1.le
  have hgw:g<w.heap.size:=(Array.getElem?_eq_some_iff.1 hr1.at_).1
  have hne:vb≠g:=fun e=>hlaid.apart 0 1 (intO zs mv) (intO [x] mv') g (by simp) rfl rfl (by rw[hL,hv];simp[Lay.has,Value.ownBlock]) (by rw[hL',e];simp[Lay.has,Value.ownBlock])
  have hc:∀ j v,(zs.map (Value.int .i64))[j]?=some v→w.cell? ⟨g,0+j,none⟩=some v:=fun j v hj=>by
   rw[List.getElem?_map,Option.map_eq_some_iff] at hj
   obtain ⟨z,hz,rfl⟩:=hj
   obtain ⟨h1,h2⟩:=List.getElem?_eq_some_iff.1 hz
   rw[Nat.zero_add,hr1.cell,hr1.get j h1,h2]
  have hmid:∀ j z,(zs.take i++x::zs.drop i)[j]?=some z→(j<i∧zs[j]?=some z)∨(j=i∧z=x)∨(i+1≤j∧(zs.drop i)[j-(i+1)]?=some z):=fun j z hj=>by
   rcases Nat.lt_trichotomy j i with h | h | h
   ·rw[List.getElem?_append_left (by simp;omega),List.getElem?_take,if_pos h] at hj
    exact .inl ⟨h,hj⟩
   ·subst h
    rw[List.getElem?_append_right (by simp;omega),List.length_take,Nat.min_eq_left (by omega),Nat.sub_self] at hj
    simp at hj
    exact .inr (.inl ⟨rfl,hj.symm⟩)
   ·rw[List.getElem?_append_right (by simp;omega),List.length_take,Nat.min_eq_left (by omega)] at hj
    obtain ⟨k,rfl⟩:∃ k,j=i+1+k:=⟨j-(i+1),by omega⟩
    rw[show i+1+k-i=k+1 by omega,List.getElem?_cons_succ] at hj
    exact .inr (.inr ⟨by omega,by rw[show i+1+k-(i+1)=k by omega];exact hj⟩)
  rcases Nat.lt_or_ge zs.length cap with hcap | hcap
  ·
   have hsome:∀ j,j<zs.length+1→(w.cell? ⟨g,0+j,none⟩).isSome=true:=fun j hj=>by
    rw[Nat.zero_add,hr1.cell,Array.getElem?_eq_getElem (by have:=hr1.size;omega)];rfl
   have h0:=hshift g zs.length cap i vb vc (zs.map (.int .i64)) (.int .i64 x) w hlt (by omega) (by omega) hne (by simp) hc hsome (fun j _=>hr1.frozen _) hx onev hone 3 3 cur'.size cur.size
    (by simp[World.shape?,hr2.at_]) (by simp[World.shape?,hr1.at_]) (by have:=hr1.size;omega) (hr2.frozen _) (hr2.frozen _)
   rw[← hv] at h0
   refine h0.mono fun e w' ⟨h1,h2⟩=>?_
   subst h1
   have hk:Keep (FrO w (lookO [(0,intO zs mv),(1,intO [x] mv')]) L) w w':=by
    have k1:=setCells_keep (Fr:=FrO w (lookO [(0,intO zs mv),(1,intO [x] mv')]) L) hfr ((zs.map (Value.int .i64)).drop i) (0+(i+1)) w.drew
    have k2:=setCells_keep (Fr:=FrO w (lookO [(0,intO zs mv),(1,intO [x] mv')]) L) hfr [Value.int .i64 x] (0+i) (w.drew.setCells g (0+(i+1)) ((zs.map (Value.int .i64)).drop i))
    rw[h2]
    exact ⟨k2.os.trans k1.os,k2.tape.trans k1.tape,k2.output.trans k1.output,Nat.le_trans k1.size k2.size,fun k hk=>(k2.block k hk).trans (k1.block k hk)⟩
   refine inplace g cap cur w' hr1 hfr hk (by omega) fun j z hj=>?_
   have in1:∀ k,k<((zs.map (Value.int .i64)).drop i).length→(w.drew.cell? ⟨g,0+(i+1)+k,none⟩).isSome=true:=fun k hk=>by
    have:=hsome (i+1+k) (by simp at hk;omega)
    rw[show 0+(i+1)+k=0+(i+1+k) by omega]
    exact this
   have sm1:∀ k,(w.cell? ⟨g,k,none⟩).isSome=true→((w.drew.setCells g (0+(i+1)) ((zs.map (Value.int .i64)).drop i)).cell? ⟨g,k,none⟩).isSome=true:=fun k hk=>by
    by_cases hin:0+(i+1)≤k∧k<0+(i+1)+((zs.map (Value.int .i64)).drop i).length
    ·have:=World.cell?_setCells_in g _ (0+(i+1)) w.drew in1 (k-(0+(i+1))) (by omega)
     rw[show 0+(i+1)+(k-(0+(i+1)))=k by omega] at this
     rw[this];rfl
    ·rw[World.cell?_setCells_out g _ (0+(i+1)) w.drew ⟨g,k,none⟩ (fun _ _=>by show k<_∨_≤k;omega)]
     exact hk
   rw[h2]
   rcases hmid j z hj with ⟨h3,h4⟩ | ⟨h3,h4⟩ | ⟨h3,h4⟩
   ·rw[World.cell?_setCells_out g [_] (0+i) _ ⟨g,j,none⟩ (fun _ _=>by show j<_∨_≤j;omega),World.cell?_setCells_out g _ (0+(i+1)) w.drew ⟨g,j,none⟩ (fun _ _=>by show j<_∨_≤j;omega)]
    have:=hc j (.int .i64 z) (by simp[h4])
    rw[Nat.zero_add] at this
    exact this
   ·subst h3 h4
    have:=World.cell?_setCells_in g [Value.int .i64 z] (0+j) (w.drew.setCells g (0+(j+1)) ((zs.map (Value.int .i64)).drop j)) (fun k hk=>sm1 _ (by
     have:=hsome j (by omega)
     simp at hk
     subst hk
     simpa using this)) 0 (by simp)
    simpa using this
   ·obtain ⟨k,rfl⟩:∃ k,j=i+1+k:=⟨j-(i+1),by omega⟩
    rw[show i+1+k-(i+1)=k by omega] at h4
    have hkl:=(List.getElem?_eq_some_iff.1 h4).1
    rw[World.cell?_setCells_out g [_] (0+i) _ ⟨g,i+1+k,none⟩ (fun _ _=>by show i+1+k<_∨_≤i+1+k;simp)]
    have:=World.cell?_setCells_in g ((zs.map (Value.int .i64)).drop i) (0+(i+1)) w.drew in1 k (by simpa using hkl)
    rw[Nat.zero_add] at this
    rw[Nat.zero_add,this]
    have h5:(List.drop i (zs.map (Value.int .i64)))[k]?=some (.int .i64 z):=by
     rw[← List.map_drop,List.getElem?_map,h4];rfl
    rw[List.getElem?_eq_getElem (by simpa using hkl)] at h5
    exact h5
  ·
   have hcap':cap=zs.length:=by omega
   have h0:=hgrow g zs.length cap i vb vc (zs.map (.int .i64)) (.int .i64 x) w hlt (by omega) (by omega) (by omega) (by simp) hc hx onev hone
   rw[← hv] at h0
   have hgc1:=grownCap_ge w (zs.length+1) cap 3
   have hgc2:=grownCap_le_maxLen w (zs.length+1) cap 3 (by omega)
   generalize grownCap w (zs.length+1) cap 3=G at *
   refine h0.mono fun e w' ⟨h1,h2⟩=>?_
   subst h1
   obtain ⟨ROW,hROW⟩:∃ ROW:Array Value,ROW=((zs.map (Value.int .i64)).take i).toArray++Builtin.zeroCells (Value.int .i64 0).cells (zs.length+1-i)++Builtin.zeroCells (Value.int .i64 0).cells (G-(zs.length+1)):=⟨_,rfl⟩
   rw[← hROW] at h2
   have hRs:zs.length+1≤ROW.size:=by
    rw[hROW]
    simp[Builtin.zeroCells,Value.cells]
    omega
   have hRt:∀ j z,j<i→zs[j]?=some z→ROW[j]?=some (.int .i64 z):=fun j z hj hz=>by
    rw[hROW,Array.append_assoc,Array.getElem?_append_left (by simp;omega)]
    simp[List.getElem?_take,hj,hz]
   have hN:∀ j,j<zs.length+1→((w.alloc (.cells ROW 3)).cell? ⟨w.heap.size,j,none⟩).isSome=true:=fun j hj=>by
    rw[World.cell?_alloc_at (w:=w) ROW _ w.heap.size j rfl,Array.getElem?_eq_getElem (by omega)];rfl
   obtain ⟨W1,hW1⟩:∃ W1,W1=(w.alloc (.cells ROW 3)).drew.setCells w.heap.size i [Value.int .i64 x]:=⟨_,rfl⟩
   rw[← hW1] at h2
   have hkA:Keep (fun b=>b<w.heap.size) w (w.alloc (.cells ROW 3)):=alloc_keep w _
   have hk1:Keep (fun b=>b<w.heap.size) w W1:=by
    have k2:=setCells_keep (Fr:=fun b=>b<w.heap.size) (g:=w.heap.size) (by simp) [Value.int .i64 x] i (w.alloc (.cells ROW 3)).drew
    rw[hW1]
    exact ⟨k2.os.trans hkA.os,k2.tape.trans hkA.tape,k2.output.trans hkA.output,Nat.le_trans hkA.size k2.size,fun k hk=>(k2.block k hk).trans (hkA.block k hk)⟩
   have hk2:Keep (fun b=>b<w.heap.size) w w':=by
    have k2:=setCells_keep (Fr:=fun b=>b<w.heap.size) (g:=w.heap.size) (by simp) ((zs.map (Value.int .i64)).drop i) (i+1) W1.drew
    rw[h2]
    exact ⟨k2.os.trans hk1.os,k2.tape.trans hk1.tape,k2.output.trans hk1.output,Nat.le_trans hk1.size k2.size,fun k hk=>(k2.block k hk).trans (hk1.block k hk)⟩
   have sm1:∀ k,k<zs.length+1→(W1.cell? ⟨w.heap.size,k,none⟩).isSome=true:=fun k hk=>by
    rw[hW1]
    by_cases hin:k=i
    ·subst hin
     have:=World.cell?_setCells_in w.heap.size [Value.int .i64 x] k (w.alloc (.cells ROW 3)).drew (fun t ht=>by simp at ht;subst ht;exact hN k hk) 0 (by simp)
     rw[Nat.add_zero] at this
     rw[this];rfl
    ·rw[World.cell?_setCells_out w.heap.size [_] i _ ⟨w.heap.size,k,none⟩ (fun _ _=>by show k<_∨_≤k;simp;omega)]
     exact hN k hk
   refine fresh w' G hk2 hgc1 hgc2 fun j z hj=>?_
   have in2:∀ k,k<((zs.map (Value.int .i64)).drop i).length→(W1.drew.cell? ⟨w.heap.size,i+1+k,none⟩).isSome=true:=fun k hk=>sm1 _ (by simp at hk;omega)
   rw[h2]
   rcases hmid j z hj with ⟨h3,h4⟩ | ⟨h3,h4⟩ | ⟨h3,h4⟩
   ·rw[World.cell?_setCells_out w.heap.size _ (i+1) W1.drew ⟨w.heap.size,j,none⟩ (fun _ _=>by show j<_∨_≤j;omega)]
    show W1.cell? _=_
    rw[hW1,World.cell?_setCells_out w.heap.size [_] i _ ⟨w.heap.size,j,none⟩ (fun _ _=>by show j<_∨_≤j;omega)]
    show (w.alloc (.cells ROW 3)).cell? _=_
    rw[World.cell?_alloc_at (w:=w) ROW _ w.heap.size j rfl]
    exact hRt j z h3 h4
   ·subst h3 h4
    rw[World.cell?_setCells_out w.heap.size _ (j+1) W1.drew ⟨w.heap.size,j,none⟩ (fun _ _=>by show j<_∨_≤j;omega)]
    show W1.cell? _=_
    rw[hW1]
    have:=World.cell?_setCells_in w.heap.size [Value.int .i64 z] j (w.alloc (.cells ROW 3)).drew (fun t ht=>by simp at ht;subst ht;exact hN j (by omega)) 0 (by simp)
    simpa using this
   ·obtain ⟨k,rfl⟩:∃ k,j=i+1+k:=⟨j-(i+1),by omega⟩
    rw[show i+1+k-(i+1)=k by omega] at h4
    have hkl:=(List.getElem?_eq_some_iff.1 h4).1
    have:=World.cell?_setCells_in w.heap.size ((zs.map (Value.int .i64)).drop i) (i+1) W1.drew in2 k (by simpa using hkl)
    rw[this]
    have h5:(List.drop i (zs.map (Value.int .i64)))[k]?=some (.int .i64 z):=by
     rw[← List.map_drop,List.getElem?_map,h4];rfl
    rw[List.getElem?_eq_getElem (by simpa using hkl)] at h5
    exact h5
 ·
  have hie:i=zs.length:=by omega
  subst hie
  have hsame:zs.take zs.length++x::zs.drop zs.length=zs++[x]:=by simp
  have grow:∀ (base:Option Addr) (c:Nat),v0=.slice base zs.length c→zs.length≤c→c<zs.length+1→(base=none→zs.length=0)→(∀ a,base=some a→∀ j v,(zs.map (Value.int .i64))[j]?=some v→w.cell? (a.add j)=some v) →
    Calls P f [v0,Value.int .i64 (zs.length:Nat),Value.slice (some ⟨vb,0,none⟩) [x].length vc].toArray w (fun e w'=>∃ v1 L',e=.returned v1∧Laid (FrO w (lookO [(0,intO zs mv),(1,intO [x] mv')]) L) ok w' (lookO []) L'∧RepA (okL ok (lookO []) L') w' (lookO []) L' (.iv (intI (zs.take zs.length++x::zs.drop zs.length))) v1∧Keep (FrO w (lookO [(0,intO zs mv),(1,intO [x] mv')]) L) w w' ∧
     ∀ i∈([]:List Nat),∀ o,lookO [(0,intO zs mv),(1,intO [x] mv')] i=some o→∃ o',lookO [] i=some o'∧StayO o o' (L i) (L' i)):=fun base c hv h1 h2 h3 h4=>by
   have h0:=hend base zs.length c vb vc (zs.map (.int .i64)) (.int .i64 x) w h1 h2 (by omega) (by simp) h3 h4 hx hone
   rw[← hv] at h0
   have hgc1:=grownCap_ge w (zs.length+1) c 3
   have hgc2:=grownCap_le_maxLen w (zs.length+1) c 3 (by omega)
   generalize grownCap w (zs.length+1) c 3=G at *
   refine h0.mono fun e w' ⟨h5,h6⟩=>?_
   subst h5
   obtain ⟨ROW,hROW⟩:∃ ROW:Array Value,ROW=(zs.map (Value.int .i64)++[Value.int .i64 x]).toArray++Builtin.zeroCells (Value.int .i64 0).cells (G-(zs.length+1)):=⟨_,rfl⟩
   rw[← hROW] at h6
   refine fresh w' G ?_ hgc1 hgc2 fun j z hj=>?_
   ·rw[h6]
    have:=alloc_keep w.drew (.cells ROW 3)
    exact ⟨this.os,this.tape,this.output,this.size,this.block⟩
   ·rw[h6,World.cell?_alloc_at (w:=w.drew) ROW _ w.heap.size j rfl,hROW]
    rw[hsame] at hj
    have hjl:=(List.getElem?_eq_some_iff.1 hj).1
    simp at hjl
    rw[Array.getElem?_append_left (by simp;omega)]
    have:(zs.map (Value.int .i64)++[Value.int .i64 x])=(zs++[x]).map (.int .i64):=by simp
    rw[this,List.getElem?_toArray,List.getElem?_map,hj]
    rfl
  rcases hrow with ⟨h1,h2⟩ | ⟨g,cap,cur,hr1,hfr⟩
  ·subst h2
   exact grow none 0 h1 (by simp) (by simp) (by simp) (by simp)
  have hv:=hr1.v
  have hm:=hr1.max
  have hle:=hr1.le
  rcases Nat.lt_or_ge zs.length cap with hcap | hcap
  ·have h0:=hroom g zs.length cap vb vc (.int .i64 x) w (by omega) (by omega) (fun j hj=>by
    rw[hr1.cell,Array.getElem?_eq_getElem (by have:=hr1.size;omega)];rfl) (fun j _=>hr1.frozen _) hx hone
   rw[← hv] at h0
   refine h0.mono fun e w' ⟨h1,h2⟩=>?_
   subst h1
   have hk:Keep (FrO w (lookO [(0,intO zs mv),(1,intO [x] mv')]) L) w w':=by
    rw[h2];exact setCells_keep hfr _ _ _
   refine inplace g cap cur w' hr1 hfr hk (by omega) fun j z hj=>?_
   rw[hsame] at hj
   rw[h2]
   rcases Nat.lt_or_ge j zs.length with h | h
   ·rw[List.getElem?_append_left h] at hj
    rw[World.cell?_setCells_out g [_] (0+zs.length) _ ⟨g,j,none⟩ (fun _ _=>by show j<_∨_≤j;omega),hr1.cell,hr1.get j h]
    obtain ⟨h3,h4⟩:=List.getElem?_eq_some_iff.1 hj
    rw[h4]
   ·have hj':j=zs.length:=by have:=(List.getElem?_eq_some_iff.1 hj).1;simp at this;omega
    subst hj'
    simp at hj
    subst hj
    have:=World.cell?_setCells_in g [Value.int .i64 x] (0+zs.length) w (fun k hk=>by
     simp at hk
     subst hk
     rw[hr1.cell,Array.getElem?_eq_getElem (by have:=hr1.size;omega)];rfl) 0 (by simp)
    simpa using this
  ·refine grow (some ⟨g,0,none⟩) cap hv hle (by omega) (by simp) (fun a ha j v hj=>?_)
   injection ha with ha
   subst ha
   rw[List.getElem?_map,Option.map_eq_some_iff] at hj
   obtain ⟨z,hz,rfl⟩:=hj
   obtain ⟨h1,h2⟩:=List.getElem?_eq_some_iff.1 hz
   rw[Addr.add_lit,Nat.zero_add,hr1.cell,hr1.get j h1,h2]
end
end Go.Ev

/- slices.Insert, Delete and Reverse at the cables: what they make of a row of ints of the caller's own. -/
namespace Go.Pf
open Go Go.Ev Go.Proofs Go.RowKit Go.Shelf
set_option maxRecDepth 8000
noncomputable def intI3:TypeInfo:=(Tryz.prog.info? 3).get (by kernel_rfl)
section
variable {K:World→Prop}
theorem goodh216 (zs:List Int) (mv:Nat):GoodH Tryz.prog K 216 [.aref 0 zs.length] [(0,intO zs mv)] [0] (.iv (.tup [])) [(0,intO zs.reverse zs.length)] :=
 reverse_goodh (fun a cap w=>AnyE.slices_Reverse_empty Tryz.rev216 a cap w) (fun blk off cap zs w hh hl=>AnyE.slices_Reverse Tryz.rev216 (Value.int .i64) (fun _=>rfl) blk off cap zs w hh hl) zs mv
theorem goodh215 (zs:List Int) (mv i:Nat) (hi:i<zs.length):GoodH Tryz.prog K 215 [.aref 0 zs.length,.iv (.int .i64 (i:Nat)),.iv (.int .i64 ((i+1:Nat):Int))] [(0,intO zs mv)] [] (.iv (intI (zs.eraseIdx i))) [] :=
 delete_goodh (fun blk off cap i j d w hh h1 h2 h3 h4=>AnyE.slices_Delete Tryz.del215 (Value.int .i64) (fun _=>rfl) 0 Tryz.zeroValue3 intI3 (by kernel_rfl) (by kernel_rfl) blk off cap i j d w hh h1 h2 h3 h4) zs mv i hi
theorem goodh213 (zs:List Int) (mv i:Nat) (hi:i≤zs.length) (x:Int) (mv':Nat) (hlen:zs.length≤1000000):GoodH Tryz.prog K 213 [.aref 0 zs.length,.iv (.int .i64 (i:Nat)),.aref 1 1] [(0,intO zs mv),(1,intO [x] mv')] [] (.iv (intI (zs.take i++x::zs.drop i))) [] :=
 insert_goodh
  (fun b n c i vb vc cs x w h1 h2 h3 h4 h5 h6 h7 h8 h9 h10 h11 tA tB kA kB h12 h13 h14 h15 h16=>insert213_shift b 0 n c i vb 0 1 vc cs [x] w h1 (by omega) h2 h3 h4 h5 rfl h6 h7 h8 h9 h10 h11 tA tB kA kB h12 h13 h14 h15 h16)
  (fun b n c vb vc x w h1 h2 h3 h4 h5 h6=>insert213_end_room b 0 n c vb 0 1 vc [x] w (by omega) h1 h2 rfl h3 h4 h5 h6)
  (fun base n c vb vc cs x w h1 h2 h3 h4 h5 h6 h7 h8=>insert213_end_grow base n c vb 0 1 vc cs [x] w (by omega) h1 h2 h3 h4 rfl h5 h6 h7 h8)
  (fun b n c i vb vc cs x w h1 h2 h3 h4 h5 h6 h7 h8 h9=>insert213_grow b 0 n c i vb 0 1 vc cs [x] w h1 (by omega) h2 h3 h4 h5 rfl h6 h7 h8 h9)
  zs mv i hi x mv' hlen
end
end Go.Pf

/- links.tell: the story of a chain, with its ends. -/
namespace Go.Pf
open Go Go.Ev Go.Proofs Go.RowKit
set_option maxRecDepth 8000
def addP (i:Nat) (kvs:List (MK × List (List IV))) (n:Nat):List (MK × List (List IV)):=mins (.int .i64 (n:Int)) (((mfind (.int .i64 (n:Int)) kvs).getD [])++[[.int .i64 (i:Nat)]]) kvs
def prf (ds:List Deed) (e:Nat→Int):Nat→List (MK × List (List IV))
 | 0=>[]
 | i+1=>match ds[i]? with
   | some d=>if d.what=4 then (cab ds e i).foldl (addP i) (prf ds e i) else prf ds e i
   | none=>prf ds e i
theorem prf_succ (ds:List Deed) (e:Nat→Int) (i:Nat) (h:i<ds.length):prf ds e (i+1)=if ds[i].what=4 then (cab ds e i).foldl (addP i) (prf ds e i) else prf ds e i:=by
 simp only[prf,List.getElem?_eq_getElem h]
theorem kinds_mins (n:Int) (y:List (List IV)):∀ kvs:List (MK × List (List IV)),kindsOk (some .i64) kvs→kindsOk (some .i64) (mins (.int .i64 n) y kvs)
 | [],_=>⟨rfl,trivial⟩
 | p::r,h=>by
   unfold mins
   split
   ·exact ⟨rfl,h.2⟩
   ·exact ⟨h.1,kinds_mins n y r h.2⟩
theorem find_mins (k j:MK) (y:List (List IV)):∀ kvs:List (MK × List (List IV)),mfind j (mins k y kvs)=if k=j then some y else mfind j kvs
 | []=>by simp[mins,mfind]
 | p::r=>by
   unfold mins
   split
   ·rename_i h
    simp only[mfind]
    by_cases h1:k=j
    ·simp[h1]
    ·have h2:¬ p.1=j:=fun c=>h1 (h▸c)
     simp[h1,h2]
   ·rename_i h
    simp only[mfind,find_mins k j y r]
    by_cases h1:k=j
    ·subst h1
     simp[h]
    ·simp[h1]
def Low (m:Nat) (kvs:List (MK × List (List IV))):Prop:=kindsOk (some .i64) kvs∧∀ k rows,mfind k kvs=some rows→rows.length≤m
theorem Low.add {m i:Nat} {kvs:List (MK × List (List IV))} (h:Low m kvs) (n:Nat):Low (m+1) (addP i kvs n):=by
 refine ⟨kinds_mins _ _ _ h.1,fun k rows hk=>?_⟩
 unfold addP at hk
 rw[find_mins] at hk
 split at hk
 ·injection hk with hk
  subst hk
  cases hf:mfind (.int .i64 (n:Int)) kvs with
  | none=>simp
  | some r=>have:=h.2 _ _ hf;simp;omega
 ·have:=h.2 _ _ hk;omega
theorem Low.fold {i:Nat}:∀ (l:List Nat) {m:Nat} {kvs:List (MK × List (List IV))},Low m kvs→Low (m+l.length) (l.foldl (addP i) kvs)
 | [],m,kvs,h=>h
 | n::l,m,kvs,h=>by
   have:=Low.fold (i:=i) l (h.add (i:=i) n)
   rw[List.length_cons,List.foldl_cons,show m+(l.length+1)=m+1+l.length by omega]
   exact this
theorem Low.mono {m m':Nat} {kvs:List (MK × List (List IV))} (h:Low m kvs) (hm:m≤m'):Low m' kvs:=⟨h.1,fun k rows hk=>Nat.le_trans (h.2 k rows hk) hm⟩
theorem prf_low (ds:List Deed) (e:Nat→Int) (hc:OkD ds ds.length):∀ i,i≤ds.length→Low (i*ds.length) (prf ds e i)
 | 0,_=>⟨trivial,fun k rows h=>by simp[prf,mfind] at h⟩
 | i+1,h=>by
   have ih:=prf_low ds e hc i (by omega)
   rw[prf_succ ds e i (by omega)]
   have e1:(i+1)*ds.length=i*ds.length+ds.length:=by rw[Nat.add_mul,Nat.one_mul]
   rw[e1]
   split
   ·have hcl:=cab_len e hc i (by omega) (by omega)
    have hcb:=hc.cnt i (by omega) (by omega)
    exact (ih.fold _).mono (by omega)
   ·exact ih.mono (by omega)
theorem Low.len {m:Nat} {kvs:List (MK × List (List IV))} (h:Low m kvs) (k:MK):((mfind k kvs).getD []).length≤m:=by
 cases hf:mfind k kvs with
 | none=>simp
 | some r=>exact h.2 _ _ hf
theorem linksL_succ (ds:List Deed) (i:Nat) (h:i<ds.length):linksL (ds.take (i+1))=if ds[i].what=1 then linksL (ds.take i)++[ds[i]] else linksL (ds.take i):=by
 rw[List.take_succ_eq_append_getElem h]
 unfold linksL
 rw[List.filter_append]
 generalize List.filter isWeld (List.take i ds)=l
 by_cases hw:ds[i].what=1<;>simp[isWeld,hw]
theorem linksL_wn (ds:List Deed) (i:Nat):(linksL (ds.take i)).length=wn ds i:=by rw[linksL_len];rfl
@[simp] def prfI (kvs:List (MK × List (List IV))):IV:=.map (kvs.map fun p=>(p.1,.sl 1 p.2))
theorem ivss_rep (n:Nat) (z:IV):ivss (List.replicate n [AV.iv z])=some (List.replicate n [z]):=by
 have:=ivss_embA (List.replicate n [z])
 simpa[emb] using this
theorem int_nats (l:List Nat) (mv:Nat):intO (l.map fun (n:Nat)=>(n:Int)) mv=AO.arr 3 1 (emb (l.map fun (n:Nat)=>[IV.int .i64 (n:Int)])) mv:=by simp[intO,emb]
theorem intI_nats (l:List Nat):intI (l.map fun (n:Nat)=>(n:Int))=natsI l:=by simp[intI]
section
variable {K:World→Prop} {C:Env→Objs→Prop}
theorem rnO_emb (m:Nat→Nat) (e:TypeId) (sz:Nat) (xs:List (List IV)) (mv:Nat):rnO m (.arr e sz (emb xs) mv)=.arr e sz (emb xs) mv:=rnO_row m e sz xs mv
theorem clO_emb (dom:List Nat) (e:TypeId) (sz:Nat) (xs:List (List IV)) (mv:Nat):clO dom (.arr e sz (emb xs) mv)=true:=clO_row dom e sz xs mv
theorem callRev_of {id n mv:Nat} {d:Option Nat} {e:Env} {o:Objs} (l:List Nat) (hid:lookO o id=some (.arr 3 1 (emb (l.map fun (n:Nat)=>[IV.int .i64 (n:Int)])) mv)) (hn:n=l.length)
  (h:C (bnd d (.iv (.tup [])) (scrE (keepOf [id] [0] o) e)) (newO [id] (keepOf [id] [0] o) o [(0,.arr 3 1 (emb (l.reverse.map fun (n:Nat)=>[IV.int .i64 (n:Int)])) n)])):HK Tryz.prog K 216 [id] d C e o [.aref id n]:=by
 have hg:=goodh216 (K:=K) (l.map fun (n:Nat)=>(n:Int)) mv
 rw[← List.map_reverse,int_nats,int_nats,List.length_map] at hg
 subst hn
 refine callH_of hg (by simp[rn,nth]) ?_ ?_
 ·refine ⟨by simp,by simp[clA],?_,?_,by simp[noExt]⟩
  ·intro p hp
   simp only[List.mem_singleton] at hp
   subst hp
   exact ⟨by simp,by rw[rnO_emb];simpa[nth] using hid,clO_emb _ _ _ _ _,rfl⟩
  ·intro i hi h
   simp at hi
   subst hi
   simp[lookO] at h
 ·simpa[rn] using h
theorem callDel_of {id n mv:Nat} {d:Option Nat} {e:Env} {o:Objs} (l:List Nat) (i:Nat) (hi:i<l.length) (hid:lookO o id=some (.arr 3 1 (emb (l.map fun (n:Nat)=>[IV.int .i64 (n:Int)])) mv)) (hn:n=l.length) {avs:List AV} (ha:avs=[.aref id n,.iv (.int .i64 (i:Nat)),.iv (.int .i64 ((i+1:Nat):Int))])
  (h:C (bnd d (.iv (natsI (l.eraseIdx i))) (scrE (keepOf [id] [] o) e)) (newO [id] (keepOf [id] [] o) o [])):HK Tryz.prog K 215 [id] d C e o avs:=by
 have hg:=goodh215 (K:=K) (l.map fun (n:Nat)=>(n:Int)) mv i (by simpa using hi)
 have e1:(l.map fun (n:Nat)=>(n:Int)).eraseIdx i=(l.eraseIdx i).map fun (n:Nat)=>(n:Int):=by simp[List.eraseIdx_eq_take_drop_succ]
 rw[e1,int_nats,intI_nats,List.length_map] at hg
 subst hn
 refine callH_of hg (by rw[ha];simp[rn,nth]) ?_ ?_
 ·refine ⟨by simp,by simp[clA],?_,?_,by simp⟩
  ·intro p hp
   simp only[List.mem_singleton] at hp
   subst hp
   exact ⟨by simp,by rw[rnO_emb];simpa[nth] using hid,clO_emb _ _ _ _ _,rfl⟩
  ·intro i hi h
   simp at hi
   subst hi
   simp[lookO] at h
 ·simpa[rn] using h
theorem callIns_of {id id' n mv mv':Nat} {d:Option Nat} {e:Env} {o:Objs} (l:List Nat) (i:Nat) (hi:i≤l.length) (x:Nat) (hlen:l.length≤1000000) (hne:id≠id') (hid:lookO o id=some (.arr 3 1 (emb (l.map fun (n:Nat)=>[IV.int .i64 (n:Int)])) mv)) (hid':lookO o id'=some (.arr 3 1 [[.iv (.int .i64 (x:Nat))]] mv')) (hn:n=l.length)
  (h:C (bnd d (.iv (natsI (l.take i++x::l.drop i))) (scrE (keepOf [id,id'] [] o) e)) (newO [id,id'] (keepOf [id,id'] [] o) o [])):HK Tryz.prog K 213 [id,id'] d C e o [.aref id n,.iv (.int .i64 (i:Nat)),.aref id' 1]:=by
 have hg:=goodh213 (K:=K) (l.map fun (n:Nat)=>(n:Int)) mv i (by simpa using hi) x mv' (by simpa using hlen)
 have e1:(l.map fun (n:Nat)=>(n:Int)).take i++(x:Int)::(l.map fun (n:Nat)=>(n:Int)).drop i=(l.take i++x::l.drop i).map fun (n:Nat)=>(n:Int):=by simp
 rw[e1,int_nats,intI_nats,List.length_map] at hg
 subst hn
 refine callH_of hg (by simp[rn,nth]) ?_ ?_
 ·refine ⟨by simpa using hne,by simp[clA],?_,?_,by simp⟩
  ·intro p hp
   simp only[List.mem_cons,List.not_mem_nil,or_false] at hp
   rcases hp with rfl | rfl
   ·exact ⟨by simp,by rw[rnO_emb];simpa[nth] using hid,clO_emb _ _ _ _ _,rfl⟩
   ·exact ⟨by simp,by simpa[nth,rnO,rnL,rn] using hid',by simp[clO,clAL,clA],rfl⟩
  ·intro i hi h
   simp at hi
   have:i=0∨i=1:=by omega
   rcases this with rfl | rfl<;>simp[lookO] at h
 ·simpa[rn] using h
end
section
variable {K:World→Prop} (hK:∀ w w',K w→Below w.heap.size w w'→K w')
include hK
theorem good201 (c:Chain) (n:Nat) (hn:n<2 ^ 63) (hc:OkD c.deeds c.deeds.length) (hl:c.deeds.length≤100) :
  Ev.Good Tryz.prog K 201 [deedsV c.deeds,.clo 202 [] [.ptr [.int .i64 n],.ptr (bookC c)]] (.agg (storyC c.deeds (eBit c.deeds n) (prfI (prf c.deeds (eBit c.deeds n) c.deeds.length)))):=by
 refine good_of_wp hK c201_ok (by simp) ?_
 simp
 intros
 refine loop_q (fun i=>[(1,AV.iv (.clo 202 [] [.ptr [.int .i64 n],.ptr (bookC c)])),(4,.loc 4 0),(5,.loc 5 0),(16,AV.iv (deedsV c.deeds)),(17,AV.iv (.int .i64 c.deeds.length)),(18,AV.iv (IV.int IntKind.i64 (i:Nat)))])
  (fun i=>[(4,AO.box [.iv (.sl 1 []),.iv (.sl 2 []),.iv (.map [])]),(5,AO.box [.aref 13 (i+1),.aref 6001 (linksL (c.deeds.take i)).length,.oref 14]),(13,AO.arr 153 1 (emb ((cabs c.deeds (eBit c.deeds n) i).map fun c=>[natsI c])) 0),
    (14,.mapr 3 1 (prf c.deeds (eBit c.deeds n) i) none),(6001,.arr 242 2 (emb ((linksL (c.deeds.take i)).map lkC)) 0)]) c.deeds.length (fun i=>True) trivial ?_ ?_
 ·intro _
  rw[LoopAt_enter c201_b1.eq_1]
  simp[-List.map_map,emb_fold,emb_emb,emb_nil,ivss_embA,List.take_of_length_le]
 ·intro i hi _ ih
  have hcl:=cab_len (eBit c.deeds n) hc i (by omega) (by omega)
  have hcb:=hc.cnt i (by omega) (by omega)
  have hd:=hc i hi hi
  have hw:=wn_le c.deeds i
  have hlw:=linksL_wn c.deeds i
  have hlo:=prf_low c.deeds (eBit c.deeds n) hc i (by omega)
  have hg202:=good202 hK c n i hn hi
  have hei:=eBit_get c.deeds n i hi
  have hii:i*c.deeds.length≤100*100:=Nat.mul_le_mul (by omega) (by omega)
  rw[cabs_succ,linksL_succ _ _ hi,cab_succ _ _ _ hi,prf_succ _ _ _ hi] at ih
  rw[LoopAt_enter c201_b1.eq_1]
  have hcg:(cabs c.deeds (eBit c.deeds n) i)[i]?=some (cab c.deeds (eBit c.deeds n) i):=by
   rw[List.getElem?_eq_getElem (by simp),cabs_get _ _ _ _ (by omega)]
  have hcl2:=cabs_len c.deeds (eBit c.deeds n) i
  generalize eBit c.deeds n i=ei at *
  generalize cabs c.deeds (eBit c.deeds n) i=cs at *
  generalize prf c.deeds (eBit c.deeds n) i=kvs at *
  generalize linksL (c.deeds.take i)=lk at *
  generalize cab c.deeds (eBit c.deeds n) i=now at *
  have hcg2:cs[i]'(by omega)=now:=by
   rw[List.getElem?_eq_getElem (by omega)] at hcg
   injection hcg
  have hnl:now.length≤100:=by omega
  simp[hi,hcl2,hcg2,-List.map_map,emb_fold,emb_emb,emb_nil,ivss_embA]
  intro _
  refine ⟨by omega,?_⟩
  refine cpyC_of (rows:=List.replicate now.length [IV.int .i64 0]) (ivss_rep _ _) (by simp) (by simp) ?_
  rcases hd with ⟨h1,h2,h3,h4⟩ | ⟨h1,h2,h3,h4⟩ | ⟨h1,h4⟩
  ·simp only[inR] at h3 h2
   have hp:(if ei=1 then (now.length:Int)+1-1-c.deeds[i].pos else c.deeds[i].pos)=(plc c.deeds[i].pos ei (now.length+1):Nat):=by
    unfold plc
    split<;>push_cast<;>omega
   have hpl:plc c.deeds[i].pos ei (now.length+1)≤now.length:=plc_le (by omega)
   have hg214:=good214 hK c.deeds[i].pos ei (now.length+1) (by omega) (by omega)
   rw[hp] at hg214
   simp[stepC,h1,← hlw] at ih
   generalize plc c.deeds[i].pos ei (now.length+1)=at_ at *
   by_cases hf:c.deeds[i].frm=2
   ·have hg:=hg202 hf
    simp[hi,hf,h1,-List.map_map,emb_fold,emb_emb,emb_nil,ivss_embA]
    refine ⟨by kernel_rfl,callK_of (by simpa using hg) (.inl rfl) ?_⟩
    simp[hi,hf,h1,-List.map_map,emb_fold,emb_emb,emb_nil,ivss_embA]
    intro _
    refine ⟨by omega,callK_of hg214 (.inl rfl) ?_⟩
    simp[hi,hf,h1,-List.map_map,emb_fold,emb_emb,emb_nil,ivss_embA]
    intro _
    refine callIns_of (mv:=now.length) (mv':=0) now at_ hpl lk.length (by omega) (by simp) (by simp[emb,-List.map_map]) (by simp) rfl ?_
    simp[hi,hf,h1,-List.map_map,emb_fold,emb_emb,emb_nil,ivss_embA]
    repeat' first | omega | exact ih | apply And.intro
   ·rw[if_neg hf] at hei
    simp[hi,hf,h1,-List.map_map,emb_fold,emb_emb,emb_nil,ivss_embA]
    rw[← hei]
    intro _
    refine ⟨by omega,callK_of hg214 (.inl rfl) ?_⟩
    simp[hi,hf,h1,-List.map_map,emb_fold,emb_emb,emb_nil,ivss_embA]
    intro _
    refine callIns_of (mv:=now.length) (mv':=0) now at_ hpl lk.length (by omega) (by simp) (by simp[emb,-List.map_map]) (by simp) rfl ?_
    simp[hi,hf,h1,-List.map_map,emb_fold,emb_emb,emb_nil,ivss_embA]
    repeat' first | omega | exact ih | apply And.intro
  ·have h11:¬ c.deeds[i].what=1:=by omega
   simp only[inR] at h3 h2
   have hp:(if ei=1 then (now.length:Int)-1-c.deeds[i].pos else c.deeds[i].pos)=(plc c.deeds[i].pos ei now.length:Nat):=by
    unfold plc
    split<;>omega
   have hpl:plc c.deeds[i].pos ei now.length<now.length:=plc_lt (by omega)
   have hg214:=good214 hK c.deeds[i].pos ei now.length (by omega) (by omega)
   rw[hp] at hg214
   simp[stepC,h1] at ih
   generalize plc c.deeds[i].pos ei now.length=at_ at *
   have he:now.take at_++now.drop (at_+1)=now.eraseIdx at_:=by rw[List.eraseIdx_eq_take_drop_succ]
   rw[← List.map_take,← List.map_drop,← List.map_append,he] at ih
   by_cases hf:c.deeds[i].frm=2
   ·have hg:=hg202 hf
    simp[hi,hf,h1,-List.map_map,emb_fold,emb_emb,emb_nil,ivss_embA]
    refine ⟨by kernel_rfl,callK_of (by simpa using hg) (.inl rfl) ?_⟩
    simp[hi,hf,h1,-List.map_map,emb_fold,emb_emb,emb_nil,ivss_embA]
    intro _
    refine callK_of hg214 (.inl rfl) ?_
    simp[hi,hf,h1,-List.map_map,emb_fold,emb_emb,emb_nil,ivss_embA]
    refine ⟨by omega,?_⟩
    refine callDel_of (mv:=now.length) now at_ hpl (by simp[emb,-List.map_map]) rfl (by simp) ?_
    simp[hi,hf,h1,-List.map_map,emb_fold,emb_emb,emb_nil,ivss_embA]
    repeat' first | omega | exact ih | apply And.intro
   ·rw[if_neg hf] at hei
    simp[hi,hf,h1,-List.map_map,emb_fold,emb_emb,emb_nil,ivss_embA]
    rw[← hei]
    intro _
    refine callK_of hg214 (.inl rfl) ?_
    simp[hi,hf,h1,-List.map_map,emb_fold,emb_emb,emb_nil,ivss_embA]
    refine ⟨by omega,?_⟩
    refine callDel_of (mv:=now.length) now at_ hpl (by simp[emb,-List.map_map]) rfl (by simp) ?_
    simp[hi,hf,h1,-List.map_map,emb_fold,emb_emb,emb_nil,ivss_embA]
    repeat' first | omega | exact ih | apply And.intro
  ·have hf:¬ c.deeds[i].frm=2:=by omega
   rcases h1 with h1 | h1
   ·simp[stepC,h1] at ih
    simp[hi,hf,h1,-List.map_map,emb_fold,emb_emb,emb_nil,ivss_embA]
    refine callRev_of (mv:=now.length) now (by simp[emb,-List.map_map]) rfl ?_
    simp[hi,hf,h1,-List.map_map,emb_fold,emb_emb,emb_nil,ivss_embA,List.take_of_length_le]
    repeat' first | omega | exact ih | apply And.intro
   ·simp[stepC,h1] at ih
    simp[hi,hf,h1,-List.map_map,emb_fold,emb_emb,emb_nil,ivss_embA]
    intro _
    refine loop_q (fun k=>[(1,AV.iv (.clo 202 [] [.ptr [.int .i64 n],.ptr (bookC c)])),(4,.loc 4 0),(5,.loc 5 0),(6,AV.iv (IV.int IntKind.i64 (i:Nat))),(8,AV.aref 29 now.length),(16,AV.iv (deedsV c.deeds)),(17,AV.iv (.int .i64 c.deeds.length)),(18,AV.iv (IV.int IntKind.i64 (i:Nat))),(90,AV.aref 29 now.length),(91,AV.iv (.int .i64 now.length)),(92,AV.iv (.int .i64 (k:Nat)))])
     (fun k=>[(4,AO.box [.iv (.sl 1 []),.iv (.sl 2 []),.iv (.map [])]),(5,AO.box [.aref 13 (i+1),.aref 6001 lk.length,.oref 14]),(13,AO.arr 153 1 (emb (cs.map fun c=>[natsI c])) 0),
       (14,.mapr 3 1 ((now.take k).foldl (addP i) kvs) none),(29,AO.arr 3 1 (emb (now.map fun (n:Nat)=>[.int .i64 (n:Int)])) now.length),(6001,AO.arr 242 2 (emb (lk.map lkC)) 0)]) now.length (fun _=>True) trivial ?_ ?_
    ·intro _
     rw[LoopAt_enter c201_b0.eq_1]
     simp[-List.map_map,emb_fold,emb_emb,emb_nil,ivss_embA,List.take_of_length_le]
     repeat' first | omega | exact ih | apply And.intro
    ·intro k hk _ ih2
     rw[LoopAt_enter c201_b0.eq_1]
     have hlk:Low (i*c.deeds.length+(now.take k).length) ((now.take k).foldl (addP i) kvs):=hlo.fold _
     rw[List.take_succ_eq_append_getElem hk,List.foldl_append] at ih2
     generalize (now.take k).foldl (addP i) kvs=kv at *
     have hkl:(List.take k now).length≤100:=by simp;omega
     have hle:=hlk.len (.int .i64 (now[k]:Nat))
     have hkk:=hlk.1
     have hkk2:=kinds_mins (now[k]:Nat) (((mfind (.int .i64 ((now[k]:Nat):Int)) kv).getD [])++[[.int .i64 (i:Nat)]]) kv hkk
     have hfm:=find_mins (.int .i64 ((now[k]:Nat):Int)) (.int .i64 ((now[k]:Nat):Int)) (((mfind (.int .i64 ((now[k]:Nat):Int)) kv).getD [])++[[.int .i64 (i:Nat)]]) kv
     rw[if_pos rfl] at hfm
     simp[addP] at ih2
     simp[hk,hkk,hkk2,hfm,-List.map_map,emb_fold,emb_emb,emb_nil,ivss_embA]
     repeat' first | omega | exact ih2 | apply And.intro
def pmC (c:Chain) (n:Nat):IV:=prfI (prf c.deeds (eBit c.deeds n) c.deeds.length)
theorem tellOk (c:Chain) (hc:OkC c):TellOk K c (pmC c):=fun n hn=>by
 have h:=hc.len
 have h2:=twos_le c.deeds
 have h3:=pow_le12 (show twos c.deeds≤12 by omega)
 exact good201 hK c n (by omega) hc.deeds (by omega)
end
end Go.Pf

/- slices.Sorted(maps.Keys(m)) at the map of ints. -/
namespace Go.Proofs
open Go.Shelf Go.RowKit Go.Maps Go.Sort
theorem Tryz.sorts151 (m:Nat):AnyZI.SortsIn Tryz.prog Tryz.sorted95_ren Fence.wide m :=
 ⟨fun blk off cap ss W hH hblk hsz=>callsIn_wide.2 (AnyM.slices_Sort_int Tryz.sort151 blk off cap ss W hH hblk hsz),
  fun p cap W=>callsIn_wide.2 (AnyM.slices_Sort_int_none Tryz.sort151 p cap W)⟩
end Go.Proofs
namespace Go.Pf
open Go Go.Ev Go.Proofs Go.RowKit Go.Shelf
set_option maxRecDepth 8000
theorem sorted_calls (lb:Array Value) (S:List Int→Prop) (N:Nat) (hN:N≤1000000) (w:World) (hseq:SeqGives Fence.wide 2 Tryz.prog 152 lb encZ S N w) :
  Calls Tryz.prog 95 #[.func (.func 152) #[] lb] w fun e w'=>∃ (v:Value) (ss:List Int),e=.returned v∧S ss ∧
   w'.ownsRow w.heap.size 3 1 v ss.length ((ss.mergeSort (fun x y=>decide (x≤y))).map encZ)∧(v=.slice none 0 0↔ss=[])∧Below w.heap.size w w':=by
 refine (callsIn_wide (n:=5)).1 ?_
 exact AnyZI.sorted_in Tryz.sorted95 Fence.wide 5 trivial trivial trivial trivial rfl (by omega) (Tryz.sorts151 _) (enters_of Tryz.func151 (by kernel_rfl) rfl) 152 lb trivial (enters_of Tryz.func152 (by kernel_rfl) rfl) S N (by unfold maxLen;omega) (by omega) w hseq
theorem insert_perm {H:Type} (x:Lit × DataW H):∀ l:List (Lit × DataW H),(DataW.insert x l).Perm (x::l)
 | []=>List.Perm.refl _
 | y::r=>by
   unfold DataW.insert
   split
   ·exact List.Perm.refl _
   ·exact ((insert_perm x r).cons y).trans (List.Perm.swap x y r)
theorem sorted_perm {H:Type}:∀ l:List (Lit × DataW H),(l.foldr DataW.insert []).Perm l
 | []=>List.Perm.refl _
 | x::r=>by
   rw[List.foldr_cons]
   exact (insert_perm x _).trans ((sorted_perm r).cons x)
def anyR:Value→Option (DataW Nat × List MemPlace):=fun _=>some (.nil,[])
theorem rg_key {x:MapEntry} {n:Int} (h:x.key=.int .i64 n) (hn : -9223372036854775808≤n∧n<9223372036854775808):WideElems.rd Tryz.prog 3 anyR x=some (.int .i64 n,.nil):=by
 have hw:(Lit.int .i64 n).wf=true:=by
  have h1:=hn.1
  have h2:=hn.2
  simp[Lit.wf,IntKind.inR,IntKind.min,IntKind.max,IntKind.bits,IntKind.signed]
  omega
 simp[WideElems.rd,h,anyR,keyOf,Tryz.underlying3,mapKey,hw]
section
variable {K:World→Prop}
theorem good95 (kvs:List (MK × IV)) (ks:List Int) (hk:kvs.map (·.1)=ks.map (fun x=>MK.int .i64 x)) (hwf:∀ x∈ks,-9223372036854775808≤x∧x<9223372036854775808) (hlen:ks.length≤1000000) :
  Ev.Good Tryz.prog K 95 [.clo 152 [] [.ptr [.map kvs]]] (ints (ks.mergeSort fun x y=>decide (x≤y))):=by
 intro w ok vs hK hnew hl hvs
 obtain ⟨v0,rfl⟩:∃ v0,vs=[v0]:=by
  match vs,hl with
  | [v],_=>exact ⟨v,rfl⟩
 have hrep:=hvs 0 _ v0 rfl rfl
 have fin:∀ (v:Value) (w':World) (ss:List Int),ss.Perm ks→w'.ownsRow w.heap.size 3 1 v ss.length ((ss.mergeSort (fun x y=>decide (x≤y))).map encZ)→Below w.heap.size w w' →
   ∃ v1,Ending.returned v=.returned v1∧RepI ok w' (ints (ks.mergeSort fun x y=>decide (x≤y))) v1∧Below w.heap.size w w':=fun v w' ss hp ho hb=>by
  refine ⟨v,rfl,?_,hb⟩
  have e1:ss.mergeSort (fun x y=>decide (x≤y))=ks.mergeSort fun x y=>decide (x≤y):=mergeSort_of_perm_i hp
  rw[e1] at ho
  have hl2:ss.length=ks.length:=hp.length_eq
  have e3:(ks.mergeSort fun x y=>decide (x≤y)).length=ss.length:=by simp[hl2]
  generalize (ks.mergeSort fun x y=>decide (x≤y))=zs at *
  obtain ⟨h1,h2 | ⟨g,cap,cur,h2,h3,h4,h5,h6,h7,h8⟩⟩:=ho
  ·obtain ⟨rfl,h2⟩:=h2
   have:zs=[]:=List.eq_nil_of_length_eq_zero (by omega)
   subst this
   exact .nils _
  ·subst h2
   rw[← e3]
   refine rep_ints zs g cap (by omega) h6 (hnew g h3) fun j z hj=>?_
   have hjl:=(List.getElem?_eq_some_iff.1 hj).1
   have:(cur.toList.take (ss.length*1))[j]?=some (.int .i64 z):=by rw[h8,List.getElem?_map,hj];rfl
   rw[List.getElem?_take,if_pos (by omega)] at this
   simp only[World.cell?,h4]
   simpa using this
 cases hrep with
 | clo _ _ _ us vs' h1 h2 hf hc =>
   obtain rfl:us=[]:=List.eq_nil_of_length_eq_zero h1
   obtain ⟨p,rfl⟩:∃ p,vs'=[p]:=by
    match vs',h2 with
    | [v],_=>exact ⟨v,rfl⟩
   have hp:=hc 0 _ p rfl rfl
   cases hp with
   | ptr _ b off u hu hx =>
     have hcell:=(hu 0 (by simp)).2.1
     rw[Nat.add_zero] at hcell
     have hbw:b<w.heap.size:=World.block_lt_of_cell? w ⟨b,off,none⟩ hcell
     have hm:=hx 0 _ rfl
     generalize u 0=u0 at hcell hm
     cases hm with
     | mapn =>
       have hk0:ks=[]:=by simpa using hk.symm
       subst hk0
       refine (sorted_calls _ _ 0 (by omega) w (any_keys_gives_nil (ρ:=Tryz.keys96_ren) { Tryz.keys96 with } Fence.wide 2 trivial rfl b off w hbw hcell)).mono ?_
       rintro e w' ⟨v,ss,rfl,rfl,hrow,_,hb⟩
       exact fin v w' [] (List.Perm.refl _) hrow hb
     | map _ r es clock hok hr hmr hd hxx =>
       have hks:kvs.length=ks.length:=by simpa using congrArg List.length hk
       have hkey:∀ (i:Nat) (x:MapEntry),es[i]?=some x→∃ n:Int,ks[i]?=some n∧x.key=.int .i64 n:=fun i x hx=>by
        obtain ⟨k,h3,h4⟩:=hmr.keys i x hx
        rw[← List.getElem?_map,hk,List.getElem?_map,Option.map_eq_some_iff] at h3
        obtain ⟨n,h5,rfl⟩:=h3
        exact ⟨n,h5,h4⟩
       have hrd:∀ (i:Nat) (x:MapEntry),es[i]?=some x→∃ n:Int,ks[i]?=some n∧x.key=.int .i64 n∧WideElems.rd Tryz.prog 3 anyR x=some (.int .i64 n,.nil):=fun i x hx=>by
        obtain ⟨n,h3,h4⟩:=hkey i x hx
        exact ⟨n,h3,h4,rg_key h4 (hwf n (List.mem_of_getElem? h3))⟩
       have hlist:es.toList.map (fun x=>intOf (WideElems.rg Tryz.prog 3 anyR x).1)=ks:=by
        refine List.ext_getElem? fun i=>?_
        rw[List.getElem?_map]
        cases hx:es[i]? with
        | none =>
          have:es.size≤i:=by
           rcases Nat.lt_or_ge i es.size with h | h
           ·rw[Array.getElem?_eq_getElem h] at hx;cases hx
           ·exact h
          have hz:=hmr.size
          rw[List.getElem?_eq_none (by simpa using this),List.getElem?_eq_none (by omega)]
          rfl
        | some x =>
          obtain ⟨n,h3,h4,h5⟩:=hrd i x hx
          rw[Array.getElem?_toList,hx,h3]
          simp[WideElems.rg,h5,intOf]
       have hown:w.ownsMap Tryz.prog 3 anyR r ks.length (DataW.map ((es.toList.map (WideElems.rg Tryz.prog 3 anyR)).foldr DataW.insert [])):=by
        refine ⟨es,clock,hr,⟨by have:=hmr.size;unfold maxLen;omega,⟨fun x hx=>?_,?_,?_⟩,fun x hx=>?_⟩,by have:=hmr.size;omega,rfl⟩
        ·obtain ⟨i,hi⟩:=List.getElem?_of_mem hx
         exact hmr.born i x (by simpa using hi)
        ·rw[List.nodup_iff_pairwise_ne] at *
         refine List.pairwise_iff_getElem.2 fun i j hi hj hij heq=>?_
         simp at hi hj heq
         have:=hmr.apart i j es[i] es[j] (by simp[hi]) (by simp[hj]) heq
         omega
        ·refine List.pairwise_iff_getElem.2 fun i j hi hj hij heq=>?_
         simp at hi hj heq
         obtain ⟨k1,h3,h4⟩:=hmr.keys i es[i] (by simp[hi])
         obtain ⟨k2,h5,h6⟩:=hmr.keys j es[j] (by simp[hj])
         rw[Option.map_eq_some_iff] at h3 h5
         obtain ⟨p,h7,rfl⟩:=h3
         obtain ⟨q,h8,rfl⟩:=h5
         rw[h4,h6] at heq
         have:p.1=q.1:=by
          cases hp1:p.1<;>cases hq1:q.1<;>rw[hp1,hq1] at heq<;>simp[MK.val] at heq ⊢<;>simp_all
         have:=hd i j p q h7 h8 this
         omega
        ·obtain ⟨i,hi⟩:=List.getElem?_of_mem hx
         obtain ⟨n,_,_,h5⟩:=hrd i x (by simpa using hi)
         exact ⟨_,h5⟩
       have hperm:(intKeys (DataW.map ((es.toList.map (WideElems.rg Tryz.prog 3 anyR)).foldr DataW.insert []))).Perm ks:=by
        have:=(sorted_perm (es.toList.map (WideElems.rg Tryz.prog 3 anyR))).map fun p=>intOf p.1
        rw[List.map_map] at this
        refine this.trans ?_
        rw[show es.toList.map ((fun p=>intOf p.1)∘WideElems.rg Tryz.prog 3 anyR)=ks from hlist]
       have hsz:=hown.size_le
       refine (sorted_calls _ _ _ (by omega) w (any_keys_gives (ρ:=Tryz.keys96_ren) { Tryz.keys96 with } Fence.wide 2 trivial rfl (by omega) b off r _ _ w hbw hcell hown)).mono ?_
       rintro e w' ⟨v,ss,rfl,hS,hrow,_,hb⟩
       exact fin v w' ss (hS.trans hperm) hrow hb
end
end Go.Pf

/- What links answers with all numbers that truths have: collect, Who; a row of a cable whose ends are set. -/
namespace Go.Pf
open Go Go.Ev Go.Proofs Go.RowKit
set_option maxRecDepth 8000
theorem snoc_ind {α:Type} {p:List α→Prop} (h0:p []) (h1:∀ l x,p l→p (l++[x])) (l:List α):p l:=by
 have:∀ r:List α,p r.reverse:=by
  intro r
  induction r with
  | nil=>exact h0
  | cons x r ih=>rw[List.reverse_cons];exact h1 _ _ ih
 have h:=this l.reverse
 rwa [List.reverse_reverse] at h
def incL:List (Int × Nat)→Int→List (Int × Nat)
 | [],x=>[(x,1)]
 | p::r,x=>if p.1=x then (x,p.2+1)::r else p::incL r x
def getC:List (Int × Nat)→Int→Nat
 | [],_=>0
 | p::r,x=>if p.1=x then p.2 else getC r x
def encN (l:List (Int × Nat)):List (MK × IV):=l.map fun p=>(.int .i64 p.1,.int .i64 (p.2:Nat))
theorem encN_find (x:Int):∀ l,(mfind (.int .i64 x) (encN l)).getD (.int .i64 0)=.int .i64 (getC l x:Nat)
 | []=>rfl
 | p::r=>by
   by_cases h:p.1=x
   ·simp[encN,mfind,getC,h]
   ·have:=encN_find x r
    simp[encN,mfind,getC,h] at this ⊢
    exact this
theorem encN_inc (x:Int):∀ l,mins (.int .i64 x) (.int .i64 ((getC l x:Nat)+1)) (encN l)=encN (incL l x)
 | []=>by simp[encN,mins,getC,incL]
 | p::r=>by
   by_cases h:p.1=x
   ·simp[encN,mins,getC,incL,h]
   ·have:=encN_inc x r
    simp[encN,mins,getC,incL,h] at this ⊢
    exact this
theorem encN_kinds:∀ l,kindsOk (some .i64) (encN l)
 | []=>trivial
 | _::r=>⟨rfl,encN_kinds r⟩
theorem getC_inc (x y:Int):∀ l,getC (incL l x) y≤getC l y+1
 | []=>by simp[incL,getC];split<;>omega
 | p::r=>by
   unfold incL
   split
   ·simp only[getC];rename_i h;rw[h];split<;>omega
   ·simp only[getC]
    split
    ·omega
    ·exact getC_inc x y r
def cntL (l:List Int):List (Int × Nat):=l.foldl incL []
theorem cntL_succ (l:List Int) (x:Int):cntL (l++[x])=incL (cntL l) x:=by simp[cntL]
theorem getC_le (y:Int):∀ l:List Int,getC (cntL l) y≤l.length:=by
 refine snoc_ind (by simp[cntL,getC]) fun l x ih=>?_
 rw[cntL_succ]
 have:=getC_inc x y (cntL l)
 simp
 omega
def sortD (l:List Int):List Int:=((cntL l).map (·.1)).mergeSort fun x y=>decide (x≤y)
theorem incL_mem (x y:Int):∀ l,y∈(incL l x).map (·.1)↔y∈l.map (·.1)∨y=x
 | []=>by simp[incL]
 | p::r=>by
   unfold incL
   split
   ·rename_i h
    simp only[List.map_cons,List.mem_cons,h]
    constructor
    ·exact fun h=>.inl h
    ·rintro (h | h)
     ·exact h
     ·exact .inl h
   ·have:=incL_mem x y r
    simp only[List.map_cons,List.mem_cons,this]
    constructor
    ·rintro (h | h | h)
     ·exact .inl (.inl h)
     ·exact .inl (.inr h)
     ·exact .inr h
    ·rintro ((h | h) | h)
     ·exact .inl h
     ·exact .inr (.inl h)
     ·exact .inr (.inr h)
theorem incL_nodup (x:Int):∀ l,(l.map (·.1)).Nodup→((incL l x).map (·.1)).Nodup
 | [],_=>by simp[incL]
 | p::r,h=>by
   rw[List.map_cons,List.nodup_cons] at h
   unfold incL
   split
   ·rename_i hp
    rw[List.map_cons,List.nodup_cons]
    exact ⟨by rw[← hp];exact h.1,h.2⟩
   ·rename_i hp
    rw[List.map_cons,List.nodup_cons]
    refine ⟨fun hb=>?_,incL_nodup x r h.2⟩
    rcases (incL_mem x p.1 r).1 hb with hb | hb
    ·exact h.1 hb
    ·exact hp hb
theorem cntL_mem (y:Int):∀ l:List Int,y∈(cntL l).map (·.1)↔y∈l:=by
 refine snoc_ind (by simp[cntL]) fun l x ih=>?_
 rw[cntL_succ,incL_mem,ih]
 simp
theorem cntL_nodup:∀ l:List Int,((cntL l).map (·.1)).Nodup:=by
 refine snoc_ind (by simp[cntL]) fun l x ih=>?_
 rw[cntL_succ]
 exact incL_nodup x _ ih
theorem incL_len (x:Int):∀ k,(incL k x).length≤k.length+1
 | []=>by simp[incL]
 | p::r=>by
   have:=incL_len x r
   unfold incL
   split<;>simp<;>omega
theorem cntL_len:∀ l:List Int,(cntL l).length≤l.length:=by
 refine snoc_ind (by simp[cntL]) fun l x ih=>?_
 rw[cntL_succ]
 have:=incL_len x (cntL l)
 simp
 omega
theorem sortD_mem (y:Int) (l:List Int):y∈sortD l↔y∈l:=by
 unfold sortD
 rw[List.mem_mergeSort,cntL_mem]
theorem sortD_pair (l:List Int):(sortD l).Pairwise (·<·):=by
 have h1:=List.pairwise_mergeSort (le:=fun x y:Int=>decide (x≤y)) (fun a b c h1 h2=>by simp at *;omega) (fun a b=>by simp;omega) ((cntL l).map (·.1))
 have h2:(((cntL l).map (·.1)).mergeSort (fun x y:Int=>decide (x≤y))).Nodup:=(List.mergeSort_perm ((cntL l).map (·.1)) (fun x y:Int=>decide (x≤y))).nodup_iff.2 (cntL_nodup l)
 have h3:=h1.and h2
 refine h3.imp fun {a b} h=>?_
 have ha:=h.1
 have hb:=h.2
 simp at ha
 omega
theorem pair_eq:∀ {l l':List Int},l.Pairwise (·<·)→l'.Pairwise (·<·)→(∀ x,x∈l↔x∈l')→l=l'
 | [],[],_,_,_=>rfl
 | [],b::l',_,_,h=>absurd ((h b).2 (by simp)) (by simp)
 | a::l,[],_,_,h=>absurd ((h a).1 (by simp)) (by simp)
 | a::l,b::l',h1,h2,h=>by
   rw[List.pairwise_cons] at h1 h2
   have hab:a=b:=by
    have p1:=(h a).1 (by simp)
    have p2:=(h b).2 (by simp)
    simp only[List.mem_cons] at p1 p2
    rcases p1 with p1 | p1
    ·exact p1
    ·rcases p2 with p2 | p2
     ·exact p2.symm
     ·have:=h2.1 a p1
      have:=h1.1 b p2
      omega
   subst hab
   refine congrArg (a::·) (pair_eq h1.2 h2.2 fun x=>?_)
   have:=h x
   simp only[List.mem_cons] at this
   constructor
   ·intro hx
    rcases this.1 (.inr hx) with h3 | h3
    ·have:=h1.1 x hx;omega
    ·exact h3
   ·intro hx
    rcases this.2 (.inr hx) with h3 | h3
    ·have:=h2.1 x hx;omega
    ·exact h3
section
variable {K:World→Prop} (hK:∀ w w',K w→Below w.heap.size w w'→K w')
include hK
theorem good96 (kvs:List (MK × IV)):Ev.Good Tryz.prog K 96 [.map kvs] (.clo 152 [] [.ptr [.map kvs]]):=by
 refine good_of_wp hK c96_ok (by simp) ?_
 simp
omit hK in
theorem goodSorted (l:List Int) (hw:∀ x∈l,-1000000≤x∧x≤1000000) (hl:l.length≤1000000):Ev.Good Tryz.prog K 95 [.clo 152 [] [.ptr [.map (encN (cntL l))]]] (ints (sortD l)):=by
 have hlen:(cntL l).length≤l.length:=by
  exact cntL_len l
 refine good95 (K:=K) (encN (cntL l)) ((cntL l).map (·.1)) (by simp[encN]) (fun x hx=>?_) (by simp;omega)
 have:=hw x ((cntL_mem x l).1 hx)
 omega
theorem good116 (c:Chain) (hl:c.deeds.length≤1000) (hs:c.sights.length≤1000) (g1:FuncId) (cs1:List IV) (is:Bool) (hg1:OkC c→Ev.Good Tryz.prog K g1 ([.int .i64 (leftN c.deeds),.int .i64 (allN c.deeds)]++cs1) (.bool is)) (hc1:callee Tryz.prog g1=true)
  (g2:FuncId) (cs2:List IV) (v:Nat→Int) (hg2:OkC c→is=true→∀ n∈rightN c,Ev.Good Tryz.prog K g2 ([.agg (storyC c.deeds (eBit c.deeds n) (pmC c n))]++cs2) (.int .i64 (v n))) (hc2:callee Tryz.prog g2=true) (hv:OkC c→is=true→∀ n∈rightN c,-1000000≤v n∧v n≤1000000) :
  Ev.Good Tryz.prog K 116 [chV c,.clo g1 [] cs1,.clo g2 [] cs2] (.tup [ints (if askE c is=0 then sortD ((rightN c).map v) else []),.int .i64 (askE c is)]):=by
 refine good_of_wp hK c116_ok (by simp) ?_
 simp
 refine callK_of (by simpa using good160 hK c (pmC c) (tellOk hK c) g1 [] cs1 is (fun h=>by simpa using hg1 h) hc1 hl hs) (.inl rfl) ?_
 by_cases he:askE c is=0
 ·have h1:OkC c:=by
   unfold askE at he
   split at he
   ·assumption
   ·cases he
  have h2:is=true:=by
   unfold askE at he
   cases is
   ·simp[h1] at he
   ·rfl
  have hlen:(rightN c).length≤4096:=by
   have h1':=List.length_filter_le (fun n=>decide ((wrongsE c.deeds c.sights (eBit c.deeds n):Int)≤c.wrong)) (List.range (2 ^ twos c.deeds))
   have h2':=pow_le12 (n:=twos c.deeds) (by have:=twos_le c.deeds;have:=h1.len;omega)
   simp at h1'
   unfold rightN
   omega
  have hG:=hg2 h1 h2
  have hV:=hv h1 h2
  clear hg2 hv hg1
  subst h2
  simp[he,h1]
  refine Wp_range (wy:=.fall) (o':=[(10,.box [.oref 21]),(21,.mapd (encN (cntL ((rightN c).map v))))]) rfl (by kernel_rfl) (iter161 hK c h1 (pmC c) (tellOk hK c h1)) ?_ ?_
  ·have:=Rnds.all (P:=Tryz.prog) (K:=K) (ps:=[24]) (asn:=c116_b0a) (body:=c116_b0) (ks:=[5,10]) (ids:=[10,21]) (eK:=[(5,.iv (.ptr [.clo g2 [] cs2])),(10,.loc 10 0)]) ((rightN c).map (storyI c.deeds (pmC c)))
    (fun i=>[(10,.box [.oref 21]),(21,.mapd (encN (cntL (((rightN c).map v).take i))))]) fun i x hi=>by
    simp only[List.getElem?_map,Option.map_eq_some_iff] at hi
    obtain ⟨y,hy,rfl⟩:=hi
    have hlt:=(List.getElem?_eq_some_iff.1 hy).1
    have hyv:((rightN c).map v)[i]'(by simpa using hlt)=v y:=by
     have:=(List.getElem?_eq_some_iff.1 hy).2
     simp[this]
    have hg:=hG y (List.mem_of_getElem? hy)
    refine ⟨rfl,?_⟩
    rw[List.take_succ_eq_append_getElem (by simpa using hlt),cntL_succ,hyv]
    have hle:=getC_le (v y) (((rightN c).map v).take i)
    have hkk:=encN_kinds (cntL (((rightN c).map v).take i))
    have hf:=encN_find (v y) (cntL (((rightN c).map v).take i))
    have hi:=encN_inc (v y) (cntL (((rightN c).map v).take i))
    have hle2:(((rightN c).map v).take i).length≤4096:=by simp;omega
    generalize cntL (((rightN c).map v).take i)=kv at *
    simp[storyI,c116_b0a,c116_b0]
    refine ⟨hc2,callK_of (by simpa using hg) (.inl rfl) ?_⟩
    simp[hkk,hf,hi]
    omega
   simpa[cntL,encN,List.take_of_length_le] using this
  ·simp
   refine callK_of (by simpa using good96 hK (encN (cntL ((rightN c).map v)))) (.inl rfl) ?_
   simp
   refine callK_of (goodSorted ((rightN c).map v) (fun x hx=>?_) (by simp;omega)) (.inl rfl) ?_
   ·obtain ⟨n,hn,rfl⟩:=List.mem_map.1 hx
    exact hV n hn
   ·simp
 ·by_cases h1:OkC c<;>cases is<;>simp[he,h1]
def whoN (c:Chain) (pos:Int) (n:Nat):Int:=((cab c.deeds (eBit c.deeds n) c.deeds.length).getD pos.toNat 0:Nat)
theorem good188 (c:Chain) (pos:Int) (hl:c.deeds.length≤1000) (hs:c.sights.length≤1000) :
  Ev.Good Tryz.prog K 188 [chV c,.int .i64 pos] (.tup [ints (if askE c (decide (inR pos 0 (leftN c.deeds-1)))=0 then sortD ((rightN c).map (whoN c pos)) else []),.int .i64 (askE c (decide (inR pos 0 (leftN c.deeds-1))))]):=by
 refine good_of_wp hK c188_ok (by simp) ?_
 simp
 refine callK_of (by simpa using good204 hK pos) (.inl rfl) ?_
 simp
 have hcl:∀ n,OkC c→((cab c.deeds (eBit c.deeds n) c.deeds.length).length:Int)=leftN c.deeds:=fun n h=>by
  rw[cab_len _ h.deeds _ (Nat.le_refl _) (Nat.le_refl _)]
  rfl
 have hg:=good116 hK c hl hs 217 [.ptr [.int .i64 pos]] (decide (inR pos 0 (leftN c.deeds-1))) (fun h=>by
   have:=hcl 0 h
   have h2:=h.deeds.cnt c.deeds.length (Nat.le_refl _) (Nat.le_refl _)
   have h3:=cab_len (eBit c.deeds 0) h.deeds c.deeds.length (Nat.le_refl _) (Nat.le_refl _)
   simpa using good217 hK (leftN c.deeds) (allN c.deeds) pos (by omega)) (by kernel_rfl) 205 [.ptr [.int .i64 pos]] (whoN c pos) (fun h hi n _=>by
   have h3:=hcl n h
   have hi:=of_decide_eq_true hi
   simp only[inR] at hi
   have h4:pos=((pos.toNat:Nat):Int):=by omega
   have h5:pos.toNat<(cab c.deeds (eBit c.deeds n) c.deeds.length).length:=by omega
   have h6:=good205 hK c.deeds (eBit c.deeds n) (pmC c n) hl pos.toNat h5
   rw[← h4] at h6
   have h7:(cab c.deeds (eBit c.deeds n) c.deeds.length).getD pos.toNat 0=(cab c.deeds (eBit c.deeds n) c.deeds.length)[pos.toNat]:=by simp[List.getD_eq_getElem?_getD,h5]
   unfold whoN
   rw[h7]
   simpa using h6) (by kernel_rfl) (fun h hi n _=>by
   have h3:=hcl n h
   have hi:=of_decide_eq_true hi
   simp only[inR] at hi
   have h5:pos.toNat<(cab c.deeds (eBit c.deeds n) c.deeds.length).length:=by omega
   have h7:(cab c.deeds (eBit c.deeds n) c.deeds.length).getD pos.toNat 0=(cab c.deeds (eBit c.deeds n) c.deeds.length)[pos.toNat]:=by simp[List.getD_eq_getElem?_getD,h5]
   have h8:=cab_lt c.deeds (eBit c.deeds n) c.deeds.length _ (List.getElem_mem h5)
   have h9:=wn_le c.deeds c.deeds.length
   unfold whoN
   rw[h7]
   omega)
 refine callK_of (by simpa using hg) (.inl rfl) ?_
 simp
omit hK in
theorem sortD_one (x:Int):sortD [x]=[x]:=by simp[sortD,cntL,incL]
omit hK in
theorem rightN_set (c:Chain) (hc:OkC c) (h2:twos c.deeds=0) (hs:c.sights=[]):rightN c=[0]:=by
 have:=hc.wrong
 simp only[inR] at this
 simp[rightN,h2,hs,wrongsE,this]
theorem good167 (c:Chain) (hc:OkC c) (h2:twos c.deeds=0) (hs:c.sights=[]):Ev.Good Tryz.prog K 167 [chV c] (natsI (cab c.deeds (eBit c.deeds 0) c.deeds.length)):=by
 have hl:=hc.len
 have hr:=rightN_set c hc h2 hs
 have hcl:=cab_len (eBit c.deeds 0) hc.deeds c.deeds.length (Nat.le_refl _) (Nat.le_refl _)
 have hcb:=hc.deeds.cnt c.deeds.length (Nat.le_refl _) (Nat.le_refl _)
 have hcl2:leftN c.deeds=((cab c.deeds (eBit c.deeds 0) c.deeds.length).length:Int):=hcl.symm
 have hw:∀ i:Nat,i<(cab c.deeds (eBit c.deeds 0) c.deeds.length).length→Ev.Good Tryz.prog K 188 [chV c,.int .i64 i] (.tup [ints [((cab c.deeds (eBit c.deeds 0) c.deeds.length).getD i 0:Nat)],.int .i64 0]):=fun i hi=>by
  have:=good188 hK c i (by omega) (by simp[hs])
  have h3:inR (i:Int) 0 (leftN c.deeds-1):=by simp only[inR];omega
  have h4:askE c true=0:=by simp[askE,hc,hr]
  rw[decide_eq_true h3,h4,hr] at this
  simpa[sortD_one,whoN] using this
 refine good_of_wp hK c167_ok (by simp) ?_
 have hg83:=good83 hK c (by omega) (by simp[hs])
 simp[hc] at hg83
 simp
 refine callK_of hg83 (.inl rfl) ?_
 rw[hcl2]
 generalize cab c.deeds (eBit c.deeds 0) c.deeds.length=now at *
 simp
 refine loop_q (fun i=>[(1,AV.iv (.ptr [deedsV c.deeds,sightsV c.sights,.int .i64 c.wrong])),(5,AV.aref 5 i),(14,AV.iv (.int .i64 now.length)),(15,AV.iv (IV.int IntKind.i64 (i:Nat)))])
  (fun i=>[(5,AO.arr 3 1 (emb ((now.take i).map fun (n:Nat)=>[.int .i64 (n:Int)])) 0)]) now.length (fun i=>True) trivial ?_ ?_
 ·intro _
  rw[LoopAt_enter c167_b0.eq_1]
  simp[List.take_of_length_le]
 ·intro i hi _ ih
  rw[LoopAt_enter c167_b0.eq_1]
  rw[List.take_succ_eq_append_getElem hi,List.map_append] at ih
  have hg:=hw i hi
  have h7:now.getD i 0=now[i]:=by simp[List.getD_eq_getElem?_getD,hi]
  rw[h7] at hg
  simp[hi] at ih ⊢
  refine callK_of (by simpa using hg) (.inl rfl) ?_
  simp
  (repeat' first | omega | (with_reducible apply And.intro) | intro _)
end
end Go.Pf

/- known: the chains whose ends are set, one after the other. -/
namespace Go.Pf
open Go Go.Ev Go.Proofs Go.RowKit
set_option maxRecDepth 8000
def setF (d:Deed) (x:Int):Deed:={ d with frm:=x }
def setsD:List Deed→List (List Deed)
 | []=>[[]]
 | d::r=>if d.frm=2 then (setsD r).map (setF d 0::·)++(setsD r).map (setF d 1::·) else (setsD r).map (d::·)
theorem no_eith (ds:List Deed) (h:twos ds=0):∀ x∈ds,isEith x=false:=by
 intro x hx
 have:=List.countP_eq_zero.1 h x hx
 simpa[isEith] using this
theorem setsD_none:∀ ds:List Deed,twos ds=0→setsD ds=[ds]
 | [],_=>rfl
 | d::r,h=>by
   by_cases hd:d.frm=2
   ·simp[twos,List.countP_cons,hd] at h
   ·have:=setsD_none r (by simpa[twos,List.countP_cons,hd] using h)
    simp[setsD,hd,this]
theorem fi_some:∀ ds:List Deed,twos ds≠0→∃ i:Nat,(∀ x∈ds.take i,isEith x=false)∧∃ h:i<ds.length,ds[i].frm=2∧setsD ds=setsD (ds.set i (setF ds[i] 0))++setsD (ds.set i (setF ds[i] 1))∧∀ x:Int,x≠2→twos (ds.set i (setF ds[i] x))+1=twos ds
 | [],h=>absurd rfl h
 | d::r,h=>by
   by_cases hd:d.frm=2
   ·refine ⟨0,by simp,by simp,hd,?_,fun x hx=>?_⟩
    ·simp[setsD,hd,setF]
    ·simp[twos,List.countP_cons,setF,hx,hd]
   ·have h':twos r≠0:=by simpa[twos,List.countP_cons,hd] using h
    obtain ⟨i,h1,h2,h3,h4,h5⟩:=fi_some r h'
    refine ⟨i+1,?_,by simpa using h2,by simpa using h3,?_,fun x hx=>?_⟩
    ·intro x hx
     rw[List.take_succ_cons,List.mem_cons] at hx
     rcases hx with rfl | hx
     ·simp[isEith,hd]
     ·exact h1 x hx
    ·simp only[List.set_cons_succ,List.getElem_cons_succ,setsD,hd,if_false]
     rw[h4,List.map_append]
    ·have:=h5 x hx
     simp only[List.set_cons_succ,List.getElem_cons_succ]
     simp[twos,hd] at this ⊢
     omega
noncomputable def knownC (c:Chain):List Chain:=((setsD c.deeds).map fun ds=>{ c with deeds:=ds }).filter fun c'=>decide (askE c' true=0)
def itemC (c:Chain):List IV:=[chV c]
theorem knownC_none (c:Chain) (h:twos c.deeds=0):knownC c=if askE c true=0 then [c] else []:=by
 unfold knownC
 rw[setsD_none _ h]
 by_cases h1:askE c true=0<;>simp[h1]
section
variable {K:World→Prop} (hK:∀ w w',K w→Below w.heap.size w w'→K w')
include hK
theorem iter123:∀ (n:Nat) (c:Chain),twos c.deeds=n→c.deeds.length≤1000→c.sights.length≤1000→IterY Tryz.prog K 123 [chV c] [] ((knownC c).map itemC) (fun b=>.bool b)
 | 0,c,hn,hl,hs=>by
   intro s b s' hf
   refine goodx_of_wp c123_ok (by simp) hf.v rfl ?_
   have hfi:=fi_none isEith c.deeds (no_eith _ hn)
   have hg:=good163 hK c.deeds 164 isEith (good164 hK) (by kernel_rfl) hl
   rw[hfi] at hg
   rw[knownC_none c hn] at hf
   simp
   refine callK_of (by simpa using hg) (.inl rfl) ?_
   simp
   refine callK_of (good165 hK c (pmC c) (tellOk hK c) hl hs) (.inl rfl) ?_
   by_cases h1:askE c true=0
   ·simp[h1] at hf ⊢
    cases hf with
    | stop _ _ _ _ hg =>
      refine callB_of (by simpa[itemC] using hg) rfl ?_
      simp
    | next _ _ _ s1 _ _ hg hr =>
      cases hr
      refine callB_of (by simpa[itemC] using hg) rfl ?_
      simp
   ·simp[h1] at hf ⊢
    cases hf
    exact ⟨rfl,rfl⟩
 | n+1,c,hn,hl,hs=>by
   intro s b s' hf
   refine goodx_of_wp c123_ok (by simp) hf.v rfl ?_
   obtain ⟨i,h1,h2,h3,h4,h5⟩:=fi_some c.deeds (by omega)
   have hg:=good163 hK c.deeds 164 isEith (good164 hK) (by kernel_rfl) hl
   rw[fi_at isEith c.deeds i h2 (by simp[isEith,h3]) h1] at hg
   have hne:c.deeds≠[]:=fun e=>by rw[e] at h2;simp at h2
   have hgc:=clone166 (K:=K) c.deeds hl hne
   have ih0:=iter123 n { c with deeds:=c.deeds.set i (setF c.deeds[i] 0) } (by have:=h5 0 (by decide);simp only;omega) (by simpa using hl) hs
   have ih1:=iter123 n { c with deeds:=c.deeds.set i (setF c.deeds[i] 1) } (by have:=h5 1 (by decide);simp only;omega) (by simpa using hl) hs
   have hkn:knownC c=knownC { c with deeds:=c.deeds.set i (setF c.deeds[i] 0) }++knownC { c with deeds:=c.deeds.set i (setF c.deeds[i] 1) }:=by
    unfold knownC
    rw[h4,List.map_append,List.filter_append]
   rw[hkn,List.map_append] at hf
   generalize hL0:knownC { c with deeds:=c.deeds.set i (setF c.deeds[i] 0) }=L0 at *
   generalize hL1:knownC { c with deeds:=c.deeds.set i (setF c.deeds[i] 1) }=L1 at *
   simp
   refine callK_of hg (.inl rfl) ?_
   simp
   refine loop_i 2 (fun k e o=>∃ si,e=[(1,AV.cb 0),(2,AV.iv (.ptr [deedsV c.deeds,sightsV c.sights,.int .i64 c.wrong])),(5,AV.iv (.int .i64 (i:Nat))),(25,AV.iv (.int .i64 (k:Nat)))]∧o=[(0,.ext si)] ∧
    Feeds Tryz.prog K (if k=0 then L0.map itemC++L1.map itemC else if k=1 then L1.map itemC else []) si b s') ?_ ?_ _ _ ⟨s,by simp,by simp,by simpa using hf⟩
   ·rintro e o ⟨si,rfl,rfl,hfd⟩
    cases hfd
    rw[LoopAt_enter c123_b0.eq_1]
    simp
   ·rintro k e o hk ⟨si,rfl,rfl,hfd⟩ ih
    have hk2:k=0∨k=1:=by omega
    rw[LoopAt_enter c123_b0.eq_1]
    have hset:∀ x:Int,(List.map (List.map AV.iv∘dC) c.deeds).set i [AV.iv (.int .i64 c.deeds[i].what),AV.iv (.int .i64 c.deeds[i].pos),AV.iv (.int .i64 x),AV.iv (.int .i64 c.deeds[i].bar),AV.iv (.int .i64 c.deeds[i].smith)]=emb ((c.deeds.set i (setF c.deeds[i] x)).map dC):=fun x=>by
     simp[emb,List.map_set,setF]
    rcases hk2 with rfl | rfl
    ·simp only[if_true] at hfd
     simp
     refine callO_of hgc (by simp) ?_
     simp[h2,hset,List.take_of_length_le]
     rcases hfd.append with ⟨s1,hf1,hf2⟩ | ⟨rfl,hf1⟩
     ·refine callX_of (by simpa[List.take_of_length_le] using ih0 _ _ _ hf1) rfl ?_
      simp
      exact ih _ _ ⟨s1,by simp,by simp,by simpa using hf2⟩
     ·refine callX_of (by simpa[List.take_of_length_le] using ih0 _ _ _ hf1) rfl ?_
      simp
    ·simp only[if_true] at hfd
     simp at hfd
     simp
     refine callO_of hgc (by simp) ?_
     simp[h2,hset,List.take_of_length_le]
     refine callX_of (by simpa[List.take_of_length_le] using ih1 _ _ _ hfd) rfl ?_
     cases b
     ·simp
     ·simp
      exact ih _ _ ⟨s',by simp,by simp,by simpa using Feeds.nil _⟩
end
end Go.Pf

/- exact: the machines whose arms and leak are set, one after the other. -/
namespace Go.Pf
open Go Go.Ev Go.Proofs Go.RowKit
set_option maxRecDepth 8000
theorem prodF_set {α:Type} (f:α→Int):∀ (l:List α) (k:Nat) (a:α),(∀ x∈l,1≤f x)→(∀ h:k<l.length,1≤f a∧f a≤f l[k])→prodF f (l.set k a)≤prodF f l
 | [],k,a,_,_=>by simp[prodF]
 | b::l,0,a,h,ha=>by
   have h1:=ha (by simp)
   have h2:=prodF_pos f l fun x hx=>h x (by simp[hx])
   simp only[List.set_cons_zero,prodF]
   exact Int.mul_le_mul_of_nonneg_right h1.2 (by omega)
 | b::l,k+1,a,h,ha=>by
   have ih:=prodF_set f l k a (fun x hx=>h x (by simp[hx])) (fun hk=>ha (by simpa using hk))
   have h1:=h b (by simp)
   simp only[List.set_cons_succ,prodF]
   exact Int.mul_le_mul_of_nonneg_left ih (by omega)
def setA (l:Lever) (n:Int):Lever:={ l with lo:=n,hi:=n }
def fixArm (m:Machine) (k:Nat) (l:Lever) (n:Int):Machine:={ m with levers:=m.levers.set k (setA l n) }
noncomputable def exactL:Nat→Machine→Nat→List Machine
 | 0,m,_=>acc (pieceX m) (m.lhi+1-m.llo).toNat
 | r+1,m,k=>match m.levers[k]? with
   | some l=>acc (fun i=>exactL r (fixArm m k l (l.lo+(i:Nat))) (k+1)) (l.hi+1-l.lo).toNat
   | none=>[]
structure Tame (m:Machine):Prop where
 len:m.levers.length≤3
 blen:m.bals.length≤6
 leak:inR m.llo 0 m.lhi
 lhi:m.lhi≤20
 span:∀ l∈m.levers,1≤spanL l
 lo:∀ l∈m.levers,0≤l.lo∧l.hi≤100000
 sets:sets m m.levers.length≤1000000
theorem Tame.fix {m:Machine} (h:Tame m) {k:Nat} (hk:k<m.levers.length) {n:Int} (hn:m.levers[k].lo≤n∧n≤m.levers[k].hi):Tame (fixArm m k m.levers[k] n):=by
 have hs:=h.span _ (List.getElem_mem hk)
 have hl:=h.lo _ (List.getElem_mem hk)
 refine ⟨by simpa[fixArm] using h.len,h.blen,h.leak,h.lhi,fun l hl=>?_,fun l hl'=>?_,?_⟩
 ·rcases List.mem_or_eq_of_mem_set hl with h1 | h1
  ·exact h.span l h1
  ·rw[h1];simp[spanL,setA]
 ·rcases List.mem_or_eq_of_mem_set hl' with h1 | h1
  ·exact h.lo l h1
  ·rw[h1];simp only[setA];omega
 ·refine Int.le_trans ?_ h.sets
  have e1:(fixArm m k m.levers[k] n).levers.length=m.levers.length:=by simp[fixArm]
  have h2:=h.leak
  simp only[inR] at h2
  unfold Pf.sets
  rw[e1,List.take_of_length_le (Nat.le_refl _),List.take_of_length_le (by rw[e1];exact Nat.le_refl _)]
  refine Int.mul_le_mul_of_nonneg_left (prodF_set spanL _ _ _ h.span fun hk'=>?_) (by simp only[fixArm];omega)
  have:spanL (setA m.levers[k] n)=1:=by simp[spanL,setA]
  rw[this]
  exact ⟨Int.le_refl _,hs⟩
section
variable {K:World→Prop} (hK:∀ w w',K w→Below w.heap.size w w'→K w')
include hK
theorem iter126:∀ (r:Nat) (m:Machine) (k:Nat),k+r=m.levers.length→Tame m→IterY Tryz.prog K 126 [maV m,.int .i64 k] [] ((exactL r m k).map itemM) (fun b=>.bool b)
 | 0,m,k,hk,ht=>by
   have:k=m.levers.length:=by omega
   subst this
   have h1:=ht.len
   have h2:=ht.blen
   refine iter126_last hK m (by omega) (by omega) ht.leak ht.lhi (fun n _=>?_)
   have h3:=ht.sets
   have h4:=ht.leak
   have h5:=prodF_pos spanL m.levers ht.span
   simp only[inR] at h4
   unfold Pf.sets at h3 ⊢
   simp only[fixLeak] at h3 ⊢
   rw[List.take_of_length_le (Nat.le_refl _)] at h3 ⊢
   have h6:(m.lhi-m.llo+1)*prodF spanL m.levers≥1*prodF spanL m.levers:=Int.mul_le_mul_of_nonneg_right (by omega) (by omega)
   have h7:n-n+1=1:=by omega
   rw[h7]
   omega
 | r+1,m,k,hk,ht=>by
   have hlt:k<m.levers.length:=by omega
   have ih:=iter126 r
   intro s b s' hf
   refine goodx_of_wp c126_ok (by simp) hf.v rfl ?_
   simp only[exactL,List.getElem?_eq_getElem hlt] at hf
   rw[acc_from] at hf
   have hne:¬ (k:Int)=m.levers.length:=by omega
   have hlo:=ht.lo _ (List.getElem_mem hlt)
   have hln:=ht.len
   have hnn:m.levers≠[]:=fun e=>by rw[e] at hlt;simp at hlt
   have hgc:=clone169 (K:=K) m.levers (by omega) hnn
   have hsp:=ht.span _ (List.getElem_mem hlt)
   simp only[spanL] at hsp
   have hit:∀ i:Nat,i<(m.levers[k].hi+1-m.levers[k].lo).toNat→IterY Tryz.prog K 126 [maV (fixArm m k m.levers[k] (m.levers[k].lo+i)),.int .i64 ((k+1:Nat):Int)] [] ((exactL r (fixArm m k m.levers[k] (m.levers[k].lo+i)) (k+1)).map itemM) (fun b=>.bool b):=fun i hi =>
    ih _ _ (by simp[fixArm];omega) (ht.fix hlt (by omega))
   generalize hpc:(fun i:Nat=>exactL r (fixArm m k m.levers[k] (m.levers[k].lo+i)) (k+1))=pc at hf
   have hpc':∀ i:Nat,exactL r (fixArm m k m.levers[k] (m.levers[k].lo+i)) (k+1)=pc i:=fun i=>by rw[← hpc]
   simp only[hpc'] at hit
   simp[hne,hlt]
   intros
   refine loop_i (m.levers[k].hi+1-m.levers[k].lo).toNat (fun i e o=>∃ si ls,e=[(1,AV.iv (.int .i64 (k:Nat))),(2,AV.cb 0),(3,AV.iv (.ptr [leversV m.levers,.int .i64 m.water,.int .i64 m.llo,.int .i64 m.lhi,balsV m.bals,.int .i64 m.wrong])),(7,AV.loc 7 0),(11,AV.iv (.int .i64 (m.levers[k].lo+(i:Nat))))] ∧
    o=[(0,.ext si),(7,.box [.iv (leversV ls),.iv (.int .i64 m.water),.iv (.int .i64 m.llo),.iv (.int .i64 m.lhi),.iv (balsV m.bals),.iv (.int .i64 m.wrong)])] ∧
    Feeds Tryz.prog K ((accFrom pc i ((m.levers[k].hi+1-m.levers[k].lo).toNat-i)).map itemM) si b s') ?_ ?_ _ _ ⟨s,m.levers,by simp,by simp,by simpa using hf⟩
   ·rintro e o ⟨si,ls,rfl,rfl,hfd⟩
    rw[Nat.sub_self] at hfd
    cases hfd
    have q1:m.levers[k].lo+((m.levers[k].hi+1-m.levers[k].lo).toNat:Int)=m.levers[k].hi+1:=by omega
    have q2:¬ m.levers[k].hi+1≤m.levers[k].hi:=by omega
    rw[q1,LoopAt_enter c126_b1.eq_1]
    simp[q2,hlt]
   ·rintro i e o hi ⟨si,ls,rfl,rfl,hfd⟩ ihl
    have q1:m.levers[k].lo+(i:Int)≤m.levers[k].hi:=by omega
    have q3:m.levers[k].lo+((i:Int)+1)=m.levers[k].lo+i+1:=by omega
    have e1:(m.levers[k].hi+1-m.levers[k].lo).toNat-i=((m.levers[k].hi+1-m.levers[k].lo).toNat-(i+1))+1:=by omega
    rw[e1] at hfd
    simp only[accFrom,List.map_append] at hfd
    have hset:(List.map (List.map AV.iv∘leC) m.levers).set k [AV.iv (.int .i64 m.levers[k].long),AV.iv (.int .i64 (m.levers[k].lo+i)),AV.iv (.int .i64 (m.levers[k].lo+i))]=emb ((m.levers.set k (setA m.levers[k] (m.levers[k].lo+i))).map leC):=by
     simp[emb,List.map_set,setA]
    rw[LoopAt_enter c126_b1.eq_1]
    simp[q1,hlt]
    refine callO_of hgc (by simp) ?_
    simp[hlt,hset,List.take_of_length_le]
    refine ⟨by omega,?_⟩
    have hiti:=hit i hi
    rcases hfd.append with ⟨s1,hf1,hf2⟩ | ⟨rfl,hf1⟩
    ·refine callX_of (by simpa[fixArm] using hiti _ _ _ hf1) rfl ?_
     simp
     (repeat' first | omega | (with_reducible apply And.intro) | intro _)
     exact ihl _ _ ⟨s1,m.levers.set k (setA m.levers[k] (m.levers[k].lo+i)),by simp[q3],by simp,hf2⟩
    ·refine callX_of (by simpa[fixArm] using hiti _ _ _ hf1) rfl ?_
     simp
end
end Go.Pf

/- Sets of links as bits of a number. -/
namespace Go.Pf
open Go Go.Ev Go.Proofs Go.RowKit
set_option maxRecDepth 8000
theorem u64_ofInt (a:Nat) (h:a<2 ^ 64):(BitVec.ofInt 64 (a:Int)).toNat=a:=by
 rw[BitVec.toNat_ofInt]
 have h':a<18446744073709551616:=h
 omega
theorem u64_wrapN (a:Nat) (h:a<2 ^ 64):IntKind.wrap .u64 (a:Int)=(a:Int):=by
 have h':a<18446744073709551616:=h
 simp only[IntKind.wrap,IntKind.bits,IntKind.signed]
 simp
 omega
theorem or_u64 (a b:Nat) (ha:a<2 ^ 64) (hb:b<2 ^ 64):bitOp .or .u64 (a:Int) (b:Int)=((a ||| b:Nat):Int):=by
 show IntKind.wrap .u64 (((BitVec.ofInt 64 (a:Int)) ||| (BitVec.ofInt 64 (b:Int))).toNat:Int)=_
 rw[BitVec.toNat_or,u64_ofInt a ha,u64_ofInt b hb,u64_wrapN _ (Nat.or_lt_two_pow ha hb)]
theorem and_u64 (a b:Nat) (ha:a<2 ^ 64) (hb:b<2 ^ 64):bitOp .and .u64 (a:Int) (b:Int)=((a &&& b:Nat):Int):=by
 show IntKind.wrap .u64 (((BitVec.ofInt 64 (a:Int)) &&& (BitVec.ofInt 64 (b:Int))).toNat:Int)=_
 rw[BitVec.toNat_and,u64_ofInt a ha,u64_ofInt b hb,u64_wrapN _ (Nat.and_lt_two_pow _ hb)]
def andN (a b:Nat):Nat:=a &&& (2 ^ 64-1-b)
theorem andN_lt {a b:Nat} (ha:a<2 ^ 64):andN a b<2 ^ 64:=Nat.lt_of_le_of_lt Nat.and_le_left ha
theorem andNot_u64 (a b:Nat) (ha:a<2 ^ 64) (hb:b<2 ^ 64):bitOp .andNot .u64 (a:Int) (b:Int)=(andN a b:Int):=by
 show IntKind.wrap .u64 (((BitVec.ofInt 64 (a:Int)) &&& ~~~(BitVec.ofInt 64 (b:Int))).toNat:Int)=_
 rw[BitVec.toNat_and,BitVec.toNat_not,u64_ofInt a ha,u64_ofInt b hb]
 exact u64_wrapN _ (andN_lt ha)
theorem andN_bit {a b i:Nat} (hb:b<2 ^ 64) (hi:i<64):(andN a b).testBit i=(a.testBit i&&!b.testBit i):=by
 unfold andN
 rw[Nat.testBit_and,show 2 ^ 64-1-b=2 ^ 64-(b+1) by omega,Nat.testBit_two_pow_sub_succ hb]
 simp[hi]
theorem shl_u64 {n:Nat} (h:n<64):shlV .u64 1 (n:Int)=((2 ^ n:Nat):Int):=by
 have h2:(2:Nat) ^ n<2 ^ 64:=Nat.pow_lt_pow_right (by decide) h
 unfold shlV
 rw[show min ((n:Int)).toNat IntKind.u64.bits=n by simp[IntKind.bits];omega,Int.one_mul]
 have:((2:Int) ^ n)=((2 ^ n:Nat):Int):=by push_cast;rfl
 rw[this]
 exact u64_wrapN _ h2
theorem shr_u64 (a n:Nat) (h:n<64):shrV .u64 (a:Int) (n:Int)=((a >>> n:Nat):Int):=by
 unfold shrV
 rw[show min ((n:Int)).toNat IntKind.u64.bits=n by simp[IntKind.bits];omega,Nat.shiftRight_eq_div_pow]
 have:((2:Int) ^ n)=((2 ^ n:Nat):Int):=by push_cast;rfl
 rw[this,Int.fdiv_eq_ediv_of_nonneg _ (Int.natCast_nonneg _)]
 rfl
theorem has_u64 (a n:Nat) (h:n<64) (ha:a<2 ^ 64):bitOp .and .u64 (shrV .u64 (a:Int) (n:Int)) 1=if a.testBit n then 1 else 0:=by
 rw[shr_u64 a n h]
 have h1:a >>> n<2 ^ 64:=Nat.lt_of_le_of_lt (Nat.shiftRight_le _ _) ha
 have:=and_u64 (a >>> n) 1 h1 (by decide)
 rw[show ((1:Nat):Int)=1 from rfl] at this
 rw[this]
 have e:a.testBit n=(decide ((a >>> n) &&& 1=1)):=by
  rw[Nat.testBit,Nat.and_comm]
  have:(a >>> n) &&& 1=0∨(a >>> n) &&& 1=1:=by
   rw[Nat.and_one_is_mod];omega
  rcases this with h | h<;>simp[h]
 rw[e]
 have:(a >>> n) &&& 1=0∨(a >>> n) &&& 1=1:=by
  rw[Nat.and_one_is_mod];omega
 rcases this with h | h<;>simp[h]
def maskN (l:List Nat):Nat:=l.foldl (fun m n=>m ||| 2 ^ n) 0
theorem maskN_succ (l:List Nat) (n:Nat):maskN (l++[n])=maskN l ||| 2 ^ n:=by simp[maskN]
theorem maskN_bit (i:Nat):∀ l:List Nat,(maskN l).testBit i=decide (i∈l):=by
 refine snoc_ind (by simp[maskN]) fun l n ih=>?_
 rw[maskN_succ,Nat.testBit_or,ih,Nat.testBit_two_pow]
 by_cases h1:i∈l<;>by_cases h2:n=i
 ·simp[h1,h2]
 ·simp[h1]
 ·simp[h2]
 ·have:¬ i=n:=fun e=>h2 e.symm
  simp[h1,h2,this]
theorem maskN_lt (k:Nat):∀ l:List Nat,(∀ n∈l,n<k)→maskN l<2 ^ k:=by
 refine snoc_ind (fun _=>by simp[maskN];exact Nat.pos_of_ne_zero (by simp)) fun l n ih h=>?_
 rw[maskN_succ]
 exact Nat.or_lt_two_pow (ih fun m hm=>h m (by simp[hm])) (Nat.pow_lt_pow_right (by decide) (h n (by simp)))
end Go.Pf

/- proofs.tell: the story of a chain whose ends are set. -/
namespace Go.Pf
open Go Go.Ev Go.Proofs Go.RowKit
set_option maxRecDepth 8000
theorem cab_congr (ds:List Deed) {e e':Nat→Int}:∀ k,(∀ i<k,e i=e' i)→cab ds e k=cab ds e' k
 | 0,_=>rfl
 | k+1,h=>by
   have ih:=cab_congr ds k fun i hi=>h i (by omega)
   have hk:=h k (by omega)
   simp only[cab,ih,hk]
theorem wn_take (ds:List Deed) (k:Nat) {j:Nat} (h:j≤k):wn (ds.take k) j=wn ds j:=by
 unfold wn
 rw[List.take_take,Nat.min_eq_left h]
theorem cab_take (ds:List Deed) (e:Nat→Int) (k:Nat):∀ j,j≤k→cab (ds.take k) e j=cab ds e j
 | 0,_=>rfl
 | j+1,h=>by
   have ih:=cab_take ds e k j (by omega)
   have hj:(ds.take k)[j]?=ds[j]?:=by rw[List.getElem?_take,if_pos (by omega)]
   simp only[cab,hj,ih,wn_take ds k (show j≤k by omega)]
theorem eBit_take (ds:List Deed) (k i:Nat) (h:i<k):eBit (ds.take k) 0 i=eBit ds 0 i:=by
 have hj:(ds.take k)[i]?=ds[i]?:=by rw[List.getElem?_take,if_pos h]
 unfold eBit
 rw[hj]
 cases ds[i]? with
 | none=>rfl
 | some d=>simp
theorem cab_before (ds:List Deed) (k:Nat):cab (ds.take k) (eBit (ds.take k) 0) k=cab ds (eBit ds 0) k:=by
 rw[cab_take ds _ k k (Nat.le_refl _)]
 exact cab_congr ds k fun i hi=>eBit_take ds k i hi
theorem twos_zero_take (ds:List Deed) (k:Nat) (h:twos ds=0):twos (ds.take k)=0:=by
 rw[twos,List.countP_eq_zero] at *
 exact fun x hx=>h x (List.mem_of_mem_take hx)
def storyP (p:Proof) (e:Nat→Int):List IV :=
 [.sl 1 ((List.range p.trials.length).map fun i=>[.int .u64 (maskN (thenN p i e):Nat)]),.sl 1 ((List.range p.trials.length).map fun i=>[.int .i64 (brokeN p i e)]),natsI (nowN p e)]
section
variable {K:World→Prop} (hK:∀ w w',K w→Below w.heap.size w w'→K w')
include hK
theorem rowBefore (c:Chain) (hc:OkD c.deeds c.deeds.length) (hl:c.deeds.length≤12) (h2:twos c.deeds=0) (k:Nat) (hk:k≤c.deeds.length):Ev.Good Tryz.prog K 167 [chV (beforeC c k)] (natsI (cab c.deeds (eBit c.deeds 0) k)):=by
 have hC:OkC (beforeC c k):=okC_before hc hl hk
 have:=good167 hK (beforeC c k) hC (twos_zero_take _ _ h2) rfl
 have e:(beforeC c k).deeds=c.deeds.take k:=rfl
 have e2:(c.deeds.take k).length=k:=by simp;omega
 rw[e,e2,cab_before] at this
 exact this
theorem good125 (p:Proof) (hp:OkP p) (h2:twos p.chain.deeds=0):Ev.Good Tryz.prog K 125 [chV p.chain,trialsV p.trials] (.agg (storyP p (eBit p.chain.deeds 0))):=by
 have hl:=hp.deedsLen
 have htl:=hp.trialsLen
 have hd:=hp.chain.deeds
 refine good_of_wp hK c125_ok (by simp) ?_
 simp
 intro _
 refine callK_of (by simpa using good84 hK p.chain p.chain.deeds.length (Nat.le_refl _)) (.inl rfl) ?_
 simp
 refine callK_of (by simpa using rowBefore hK p.chain hd hl h2 p.chain.deeds.length (Nat.le_refl _)) (.inl rfl) ?_
 simp
 refine callK_of (by simpa using good82 hK p.chain) (.inl rfl) ?_
 simp
 refine Wp_range (wy:=.fall) (o':=[(4,.box [.iv (.sl 1 []),.iv (.sl 1 []),.iv (.sl 1 [])]),(5,.box [.aref 6000 p.trials.length,.aref 6001 p.trials.length,.iv (natsI (nowN p (eBit p.chain.deeds 0)))]),
  (6000,.arr 104 1 (emb ((List.range p.trials.length).map fun i=>[.int .u64 (maskN (thenN p i (eBit p.chain.deeds 0)):Nat)])) 0),(6001,.arr 3 1 (emb ((List.range p.trials.length).map fun i=>[.int .i64 (brokeN p i (eBit p.chain.deeds 0))])) 0)]) rfl (by kernel_rfl) (iter140 p.chain (by omega)) ?_ ?_
 ·have htrs:(trs (pv p.chain.deeds) 0).length=p.trials.length:=by
   have:∀ (l:List Nat) (t:Nat),(trs l t).length=l.length:=by
    intro l
    induction l with
    | nil=>intro t;rfl
    | cons a l ih=>intro t;simp[trs,ih]
   rw[this,hp.many]
  have:=Rnds.all (P:=Tryz.prog) (K:=K) (ps:=[22,23]) (asn:=c125_b1a) (body:=c125_b1) (ks:=[2,3,4,5]) (ids:=[4,5,6000,6001]) (eK:=[(2,.iv (.ptr [deedsV p.chain.deeds,sightsV p.chain.sights,.int .i64 p.chain.wrong])),(3,.iv (.ptr [trialsV p.trials])),(4,.loc 4 0),(5,.loc 5 0)]) (trs (pv p.chain.deeds) 0)
   (fun i=>[(4,.box [.iv (.sl 1 []),.iv (.sl 1 []),.iv (.sl 1 [])]),(5,.box [.aref 6000 i,.aref 6001 i,.iv (natsI (nowN p (eBit p.chain.deeds 0)))]),
     (6000,.arr 104 1 (emb ((List.range i).map fun i=>[.int .u64 (maskN (thenN p i (eBit p.chain.deeds 0)):Nat)])) 0),(6001,.arr 3 1 (emb ((List.range i).map fun i=>[.int .i64 (brokeN p i (eBit p.chain.deeds 0))])) 0)]) fun i x hx=>by
   obtain ⟨hi,rfl⟩:=trs_get _ _ _ _ hx
   have hit:i<p.trials.length:=by rw[hp.many];exact hi
   have hlt:=pv_get hi
   have hthen:thenN p i (eBit p.chain.deeds 0)=cab p.chain.deeds (eBit p.chain.deeds 0) (pv p.chain.deeds)[i]:=by simp[thenN,List.getD_eq_getElem?_getD,hi]
   have hrow:=rowBefore hK p.chain hd hl h2 (pv p.chain.deeds)[i] (by omega)
   rw[← hthen] at hrow
   have htr:=tr_get hit
   have hok:=hp.trial hit
   have hbr:brokeN p i (eBit p.chain.deeds 0)=if 0≤(tr p i).broke then (((thenN p i (eBit p.chain.deeds 0)).getD (tr p i).broke.toNat 0:Nat):Int) else -1:=rfl
   have hcl:((thenN p i (eBit p.chain.deeds 0)).length:Int)=cnt p.chain.deeds (pv p.chain.deeds)[i]:=by rw[hthen];exact cab_len _ hd _ (by omega) (by omega)
   have hcb:=hd.cnt (pv p.chain.deeds)[i] (by omega) (by omega)
   have hmem:∀ n∈thenN p i (eBit p.chain.deeds 0),n<12:=fun n hn=>by
    rw[hthen] at hn
    have:=cab_lt _ _ _ n hn
    have:=wn_le p.chain.deeds (pv p.chain.deeds)[i]
    omega
   have hpd:(pv p.chain.deeds).getD i 0=(pv p.chain.deeds)[i]:=by simp[List.getD_eq_getElem?_getD,hi]
   rw[hpd] at hok
   rw[List.range_succ,List.map_append,List.map_append]
   refine ⟨rfl,?_⟩
   generalize hnow:thenN p i (eBit p.chain.deeds 0)=now at *
   simp[c125_b1a,c125_b1,-List.map_map,emb_fold,emb_emb,emb_nil,ivss_embA]
   refine callK_of (by simpa using good84 hK p.chain (pv p.chain.deeds)[i] (by omega)) (.inl rfl) ?_
   simp
   refine callK_of (by simpa using hrow) (.inl rfl) ?_
   simp
   intro _
   refine loop_q (fun k=>[(2,.iv (.ptr [deedsV p.chain.deeds,sightsV p.chain.sights,.int .i64 p.chain.wrong])),(3,.iv (.ptr [trialsV p.trials])),(4,.loc 4 0),(5,.loc 5 0),(6,.iv (.int .i64 (i:Nat))),(8,.iv (natsI now)),(9,.iv (.int .u64 (maskN (now.take k):Nat))),(28,.iv (natsI now)),(29,.iv (.int .i64 now.length)),(30,.iv (.int .i64 (k:Nat)))])
    (fun _=>[(4,.box [.iv (.sl 1 []),.iv (.sl 1 []),.iv (.sl 1 [])]),(5,.box [.aref 6000 i,.aref 6001 i,.iv (natsI (nowN p (eBit p.chain.deeds 0)))]),
    (6000,.arr 104 1 (emb ((List.range i).map fun i=>[.int .u64 (maskN (thenN p i (eBit p.chain.deeds 0)):Nat)])) 0),(6001,.arr 3 1 (emb ((List.range i).map fun i=>[.int .i64 (brokeN p i (eBit p.chain.deeds 0))])) 0)]) now.length (fun _=>True) trivial ?_ ?_
   ·intro _
    rw[LoopAt_enter c125_b0.eq_1]
    by_cases hb:0≤(tr p i).broke
    ·have hb2:(tr p i).broke.toNat<now.length:=by
      have:=hok.2.2
      simp only[inR] at this
      omega
     have hgd:now.getD (tr p i).broke.toNat 0=now[(tr p i).broke.toNat]:=by simp[List.getD_eq_getElem?_getD,hb2]
     rw[if_pos hb,hgd] at hbr
     simp[hit,htr,hb,hb2,hbr,hnow,-List.map_map,emb_fold,emb_emb,emb_nil,ivss_embA,List.take_of_length_le]
     omega
    ·rw[if_neg hb] at hbr
     simp[hit,htr,hb,hbr,hnow,-List.map_map,emb_fold,emb_emb,emb_nil,ivss_embA,List.take_of_length_le]
     omega
   ·intro k hk _ ih
    rw[LoopAt_enter c125_b0.eq_1]
    have hn:=hmem now[k] (List.getElem_mem hk)
    have hm1:maskN (now.take k)<2 ^ 12:=maskN_lt 12 _ fun n hn=>hmem n (List.mem_of_mem_take hn)
    have hm2:(2:Nat) ^ now[k]<2 ^ 12:=Nat.pow_lt_pow_right (by decide) hn
    have hor:=or_u64 (maskN (now.take k)) (2 ^ now[k]) (by omega) (by omega)
    rw[← shl_u64 (n:=now[k]) (by omega)] at hor
    rw[List.take_succ_eq_append_getElem hk,maskN_succ] at ih
    simp at ih
    simp[hk,hor]
    (repeat' first | omega | (with_reducible apply And.intro) | intro _)
  rw[htrs] at this
  simpa[emb,nowN] using this
 ·simp[storyP,List.take_of_length_le]
  trace_state
end
end Go.Pf

/- What is so in a truth of a proof: the program's functions. -/
namespace Go.Pf
open Go Go.Ev Go.Proofs Go.RowKit
set_option maxRecDepth 8000
def loadsL (p:Proof) (s:Setting):List (List IV):=(List.range p.trials.length).map fun i=>[.int .i64 (lowS p.machine (tr p i).weight (tr p i).mins s),.int .i64 (upS p.machine (tr p i).weight (tr p i).mins s)]
def truthV (p:Proof) (t:Truth):List IV:=storyP p (endF t.ends)++[.sl 2 (loadsL p t.set)]
def nd (p:Proof) (need:Int):Proof:={ p with need:=need }
theorem tdiv_le_iff {a b c:Int} (ha:0≤a) (hb:1≤b):(a+b-1).tdiv b≤c↔a≤c*b:=by
 rw[Int.tdiv_eq_ediv_of_nonneg (by omega)]
 constructor
 ·intro h
  have h1:=Int.mul_ediv_add_emod (a+b-1) b
  have h2:=Int.emod_lt_of_pos (a+b-1) (show 0<b by omega)
  have h3:b*((a+b-1) / b)≤b*c:=Int.mul_le_mul_of_nonneg_left h (by omega)
  rw[Int.mul_comm c b]
  omega
 ·intro h
  have:(a+b-1) / b<c+1:=by
   rw[Int.ediv_lt_iff_lt_mul (by omega),Int.add_mul]
   omega
  omega
theorem le_tdiv_iff {a b c:Int} (ha:0≤a) (hb:1≤b):c≤a.tdiv b↔c*b≤a:=by
 rw[Int.tdiv_eq_ediv_of_nonneg ha]
 exact Int.le_ediv_iff_mul_le (by omega)
section
variable {K:World→Prop} (hK:∀ w w',K w→Below w.heap.size w w'→K w')
include hK
theorem good102 (p:Proof) (t:Truth) (need:Int) (hp:OkP p) (hs:okS p.machine t.set) (i:Nat) (hi:i<p.trials.length):Ev.Good Tryz.prog K 102 [.agg (truthV p t),.int .i64 i,.int .i64 need] (.bool (failedB (nd p need) i t)):=by
 refine good_of_wp hK c102_ok (by simp) ?_
 have hbr:brokeN p i (endF t.ends)=if 0≤(tr p i).broke then (((thenN p i (endF t.ends)).getD (tr p i).broke.toNat 0:Nat):Int) else -1:=rfl
 have hfd:failedB (nd p need) i t=(decide (0≤(tr p i).broke)&&decide (num p.machine t.set (tr p i).weight (tr p i).mins≤need*den t.set)):=rfl
 have hnum:0≤num p.machine t.set (tr p i).weight (tr p i).mins:=(hp.machine.numB hs (hp.trial hi).1 (hp.trial hi).2.1).1
 have hden:1≤den t.set:=(hp.machine.denB hs).1
 have hup:=tdiv_le_iff (c:=need) hnum hden
 rw[hfd]
 by_cases hb:0≤(tr p i).broke
 ·rw[if_pos hb] at hbr
  by_cases h2:num p.machine t.set (tr p i).weight (tr p i).mins≤need*den t.set
  ·have h3:=hup.2 h2
   simp[truthV,storyP,loadsL,hi,hbr,hb,upS,h2,h3]
  ·have h3:=fun h=>h2 (hup.1 h)
   simp[truthV,storyP,loadsL,hi,hbr,hb,upS,h2,h3]
   omega
 ·rw[if_neg hb] at hbr
  simp[truthV,storyP,loadsL,hi,hbr,hb]
omit hK in
theorem failN_succ (p:Proof) (t:Truth) (n:Nat):(List.range (n+1)).countP (fun i=>failedB p i t)=(List.range n).countP (fun i=>failedB p i t)+if failedB p n t then 1 else 0:=by
 rw[List.range_succ,List.countP_append]
 simp[List.countP_cons]
theorem good65 (p:Proof) (t:Truth) (need:Int) (hp:OkP p) (hs:okS p.machine t.set):Ev.Good Tryz.prog K 65 [.agg (truthV p t),.int .i64 need] (.int .i64 (failN (nd p need) t:Nat)):=by
 refine good_of_wp hK c65_ok (by simp) ?_
 have htl:=hp.trialsLen
 have hll:(loadsL p t.set).length=p.trials.length:=by simp[loadsL]
 have hf:failN (nd p need) t=(List.range p.trials.length).countP (fun i=>failedB (nd p need) i t):=rfl
 have hsv:truthV p t=[.sl 1 ((List.range p.trials.length).map fun i=>[.int .u64 (maskN (thenN p i (endF t.ends)):Nat)]),.sl 1 ((List.range p.trials.length).map fun i=>[.int .i64 (brokeN p i (endF t.ends))]),natsI (nowN p (endF t.ends)),.sl 2 (loadsL p t.set)]:=rfl
 rw[hsv]
 have hg:=fun i hi=>good102 hK p t need hp hs i hi
 rw[hsv] at hg
 simp[hll]
 intro _
 refine loop_q (fun i=>[(1,AV.iv (.int .i64 need)),(2,.iv (.ptr [.sl 1 ((List.range p.trials.length).map fun i=>[.int .u64 (maskN (thenN p i (endF t.ends)):Nat)]),.sl 1 ((List.range p.trials.length).map fun i=>[.int .i64 (brokeN p i (endF t.ends))]),natsI (nowN p (endF t.ends)),.sl 2 (loadsL p t.set)])),
   (5,.iv (.int .i64 ((List.range i).countP (fun i=>failedB (nd p need) i t):Nat))),(9,.iv (.int .i64 p.trials.length)),(10,.iv (.int .i64 (i:Nat)))]) (fun _=>[]) p.trials.length (fun _=>True) trivial ?_ ?_
 ·intro _
  rw[LoopAt_enter c65_b0.eq_1]
  simp[hf]
 ·intro i hi _ ih
  have hle:(List.range i).countP (fun i=>failedB (nd p need) i t)≤i:=by
   have:=List.countP_le_length (p:=fun i=>failedB (nd p need) i t) (l:=List.range i)
   simpa using this
  rw[LoopAt_enter c65_b0.eq_1]
  rw[failN_succ] at ih
  simp[hi] at ih ⊢
  refine callK_of (by simpa using hg i hi) (.inl rfl) ?_
  cases hb:failedB (nd p need) i t
  ·simp[hb] at ih ⊢
   (repeat' first | omega | (with_reducible apply And.intro) | intro _)
  ·simp[hb] at ih ⊢
   (repeat' first | omega | (with_reducible apply And.intro) | intro _)
omit hK in
theorem mask12 {p:Proof} (hp:OkP p) (i:Nat) (e:Nat→Int):maskN (thenN p i e)<2 ^ 12:=maskN_lt 12 _ fun n hn=>by
 have h1:=OkP.thenLt (p:=p) e i hn
 have h2:=linksL_len p.chain.deeds
 have h3:(linksL p.chain.deeds).length≤p.chain.deeds.length:=List.length_filter_le _ _
 have:=hp.deedsLen
 omega
def pmAt (p:Proof) (t:Truth) (m i:Nat):Nat :=
 if p.need≤lowS p.machine (tr p i).weight (tr p i).mins t.set then m ||| (if 0≤brokeN p i (endF t.ends) then andN (maskN (thenN p i (endF t.ends))) (2 ^ (brokeN p i (endF t.ends)).toNat) else maskN (thenN p i (endF t.ends))) else m
def pmN (p:Proof) (t:Truth) (n:Nat):Nat:=(List.range n).foldl (pmAt p t) 0
omit hK in
theorem pmN_succ (p:Proof) (t:Truth) (n:Nat):pmN p t (n+1)=pmAt p t (pmN p t n) n:=by simp[pmN,List.range_succ]
omit hK in
theorem broke_bd {p:Proof} (hp:OkP p) (e:Nat→Int) {i:Nat} (hi:i<p.trials.length) : -1≤brokeN p i e∧brokeN p i e<12:=by
 by_cases hb:0≤(tr p i).broke
 ·obtain ⟨h1,h2⟩:=hp.brokeIn e hi hb
  have h3:=OkP.thenLt (p:=p) e i (List.getElem_mem h1)
  have h4:=linksL_len p.chain.deeds
  have h5:(linksL p.chain.deeds).length≤p.chain.deeds.length:=List.length_filter_le _ _
  have:=hp.deedsLen
  omega
 ·simp[brokeN,hb]
omit hK in
theorem pmAt_bitN {p:Proof} (hp:OkP p) {t:Truth} (hs:okS p.machine t.set) (need:Int) (m:Nat) {i:Nat} (hi:i<p.trials.length) {k:Nat} (hk:k<64):(pmAt (nd p need) t m i).testBit k=(m.testBit k||provedAt (nd p need) k t i):=by
 have hnum:=(hp.machine.numB hs (hp.trial hi).1 (hp.trial hi).2.1).1
 have hden:=(hp.machine.denB hs).1
 have hbb:=broke_bd hp (endF t.ends) hi
 have hiff:=le_tdiv_iff (c:=need) hnum hden
 have hin:inN (thenN p i (endF t.ends)) k=decide (k∈thenN p i (endF t.ends)):=by
  unfold inN
  congr 1
  simp
  constructor
  ·rintro ⟨a,h1,h2⟩
   obtain rfl:a=k:=by omega
   exact h1
  ·exact fun h=>⟨k,h,rfl⟩
 have e1:provedAt (nd p need) k t i=(decide (need*den t.set≤num p.machine t.set (tr p i).weight (tr p i).mins)&&inN (thenN p i (endF t.ends)) k&&!decide (brokeN p i (endF t.ends)=k)):=rfl
 have e2:pmAt (nd p need) t m i=if need≤lowS p.machine (tr p i).weight (tr p i).mins t.set then m ||| (if 0≤brokeN p i (endF t.ends) then andN (maskN (thenN p i (endF t.ends))) (2 ^ (brokeN p i (endF t.ends)).toNat) else maskN (thenN p i (endF t.ends))) else m:=rfl
 rw[e1,e2,hin]
 by_cases h1:need≤lowS p.machine (tr p i).weight (tr p i).mins t.set
 ·have h2:need*den t.set≤num p.machine t.set (tr p i).weight (tr p i).mins:=hiff.1 h1
  rw[if_pos h1,Nat.testBit_or]
  by_cases h3:0≤brokeN p i (endF t.ends)
  ·rw[if_pos h3,andN_bit (Nat.pow_lt_pow_right (by decide) (by omega)) hk,maskN_bit,Nat.testBit_two_pow]
   have h4:decide ((brokeN p i (endF t.ends)).toNat=k)=decide (brokeN p i (endF t.ends)=k):=by
    congr 1
    apply propext
    omega
   rw[h4]
   simp[h2]
  ·rw[if_neg h3,maskN_bit]
   have h4:¬ brokeN p i (endF t.ends)=k:=by omega
   simp[h2,h4]
 ·have h2:¬ need*den t.set≤num p.machine t.set (tr p i).weight (tr p i).mins:=fun h=>h1 (hiff.2 h)
  rw[if_neg h1]
  simp[h2]
omit hK in
theorem pmN_bit' {p:Proof} (hp:OkP p) {t:Truth} (hs:okS p.machine t.set) {need:Int} {k:Nat} (hk:k<64):(pmN (nd p need) t p.trials.length).testBit k=provedB (nd p need) k t:=by
 have hat:∀ (m:Nat) {i:Nat},i<p.trials.length→(pmAt (nd p need) t m i).testBit k=(m.testBit k||provedAt (nd p need) k t i):=fun m i hi=>pmAt_bitN hp hs need m hi hk
 have:∀ n,n≤p.trials.length→(pmN (nd p need) t n).testBit k=(List.range n).any (provedAt (nd p need) k t):=by
  intro n
  induction n with
  | zero=>intro _;simp[pmN]
  | succ n ih=>intro h;rw[pmN_succ,hat _ (by omega),ih (by omega),any_range_succ]
 exact this _ (Nat.le_refl _)
omit hK in
theorem pmN_lt64 {p:Proof} (hp:OkP p) (t:Truth) {need:Int} (n:Nat):pmN (nd p need) t n<2 ^ 64:=by
 have:∀ n,pmN (nd p need) t n<2 ^ 12:=fun n=>by
  induction n with
  | zero=>simp[pmN]
  | succ n ih =>
    rw[pmN_succ]
    have h:=mask12 hp n (endF t.ends)
    unfold pmAt
    split
    ·refine Nat.or_lt_two_pow ih ?_
     split
     ·exact Nat.lt_of_le_of_lt Nat.and_le_left h
     ·exact h
    ·exact ih
 have:=this n
 omega
theorem good70 (p:Proof) (t:Truth) (need:Int) (hp:OkP p):Ev.Good Tryz.prog K 70 [.agg (truthV p t),.int .i64 need] (.int .u64 (pmN (nd p need) t p.trials.length:Nat)):=by
 refine good_of_wp hK c70_ok (by simp) ?_
 have htl:=hp.trialsLen
 have hpl:∀ i,pmN (nd p need) t i<2 ^ 12:=fun i=>by
  have:∀ n,pmN (nd p need) t n<2 ^ 12:=fun n=>by
   induction n with
   | zero=>simp[pmN]
   | succ n ih =>
     rw[pmN_succ]
     have h:=mask12 hp n (endF t.ends)
     unfold pmAt
     split
     ·refine Nat.or_lt_two_pow ih ?_
      split
      ·exact Nat.lt_of_le_of_lt Nat.and_le_left h
      ·exact h
     ·exact ih
  exact this i
 have hsv:truthV p t=[.sl 1 ((List.range p.trials.length).map fun i=>[.int .u64 (maskN (thenN p i (endF t.ends)):Nat)]),.sl 1 ((List.range p.trials.length).map fun i=>[.int .i64 (brokeN p i (endF t.ends))]),natsI (nowN p (endF t.ends)),.sl 2 (loadsL p t.set)]:=rfl
 rw[hsv]
 simp
 intros
 refine loop_q (fun i=>[(1,AV.iv (.int .i64 need)),(2,.iv (.ptr [.sl 1 ((List.range p.trials.length).map fun i=>[.int .u64 (maskN (thenN p i (endF t.ends)):Nat)]),.sl 1 ((List.range p.trials.length).map fun i=>[.int .i64 (brokeN p i (endF t.ends))]),natsI (nowN p (endF t.ends)),.sl 2 (loadsL p t.set)])),
   (5,.iv (.int .u64 (pmN (nd p need) t i:Nat))),(11,.iv (.sl 1 ((List.range p.trials.length).map fun i=>[.int .u64 (maskN (thenN p i (endF t.ends)):Nat)]))),(12,.iv (.int .i64 p.trials.length)),(13,.iv (.int .i64 (i:Nat)))]) (fun _=>[]) p.trials.length (fun _=>True) trivial ?_ ?_
 ·intro _
  rw[LoopAt_enter c70_b0.eq_1]
  simp
 ·intro i hi _ ih
  have hm:=mask12 hp i (endF t.ends)
  have hbb:=broke_bd hp (endF t.ends) hi
  have hpi:=hpl i
  rw[LoopAt_enter c70_b0.eq_1]
  rw[pmN_succ] at ih
  have hat:∀ m,pmAt (nd p need) t m i=if need≤lowS p.machine (tr p i).weight (tr p i).mins t.set then m ||| (if 0≤brokeN p i (endF t.ends) then andN (maskN (thenN p i (endF t.ends))) (2 ^ (brokeN p i (endF t.ends)).toNat) else maskN (thenN p i (endF t.ends))) else m:=fun m=>rfl
  rw[hat] at ih
  have hld:(loadsL p t.set)[i]?=some [.int .i64 (lowS p.machine (tr p i).weight (tr p i).mins t.set),.int .i64 (upS p.machine (tr p i).weight (tr p i).mins t.set)]:=by simp[loadsL,hi]
  have hll:(loadsL p t.set).length=p.trials.length:=by simp[loadsL]
  generalize lowS p.machine (tr p i).weight (tr p i).mins t.set=lo at *
  generalize upS p.machine (tr p i).weight (tr p i).mins t.set=up at *
  generalize pmN (nd p need) t i=m at *
  have hld2:(loadsL p t.set)[i]'(by omega)=[.int .i64 lo,.int .i64 up]:=by
   rw[List.getElem?_eq_getElem (by omega)] at hld
   injection hld
  by_cases h1:need≤lo
  ·have h1':¬ lo<need:=by omega
   by_cases h3:0≤brokeN p i (endF t.ends)
   ·obtain ⟨b,hb⟩:∃ b:Nat,brokeN p i (endF t.ends)=b:=⟨(brokeN p i (endF t.ends)).toNat,by omega⟩
    have hb12:b<12:=by omega
    have h2b:(2:Nat) ^ b<2 ^ 12:=Nat.pow_lt_pow_right (by decide) hb12
    have q1:=andNot_u64 (maskN (thenN p i (endF t.ends))) (2 ^ b) (by omega) (by omega)
    rw[← shl_u64 (n:=b) (by omega)] at q1
    have q2:=or_u64 m (andN (maskN (thenN p i (endF t.ends))) (2 ^ b)) (by omega) (andN_lt (by omega))
    simp[h1,hb] at ih
    simp[hi,hll,hld2,h1',hb,q1,q2]
    (repeat' first | omega | (with_reducible apply And.intro) | intro _)
   ·have q2:=or_u64 m (maskN (thenN p i (endF t.ends))) (by omega) (by omega)
    simp[h1,h3] at ih
    simp[hi,hll,hld2,h1',h3,q2]
    (repeat' first | omega | (with_reducible apply And.intro) | intro _)
  ·have h1':lo<need:=by omega
   simp[h1] at ih
   simp[hi,hll,hld2,h1']
   (repeat' first | omega | (with_reducible apply And.intro) | intro _)
theorem good71 (s k:Nat) (hs:s<2 ^ 64) (hk:k<64):Ev.Good Tryz.prog K 71 [.int .u64 s,.int .i64 k] (.bool (s.testBit k)):=by
 refine good_of_wp hK c71_ok (by simp) ?_
 have:=has_u64 s k hk hs
 cases hb:s.testBit k<;>simp[hb] at this<;>simp[this]
theorem good128 (s k:Nat) (hs:s<2 ^ 64) (hk:k<64):Ev.Good Tryz.prog K 128 [.int .i64 k,.ptr [.int .u64 s]] (.bool (!s.testBit k)):=by
 refine good_of_wp hK c128_ok (by simp) ?_
 simp
 refine callK_of (good71 hK s k hs hk) (.inl rfl) ?_
 simp
theorem good73 (p:Proof) (t:Truth) (need:Int) (hp:OkP p) (hs:okS p.machine t.set):Ev.Good Tryz.prog K 73 [.agg (truthV p t),.int .i64 need,.int .i64 p.rule] (.bool (goodB (nd p need) t)):=by
 refine good_of_wp hK c73_ok (by simp) ?_
 have hl:=hp.deedsLen
 have hsv:truthV p t=[.sl 1 ((List.range p.trials.length).map fun i=>[.int .u64 (maskN (thenN p i (endF t.ends)):Nat)]),.sl 1 ((List.range p.trials.length).map fun i=>[.int .i64 (brokeN p i (endF t.ends))]),natsI (nowN p (endF t.ends)),.sl 2 (loadsL p t.set)]:=rfl
 have hg70:=good70 hK p t need hp
 have hg65:=good65 hK p t need hp hs
 rw[hsv] at hg70 hg65 ⊢
 have hlt:∀ n,pmN (nd p need) t n<2 ^ 12:=fun n=>by
  induction n with
  | zero=>simp[pmN]
  | succ n ih =>
    rw[pmN_succ]
    have h:=mask12 hp n (endF t.ends)
    unfold pmAt
    split
    ·refine Nat.or_lt_two_pow ih ?_
     split
     ·exact Nat.lt_of_le_of_lt Nat.and_le_left h
     ·exact h
    ·exact ih
 have hpm:=hlt p.trials.length
 have hnow:∀ n∈nowN p (endF t.ends),n<12:=fun n hn=>by
  have:=cab_lt _ _ _ n hn
  have:=wn_le p.chain.deeds p.chain.deeds.length
  omega
 have hbit:∀ n∈nowN p (endF t.ends),(pmN (nd p need) t p.trials.length).testBit n=provedB (nd p need) n t:=fun n hn=>pmN_bit' hp hs (by have:=hnow n hn;omega)
 have hnl:(nowN p (endF t.ends)).length≤1000:=by
  have h1:=cab_len (endF t.ends) hp.chain.deeds p.chain.deeds.length (Nat.le_refl _) (Nat.le_refl _)
  have h2:=hp.chain.deeds.cnt p.chain.deeds.length (Nat.le_refl _) (Nat.le_refl _)
  show (cab p.chain.deeds (endF t.ends) p.chain.deeds.length).length≤1000
  omega
 have hgood:goodB (nd p need) t=(((nowN p (endF t.ends)).all fun (k:Nat)=>provedB (nd p need) k t)&&decide ((failN (nd p need) t:Int)<p.rule)):=rfl
 have hall:((nowN p (endF t.ends)).all fun (k:Nat)=>provedB (nd p need) k t)=!(((nowN p (endF t.ends)).map fun (n:Nat)=>(n:Int)).any fun x=>!(pmN (nd p need) t p.trials.length).testBit x.toNat):=by
  rw[Bool.eq_iff_iff]
  simp only[List.all_eq_true,Bool.not_eq_true',List.any_eq_false,List.mem_map]
  constructor
  ·rintro h x ⟨n,hn,rfl⟩
   have h1:=h n hn
   rw[← hbit n hn] at h1
   simp[h1]
  ·intro h n hn
   have:=h n ⟨n,hn,rfl⟩
   rw[← hbit n hn]
   simpa using this
 have hg129:=good129 hK ((nowN p (endF t.ends)).map fun (n:Nat)=>(n:Int)) 128 [] [.ptr [.int .u64 (pmN (nd p need) t p.trials.length)]] (fun x=>!(pmN (nd p need) t p.trials.length).testBit x.toNat) (fun x hx=>by
  obtain ⟨n,hn,rfl⟩:=List.mem_map.1 hx
  have:=hnow n hn
  simpa using good128 hK (pmN (nd p need) t p.trials.length) n (by omega) (by omega)) (by kernel_rfl) (by simpa using hnl)
 rw[hgood,hall]
 clear hall hgood
 generalize ((nowN p (endF t.ends)).map fun (n:Nat)=>(n:Int)).any (fun x=>!(pmN (nd p need) t p.trials.length).testBit x.toNat)=A at *
 simp
 refine callK_of (by simpa using hg70) (.inl rfl) ?_
 simp
 refine callK_of (by simpa using hg65) (.inl rfl) ?_
 by_cases h1:(failN (nd p need) t:Int)<p.rule
 ·simp[h1]
  refine callK_of (by simpa[Function.comp_def] using hg129) (.inr rfl) ?_
  simp
 ·simp[h1]
end
end Go.Pf

/- A file: all truths of a proof, and what is known of something that is so in some of them. -/
namespace Go.Pf
open Go Go.Ev Go.Proofs Go.RowKit
set_option maxRecDepth 8000
noncomputable def storiesV (p:Proof):List (List IV):=(endsL p.chain [] p.chain.deeds).map fun e=>storyP p (endF e)
noncomputable def loadsV (p:Proof):List (List IV):=(setsL p.machine [] p.machine.levers).map fun s=>[.sl 2 (loadsL p s)]
def prC (p:Proof):List IV:=[deedsV p.chain.deeds,sightsV p.chain.sights,.int .i64 p.chain.wrong,leversV p.machine.levers,.int .i64 p.machine.water,.int .i64 p.machine.llo,.int .i64 p.machine.lhi,balsV p.machine.bals,.int .i64 p.machine.wrong,
 trialsV p.trials,.int .i64 p.need,.int .i64 p.rule]
noncomputable def fileC (p:Proof):List IV:=prC p++[.sl 3 (storiesV p),.sl 1 (loadsV p)]
def itemT (p:Proof) (t:Truth):List IV:=[.agg (truthV p t)]
section
variable {K:World→Prop} (hK:∀ w w',K w→Below w.heap.size w w'→K w')
include hK
theorem iter64 (p:Proof) (hE:(endsL p.chain [] p.chain.deeds).length≤1000000) (hS:(setsL p.machine [] p.machine.levers).length≤1000000):IterX Tryz.prog K 64 [.ptr (fileC p)] [] ((knownL p).map (itemT p)):=by
 intro s b s' hf
 refine goodx_of_wp c64_ok (by simp) hf.v rfl ?_
 unfold knownL at hf
 have hfile:fileC p=prC p++[.sl 3 ((endsL p.chain [] p.chain.deeds).map fun e=>storyP p (endF e)),.sl 1 ((setsL p.machine [] p.machine.levers).map fun s=>[.sl 2 (loadsL p s)])]:=rfl
 rw[hfile]
 generalize endsL p.chain [] p.chain.deeds=E at *
 generalize setsL p.machine [] p.machine.levers=S at *
 obtain ⟨c0,c1,c2,c3,c4,c5,c6,c7,c8,c9,c10,c11,hpr⟩:∃ c0 c1 c2 c3 c4 c5 c6 c7 c8 c9 c10 c11,prC p=[c0,c1,c2,c3,c4,c5,c6,c7,c8,c9,c10,c11]:=⟨_,_,_,_,_,_,_,_,_,_,_,_,rfl⟩
 rw[hpr]
 rw[List.map_flatMap] at hf
 simp only[List.map_map] at hf
 simp
 intro _
 refine loop_i E.length (fun i e o=>∃ si,e=[(0,AV.iv (.ptr [c0,c1,c2,c3,c4,c5,c6,c7,c8,c9,c10,c11,.sl 3 (E.map fun e=>storyP p (endF e)),.sl 1 (S.map fun s=>[.sl 2 (loadsL p s)])])),(1,AV.cb 0),(11,.iv (.sl 3 (E.map fun e=>storyP p (endF e)))),(12,.iv (.int .i64 E.length)),(13,.iv (.int .i64 (i:Nat)))]∧o=[(0,.ext si)] ∧
  Feeds Tryz.prog K ((E.drop i).flatMap fun e=>S.map (itemT p∘fun s=>⟨e,s⟩)) si b s') ?_ ?_ _ _ ⟨s,by simp,by simp,by simpa using hf⟩
 ·rintro e o ⟨si,rfl,rfl,hfd⟩
  rw[List.drop_eq_nil_of_le (Nat.le_refl _)] at hfd
  cases hfd
  rw[LoopAt_enter c64_b1.eq_1]
  simp
 ·rintro i e o hi ⟨si,rfl,rfl,hfd⟩ ih
  rw[List.drop_eq_getElem_cons hi,List.flatMap_cons] at hfd
  have hst:∃ s0 s1 s2,storyP p (endF E[i])=[s0,s1,s2]:=⟨_,_,_,rfl⟩
  obtain ⟨s0,s1,s2,hst⟩:=hst
  rw[LoopAt_enter c64_b1.eq_1]
  simp[hi,hst]
  intros
  refine loop_i S.length (fun j e o=>∃ sj,e=[(0,AV.iv (.ptr [c0,c1,c2,c3,c4,c5,c6,c7,c8,c9,c10,c11,.sl 3 (E.map fun e=>storyP p (endF e)),.sl 1 (S.map fun s=>[.sl 2 (loadsL p s)])])),(1,AV.cb 0),(5,.loc 5 0),(11,.iv (.sl 3 (E.map fun e=>storyP p (endF e)))),(12,.iv (.int .i64 E.length)),(13,.iv (.int .i64 (i:Nat))),
    (20,.iv (.sl 1 (S.map fun s=>[.sl 2 (loadsL p s)]))),(21,.iv (.int .i64 S.length)),(22,.iv (.int .i64 (j:Nat)))]∧o=[(0,.ext sj),(5,.box [.iv s0,.iv s1,.iv s2])] ∧
   Feeds Tryz.prog K ((S.drop j).map (itemT p∘fun s=>⟨E[i],s⟩)++(E.drop (i+1)).flatMap fun e=>S.map (itemT p∘fun s=>⟨e,s⟩)) sj b s') ?_ ?_ _ _ ⟨si,by simp,by simp,by simpa using hfd⟩
  ·rintro e o ⟨sj,rfl,rfl,hfj⟩
   rw[List.drop_eq_nil_of_le (Nat.le_refl _)] at hfj
   rw[LoopAt_enter c64_b0.eq_1]
   simp
   (repeat' first | omega | (with_reducible apply And.intro) | intro _)
   exact ih _ _ ⟨sj,by simp,by simp,by simpa using hfj⟩
  ·rintro j e o hj ⟨sj,rfl,rfl,hfj⟩ ihj
   rw[List.drop_eq_getElem_cons hj,List.map_cons,List.cons_append] at hfj
   have hitem:(itemT p∘fun s=>(⟨E[i],s⟩:Truth)) S[j]=[.agg [s0,s1,s2,.sl 2 (loadsL p S[j])]]:=by
    simp[itemT,truthV,hst]
   rw[hitem] at hfj
   rw[LoopAt_enter c64_b0.eq_1]
   simp[hj]
   cases hfj with
   | stop _ _ _ _ hg =>
     refine callB_of (by simpa using hg) rfl ?_
     simp
   | next _ _ _ s3 _ _ hg hr =>
     refine callB_of (by simpa using hg) rfl ?_
     simp
     (repeat' first | omega | (with_reducible apply And.intro) | intro _)
     exact ihj _ _ ⟨s3,by simp,by simp,hr⟩
theorem good75 (p:Proof) (hE:(endsL p.chain [] p.chain.deeds).length≤1000000) (hS:(setsL p.machine [] p.machine.levers).length≤1000000) (hT:(knownL p).length≤1000000000)
  (g:FuncId) (fs cs:List IV) (B:Truth→Bool) (hg:∀ t∈knownL p,Ev.Good Tryz.prog K g (fs++[.agg (truthV p t)]++cs) (.bool (B t))) (hc:callee Tryz.prog g=true) :
  Ev.Good Tryz.prog K 75 [.ptr (fileC p),.clo g fs cs] (.int .i64 (toldN ((knownL p).countP B) (knownL p).length)):=by
 refine good_of_wp hK c75_ok (by simp) ?_
 have hit:=iter64 hK p hE hS
 generalize fileC p=F at *
 generalize knownL p=T at *
 simp
 refine Wp_range (wy:=.fall) (o':=[(5,.box [.iv (.int .i64 (T.countP B:Nat))]),(6,.box [.iv (.int .i64 (T.countP (fun t=>!B t):Nat))])]) rfl (by kernel_rfl) hit ?_ ?_
 ·have:=Rnds.all (P:=Tryz.prog) (K:=K) (ps:=[10]) (asn:=c75_b0a) (body:=c75_b0) (ks:=[3,5,6]) (ids:=[5,6]) (eK:=[(3,.iv (.ptr [.clo g fs cs])),(5,.loc 5 0),(6,.loc 6 0)]) (T.map (itemT p))
   (fun i=>[(5,.box [.iv (.int .i64 ((T.take i).countP B:Nat))]),(6,.box [.iv (.int .i64 ((T.take i).countP (fun t=>!B t):Nat))])]) fun i x hx=>by
   simp only[List.getElem?_map,Option.map_eq_some_iff] at hx
   obtain ⟨t,ht,rfl⟩:=hx
   obtain ⟨hlt,hget⟩:=List.getElem?_eq_some_iff.1 ht
   have hgt:=hg t (List.mem_of_getElem? ht)
   have hl1:(T.take i).countP B≤1000000000:=Nat.le_trans List.countP_le_length (by simp;omega)
   have hl2:(T.take i).countP (fun t=>!B t)≤1000000000:=Nat.le_trans List.countP_le_length (by simp;omega)
   refine ⟨rfl,?_⟩
   rw[List.take_succ_eq_append_getElem hlt,List.countP_append,List.countP_append,hget]
   obtain ⟨v0,v1,v2,v3,hv⟩:∃ v0 v1 v2 v3,truthV p t=[v0,v1,v2,v3]:=⟨_,_,_,_,rfl⟩
   rw[hv] at hgt
   simp[itemT,hv,c75_b0a,c75_b0]
   refine ⟨hc,callK_of (by simpa using hgt) (.inl rfl) ?_⟩
   cases hb:B t
   ·simp[hb]
    omega
   ·simp[hb]
    omega
  simpa using this
 ·have hsum:T.countP B+T.countP (fun t=>!B t)=T.length:=by
   have:=List.length_eq_countP_add_countP B (l:=T)
   simp at this
   omega
  have htold:toldN (T.countP B:Nat) T.length=if T.countP (fun t=>!B t)=0 then 1 else if T.countP B=0 then 2 else 3:=by
   unfold toldN
   by_cases h1:T.countP (fun t=>!B t)=0
   ·rw[if_pos h1,if_pos (by omega)]
   ·rw[if_neg h1,if_neg (by omega)]
    by_cases h2:T.countP B=0
    ·rw[if_pos h2,if_pos (by omega)]
    ·rw[if_neg h2,if_neg (by omega)]
  rw[htold]
  clear htold hg hit
  generalize T.countP B=a at *
  generalize T.countP (fun t=>!B t)=d at *
  by_cases h1:d=0
  ·simp[h1]
  ·by_cases h2:a=0
   ·simp[h1,h2]
   ·simp[h1,h2]
end
end Go.Pf

/- The chains with known ends are those of the reference's ends, in the same order. -/
namespace Go.Pf
open Go Go.Ev Go.Proofs Go.RowKit
set_option maxRecDepth 8000
def core (d:Deed):Deed:=setF d 0
theorem idxs_core (p:Deed→Bool) (hp:∀ d,p (core d)=p d):∀ (ds:List Deed) (i:Nat),idxs p (ds.map core) i=idxs p ds i
 | [],_=>rfl
 | d::r,i=>by simp only[List.map_cons,idxs,hp,idxs_core p hp r]
theorem wn_core (ds:List Deed) (i:Nat):wn (ds.map core) i=wn ds i:=by
 unfold wn
 rw[← List.map_take,idxs_core isWeld fun d=>rfl]
theorem pv_core (ds:List Deed):pv (ds.map core)=pv ds:=idxs_core isProve (fun _=>rfl) ds 0
theorem welds_core (ds:List Deed):welds (ds.map core)=welds ds:=idxs_core isWeld (fun _=>rfl) ds 0
theorem cnt_core (ds:List Deed) (i:Nat):cnt (ds.map core) i=cnt ds i:=by
 unfold cnt
 rw[← List.map_take,List.map_map]
 rfl
theorem cab_core (ds:List Deed) (e:Nat→Int):∀ i,cab (ds.map core) e i=cab ds e i
 | 0=>rfl
 | i+1=>by
   have ih:=cab_core ds e i
   simp only[cab,List.getElem?_map,ih,wn_core]
   cases ds[i]?<;>rfl
theorem markD_core (ds:List Deed) (k:Nat):markD (ds.map core) k=core (markD ds k):=by
 unfold markD
 rw[welds_core]
 simp only[List.getD_eq_getElem?_getD,List.getElem?_map]
 cases ds[(welds ds)[k]?.getD 0]?<;>rfl
theorem wrongsE_core (ds:List Deed) (ss:List Sight) (e:Nat→Int):wrongsE (ds.map core) ss e=wrongsE ds ss e:=by
 unfold wrongsE
 congr 1
 funext s
 simp only[rightE,cab_core,rightC,markD_core]
 rfl
section
variable {ds ds':List Deed} (h:ds'.map core=ds.map core)
include h
theorem same_len:ds'.length=ds.length:=by simpa using congrArg List.length h
theorem same_pv:pv ds'=pv ds:=by rw[← pv_core ds',h,pv_core]
theorem same_cnt (i:Nat):cnt ds' i=cnt ds i:=by rw[← cnt_core ds',h,cnt_core]
theorem same_cab (e:Nat→Int) (i:Nat):cab ds' e i=cab ds e i:=by rw[← cab_core ds',h,cab_core]
theorem same_wrongs (ss:List Sight) (e:Nat→Int):wrongsE ds' ss e=wrongsE ds ss e:=by rw[← wrongsE_core ds',h,wrongsE_core]
theorem same_story (p:Proof) (hp:p.chain.deeds=ds) (c:Chain) (hc:c.deeds=ds') (e:Nat→Int):storyP { p with chain:=c } e=storyP p e:=by
 have h1:∀ i,thenN { p with chain:=c } i e=thenN p i e:=fun i=>by
  show cab c.deeds e ((pv c.deeds).getD i 0)=cab p.chain.deeds e ((pv p.chain.deeds).getD i 0)
  rw[hc,hp,same_pv h,same_cab h]
 have h2:nowN { p with chain:=c } e=nowN p e:=by
  show cab c.deeds e c.deeds.length=cab p.chain.deeds e p.chain.deeds.length
  rw[hc,hp,same_len h,same_cab h]
 have h3:∀ i,brokeN { p with chain:=c } i e=brokeN p i e:=fun i=>by
  unfold brokeN
  rw[h1]
  rfl
 simp only[storyP,h1,h2,h3]
end
def zipE:List Deed→List Int→List Deed
 | d::r,x::e=>setF d x::zipE r e
 | _,_=>[]
theorem zipE_core:∀ {ds:List Deed} {e:List Int},e.length=ds.length→(zipE ds e).map core=ds.map core
 | [],[],_=>rfl
 | d::r,x::e,h=>by
   have:=zipE_core (ds:=r) (e:=e) (by simpa using h)
   simp only[zipE,List.map_cons,this]
   rfl
theorem zipE_get:∀ {ds:List Deed} {e:List Int} (hl:e.length=ds.length) (i:Nat) (h:i<ds.length),(zipE ds e)[i]?=some (setF ds[i] (e[i]'(by omega)))
 | d::r,x::e,hl,0,_=>rfl
 | d::r,x::e,hl,i+1,h=>by
   have:=zipE_get (ds:=r) (e:=e) (by simpa using hl) i (by simpa using h)
   simpa[zipE] using this
theorem choices_spec:∀ {ds:List Deed} {e:List Int},e∈choices ds→e.length=ds.length∧∀ i (h:i<ds.length) (h':i<e.length),e[i]∈endsD ds[i]
 | [],e,h=>by simp[choices] at h;subst h;simp
 | d::r,e,h=>by
   simp only[choices,List.mem_flatMap,List.mem_map] at h
   obtain ⟨x,hx,e',he',rfl⟩:=h
   obtain ⟨h1,h2⟩:=choices_spec he'
   refine ⟨by simp[h1],fun i h h'=>?_⟩
   cases i with
   | zero=>exact hx
   | succ i=>exact h2 i (by simpa using h) (by simpa using h')
theorem setsD_choices:∀ {ds:List Deed},(∀ d∈ds,d.frm=0∨d.frm=1∨d.frm=2)→setsD ds=(choices ds).map (zipE ds)
 | [],_=>rfl
 | d::r,h=>by
   have ih:=setsD_choices (ds:=r) fun d hd=>h d (by simp[hd])
   have hd:=h d (by simp)
   have hself:∀ x,d.frm=x→setF d x=d:=fun x hx=>by subst hx;rfl
   rcases hd with hd | hd | hd
   ·simp[setsD,choices,endsD,hd,ih,zipE,hself 0 hd,List.map_map,Function.comp_def]
   ·simp[setsD,choices,endsD,hd,ih,zipE,hself 1 hd,List.map_map,Function.comp_def]
   ·simp[setsD,choices,endsD,hd,ih,zipE,List.map_map,Function.comp_def]
theorem endsD_mem {d:Deed} {x:Int} (h:x∈endsD d):(x=0∨x=1)∧(d.frm=2∨x=d.frm):=by
 unfold endsD at h
 rw[List.mem_append] at h
 rcases h with h | h<;>split at h
 ·simp at h;subst h;rename_i h2;omega
 ·simp at h
 ·simp at h;subst h;rename_i h2;omega
 ·simp at h
theorem OkD.frm {ds:List Deed} {n:Nat} (h:OkD ds n) (hn:ds.length≤n):∀ d∈ds,d.frm=0∨d.frm=1∨d.frm=2:=by
 intro d hd
 obtain ⟨i,hi,rfl⟩:=List.getElem_of_mem hd
 have:=h i hi (by omega)
 rcases this with ⟨_,h2,_⟩ | ⟨_,h2,_⟩ | ⟨_,_,h2,_⟩
 ·simp only[inR] at h2;omega
 ·simp only[inR] at h2;omega
 ·omega
section
variable {c:Chain} (hc:OkC c) {e:List Int} (he:e∈choices c.deeds)
include hc he
theorem zip_len:(zipE c.deeds e).length=c.deeds.length:=same_len (zipE_core (choices_spec he).1)
theorem zip_get (i:Nat) (h:i<c.deeds.length):∃ x,(zipE c.deeds e)[i]?=some (setF c.deeds[i] x)∧(x=0∨x=1)∧(c.deeds[i].frm=2∨x=c.deeds[i].frm)∧endF e i=x:=by
 obtain ⟨h1,h2⟩:=choices_spec he
 have h3:=endsD_mem (h2 i h (by omega))
 refine ⟨e[i]'(by omega),zipE_get h1 i h,h3.1,h3.2,?_⟩
 simp[endF,List.getD_eq_getElem?_getD,List.getElem?_eq_getElem (show i<e.length by omega)]
theorem zip_okD:OkD (zipE c.deeds e) (zipE c.deeds e).length:=by
 intro i h _
 have hlen:=zip_len hc he
 have hi:i<c.deeds.length:=by omega
 obtain ⟨x,h1,h2,h3,_⟩:=zip_get hc he i hi
 rw[List.getElem?_eq_getElem h] at h1
 injection h1 with h1
 rw[h1,same_cnt (zipE_core (choices_spec he).1)]
 rcases hc.deeds i hi hi with ⟨a1,a2,a3⟩ | ⟨a1,a2,a3⟩ | ⟨a1,a2,a3,a4⟩
 ·exact .inl ⟨a1,by simp only[inR,setF];omega,a3⟩
 ·exact .inr (.inl ⟨a1,by simp only[inR,setF];omega,a3⟩)
 ·exact .inr (.inr ⟨a1,a2,by simp only[setF];omega,a4⟩)
theorem zip_okC:OkC { c with deeds:=zipE c.deeds e }:=by
 have hlen:=zip_len hc he
 refine ⟨by simp only[hlen];exact hc.len,hc.slen,hc.wrong,zip_okD hc he,fun s hs=>?_⟩
 have:=hc.sights s hs
 unfold isSightS at *
 simp only[hlen,same_cnt (zipE_core (choices_spec he).1)]
 exact this
theorem zip_twos:twos (zipE c.deeds e)=0:=by
 rw[twos,List.countP_eq_zero]
 intro d hd
 obtain ⟨i,hi,rfl⟩:=List.getElem_of_mem hd
 have hlen:=zip_len hc he
 obtain ⟨x,h1,h2,_⟩:=zip_get hc he i (by omega)
 rw[List.getElem?_eq_getElem hi] at h1
 injection h1 with h1
 have h3:¬ x=2:=by omega
 rw[h1]
 simp[setF,h3]
theorem zip_eBit:eBit (zipE c.deeds e) 0=endF e:=by
 funext i
 have hlen:=zip_len hc he
 unfold eBit
 rcases Nat.lt_or_ge i c.deeds.length with h | h
 ·obtain ⟨x,h1,h2,_,h4⟩:=zip_get hc he i h
  have h5:¬ (setF c.deeds[i] x).frm=2:=by show ¬ x=2;omega
  rw[h1,h4]
  simp only
  rw[if_neg h5]
  rfl
 ·rw[List.getElem?_eq_none (by omega)]
  have:=(choices_spec he).1
  simp[endF,List.getD_eq_getElem?_getD,List.getElem?_eq_none (show e.length≤i by omega)]
theorem zip_isCh:isCh c.deeds e:=by
 obtain ⟨h1,h2⟩:=choices_spec he
 refine ⟨h1,fun i h h'=>?_⟩
 have h3:=endsD_mem (h2 i h h')
 simp only[inR]
 omega
theorem zip_ask:askE { c with deeds:=zipE c.deeds e } true=0↔isTr c e:=by
 have h1:=zip_okC hc he
 have h2:rightN { c with deeds:=zipE c.deeds e }=if (wrongsE c.deeds c.sights (endF e):Int)≤c.wrong then [0] else []:=by
  have hw:=same_wrongs (zipE_core (choices_spec he).1) c.sights (endF e)
  unfold rightN
  simp only[zip_twos hc he,zip_eBit hc he,Nat.pow_zero]
  rw[show List.range 1=[0] from rfl]
  by_cases h:(wrongsE c.deeds c.sights (endF e):Int)≤c.wrong
  ·rw[if_pos h,List.filter_cons_of_pos (by simpa[zip_eBit hc he,hw] using h)];rfl
  ·rw[if_neg h,List.filter_cons_of_neg (by simpa[zip_eBit hc he,hw] using h)];rfl
 unfold askE isTr
 rw[if_pos h1,if_pos rfl,h2]
 have:=zip_isCh hc he
 by_cases h:(wrongsE c.deeds c.sights (endF e):Int)≤c.wrong<;>simp[h,this]
end
theorem known_ends (c:Chain) (hc:OkC c):knownC c=(endsL c [] c.deeds).map fun e=>{ c with deeds:=zipE c.deeds e }:=by
 unfold knownC endsL
 rw[setsD_choices (hc.deeds.frm (Nat.le_refl _)),List.map_map,List.filter_map]
 have e1:((choices c.deeds).map fun x=>[]++x)=choices c.deeds:=by simp
 rw[e1]
 congr 1
 refine List.filter_congr fun e he=>?_
 simp only[Function.comp_apply]
 rw[Bool.eq_iff_iff]
 simpa using zip_ask hc he
theorem known_stories (p:Proof) (hc:OkC p.chain):(knownC p.chain).map (fun c'=>storyP { p with chain:=c' } (eBit c'.deeds 0))=storiesV p:=by
 unfold storiesV
 rw[known_ends _ hc,List.map_map]
 refine List.map_congr_left fun e he=>?_
 have he':e∈choices p.chain.deeds:=by
  simp only[endsL,List.mem_filter] at he
  simpa using he.1
 simp only[Function.comp_apply]
 rw[zip_eBit hc he']
 exact same_story (zipE_core (choices_spec he').1) p rfl _ rfl _
end Go.Pf

/- The machines with known arms and leaks are the reference's settings, in the same order. -/
namespace Go.Pf
open Go Go.Ev Go.Proofs Go.RowKit
set_option maxRecDepth 8000
def zipA:List Lever→List Int→List Lever
 | l::r,x::e=>setA l x::zipA r e
 | l,[]=>l
 | [],_=>[]
theorem zipA_nil (ls:List Lever):zipA ls []=ls:=by cases ls<;>rfl
theorem zipA_len:∀ (ls:List Lever) (e:List Int),(zipA ls e).length=ls.length
 | [],[]=>rfl
 | [],_::_=>rfl
 | _::_,[]=>rfl
 | l::r,x::e=>by simp[zipA,zipA_len r e]
theorem zipA_snoc:∀ (ls:List Lever) (e:List Int) (n:Int) (h:e.length<ls.length),zipA ls (e++[n])=(zipA ls e).set e.length (setA ls[e.length] n)
 | l::r,[],n,_=>by simp[zipA,zipA_nil]
 | l::r,x::e,n,h=>by
   have:=zipA_snoc r e n (by simpa using h)
   simp[zipA,this]
theorem zipA_after:∀ (ls:List Lever) (e:List Int) (h:e.length<ls.length),(zipA ls e)[e.length]?=some ls[e.length]
 | l::r,[],_=>by simp[zipA_nil]
 | l::r,x::e,h=>by
   have:=zipA_after r e (by simpa using h)
   simpa[zipA] using this
def machS (m:Machine) (s:Setting):Machine:={ m with levers:=zipA m.levers s.shorts,llo:=s.leak,lhi:=s.leak }
def machF (m:Machine) (first:List Int):Machine:={ m with levers:=zipA m.levers first }
theorem above_zip:∀ (ls:List Lever) (e:List Int),prodF (·.long) (zipA ls e)=prodF (·.long) ls
 | [],[]=>rfl
 | [],_::_=>rfl
 | _::_,[]=>rfl
 | l::r,x::e=>by simp only[zipA,prodF,above_zip r e];rfl
theorem num_mach (m:Machine) (s s':Setting) (w mn:Int):num (machS m s) s' w mn=num m s' w mn:=by
 unfold num above
 rw[show (machS m s).levers=zipA m.levers s.shorts from rfl,above_zip]
 rfl
theorem wrongs_mach (m:Machine) (s s':Setting):wrongsS (machS m s) m.bals s'=wrongsS m m.bals s':=by
 unfold wrongsS
 congr 1
 funext b
 simp only[rightS,num_mach]
theorem shortsAll_zip:∀ (ls:List Lever) (e:List Int),e.length=ls.length→shortsAll (zipA ls e)=[e]
 | [],[],_=>rfl
 | l::r,x::e,h=>by
   have ih:=shortsAll_zip r e (by simpa using h)
   have h1:(setA l x).hi+1-(setA l x).lo=1:=by simp only[setA];omega
   simp only[zipA,shortsAll,ih,h1]
   simp[acc,setA]
theorem okS_get {m:Machine} {s:Setting} (h:okS m s) (i:Nat) (hi:i<m.levers.length):(zipA m.levers s.shorts)[i]?=some (setA m.levers[i] (s.shorts[i]'(by rw[h.1];exact hi))):=by
 have:∀ (ls:List Lever) (e:List Int) (i:Nat) (h1:e.length=ls.length) (hi:i<ls.length),(zipA ls e)[i]?=some (setA ls[i] (e[i]'(by omega))):=by
  intro ls
  induction ls with
  | nil=>intro e i h1 hi;simp at hi
  | cons l r ih =>
    intro e i h1 hi
    cases e with
    | nil=>simp at h1
    | cons x e =>
      cases i with
      | zero=>simp[zipA]
      | succ i=>simpa[zipA] using ih e i (by simpa using h1) (by simpa using hi)
 exact this _ _ i h.1 hi
theorem okS_mach {m:Machine} {s:Setting} (h:okS m s):okS (machS m s) s:=by
 refine ⟨by simp only[machS,zipA_len];exact h.1,by simp[machS,inR],fun i h1 h2=>?_⟩
 have hi:i<m.levers.length:=by simpa[machS,zipA_len] using h1
 have:=okS_get h i hi
 have h3:(machS m s).levers[i]=setA m.levers[i] (s.shorts[i]'(by rw[h.1];exact hi)):=by
  rw[show (machS m s).levers=zipA m.levers s.shorts from rfl] at h1
  rw[List.getElem?_eq_getElem h1] at this
  injection this
 rw[h3]
 simp[setA,inR]
theorem badLever_iff (l:Lever):badLever l=false↔inR l.long 1 1000∧inR l.lo 1 l.hi∧l.hi≤1000:=by
 unfold badLever
 by_cases h1:inR l.long 1 1000<;>by_cases h2:inR l.lo 1 l.hi<;>by_cases h3:l.hi≤1000<;>simp[h1,h2,h3]
theorem okM_mach {m:Machine} (hm:OkM m) {s:Setting} (h:okS m s):OkM (machS m s):=by
 have h2:=h.2.1
 have h3:=hm.leak
 have h4:=hm.lhi
 simp only[inR] at h2 h3
 refine ⟨by simp only[machS,zipA_len];exact hm.len,fun l hl=>?_,hm.water,by simp only[machS,inR];omega,by simp only[machS];omega,hm.blen,hm.bals,hm.wrong⟩
 obtain ⟨i,hi,rfl⟩:=List.getElem_of_mem hl
 have hi':i<m.levers.length:=by simpa[machS,zipA_len] using hi
 have h5:=okS_get h i hi'
 have h6:(machS m s).levers[i]=setA m.levers[i] (s.shorts[i]'(by rw[h.1];exact hi')):=by
  rw[show (machS m s).levers=zipA m.levers s.shorts from rfl] at hi
  rw[List.getElem?_eq_getElem hi] at h5
  injection h5
 have h7:=h.2.2 i hi' (by rw[h.1];exact hi')
 have h8:=hm.levers _ (List.getElem_mem hi')
 rw[h6]
 rw[badLever_iff] at h8 ⊢
 simp only[inR,setA] at h7 h8 ⊢
 omega
theorem setsL_mach {m:Machine} {s:Setting} (h:okS m s):setsL (machS m s) [] (machS m s).levers=if (wrongsS m m.bals s:Int)≤m.wrong then [s] else []:=by
 have h1:setsAll (machS m s) [] (machS m s).levers=[s]:=by
  unfold setsAll
  rw[show (machS m s).levers=zipA m.levers s.shorts from rfl,shortsAll_zip _ _ h.1]
  have:((machS m s).lhi+1-(machS m s).llo).toNat=1:=by simp only[machS];omega
  rw[this]
  simp[machS]
 unfold setsL
 rw[h1]
 have h2:isSet (machS m s) s↔(wrongsS m m.bals s:Int)≤m.wrong:=by
  unfold isSet
  rw[show (machS m s).bals=m.bals from rfl,wrongs_mach]
  exact ⟨fun h=>h.2,fun h'=>⟨okS_mach h,h'⟩⟩
 by_cases h3:(wrongsS m m.bals s:Int)≤m.wrong
 ·simp[h2,h3]
 ·simp[h2,h3]
theorem tE_mach {m:Machine} (hm:OkM m) {s:Setting} (h:okS m s):tE (machS m s) true=0↔isSet m s:=by
 unfold tE
 rw[if_pos (okM_mach hm h),if_pos rfl,setsL_mach h]
 unfold isSet
 by_cases h3:(wrongsS m m.bals s:Int)≤m.wrong<;>simp[h,h3]
theorem acc_map {α β:Type} (f:α→β) (pc:Nat→List α) (n:Nat):(acc pc n).map f=acc (fun i=>(pc i).map f) n:=by simp[acc,List.map_flatMap]
theorem acc_congr {α:Type} {pc pc':Nat→List α} {n:Nat} (h:∀ i<n,pc i=pc' i):acc pc n=acc pc' n:=by
 induction n with
 | zero=>rfl
 | succ n ih=>rw[acc_succ,acc_succ,ih fun i hi=>h i (by omega),h n (by omega)]
theorem exact_sets {m:Machine} (hm:OkM m):∀ (r k:Nat) (first:List Int),k+r=m.levers.length→first.length=k→(∀ i (h:i<m.levers.length) (h':i<first.length),inR first[i] m.levers[i].lo m.levers[i].hi) →
  exactL r (machF m first) k=(setsL m first (m.levers.drop k)).map (machS m)
 | 0,k,first,hk,hf,hr=>by
   have hd:m.levers.drop k=[]:=List.drop_eq_nil_of_le (by omega)
   have h1:setsL m first (m.levers.drop k)=acc (fun i=>if isSet m ⟨first,m.llo+(i:Nat)⟩ then [⟨first,m.llo+(i:Nat)⟩] else []) (m.lhi+1-m.llo).toNat:=by
    rw[hd]
    simp only[setsL,setsAll,shortsAll,List.flatMap_cons,List.flatMap_nil,List.append_nil,acc]
    generalize (m.lhi+1-m.llo).toNat=n
    generalize List.range n=L
    induction L with
    | nil=>rfl
    | cons a L ih =>
      rw[List.map_cons,List.flatMap_cons,← ih]
      by_cases h:isSet m ⟨first,m.llo+(a:Nat)⟩
      ·rw[List.filter_cons_of_pos (by simpa using h),if_pos h];rfl
      ·rw[List.filter_cons_of_neg (by simpa using h),if_neg h];rfl
   rw[h1,acc_map]
   simp only[exactL]
   refine acc_congr fun i hi=>?_
   have hleak:inR (m.llo+(i:Nat)) m.llo m.lhi:=by
    have hi':i<(m.lhi+1-m.llo).toNat:=hi
    simp only[inR];omega
   have hok:okS m ⟨first,m.llo+(i:Nat)⟩:=⟨by simp only;omega,hleak,hr⟩
   have hmach:fixLeak (machF m first) ((machF m first).llo+(i:Nat))=machS m ⟨first,m.llo+(i:Nat)⟩:=rfl
   unfold pieceX
   rw[hmach]
   have:=tE_mach hm hok
   by_cases h:isSet m ⟨first,m.llo+(i:Nat)⟩
   ·rw[if_pos (this.2 h),if_pos h];rfl
   ·rw[if_neg (fun c=>h (this.1 c)),if_neg h];rfl
 | r+1,k,first,hk,hf,hr=>by
   have hlt:k<m.levers.length:=by omega
   have hget:(machF m first).levers[k]?=some m.levers[k]:=by
    have:=zipA_after m.levers first (by omega)
    simp only[hf] at this
    exact this
   rw[List.drop_eq_getElem_cons hlt,setsL_cons,acc_map]
   simp only[exactL,hget]
   refine acc_congr fun i hi=>?_
   have hfix:fixArm (machF m first) k m.levers[k] (m.levers[k].lo+(i:Nat))=machF m (first++[m.levers[k].lo+(i:Nat)]):=by
    unfold fixArm machF
    rw[zipA_snoc m.levers first _ (by omega)]
    simp only[hf]
   rw[hfix]
   refine exact_sets hm r (k+1) (first++[m.levers[k].lo+(i:Nat)]) (by omega) (by simp[hf]) fun j h h'=>?_
   rcases Nat.lt_or_ge j first.length with hj | hj
   ·rw[List.getElem_append_left hj]
    exact hr j h hj
   ·have hjk:j=k:=by simp at h';omega
    subst hjk
    rw[List.getElem_append_right hj]
    simp only[hf,Nat.sub_self,List.getElem_cons_zero,inR]
    omega
theorem exact_all {m:Machine} (hm:OkM m):exactL m.levers.length m 0=(setsL m [] m.levers).map (machS m):=by
 have:=exact_sets hm m.levers.length 0 [] (by omega) rfl (by simp)
 have e:machF m []=m:=by unfold machF;rw[zipA_nil]
 rw[e] at this
 simpa using this
theorem rLoad_mach {m:Machine} (hm:OkM m) {s:Setting} (h:isSet m s) {w mn:Int} (ha:askB w mn 0=true):rLoad (machS m s) w mn=(lowS m w mn s,upS m w mn s):=by
 unfold rLoad tL
 rw[ha,if_pos ⟨okM_mach hm h.1,rfl⟩,setsL_mach h.1,if_pos h.2]
 simp only[List.map_cons,List.map_nil,span,List.foldl_nil,lowS,upS,num_mach]
theorem tame_of {m:Machine} (hm:OkM m) (hs:sets m m.levers.length≤1000000):Tame m:=by
 have hl:∀ l∈m.levers,1≤l.lo∧l.lo≤l.hi∧l.hi≤1000:=fun l hl=>by
  have:=(badLever_iff l).1 (hm.levers l hl)
  simp only[inR] at this
  omega
 exact ⟨hm.len,hm.blen,hm.leak,hm.lhi,fun l h=>by have:=hl l h;simp only[spanL];omega,fun l h=>by have:=hl l h;omega,hs⟩
end Go.Pf

/- open: the file of a proof. -/
namespace Go.Pf
open Go Go.Ev Go.Proofs Go.RowKit
set_option maxRecDepth 8000
@[reducible] def fileO (p:Proof) (SS LL:List (List IV)):Objs :=
 [(0,.box [.loc 1 0]),(1,.box ((prC p).map AV.iv++[.aref 2 SS.length,.aref 3 LL.length])),(2,.arr 97 3 (emb SS) 0),(3,.arr 98 1 (emb LL) 0)]
def EndB (pe:List (Nat × Nat × Nat)) (o1:Objs):Env→Objs→Prop:=EndH [ARes.tmp 4] [0,1,2,3] pe (.iv (.bool true)) o1
theorem endB_of (p:Proof) (SS LL:List (List IV)) {s:Nat} {e:Env} {o:Objs} (h1:Ev.look e 4=.iv (.bool true)) (h2:Ev.look e s=.loc 0 0) (h3:∀ q∈fileO p SS LL,lookO o q.1=some q.2):EndB [(s,0,0)] (fileO p SS LL) e o:=by
 refine ⟨⟨.iv (.bool true),?_,rfl⟩,fun q hq=>?_,fun q hq=>?_⟩
 ·simp[retH,retA,h1]
 ·have:=h3 q hq
  simp only[List.mem_cons,List.not_mem_nil,or_false] at hq
  rcases hq with rfl | rfl | rfl | rfl
  ·exact this
  ·refine this.trans ?_
   simp[rnO,rnL,rn,prC,nth]
  ·rw[rnO_emb];exact this
  ·rw[rnO_emb];exact this
 ·simp only[List.mem_cons,List.not_mem_nil,or_false] at hq
  subst hq
  exact h2
theorem fileO_ok (p:Proof) (SS LL:List (List IV)):∀ q∈fileO p SS LL,q.1<4∧noExt q.2=true∧clO ((fileO p SS LL).map (·.1)) q.2=true:=by
 intro q hq
 simp only[List.mem_cons,List.not_mem_nil,or_false] at hq
 rcases hq with rfl | rfl | rfl | rfl
 ·exact ⟨by show (_:Nat)<4;omega,rfl,by simp[clO,clAL,clA]⟩
 ·exact ⟨by show (_:Nat)<4;omega,rfl,by simp[clO,clAL,clA,prC]⟩
 ·exact ⟨by show (_:Nat)<4;omega,rfl,clO_emb _ _ _ _ _⟩
 ·exact ⟨by show (_:Nat)<4;omega,rfl,clO_emb _ _ _ _ _⟩
section
variable {K:World→Prop} (hK:∀ w w',K w→Below w.heap.size w w'→K w')
include hK
omit hK in
theorem c124_okP:FnOkP Tryz.prog 124 c124 [1]:=⟨_,Tryz.func124,by kernel_rfl⟩
omit hK in
theorem c127_okP:FnOkP Tryz.prog 127 c127 [2]:=⟨_,Tryz.func127,by kernel_rfl⟩
theorem goodh124 (p:Proof) (c:Chain) (s0 s1 s2:IV) (SS LL:List (List IV)) (hn:SS.length≤1000000) (hg:Ev.Good Tryz.prog K 125 [chV c,trialsV p.trials] (.agg [s0,s1,s2])) :
  GoodH Tryz.prog K 124 [.iv (chV c),.loc 0 0,.iv (.ptr (prC p))] (fileO p SS LL) [0] (.iv (.bool true)) (fileO p (SS++[[s0,s1,s2]]) LL):=by
 refine goodh_of_wp [0,1,2,3] [0] [1] [(1,0,0)] c124_okP (by simp[c124]) (by simp) ?_ ?_ ?_ ?_
 ·exact fileO_ok p _ _
 ·simp[clA]
 ·simp[nth,lookO]
  exact ⟨1,0,⟨rfl,rfl⟩,rfl,rfl⟩
 ·show WpF _ _ (FnF (EndB [(1,0,0)] (fileO p (SS++[[s0,s1,s2]]) LL))) _ _ _
  simp[prC]
  refine callK_of (by simpa using hg) (.inl rfl) ?_
  simp[prC,-List.map_map,emb_fold,emb_emb,emb_nil,ivss_embA]
  refine ⟨by omega,endB_of p _ _ rfl rfl fun q hq=>?_⟩
  simp only[List.mem_cons,List.not_mem_nil,or_false] at hq
  rcases hq with rfl | rfl | rfl | rfl<;>simp[lookO,prC]
def rowL (p:Proof) (lo up:Nat→Int):List IV:=[.sl 2 ((List.range p.trials.length).map fun i=>[.int .i64 (lo i),.int .i64 (up i)])]
theorem goodh127 (p:Proof) (m:Machine) (hl:m.levers.length≤1000) (hb:m.bals.length≤1000) (ht:p.trials.length≤1000) (lo up:Nat→Int) (hr:∀ i,i<p.trials.length→rLoad m (tr p i).weight (tr p i).mins=(lo i,up i)) (SS LL:List (List IV)) (hn:LL.length≤1000000) :
  GoodH Tryz.prog K 127 [.iv (maV m),.iv (.ptr (prC p)),.loc 0 0] (fileO p SS LL) [0] (.iv (.bool true)) (fileO p SS (LL++[rowL p lo up])):=by
 refine goodh_of_wp [0,1,2,3] [0] [2] [(2,0,0)] c127_okP (by simp[c127]) (by simp) ?_ ?_ ?_ ?_
 ·exact fileO_ok p _ _
 ·simp[clA]
 ·simp[nth,lookO]
  exact ⟨2,0,⟨rfl,rfl⟩,rfl,rfl⟩
 ·show WpF _ _ (FnF (EndB [(2,0,0)] (fileO p SS (LL++[rowL p lo up])))) _ _ _
  generalize hG:fileO p SS (LL++[rowL p lo up])=G
  simp[prC]
  intro _
  refine loop_q (fun i=>[(2,AV.loc 0 0),(3,.iv (.ptr [leversV m.levers,.int .i64 m.water,.int .i64 m.llo,.int .i64 m.lhi,balsV m.bals,.int .i64 m.wrong])),(5,.aref 5 i),(11,.iv (trialsV p.trials)),(12,.iv (.int .i64 p.trials.length)),(13,.iv (.int .i64 (i:Nat)))])
   (fun i=>[(0,.box [.loc 1 0]),(1,.box ((prC p).map AV.iv++[.aref 2 SS.length,.aref 3 LL.length])),(2,.arr 97 3 (emb SS) 0),(3,.arr 98 1 (emb LL) 0),(5,.arr 28 2 (emb ((List.range i).map fun i=>[.int .i64 (lo i),.int .i64 (up i)])) 0)]) p.trials.length (fun _=>True) trivial ?_ ?_
  ·intro _
   rw[LoopAt_enter c127_b0.eq_1]
   simp[prC,-List.map_map,emb_fold,emb_emb,emb_nil,ivss_embA,List.take_of_length_le]
   rw[← hG]
   refine ⟨by omega,endB_of p _ _ rfl rfl fun q hq=>?_⟩
   simp only[List.mem_cons,List.not_mem_nil,or_false] at hq
   rcases hq with rfl | rfl | rfl | rfl<;>simp[lookO,prC,rowL]
  ·intro i hi _ ih
   have hg:=good115 hK m (tr p i).weight (tr p i).mins hl hb
   rw[hr i hi] at hg
   have htr:=tr_get hi
   rw[LoopAt_enter c127_b0.eq_1]
   rw[List.range_succ,List.map_append] at ih
   simp at ih
   simp[hi,htr,-List.map_map,emb_fold,emb_emb,emb_nil,ivss_embA]
   refine callK_of (by simpa using hg) (.inl rfl) ?_
   have hsc:scrL [0,1,2,3,5] ((prC p).map AV.iv++[.aref 2 SS.length,.aref 3 LL.length])=(prC p).map AV.iv++[.aref 2 SS.length,.aref 3 LL.length]:=by simp[prC,scrL,scr]
   simp[hsc,-List.map_map,emb_fold,emb_emb,emb_nil,ivss_embA]
   (repeat' first | omega | (with_reducible apply And.intro) | intro _)
omit hK in
theorem okP_zip {p:Proof} (hp:OkP p) {c:Chain} (hc:c∈knownC p.chain):OkP { p with chain:=c }∧twos c.deeds=0:=by
 rw[known_ends _ hp.chain] at hc
 obtain ⟨e,he,rfl⟩:=List.mem_map.1 hc
 have he':e∈choices p.chain.deeds:=by
  simp only[endsL,List.mem_filter] at he
  simpa using he.1
 have hcore:=zipE_core (choices_spec he').1
 refine ⟨⟨zip_okC hp.chain he',hp.machine,hp.need,hp.rule,?_,fun i h h'=>?_⟩,zip_twos hp.chain he'⟩
 ·simp only[same_pv hcore];exact hp.many
 ·simp only[same_pv hcore] at h
  have:=hp.trials i h h'
  simp only[same_pv hcore,same_cnt hcore]
  exact this
theorem rounds124 (p:Proof) (hp:OkP p):∀ (L:List Chain) (SS LL:List (List IV)),(∀ c∈L,c∈knownC p.chain)→SS.length+L.length≤1000000 →
  HRounds Tryz.prog K 124 [] [.loc 0 0,.iv (.ptr (prC p))] [0] (L.map itemC) (fileO p SS LL) true (fileO p (SS++L.map fun c'=>storyP { p with chain:=c' } (eBit c'.deeds 0)) LL)
 | [],SS,LL,_,_=>by simpa using HRounds.nil _
 | c::L,SS,LL,h,hn=>by
   have hc:=okP_zip hp (h c (by simp))
   have hg:=good125 hK { p with chain:=c } hc.1 hc.2
   have ih:=rounds124 p hp L (SS++[storyP { p with chain:=c } (eBit c.deeds 0)]) LL (fun c' hc'=>h c' (by simp[hc'])) (by simp at hn ⊢;omega)
   refine .next _ _ _ _ _ _ (goodh124 hK p c _ _ _ SS LL (by simp at hn;omega) hg) (fun q hq=>(fileO_ok p _ _ q hq).2.1) ?_
   simpa[storyP] using ih
theorem rounds127 (p:Proof) (hp:OkP p) (SS:List (List IV)):∀ (L:List Setting) (LL:List (List IV)),(∀ s∈L,isSet p.machine s)→LL.length+L.length≤1000000 →
  HRounds Tryz.prog K 127 [] [.iv (.ptr (prC p)),.loc 0 0] [0] ((L.map (machS p.machine)).map itemM) (fileO p SS LL) true (fileO p SS (LL++L.map fun s=>[.sl 2 (loadsL p s)]))
 | [],LL,_,_=>by simpa using HRounds.nil _
 | s::L,LL,h,hn=>by
   have hs:=h s (by simp)
   have hm:=okM_mach hp.machine hs.1
   have ih:=rounds127 p hp SS L (LL++[[.sl 2 (loadsL p s)]]) (fun c' hc'=>h c' (by simp[hc'])) (by simp at hn ⊢;omega)
   have htl:=hp.trialsLen
   have h1:=hm.len
   have h2:=hm.blen
   have hg:=goodh127 hK p (machS p.machine s) (by omega) (by omega) (by omega) (fun i=>lowS p.machine (tr p i).weight (tr p i).mins s) (fun i=>upS p.machine (tr p i).weight (tr p i).mins s) (fun i hi=>by
    have ht:=hp.trial hi
    refine rLoad_mach hp.machine hs ?_
    simp only[askB,inR]
    have a1:=ht.1
    have a2:=ht.2.1
    simp only[inR] at a1 a2
    simp
    omega) SS LL (by simp at hn;omega)
   refine .next _ _ _ _ _ _ hg (fun q hq=>(fileO_ok p _ _ q hq).2.1) ?_
   simpa[rowL,loadsL] using ih
end
end Go.Pf

/- open: the file of a proof (the call). -/
namespace Go.Pf
open Go Go.Ev Go.Proofs Go.RowKit
set_option maxRecDepth 8000
section
variable {K:World→Prop} (hK:∀ w w',K w→Below w.heap.size w w'→K w')
include hK
theorem goodh123 (p:Proof) (hp:OkP p):GoodH Tryz.prog K 123 [.iv (chV p.chain),.clo 124 [] [.loc 0 0,.iv (.ptr (prC p))]] (fileO p [] []) [0] (.iv (.bool true)) (fileO p (storiesV p) []):=by
 have hl:=hp.deedsLen
 have hs:=hp.chain.slen
 have hit:=iter123 hK (twos p.chain.deeds) p.chain rfl (by omega) (by omega)
 have hr:=rounds124 hK p hp (knownC p.chain) [] [] (fun c hc=>hc) (by
  rw[known_ends _ hp.chain,List.length_map]
  have:=endsL_le hp.chain
  simp;omega)
 rw[List.nil_append,known_stories p hp.chain] at hr
 have:=goodh_of_iter hit (by kernel_rfl) (by simp[clAL]) (by simp[clAL,clA]) (fun i hi=>by
  simp at hi
  subst hi
  exact ⟨_,rfl⟩) (fun q hq=>(fileO_ok p _ _ q hq).2.1) hr
 simpa using this
theorem goodh126 (p:Proof) (hp:OkP p) (hs:sets p.machine p.machine.levers.length≤1000000) (SS:List (List IV)):GoodH Tryz.prog K 126 [.iv (maV p.machine),.iv (.int .i64 0),.clo 127 [] [.iv (.ptr (prC p)),.loc 0 0]] (fileO p SS []) [0] (.iv (.bool true)) (fileO p SS (loadsV p)):=by
 have hit:=iter126 hK p.machine.levers.length p.machine 0 (by omega) (tame_of hp.machine hs)
 rw[exact_all hp.machine] at hit
 have hr:=rounds127 hK p hp SS (setsL p.machine [] p.machine.levers) [] (fun s h=>by
  simp only[setsL,List.mem_filter,decide_eq_true_eq] at h
  exact h.2) (by
  have:=setsL_le hp.machine
  simp;omega)
 rw[List.nil_append] at hr
 have:=goodh_of_iter hit (by kernel_rfl) (by simp[clAL]) (by simp[clAL,clA]) (fun i hi=>by
  simp at hi
  subst hi
  exact ⟨_,rfl⟩) (fun q hq=>(fileO_ok p _ _ q hq).2.1) hr
 simpa[loadsV] using this
omit hK in
theorem file_hok (p:Proof) (SS LL SS' LL':List (List IV)) (args0:List AV) (ha:args0.all (clA [0,1,2,3])=true) (o:Objs) (h7:lookO o 7=some (.box [.loc 17 0])) (h17:lookO o 17=some (.box ((prC p).map AV.iv++[.aref 18012 SS.length,.aref 18013 LL.length])))
  (h12:lookO o 18012=some (.arr 97 3 (emb SS) 0)) (h13:lookO o 18013=some (.arr 98 1 (emb LL) 0)):HOk [7,17,18012,18013] args0 o (fileO p SS LL) (fileO p SS' LL'):=by
 refine ⟨by decide,ha,fun q hq=>?_,fun i hi h=>?_,fun q hq=>⟨(fileO_ok p _ _ q hq).1,(fileO_ok p _ _ q hq).2.1⟩⟩
 ·have h1:=fileO_ok p _ _ q hq
  refine ⟨h1.1,?_,h1.2.2,h1.2.1⟩
  simp only[List.mem_cons,List.not_mem_nil,or_false] at hq
  rcases hq with rfl | rfl | rfl | rfl
  ·exact h7
  ·refine h17.trans ?_
   simp[rnO,rnL,rn,prC,nth]
  ·rw[rnO_emb];exact h12
  ·rw[rnO_emb];exact h13
 ·simp at hi
  have:i=0∨i=1∨i=2∨i=3:=by omega
  rcases this with rfl | rfl | rfl | rfl<;>simp[lookO] at h
theorem good63 (p:Proof) (is:Bool) (hf:Fine p):Ev.Good Tryz.prog K 63 [prV p,.bool is] (.tup [if kE p is=0 then .ptr (fileC p) else .nilp,.int .i64 (kE p is)]):=by
 refine good_of_wp hK c63_ok (by simp) ?_
 simp
 refine callK_of (by simpa using good25 hK p hf.small) (.inl rfl) ?_
 by_cases hp:OkP p
 ·cases is
  ·simp[hp,kE]
  ·have hg1:=goodh123 hK p hp
   have hg2:=goodh126 hK p hp (hf.sets hp) (storiesV p)
   simp[hp]
   refine callH_of hg1 ?_ ?_ ?_
   ·simp[rn,rnL,nth,prC]
   ·exact file_hok p [] [] _ _ _ (by simp[clA,clAL]) _ (by simp[lookO]) (by simp[lookO,prC]) (by simp[lookO,emb]) (by simp[lookO,emb])
   ·have hrn:rnL (nth [7,17,18012,18013]) ((prC p).map AV.iv++[.aref 2 (storiesV p).length,.aref 3 0])=(prC p).map AV.iv++[.aref 18012 (storiesV p).length,.aref 18013 0]:=by simp[rnL,rn,prC,nth]
    simp[hrn]
    refine callH_of hg2 ?_ ?_ ?_
    ·simp[rn,rnL,nth,prC]
    ·exact file_hok p _ [] _ _ _ (by simp[clA,clAL]) _ (by simp[lookO]) (by simp[lookO,prC]) (by simp[lookO,emb]) (by simp[lookO,emb])
    ·have hrn2:rnL (nth [7,17,18012,18013]) ((prC p).map AV.iv++[.aref 2 (storiesV p).length,.aref 3 (loadsV p).length])=(prC p).map AV.iv++[.aref 18012 (storiesV p).length,.aref 18013 (loadsV p).length]:=by simp[rnL,rn,prC,nth]
     have hE1:knownL p=[]↔storiesV p=[]∨loadsV p=[]:=by
      unfold knownL storiesV loadsV
      rw[List.flatMap_eq_nil_iff]
      simp only[List.map_eq_nil_iff]
      constructor
      ·intro h
       cases hE:endsL p.chain [] p.chain.deeds with
       | nil=>exact .inl rfl
       | cons a r=>exact .inr (h a (by rw[hE];simp))
      ·rintro (h | h) x hx
       ·rw[h] at hx;simp at hx
       ·exact h
     have hk:kE p true=if storiesV p=[]∨loadsV p=[] then 3 else 0:=by
      unfold kE
      rw[if_pos hp,if_pos rfl]
      by_cases h:storiesV p=[]∨loadsV p=[]
      ·rw[if_pos h,if_pos (hE1.2 h)]
      ·rw[if_neg h,if_neg (fun c=>h (hE1.1 c))]
     have hfile:fileC p=prC p++[.sl 3 (storiesV p),.sl 1 (loadsV p)]:=rfl
     rw[hk,hfile]
     generalize storiesV p=SS at *
     generalize loadsV p=LL at *
     simp[hrn2]
     cases SS with
     | nil=>simp[prC]
     | cons a r =>
       cases LL with
       | nil=>simp[prC]
       | cons a2 r2 =>
         simp[prC]
         intro _
         exact ⟨fun _ _=>by omega,by omega⟩
 ·simp[hp,kE]
end
end Go.Pf
