/- slices.Insert, Delete and Reverse at a row of ints of the caller's own, from contracts in the kit's words. -/
import Derived.Test.YtobhncljgnlaiaaGreatDoorPartThree
import Derived.Ground.SlgnProg
import Derived.Shelf.SlicesE.Reverse
import Derived.Shelf.SlicesE.Delete
import Derived.Lib.SliceRun
import Derived.Lib.JoinLaws
import Derived.Test.YtobhncljgnlaiaaGreatDoorProg
import Derived.KernelRfl
import Derived.Shelf.Spec.SlicesInsertGrow
import Derived.Shelf.SlIterI.Nil
import Derived.Shelf.SortM.Plain
import Derived.Shelf.SortM.SortNone
import Derived.Ground.GgzProg
import Derived.Ground.SlgmProg
import Derived.Lib.ItoaNum
import Derived.Lib.ItoaMem
import Derived.Lib.AtoiTie
import Derived.Lib.Strings
import Derived.Lib.SplitLaws
import Derived.ChangeAgain
import Derived.WalkSmall
import Derived.Test.YtobhncljgnlaiaaGreatDoorCards
import Derived.Test.YtobhncljgnlaiaaGreatDoorTie
import Derived.ProofKit
import Derived.OpenShut
import Derived.Lay
import Derived.Lib.LaidTab
import Derived.Stop.LaidErr
import Derived.JoinedCond
set_option linter.all false
namespace Go.Ev
open Go Go.RowKit Go.Sort
section
variable {P:Program} {K:World->Prop}
@[reducible] def Zj (zs:List Int) (mv:Nat):AO:=.arr 3 1 (zs.map fun z=>[AV.iv (.int .i64 z)]) mv
@[reducible] def Qik (zs:List Int):IV:=.sl 1 (zs.map fun z=>[IV.int .i64 z])
theorem QcT {w:World} {g:Nat} {f:Array Value->Array Value} {c:Array Value} {e:TypeId} {fr:Nat × Nat} (h:w.heap[g]?=some (.cells c e fr)):(mapBlock w g f).heap[g]?=some (.cells (f c) e fr):=by
 simp only[mapBlock,Array.getElem?_modify,if_true,h,QB3,onCells]
theorem QcS {w:World} {g k:Nat} {f:Array Value->Array Value} (h:k≠g):(mapBlock w g f).heap[k]?=w.heap[k]?:=by
 simp only[mapBlock,Array.getElem?_modify,if_neg (Ne.symm h)]
theorem qW {w:World} {g:Nat} {f:Array Value->Array Value}:(mapBlock w g f).heap.size=w.heap.size:=by
 simp only[mapBlock,Array.size_modify]
theorem X7 {Fr:Nat->Prop} {w:World} {g:Nat} {f:Array Value->Array Value} (h:¬ Fr g):QL Fr w (mapBlock w g f) :=
 ⟨rfl,rfl,rfl,by rw[qW];omega,fun k hk=>QcS fun e=>h (e▸hk)⟩
theorem Q9 {Fr:Nat->Prop} {g:Nat} (h:¬ Fr g):∀ (vs:List Value) (o:Nat) (w:World),QL Fr w (w.setCells g o vs)
 | [],_,w=>QL.refl _ _
 | v::r,o,w=>by
   rw[World.setCells];have h1:QL Fr w (w.setCell ⟨g,o,none⟩ v):=by rw[setCell_eq];exact X7 h
   have h2:=Q9 h r (o+1) (w.setCell ⟨g,o,none⟩ v);exact ⟨h2.os.trans h1.os,h2.tape.trans h1.tape,h2.output.trans h1.output,QBY h1.size h2.size,fun k hk=>(h2.block k hk).trans (h1.block k hk)⟩
theorem qy (w:World) (o:Obj):QL (fun b=>b<w.heap.size) w (w.alloc o) :=
 ⟨rfl,rfl,rfl,by show _<=(w.heap.push o).size;grind,fun k hk=>by
  show (w.heap.push o)[k]?=_
  grind⟩
structure WQ (w:World) (v:Value) (zs:List Int) (g cap:Nat) (cur:Array Value):Prop where
 v:v=.slice (some ⟨g,0,none⟩) zs.length cap
 at_:w.heap[g]?=some (.cells cur 3 (0,0))
 le:zs.length<=cap
 max:cap<=maxLen
 size:cur.size=cap
 take:cur.toList.take zs.length=zs.map (.int .i64)
theorem WQ.cell {w:World} {v:Value} {zs:List Int} {g cap:Nat} {cur:Array Value} (h:WQ w v zs g cap cur) (j:Nat):w.cell? ⟨g,j,none⟩=cur[j]?:=by
 simp[World.cell?,h.at_]
theorem WQ.frozen {w:World} {v:Value} {zs:List Int} {g cap:Nat} {cur:Array Value} (h:WQ w v zs g cap cur) (j:Nat):w.frozen? ⟨g,j,none⟩=false:=by
 simp[World.frozen?,h.at_]
theorem WQ.get {w:World} {v:Value} {zs:List Int} {g cap:Nat} {cur:Array Value} (h:WQ w v zs g cap cur) (j:Nat) (hj:j<zs.length):cur[j]?=some (.int .i64 zs[j]):=by
 have h1:(cur.toList.take zs.length)[j]?=some (.int .i64 zs[j]):=by rw[h.take];simp[hj]
 grind
theorem WQ.holds {w:World} {v:Value} {zs:List Int} {g cap:Nat} {cur:Array Value} (h:WQ w v zs g cap cur):Holds (Value.int .i64) w g 0 zs.toArray:=by
 intro j hj;have hj':j<zs.length:=by simpa using hj
 refine ⟨?_,by rw[QBm];exact h.frozen j⟩
 rw[QBm,h.cell,h.get j hj',getElem!_pos _ j hj];simp
theorem QdR {Fr ok:Nat->Prop} {w:World} {lo:Nat->Option AO} {L:Nat->Lay} {zs:List Int} {mv:Nat} {l:Lay} (h:Qo Fr ok w lo L (Zj zs mv) l) :
  ∃ v xs,l=.arr v xs/\((v=.slice none 0 0/\zs=[])\/∃ g cap cur,WQ w v zs g cap cur/\¬ Fr g):=by
 cases l with
 | arr v xs =>
   obtain ⟨⟨⟨h1,h2⟩,h3⟩,h4,h5,h6,h7⟩:=h;refine ⟨v,xs,rfl,?_⟩;simp only[QBb] at h1 h2;rcases h2 with ⟨h2,h8⟩ | ⟨g,cap,cur,h8,h9,h10,h11,h12,h13,h14⟩
   ·grind
   ·refine .inr ⟨g,cap,cur,⟨h8,h10,h11,h12,by omega,?_⟩,h3 g (by simp[h8,Value.ownBlock])⟩
    rw[QCg] at h14;rw[h14];refine QCt fun i=>?_
    by_cases hi:i<zs.length
    ·have hx:i<xs.length:=by omega
     rw[QA0 hx];have:=h7 i 0 [AV.iv (.int .i64 zs[i])] (.iv (.int .i64 zs[i])) xs[i] (by simp[hi]) (by simp) (by simp[hx])
     cases this with
     | iv _ _ r =>
       generalize hz:xs[i]=z at r;cases r;simp[hi,hz]
    grind
 | _=>exact absurd h (by simp[Qo])
theorem QeI {ok:Nat->Prop} {w:World} {lo:Nat->Option AO} {L:Nat->Lay} {zs:List Int} {mv id n:Nat} {v u:Value} {xs:List Value} (hid:lo id=some (Zj zs mv)) (hL:L id=.arr v xs) (hn:n=zs.length) (h:Qn ok w lo L (.aref id n) u):u=v:=by
 grind
theorem Ui {ok:Nat->Prop} {w:World} (zs:List Int) (b cap:Nat) (hcap:zs.length<=cap) (hmax:cap<=maxLen) (hb:ok b) (hc:∀ j z,zs[j]?=some z->w.cell? ⟨b,j,none⟩=some (.int .i64 z)) :
  Qv ok w (Qik zs) (.slice (some ⟨b,0,none⟩) zs.length cap):=by
 have h:=Qv.sl (ok:=ok) (w:=w) 1 (zs.map fun z=>[IV.int .i64 z]) b 0 cap (fun k=>.int .i64 (zs.getD k 0)) (by simpa using hcap) hmax (by simp) (fun k hk=>?_) (fun i j c x hi hj=>?_)
 ·simpa using h
 ·simp only[QBb,QCg] at hk
  refine ⟨hb,?_,rfl⟩
  grind
 ·rw[QA9,QA4] at hi
  obtain ⟨z,hz,rfl⟩:=hi;cases j with
  | zero =>
    simp at hj;subst hj;rw[QCg,QBS,List.getD_eq_getElem?_getD,hz];exact .int _ _
  | succ j=>simp at hj
theorem U1 {Fr ok:Nat->Prop} {w:World} {L:Nat->Lay}:QfG Fr ok w (Qc []) L:=⟨by simp[Qc],by simp[Qc]⟩
theorem qO {f:FuncId}
  (he:∀ (a:Option Addr) (cap:Nat) (w:World),Calls P f #[.slice a 0 cap] w fun e w'=>e=.returned (.tuple #[])/\w'=w)
  (hr:∀ (blk off cap:Nat) (zs:List Int) (w:World),Holds (Value.int .i64) w blk off zs.toArray->zs.length<=9223372036854775807 ->
    Calls P f #[.slice (some ⟨blk,off,none⟩) zs.length cap] w fun e w'=>e=.returned (.tuple #[])/\∃ n,w'=putRow (Value.int .i64) (Sort.ahead w n) blk off zs.reverse.toArray)
  (zs:List Int) (mv:Nat):Zn P K f [.aref 0 zs.length] [(0,Zj zs mv)] [0] (.iv (.tup [])) [(0,Zj zs.reverse zs.length)]:=by
 intro w ok L vs hK hnew hown hlaid hvl hvs
 obtain ⟨v0,rfl⟩:∃ v0,vs=[v0]:=by
  match vs,hvl with
  | [v],_=>exact ⟨v,rfl⟩
 have hob:=hlaid.objs 0 (Zj zs mv) rfl;obtain ⟨v,xs,hL,hrow⟩:=QdR hob;have hv:v0=v:=QeI (id:=0) (zs:=zs) (mv:=mv) rfl hL rfl (hvs 0 _ v0 rfl rfl);subst hv
 have fin:∀ (w':World) (xs':List Value),QL (FrO w (Qc [(0,Zj zs mv)]) L) w w'->ZT (FrO w (Qc [(0,Zj zs mv)]) L) w' 3 1 v0 zs.length xs'->xs'=zs.reverse.map (.int .i64) ->
   ∃ v1 L',(Ending.returned (.tuple #[]):Ending)=.returned v1/\QfG (FrO w (Qc [(0,Zj zs mv)]) L) ok w' (Qc [(0,Zj zs.reverse zs.length)]) L'/\Qn (okL ok (Qc [(0,Zj zs.reverse zs.length)]) L') w' (Qc [(0,Zj zs.reverse zs.length)]) L' (.iv (.tup [])) v1/\QL (FrO w (Qc [(0,Zj zs mv)]) L) w w' /\
    ∀ i∈[0],∀ o,Qc [(0,Zj zs mv)] i=some o->∃ o',Qc [(0,Zj zs.reverse zs.length)] i=some o'/\Yi o o' (L i) (L' i):=by
  intro w' xs' hk ho hx;refine ⟨.tuple #[],fun _=>.arr v0 xs',rfl,⟨fun id o hid=>?_,fun i j oi oj b hij hi hj=>?_⟩,.iv _ _ (.tup [] [] rfl (by simp)),hk,fun i hi o h=>?_⟩
  ·simp only[Qc] at hid
   split at hid
   ·injection hid with hid
    subst hid;refine ⟨by simpa using ho,by simp,by simp,fun u hu=>?_,fun i j c x u hi hj hu=>?_⟩
    ·rw[hx] at hu
     obtain ⟨z,_,rfl⟩:=QBl.1 hu;rfl
    ·rw[QA9,QA4] at hi
     obtain ⟨z,hz,rfl⟩:=hi;cases j with
     | zero =>
       simp at hj;subst hj;rw[hx,QCg,QBS,QA9,hz] at hu;simp at hu;subst hu;exact .iv _ _ (.int _ _)
     | succ j=>simp at hj
   ·cases hid
  ·simp only[Qc] at hi hj
   grind
  ·simp at hi
   subst hi;simp only[Qc,if_true] at h;injection h with h
   subst h;refine ⟨Zj zs.reverse zs.length,by simp[Qc],?_⟩
   rw[hL];simp[Yi]
 rcases hrow with ⟨rfl,rfl⟩ | ⟨g,cap,cur,hr1,hfr⟩
 ·refine (he none 0 w).mono fun e w' ⟨h1,h2⟩=>?_
  subst h1 h2;exact fin w' [] (QL.refl _ _) ⟨⟨by simp,.inl ⟨rfl,rfl⟩⟩,by simp[Value.ownBlock]⟩ (by simp)
 ·have hv:=hr1.v
  subst hv;refine (hr g 0 cap zs w hr1.holds (by have:=hr1.max;have:=hr1.le;unfold maxLen at *;omega)).mono fun e w' ⟨h1,n,h2⟩=>?_
  subst h1
  have hk:QL (FrO w (Qc [(0,Zj zs mv)]) L) w w':=by
   have h3:QL (FrO w (Qc [(0,Zj zs mv)]) L) (Sort.ahead w n) w':=by rw[h2];exact X7 hfr
   exact ⟨h3.os,h3.tape,h3.output,h3.size,h3.block⟩
  have hh:w'.heap[g]?=some (.cells (putCells (Value.int .i64) 0 zs.reverse.toArray cur) 3 (0,0)):=by
   rw[h2];exact QcT (w:=Sort.ahead w n) hr1.at_
  refine fin w' _ hk ⟨⟨?_,.inr ⟨g,cap,_,rfl,QBU _,hh,hr1.le,hr1.max,?_,rfl⟩⟩,fun b hb=>?_⟩ ?_
  ·simp[putCells,hr1.size,hr1.le]
  ·simp[putCells,hr1.size]
  ·simp[Value.ownBlock] at hb
   grind
  ·refine QCt fun i=>?_
   rw[QBx];by_cases hi:i<zs.length
   ·have h1:=hr1.size
    have h2:=hr1.le;have h3:i<cur.size:=by omega
    rw[QCg,if_pos hi];simp only[putCells,Array.getElem?_toList,Array.getElem?_mapIdx,QBv h3,QB3,QA9]
    grind
   grind
theorem QbU {f:FuncId}
  (hd:∀ (blk off cap i j:Nat) (d:Array Int) (w:World),Holds (Value.int .i64) w blk off d->d.size<=cap->cap<=9223372036854775807->i<=j->j<=d.size ->
    Calls P f #[.slice (some ⟨blk,off,none⟩) d.size cap,.int .i64 i,.int .i64 j] w fun e w'=>e=.returned (.slice (some ⟨blk,off,none⟩) (d.size-(j-i)) cap)/\∃ q,w'=putRow (Value.int .i64) (Sort.ahead w q) blk off (d.toList.take i++d.toList.drop j++List.replicate (j-i) 0).toArray)
  (zs:List Int) (mv:Nat) (i:Nat) (hi:i<zs.length):Zn P K f [.aref 0 zs.length,.iv (.int .i64 (i:Nat)),.iv (.int .i64 ((i+1:Nat):Int))] [(0,Zj zs mv)] [] (.iv (Qik (zs.eraseIdx i))) []:=by
 intro w ok L vs hK hnew hown hlaid hvl hvs
 obtain ⟨v0,v1,v2,rfl⟩:∃ v0 v1 v2,vs=[v0,v1,v2]:=by
  match vs,hvl with
  | [v,u,z],_=>grind
 have hob:=hlaid.objs 0 (Zj zs mv) rfl;obtain ⟨v,xs,hL,hrow⟩:=QdR hob;have hv:v0=v:=QeI (id:=0) (zs:=zs) (mv:=mv) rfl hL rfl (hvs 0 _ v0 rfl rfl);subst hv
 have e1:v1=.int .i64 (i:Nat):=by
  have:=hvs 1 _ v1 rfl rfl;cases this with
  | iv _ _ r=>cases r;rfl
 have e2:v2=.int .i64 ((i+1:Nat):Int):=by
  have:=hvs 2 _ v2 rfl rfl;cases this with
  | iv _ _ r=>cases r;rfl
 subst e1 e2;rcases hrow with ⟨rfl,rfl⟩ | ⟨g,cap,cur,hr1,hfr⟩
 ·simp at hi
 ·have hv:=hr1.v
  subst hv;have hm:=hr1.max;have hle:=hr1.le;have:=hd g 0 cap i (i+1) zs.toArray w hr1.holds (by simpa using hle) (by unfold maxLen at *;omega) (by omega) (by simp;omega)
  have es:zs.toArray.size=zs.length:=by simp
  rw[es] at this;refine this.mono fun e w' ⟨h1,q,h2⟩=>?_
  have hgo:ok g:=hown g ⟨0,Zj zs mv,rfl,by rw[hL];simp[Lay.has,Value.ownBlock]⟩
  have hk:QL (FrO w (Qc [(0,Zj zs mv)]) L) w w':=by
   have h3:QL (FrO w (Qc [(0,Zj zs mv)]) L) (Sort.ahead w q) w':=by rw[h2];exact X7 hfr
   exact ⟨h3.os,h3.tape,h3.output,h3.size,h3.block⟩
  have hnew:Holds (Value.int .i64) w' g 0 (zs.take i++zs.drop (i+1)++List.replicate (i+1-i) 0).toArray:=by
   have h3:=holds_putRow (Value.int .i64) (Sort.ahead w q) g 0 zs.toArray (zs.take i++zs.drop (i+1)++List.replicate (i+1-i) 0).toArray (holds_ahead _ w q g 0 _ hr1.holds) (by simp;omega)
   grind
  have hlen:(zs.eraseIdx i).length=zs.length-(i+1-i):=by grind
  subst h1;refine ⟨_,fun _=>.one 0,rfl,U1,.iv _ _ ?_,hk,by simp⟩
  rw[<- hlen];refine Ui _ _ _ (by omega) hm ⟨hgo,by simp[Qc]⟩ fun j z hj=>?_
  rw[List.eraseIdx_eq_take_drop_succ] at hj;have hjl:=(QA2.1 hj).1;have h3:=(hnew j (by grind)).1
  grind
theorem Qbw {f:FuncId}
  (hshift:∀ (b n c i vb vc:Nat) (cs:List Value) (x:Value) (w:World),i<n->n+1<=c->c<=9223372036854775807->vb≠b->cs.length=n ->
    (∀ j v,cs[j]?=some v->w.cell? ⟨b,0+j,none⟩=some v)->(∀ j,j<n+1->(w.cell? ⟨b,0+j,none⟩).isSome=true)->(∀ j,j<n+1->w.frozen? ⟨b,0+j,none⟩=false) ->
    (∀ j v,[x][j]?=some v->w.cell? ⟨vb,0+j,none⟩=some v)->(∀ v∈cs,v.oneCell'=true)->(∀ v∈[x],v.oneCell'=true) ->
    ∀ (tA tB:TypeId) (kA kB:Nat),w.shape? vb=some (tA,kA)->w.shape? b=some (tB,kB)->kB≠0->w.frozen? ⟨vb,0,none⟩=false->w.frozen? ⟨vb,kA,none⟩=false ->
    Calls P f #[.slice (some ⟨b,0,none⟩) n c,.int .i64 i,.slice (some ⟨vb,0,none⟩) 1 vc] w fun e w' =>
     e=.returned (.slice (some ⟨b,0,none⟩) (n+1) c)/\w'=(w.drew.setCells b (0+(i+1)) (cs.drop i)).setCells b (0+i) [x])
  (hroom:∀ (b n c vb vc:Nat) (x:Value) (w:World),n+1<=c->c<=9223372036854775807->(∀ j,j<1->(w.cell? ⟨b,0+n+j,none⟩).isSome=true)->(∀ j,j<1->w.frozen? ⟨b,0+n+j,none⟩=false) ->
    (∀ j v,[x][j]?=some v->w.cell? ⟨vb,0+j,none⟩=some v)->(∀ v∈[x],v.oneCell'=true) ->
    Calls P f #[.slice (some ⟨b,0,none⟩) n c,.int .i64 n,.slice (some ⟨vb,0,none⟩) 1 vc] w fun e w' =>
     e=.returned (.slice (some ⟨b,0,none⟩) (n+1) c)/\w'=w.setCells b (0+n) [x])
  (hend:∀ (base:Option Addr) (n c vb vc:Nat) (cs:List Value) (x:Value) (w:World),n<=c->c<n+1->(n+1)*8<=140737488355328->cs.length=n->(base=none->n=0) ->
    (∀ a,base=some a->∀ j v,cs[j]?=some v->w.cell? (a.add j)=some v)->(∀ j v,[x][j]?=some v->w.cell? ⟨vb,0+j,none⟩=some v)->(∀ v∈[x],v.oneCell'=true) ->
    Calls P f #[.slice base n c,.int .i64 n,.slice (some ⟨vb,0,none⟩) 1 vc] w fun e w' =>
     e=.returned (.slice (some ⟨w.heap.size,0,none⟩) (n+1) (grownCap w (n+1) c 3)) /\
     w'=w.drew.alloc (.cells ((cs++[x]).toArray++Builtin.zeroCells (Value.int .i64 0).cells (grownCap w (n+1) c 3-(n+1))) 3))
  (hgrow:∀ (b n c i vb vc:Nat) (cs:List Value) (x:Value) (w:World),i<n->n<=c->c<n+1->(n+1)*8<=140737488355328->cs.length=n ->
    (∀ j v,cs[j]?=some v->w.cell? ⟨b,0+j,none⟩=some v)->(∀ j v,[x][j]?=some v->w.cell? ⟨vb,0+j,none⟩=some v)->(∀ v∈cs,v.oneCell'=true)->(∀ v∈[x],v.oneCell'=true) ->
    Calls P f #[.slice (some ⟨b,0,none⟩) n c,.int .i64 i,.slice (some ⟨vb,0,none⟩) 1 vc] w fun e w' =>
     e=.returned (.slice (some ⟨w.heap.size,0,none⟩) (n+1) (grownCap w (n+1) c 3)) /\
     w'=(((w.alloc (.cells ((cs.take i).toArray++Builtin.zeroCells (Value.int .i64 0).cells (n+1-i)++Builtin.zeroCells (Value.int .i64 0).cells (grownCap w (n+1) c 3-(n+1))) 3)).drew.setCells w.heap.size i [x]).drew).setCells w.heap.size (i+1) (cs.drop i))
  (zs:List Int) (mv:Nat) (i:Nat) (hi:i<=zs.length) (x:Int) (mv':Nat) (hlen:zs.length<=1000000):Zn P K f [.aref 0 zs.length,.iv (.int .i64 (i:Nat)),.aref 1 1] [(0,Zj zs mv),(1,Zj [x] mv')] [] (.iv (Qik (zs.take i++x::zs.drop i))) []:=by
 intro w ok L vs hK hnew hown hlaid hvl hvs
 obtain ⟨v0,v1,v2,rfl⟩:∃ v0 v1 v2,vs=[v0,v1,v2]:=by
  match vs,hvl with
  | [v,u,z],_=>grind
 obtain ⟨v,xs,hL,hrow⟩:=QdR (hlaid.objs 0 (Zj zs mv) rfl);obtain ⟨v',xs',hL',hrow'⟩:=QdR (zs:=[x]) (hlaid.objs 1 (Zj [x] mv') rfl);have hv:v0=v:=QeI (id:=0) (zs:=zs) (mv:=mv) rfl hL rfl (hvs 0 _ v0 rfl rfl);have hv':v2=v':=QeI (id:=1) (zs:=[x]) (mv:=mv') rfl hL' rfl (hvs 2 _ v2 rfl rfl)
 have e1:v1=.int .i64 (i:Nat):=by
  have:=hvs 1 _ v1 rfl rfl;cases this with
  | iv _ _ r=>cases r;rfl
 subst hv hv' e1;have hmax:maxLen=1099511627775\/2000000<=maxLen/\maxLen<=9223372036854775807:=by unfold maxLen;omega
 rcases hrow' with ⟨_,h⟩ | ⟨vb,vc,cur',hr2,hfr2⟩
 ·cases h
 have hv2:=hr2.v;subst hv2
 have hx:∀ j v,[Value.int .i64 x][j]?=some v->w.cell? ⟨vb,0+j,none⟩=some v:=fun j v hj=>by
  cases j with
  | zero =>
    simp at hj;subst hj;rw[hr2.cell,hr2.get 0 (by simp)]
    simp
  | succ j=>simp at hj
 have hone:∀ v∈[Value.int .i64 x],v.oneCell'=true:=by simp[Value.oneCell']
 have hvw:vb<w.heap.size:=(QA6.1 hr2.at_).1;have hlen':(zs.take i++x::zs.drop i).length=zs.length+1:=by simp;omega
 have fresh:∀ (w':World) (cap:Nat),QL (fun b=>b<w.heap.size) w w'->zs.length+1<=cap->cap<=maxLen->(∀ j z,(zs.take i++x::zs.drop i)[j]?=some z->w'.cell? ⟨w.heap.size,j,none⟩=some (.int .i64 z)) ->
   ∃ v1 L',(Ending.returned (.slice (some ⟨w.heap.size,0,none⟩) (zs.length+1) cap):Ending)=.returned v1/\QfG (FrO w (Qc [(0,Zj zs mv),(1,Zj [x] mv')]) L) ok w' (Qc []) L'/\Qn (okL ok (Qc []) L') w' (Qc []) L' (.iv (Qik (zs.take i++x::zs.drop i))) v1/\QL (FrO w (Qc [(0,Zj zs mv),(1,Zj [x] mv')]) L) w w' /\
    ∀ i∈([]:List Nat),∀ o,Qc [(0,Zj zs mv),(1,Zj [x] mv')] i=some o->∃ o',Qc [] i=some o'/\Yi o o' (L i) (L' i):=fun w' cap hk h1 h2 h3=>by
  refine ⟨_,fun _=>.one 0,rfl,U1,.iv _ _ ?_,⟨hk.os,hk.tape,hk.output,hk.size,fun k hkk=>hk.block k hkk.1⟩,by simp⟩
  rw[<- hlen'] at h1 |-;exact Ui _ _ _ h1 h2 ⟨hnew _ (QA8 _),by simp[Qc]⟩ h3
 have inplace:∀ (g cap:Nat) (cur:Array Value) (w':World),WQ w v0 zs g cap cur->¬ FrO w (Qc [(0,Zj zs mv),(1,Zj [x] mv')]) L g->QL (FrO w (Qc [(0,Zj zs mv),(1,Zj [x] mv')]) L) w w'->zs.length+1<=cap->(∀ j z,(zs.take i++x::zs.drop i)[j]?=some z->w'.cell? ⟨g,j,none⟩=some (.int .i64 z)) ->
   ∃ v1 L',(Ending.returned (.slice (some ⟨g,0,none⟩) (zs.length+1) cap):Ending)=.returned v1/\QfG (FrO w (Qc [(0,Zj zs mv),(1,Zj [x] mv')]) L) ok w' (Qc []) L'/\Qn (okL ok (Qc []) L') w' (Qc []) L' (.iv (Qik (zs.take i++x::zs.drop i))) v1/\QL (FrO w (Qc [(0,Zj zs mv),(1,Zj [x] mv')]) L) w w' /\
    ∀ i∈([]:List Nat),∀ o,Qc [(0,Zj zs mv),(1,Zj [x] mv')] i=some o->∃ o',Qc [] i=some o'/\Yi o o' (L i) (L' i):=fun g cap cur w' hr1 _ hk h1 h3=>by
  have hgo:ok g:=hown g ⟨0,Zj zs mv,rfl,by rw[hL,hr1.v];simp[Lay.has,Value.ownBlock]⟩
  refine ⟨_,fun _=>.one 0,rfl,U1,.iv _ _ ?_,hk,by simp⟩
  have h2:=hr1.max;rw[<- hlen'] at h1 |-;exact Ui _ _ _ h1 h2 ⟨hgo,by simp[Qc]⟩ h3
 have hcs:∀ j,j<zs.length->(zs.map (Value.int .i64))[j]?=some (.int .i64 zs[j]!):=fun j hj=>by simp[hj]
 have onev:∀ v∈zs.map (Value.int .i64),v.oneCell'=true:=fun v hv=>by
  obtain ⟨z,_,rfl⟩:=QBl.1 hv;rfl
 rcases QB8 i zs.length with hlt | hge
 ·
  rcases hrow with ⟨_,h⟩ | ⟨g,cap,cur,hr1,hfr⟩
  ·grind
  have hv:=hr1.v;have hm:=hr1.max;have hle:=hr1.le;have hgw:g<w.heap.size:=(QA6.1 hr1.at_).1;have hne:vb≠g:=fun e=>hlaid.apart 0 1 (Zj zs mv) (Zj [x] mv') g (by simp) rfl rfl (by rw[hL,hv];simp[Lay.has,Value.ownBlock]) (by rw[hL',e];simp[Lay.has,Value.ownBlock])
  have hc:∀ j v,(zs.map (Value.int .i64))[j]?=some v->w.cell? ⟨g,0+j,none⟩=some v:=fun j v hj=>by
   rw[QA9,QA4] at hj;obtain ⟨z,hz,rfl⟩:=hj;obtain ⟨h1,h2⟩:=QA2.1 hz;rw[QBm,hr1.cell,hr1.get j h1,h2]
  have hmid:∀ j z,(zs.take i++x::zs.drop i)[j]?=some z->(j<i/\zs[j]?=some z)\/(j=i/\z=x)\/(i+1<=j/\(zs.drop i)[j-(i+1)]?=some z):=fun j z hj=>by
   rcases Nat.lt_trichotomy j i with h | h | h
   ·rw[QBg (by simp;omega),QBx,if_pos h] at hj
    grind
   ·subst h
    rw[QBe (by simp;omega),QBT,QBC (by omega),Nat.sub_self] at hj
    grind
   ·rw[QBe (by simp;omega),QBT,QBC (by omega)] at hj
    obtain ⟨k,rfl⟩:∃ k,j=i+1+k:=⟨j-(i+1),by omega⟩
    rw[show i+1+k-i=k+1 by omega,List.getElem?_cons_succ] at hj
    exact .inr (.inr ⟨by omega,by rw[show i+1+k-(i+1)=k by omega];exact hj⟩)
  rcases QB8 zs.length cap with hcap | hcap
  ·
   have hsome:∀ j,j<zs.length+1->(w.cell? ⟨g,0+j,none⟩).isSome=true:=fun j hj=>by
    rw[QBm,hr1.cell,QBv (by have:=hr1.size;omega)];rfl
   have h0:=hshift g zs.length cap i vb vc (zs.map (.int .i64)) (.int .i64 x) w hlt (by omega) (by omega) hne (by simp) hc hsome (fun j _=>hr1.frozen _) hx onev hone 3 3 cur'.size cur.size
    (by simp[World.shape?,hr2.at_]) (by simp[World.shape?,hr1.at_]) (by have:=hr1.size;omega) (hr2.frozen _) (hr2.frozen _)
   rw[<- hv] at h0;refine h0.mono fun e w' ⟨h1,h2⟩=>?_
   subst h1
   have hk:QL (FrO w (Qc [(0,Zj zs mv),(1,Zj [x] mv')]) L) w w':=by
    have k1:=Q9 (Fr:=FrO w (Qc [(0,Zj zs mv),(1,Zj [x] mv')]) L) hfr ((zs.map (Value.int .i64)).drop i) (0+(i+1)) w.drew;have k2:=Q9 (Fr:=FrO w (Qc [(0,Zj zs mv),(1,Zj [x] mv')]) L) hfr [Value.int .i64 x] (0+i) (w.drew.setCells g (0+(i+1)) ((zs.map (Value.int .i64)).drop i));rw[h2];exact ⟨k2.os.trans k1.os,k2.tape.trans k1.tape,k2.output.trans k1.output,QBY k1.size k2.size,fun k hk=>(k2.block k hk).trans (k1.block k hk)⟩
   refine inplace g cap cur w' hr1 hfr hk (by omega) fun j z hj=>?_
   have in1:∀ k,k<((zs.map (Value.int .i64)).drop i).length->(w.drew.cell? ⟨g,0+(i+1)+k,none⟩).isSome=true:=fun k hk=>by
    have:=hsome (i+1+k) (by simp at hk;omega)
    rw[show 0+(i+1)+k=0+(i+1+k) by omega]
    exact this
   have sm1:∀ k,(w.cell? ⟨g,k,none⟩).isSome=true->((w.drew.setCells g (0+(i+1)) ((zs.map (Value.int .i64)).drop i)).cell? ⟨g,k,none⟩).isSome=true:=fun k hk=>by
    by_cases hin:0+(i+1)<=k/\k<0+(i+1)+((zs.map (Value.int .i64)).drop i).length
    ·have:=World.cell?_setCells_in g _ (0+(i+1)) w.drew in1 (k-(0+(i+1))) (by omega)
     rw[show 0+(i+1)+(k-(0+(i+1)))=k by omega] at this
     rw[this];rfl
    ·rw[World.cell?_setCells_out g _ (0+(i+1)) w.drew ⟨g,k,none⟩ (fun _ _=>by grind)]
     exact hk
   rw[h2];rcases hmid j z hj with ⟨h3,h4⟩ | ⟨h3,h4⟩ | ⟨h3,h4⟩
   ·rw[World.cell?_setCells_out g [_] (0+i) _ ⟨g,j,none⟩ (fun _ _=>by grind),World.cell?_setCells_out g _ (0+(i+1)) w.drew ⟨g,j,none⟩ (fun _ _=>by grind)]
    have:=hc j (.int .i64 z) (by simp[h4])
    rw[QBm] at this;exact this
   ·subst h3 h4
    have:=World.cell?_setCells_in g [Value.int .i64 z] (0+j) (w.drew.setCells g (0+(j+1)) ((zs.map (Value.int .i64)).drop j)) (fun k hk=>sm1 _ (by
     have:=hsome j (by omega)
     simp at hk;subst hk;simpa using this)) 0 (by simp)
    simpa using this
   ·obtain ⟨k,rfl⟩:∃ k,j=i+1+k:=⟨j-(i+1),by omega⟩
    rw[show i+1+k-(i+1)=k by omega] at h4
    have hkl:=(QA2.1 h4).1;rw[World.cell?_setCells_out g [_] (0+i) _ ⟨g,i+1+k,none⟩ (fun _ _=>by show i+1+k<_\/_<=i+1+k;simp)]
    have:=World.cell?_setCells_in g ((zs.map (Value.int .i64)).drop i) (0+(i+1)) w.drew in1 k (by simpa using hkl)
    rw[QBm] at this;rw[QBm,this]
    have h5:(List.drop i (zs.map (Value.int .i64)))[k]?=some (.int .i64 z):=by
     rw[<- QCC,QA9,h4];rfl
    rw[QA0 (by simpa using hkl)] at h5
    exact h5
  ·
   have hcap':cap=zs.length:=by omega
   have h0:=hgrow g zs.length cap i vb vc (zs.map (.int .i64)) (.int .i64 x) w hlt (by omega) (by omega) (by omega) (by simp) hc hx onev hone
   rw[<- hv] at h0;have hgc1:=grownCap_ge w (zs.length+1) cap 3;have hgc2:=grownCap_le_maxLen w (zs.length+1) cap 3 (by omega)
   generalize grownCap w (zs.length+1) cap 3=G at *;refine h0.mono fun e w' ⟨h1,h2⟩=>?_
   subst h1;obtain ⟨ROW,hROW⟩:∃ ROW:Array Value,ROW=((zs.map (Value.int .i64)).take i).toArray++Builtin.zeroCells (Value.int .i64 0).cells (zs.length+1-i)++Builtin.zeroCells (Value.int .i64 0).cells (G-(zs.length+1)):=⟨_,rfl⟩
   rw[<- hROW] at h2
   have hRs:zs.length+1<=ROW.size:=by
    rw[hROW];simp[Builtin.zeroCells,Value.cells];omega
   have hRt:∀ j z,j<i->zs[j]?=some z->ROW[j]?=some (.int .i64 z):=fun j z hj hz=>by
    rw[hROW,Array.append_assoc,Array.getElem?_append_left (by simp;omega)]
    simp[QBx,hj,hz]
   have hN:∀ j,j<zs.length+1->((w.alloc (.cells ROW 3)).cell? ⟨w.heap.size,j,none⟩).isSome=true:=fun j hj=>by
    rw[World.cell?_alloc_at (w:=w) ROW _ w.heap.size j rfl,QBv (by omega)];rfl
   obtain ⟨W1,hW1⟩:∃ W1,W1=(w.alloc (.cells ROW 3)).drew.setCells w.heap.size i [Value.int .i64 x]:=⟨_,rfl⟩
   rw[<- hW1] at h2;have hkA:QL (fun b=>b<w.heap.size) w (w.alloc (.cells ROW 3)):=qy w _
   have hk1:QL (fun b=>b<w.heap.size) w W1:=by
    have k2:=Q9 (Fr:=fun b=>b<w.heap.size) (g:=w.heap.size) (by simp) [Value.int .i64 x] i (w.alloc (.cells ROW 3)).drew
    rw[hW1];exact ⟨k2.os.trans hkA.os,k2.tape.trans hkA.tape,k2.output.trans hkA.output,QBY hkA.size k2.size,fun k hk=>(k2.block k hk).trans (hkA.block k hk)⟩
   have hk2:QL (fun b=>b<w.heap.size) w w':=by
    have k2:=Q9 (Fr:=fun b=>b<w.heap.size) (g:=w.heap.size) (by simp) ((zs.map (Value.int .i64)).drop i) (i+1) W1.drew
    rw[h2];exact ⟨k2.os.trans hk1.os,k2.tape.trans hk1.tape,k2.output.trans hk1.output,QBY hk1.size k2.size,fun k hk=>(k2.block k hk).trans (hk1.block k hk)⟩
   have sm1:∀ k,k<zs.length+1->(W1.cell? ⟨w.heap.size,k,none⟩).isSome=true:=fun k hk=>by
    rw[hW1];by_cases hin:k=i
    ·subst hin
     have:=World.cell?_setCells_in w.heap.size [Value.int .i64 x] k (w.alloc (.cells ROW 3)).drew (fun t ht=>by simp at ht;subst ht;exact hN k hk) 0 (by simp)
     rw[QBS] at this;rw[this];rfl
    ·rw[World.cell?_setCells_out w.heap.size [_] i _ ⟨w.heap.size,k,none⟩ (fun _ _=>by show k<_\/_<=k;simp;omega)]
     exact hN k hk
   refine fresh w' G hk2 hgc1 hgc2 fun j z hj=>?_
   have in2:∀ k,k<((zs.map (Value.int .i64)).drop i).length->(W1.drew.cell? ⟨w.heap.size,i+1+k,none⟩).isSome=true:=fun k hk=>sm1 _ (by simp at hk;omega)
   rw[h2];rcases hmid j z hj with ⟨h3,h4⟩ | ⟨h3,h4⟩ | ⟨h3,h4⟩
   ·rw[World.cell?_setCells_out w.heap.size _ (i+1) W1.drew ⟨w.heap.size,j,none⟩ (fun _ _=>by grind)]
    show W1.cell? _=_
    rw[hW1,World.cell?_setCells_out w.heap.size [_] i _ ⟨w.heap.size,j,none⟩ (fun _ _=>by grind)]
    show (w.alloc (.cells ROW 3)).cell? _=_
    rw[World.cell?_alloc_at (w:=w) ROW _ w.heap.size j rfl];exact hRt j z h3 h4
   ·subst h3 h4
    rw[World.cell?_setCells_out w.heap.size _ (j+1) W1.drew ⟨w.heap.size,j,none⟩ (fun _ _=>by grind)]
    show W1.cell? _=_
    rw[hW1];have:=World.cell?_setCells_in w.heap.size [Value.int .i64 z] j (w.alloc (.cells ROW 3)).drew (fun t ht=>by simp at ht;subst ht;exact hN j (by omega)) 0 (by simp)
    simpa using this
   ·obtain ⟨k,rfl⟩:∃ k,j=i+1+k:=⟨j-(i+1),by omega⟩
    rw[show i+1+k-(i+1)=k by omega] at h4
    have hkl:=(QA2.1 h4).1;have:=World.cell?_setCells_in w.heap.size ((zs.map (Value.int .i64)).drop i) (i+1) W1.drew in2 k (by simpa using hkl)
    rw[this]
    have h5:(List.drop i (zs.map (Value.int .i64)))[k]?=some (.int .i64 z):=by
     rw[<- QCC,QA9,h4];rfl
    rw[QA0 (by simpa using hkl)] at h5
    exact h5
 ·
  have hie:i=zs.length:=by omega
  subst hie;have hsame:zs.take zs.length++x::zs.drop zs.length=zs++[x]:=by simp
  have grow:∀ (base:Option Addr) (c:Nat),v0=.slice base zs.length c->zs.length<=c->c<zs.length+1->(base=none->zs.length=0)->(∀ a,base=some a->∀ j v,(zs.map (Value.int .i64))[j]?=some v->w.cell? (a.add j)=some v) ->
    Calls P f [v0,Value.int .i64 (zs.length:Nat),Value.slice (some ⟨vb,0,none⟩) [x].length vc].toArray w (fun e w'=>∃ v1 L',e=.returned v1/\QfG (FrO w (Qc [(0,Zj zs mv),(1,Zj [x] mv')]) L) ok w' (Qc []) L'/\Qn (okL ok (Qc []) L') w' (Qc []) L' (.iv (Qik (zs.take zs.length++x::zs.drop zs.length))) v1/\QL (FrO w (Qc [(0,Zj zs mv),(1,Zj [x] mv')]) L) w w' /\
     ∀ i∈([]:List Nat),∀ o,Qc [(0,Zj zs mv),(1,Zj [x] mv')] i=some o->∃ o',Qc [] i=some o'/\Yi o o' (L i) (L' i)):=fun base c hv h1 h2 h3 h4=>by
   have h0:=hend base zs.length c vb vc (zs.map (.int .i64)) (.int .i64 x) w h1 h2 (by omega) (by simp) h3 h4 hx hone
   rw[<- hv] at h0;have hgc1:=grownCap_ge w (zs.length+1) c 3;have hgc2:=grownCap_le_maxLen w (zs.length+1) c 3 (by omega)
   generalize grownCap w (zs.length+1) c 3=G at *;refine h0.mono fun e w' ⟨h5,h6⟩=>?_
   subst h5;obtain ⟨ROW,hROW⟩:∃ ROW:Array Value,ROW=(zs.map (Value.int .i64)++[Value.int .i64 x]).toArray++Builtin.zeroCells (Value.int .i64 0).cells (G-(zs.length+1)):=⟨_,rfl⟩
   rw[<- hROW] at h6;refine fresh w' G ?_ hgc1 hgc2 fun j z hj=>?_
   ·rw[h6]
    have:=qy w.drew (.cells ROW 3);exact ⟨this.os,this.tape,this.output,this.size,this.block⟩
   ·rw[h6,World.cell?_alloc_at (w:=w.drew) ROW _ w.heap.size j rfl,hROW]
    rw[hsame] at hj;have hjl:=(QA2.1 hj).1;simp at hjl;rw[Array.getElem?_append_left (by simp;omega)]
    have:(zs.map (Value.int .i64)++[Value.int .i64 x])=(zs++[x]).map (.int .i64):=by simp
    rw[this,List.getElem?_toArray,QA9,hj];rfl
  rcases hrow with ⟨h1,h2⟩ | ⟨g,cap,cur,hr1,hfr⟩
  ·subst h2
   grind
  have hv:=hr1.v;have hm:=hr1.max;have hle:=hr1.le;rcases QB8 zs.length cap with hcap | hcap
  ·have h0:=hroom g zs.length cap vb vc (.int .i64 x) w (by omega) (by omega) (fun j hj=>by
    rw[hr1.cell,QBv (by have:=hr1.size;omega)];rfl) (fun j _=>hr1.frozen _) hx hone
   rw[<- hv] at h0;refine h0.mono fun e w' ⟨h1,h2⟩=>?_
   subst h1
   have hk:QL (FrO w (Qc [(0,Zj zs mv),(1,Zj [x] mv')]) L) w w':=by
    rw[h2];exact Q9 hfr _ _ _
   refine inplace g cap cur w' hr1 hfr hk (by omega) fun j z hj=>?_
   rw[hsame] at hj;rw[h2];rcases QB8 j zs.length with h | h
   ·rw[QBg h] at hj
    rw[World.cell?_setCells_out g [_] (0+zs.length) _ ⟨g,j,none⟩ (fun _ _=>by grind),hr1.cell,hr1.get j h]
    obtain ⟨h3,h4⟩:=QA2.1 hj;rw[h4]
   ·have hj':j=zs.length:=by have:=(QA2.1 hj).1;grind
    subst hj';simp at hj;subst hj
    have:=World.cell?_setCells_in g [Value.int .i64 x] (0+zs.length) w (fun k hk=>by
     simp at hk;subst hk;rw[hr1.cell,QBv (by have:=hr1.size;omega)];rfl) 0 (by simp)
    simpa using this
  ·refine grow (some ⟨g,0,none⟩) cap hv hle (by omega) (by simp) (fun a ha j v hj=>?_)
   injection ha with ha
   subst ha;rw[QA9,QA4] at hj;obtain ⟨z,hz,rfl⟩:=hj;obtain ⟨h1,h2⟩:=QA2.1 hz;rw[Addr.add_lit,QBm,hr1.cell,hr1.get j h1,h2]
end
end Go.Ev
set_option linter.unusedVariables false
set_option linter.unusedSimpArgs false
namespace Go.Pf
open Go Go.Proofs Go.Shelf Go.RowKit Go.Lib
theorem i3z:(Tryz.prog.info? 3).map (fun i=>(i.zero,i.size,i.bytes))=some (some (Value.int IntKind.i64 0),1,8):=by kernel_rfl
theorem Qd7:Tryz.prog.follows .mixedOrders=true:=by kernel_rfl
set_option maxHeartbeats 4000000 in
set_option maxRecDepth 100000 in
theorem U5 (b off n c i vb voff m vc:Nat) (cs vs:List Value) (w:World) (hi:i<n) (hm:0<m) (hroom:n+m<=c) (hc63:c<=9223372036854775807) (hvb:vb≠b)
  (hcl:cs.length=n) (hvl:vs.length=m)
  (hcs:∀ j v,cs[j]?=some v->w.cell? ⟨b,off+j,none⟩=some v) (hsp:∀ j,j<n+m->(w.cell? ⟨b,off+j,none⟩).isSome=true) (hfz:∀ j,j<n+m->w.frozen? ⟨b,off+j,none⟩=false)
  (hvs:∀ j v,vs[j]?=some v->w.cell? ⟨vb,voff+j,none⟩=some v) (h1c:∀ v∈cs,v.oneCell'=true) (h1v:∀ v∈vs,v.oneCell'=true)
  (tA tB:TypeId) (kA kB:Nat) (hsa:w.shape? vb=some (tA,kA)) (hsb:w.shape? b=some (tB,kB)) (hkB:kB≠0) (hfa:w.frozen? ⟨vb,voff,none⟩=false) (hfe:w.frozen? ⟨vb,kA,none⟩=false) :
  Calls Tryz.prog 273 #[.slice (some ⟨b,off,none⟩) n c,.int .i64 i,.slice (some ⟨vb,voff,none⟩) m vc] w fun e w' =>
   e=.returned (.slice (some ⟨b,off,none⟩) (n+m) c)/\w'=(w.drew.setCells b (off+(i+m)) (cs.drop i)).setCells b (off+i) vs:=by
 have t0:=Tryz.underlying0;have a0:=Tryz.isAgg0;have z0:=Tryz.sizeOf0;have v0:=Tryz.zeroValue0;have t3:=Tryz.underlying3;have a3:=Tryz.isAgg3;have z3:=Tryz.sizeOf3;have v3:=Tryz.zeroValue3;have t4:=Tryz.underlying4;have a4:=Tryz.isAgg4;have z4:=Tryz.sizeOf4;have v4:=Tryz.zeroValue4;have t186:=Tryz.underlying213;have a186:=Tryz.isAgg213;have z186:=Tryz.sizeOf213;have v186:=Tryz.zeroValue213;have t74:=Tryz.underlying22;have a74:=Tryz.isAgg22;have z74:=Tryz.sizeOf22;have v74:=Tryz.zeroValue22;have u0:=run_underlying t0;have u3:=run_underlying t3;have u4:=run_underlying t4;have u186:=run_underlying t186;have u74:=run_underlying t74;have hz1:¬ ((m:Int)=0):=by omega
 have hz2:¬ ((i:Int)=(n:Int)):=by omega
 have hsz:(Tryz.prog.info? 3).map (·.size)=some 1:=by
  obtain ⟨i0,hi0,h0,h1,h2⟩:=info_parts i3z
  grind
 have hov:∀ lb cb,(callFunc 303 #[.slice (some ⟨vb,voff,none⟩) m vc,.slice (some ⟨b,off+(i+m),none⟩) lb cb]).run Tryz.prog w=.ok (.value (.bool false)) w:=fun lb cb=>by
  rw[run_callFunc_extern Tryz.func303 (by kernel_rfl) (by kernel_rfl) (by kernel_rfl) (e:=Extern.SlicesOverlaps.overlaps #[22,22] #[4]) (by kernel_rfl),
   Lib.run_overlaps_apart w 22 4 3 t74 1 z3 ⟨vb,voff,none⟩ ⟨b,off+(i+m),none⟩ m vc lb cb hvb tA tB kA kB hsa hsb hkB hfa hfe]
  rfl
 have hdl:(cs.drop i).length=n-i:=by grind
 have mixed:=Qd7;have hw1:IntKind.i64.wrap ((i:Int)+(m:Int))=(i:Int)+(m:Int):=by rw[IntKind.wrap_i64];omega
 have hb1:(0:Int)<=(i:Int)+(m:Int):=by omega
 have hin:i<=n:=by omega
 have htn:((i:Int)+(m:Int)).toNat=i+m:=by omega
 have hb2:¬ (c=i+m):=by omega
 have hb3:(i:Int)<=(n:Int)+(m:Int):=by omega
 have hb4:¬ (c=i):=by omega
 have hcp1:∀ ty dc sc,(Builtin.copy_ #[213,213] ty #[.slice (some ⟨b,off+(i+m),none⟩) (n+m-(i+m)) dc,.slice (some ⟨b,off+i,none⟩) (n+m-i) sc]).run Tryz.prog w.drew=.ok (goInt (cs.drop i).length) (w.drew.setCells b (off+(i+m)) (cs.drop i)):=fun ty dc sc =>
  run_copy_cells w.drew _ _ ty 3 b (off+(i+m)) (n+m-(i+m)) dc ⟨b,off+i,none⟩ (n+m-i) sc (cs.drop i) t186 hsz (by grind)
   (fun j v hj=>by rw[Addr.add_lit,QBP];exact hcs (i+j) v (by grind))
   (fun j hj=>by rw[QBP];exact hsp _ (by omega)) (fun j hj=>by rw[QBP];exact hfz _ (by omega)) (fun v hv=>h1c v (QBN hv))
 obtain ⟨W1,hW1⟩:∃ W1,W1=w.drew.setCells b (off+(i+m)) (cs.drop i):=⟨_,rfl⟩
 have hsp1:∀ k,k<n+m->(W1.cell? ⟨b,off+k,none⟩).isSome=true:=fun k hk=>by
  rw[hW1];exact isSome_setCells b _ _ _ (fun j hj=>by rw[QBP];exact hsp _ (by omega)) _ (hsp k hk)
 have hcp2:∀ (W:World),(∀ x,W.cell? x=W1.cell? x)->(∀ x,W.frozen? x=W1.frozen? x)->∀ ty dc,(Builtin.copy_ #[213,22] ty #[.slice (some ⟨b,off+i,none⟩) (n+m-i) dc,.slice (some ⟨vb,voff,none⟩) m vc]).run Tryz.prog W=.ok (goInt vs.length) (W.setCells b (off+i) vs):=fun W hWc hWf ty dc =>
  run_copy_cells W _ _ ty 3 b (off+i) (n+m-i) dc ⟨vb,voff,none⟩ m vc vs t186 hsz (by grind)
   (fun j v hj=>by
     rw[Addr.add_lit,hWc,hW1,World.cell?_setCells_out b _ _ _ _ (fun h _=>absurd h hvb)]
     exact hvs j v hj)
   (fun j hj=>by rw[hWc,QBP];exact hsp1 _ (by omega)) (fun j hj=>by rw[hWf,hW1,World.frozen?_setCells,QBP];exact hfz _ (by omega)) h1v
 rw[<- hW1] at hcp1
 go_enter Tryz.func273,Tryz.ntmps273
 go_wp2_with (simp only[hov])
 go_region_law_o (refine step_copy_runI rfl _ _ 213 213 rfl _ _ (by simp[Act.eval,Act.put]) (by simp[Act.eval,Act.put]) (hcp1 _ _ _) ?_)
 go_wp2_with (at_builtin;refine wpList_copy_runI _ rfl _ _ 213 22 rfl _ _ rfl rfl (hcp2 _ (fun _=>rfl) (fun _=>rfl) _ _) ?_)
 go_ret
 first | exact ⟨rfl,rfl⟩ | exact ⟨rfl,by rw[hW1]⟩
set_option maxHeartbeats 4000000 in
set_option maxRecDepth 100000 in
theorem JR (b off n c vb voff m vc:Nat) (vs:List Value) (w:World) (hm:0<m) (hroom:n+m<=c) (hc63:c<=9223372036854775807)
  (hvl:vs.length=m) (hsp:∀ j,j<m->(w.cell? ⟨b,off+n+j,none⟩).isSome=true) (hfz:∀ j,j<m->w.frozen? ⟨b,off+n+j,none⟩=false)
  (hvs:∀ j v,vs[j]?=some v->w.cell? ⟨vb,voff+j,none⟩=some v) (h1v:∀ v∈vs,v.oneCell'=true) :
  Calls Tryz.prog 273 #[.slice (some ⟨b,off,none⟩) n c,.int .i64 n,.slice (some ⟨vb,voff,none⟩) m vc] w fun e w' =>
   e=.returned (.slice (some ⟨b,off,none⟩) (n+m) c)/\w'=w.setCells b (off+n) vs:=by
 have t0:=Tryz.underlying0;have a0:=Tryz.isAgg0;have z0:=Tryz.sizeOf0;have v0:=Tryz.zeroValue0;have t3:=Tryz.underlying3;have a3:=Tryz.isAgg3;have z3:=Tryz.sizeOf3;have v3:=Tryz.zeroValue3;have t4:=Tryz.underlying4;have a4:=Tryz.isAgg4;have z4:=Tryz.sizeOf4;have v4:=Tryz.zeroValue4;have t186:=Tryz.underlying213;have a186:=Tryz.isAgg213;have z186:=Tryz.sizeOf213;have v186:=Tryz.zeroValue213;have t74:=Tryz.underlying22;have a74:=Tryz.isAgg22;have z74:=Tryz.sizeOf22;have v74:=Tryz.zeroValue22;have u0:=run_underlying t0;have u3:=run_underlying t3;have u4:=run_underlying t4;have u186:=run_underlying t186;have u74:=run_underlying t74;have mixed:=Qd7;have hz1:¬ ((m:Int)=0):=by omega
 have hsrc:Src Tryz.prog 1 22 (.slice (some ⟨vb,voff,none⟩) m vc) m vs w:=Src.ofSlice w t74 ⟨vb,voff,none⟩ m vc vs (by omega) (fun j u hj=>by rw[Addr.add_lit];exact hvs j u hj) h1v
 go_enter Tryz.func273,Tryz.ntmps273
 go_wp2_with (at_builtin;refine wpList_append_room1 _ rfl _ _ 213 22 rfl 3 _ _ t186 i3z b off n c rfl _ rfl m vs hsrc hroom (by grind) (by grind) ?_)
 go_ret
 exact ⟨rfl,rfl⟩
set_option maxHeartbeats 4000000 in
set_option maxRecDepth 100000 in
theorem JS (base:Option Addr) (n c vb voff m vc:Nat) (cs vs:List Value) (w:World) (hm:0<m) (hnc:n<=c) (hroom:c<n+m) (hbig:(n+m)*8<=140737488355328)
  (hcl:cs.length=n) (hvl:vs.length=m) (hnil:base=none->n=0)
  (hcs:∀ a,base=some a->∀ j v,cs[j]?=some v->w.cell? (a.add j)=some v)
  (hvs:∀ j v,vs[j]?=some v->w.cell? ⟨vb,voff+j,none⟩=some v) (h1v:∀ v∈vs,v.oneCell'=true) :
  Calls Tryz.prog 273 #[.slice base n c,.int .i64 n,.slice (some ⟨vb,voff,none⟩) m vc] w fun e w' =>
   e=.returned (.slice (some ⟨w.heap.size,0,none⟩) (n+m) (grownCap w (n+m) c 3)) /\
   w'=w.drew.alloc (.cells ((cs++vs).toArray++Builtin.zeroCells (Value.int .i64 0).cells (grownCap w (n+m) c 3-(n+m))) 3):=by
 have t0:=Tryz.underlying0;have a0:=Tryz.isAgg0;have z0:=Tryz.sizeOf0;have v0:=Tryz.zeroValue0;have t3:=Tryz.underlying3;have a3:=Tryz.isAgg3;have z3:=Tryz.sizeOf3;have v3:=Tryz.zeroValue3;have t4:=Tryz.underlying4;have a4:=Tryz.isAgg4;have z4:=Tryz.sizeOf4;have v4:=Tryz.zeroValue4;have t186:=Tryz.underlying213;have a186:=Tryz.isAgg213;have z186:=Tryz.sizeOf213;have v186:=Tryz.zeroValue213;have t74:=Tryz.underlying22;have a74:=Tryz.isAgg22;have z74:=Tryz.sizeOf22;have v74:=Tryz.zeroValue22;have u0:=run_underlying t0;have u3:=run_underlying t3;have u4:=run_underlying t4;have u186:=run_underlying t186;have u74:=run_underlying t74;have mixed:=Qd7;obtain ⟨i0,hi0,hz0,hzs,hzb⟩:=info_parts i3z;have hz1:¬ ((m:Int)=0):=by omega
 have hsrc:Src Tryz.prog i0.size 22 (.slice (some ⟨vb,voff,none⟩) m vc) m vs w:=by
  rw[hzs];exact Src.ofSlice w t74 ⟨vb,voff,none⟩ m vc vs (by omega) (fun j u hj=>by rw[Addr.add_lit];exact hvs j u hj) h1v
 have hold:(Builtin.firstCells i0.size n (.slice base n c)).run Tryz.prog w.drew=.ok cs.toArray w.drew:=by
  rw[hzs];cases base with
  | none =>
    have h0:=hnil rfl;subst h0;rw[List.length_eq_zero_iff.1 hcl];exact run_firstCells_none w.drew 1 0 0 c
  | some a=>exact run_firstCells_some w.drew 1 n a n c cs (by omega) (fun j v hj=>hcs a rfl j v hj)
 have hrun:∀ ty,(Builtin.append_ #[213,22] ty #[.slice base n c,.slice (some ⟨vb,voff,none⟩) m vc]).run Tryz.prog w=_:=fun ty =>
  run_append_grow_src w 213 22 ty 3 i0 _ t186 hi0 hz0 base n c cs hold _ m vs hsrc hroom (by omega) (by rw[hzb];exact growslice_fits hroom hbig)
 go_enter Tryz.func273,Tryz.ntmps273
 cases base with
 | none =>
   have h0:=hnil rfl;subst h0
   go_wp2_with (at_builtin;refine Lib.wpList_append_run _ rfl _ _ _ _ rfl _ _ rfl rfl _ _ (hrun _) ?_)
   go_ret
   exact ⟨rfl,rfl⟩
 | some a =>
   obtain ⟨ab,ao,asp⟩:=a
   go_wp2_with (at_builtin;refine Lib.wpList_append_run _ rfl _ _ _ _ rfl _ _ rfl rfl _ _ (hrun _) ?_)
   all_goals (go_ret;exact ⟨rfl,rfl⟩)
set_option maxHeartbeats 4000000 in
set_option maxRecDepth 100000 in
theorem WK (b off n c i vb voff m vc:Nat) (cs vs:List Value) (w:World) (hi:i<n) (hm:0<m) (hnc:n<=c) (hroom:c<n+m) (hbig:(n+m)*8<=140737488355328)
  (hcl:cs.length=n) (hvl:vs.length=m)
  (hcs:∀ j v,cs[j]?=some v->w.cell? ⟨b,off+j,none⟩=some v)
  (hvs:∀ j v,vs[j]?=some v->w.cell? ⟨vb,voff+j,none⟩=some v) (h1c:∀ v∈cs,v.oneCell'=true) (h1v:∀ v∈vs,v.oneCell'=true) :
  Calls Tryz.prog 273 #[.slice (some ⟨b,off,none⟩) n c,.int .i64 i,.slice (some ⟨vb,voff,none⟩) m vc] w fun e w' =>
   e=.returned (.slice (some ⟨w.heap.size,0,none⟩) (n+m) (grownCap w (n+m) c 3)) /\
   w'=(((w.alloc (.cells ((cs.take i).toArray++Builtin.zeroCells (Value.int .i64 0).cells (n+m-i)++Builtin.zeroCells (Value.int .i64 0).cells (grownCap w (n+m) c 3-(n+m))) 3)).drew.setCells w.heap.size i vs).drew).setCells w.heap.size (i+m) (cs.drop i):=by
 have t0:=Tryz.underlying0;have a0:=Tryz.isAgg0;have z0:=Tryz.sizeOf0;have v0:=Tryz.zeroValue0;have t3:=Tryz.underlying3;have a3:=Tryz.isAgg3;have z3:=Tryz.sizeOf3;have v3:=Tryz.zeroValue3;have t4:=Tryz.underlying4;have a4:=Tryz.isAgg4;have z4:=Tryz.sizeOf4;have v4:=Tryz.zeroValue4;have t186:=Tryz.underlying213;have a186:=Tryz.isAgg213;have z186:=Tryz.sizeOf213;have v186:=Tryz.zeroValue213;have t74:=Tryz.underlying22;have a74:=Tryz.isAgg22;have z74:=Tryz.sizeOf22;have v74:=Tryz.zeroValue22;have u0:=run_underlying t0;have u3:=run_underlying t3;have u4:=run_underlying t4;have u186:=run_underlying t186;have u74:=run_underlying t74;have mixed:=Qd7;obtain ⟨i0,hi0,hz0,hzs,hzb⟩:=info_parts i3z;have hz1:¬ ((m:Int)=0):=by omega
 have hz2:¬ ((i:Int)=(n:Int)):=by omega
 have hz3:(c:Int)<(n:Int)+(m:Int):=by omega
 have hsz:(Tryz.prog.info? 3).map (·.size)=some 1:=by grind
 have hbw:b<w.heap.size:=block_lt_of_cell (hcs 0 _ (QA0 (by omega)))
 have hvw:vb<w.heap.size:=block_lt_of_cell (hvs 0 _ (QA0 (by omega)))
 have hkk:(n:Int)+(m:Int)-(i:Int)=((n+m-i:Nat):Int):=by omega
 have hik:i+(n+m-i)=n+m:=by omega
 have hold:(Builtin.firstCells i0.size i (.slice (some ⟨b,off,none⟩) i c)).run Tryz.prog w.drew=.ok (cs.take i).toArray w.drew:=by
  rw[hzs]
  exact run_firstCells_some w.drew 1 i ⟨b,off,none⟩ i c (cs.take i) (by grind) (fun j v hj=>by
   rw[Addr.add_lit];rw[QBx] at hj;split at hj
   ·exact hcs j v hj
   ·cases hj)
 have hrz:∀ ty,(Builtin.append_ #[213,3] ty #[.slice (some ⟨b,off,none⟩) i c,.int .i64 ((n:Int)+(m:Int)-(i:Int))]).run Tryz.prog w =
   .ok (.slice (some ⟨w.heap.size,0,none⟩) (n+m) (grownCap w (n+m) c 3)) (w.drew.alloc (.cells ((cs.take i).toArray++Builtin.zeroCells (Value.int .i64 0).cells (n+m-i)++Builtin.zeroCells (Value.int .i64 0).cells (grownCap w (n+m) c 3-(n+m))) 3)):=fun ty=>by
  have h:=Lib.run_append_grow_zeros w 213 3 ty 3 i0 _ .i64 .i64 t186 t3 hi0 hz0 (some ⟨b,off,none⟩) i c (cs.take i) hold (n+m-i) (by omega) (by omega) (by omega) (by omega) (by rw[hzb];omega) (by rw[hzb,hik];exact growslice_fits hroom hbig)
  grind
 obtain ⟨G,hG⟩:∃ G,G=grownCap w (n+m) c 3:=⟨_,rfl⟩
 obtain ⟨ROW,hROW⟩:∃ ROW:Array Value,ROW=(cs.take i).toArray++Builtin.zeroCells (Value.int .i64 0).cells (n+m-i)++Builtin.zeroCells (Value.int .i64 0).cells (G-(n+m)):=⟨_,rfl⟩
 rw[<- hG] at hrz |-;rw[<- hROW] at hrz |-
 have hRl:n+m<=ROW.size:=by
  rw[hROW];simp[Builtin.zeroCells,Value.cells];omega
 obtain ⟨W1,hW1⟩:∃ W1,W1=w.drew.alloc (.cells ROW 3):=⟨_,rfl⟩
 rw[<- hW1] at hrz
 have hN:∀ j,j<n+m->(W1.cell? ⟨w.heap.size,j,none⟩).isSome=true:=fun j hj=>by
  rw[hW1,World.cell?_alloc_at (w:=w.drew) ROW _ w.heap.size j rfl,QBv (by omega)];rfl
 have hNf:∀ j,W1.frozen? ⟨w.heap.size,j,none⟩=false:=fun j=>by rw[hW1];exact World.frozen?_alloc_at (w:=w.drew) ROW _ w.heap.size j rfl
 have hOb:∀ j v,w.cell? ⟨b,j,none⟩=some v->W1.cell? ⟨b,j,none⟩=some v:=fun j v h=>by rw[hW1,World.cell?_alloc_past (w:=w.drew) _ b j hbw];exact h
 have hOv:∀ j v,w.cell? ⟨vb,j,none⟩=some v->W1.cell? ⟨vb,j,none⟩=some v:=fun j v h=>by rw[hW1,World.cell?_alloc_past (w:=w.drew) _ vb j hvw];exact h
 have hcpA:∀ (W:World),(∀ x,W.cell? x=W1.cell? x)->(∀ x,W.frozen? x=W1.frozen? x)->∀ ty dc,(Builtin.copy_ #[213,22] ty #[.slice (some ⟨w.heap.size,i,none⟩) (n+m-i) dc,.slice (some ⟨vb,voff,none⟩) m vc]).run Tryz.prog W=.ok (goInt vs.length) (W.setCells w.heap.size i vs):=fun W hWc hWf ty dc =>
  run_copy_cells W _ _ ty 3 w.heap.size i (n+m-i) dc ⟨vb,voff,none⟩ m vc vs t186 hsz (by grind)
   (fun j v hj=>by rw[Addr.add_lit,hWc];grind)
   (fun j hj=>by grind) (fun j hj=>by grind) h1v
 have hGn:n+m<=G:=by rw[hG];exact grownCap_ge w _ _ _
 have hG63:G<=9223372036854775807:=by
  have:=grownCap_le_maxLen w (n+m) c 3 (by unfold maxLen;omega)
  rw[<- hG] at this;unfold maxLen at this;omega
 have hGi:¬ (G=i):=by omega
 have hGim:¬ (G=i+m):=by omega
 have hci:¬ (c=i):=by omega
 have hbN:b≠w.heap.size:=by omega
 have hdl:(cs.drop i).length=n-i:=by grind
 have hcpB:∀ (W:World),(∀ x,W.cell? x=(W1.setCells w.heap.size i vs).cell? x)->(∀ x,W.frozen? x=(W1.setCells w.heap.size i vs).frozen? x)->∀ ty dc sc,(Builtin.copy_ #[213,213] ty #[.slice (some ⟨w.heap.size,i+m,none⟩) (n+m-(i+m)) dc,.slice (some ⟨b,off+i,none⟩) (n-i) sc]).run Tryz.prog W=.ok (goInt (cs.drop i).length) (W.setCells w.heap.size (i+m) (cs.drop i)):=fun W hWc hWf ty dc sc =>
  run_copy_cells W _ _ ty 3 w.heap.size (i+m) (n+m-(i+m)) dc ⟨b,off+i,none⟩ (n-i) sc (cs.drop i) t186 hsz (by grind)
   (fun j v hj=>by
     rw[Addr.add_lit,hWc,World.cell?_setCells_out _ _ _ _ _ (fun h _=>absurd h hbN),QBP]
     grind)
   (fun j hj=>by rw[hWc];exact isSome_setCells _ _ _ _ (fun t ht=>hN _ (by omega)) _ (hN _ (by omega)))
   (fun j hj=>by rw[hWf,World.frozen?_setCells];exact hNf _) (fun v hv=>h1c v (QBN hv))
 subst hW1;have hE1:∀ x,((w.alloc (.cells ROW 3)).drew).cell? x=(w.drew.alloc (.cells ROW 3)).cell? x:=fun x=>rfl
 have hE2:∀ x,((w.alloc (.cells ROW 3)).drew).frozen? x=(w.drew.alloc (.cells ROW 3)).frozen? x:=fun x=>rfl
 have hF1:∀ x,(((w.alloc (.cells ROW 3)).drew.setCells w.heap.size i vs).drew).cell? x=((w.drew.alloc (.cells ROW 3)).setCells w.heap.size i vs).cell? x:=fun x=>rfl
 have hF2:∀ x,(((w.alloc (.cells ROW 3)).drew.setCells w.heap.size i vs).drew).frozen? x=((w.drew.alloc (.cells ROW 3)).setCells w.heap.size i vs).frozen? x:=fun x=>rfl
 have hw1:IntKind.i64.wrap ((i:Int)+(m:Int))=(i:Int)+(m:Int):=by rw[IntKind.wrap_i64];omega
 have hb1:(0:Int)<=(i:Int)+(m:Int):=by omega
 have hin:i<=n:=by omega
 have htn:((i:Int)+(m:Int)).toNat=i+m:=by omega
 have hb3:(i:Int)<=(n:Int):=by omega
 clear hkk hik hold hROW hG hRl
 go_enter Tryz.func273,Tryz.ntmps273
 go_wp2_with (first
  | (at_builtin;refine Lib.wpList_append_run _ rfl _ _ _ _ rfl _ _ rfl rfl _ _ (hrz _) ?_)
  | (at_builtin;refine wpList_copy_runI _ rfl _ _ 213 22 rfl _ _ rfl rfl (hcpA _ hE1 hE2 _ _) ?_)
  | (at_builtin;refine wpList_copy_runI _ rfl _ _ 213 213 rfl _ _ rfl rfl (hcpB _ (fun _=>rfl) (fun _=>rfl) _ _ _) ?_))
 go_region_law_o (refine step_copy_runI rfl _ _ 213 213 rfl (.slice (some ⟨w.heap.size,i+m,none⟩) (n+m-(i+m)) (G-(i+m))) (.slice (some ⟨b,off+i,none⟩) (n-i) (c-i)) (by simp[Act.eval,Act.put]) (by simp[Act.eval,Act.put]) (hcpB _ hF1 hF2 3 (G-(i+m)) (c-i)) ?_)
 go_wp2
 go_ret
 exact ⟨rfl,rfl⟩
end Go.Pf
namespace Go.Pf
open Go Go.Ev Go.Proofs Go.RowKit Go.Shelf
set_option maxRecDepth 8000
noncomputable def Qub:TypeInfo:=(Tryz.prog.info? 3).get (by kernel_rfl)
section
variable {K:World->Prop}
theorem Qjd (zs:List Int) (mv:Nat):Zn Tryz.prog K 276 [.aref 0 zs.length] [(0,Zj zs mv)] [0] (.iv (.tup [])) [(0,Zj zs.reverse zs.length)] :=
 qO (fun a cap w=>AnyE.slices_Reverse_empty Tryz.rev276 a cap w) (fun blk off cap zs w hh hl=>AnyE.slices_Reverse Tryz.rev276 (Value.int .i64) (fun _=>rfl) blk off cap zs w hh hl) zs mv
theorem Qje (zs:List Int) (mv i:Nat) (hi:i<zs.length):Zn Tryz.prog K 275 [.aref 0 zs.length,.iv (.int .i64 (i:Nat)),.iv (.int .i64 ((i+1:Nat):Int))] [(0,Zj zs mv)] [] (.iv (Qik (zs.eraseIdx i))) [] :=
 QbU (fun blk off cap i j d w hh h1 h2 h3 h4=>AnyE.slices_Delete Tryz.del275 (Value.int .i64) (fun _=>rfl) 0 Tryz.zeroValue3 Qub (by kernel_rfl) (by kernel_rfl) blk off cap i j d w hh h1 h2 h3 h4) zs mv i hi
theorem Qjf (zs:List Int) (mv i:Nat) (hi:i<=zs.length) (x:Int) (mv':Nat) (hlen:zs.length<=1000000):Zn Tryz.prog K 273 [.aref 0 zs.length,.iv (.int .i64 (i:Nat)),.aref 1 1] [(0,Zj zs mv),(1,Zj [x] mv')] [] (.iv (Qik (zs.take i++x::zs.drop i))) [] :=
 Qbw
  (fun b n c i vb vc cs x w h1 h2 h3 h4 h5 h6 h7 h8 h9 h10 h11 tA tB kA kB h12 h13 h14 h15 h16=>U5 b 0 n c i vb 0 1 vc cs [x] w h1 (by omega) h2 h3 h4 h5 rfl h6 h7 h8 h9 h10 h11 tA tB kA kB h12 h13 h14 h15 h16)
  (fun b n c vb vc x w h1 h2 h3 h4 h5 h6=>JR b 0 n c vb 0 1 vc [x] w (by omega) h1 h2 rfl h3 h4 h5 h6)
  (fun base n c vb vc cs x w h1 h2 h3 h4 h5 h6 h7 h8=>JS base n c vb 0 1 vc cs [x] w (by omega) h1 h2 h3 h4 rfl h5 h6 h7 h8)
  (fun b n c i vb vc cs x w h1 h2 h3 h4 h5 h6 h7 h8 h9=>WK b 0 n c i vb 0 1 vc cs [x] w h1 (by omega) h2 h3 h4 h5 rfl h6 h7 h8 h9)
  zs mv i hi x mv' hlen
end
end Go.Pf
namespace Go.Pf
open Go Go.Ev Go.Proofs Go.RowKit
set_option maxRecDepth 8000
def QkL (i:Nat) (kvs:List (MK × List (List IV))) (n:Nat):List (MK × List (List IV)):=mins (.int .i64 (n:Int)) (((Qh (.int .i64 (n:Int)) kvs).getD [])++[[.int .i64 (i:Nat)]]) kvs
def prf (ds:List Qw) (e:Nat->Int):Nat->List (MK × List (List IV))
 | 0=>[]
 | i+1=>match ds[i]? with
   | some d=>if d.what=4 then (cab ds e i).foldl (QkL i) (prf ds e i) else prf ds e i
   | none=>prf ds e i
theorem QdZ (ds:List Qw) (e:Nat->Int) (i:Nat) (h:i<ds.length):prf ds e (i+1)=if ds[i].what=4 then (cab ds e i).foldl (QkL i) (prf ds e i) else prf ds e i:=by
 simp only[prf,QA0 h]
theorem Vs (n:Int) (y:List (List IV)):∀ kvs:List (MK × List (List IV)),QZ (some .i64) kvs->QZ (some .i64) (mins (.int .i64 n) y kvs)
 | [],_=>⟨rfl,trivial⟩
 | p::r,h=>by
   unfold mins;split
   ·exact ⟨rfl,h.2⟩
   ·exact ⟨h.1,Vs n y r h.2⟩
theorem Wh (k j:MK) (y:List (List IV)):∀ kvs:List (MK × List (List IV)),Qh j (mins k y kvs)=if k=j then some y else Qh j kvs
 | []=>by simp[mins,Qh]
 | p::r=>by
   unfold mins;split
   ·rename_i h
    simp only[Qh]
    grind
   ·rename_i h
    simp only[Qh,Wh k j y r]
    grind
def Low (m:Nat) (kvs:List (MK × List (List IV))):Prop:=QZ (some .i64) kvs/\∀ k rows,Qh k kvs=some rows->rows.length<=m
theorem Low.add {m i:Nat} {kvs:List (MK × List (List IV))} (h:Low m kvs) (n:Nat):Low (m+1) (QkL i kvs n):=by
 refine ⟨Vs _ _ _ h.1,fun k rows hk=>?_⟩
 unfold QkL at hk;rw[Wh] at hk;split at hk
 ·injection hk with hk
  subst hk;cases hf:Qh (.int .i64 (n:Int)) kvs with
  | none=>simp
  | some r=>have:=h.2 _ _ hf;simp;omega
 ·have:=h.2 _ _ hk;omega
theorem Low.fold {i:Nat}:∀ (l:List Nat) {m:Nat} {kvs:List (MK × List (List IV))},Low m kvs->Low (m+l.length) (l.foldl (QkL i) kvs)
 | [],m,kvs,h=>h
 | n::l,m,kvs,h=>by
   have:=Low.fold (i:=i) l (h.add (i:=i) n)
   grind
theorem Low.mono {m m':Nat} {kvs:List (MK × List (List IV))} (h:Low m kvs) (hm:m<=m'):Low m' kvs:=⟨h.1,fun k rows hk=>QBY (h.2 k rows hk) hm⟩
theorem Qgd (ds:List Qw) (e:Nat->Int) (hc:OkD ds ds.length):∀ i,i<=ds.length->Low (i*ds.length) (prf ds e i)
 | 0,_=>⟨trivial,fun k rows h=>by simp[prf,Qh] at h⟩
 | i+1,h=>by
   have ih:=Qgd ds e hc i (by omega)
   rw[QdZ ds e i (by omega)]
   have e1:(i+1)*ds.length=i*ds.length+ds.length:=by grind
   rw[e1];split
   ·have hcl:=VH e hc i (by omega) (by omega)
    have hcb:=hc.cnt i (by omega) (by omega)
    exact (ih.fold _).mono (by omega)
   ·exact ih.mono (by omega)
theorem Low.len {m:Nat} {kvs:List (MK × List (List IV))} (h:Low m kvs) (k:MK):((Qh k kvs).getD []).length<=m:=by
 cases hf:Qh k kvs with
 | none=>simp
 | some r=>exact h.2 _ _ hf
theorem QcV (ds:List Qw) (i:Nat) (h:i<ds.length):Xi (ds.take (i+1))=if ds[i].what=1 then Xi (ds.take i)++[ds[i]] else Xi (ds.take i):=by
 rw[QA3 h];unfold Xi;rw[QCj];generalize List.filter ZH (List.take i ds)=l;by_cases hw:ds[i].what=1<;>simp[ZH,hw]
theorem Qgw (ds:List Qw) (i:Nat):(Xi (ds.take i)).length=wn ds i:=by rw[Vr];rfl
@[simp] def QwB (kvs:List (MK × List (List IV))):IV:=.map (kvs.map fun p=>(p.1,.sl 1 p.2))
theorem Qi8 (n:Nat) (z:IV):QaB (List.replicate n [AV.iv z])=some (List.replicate n [z]):=by
 have:=Qu (List.replicate n [z]);simpa[emb] using this
theorem Ul (l:List Nat) (mv:Nat):Zj (l.map fun (n:Nat)=>(n:Int)) mv=AO.arr 3 1 (emb (l.map fun (n:Nat)=>[IV.int .i64 (n:Int)])) mv:=by simp[Zj,emb]
theorem Qbv (l:List Nat):Qik (l.map fun (n:Nat)=>(n:Int))=UR l:=by simp[Qik]
section
variable {K:World->Prop} {C:Env->Qi->Prop}
theorem Jo (m:Nat->Nat) (e:TypeId) (sz:Nat) (xs:List (List IV)) (mv:Nat):rnO m (.arr e sz (emb xs) mv)=.arr e sz (emb xs) mv:=Qf2 m e sz xs mv
theorem VG (dom:List Nat) (e:TypeId) (sz:Nat) (xs:List (List IV)) (mv:Nat):clO dom (.arr e sz (emb xs) mv)=true:=QhJ dom e sz xs mv
theorem Qfw {id n mv:Nat} {d:Option Nat} {e:Env} {o:Qi} (l:List Nat) (hid:Qc o id=some (.arr 3 1 (emb (l.map fun (n:Nat)=>[IV.int .i64 (n:Int)])) mv)) (hn:n=l.length)
  (h:C (bnd d (.iv (.tup [])) (QiI (Xk [id] [0] o) e)) (Qml [id] (Xk [id] [0] o) o [(0,.arr 3 1 (emb (l.reverse.map fun (n:Nat)=>[IV.int .i64 (n:Int)])) n)])):HK Tryz.prog K 276 [id] d C e o [.aref id n]:=by
 have hg:=Qjd (K:=K) (l.map fun (n:Nat)=>(n:Int)) mv
 rw[<- List.map_reverse,Ul,Ul,QBb] at hg;subst hn;refine ZQ hg (by simp[rn,nth]) ?_ ?_
 ·refine ⟨by simp,by simp[clA],?_,?_,by simp[XO]⟩
  ·intro p hp
   simp only[QBk] at hp;subst hp;exact ⟨by simp,by rw[Jo];simpa[nth] using hid,VG _ _ _ _ _,rfl⟩
  ·intro i hi h
   simp at hi;subst hi;simp[Qc] at h
 ·simpa[rn] using h
theorem qq {id n mv:Nat} {d:Option Nat} {e:Env} {o:Qi} (l:List Nat) (i:Nat) (hi:i<l.length) (hid:Qc o id=some (.arr 3 1 (emb (l.map fun (n:Nat)=>[IV.int .i64 (n:Int)])) mv)) (hn:n=l.length) {avs:List AV} (ha:avs=[.aref id n,.iv (.int .i64 (i:Nat)),.iv (.int .i64 ((i+1:Nat):Int))])
  (h:C (bnd d (.iv (UR (l.eraseIdx i))) (QiI (Xk [id] [] o) e)) (Qml [id] (Xk [id] [] o) o [])):HK Tryz.prog K 275 [id] d C e o avs:=by
 have hg:=Qje (K:=K) (l.map fun (n:Nat)=>(n:Int)) mv i (by simpa using hi)
 have e1:(l.map fun (n:Nat)=>(n:Int)).eraseIdx i=(l.eraseIdx i).map fun (n:Nat)=>(n:Int):=by simp[List.eraseIdx_eq_take_drop_succ]
 rw[e1,Ul,Qbv,QBb] at hg;subst hn;refine ZQ hg (by rw[ha];simp[rn,nth]) ?_ ?_
 ·refine ⟨by simp,by simp[clA],?_,?_,by simp⟩
  ·intro p hp
   simp only[QBk] at hp;subst hp;exact ⟨by simp,by rw[Jo];simpa[nth] using hid,VG _ _ _ _ _,rfl⟩
  ·intro i hi h
   simp at hi;subst hi;simp[Qc] at h
 ·simpa[rn] using h
theorem qp {id id' n mv mv':Nat} {d:Option Nat} {e:Env} {o:Qi} (l:List Nat) (i:Nat) (hi:i<=l.length) (x:Nat) (hlen:l.length<=1000000) (hne:id≠id') (hid:Qc o id=some (.arr 3 1 (emb (l.map fun (n:Nat)=>[IV.int .i64 (n:Int)])) mv)) (hid':Qc o id'=some (.arr 3 1 [[.iv (.int .i64 (x:Nat))]] mv')) (hn:n=l.length)
  (h:C (bnd d (.iv (UR (l.take i++x::l.drop i))) (QiI (Xk [id,id'] [] o) e)) (Qml [id,id'] (Xk [id,id'] [] o) o [])):HK Tryz.prog K 273 [id,id'] d C e o [.aref id n,.iv (.int .i64 (i:Nat)),.aref id' 1]:=by
 have hg:=Qjf (K:=K) (l.map fun (n:Nat)=>(n:Int)) mv i (by simpa using hi) x mv' (by simpa using hlen)
 have e1:(l.map fun (n:Nat)=>(n:Int)).take i++(x:Int)::(l.map fun (n:Nat)=>(n:Int)).drop i=(l.take i++x::l.drop i).map fun (n:Nat)=>(n:Int):=by simp
 rw[e1,Ul,Qbv,QBb] at hg;subst hn;refine ZQ hg (by simp[rn,nth]) ?_ ?_
 ·refine ⟨by simpa using hne,by simp[clA],?_,?_,by simp⟩
  ·intro p hp
   simp only[QBh,QBI,or_false] at hp;rcases hp with rfl | rfl
   ·exact ⟨by simp,by rw[Jo];simpa[nth] using hid,VG _ _ _ _ _,rfl⟩
   ·exact ⟨by simp,by simpa[nth,rnO,rnL,rn] using hid',by simp[clO,clAL,clA],rfl⟩
  ·intro i hi h
   simp at hi;have:i=0\/i=1:=by omega
   rcases this with rfl | rfl<;>simp[Qc] at h
 ·simpa[rn] using h
end
section
variable {K:World->Prop} (hK:∀ w w',K w->Below w.heap.size w w'->K w')
include hK
theorem QmL (c:Qx) (n:Nat) (hn:n<2 ^ 63) (hc:OkD c.deeds c.deeds.length) (hl:c.deeds.length<=100) :
  Ev.Good Tryz.prog K 243 [Q0 c.deeds,.clo 244 [] [.ptr [.int .i64 n],.ptr (VI c)]] (.agg (Yq c.deeds (XC c.deeds n) (QwB (prf c.deeds (XC c.deeds n) c.deeds.length)))):=by
 refine Qb hK Qon (by simp) ?_
 simp;intros
 refine QV (fun i=>[(1,AV.iv (.clo 244 [] [.ptr [.int .i64 n],.ptr (VI c)])),(4,.loc 4 0),(5,.loc 5 0),(16,AV.iv (Q0 c.deeds)),(17,AV.iv (.int .i64 c.deeds.length)),(18,AV.iv (IV.int IntKind.i64 (i:Nat)))])
  (fun i=>[(4,AO.box [.iv (.sl 1 []),.iv (.sl 2 []),.iv (.map [])]),(5,AO.box [.aref 13 (i+1),.aref 6001 (Xi (c.deeds.take i)).length,.oref 14]),(13,AO.arr 213 1 (emb ((QhU c.deeds (XC c.deeds n) i).map fun c=>[UR c])) 0),
    (14,.mapr 3 1 (prf c.deeds (XC c.deeds n) i) none),(6001,.arr 345 2 (emb ((Xi (c.deeds.take i)).map lkC)) 0)]) c.deeds.length (fun i=>True) trivial ?_ ?_
 ·intro _
  rw[Qa Qdl.eq_1];simp[-List.map_map,QF,QS,QO,Qu,QBn]
 ·intro i hi _ ih
  have hcl:=VH (XC c.deeds n) hc i (by omega) (by omega)
  have hcb:=hc.cnt i (by omega) (by omega)
  have hd:=hc i hi hi;have hw:=QlQ c.deeds i;have hlw:=Qgw c.deeds i;have hlo:=Qgd c.deeds (XC c.deeds n) hc i (by omega)
  have hg202:=QmK hK c n i hn hi;have hei:=Qes c.deeds n i hi;have hii:i*c.deeds.length<=100*100:=Nat.mul_le_mul (by omega) (by omega)
  rw[QhT,QcV _ _ hi,Qar _ _ _ hi,QdZ _ _ _ hi] at ih;rw[Qa Qdl.eq_1]
  have hcg:(QhU c.deeds (XC c.deeds n) i)[i]?=some (cab c.deeds (XC c.deeds n) i):=by
   rw[QA0 (by simp),Qaq _ _ _ _ (by omega)]
  have hcl2:=Qkm c.deeds (XC c.deeds n) i;generalize XC c.deeds n i=ei at *;generalize QhU c.deeds (XC c.deeds n) i=cs at *;generalize prf c.deeds (XC c.deeds n) i=kvs at *;generalize Xi (c.deeds.take i)=lk at *;generalize cab c.deeds (XC c.deeds n) i=now at *
  have hcg2:cs[i]'(by omega)=now:=by
   grind
  have hnl:now.length<=100:=by omega
  simp[hi,hcl2,hcg2,-List.map_map,QF,QS,QO,Qu];intro _;refine ⟨by omega,?_⟩
  refine QnQ (rows:=List.replicate now.length [IV.int .i64 0]) (Qi8 _ _) (by simp) (by simp) ?_
  rcases hd with ⟨h1,h2,h3,h4⟩ | ⟨h1,h2,h3,h4⟩ | ⟨h1,h4⟩
  ·simp only[inR] at h3 h2
   have hp:(if ei=1 then (now.length:Int)+1-1-c.deeds[i].pos else c.deeds[i].pos)=(plc c.deeds[i].pos ei (now.length+1):Nat):=by
    unfold plc;omega
   have hpl:plc c.deeds[i].pos ei (now.length+1)<=now.length:=Qli (by omega)
   have hg214:=Qc5 hK c.deeds[i].pos ei (now.length+1) (by omega) (by omega)
   rw[hp] at hg214;simp[Ja,h1,<- hlw] at ih;generalize plc c.deeds[i].pos ei (now.length+1)=at_ at *;by_cases hf:c.deeds[i].frm=2
   ·have hg:=hg202 hf
    simp[hi,hf,h1,-List.map_map,QF,QS,QO,Qu];refine ⟨by kernel_rfl,cK (by simpa using hg) ?_⟩
    simp[hi,hf,h1,-List.map_map,QF,QS,QO,Qu];intro _;refine ⟨by omega,cK hg214 ?_⟩
    simp[hi,hf,h1,-List.map_map,QF,QS,QO,Qu];intro _;refine qp (mv:=now.length) (mv':=0) now at_ hpl lk.length (by omega) (by simp) (by simp[emb,-List.map_map]) (by simp) rfl ?_
    simp[hi,hf,h1,-List.map_map,QF,QS,QO,Qu]
    grind
   ·rw[if_neg hf] at hei
    simp[hi,hf,h1,-List.map_map,QF,QS,QO,Qu];rw[<- hei];intro _;refine ⟨by omega,cK hg214 ?_⟩
    simp[hi,hf,h1,-List.map_map,QF,QS,QO,Qu];intro _;refine qp (mv:=now.length) (mv':=0) now at_ hpl lk.length (by omega) (by simp) (by simp[emb,-List.map_map]) (by simp) rfl ?_
    simp[hi,hf,h1,-List.map_map,QF,QS,QO,Qu]
    grind
  ·have h11:¬ c.deeds[i].what=1:=by omega
   simp only[inR] at h3 h2
   have hp:(if ei=1 then (now.length:Int)-1-c.deeds[i].pos else c.deeds[i].pos)=(plc c.deeds[i].pos ei now.length:Nat):=by
    unfold plc;split<;>omega
   have hpl:plc c.deeds[i].pos ei now.length<now.length:=Qge (by omega)
   have hg214:=Qc5 hK c.deeds[i].pos ei now.length (by omega) (by omega)
   rw[hp] at hg214;simp[Ja,h1] at ih;generalize plc c.deeds[i].pos ei now.length=at_ at *;have he:now.take at_++now.drop (at_+1)=now.eraseIdx at_:=by grind
   rw[<- QCB,<- QCC,<- QBE,he] at ih;by_cases hf:c.deeds[i].frm=2
   ·have hg:=hg202 hf
    simp[hi,hf,h1,-List.map_map,QF,QS,QO,Qu];refine ⟨by kernel_rfl,cK (by simpa using hg) ?_⟩
    simp[hi,hf,h1,-List.map_map,QF,QS,QO,Qu];intro _;refine cK hg214 ?_;simp[hi,hf,h1,-List.map_map,QF,QS,QO,Qu];refine ⟨by omega,?_⟩
    refine qq (mv:=now.length) now at_ hpl (by simp[emb,-List.map_map]) rfl (by simp) ?_
    simp[hi,hf,h1,-List.map_map,QF,QS,QO,Qu]
    grind
   ·rw[if_neg hf] at hei
    simp[hi,hf,h1,-List.map_map,QF,QS,QO,Qu];rw[<- hei];intro _;refine cK hg214 ?_;simp[hi,hf,h1,-List.map_map,QF,QS,QO,Qu];refine ⟨by omega,?_⟩
    refine qq (mv:=now.length) now at_ hpl (by simp[emb,-List.map_map]) rfl (by simp) ?_
    simp[hi,hf,h1,-List.map_map,QF,QS,QO,Qu]
    grind
  ·have hf:¬ c.deeds[i].frm=2:=by omega
   rcases h1 with h1 | h1
   ·simp[Ja,h1] at ih
    simp[hi,hf,h1,-List.map_map,QF,QS,QO,Qu];refine Qfw (mv:=now.length) now (by simp[emb,-List.map_map]) rfl ?_
    simp[hi,hf,h1,-List.map_map,QF,QS,QO,Qu,QBn]
    grind
   ·simp[Ja,h1] at ih
    simp[hi,hf,h1,-List.map_map,QF,QS,QO,Qu];intro _
    refine QV (fun k=>[(1,AV.iv (.clo 244 [] [.ptr [.int .i64 n],.ptr (VI c)])),(4,.loc 4 0),(5,.loc 5 0),(6,AV.iv (IV.int IntKind.i64 (i:Nat))),(8,AV.aref 29 now.length),(16,AV.iv (Q0 c.deeds)),(17,AV.iv (.int .i64 c.deeds.length)),(18,AV.iv (IV.int IntKind.i64 (i:Nat))),(90,AV.aref 29 now.length),(91,AV.iv (.int .i64 now.length)),(92,AV.iv (.int .i64 (k:Nat)))])
     (fun k=>[(4,AO.box [.iv (.sl 1 []),.iv (.sl 2 []),.iv (.map [])]),(5,AO.box [.aref 13 (i+1),.aref 6001 lk.length,.oref 14]),(13,AO.arr 213 1 (emb (cs.map fun c=>[UR c])) 0),
       (14,.mapr 3 1 ((now.take k).foldl (QkL i) kvs) none),(29,AO.arr 3 1 (emb (now.map fun (n:Nat)=>[.int .i64 (n:Int)])) now.length),(6001,AO.arr 345 2 (emb (lk.map lkC)) 0)]) now.length (fun _=>True) trivial ?_ ?_
    ·intro _
     rw[Qa Qdm.eq_1];simp[-List.map_map,QF,QS,QO,Qu,QBn]
     grind
    ·intro k hk _ ih2
     rw[Qa Qdm.eq_1];have hlk:Low (i*c.deeds.length+(now.take k).length) ((now.take k).foldl (QkL i) kvs):=hlo.fold _;rw[QA3 hk,QCs] at ih2;generalize (now.take k).foldl (QkL i) kvs=kv at *;have hkl:(List.take k now).length<=100:=by simp;omega
     have hle:=hlk.len (.int .i64 (now[k]:Nat));have hkk:=hlk.1;have hkk2:=Vs (now[k]:Nat) (((Qh (.int .i64 ((now[k]:Nat):Int)) kv).getD [])++[[.int .i64 (i:Nat)]]) kv hkk;have hfm:=Wh (.int .i64 ((now[k]:Nat):Int)) (.int .i64 ((now[k]:Nat):Int)) (((Qh (.int .i64 ((now[k]:Nat):Int)) kv).getD [])++[[.int .i64 (i:Nat)]]) kv;rw[if_pos rfl] at hfm;simp[QkL] at ih2;simp[hk,hkk,hkk2,hfm,-List.map_map,QF,QS,QO,Qu]
     grind
def pmC (c:Qx) (n:Nat):IV:=QwB (prf c.deeds (XC c.deeds n) c.deeds.length)
theorem QkZ (c:Qx) (hc:OkC c):Qie K c (pmC c):=fun n hn=>by
 have h:=hc.len;have h2:=qD c.deeds;have h3:=qT (show Ud c.deeds<=12 by omega)
 exact QmL hK c n (by omega) hc.deeds (by omega)
end
end Go.Pf
namespace Go.Pf
open Go Go.Proofs Go.RowKit Go.Maps Go.Sort Go.Shelf
variable {P:Program} {ρ:Ren}
set_option maxRecDepth 100000 in
set_option maxHeartbeats 1000000 in
theorem Qax (L:SlLaysZI.n10 P ρ) {H:Type} (F:Fence) (n:Nat) (h10:F.fn (ρ.f 10)) (hro:F.round=none) (hn:1<=n) (l Bm om b nn:Nat) (D0:DataW H) {R:Value->Option (DataW H × List MemPlace)} (J:List Int->World->Prop)
  (hY:∀ pre x W,J pre W->pre.length<Maps.size D0->YieldAt F (n-1) P l #[encZ x] W fun e W'=>e=.returned (.bool true)/\J (pre++[x]) W'/\KeepsWalks W W')
  (W:World) (hJ:AbidesFrom W.heap.size J) (hm:W.cell? ⟨Bm,om,none⟩=some (.map (some b))) (hown:W.ownsMap P (ρ.t 26) R b nn D0) (h0:J [] W) :
  CallsIn F n P (ρ.f 10) #[.func (.yield l) #[] #[],.pointer (some ⟨Bm,om,none⟩)] W fun e W'=>(∃ v,e=.returned v)/\∃ ss:List Int,ss.Perm (intKeys D0)/\J ss W':=by
 have mixed:=L.mixed;have t0:=L.t0;have a0:=L.a0;have z0:=L.z0;have v0:=L.v0;have t4:=L.t4;have a4:=L.a4;have z4:=L.z4;have v4:=L.v4;have t23:=L.t23;have a23:=L.a23;have z23:=L.z23;have v23:=L.v23;have t26:=L.t26;have a26:=L.a26;have z26:=L.z26;have v26:=L.v26;have t33:=L.t33;have a33:=L.a33;have z33:=L.z33;have v33:=L.v33;have u0:=run_underlying L.t0;have u4:=run_underlying L.t4;have u23:=run_underlying L.t23;have u26:=run_underlying L.t26;have u33:=run_underlying L.t33;obtain ⟨_,_,FG⟩:=L.f10;refine callsIn_of_wp FG rfl h10 ?_ hro;simp only[SlBodyZ.n10_ntmps ρ,QB2,QBj,QCn,Nat.reduceAdd,Nat.reduceSub,Array.replicate_succ,Array.replicate_zero,List.push_toArray,List.append_toArray,QB4,QBA]
 gi_wp2_with (first
  | (gi_at_range;refine wpListIn_range_own _ rfl _ (ρ.t 23) rfl (ρ.t 26) (ρ.t 3) (int_keyed L.t26) L.t23 _ b nn _ rfl hown ?_;intro w0 hrg0 hg0 hs0)
  | gi_in)
 go_frame
 gi_loopw [3] (fun _ wr=>∃ (left:Lit->Bool) (cnt:Nat) (ss:List Int),wr.ranges P (ρ.t 26) R b W.heap.size nn D0 left cnt/\ss.length+cnt<=Maps.size D0/\CollectedI D0 left ss/\J ss wr)
  (fun _ wr=>wr.rangeLeft b W.heap.size)
 case atStart =>
  exact ⟨_,_,[],hrg0,by simp,CollectedI.start D0,hJ [] W w0 none h0 hg0 (fun r e=>by cases e)⟩
 case round =>
  obtain ⟨left,cnt,ss,hrg,hcs,hC,hJs⟩:=hrel
  gi_wp2_with (first
   | (gi_at_next;refine wpListIn_next_ranges _ rfl _ rfl (ρ.t 26) (int_keyed L.t26) R encZ id (fun key kl hk=>by obtain ⟨x,hx,_⟩:=Maps.keyOf_i64 L.t26 hk;exact ⟨x,hx⟩) (fun v _ _=>⟨v,rfl⟩) b W.heap.size nn _ _ _ rfl hrg ?_ ?_)
   | gi_in)
  ·
   intro hc0 hl0
   gi_wp2
   go_end0
   exact ⟨⟨_,rfl⟩,ss,hC.perm hown (int_keyed L.t26) L.t26 hl0,hJs⟩
  ·
   intro x c kl yd yp w2 cnt2 hkey hlk hv hat hrg2 hlt hg2 hs2 hen;obtain ⟨x',ex,rfl,_⟩:=Maps.keyOf_i64 L.t26 hkey;obtain rfl:x=x':=encZ_inj ex;have hJ2:J ss w2:=hJ ss wr w2 (some W.heap.size) hJs hg2 (fun r e=>by cases e;exact ⟨QA8 _,hrg.iter_walk⟩)
   obtain ⟨fn,tmps,assign,body,hy,hR⟩:=hY ss x w2 hJ2 (by omega)
   clear hs2
   gi_wp2
   refine hR.mono ?_
   rintro e W3 ⟨rfl,hJ3,hk3⟩
   gi_wp2
   have hrg3:=hrg2.of_walks hk3
   go_roundw
   case rel=>exact ⟨_,cnt2,ss++[x],hrg3,by simp;omega,hC.step hlk hat,hJ3⟩
   case measure=>rw[hrg3.left_eq,hrg.left_eq];exact hlt
set_option maxRecDepth 100000 in
set_option maxHeartbeats 1000000 in
theorem WO (L:SlLaysZI.n10 P ρ) {H:Type} (F:Fence) (n:Nat) (h10:F.fn (ρ.f 10)) (hro:F.round=none) (hn:1<=n) (Bm om b nn:Nat) (D0:DataW H) {R:Value->Option (DataW H × List MemPlace)} (w:World) (hBm:Bm<w.heap.size)
  (hm:w.cell? ⟨Bm,om,none⟩=some (.map (some b))) (hown:w.ownsMap P (ρ.t 26) R b nn D0) :
  SeqGives F n P (ρ.f 10) #[.pointer (some ⟨Bm,om,none⟩)] encZ (fun ss=>ss.Perm (intKeys D0)) (Maps.size D0) w:=fun l J W hW hJ hY h0=>by
 have hown':W.ownsMap P (ρ.t 26) R b nn D0:=by
  have hbl:=hown.lt;obtain ⟨es,clock,hb,Ft,hs,hD⟩:=hown;exact ⟨es,clock,(hW.block b hbl).trans hb,Ft,hs,hD⟩
 exact Qax { L with } F n h10 hro hn l Bm om b nn D0 J hY W hJ ((hW.cell (p:=⟨Bm,om,none⟩) hBm).trans hm) hown' h0
set_option maxRecDepth 100000 in
set_option maxHeartbeats 1000000 in
theorem V9 (L:SlLaysZI.n10 P ρ) (F:Fence) (n:Nat) (h10:F.fn (ρ.f 10)) (hro:F.round=none) (l Bm om:Nat) (J:List Int->World->Prop) (W:World) (hJ:AbidesFrom W.heap.size J)
  (hm:W.cell? ⟨Bm,om,none⟩=some (.map none)) (h0:J [] W) :
  CallsIn F n P (ρ.f 10) #[.func (.yield l) #[] #[],.pointer (some ⟨Bm,om,none⟩)] W fun e W'=>(∃ v,e=.returned v)/\∃ ss:List Int,ss=[]/\J ss W':=by
 have mixed:=L.mixed;have t0:=L.t0;have a0:=L.a0;have z0:=L.z0;have v0:=L.v0;have t4:=L.t4;have a4:=L.a4;have z4:=L.z4;have v4:=L.v4;have t23:=L.t23;have a23:=L.a23;have z23:=L.z23;have v23:=L.v23;have t26:=L.t26;have a26:=L.a26;have z26:=L.z26;have v26:=L.v26;have t33:=L.t33;have a33:=L.a33;have z33:=L.z33;have v33:=L.v33;have u0:=run_underlying L.t0;have u4:=run_underlying L.t4;have u23:=run_underlying L.t23;have u26:=run_underlying L.t26;have u33:=run_underlying L.t33;obtain ⟨_,_,FG⟩:=L.f10;refine callsIn_of_wp FG rfl h10 ?_ hro;simp only[SlBodyZ.n10_ntmps ρ,QB2,QBj,QCn,Nat.reduceAdd,Nat.reduceSub,Array.replicate_succ,Array.replicate_zero,List.push_toArray,List.append_toArray,QB4,QBA];have hrg:=run_range_nilMap (P:=P) W (ρ.t 23) (ρ.t 26) (ρ.t 3) L.t23;have hnx:∀ ty,(Instr.next (.pointer (some ⟨W.heap.size,0,none⟩)) false ty).run P (W.alloc (.mapIter none 0 #[] 0))=_:=fun ty=>run_next_nilMap _ ty 0 0 #[]
 gi_wp2
 refine wpIn_loop_rounds 1 ?_;rw[roundsIn_succ]
 gi_wp2
 go_end0
 exact ⟨⟨_,rfl⟩,[],rfl,hJ [] W _ none h0 (World.grownBy_alloc W _ none) (fun r e=>by cases e)⟩
set_option maxRecDepth 100000 in
set_option maxHeartbeats 1000000 in
theorem J6 (L:SlLaysZI.n10 P ρ) (F:Fence) (n:Nat) (h10:F.fn (ρ.f 10)) (hro:F.round=none) (Bm om:Nat) (w:World) (hBm:Bm<w.heap.size) (hm:w.cell? ⟨Bm,om,none⟩=some (.map none)) :
  SeqGives F n P (ρ.f 10) #[.pointer (some ⟨Bm,om,none⟩)] encZ (fun ss:List Int=>ss=[]) 0 w:=fun l J W hW hJ _ h0 =>
 V9 { L with } F n h10 hro l Bm om J W hJ ((hW.cell (p:=⟨Bm,om,none⟩) hBm).trans hm) h0
end Go.Pf
namespace Go.Proofs
open Go.Shelf Go.RowKit Go.Maps Go.Sort
theorem Tryz.sorts218 (m:Nat):AnyZI.SortsIn Tryz.prog Tryz.sorted157_ren Fence.wide m :=
 ⟨fun blk off cap ss W hH hblk hsz=>callsIn_wide.2 (AnyM.slices_Sort_int Tryz.sort218 blk off cap ss W hH hblk hsz),
  fun p cap W=>callsIn_wide.2 (AnyM.slices_Sort_int_none Tryz.sort218 p cap W)⟩
end Go.Proofs
namespace Go.Pf
open Go Go.Ev Go.Proofs Go.RowKit Go.Shelf
set_option maxRecDepth 8000
theorem VR (lb:Array Value) (S:List Int->Prop) (N:Nat) (hN:N<=1000000) (w:World) (hseq:SeqGives Fence.wide 2 Tryz.prog 219 lb encZ S N w) :
  Calls Tryz.prog 157 #[.func (.func 219) #[] lb] w fun e w'=>∃ (v:Value) (ss:List Int),e=.returned v/\S ss /\
   w'.ownsRow w.heap.size 3 1 v ss.length ((ss.mergeSort (fun x y=>decide (x<=y))).map encZ)/\(v=.slice none 0 0↔ss=[])/\Below w.heap.size w w':=by
 refine (callsIn_wide (n:=5)).1 ?_;exact AnyZI.sorted_in Tryz.sorted157 Fence.wide 5 trivial trivial trivial trivial rfl (by omega) (Tryz.sorts218 _) (enters_of Tryz.func218 (by kernel_rfl) rfl) 219 lb trivial (enters_of Tryz.func219 (by kernel_rfl) rfl) S N (by unfold maxLen;omega) (by omega) w hseq
theorem insert_perm {H:Type} (x:Lit × DataW H):∀ l:List (Lit × DataW H),(DataW.insert x l).Perm (x::l)
 | []=>List.Perm.refl _
 | y::r=>by
   unfold DataW.insert;split
   ·exact List.Perm.refl _
   ·exact ((insert_perm x r).cons y).trans (List.Perm.swap x y r)
theorem sorted_perm {H:Type}:∀ l:List (Lit × DataW H),(l.foldr DataW.insert []).Perm l
 | []=>List.Perm.refl _
 | x::r=>by
   rw[List.foldr_cons];exact (insert_perm x _).trans ((sorted_perm r).cons x)
def QkK:Value->Option (DataW Nat × List MemPlace):=fun _=>some (.nil,[])
theorem QqT {x:MapEntry} {n:Int} (h:x.key=.int .i64 n) (hn : -9223372036854775808<=n/\n<9223372036854775808):WideElems.rd Tryz.prog 3 QkK x=some (.int .i64 n,.nil):=by
 have hw:(Lit.int .i64 n).wf=true:=by
  have h1:=hn.1;have h2:=hn.2;simp[Lit.wf,IntKind.inR,IntKind.min,IntKind.max,IntKind.bits,IntKind.signed];omega
 simp[WideElems.rd,h,QkK,keyOf,Tryz.underlying3,mapKey,hw]
section
variable {K:World->Prop}
theorem Qnb (kvs:List (MK × IV)) (ks:List Int) (hk:kvs.map (·.1)=ks.map (fun x=>MK.int .i64 x)) (hwf:∀ x∈ks,-9223372036854775808<=x/\x<9223372036854775808) (hlen:ks.length<=1000000) :
  Ev.Good Tryz.prog K 157 [.clo 219 [] [.ptr [.map kvs]]] (ZF (ks.mergeSort fun x y=>decide (x<=y))):=by
 intro w ok vs hK hnew hl hvs
 obtain ⟨v0,rfl⟩:∃ v0,vs=[v0]:=by
  match vs,hl with
  | [v],_=>exact ⟨v,rfl⟩
 have hrep:=hvs 0 _ v0 rfl rfl
 have fin:∀ (v:Value) (w':World) (ss:List Int),ss.Perm ks->w'.ownsRow w.heap.size 3 1 v ss.length ((ss.mergeSort (fun x y=>decide (x<=y))).map encZ)->Below w.heap.size w w' ->
   ∃ v1,Ending.returned v=.returned v1/\Qv ok w' (ZF (ks.mergeSort fun x y=>decide (x<=y))) v1/\Below w.heap.size w w':=fun v w' ss hp ho hb=>by
  refine ⟨v,rfl,?_,hb⟩;have e1:ss.mergeSort (fun x y=>decide (x<=y))=ks.mergeSort fun x y=>decide (x<=y):=mergeSort_of_perm_i hp
  rw[e1] at ho;have hl2:ss.length=ks.length:=hp.length_eq;have e3:(ks.mergeSort fun x y=>decide (x<=y)).length=ss.length:=by simp[hl2]
  generalize (ks.mergeSort fun x y=>decide (x<=y))=zs at *
  obtain ⟨h1,h2 | ⟨g,cap,cur,h2,h3,h4,h5,h6,h7,h8⟩⟩:=ho
  ·obtain ⟨rfl,h2⟩:=h2
   have:zs=[]:=QA5 (by omega)
   subst this;exact .nils _
  ·subst h2
   rw[<- e3];refine Ui zs g cap (by omega) h6 (hnew g h3) fun j z hj=>?_
   have hjl:=(QA2.1 hj).1;have:(cur.toList.take (ss.length*1))[j]?=some (.int .i64 z):=by grind
   rw[QBx,if_pos (by omega)] at this
   simp only[World.cell?,h4];simpa using this
 cases hrep with
 | clo _ _ _ us vs' h1 h2 hf hc =>
   obtain rfl:us=[]:=QA5 h1
   obtain ⟨p,rfl⟩:∃ p,vs'=[p]:=by
    match vs',h2 with
    | [v],_=>exact ⟨v,rfl⟩
   have hp:=hc 0 _ p rfl rfl;cases hp with
   | ptr _ b off u hu hx =>
     have hcell:=(hu 0 (by simp)).2.1
     rw[QBS] at hcell;have hbw:b<w.heap.size:=QBK w ⟨b,off,none⟩ hcell;have hm:=hx 0 _ rfl;generalize u 0=u0 at hcell hm;cases hm with
     | mapn =>
       have hk0:ks=[]:=by simpa using hk.symm
       subst hk0;refine (VR _ _ 0 (by omega) w (J6 (ρ:=Tryz.keys158_ren) { Tryz.keys158 with } Fence.wide 2 trivial rfl b off w hbw hcell)).mono ?_
       grind
     | map _ r es clock hok hr hmr hd hxx =>
       have hks:kvs.length=ks.length:=by simpa using congrArg List.length hk
       have hkey:∀ (i:Nat) (x:MapEntry),es[i]?=some x->∃ n:Int,ks[i]?=some n/\x.key=.int .i64 n:=fun i x hx=>by
        obtain ⟨k,h3,h4⟩:=hmr.keys i x hx;rw[<- QA9,hk,QA9,QA4] at h3;obtain ⟨n,h5,rfl⟩:=h3;exact ⟨n,h5,h4⟩
       have hrd:∀ (i:Nat) (x:MapEntry),es[i]?=some x->∃ n:Int,ks[i]?=some n/\x.key=.int .i64 n/\WideElems.rd Tryz.prog 3 QkK x=some (.int .i64 n,.nil):=fun i x hx=>by
        obtain ⟨n,h3,h4⟩:=hkey i x hx;exact ⟨n,h3,h4,QqT h4 (hwf n (QBd h3))⟩
       have hlist:es.toList.map (fun x=>intOf (WideElems.rg Tryz.prog 3 QkK x).1)=ks:=by
        refine QCt fun i=>?_
        rw[QA9];cases hx:es[i]? with
        | none =>
          have:es.size<=i:=by
           grind
          have hz:=hmr.size
          grind
        | some x =>
          obtain ⟨n,h3,h4,h5⟩:=hrd i x hx;rw[Array.getElem?_toList,hx,h3];simp[WideElems.rg,h5,intOf]
       have hown:w.ownsMap Tryz.prog 3 QkK r ks.length (DataW.map ((es.toList.map (WideElems.rg Tryz.prog 3 QkK)).foldr DataW.insert [])):=by
        refine ⟨es,clock,hr,⟨by have:=hmr.size;unfold maxLen;omega,⟨fun x hx=>?_,?_,?_⟩,fun x hx=>?_⟩,by grind,rfl⟩
        ·obtain ⟨i,hi⟩:=QBt hx
         exact hmr.born i x (by simpa using hi)
        ·rw[List.nodup_iff_pairwise_ne] at *
         refine QCw.2 fun i j hi hj hij heq=>?_
         simp at hi hj heq;have:=hmr.apart i j es[i] es[j] (by simp[hi]) (by simp[hj]) heq
         omega
        ·refine QCw.2 fun i j hi hj hij heq=>?_
         simp at hi hj heq;obtain ⟨k1,h3,h4⟩:=hmr.keys i es[i] (by simp[hi])
         obtain ⟨k2,h5,h6⟩:=hmr.keys j es[j] (by simp[hj])
         rw[QA4] at h3 h5;obtain ⟨p,h7,rfl⟩:=h3;obtain ⟨q,h8,rfl⟩:=h5;rw[h4,h6] at heq
         have:p.1=q.1:=by
          cases hp1:p.1<;>cases hq1:q.1<;>rw[hp1,hq1] at heq<;>simp[MK.val] at heq |-<;>simp_all
         grind
        ·obtain ⟨i,hi⟩:=QBt hx
         grind
       have hperm:(intKeys (DataW.map ((es.toList.map (WideElems.rg Tryz.prog 3 QkK)).foldr DataW.insert []))).Perm ks:=by
        have:=(sorted_perm (es.toList.map (WideElems.rg Tryz.prog 3 QkK))).map fun p=>intOf p.1
        rw[List.map_map] at this;refine this.trans ?_;rw[show es.toList.map ((fun p=>intOf p.1)∘WideElems.rg Tryz.prog 3 QkK)=ks from hlist]
       have hsz:=hown.size_le;refine (VR _ _ _ (by omega) w (WO (ρ:=Tryz.keys158_ren) { Tryz.keys158 with } Fence.wide 2 trivial rfl (by omega) b off r _ _ w hbw hcell hown)).mono ?_
       grind
end
end Go.Pf
namespace Go.Pf
open Go Go.Ev Go.Proofs Go.RowKit
variable {K:World->Prop} (hK:∀ w w',K w->Below w.heap.size w w'->K w')
set_option maxRecDepth 8000
theorem Ug {α:Type} {p:List α->Prop} (h0:p []) (h1:∀ l x,p l->p (l++[x])) (l:List α):p l:=by
 have:∀ r:List α,p r.reverse:=by
  intro r
  induction r with
  | _=>grind
 have h:=this l.reverse
 grind
def Qac:List (Int × Nat)->Int->List (Int × Nat)
 | [],x=>[(x,1)]
 | p::r,x=>if p.1=x then (x,p.2+1)::r else p::Qac r x
def Qdb:List (Int × Nat)->Int->Nat
 | [],_=>0
 | p::r,x=>if p.1=x then p.2 else Qdb r x
def Qb9 (l:List (Int × Nat)):List (MK × IV):=l.map fun p=>(.int .i64 p.1,.int .i64 (p.2:Nat))
theorem QbR (x:Int):∀ l,(Qh (.int .i64 x) (Qb9 l)).getD (.int .i64 0)=.int .i64 (Qdb l x:Nat)
 | []=>rfl
 | p::r=>by
   by_cases h:p.1=x
   ·simp[Qb9,Qh,Qdb,h]
   ·have:=QbR x r
    simp[Qb9,Qh,Qdb,h] at this |-;exact this
theorem Qer (x:Int):∀ l,mins (.int .i64 x) (.int .i64 ((Qdb l x:Nat)+1)) (Qb9 l)=Qb9 (Qac l x)
 | []=>by simp[Qb9,mins,Qdb,Qac]
 | p::r=>by
   by_cases h:p.1=x
   ·simp[Qb9,mins,Qdb,Qac,h]
   ·have:=Qer x r
    simp[Qb9,mins,Qdb,Qac,h] at this |-;exact this
theorem qn:∀ l,QZ (some .i64) (Qb9 l)
 | []=>trivial
 | _::r=>⟨rfl,qn r⟩
theorem Qej (x y:Int):∀ l,Qdb (Qac l x) y<=Qdb l y+1
 | []=>by simp[Qac,Qdb];split<;>omega
 | p::r=>by
   unfold Qac;split
   ·simp only[Qdb];grind
   ·simp only[Qdb]
    split
    ·omega
    ·exact Qej x y r
def J0 (l:List Int):List (Int × Nat):=l.foldl Qac []
theorem YK (l:List Int) (x:Int):J0 (l++[x])=Qac (J0 l) x:=by simp[J0]
theorem Qnv (y:Int):∀ l:List Int,Qdb (J0 l) y<=l.length:=by
 refine Ug (by simp[J0,Qdb]) fun l x ih=>?_
 rw[YK];have:=Qej x y (J0 l);simp;omega
def Vh (l:List Int):List Int:=((J0 l).map (·.1)).mergeSort fun x y=>decide (x<=y)
theorem Qab (x y:Int):∀ l,y∈(Qac l x).map (·.1)↔y∈l.map (·.1)\/y=x
 | []=>by simp[Qac]
 | p::r=>by
   unfold Qac;split
   ·grind
   ·have:=Qab x y r
    grind
theorem qd (x:Int):∀ l,(l.map (·.1)).Nodup->((Qac l x).map (·.1)).Nodup
 | [],_=>by simp[Qac]
 | p::r,h=>by
   rw[QBf,QCz] at h;unfold Qac;split
   ·grind
   ·rename_i hp
    rw[QBf,QCz];refine ⟨fun hb=>?_,qd x r h.2⟩
    rcases (Qab x p.1 r).1 hb with hb | hb
    all_goals grind
theorem Qew (y:Int):∀ l:List Int,y∈(J0 l).map (·.1)↔y∈l:=by
 refine Ug (by simp[J0]) fun l x ih=>?_
 rw[YK,Qab,ih];simp
theorem Qfu:∀ l:List Int,((J0 l).map (·.1)).Nodup:=by
 refine Ug (by simp[J0]) fun l x ih=>?_
 rw[YK];exact qd x _ ih
theorem Qed (x:Int):∀ k,(Qac k x).length<=k.length+1
 | []=>by simp[Qac]
 | p::r=>by
   have:=Qed x r;unfold Qac
   grind
theorem Qex:∀ l:List Int,(J0 l).length<=l.length:=by
 refine Ug (by simp[J0]) fun l x ih=>?_
 rw[YK];have:=Qed x (J0 l);simp;omega
theorem Uu (y:Int) (l:List Int):y∈Vh l↔y∈l:=by
 unfold Vh;rw[List.mem_mergeSort,Qew]
theorem WW (l:List Int):(Vh l).Pairwise (·<·):=by
 have h1:=List.pairwise_mergeSort (le:=fun x y:Int=>decide (x<=y)) (fun a b c h1 h2=>by simp at *;omega) (fun a b=>by simp;omega) ((J0 l).map (·.1))
 have h2:(((J0 l).map (·.1)).mergeSort (fun x y:Int=>decide (x<=y))).Nodup:=(List.mergeSort_perm ((J0 l).map (·.1)) (fun x y:Int=>decide (x<=y))).nodup_iff.2 (Qfu l)
 have h3:=h1.and h2;refine h3.imp fun {a b} h=>?_
 grind
include hK
theorem Qna (kvs:List (MK × IV)):Ev.Good Tryz.prog K 158 [.map kvs] (.clo 219 [] [.ptr [.map kvs]]):=by
 refine Qb hK Qo5 (by simp) ?_
 simp
omit hK in
theorem Qff (l:List Int) (hw:∀ x∈l,-1000000<=x/\x<=1000000) (hl:l.length<=1000000):Ev.Good Tryz.prog K 157 [.clo 219 [] [.ptr [.map (Qb9 (J0 l))]]] (ZF (Vh l)):=by
 have hlen:(J0 l).length<=l.length:=by
  exact Qex l
 refine Qnb (K:=K) (Qb9 (J0 l)) ((J0 l).map (·.1)) (by simp[Qb9]) (fun x hx=>?_) (by simp;omega)
 have:=hw x ((Qew x l).1 hx);omega
theorem Qnh (c:Qx) (hl:c.deeds.length<=1000) (hs:c.sights.length<=1000) (g1:FuncId) (cs1:List IV) (is:Bool) (hg1:OkC c->Ev.Good Tryz.prog K g1 ([.int .i64 (Jd c.deeds),.int .i64 (Qib c.deeds)]++cs1) (.bool is)) (hc1:callee Tryz.prog g1=true)
  (g2:FuncId) (cs2:List IV) (v:Nat->Int) (hg2:OkC c->is=true->∀ n∈QM c,Ev.Good Tryz.prog K g2 ([.agg (Yq c.deeds (XC c.deeds n) (pmC c n))]++cs2) (.int .i64 (v n))) (hc2:callee Tryz.prog g2=true) (hv:OkC c->is=true->∀ n∈QM c,-1000000<=v n/\v n<=1000000) :
  Ev.Good Tryz.prog K 142 [chV c,.clo g1 [] cs1,.clo g2 [] cs2] (.tup [ZF (if VK c is=0 then Vh ((QM c).map v) else []),.int .i64 (VK c is)]):=by
 refine Qb hK Qpf (by simp) ?_
 simp;refine cK (by simpa using QmT hK c (pmC c) (QkZ hK c) g1 [] cs1 is (fun h=>by simpa using hg1 h) hc1 hl hs) ?_
 by_cases he:VK c is=0
 ·have h1:OkC c:=by
   unfold VK at he
   grind
  have h2:is=true:=by
   unfold VK at he
   grind
  have hlen:(QM c).length<=4096:=by
   have h1':=QCa (fun n=>decide ((Q1 c.deeds c.sights (XC c.deeds n):Int)<=c.wrong)) (List.range (2 ^ Ud c.deeds))
   have h2':=qT (n:=Ud c.deeds) (by have:=qD c.deeds;have:=h1.len;omega)
   simp at h1';unfold QM;omega
  have hG:=hg2 h1 h2;have hV:=hv h1 h2;clear hg2 hv hg1;subst h2;simp[he,h1];refine Y9 (wy:=.fall) (o':=[(10,.box [.oref 21]),(21,.mapd (Qb9 (J0 ((QM c).map v))))]) rfl (by kernel_rfl) (Qc0 hK c h1 (pmC c) (QkZ hK c h1)) ?_ ?_
  ·have:=QaC.all (P:=Tryz.prog) (K:=K) (ps:=[24]) (asn:=Qas) (body:=Qdw) (ks:=[5,10]) (ids:=[10,21]) (eK:=[(5,.iv (.ptr [.clo g2 [] cs2])),(10,.loc 10 0)]) ((QM c).map (Xu c.deeds (pmC c)))
    (fun i=>[(10,.box [.oref 21]),(21,.mapd (Qb9 (J0 (((QM c).map v).take i))))]) fun i x hi=>by
    simp only[QA9,QA4] at hi;obtain ⟨y,hy,rfl⟩:=hi;have hlt:=(QA2.1 hy).1
    have hyv:((QM c).map v)[i]'(by simpa using hlt)=v y:=by
     grind
    have hg:=hG y (QBd hy);refine ⟨rfl,?_⟩;rw[QA3 (by simpa using hlt),YK,hyv]
    have hle:=Qnv (v y) (((QM c).map v).take i);have hkk:=qn (J0 (((QM c).map v).take i));have hf:=QbR (v y) (J0 (((QM c).map v).take i));have hi:=Qer (v y) (J0 (((QM c).map v).take i));have hle2:(((QM c).map v).take i).length<=4096:=by simp;omega
    generalize J0 (((QM c).map v).take i)=kv at *;simp[Xu,Qas,Qdw];refine ⟨hc2,cK (by simpa using hg) ?_⟩
    simp[hkk,hf,hi];omega
   simpa[J0,Qb9,QBn] using this
  ·simp
   refine cK (by simpa using Qna hK (Qb9 (J0 ((QM c).map v)))) ?_
   simp;refine cK (Qff ((QM c).map v) (fun x hx=>?_) (by simp;omega)) ?_
   ·grind
   ·simp
 ·by_cases h1:OkC c<;>cases is<;>simp[he,h1]
def Qiv (c:Qx) (pos:Int) (n:Nat):Int:=((cab c.deeds (XC c.deeds n) c.deeds.length).getD pos.toNat 0:Nat)
theorem Qrm (c:Qx) (pos:Int) (hl:c.deeds.length<=1000) (hs:c.sights.length<=1000) :
  Ev.Good Tryz.prog K 75 [chV c,.int .i64 pos] (.tup [ZF (if VK c (decide (inR pos 0 (Jd c.deeds-1)))=0 then Vh ((QM c).map (Qiv c pos)) else []),.int .i64 (VK c (decide (inR pos 0 (Jd c.deeds-1))))]):=by
 refine Qb hK Qsj (by simp) ?_
 simp;refine cK (by simpa using Qng hK pos) ?_
 simp
 have hcl:∀ n,OkC c->((cab c.deeds (XC c.deeds n) c.deeds.length).length:Int)=Jd c.deeds:=fun n h=>by
  rw[VH _ h.deeds _ (QA8 _) (QA8 _)];rfl
 have hg:=Qnh hK c hl hs 206 [.ptr [.int .i64 pos]] (decide (inR pos 0 (Jd c.deeds-1))) (fun h=>by
   have:=hcl 0 h;have h2:=h.deeds.cnt c.deeds.length (QA8 _) (QA8 _);have h3:=VH (XC c.deeds 0) h.deeds c.deeds.length (QA8 _) (QA8 _);simpa using QmS hK (Jd c.deeds) (Qib c.deeds) pos (by omega)) (by kernel_rfl) 144 [.ptr [.int .i64 pos]] (Qiv c pos) (fun h hi n _=>by
   have h3:=hcl n h;have hi:=of_decide_eq_true hi;simp only[inR] at hi;have h4:pos=((pos.toNat:Nat):Int):=by omega
   have h5:pos.toNat<(cab c.deeds (XC c.deeds n) c.deeds.length).length:=by omega
   have h6:=Qnf hK c.deeds (XC c.deeds n) (pmC c n) hl pos.toNat h5;rw[<- h4] at h6;have h7:(cab c.deeds (XC c.deeds n) c.deeds.length).getD pos.toNat 0=(cab c.deeds (XC c.deeds n) c.deeds.length)[pos.toNat]:=by grind
   unfold Qiv
   grind) (by kernel_rfl) (fun h hi n _=>by
   have h3:=hcl n h;have hi:=of_decide_eq_true hi;simp only[inR] at hi;have h5:pos.toNat<(cab c.deeds (XC c.deeds n) c.deeds.length).length:=by omega
   have h7:(cab c.deeds (XC c.deeds n) c.deeds.length).getD pos.toNat 0=(cab c.deeds (XC c.deeds n) c.deeds.length)[pos.toNat]:=by grind
   have h8:=Qey c.deeds (XC c.deeds n) c.deeds.length _ (QBc h5);have h9:=QlQ c.deeds c.deeds.length;unfold Qiv;omega)
 refine cK (by simpa using hg) ?_
 simp
omit hK
def QsO (d:Qw) (x:Int):Qw:={ d with frm:=x }
def QiG:List Qw->List (List Qw)
 | []=>[[]]
 | d::r=>if d.frm=2 then (QiG r).map (QsO d 0::·)++(QiG r).map (QsO d 1::·) else (QiG r).map (d::·)
noncomputable def QwN (c:Qx):List Qx:=((QiG c.deeds).map fun ds=>{ c with deeds:=ds }).filter fun c'=>decide (VK c' true=0)
def QAb (c:Qx):List IV:=[chV c]
include hK
omit hK
theorem Qa8 {α:Type} (f:α->Int):∀ (l:List α) (k:Nat) (a:α),(∀ x∈l,1<=f x)->(∀ h:k<l.length,1<=f a/\f a<=f l[k])->XN f (l.set k a)<=XN f l
 | [],k,a,_,_=>by simp[XN]
 | b::l,0,a,h,ha=>by
   have h1:=ha (by simp)
   have h2:=Qgb f l fun x hx=>h x (by simp[hx])
   simp only[List.set_cons_zero,XN];exact QBZ h1.2 (by omega)
 | b::l,k+1,a,h,ha=>by
   have ih:=Qa8 f l k a (fun x hx=>h x (by simp[hx])) (fun hk=>ha (by simpa using hk))
   have h1:=h b (by simp)
   simp only[List.set_cons_succ,XN];exact Int.mul_le_mul_of_nonneg_left ih (by omega)
def QpQ (l:Z0) (n:Int):Z0:={ l with lo:=n,hi:=n }
def qg (m:Machine) (k:Nat) (l:Z0) (n:Int):Machine:={ m with levers:=m.levers.set k (QpQ l n) }
noncomputable def QrV:Nat->Machine->Nat->List Machine
 | 0,m,_=>acc (QqZ m) (m.lhi+1-m.llo).toNat
 | r+1,m,k=>match m.levers[k]? with
   | some l=>acc (fun i=>QrV r (qg m k l (l.lo+(i:Nat))) (k+1)) (l.hi+1-l.lo).toNat
   | none=>[]
structure Qwo (m:Machine):Prop where
 len:m.levers.length<=3
 blen:m.bals.length<=6
 leak:inR m.llo 0 m.lhi
 lhi:m.lhi<=20
 span:∀ l∈m.levers,1<=qI l
 lo:∀ l∈m.levers,0<=l.lo/\l.hi<=100000
 sets:sets m m.levers.length<=1000000
theorem Qwo.fix {m:Machine} (h:Qwo m) {k:Nat} (hk:k<m.levers.length) {n:Int} (hn:m.levers[k].lo<=n/\n<=m.levers[k].hi):Qwo (qg m k m.levers[k] n):=by
 have hs:=h.span _ (QBc hk);have hl:=h.lo _ (QBc hk);refine ⟨by simpa[qg] using h.len,h.blen,h.leak,h.lhi,fun l hl=>?_,fun l hl'=>?_,?_⟩
 ·rcases QCx hl with h1 | h1
  ·exact h.span l h1
  ·rw[h1];simp[qI,QpQ]
 ·rcases QCx hl' with h1 | h1
  ·exact h.lo l h1
  ·rw[h1];simp only[QpQ];omega
 ·refine Int.le_trans ?_ h.sets
  have e1:(qg m k m.levers[k] n).levers.length=m.levers.length:=by simp[qg]
  have h2:=h.leak;simp only[inR] at h2;unfold Pf.sets;rw[e1,QBn (QA8 _),QBn (by omega)]
  refine Int.mul_le_mul_of_nonneg_left (Qa8 qI _ _ _ h.span fun hk'=>?_) (by simp only[qg];omega)
  have:qI (QpQ m.levers[k] n)=1:=by simp[qI,QpQ]
  omega
include hK
omit hK
theorem JE (a:Nat) (h:a<2 ^ 64):(BitVec.ofInt 64 (a:Int)).toNat=a:=by
 grind
theorem Uq (a:Nat) (h:a<2 ^ 64):IntKind.wrap .u64 (a:Int)=(a:Int):=by
 have h':a<18446744073709551616:=h;simp only[IntKind.wrap,IntKind.bits,IntKind.signed];simp;omega
theorem W7 (a b:Nat) (ha:a<2 ^ 64) (hb:b<2 ^ 64):YM .or .u64 (a:Int) (b:Int)=((a ||| b:Nat):Int):=by
 show IntKind.wrap .u64 (((BitVec.ofInt 64 (a:Int)) ||| (BitVec.ofInt 64 (b:Int))).toNat:Int)=_
 rw[BitVec.toNat_or,JE a ha,JE b hb,Uq _ (QCq ha hb)]
theorem QdD (a b:Nat) (ha:a<2 ^ 64) (hb:b<2 ^ 64):YM .and .u64 (a:Int) (b:Int)=((a &&& b:Nat):Int):=by
 show IntKind.wrap .u64 (((BitVec.ofInt 64 (a:Int)) &&& (BitVec.ofInt 64 (b:Int))).toNat:Int)=_
 rw[BitVec.toNat_and,JE a ha,JE b hb,Uq _ (Nat.and_lt_two_pow _ hb)]
def QAz (a b:Nat):Nat:=a &&& (2 ^ 64-1-b)
theorem Qcv {n:Nat} (h:n<64):Qk5 .u64 1 (n:Int)=((2 ^ n:Nat):Int):=by
 have h2:(2:Nat) ^ n<2 ^ 64:=QCv (by decide) h
 unfold Qk5;rw[show min ((n:Int)).toNat IntKind.u64.bits=n by simp[IntKind.bits];omega,Int.one_mul]
 have:((2:Int) ^ n)=((2 ^ n:Nat):Int):=by push_cast;rfl
 rw[this];exact Uq _ h2
def Qmo (l:List Nat):Nat:=l.foldl (fun m n=>m ||| 2 ^ n) 0
def Qk3 (p:Qj) (e:Nat->Int):List IV :=
 [.sl 1 ((List.range p.trials.length).map fun i=>[.int .u64 (Qmo (QeQ p i e):Nat)]),.sl 1 ((List.range p.trials.length).map fun i=>[.int .i64 (Wt p i e)]),UR (QsZ p e)]
include hK
omit hK
def Qln (p:Qj) (s:QA):List (List IV):=(List.range p.trials.length).map fun i=>[.int .i64 (Qt3 p.machine (tr p i).weight (tr p i).mins s),.int .i64 (upS p.machine (tr p i).weight (tr p i).mins s)]
def Qqh (p:Qj) (t:ZB):List IV:=Qk3 p (Wk t.ends)++[.sl 2 (Qln p t.set)]
def nd (p:Qj) (need:Int):Qj:={ p with need:=need }
include hK
def QzV (p:Qj) (t:ZB) (m i:Nat):Nat :=
 if p.need<=Qt3 p.machine (tr p i).weight (tr p i).mins t.set then m ||| (if 0<=Wt p i (Wk t.ends) then QAz (Qmo (QeQ p i (Wk t.ends))) (2 ^ (Wt p i (Wk t.ends)).toNat) else Qmo (QeQ p i (Wk t.ends))) else m
def pmN (p:Qj) (t:ZB) (n:Nat):Nat:=(List.range n).foldl (QzV p t) 0
omit hK
noncomputable def QiD (p:Qj):List (List IV):=(QbP p.chain [] p.chain.deeds).map fun e=>Qk3 p (Wk e)
noncomputable def Qra (p:Qj):List (List IV):=(Qcx p.machine [] p.machine.levers).map fun s=>[.sl 2 (Qln p s)]
def prC (p:Qj):List IV:=[Q0 p.chain.deeds,Q2 p.chain.sights,.int .i64 p.chain.wrong,ZY p.machine.levers,.int .i64 p.machine.water,.int .i64 p.machine.llo,.int .i64 p.machine.lhi,WN p.machine.bals,.int .i64 p.machine.wrong,
 Us p.trials,.int .i64 p.need,.int .i64 p.rule]
noncomputable def QAo (p:Qj):List IV:=prC p++[.sl 3 (QiD p),.sl 1 (Qra p)]
def Qz8 (p:Qj) (t:ZB):List IV:=[.agg (Qqh p t)]
include hK
omit hK
def QwZ (d:Qw):Qw:=QsO d 0
section
variable {ds ds':List Qw} (h:ds'.map QwZ=ds.map QwZ)
include h
end
def QzK:List Qw->List Int->List Qw
 | d::r,x::e=>QsO d x::QzK r e
 | _,_=>[]
theorem YL:∀ {ds:List Qw} {e:List Int},e∈Zh ds->e.length=ds.length/\∀ i (h:i<ds.length) (h':i<e.length),e[i]∈Qjx ds[i]
 | [],e,h=>by simp[Zh] at h;subst h;simp
 | d::r,e,h=>by
   simp only[Zh,QBJ,QBl] at h;obtain ⟨x,hx,e',he',rfl⟩:=h;obtain ⟨h1,h2⟩:=YL he'
   grind
theorem QbQ {d:Qw} {x:Int} (h:x∈Qjx d):(x=0\/x=1)/\(d.frm=2\/x=d.frm):=by
 unfold Qjx at h
 grind
theorem OkD.frm {ds:List Qw} {n:Nat} (h:OkD ds n) (hn:ds.length<=n):∀ d∈ds,d.frm=0\/d.frm=1\/d.frm=2:=by
 intro d hd;obtain ⟨i,hi,rfl⟩:=QBV hd;have:=h i hi (by omega)
 rcases this with ⟨_,h2,_⟩ | ⟨_,h2,_⟩ | ⟨_,_,h2,_⟩
 ·simp only[inR] at h2;omega
 ·simp only[inR] at h2;omega
 ·omega
section
variable {c:Qx} (hc:OkC c) {e:List Int} (he:e∈Zh c.deeds)
include hc he
theorem Qiq:Qs3 c.deeds e:=by
 obtain ⟨h1,h2⟩:=YL he;refine ⟨h1,fun i h h'=>?_⟩
 have h3:=QbQ (h2 i h h');simp only[inR];omega
end
def Qtt:List Z0->List Int->List Z0
 | l::r,x::e=>QpQ l x::Qtt r e
 | l,[]=>l
 | [],_=>[]
def Qz1 (m:Machine) (s:QA):Machine:={ m with levers:=Qtt m.levers s.shorts,llo:=s.leak,lhi:=s.leak }
def Qz2 (m:Machine) (first:List Int):Machine:={ m with levers:=Qtt m.levers first }
@[reducible] def QAn (p:Qj) (SS LL:List (List IV)):Qi :=
 [(0,.box [.loc 1 0]),(1,.box ((prC p).map AV.iv++[.aref 2 SS.length,.aref 3 LL.length])),(2,.arr 241 3 (emb SS) 0),(3,.arr 246 1 (emb LL) 0)]
def QAZ (pe:List (Nat × Nat × Nat)) (o1:Qi):Env->Qi->Prop:=QpO [ZG.tmp 4] [0,1,2,3] pe (.iv (.bool true)) o1
include hK
def QAL (p:Qj) (lo up:Nat->Int):List IV:=[.sl 2 ((List.range p.trials.length).map fun i=>[.int .i64 (lo i),.int .i64 (up i)])]
omit hK
structure Few (p:Qj):Prop where
 fine:QAE p
 ends:OkP p->(QbP p.chain [] p.chain.deeds).length<=1000000
 sets:OkP p->(Qcx p.machine [] p.machine.levers).length<=1000000
 all:OkP p->(Xj p).length<=100000
include hK
omit hK
def exD:List Qw:=[⟨1,0,0,5,1⟩,⟨1,1,0,5,2⟩,⟨1,2,0,6,1⟩,⟨4,0,0,0,0⟩,⟨2,0,2,0,0⟩,⟨1,0,1,7,2⟩]
def exC:Qx:=⟨exD++[⟨4,0,0,0,0⟩],[],0⟩
def exM:Machine:=⟨[⟨100,10,11⟩,⟨50,5,5⟩],20,1,2,[⟨10,5,2500,250⟩],0⟩
def exP:Qj:=⟨exC,exM,[⟨30,0,0⟩,⟨31,0,-1⟩],4600,1⟩
include hK
theorem Qns:Ev.Good Tryz.prog K 113 [] (maV exM):=by
 refine Qb hK Qpt (by simp) ?_
 simp[exM]
def Qjt:AV:=.tup [.agg [.aref 0 6,.iv (.sl 5 []),.iv (.int .i64 0)],.iv (.agg [.int .i64 6,.int .i64 1,.int .i64 0,.int .i64 6,.int .i64 (-1)]),.iv (.agg [.int .i64 6,.int .i64 0,.int .i64 0,.int .i64 (-1),.int .i64 1])]
theorem Qji:Zn Tryz.prog K 112 [] [] [] Qjt [(0,.arr 137 5 (emb (exD.map dC)) 0)]:=by
 refine Yb [9] [] [] [] Qpu.p (by simp[Qtn]) (by simp) ?_ ?_ ?_ ?_
 ·intro q hq
  simp only[QBk] at hq;subst hq;exact ⟨by simp,rfl,VG _ _ _ _ _⟩
 ·simp[clA,clAL,Qjt]
 ·simp
 ·generalize hG:QpO Qtn.res [9] [] Qjt [(0,.arr 137 5 (emb (exD.map dC)) 0)]=G
  simp;rw[<- hG];refine ⟨⟨_,rfl,rfl⟩,fun q hq=>?_,by simp⟩
  simp only[QBk] at hq;subst hq;rfl
theorem Qry:Ev.Good Tryz.prog K 40 [] (prV exP):=by
 refine Qb hK Qsn (by simp) ?_
 simp;refine ZQ (Qji hK) rfl ?_ ?_
 ·refine ⟨by simp,by simp,by simp,by simp[Qc],?_⟩
  simp[XO]
 ·simp[Qjt,rn,rnL,nth,Jo]
  refine ⟨⟨rfl,by decide,by decide⟩,cK (by simpa using Qns hK) ?_⟩
  simp[exP,exC,exM,exD,emb]
omit hK
theorem QbJ:OkC exC:=by
 refine ⟨by decide,by decide,by decide,fun i h _=>?_,fun s hs=>by simp[exC] at hs⟩
 have all:∀ i<7,Zg (exC.deeds.getD i d0) (cnt exC.deeds i):=by decide
 have:=all i h
 grind
theorem Qg7:OkM exM:=by
 refine ⟨by decide,?_,by decide,by decide,by decide,by decide,?_,by decide⟩
 ·intro l hl;simp[exM] at hl;rcases hl with rfl | rfl<;>decide
 ·intro l hl;simp[exM] at hl;subst hl;decide
theorem QbI:OkP exP:=by
 refine ⟨QbJ,Qg7,by decide,by decide,by decide,fun i h h'=>?_⟩
 have all:∀ i<2,YC (exP.trials.getD i t0) (cnt exP.chain.deeds ((pv exP.chain.deeds).getD i 0)):=by decide
 have:=all i h'
 grind
theorem QbO {c:Qx} (hc:OkC c) (hs:c.sights=[]):QbP c [] c.deeds=Zh c.deeds:=by
 have hw:=hc.wrong;simp only[inR] at hw;unfold QbP;have e1:((Zh c.deeds).map fun x=>[]++x)=Zh c.deeds:=by simp
 rw[e1,List.filter_eq_self];intro e he;have h1:=Qiq hc he;have h2:(Q1 c.deeds c.sights (Wk e):Int)<=c.wrong:=by rw[hs];simpa[Q1] using hw.1
 simpa using ⟨h1,h2⟩
theorem WX:∀ {ls:List Z0} {e:List Int},e∈Yr ls->e.length=ls.length/\∀ i (h:i<ls.length) (h':i<e.length),inR e[i] ls[i].lo ls[i].hi
 | [],e,h=>by simp[Yr] at h;subst h;simp
 | l::r,e,h=>by
   simp only[Yr,acc,QBJ,QBl,QBF] at h;obtain ⟨i,hi,e',he',rfl⟩:=h;obtain ⟨h1,h2⟩:=WX he';refine ⟨by simp[h1],fun j h h'=>?_⟩
   cases j with
   | zero=>simp only[List.getElem_cons_zero,inR];omega
   | _=>grind
theorem Ql8 {m:Machine} {s:QA} (h:s∈qJ m [] m.levers):okS m s:=by
 simp only[qJ,QBJ,QBl,QBF] at h;obtain ⟨e,he,k,hk,rfl⟩:=h;obtain ⟨h1,h2⟩:=WX he;exact ⟨by simpa using h1,by simp only[inR];omega,by simpa using h2⟩
theorem Qcw (m:Machine):Qcx m [] m.levers=(qJ m [] m.levers).filter fun s=>decide ((Qce m m.bals s:Int)<=m.wrong):=by
 unfold Qcx;refine List.filter_congr fun s hs=>?_
 rw[Bool.eq_iff_iff];simp only[decide_eq_true_eq];exact ⟨fun h=>h.2,fun h=>⟨Ql8 hs,h⟩⟩
def exT:List ZB:=[⟨[0,0,0,0,0,1,0],⟨[10,5],1⟩⟩,⟨[0,0,0,0,0,1,0],⟨[11,5],1⟩⟩,⟨[0,0,0,0,1,1,0],⟨[10,5],1⟩⟩,⟨[0,0,0,0,1,1,0],⟨[11,5],1⟩⟩]
theorem Qjq:Xj exP=exT:=by
 unfold Xj;rw[show exP.chain=exC from rfl,show exP.machine=exM from rfl,QbO QbJ rfl,Qcw]
 decide
theorem QrW (r:Int) (hr:inR r 1 12):Few { exP with rule:=r }:=by
 have h2:Xj { exP with rule:=r }=exT:=Qjq
 refine ⟨⟨⟨show exP.chain.deeds.length<=1000 by decide,show exP.chain.sights.length<=1000 by decide,show exP.machine.levers.length<=1000 by decide,show exP.machine.bals.length<=1000 by decide,show exP.trials.length<=1000 by decide⟩,fun _=>show sets exP.machine exP.machine.levers.length<=1000000 by decide⟩,fun _=>?_,fun _=>?_,fun _=>by rw[h2];decide⟩
 ·rw[show ({ exP with rule:=r }:Qj).chain=exC from rfl,QbO QbJ rfl];decide
 ·rw[show ({ exP with rule:=r }:Qj).machine=exM from rfl,Qcw]
  exact QBY (QCa _ _) (by decide)
include hK
omit hK
def QsL (p:Qj) (r:Int):Qj:=⟨p.chain,p.machine,p.trials,p.need,r⟩
theorem WU {c n:Nat}:Vd c n=1↔c=n:=by
 unfold Vd;omega
theorem Ut {c n:Nat} (hn:n≠0):Vd c n=2↔c=0:=by
 unfold Vd;omega
def QzP (p:Qj) (i:Nat):Nat:=(List.range i).countP fun k=>decide (0<=(tr p k).broke)
include hK
omit hK
theorem Qt7 {p:Qj} (hp:OkP p) {t:ZB} (h:t∈Xj p):kE p true=0:=by
 unfold kE
 grind
theorem YU {α:Type} (f:α->Int):∀ (l:List α) (t:α),t∈l->(span (l.map f)).1<=f t/\f t<=(span (l.map f)).2
 | [],_,h=>by cases h
 | a::r,t,h=>by
   have mono:∀ (l:List α) (x u:Int),(l.map f).foldl min x<=x/\u<=(l.map f).foldl max u:=by
    intro l
    induction l with
    | cons b l ih =>
      intro x u;simp only[QBf,QBu];have:=ih (min x (f b)) (max u (f b));omega
    | _=>grind
   have key:∀ (l:List α) (x u:Int),t∈l->(l.map f).foldl min x<=f t/\f t<=(l.map f).foldl max u:=by
    intro l
    induction l with
    | cons b l ih =>
      intro x u h;simp only[QBf,QBu];rcases QBh.1 h with rfl | h
      ·have:=mono l (min x (f t)) (max u (f t))
       omega
      ·exact ih _ _ h
    | _=>grind
   simp only[QBf,span];rcases QBh.1 h with rfl | h
   ·exact mono r _ _
   ·exact key r _ _ h
def Qic (k:Int) (b:Bool):Prop:=k=3\/(k=1/\b=true)\/(k=2/\b=false)
theorem Ql4 {α:Type} (f:α->Int) (a:Int):∀ l:List α,l≠[]->(∀ t∈l,a<=f t)->a<=(span (l.map f)).1
 | [],h,_=>absurd rfl h
 | b::r,_,h=>by
   have key:∀ (l:List α) (x:Int),(∀ t∈l,a<=f t)->a<=x->a<=(l.map f).foldl min x:=by
    intro l
    induction l with
    | _=>grind
   simp only[QBf,span]
   grind
theorem Ql3 {α:Type} (f:α->Int) (a:Int):∀ l:List α,l≠[]->(∀ t∈l,f t<=a)->(span (l.map f)).2<=a
 | [],h,_=>absurd rfl h
 | b::r,_,h=>by
   have key:∀ (l:List α) (x:Int),(∀ t∈l,f t<=a)->x<=a->(l.map f).foldl max x<=a:=by
    intro l
    induction l with
    | _=>grind
   simp only[QBf,span]
   grind
instance (k:Int) (b:Bool):Decidable (Qic k b):=by unfold Qic;infer_instance
include hK
omit hK
@[simp] theorem Qqp {α:Type} (lod:Nat->Option AO) (ids:List Nat) (f:α->List IV) (l:List α):List.map (QfP lod ids∘List.map AV.iv∘f) l=List.map (List.map AV.iv∘f) l :=
 QCy fun a _=>Qcq lod ids (f a)
include hK
@[simp] def prA (p:Qj) (ds ss bs ts:AV):List AV:=[ds,ss,.iv (.int .i64 p.chain.wrong),.iv (ZY p.machine.levers),.iv (.int .i64 p.machine.water),.iv (.int .i64 p.machine.llo),.iv (.int .i64 p.machine.lhi),bs,.iv (.int .i64 p.machine.wrong),ts,.iv (.int .i64 p.need),.iv (.int .i64 p.rule)]
omit hK
def prv:Qw:=⟨4,0,0,0,0⟩
def QAB (D:List Qw):List Qw:=D++[prv]
def QAC (c:Qx):Qx:=⟨QAB c.deeds,c.sights,c.wrong⟩
def QAV (p:Qj) (w:Int):Qj:=⟨QAC p.chain,p.machine,p.trials++[⟨w,0,-1⟩],p.need,p.rule⟩
def QAW (t:ZB):ZB:=⟨t.ends++[0],t.set⟩
@[simp] theorem Qtc (L:List (List IV)) (a b c d e:IV):emb L++[[.iv a,.iv b,.iv c,.iv d,.iv e]]=emb (L++[[a,b,c,d,e]]):=by simp[emb]
theorem Ji {p:Qj} (hp:OkP p):kL p true=Xj p:=by unfold kL;grind
include hK
omit hK
def chD (x fin:Int) (d:Qw):Qw :=
 if d.what=1 then ⟨d.what,d.pos,fin,(d.bar+x).tmod 100,(d.smith+x).tmod 100⟩ else if d.what=2 then ⟨d.what,d.pos,fin,d.bar,d.smith⟩ else d
def chL (x fin:Int) (D:List Qw) (i:Nat):List (List IV):=((D.take i).map (chD x fin)++D.drop i).map dC
def mvN (n:Nat):Nat->Nat
 | 0=>0
 | _+1=>n
def chP (p:Qj) (x fin:Int):Qj:=⟨⟨p.chain.deeds.map (chD x fin),[],p.chain.wrong⟩,p.machine,p.trials,p.need,p.rule⟩
theorem Qcu:∀ l:List Int,l≠[]->(span l).1∈l/\(span l).2∈l
 | [],h=>absurd rfl h
 | a::r,_=>by
   have key:∀ (r:List Int) (x u:Int),(r.foldl min x=x\/r.foldl min x∈r)/\(r.foldl max u=u\/r.foldl max u∈r):=by
    intro r
    induction r with
    | cons b r ih =>
      intro x u;obtain ⟨h1,h2⟩:=ih (min x b) (max u b);simp only[QBu,QBh];refine ⟨?_,?_⟩
      ·rcases h1 with h1 | h1
       ·rw[h1];omega
       grind
      ·rcases h2 with h2 | h2
       ·rw[h2];omega
       grind
    | _=>grind
   obtain ⟨h1,h2⟩:=key r a a;simp only[span,QBh];exact ⟨h1,h2⟩
include hK
omit hK
structure Rod where
 long:Int
 wear:Int
 grow:Int
 deriving DecidableEq
structure QN where
 whn:Int
 rod:Int
 count:Int
 rest:Int
 off:Int
 wlo:Int
 whi:Int
 deriving DecidableEq
structure ZD where
 iron:Int
 glo:Int
 ghi:Int
 rods:List Rod
 reads:List QN
 wrong:Int
 deriving DecidableEq
@[simp] def roC (r:Rod):List IV:=[.int .i64 r.long,.int .i64 r.wear,.int .i64 r.grow]
@[simp] def reC (x:QN):List IV:=[.int .i64 x.whn,.int .i64 x.rod,.int .i64 x.count,.int .i64 x.rest,.int .i64 x.off,.int .i64 x.wlo,.int .i64 x.whi]
@[simp] def QcD (l:List Rod):IV:=.sl 3 (l.map roC)
@[simp] def UI (l:List QN):IV:=.sl 7 (l.map reC)
@[simp] def puC (p:ZD):List IV:=[.int .i64 p.iron,.int .i64 p.glo,.int .i64 p.ghi,QcD p.rods,UI p.reads,.int .i64 p.wrong]
@[simp] def puV (p:ZD):IV:=.agg (puC p)
def UO (r:Rod):Prop:=inR r.long 1 9999/\inR r.wear 0 (min 9 (r.long-1))/\inR r.grow 0 50
instance (r:Rod):Decidable (UO r):=by unfold UO;infer_instance
def YD (n:Nat) (x:QN):Prop:=(x.whn=1\/x.whn=2)/\inR x.rod 0 ((n:Int)-1)/\inR x.count 0 99/\inR x.rest 0 9999/\inR x.off 0 99/\inR x.wlo (-50) x.whi/\x.whi<=50
instance (n:Nat) (x:QN):Decidable (YD n x):=by unfold YD;infer_instance
structure OkU (p:ZD):Prop where
 iron:inR p.iron 0 50
 guess:inR p.glo 1 p.ghi
 most:p.ghi<=99999
 wrong:inR p.wrong 0 8
 rlen:p.rods.length<=4
 xlen:p.reads.length<=8
 rods:∀ r∈p.rods,UO r
 reads:∀ x∈p.reads,YD p.rods.length x
def okU (p:ZD):Bool:=decide (inR p.iron 0 50)&&decide (inR p.glo 1 p.ghi)&&decide (p.ghi<=99999)&&decide (inR p.wrong 0 8)&&decide (p.rods.length<=4)&&decide (p.reads.length<=8)&&decide (∀ r∈p.rods,UO r)&&decide (∀ x∈p.reads,YD p.rods.length x)
theorem Qmi (p:ZD):okU p=true↔OkU p:=by
 simp only[okU,QA1,decide_eq_true_eq];exact ⟨fun ⟨⟨⟨⟨⟨⟨⟨h1,h2⟩,h3⟩,h4⟩,h5⟩,h6⟩,h7⟩,h8⟩=>⟨h1,h2,h3,h4,h5,h6,h7,h8⟩,fun ⟨h1,h2,h3,h4,h5,h6,h7,h8⟩=>⟨⟨⟨⟨⟨⟨⟨h1,h2⟩,h3⟩,h4⟩,h5⟩,h6⟩,h7⟩,h8⟩⟩
instance (p:ZD):Decidable (OkU p):=decidable_of_iff _ (Qmi p)
def Qui (p:ZD) (x:QN):Int:=(p.rods.getD x.rod.toNat ⟨0,0,0⟩).grow
def QwV (p:ZD) (x:QN) (len rl t:Int):Int:=len*(1000000+p.iron*t)-(x.count*rl+x.rest)*(1000000+Qui p x*t)
def QAc (p:ZD) (x:QN) (len rl t:Int):Bool:=decide (QwV p x len rl t<=x.off*1000000 /\ -QwV p x len rl t<=x.off*1000000)
def Qtw (x:QN):Nat:=(x.whi-x.wlo+1).toNat
def Qla (p:ZD) (x:QN) (len rl:Int):Bool:=(List.range (Qtw x)).any fun (i:Nat)=>QAc p x len rl (x.wlo+i)
def Qek (a b:Int):List Int:=(List.range (b-a+1).toNat).map fun (i:Nat)=>a+i
theorem Wc (a b:Int):(Qek a b).Pairwise (·<·):=by
 unfold Qek;rw[List.pairwise_map];exact List.pairwise_lt_range.imp fun h=>by omega
def WD:List Rod->List (List Int)
 | []=>[[]]
 | r::rs=>(Qek (r.long-r.wear) r.long).flatMap fun n=>(WD rs).map (n::·)
def QAx (p:ZD) (wh:Int) (w:List Int) (len:Int) (x:QN):Bool:=decide (x.whn=wh)&&!Qla p x len (w.getD x.rod.toNat 0)
def wrU (p:ZD) (wh:Int) (w:List Int) (len:Int):Nat:=p.reads.countP (QAx p wh w len)
def WH (p:ZD):List Int:=Qek p.glo p.ghi
structure TrU where
 bef:Int
 aft:Int
 rods:List Int
def Qcd (p:ZD) (t:TrU):Nat:=wrU p 1 t.rods t.bef+wrU p 2 t.rods t.aft
def Qto (p:ZD):List TrU:=(WH p).flatMap fun b=>(WH p).flatMap fun a=>(WD p.rods).map fun w=>⟨b,a,w⟩
def QdJ (p:ZD):List TrU:=(Qto p).filter fun t=>decide ((Qcd p t:Int)<=p.wrong)
def Qjc (p:ZD) (wh:Int) (w:List Int) (n:Nat):List Int:=(WH p).filter fun len=>wrU p wh w len==n
def Qr7 (p:ZD) (wh:Int) (w:List Int):List Nat:=(List.range (p.reads.length+1)).filter fun n=>!(Qjc p wh w n).isEmpty
structure Grp where
 wrong:Nat
 lens:List Int
def QbA (p:ZD) (wh:Int) (w:List Int):List Grp:=(Qr7 p wh w).map fun n=>⟨n,Qjc p wh w n⟩
structure Bun where
 rods:List Int
 bef:Grp
 aft:Grp
def Qsx (p:ZD):List Bun:=(WD p.rods).flatMap fun w=>(QbA p 1 w).flatMap fun g=>(QbA p 2 w).map fun h=>⟨w,g,h⟩
def Qcm (p:ZD):List Bun:=(Qsx p).filter fun x=>decide (((x.bef.wrong+x.aft.wrong:Nat):Int)<=p.wrong)
theorem Qd9 {p:ZD} {t:TrU}:t∈QdJ p↔t.bef∈WH p/\t.aft∈WH p/\t.rods∈WD p.rods/\(Qcd p t:Int)<=p.wrong:=by
 simp only[QdJ,Qto,QCA,QBJ,QBl,decide_eq_true_eq]
 grind
theorem Qp9 (p:ZD) (wh:Int) (w:List Int) (len:Int):wrU p wh w len<=p.reads.length:=List.countP_le_length
theorem JM {p:ZD} {wh:Int} {w:List Int} {n:Nat} {len:Int}:len∈Qjc p wh w n↔len∈WH p/\wrU p wh w len=n:=by
 simp[Qjc,QCA]
theorem XP {p:ZD} {wh:Int} {w:List Int} {g:Grp}:g∈QbA p wh w↔g.lens=Qjc p wh w g.wrong/\g.lens≠[]:=by
 simp only[QbA,Qr7,QBl,QCA,QBF];constructor
 ·grind
 ·rintro ⟨h1,h2⟩
  refine ⟨g.wrong,⟨?_,?_⟩,by rw[<- h1]⟩
  ·obtain ⟨x,hx⟩:=QCb _ h2
   rw[h1] at hx;have:=Qp9 p wh w x;have:=(JM.1 hx).2;omega
  grind
theorem qV {p:ZD} {x:Bun}:x∈Qcm p↔x.rods∈WD p.rods/\x.bef∈QbA p 1 x.rods/\x.aft∈QbA p 2 x.rods/\((x.bef.wrong+x.aft.wrong:Nat):Int)<=p.wrong:=by
 simp only[Qcm,Qsx,QCA,QBJ,QBl,decide_eq_true_eq]
 grind
theorem qt {p:ZD} {t:TrU} (h:t∈QdJ p):∃ x∈Qcm p,x.rods=t.rods/\t.bef∈x.bef.lens/\t.aft∈x.aft.lens:=by
 obtain ⟨hb,ha,hw,hn⟩:=Qd9.1 h;have h1:t.bef∈Qjc p 1 t.rods (wrU p 1 t.rods t.bef):=JM.2 ⟨hb,rfl⟩;have h2:t.aft∈Qjc p 2 t.rods (wrU p 2 t.rods t.aft):=JM.2 ⟨ha,rfl⟩
 exact ⟨⟨t.rods,⟨_,Qjc p 1 t.rods (wrU p 1 t.rods t.bef)⟩,⟨_,Qjc p 2 t.rods (wrU p 2 t.rods t.aft)⟩⟩,
  qV.2 ⟨hw,XP.2 ⟨rfl,List.ne_nil_of_mem h1⟩,XP.2 ⟨rfl,List.ne_nil_of_mem h2⟩,hn⟩,rfl,h1,h2⟩
theorem Vc {p:ZD} {x:Bun} (h:x∈Qcm p) {b a:Int} (hb:b∈x.bef.lens) (ha:a∈x.aft.lens):⟨b,a,x.rods⟩∈QdJ p:=by
 obtain ⟨hw,hg,hh,hn⟩:=qV.1 h;have h1:=(XP.1 hg).1;have h2:=(XP.1 hh).1;rw[h1] at hb;rw[h2] at ha;obtain ⟨hb1,hb2⟩:=JM.1 hb;obtain ⟨ha1,ha2⟩:=JM.1 ha;refine Qd9.2 ⟨hb1,ha1,hw,?_⟩;simp only[Qcd,hb2,ha2];exact hn
theorem Y8 {p:ZD} {x:Bun} (h:x∈Qcm p):x.bef.lens.Pairwise (·<·)/\x.aft.lens.Pairwise (·<·)/\x.bef.lens≠[]/\x.aft.lens≠[]:=by
 obtain ⟨_,hg,hh,_⟩:=qV.1 h;have h1:=XP.1 hg;have h2:=XP.1 hh;refine ⟨?_,?_,h1.2,h2.2⟩
 ·rw[h1.1];exact (Wc _ _).filter _
 ·rw[h2.1];exact (Wc _ _).filter _
theorem QdK {p:ZD}:Qcm p=[]↔QdJ p=[]:=by
 constructor
 ·intro h
  refine QCf.2 fun t ht=>?_
  obtain ⟨x,hx,_⟩:=qt ht
  grind
 ·intro h
  refine QCf.2 fun x hx=>?_
  obtain ⟨_,_,h1,h2⟩:=Y8 hx;obtain ⟨b,hb⟩:=QCb _ h1;obtain ⟨a,ha⟩:=QCb _ h2;have:=Vc hx hb ha
  grind
theorem QkF {l:List Int} (h:l.Pairwise (·<·)) (hne:l≠[]):l.head hne∈l/\l.getLast hne∈l/\∀ x∈l,l.head hne<=x/\x<=l.getLast hne:=by
 refine ⟨List.head_mem hne,List.getLast_mem hne,fun x hx=>⟨?_,?_⟩⟩
 ·cases l with
  | nil=>cases hx
  | cons a r =>
    rcases QBh.1 hx with rfl | hx
    ·grind
    ·exact Int.le_of_lt (List.rel_of_pairwise_cons h hx)
 ·obtain ⟨i,hi,rfl⟩:=QBV hx
  rw[List.getLast_eq_getElem];rcases Nat.lt_or_eq_of_le (Nat.le_sub_one_of_lt hi) with h1 | h1
  ·exact Int.le_of_lt (QCw.1 h i _ hi (by omega) h1)
  grind
def U9 (l:List Int):Int:=l.headD 0
def V5 (l:List Int):Int:=l.getLastD 0
theorem VC {l:List Int} (h:l.Pairwise (·<·)) (hne:l≠[]):U9 l∈l/\V5 l∈l/\∀ x∈l,U9 l<=x/\x<=V5 l:=by
 have:=QkF h hne
 have e1:U9 l=l.head hne:=by cases l with
  | cons a r=>rfl
  | _=>grind
 have e2:V5 l=l.getLast hne:=by cases l with
  | cons a r =>
    unfold V5
    grind
  | _=>grind
 grind
theorem Ql5 {l:List Int} {a b:Int} (hne:l≠[]) (ha:a∈l) (hb:b∈l) (h:∀ x∈l,a<=x/\x<=b):span l=(a,b):=by
 have h1:=YU (fun x:Int=>x) l a ha
 have h2:=YU (fun x:Int=>x) l b hb
 have h3:=Ql4 (fun x:Int=>x) a l hne (fun x hx=>(h x hx).1)
 have h4:=Ql3 (fun x:Int=>x) b l hne (fun x hx=>(h x hx).2)
 simp only[List.map_id'] at h1 h2 h3 h4
 grind
def QgM (t:TrU):Int:=t.aft-t.bef
def loB (x:Bun):Int:=U9 x.aft.lens-V5 x.bef.lens
def hiB (x:Bun):Int:=V5 x.aft.lens-U9 x.bef.lens
def QdL (p:ZD):Int × Int:=((span ((Qcm p).map loB)).1,(span ((Qcm p).map hiB)).2)
theorem Qcr (p:ZD):QdL p=span ((QdJ p).map QgM):=by
 by_cases hn:QdJ p=[]
 ·have:=QdK.2 hn
  simp[QdL,hn,this]
 ·have hb:Qcm p≠[]:=fun h=>hn (QdK.1 h)
  have hlo:(Qcm p).map loB≠[]:=by simpa using hb
  have hhi:(Qcm p).map hiB≠[]:=by simpa using hb
  have h1:=(Qcu _ hlo).1;have h2:=(Qcu _ hhi).2
  symm
  obtain ⟨x,hx,ex⟩:=QBl.1 h1;obtain ⟨y,hy,ey⟩:=QBl.1 h2;obtain ⟨s1,s2,s3,s4⟩:=Y8 hx;obtain ⟨s5,s6,s7,s8⟩:=Y8 hy;refine Ql5 (by simpa using hn) ?_ ?_ ?_
  ·refine QBl.2 ⟨_,Vc hx (VC s1 s3).2.1 (VC s2 s4).1,?_⟩
   rw[<- ex];rfl
  ·refine QBl.2 ⟨_,Vc hy (VC s5 s7).1 (VC s6 s8).2.1,?_⟩
   rw[<- ey];rfl
  ·intro z hz
   obtain ⟨t,ht,rfl⟩:=QBl.1 hz;obtain ⟨u,hu,_,hub,hua⟩:=qt ht;obtain ⟨u1,u2,u3,u4⟩:=Y8 hu;have e1:=(VC u1 u3).2.2 _ hub;have e2:=(VC u2 u4).2.2 _ hua;have f1:=(YU loB _ _ hu).1;have f2:=(YU hiB _ _ hu).2;simp only[loB,hiB,QgM] at *;omega
def QmE (b a part:Int):Bool:=decide (1000*(a-b)<=part*b)
def Qrj (p:ZD) (part:Int):Int :=
 if (Qcm p).all fun x=>QmE (U9 x.bef.lens) (V5 x.aft.lens) part then 1 else if (Qcm p).any fun x=>QmE (V5 x.bef.lens) (U9 x.aft.lens) part then 3 else 2
def QAw (p:ZD):Option Nat:=(List.range 1001).find? fun (i:Nat)=>decide (Qrj p i=1)
def QzT (p:ZD) (rod:Nat):List Int:=Vh ((Qcm p).map fun x=>x.rods.getD rod 0)
end Go.Pf
namespace Go.Pf
open Go
set_option maxRecDepth 8000
abbrev Txt:=List UInt8
def Qd4 (w:Txt):Option Int :=
 if w.head?=some 45 then
  (if (w.drop 1).length<=9/\(w.drop 1).head?≠some 48 then (Lib.decNat (w.drop 1)).map fun (m:Nat) => -(m:Int) else none)
 else if w.length<=9/\(w.head?=some 48->w.length<=1) then (Lib.decNat w).map fun (m:Nat)=>(m:Int) else none
theorem QbV (u:Nat):Lib.decDigits u≠[]:=by
 rw[Lib.decDigits];split<;>simp
theorem JA:∀ (l:Txt) (acc m:Nat) (c:UInt8),Lib.decFrom acc l=some m->Lib.decFrom acc (l++[c])=(Lib.digitVal c).map fun d=>m*10+d
 | [],acc,m,c,h=>by
   cases h;simp only[QB4,Lib.decFrom]
   grind
 | b::r,acc,m,c,h=>by
   simp only[QBA,Lib.decFrom] at h |-;cases hb:Lib.digitVal b with
   | some d =>
     rw[hb] at h;exact JA r _ m c h
   | _=>grind
theorem Wl {d:Nat} (h:d<10):Lib.digitVal (UInt8.ofNat (48+d))=some d:=by
 have:(UInt8.ofNat (48+d)).toNat=48+d:=by simp;omega
 unfold Lib.digitVal
 grind
theorem WL (u:Nat):Lib.decFrom 0 (Lib.decDigits u)=some u:=by
 induction u using Nat.strongRecOn with
 | ind u ih =>
   rw[Lib.decDigits];split
   ·rename_i h
    have:=Wl h;simp only[Lib.decFrom,this];simp
   ·rename_i h
    rw[JA _ _ _ _ (ih (u / 10) (by omega)),Wl (by omega)]
    simp;omega
theorem JZ (u:Nat):Lib.decNat (Lib.decDigits u)=some u:=by
 unfold Lib.decNat;rw[if_neg (by simpa[List.isEmpty_iff] using QbV u),WL]
theorem Jv (u:Nat):∃ d,d<10/\(Lib.decDigits u).head?=some (UInt8.ofNat (48+d))/\(d=0->u=0):=by
 induction u using Nat.strongRecOn with
 | ind u ih =>
   rw[Lib.decDigits];split
   ·rename_i h
    exact ⟨u,h,by simp,id⟩
   ·rename_i h
    obtain ⟨d,h1,h2,h3⟩:=ih (u / 10) (by omega)
    grind
theorem QiS {d:Nat} (h:d<10):UInt8.ofNat (48+d)≠45:=by
 intro e;have:=congrArg UInt8.toNat e;simp at this;omega
theorem W9 {d:Nat} (h:d<10) (e:UInt8.ofNat (48+d)=48):d=0:=by
 have:=congrArg UInt8.toNat e;simp at this;omega
theorem VF:∀ (n:Nat) (l:Txt),l.length=n->∀ u,Lib.decNat l=some u->(l.head?=some 48->l.length<=1)->Lib.decDigits u=l
 | 0,l,hl,u,h,_=>by
   have:=QA5 hl;subst this;cases h
 | n+1,l,hl,u,h,hz=>by
   have hne:l≠[]:=fun e=>by grind
   obtain ⟨r,c,rfl⟩:∃ r c,l=r++[c]:=⟨l.dropLast,l.getLast hne,(QCk hne).symm⟩
   have hr:r.length=n:=by simpa using hl
   have h':Lib.decFrom 0 (r++[c])=some u:=by
    unfold Lib.decNat at h
    grind
   have hdv:∀ d,Lib.digitVal c=some d->d<10/\c=UInt8.ofNat (48+d):=fun d hd=>by
    unfold Lib.digitVal at hd;split at hd
    ·rename_i hc
     injection hd with hd
     refine ⟨by omega,UInt8.toNat_inj.1 ?_⟩
     simp;omega
    ·cases hd
   cases hm:Lib.decFrom 0 r with
   | none =>
     exfalso
     have:∀ (l:Txt) (acc:Nat),Lib.decFrom acc l=none->Lib.decFrom acc (l++[c])=none:=by
      intro l
      induction l with
      | nil=>intro acc h;cases h
      | cons b t ih =>
        intro acc h;simp only[QBA,Lib.decFrom] at h |-
        grind
     grind
   | some m =>
     rw[JA r 0 m c hm,QA4] at h';obtain ⟨d,hd,rfl⟩:=h';obtain ⟨hd10,rfl⟩:=hdv d hd;by_cases hr0:r=[]
     ·subst hr0
      cases hm;rw[Lib.decDigits];simp[hd10]
     ·have hpos:0<r.length:=List.length_pos_iff.2 hr0
      have hhead:r.head?≠some 48:=fun e=>by
       grind
      have hm':Lib.decNat r=some m:=by
       unfold Lib.decNat
       grind
      have ih:=VF n r hr m hm' (fun e=>absurd e hhead)
      have hm0:m≠0:=fun e=>by
       subst e;have e1:Lib.decDigits 0=[48]:=by rw[Lib.decDigits];rfl
       grind
      rw[Lib.decDigits,dif_neg (by omega)]
      grind
theorem Qgj {w:Txt} {v:Int} (h:Qd4 w=some v):Lib.itoa v=w/\(Lib.trimPrefix w [45]).length<=9/\Lib.atoiAll w=.ok v:=by
 unfold Qd4 at h;split at h
 ·rename_i h45
  obtain ⟨r,rfl⟩:∃ r,w=45::r:=by
   cases w with
   | _=>grind
  simp only[List.drop_succ_cons,List.drop_zero] at h;split at h
  ·rename_i hc
   rw[QA4] at h;obtain ⟨m,hm,rfl⟩:=h;have hd:=VF _ r rfl m hm (fun e=>absurd e hc.2)
   have hm1:1<=m:=by
    rcases QCi m with h0 | h0
    ·subst h0
     exfalso;have e1:Lib.decDigits 0=[48]:=by rw[Lib.decDigits];rfl
     grind
    ·exact h0
   refine ⟨by rw[Lib.itoa_neg m hm1,hd],by simp[Lib.trimPrefix,Lib.hasPrefix,hc.1],?_⟩
   rw[Lib.atoiAll_short _ (by simp;omega)]
   simp[Lib.atoi,hm,Lib.NumEnd.ofOption]
  ·cases h
 ·rename_i h45
  split at h
  ·rename_i hc
   rw[QA4] at h;obtain ⟨m,hm,rfl⟩:=h;have hd:=VF _ w rfl m hm hc.2;obtain ⟨d,hd10,hh,_⟩:=Jv m;rw[hd] at hh;refine ⟨by rw[Lib.itoa_nonneg,hd],?_,?_⟩
   ·have:Lib.hasPrefix w [45]=false:=by
     cases w with
     | nil=>rfl
     | cons a r =>
       have:a≠45:=fun e=>h45 (by rw[e];rfl)
       simp[Lib.hasPrefix,List.isPrefixOf,Ne.symm this]
    simp[Lib.trimPrefix,this,hc.1]
   ·rw[Lib.atoiAll_short _ (by omega)]
    cases w with
    | nil=>cases hm
    | cons a r =>
      have e45:a≠45:=fun e=>h45 (by rw[e];rfl)
      have e43:a≠43:=fun e=>by
       subst e;simp at hh;have:=congrArg UInt8.toNat hh;simp at this;omega
      simp[Lib.atoi,e45,e43,hm,Lib.NumEnd.ofOption]
  ·cases h
theorem QgD {w:Txt} {v:Int} (h1:Lib.itoa v=w) (h2:(Lib.trimPrefix w [45]).length<=9):Qd4 w=some v:=by
 unfold Lib.itoa at h1;split at h1
 ·rename_i hv
  subst h1;obtain ⟨d,hd10,hh,h0⟩:=Jv v.natAbs
  have hz:(Lib.decDigits v.natAbs).head?≠some 48:=fun e=>by
   rw[hh] at e;injection e with e
   have:=h0 (W9 hd10 e);omega
  have hl:(Lib.decDigits v.natAbs).length<=9:=by simpa[Lib.trimPrefix,Lib.hasPrefix] using h2
  simp[Qd4,hz,hl,JZ];omega
 ·rename_i hv
  subst h1;obtain ⟨d,hd10,hh,h0⟩:=Jv v.toNat
  have h45:(Lib.decDigits v.toNat).head?≠some 45:=fun e=>by
   rw[hh] at e;injection e with e
   exact QiS hd10 e
  have hp:Lib.hasPrefix (Lib.decDigits v.toNat) [45]=false:=by
   cases hw:Lib.decDigits v.toNat with
   | nil=>rfl
   | cons a r =>
     have:a≠45:=fun e=>h45 (by rw[hw,e];rfl)
     simp[Lib.hasPrefix,List.isPrefixOf,Ne.symm this]
  have hl:(Lib.decDigits v.toNat).length<=9:=by simpa[Lib.trimPrefix,hp] using h2
  have h48:(Lib.decDigits v.toNat).head?=some 48->(Lib.decDigits v.toNat).length<=1:=fun e=>by
   rw[hh] at e;injection e with e
   have:=h0 (W9 hd10 e);rw[this,Lib.decDigits];simp
  unfold Qd4;rw[if_neg h45,if_pos ⟨hl,h48⟩,JZ];simp;omega
end Go.Pf
namespace Go.Pf
open Go Go.Ev Go.Proofs Go.RowKit
set_option maxRecDepth 8000
structure Qp where
 proof:Qj
 pull:ZD
@[simp] def hoC (h:Qp):List IV:=[Q0 h.proof.chain.deeds,Q2 h.proof.chain.sights,.int .i64 h.proof.chain.wrong,ZY h.proof.machine.levers,.int .i64 h.proof.machine.water,.int .i64 h.proof.machine.llo,.int .i64 h.proof.machine.lhi,WN h.proof.machine.bals,.int .i64 h.proof.machine.wrong,
 Us h.proof.trials,.int .i64 h.proof.need,.int .i64 h.proof.rule,.int .i64 h.pull.iron,.int .i64 h.pull.glo,.int .i64 h.pull.ghi,QcD h.pull.rods,UI h.pull.reads,.int .i64 h.pull.wrong]
@[simp] def hoV (h:Qp):IV:=.agg (hoC h)
def okH (h:Qp):Prop:=OkP h.proof/\OkU h.pull
noncomputable instance (h:Qp):Decidable (okH h):=Classical.propDecidable _
def Qww:Txt:=[121,101,115]
def tNo:Txt:=[110,111]
def QiB:Txt:=[110,111,110,101]
def Qcp:Txt:=[119,104,97,116]
def QlV:Txt:=[115,117,114,101,108,121]
def Qqn:Txt:=[110,101,118,101,114]
def QiA:Txt:=[112,101,114,104,97,112,115]
def WI:List Txt->Txt
 | []=>[]
 | [x]=>x
 | x::y::r=>x++32::WI (y::r)
def Qrc (l:List Int):Txt:=if l=[] then QiB else WI (l.map Lib.itoa)
def Xb (l:List Int) (e:Int):Txt:=if e=0 then Qrc l else if e=3 then QiB else tNo
def Qbq (n e:Int):Txt:=if e=0 then (if n=1 then QlV else if n=2 then Qqn else QiA) else Xb [] e
inductive Qcb where
 | weld | cut | turn | prove | undo | see | balance | read
 | who | wher | first | pulls | broke | loads | failures | condemned | proved | opn | good | worth | weight | stretch | best | holds | rods
 deriving DecidableEq
def Jf:List (Txt × Nat × Qcb):=[
 ([119,101,108,100],4,.weld),([99,117,116],2,.cut),([116,117,114,110],0,.turn),([112,114,111,118,101],3,.prove),([117,110,100,111],0,.undo),
 ([115,101,101],5,.see),([98,97,108,97,110,99,101],4,.balance),([114,101,97,100],7,.read),
 ([119,104,111],1,.who),([119,104,101,114,101],1,.wher),([102,105,114,115,116],0,.first),([112,117,108,108,115],2,.pulls),([98,114,111,107,101],1,.broke),
 ([108,111,97,100,115],1,.loads),([102,97,105,108,117,114,101,115],0,.failures),([99,111,110,100,101,109,110,101,100],0,.condemned),([112,114,111,118,101,100],1,.proved),
 ([111,112,101,110],0,.opn),([103,111,111,100],0,.good),([119,111,114,116,104],0,.worth),([119,101,105,103,104,116],0,.weight),([115,116,114,101,116,99,104],0,.stretch),
 ([98,101,115,116],0,.best),([104,111,108,100,115],1,.holds),([114,111,100,115],1,.rods)]
def VP (w:Txt):Option (Nat × Qcb):=(Jf.find? fun p=>p.1==w).map (·.2)
def nI (l:List Int) (i:Nat):Int:=l.getD i 0
def QC (h:Qp) (d:Qw):Qp:={ h with proof:={ h.proof with chain:={ h.proof.chain with deeds:=h.proof.chain.deeds++[d] } } }
def QhL (h:Qp) (v:Qcb) (l:List Int):Option Qp :=
 match v with
 | .weld=>some (QC h ⟨1,nI l 0,nI l 1,nI l 2,nI l 3⟩)
 | .cut=>some (QC h ⟨2,nI l 0,nI l 1,0,0⟩)
 | .turn=>some (QC h ⟨3,0,0,0,0⟩)
 | .prove=>some { h with proof:={ h.proof with chain:={ h.proof.chain with deeds:=h.proof.chain.deeds++[⟨4,0,0,0,0⟩] },trials:=h.proof.trials++[⟨nI l 0,nI l 1,nI l 2⟩] } }
 | .undo=>match h.proof.chain.deeds.getLast? with
   | none=>none
   | some d=>some { h with proof:={ h.proof with chain:={ h.proof.chain with deeds:=h.proof.chain.deeds.dropLast },trials:=if d.what=4 then h.proof.trials.dropLast else h.proof.trials } }
 | .see=>some { h with proof:={ h.proof with chain:={ h.proof.chain with sights:=h.proof.chain.sights++[⟨nI l 0,nI l 1,nI l 2,nI l 3,nI l 4⟩] } } }
 | .balance=>some { h with proof:={ h.proof with machine:={ h.proof.machine with bals:=h.proof.machine.bals++[⟨nI l 0,nI l 1,nI l 2,nI l 3⟩] } } }
 | .read=>some { h with pull:={ h.pull with reads:=h.pull.reads++[⟨nI l 0,nI l 1,nI l 2,nI l 3,nI l 4,nI l 5,nI l 6⟩] } }
 | _=>none
def Qaa:Qcb->Bool
 | .weld | .cut | .turn | .prove | .undo | .see | .balance | .read=>true
 | _=>false
def Qk (out:List Txt) (c:UInt8):List Txt:=if c=32 then out++[[]] else out.set (out.length-1) (out.getD (out.length-1) []++[c])
def spl (s:Txt):List Txt:=s.foldl Qk [[]]
@[simp] def strs (l:List Txt):IV:=.sl 1 (l.map fun s=>[.str s])
theorem Vg (x:List Txt) (l:Txt) (c:UInt8):Qk (x++[l]) c=x++Qk [l] c:=by
 unfold Qk
 grind
theorem Qct (s:Txt):∀ (x:List Txt) (l:Txt),s.foldl Qk (x++[l])=x++s.foldl Qk [l]:=by
 induction s with
 | nil=>intro x l;rfl
 | cons c s ih =>
   intro x l;simp only[QBu];rw[Vg];by_cases h:c=32
   ·have e:Qk [l] c=[l]++[[]]:=by simp[Qk,h]
    grind
   ·have e:Qk [l] c=[l++[c]]:=by simp[Qk,h]
    rw[e,ih]
theorem QaN (s:Txt):∀ l:Txt,s.foldl Qk [l]≠[]:=by
 induction s with
 | nil=>intro l;simp
 | cons c s ih =>
   intro l;simp only[QBu];by_cases h:c=32
   ·have e:Qk [l] c=[l]++[[]]:=by simp[Qk,h]
    rw[e,Qct];simp
   ·have e:Qk [l] c=[l++[c]]:=by simp[Qk,h]
    grind
theorem QaO (a b:Txt):spl (a++32::b)=spl a++spl b:=by
 unfold spl;rw[QCs];have h:=QaN a [];generalize a.foldl Qk [[]]=x at *;obtain ⟨y,l,rfl⟩:∃ y l,x=y++[l]:=⟨x.dropLast,x.getLast h,(QCk h).symm⟩
 simp only[QBu];have e:Qk (y++[l]) 32=(y++[l])++[[]]:=by simp[Qk]
 rw[e,Qct]
theorem ZO (s:Txt):spl (32::s)=[]::spl s:=by
 have:=QaO [] s;simpa[spl] using this
theorem QiE (s:Txt):∀ l:Txt,s.foldl Qk [l]=(l++(spl s).headD [])::(spl s).tail:=by
 induction s with
 | nil=>intro l;simp[spl]
 | cons c s ih =>
   intro l;by_cases h:c=32
   ·subst h
    rw[ZO,QBu];have e:Qk [l] 32=[l]++[[]]:=by simp[Qk]
    rw[e,Qct];simp[spl]
   ·have e:∀ l,Qk [l] c=[l++[c]]:=fun l=>by simp[Qk,h]
    rw[QBu,e,ih]
    have:spl (c::s)=([c]++(spl s).headD [])::(spl s).tail:=by
     unfold spl
     grind
    grind
theorem YT (c:UInt8) (s:Txt) (h:c≠32):spl (c::s)=(c::(spl s).headD [])::(spl s).tail:=by
 have e:Qk [[]] c=[[c]]:=by simp[Qk,h]
 unfold spl;rw[QBu,e,QiE];rfl
theorem splitK_spl:∀ s:Txt,Lib.splitK [32] 0 (Lib.count s [32]) s=spl s
 | []=>by
   rw[Lib.count_miss (by simp[Lib.index])]
   rfl
 | c::s=>by
   have ih:=splitK_spl s;by_cases h:c=32
   ·subst h
    have hix:Lib.index ((32:UInt8)::s) [32]=0:=by rw[Lib.index];grind
    rw[Lib.count_cons_eq,Nat.add_comm,Lib.splitK,hix,ZO,<- ih];simp
   ·rw[Lib.count_cons_ne c 32 s h,YT c s h,<- ih]
    have hp:([32]:List UInt8).isPrefixOf (c::s)=false:=by grind
    have hix:Lib.index (c::s) [32]=if Lib.index s [32] == -1 then -1 else Lib.index s [32]+1:=by rw[Lib.index,hp];simp
    cases hk:Lib.count s [32] with
    | zero=>simp[Lib.splitK]
    | succ k =>
      have hm:¬ Lib.index s [32] = -1:=fun e=>by rw[Lib.count_miss e] at hk;cases hk
      have hge:=Lib.index_ge s [32];obtain ⟨j,hj⟩:∃ j:Nat,Lib.index s [32]=j:=⟨(Lib.index s [32]).toNat,by omega⟩
      have h1:¬ ((j:Int) == -1)=true:=by simp
      have h2:¬ ((j:Int)+1 == -1)=true:=by simp;omega
      have h3:((j:Int)+1).toNat=j+1:=by omega
      simp only[Lib.splitK,hix,hj,if_neg h1,if_neg h2,h3,QBW];simp
theorem spl_len:∀ s:Txt,(spl s).length<=s.length+1
 | []=>by simp[spl]
 | c::s=>by
   have ih:=spl_len s;by_cases h:c=32
   ·subst h;rw[ZO];simp;exact ih
   ·rw[YT c s h];simp;omega
theorem QaM (s:Txt):∀ x∈spl s,x.length<=s.length:=by
 induction s with
 | nil=>intro x hx;simp[spl] at hx;subst hx;simp
 | cons c s ih =>
   intro x hx;by_cases h:c=32
   ·subst h
    rw[ZO] at hx
    grind
   ·rw[YT c s h] at hx
    rcases QBh.1 hx with rfl | hx
    ·cases hs:spl s with
     | _=>grind
    ·have:=ih x (List.mem_of_mem_tail hx);simp;omega
end Go.Pf
namespace Go.Ev
open Go Go.RowKit
section
variable {P:Program} {K:World->Prop}
end
section
variable {P:Program} {K:World->Prop}
theorem UH {ok w' fr o1 L'} (h:QfG fr ok w' (Qc o1) L') (hlt:∀ b,fr b->b<w'.heap.size) :
  Rel ok ⟨0,[]⟩ ⟨w',fr,hlt,fun _=>undef⟩ (look []) (Qc o1) { tmps:=#[],defers:=[] } w' L' :=
 ⟨QL.refl _ _,⟨[],rfl,List.nodup_nil,by simp⟩,rfl,fun t=>.iv _ _ (.any _),h.objs,h.apart,fun t ht=>by simp at ht⟩
theorem Qae (hK:∀ w w',K w->Below w.heap.size w w'->K w') {f xs y o1 r} (h:Zn P K f (xs.map .iv) [] [] y o1) (hi:imm (Qc o1) 40 y=some r):Good P K f xs r:=by
 intro w ok vs hk hnew hl hvs;have hn:∀ b,¬ Ua (Qc []) (fun _=>.one 0) b:=fun b ⟨id,ob,h1,_⟩=>by simp[Qc] at h1
 have hFr:∀ b,b<w.heap.size->FrO w (Qc []) (fun _=>.one 0) b:=fun b hb=>⟨hb,hn b⟩
 refine (h w ok (fun _=>.one 0) vs (fun w' hkeep=>hK w w' hk (hkeep.mono hFr).below) hnew (fun b hb=>absurd hb (hn b)) ⟨by simp[Qc],by simp[Qc]⟩ (by simpa using hl) (fun k x u hx hu=>?_)).mono
  fun e w' ⟨v,L',he,hlaid,hrep,hkeep,_⟩=>⟨v,he,?_,(hkeep.mono hFr).below⟩
 ·rw[QA9,QA4] at hx
  obtain ⟨z,hz,rfl⟩:=hx;exact .iv _ _ ((hvs k z u hz hu).mono fun b hb _=>⟨⟨hb,by simp[Qc]⟩,rfl⟩)
 ·have hlt:∀ b,FrO w (Qc []) (fun _=>.one 0) b->b<w'.heap.size:=fun b hb=>QBp hb.1 hkeep.size
  refine (XR (UH hlaid hlt) (ok1:=ok) (fun b hb=>hb.1) (lo':=Qc o1) (fun _ _ h=>h) (fun id ob b hob hb=>?_) 40).1 y v r hrep hi
  by_cases hbl:b<w.heap.size
  ·exact absurd (hFr b hbl) ((hlaid.objs id ob hob).lt hb).1
  ·exact hnew b (QCd.1 hbl)
theorem Zn.give {f args o rows st r cs xs} (h:Zn P K f args o st (.iv r) ((0,.box cs)::rows)) (hst0:∀ i∈st,i=0)
  (hx:imms (fun i=>if i=0 then Option.none else Qc ((0,.box cs)::rows) i) 40 cs=some xs):Zn P K f args o st (.iv r) [(0,.box (xs.map .iv))]:=by
 intro w ok L vs hK hnew hown hlaid hvl hvs;refine (h w ok L vs hK hnew hown hlaid hvl hvs).mono fun e w' ⟨v,L',he,hl',hrep,hkeep,hst⟩=>⟨v,L',he,?_,?_,hkeep,?_⟩
 ·have h0:Qc ((0,AO.box cs)::rows) 0=some (.box cs):=rfl
  have hlt:∀ b,FrO w (Qc o) L b->b<w'.heap.size:=fun b hb=>QBp hb.1 hkeep.size
  have one0:∀ i ob,Qc [(0,AO.box (xs.map AV.iv))] i=some ob->i=0/\ob=.box (xs.map .iv):=fun i ob hob=>by
   simp only[Qc] at hob
   grind
  have hsub:∀ b,okL ok (Qc ((0,AO.box cs)::rows)) L' b->okL ok (Qc [(0,AO.box (xs.map AV.iv))]) L' b:=fun b hb=>⟨hb.1,fun i ob hob=>by
   obtain ⟨rfl,rfl⟩:=one0 i ob hob;exact hb.2 0 _ h0⟩
  have hs:=(XR (UH hl' hlt) (ok1:=okL ok (Qc [(0,AO.box (xs.map AV.iv))]) L') hsub (lo':=fun i=>if i=0 then Option.none else Qc ((0,.box cs)::rows) i)
   (fun id ob hob=>by
     split at hob
     ·cases hob
     ·exact hob)
   (fun id ob b hob hb=>by
     split at hob
     ·cases hob
     ·rename_i hid
      refine ⟨?_,fun i oi hi=>?_⟩
      ·have hnf:=((hl'.objs id ob hob).lt hb).1
       by_cases hbl:b<w.heap.size
       ·exact hown b (Classical.byContradiction fun hno=>hnf ⟨hbl,hno⟩)
       ·exact hnew b (QCd.1 hbl)
      ·obtain ⟨rfl,rfl⟩:=one0 i oi hi
       exact fun hb0=>hl'.apart 0 id _ ob b (fun e=>hid e.symm) h0 hob hb0 hb) 40).2 cs xs hx
  refine ⟨fun i ob hob=>?_,fun i j oi oj b hij hi hj=>?_⟩
  ·obtain ⟨rfl,rfl⟩:=one0 i ob hob
   have hob0:=hl'.objs 0 _ h0;generalize L' 0=l0 at hob0;cases l0 with
   | box b =>
     obtain ⟨hB,t,us,hb,hul,h1,hcx⟩:=hob0;refine ⟨hB,t,us,hb,by rw[QBb,hs.1];exact hul,h1,fun k x u hk hu=>?_⟩
     grind
   | _=>exact hob0.elim
  grind
 ·cases hrep with
  | iv _ _ hr=>exact .iv _ _ (hr.mono fun b hb _=>⟨⟨hb.1,fun i ob hob=>by
    simp only[Qc] at hob;split at hob
    ·rename_i hi
     subst hi;exact hb.2 0 _ (show Qc ((0,AO.box cs)::rows) 0=some (.box cs) from rfl)
    ·cases hob⟩,rfl⟩)
 ·intro i hi ob hob
  have hi0:=hst0 i hi;subst hi0;obtain ⟨ob',h1,h2⟩:=hst 0 hi ob hob
  have:ob'=.box cs:=by
   have h0:Qc ((0,AO.box cs)::rows) 0=some (.box cs):=rfl;rw[h0] at h1;injection h1 with h1
   exact h1.symm
  subst this;refine ⟨_,rfl,?_⟩;cases ob<;>simp only[Yi] at h2 |-
  grind
end
end Go.Ev
namespace Go.Pf
open Go Go.Ev Go.Proofs Go.RowKit
set_option maxRecDepth 8000
structure KW (w:World):Prop where
 shaped:w.ShapedOpen Tryz.prog
 tab : Lib.TabIs Tryz.prog w "internal/strconv.uint64pow10" .u64 Lib.pow10Tab
 syn : ∃ tp p, w.var? Tryz.prog "strconv.ErrSyntax" = some #[.iface tp p]
 rng : ∃ tp p, w.var? Tryz.prog "strconv.ErrRange" = some #[.iface tp p]
theorem Qnu {n:String} {cs:Array Value} {w:World} (h:w.var? Tryz.prog n=some cs):∃ g,Tryz.prog.globalNamed n=some g/\g<w.heap.size:=by
 unfold World.var? at h;cases hg:Tryz.prog.globalNamed n with
 | _=>grind
theorem qB {n:String} {cs:Array Value} {w w':World} (h:w.var? Tryz.prog n=some cs) (hb:Below w.heap.size w w'):w'.var? Tryz.prog n=some cs:=by
 obtain ⟨g,hg,hlt⟩:=Qnu h;exact var?_below hb hg hlt h
theorem hKW:∀ w w',KW w->Below w.heap.size w w'->KW w':=fun w w' ⟨h1,h2,⟨t1,p1,h3⟩,t2,p2,h4⟩ hb =>
 ⟨World.ShapedOpen.keptBut h1 (hb.frame (fun _=>False)) (fun _ c=>c.elim),qB h2 hb,⟨t1,p1,qB h3 hb⟩,t2,p2,qB h4 hb⟩
theorem Qlt (s:Txt) (hs:s.length<=1000):Ev.Good Tryz.prog KW 49 [.str s,.str [32]] (strs (spl s)):=by
 intro w ok vs hk hok hl hx
 obtain ⟨v0,v1,rfl⟩:∃ v0 v1,vs=[v0,v1]:=by
  match vs,hl with
  | [a,b],_=>grind
 have r0:=hx 0 _ v0 rfl rfl;have r1:=hx 1 _ v1 rfl rfl;cases r0;cases r1;have:=Any.strings_Split_shaped Tryz.laysM146 ⟨s.toArray⟩ ⟨[32].toArray⟩ w hk.shaped (by simp[ByteArray.size];omega) (by simp[ByteArray.size])
 refine this.mono fun e w' ⟨he,hw⟩=>?_
 subst he hw;have hb:=Qm w (.cells ((Lib.splitB ⟨[32].toArray⟩ 0 (Lib.countB ⟨s.toArray⟩ ⟨[32].toArray⟩) ⟨s.toArray⟩).map Value.string).toArray (Tryz.laysM146_ren.t 9))
 have hd:(Lib.splitB ⟨[32].toArray⟩ 0 (Lib.countB ⟨s.toArray⟩ ⟨[32].toArray⟩) ⟨s.toArray⟩).map (·.data.toList)=spl s:=by
  rw[Lib.splitB_data];exact splitK_spl s
 have hlen:=Lib.splitB_all ⟨[32].toArray⟩ (by simp[ByteArray.size]) 0 _ ⟨s.toArray⟩ rfl
 generalize Lib.countB ⟨s.toArray⟩ ⟨[32].toArray⟩=n at *;generalize Lib.splitB ⟨[32].toArray⟩ 0 n ⟨s.toArray⟩=L at *;refine ⟨_,rfl,?_,hb⟩;have hl2:(spl s).length=n+1:=by grind
 have hnl:n+1<=maxLen:=by
  have:=spl_len s;simp only[maxLen];omega
 have rep:=Qv.sl (ok:=ok) (w:=w.alloc (.cells (L.map Value.string).toArray (Tryz.laysM146_ren.t 9))) 1 ((spl s).map fun s=>[IV.str s]) w.heap.size 0 (n+1) (fun k=>.string (L.getD k default)) (by simp[hl2]) hnl (by simp) (fun k hk=>?_) (fun i j c x hi hj=>?_)
 ·simpa[hl2] using rep
 ·simp[hl2] at hk
  have hkl:k<L.length:=by omega
  refine ⟨hok _ (QA8 _),?_,rfl⟩;rw[QBm];exact ZP w _ _ k _ (by simp[hkl])
 ·simp only[QA9,QA4] at hi
  obtain ⟨t,ht,rfl⟩:=hi
  have hj0:j=0:=by
   grind
  subst hj0;simp at hj;subst hj;rw[<- hd,QA9,QA4] at ht;obtain ⟨z,hz,rfl⟩:=ht;have e:L.getD (i*1+0) default=z:=by simp[hz]
  rw[e];have:=Qv.str (ok:=ok) (w:=w.alloc (.cells (L.map Value.string).toArray (Tryz.laysM146_ren.t 9))) z.data.toList;simpa using this
theorem Qc7 (n:Int) (h : -9223372036854775808<=n/\n<=9223372036854775807):Ev.Good Tryz.prog KW 179 [.int .i64 n] (.str (Lib.itoa n)):=by
 intro w ok vs hk hok hl hx
 obtain ⟨v0,rfl⟩:∃ v0,vs=[v0]:=by
  match vs,hl with
  | [a],_=>exact ⟨a,rfl⟩
 have r0:=hx 0 _ v0 rfl rfl;cases r0;refine (Any.strconv_Itoa Tryz.laysM171 n h.1 h.2 w hk.tab).mono fun e w' ⟨he,k,os,hw⟩=>?_
 subst he hw;exact ⟨_,rfl,.str _,⟨rfl,rfl,rfl,by simp[Go.Sort.grow],fun b hb=>Array.getElem?_append_left hb⟩⟩
theorem Qm8 (s p:Txt):Ev.Good Tryz.prog KW 180 [.str s,.str p] (.str (Lib.trimPrefix s p)):=by
 intro w ok vs hk hok hl hx
 obtain ⟨v0,v1,rfl⟩:∃ v0 v1,vs=[v0,v1]:=by
  match vs,hl with
  | [a,b],_=>grind
 have r0:=hx 0 _ v0 rfl rfl;have r1:=hx 1 _ v1 rfl rfl;cases r0;cases r1;refine (Any.strings_TrimPrefix Tryz.lays101 ⟨s.toArray⟩ ⟨p.toArray⟩ w).mono fun e w' ⟨he,hw⟩=>?_
 subst he hw;exact ⟨_,rfl,.str _,Below.refl _ _⟩
theorem Qm9 (s:Txt) (hs:s.length<=1000):Ev.Good Tryz.prog KW 178 [.str s] (.tup (match Lib.atoiAll s with | .ok v=>[.int .i64 v,.lit .nilIface] | .range=>[.int .i64 (Lib.atoiSat s),.ifn] | _=>[.int .i64 0,.ifn])):=by
 intro w ok vs hk hok hl hx
 obtain ⟨v0,rfl⟩:∃ v0,vs=[v0]:=by
  match vs,hl with
  | [a],_=>exact ⟨a,rfl⟩
 have r0:=hx 0 _ v0 rfl rfl;cases r0
 have two:∀ (w':World) (n:Int) (z:IV) (u:Value),Qv ok w' z u->Qv ok w' (.tup [.int .i64 n,z]) (.tuple #[.int .i64 n,u]):=fun w' n z u hz=>by
  refine .tup [.int .i64 n,z] [.int .i64 n,u] rfl fun k x v hk hv=>?_
  match k,hk,hv with
  | 0,hk,hv=>injection hk with hk;injection hv with hv;subst hk hv;exact .int _ _
  | 1,hk,hv=>grind
  | k+2,hk,hv=>simp at hk
 cases h:Lib.atoiAll s with
 | ok v =>
   refine (Any.strconv_Atoi_ok Tryz.laysC172 ⟨s.toArray⟩ (by simp[ByteArray.size];omega) v (by simpa using h) w).mono fun e w' ⟨he,hw⟩=>?_
   subst he;refine ⟨_,rfl,two _ _ _ _ (.lit _),?_⟩;rcases hw with rfl | ⟨t,rfl⟩
   ·exact Below.refl _ _
   ·exact ⟨rfl,rfl,rfl,by rw[Lib.bytesWorld_size];omega,fun j hj=>Lib.bytesWorld_at_old _ _ _ j hj⟩
 | range =>
   obtain ⟨tp,p,hv⟩:=hk.rng;refine (Any.strconv_Atoi_range_var Tryz.laysC172 ⟨s.toArray⟩ (by simp[ByteArray.size];omega) (by simpa using h) tp p w hv).mono fun e w' ⟨N,he,_,_,hb⟩=>?_
   subst he;exact ⟨_,rfl,two _ _ _ _ (.ifn _ rfl),hb⟩
 | _ =>
   obtain ⟨tp,p,hv⟩:=hk.syn;refine (Any.strconv_Atoi_syntax_var Tryz.laysC172 ⟨s.toArray⟩ (by simp[ByteArray.size];omega) (by simpa using h) tp p w hv).mono fun e w' ⟨N,he,_,_,hb⟩=>?_
   subst he;exact ⟨_,rfl,two _ _ _ _ (.ifn _ rfl),hb⟩
theorem QmU (l:List Txt) (hl0:l.length<=1000000) (hj:(Lib.join l [32]).length<=140737488355328):Ev.Good Tryz.prog KW 203 [strs l,.str [32]] (.str (Lib.join l [32])):=by
 intro w ok vs hk hok hl hx
 obtain ⟨v0,v1,rfl⟩:∃ v0 v1,vs=[v0,v1]:=by
  match vs,hl with
  | [a,b],_=>grind
 have r0:=hx 0 _ v0 rfl rfl;have r1:=hx 1 _ v1 rfl rfl;cases r1
 have none_:∀ (a:Option Addr) (c:Nat),l=[]->Calls Tryz.prog 203 [Value.slice a 0 c,.string ⟨[32].toArray⟩].toArray w (fun e w'=>∃ v,e=.returned v/\Qv ok w' (.str (Lib.join l [32])) v/\Below w.heap.size w w'):=fun a c h0=>by
  subst h0;refine (Any.strings_Join_none Tryz.lays156 Tryz.Builder_Extra_156 a c ⟨[32].toArray⟩ w).mono fun e w' ⟨he,hw⟩=>?_
  subst he hw;exact ⟨_,rfl,.str [],Below.refl _ _⟩
 simp only[strs] at r0;generalize hrows:(l.map fun s=>[IV.str s])=rows at r0
 have hrl:rows.length=l.length:=by grind
 cases r0 with
 | sl _ _ b off cap u hlc hc hsz hu hxx =>
   have hcell:∀ (j:Nat) (x:ByteArray),(l.map fun s=>(⟨s.toArray⟩:ByteArray))[j]?=some x->w.cell? ⟨b,off+j,none⟩=some (.string x):=fun j x hj=>by
    rw[QA9,QA4] at hj;obtain ⟨s,hs,rfl⟩:=hj;have hjl:=(QA2.1 hs).1;have h1:=(hu j (by rw[hrl];omega)).2.1
    have h2:=hxx j 0 [.str s] (.str s) (by grind) rfl
    simp only[QCg,QBS] at h2;cases h2':u j with
    | _=>rw[h2'] at h2;first | (cases h2;rw[h1,h2']) | cases h2
   by_cases h0:l=[]
   ·grind
   ·have hbk:b<w.heap.size:=QBK w ⟨b,off+0,none⟩ (hu 0 (by grind)).2.1
    have hd:(l.map fun s=>(⟨s.toArray⟩:ByteArray)).map (·.data.toList)=l:=by simp[List.map_map,Function.comp_def]
    have:=Any.strings_Join Tryz.lays156 Tryz.Builder_Extra_156 b off cap (l.map fun s=>(⟨s.toArray⟩:ByteArray)) ⟨[32].toArray⟩ w hcell hbk (by simp;omega) (by simp;omega) (by rw[hd];exact hj)
    rw[hd,QBb,<- hrl] at this;refine this.mono fun e w' ⟨he,hb⟩=>?_
    subst he;exact ⟨_,rfl,.str _,hb⟩
 | _=>grind
end Go.Pf
namespace Go.Pf
open Go Go.Ev Go.Proofs Go.RowKit Go.ChangeShapes Go.WideShapes Go.Proofs.YtobhncljgnlaiaaGreatDoor
theorem own:ownKnob Tryz.prog.godebug=none:=by kernel_rfl
theorem Qgy:laidOutB Tryz.prog=true:=by kernel_rfl
noncomputable def U2 (os:Os):World:=World.laidAll Tryz.prog os Rows.topCertificateRow.laid
theorem Qi4 (os:Os) (args:Array Value):laidMet Tryz.prog Rows.topCertificateRow.laid ((U2 os).forCall (fun _ _=>0) ⟨#[],args,[]⟩).memory :=
 laidMet_laidAll args (by kernel_rfl) (by kernel_rfl)
theorem Qwx : "*" ++ "errors.errorString" = "*errors.errorString" := by decide
set_option maxRecDepth 100000 in
theorem QlF (u : TypeId) (h : Tryz.prog.typeName? 3 u = some "*errors.errorString") : u = 395 :=
 typeName_ptr_named (nm := "errors.errorString") (by rw [Qwx]; kernel_rfl) (by kernel_rfl) (by decide) u (by rw [Qwx]; exact h)
def QsJ (es:List Sh) (row:List IV):Prop:=∀ (j:Nat) (s:Sh) (x:IV),es[j]?=some s->row[j]?=some x->Wx s x
abbrev shI:Sh:=Sh.int IntKind.i64
theorem QzQ:shp Tryz.prog 7 3=some [shI]:=by kernel_rfl
theorem QtD:shp Tryz.prog 7 22=some [.sl 8 [shI]]:=by kernel_rfl
set_option maxRecDepth 100000 in
theorem QpB {x:IV} (h:Qb7 Tryz.prog 3 x):∃ n,x=.int .i64 n:=by
 obtain ⟨ss,h1,h2⟩:=h;rw[QzQ] at h1;injection h1 with h1
 subst h1;rw[Tryz.underlying3] at h2;obtain ⟨s,hs,hf⟩:=h2;injection hs with hs _
 subst hs;cases hf with
 | int _ n h1 h2=>exact ⟨n,rfl⟩
theorem Uy:∀ rows:List (List IV),(∀ row∈rows,row.length=1)->(∀ row∈rows,QsJ [shI] row)->∃ fs:List Int,rows=fs.map fun n=>[IV.int .i64 n]
 | [],_,_=>⟨[],rfl⟩
 | row::rows,hrl,hr=>by
   obtain ⟨fs,hfs⟩:=Uy rows (fun r hr'=>hrl r (by simp[hr'])) (fun r hr'=>hr r (by simp[hr']))
   have h1:=hrl row (by simp)
   match row,h1 with
   | [c],_ =>
     have hc:=hr [c] (by simp) 0 _ c rfl rfl
     cases hc with
     | int _ n _ _=>exact ⟨n::fs,by simp[hfs]⟩
set_option maxRecDepth 100000 in
theorem QkG {x:IV} (h:Qb7 Tryz.prog 22 x):∃ v,x=ZF v:=by
 obtain ⟨ss,h1,h2⟩:=h;rw[QtD] at h1;injection h1 with h1
 subst h1;rw[Tryz.underlying22] at h2;obtain ⟨s,hs,hf⟩:=h2;injection hs with hs _
 subst hs;cases hf with
 | sl _ _ rows hw hm hrl hr =>
   obtain ⟨fs,rfl⟩:=Uy rows hrl hr;exact ⟨fs,rfl⟩
theorem Qt6 {W:World} (hL:laidMetH Tryz.prog Rows.topCertificateRow.laid W) (hsh:W.ShapedOpen Tryz.prog):KW W:=by
 have hl:laidMet Tryz.prog Rows.topCertificateRow.laid W:=by
  rw[MakeChecks.laidMetH_plain _ _ _ (by kernel_rfl)] at hL
  exact hL
 have h2:=hl.tail.tail;have h4:=h2.tail.tail;have h5:=h4.tail;refine ⟨hsh,?_,?_,?_⟩
 ·exact Lib.tabIs_of_head (n:=20) (rest:=Rows.topCertificateRow.laid.drop 3) (g:=5) (t:=399) (e:=125) (by kernel_rfl) (by kernel_rfl) Tryz.underlying399 Tryz.underlying125 (by kernel_rfl) (by kernel_rfl) h2
 ·obtain ⟨a0, s0, hv0, _⟩ := laid_sentinel h5 (show Tryz.prog.globalNamed "strconv.ErrSyntax" = some 1 by kernel_rfl) (show (Tryz.prog.globals[1]?).map (·.type) = some 268 by kernel_rfl) Tryz.underlying268 QlF Tryz.underlying395 Tryz.underlying397 rfl rfl Tryz.underlying9 (by kernel_rfl) (by kernel_rfl)
  exact ⟨_,_,hv0⟩
 ·obtain ⟨a0, s0, hv0, _⟩ := laid_sentinel h4 (show Tryz.prog.globalNamed "strconv.ErrRange" = some 2 by kernel_rfl) (show (Tryz.prog.globals[2]?).map (·.type) = some 268 by kernel_rfl) Tryz.underlying268 QlF Tryz.underlying395 Tryz.underlying397 rfl rfl Tryz.underlying9 (by kernel_rfl) (by kernel_rfl)
  exact ⟨_,_,hv0⟩
set_option maxRecDepth 100000
theorem Qgz {P:Program} {f:FuncId} {fn:Func} {s:ChangeSpec} {c:OpenClaim}
  (k1:c.wf (OpenSpec.ofChange s)=true) (k2:laidOutB P=true) (k3:mapsRowed P=true) (k4:fn.params.all (P.readableRec ·)=true) (k5:namedTie P c.named s.vars=true)
  (k6:(c.stops==[])=true) (k7:(P.stops==[])=true) (k8:(c.knobs==[])=true) (k9:(P.stopKnobs==[])=true)
  (k10:(c.inPlace==P.inPlace f)=true) (k11:(c.unfollowed==P.unfollowed f)=true) (k12:(c.recurses==P.recurses f)=true) (k13:(c.named==P.varsNamed f)=true)
  (k14:(c.maps==(fn.params.toList++s.plain.varTypes P).any (P.mapsRec ·))=true) (k15:(c.ifaces==(fn.params.toList++s.plain.varTypes P).any (P.ifacesRec ·))=true) (k16:(c.mapsOut==P.mapsAmong fn.resultTypes.toList)=true)
  (k17:(c.loops==(fn.params.toList++s.plain.varTypes P).any (P.loopsFrom ·))=true) (k17b:(c.wideKeys==(fn.params.toList++s.plain.varTypes P++fn.resultTypes.toList).any (P.wideKeysFrom ·))=true)
  (k18:s.vars.all (P.varReadable ·)=true) (k19:fn.resultTypes.all (fun t=>P.readableRec t&&decide (t<P.types.size))=true) (k20:(c.ifacesOut==fn.resultTypes.toList.any (P.ifacesRec ·))=true) (k21:(c.loopsOut==fn.resultTypes.toList.any (P.loopsFrom ·))=true)
  (k22:(c.plainKeys==P.plainKeys)=true) (k23:c.shortTexts.isNone=true) (k23b:P.stopsHeard=true) (k24:P.mayEnter=true) (k24b:(c.lifted==P.liftsFinal)=true) (k24c:(P.make==some c.make)=true)
  (k25:(c.kinds==(if c.domain.isEmpty then [] else fn.params.toList.map fun t=>match P.underlying t with | some (.int k)=>some k | _=>none))=true) (k26:(c.pinned==c.pinnedBy)=true)
  (k27:(c.veiled==(fn.params.toList++s.plain.varTypes P++fn.resultTypes.toList).any (P.veiledRec ·))=true) (k28:c.veiledFits P fn.params.toList (fn.params.toList++s.plain.varTypes P++fn.resultTypes.toList)=true):joinedFacts P f fn s c=true:=by
 simp only[joinedFacts,QA1];exact ⟨⟨⟨⟨⟨⟨⟨⟨⟨⟨⟨⟨⟨⟨⟨⟨⟨⟨⟨⟨⟨⟨⟨⟨⟨⟨⟨⟨⟨⟨⟨k1,k2⟩,k3⟩,k4⟩,k5⟩,k6⟩,k7⟩,k8⟩,k9⟩,k10⟩,k11⟩,k12⟩,k13⟩,k14⟩,k15⟩,k16⟩,k17⟩,k17b⟩,k18⟩,k19⟩,k20⟩,k21⟩,k22⟩,k23⟩,k23b⟩,k24⟩,k24b⟩,k24c⟩,k25⟩,k26⟩,k27⟩,k28⟩
theorem Quv:mapsRowed Tryz.prog=true:=by kernel_rfl
theorem Quu:(Tryz.prog.stops==[])=true:=by kernel_rfl
theorem Qut:(Tryz.prog.stopKnobs==[])=true:=by kernel_rfl
theorem Qnz:Tryz.prog.stopsHeard=true:=by kernel_rfl
theorem QrT:Tryz.prog.mayEnter=true:=by kernel_rfl
theorem Qur:(Rows.topCertificateRow.plainKeys==Tryz.prog.plainKeys)=true:=by kernel_rfl
theorem Je:(Rows.topCertificateRow.lifted==Tryz.prog.liftsFinal)=true:=by kernel_rfl
theorem Quq:(Tryz.prog.make==some Rows.topCertificateRow.make)=true:=by kernel_rfl
theorem QrR:Tryz.pinned.checked.prog.looks []=true:=by kernel_rfl
end Go.Pf
namespace Go.Proofs
open Go.Shelf Go.RowKit Go.Lib
variable {P:Program} {ρ:Ren}
set_option maxHeartbeats 2000000 in
set_option maxRecDepth 100000 in
theorem QfB (L:SlLaysE0.n41 P ρ) (i0:TypeInfo) (z:Value) (size bytes:Nat) (hi:P.info? (ρ.t 23)=some i0) (hz0:i0.zero=some z) (hz1:i0.size=size) (hz2:i0.bytes=bytes) (hzs:z.cells.size=size) (hsz:0<size)
  (z23:∀ w,(Go.sizeOf (ρ.t 23)).run P w=.ok size w) (a:Addr) (c:Nat) (w:World) :
  Calls P (ρ.f 41) #[.slice (some a) 0 c] w fun e w'=>∃ v',e=.returned v'/\w'.ownsRow w.heap.size (ρ.t 23) size v' 0 []/\Below w.heap.size w w':=by
 have mixed:=L.mixed;have t4:=L.t4;have a4:=L.a4;have z4:=L.z4;have v4:=L.v4;have t22:=L.t22;have a22:=L.a22;have z22:=L.z22;have v22:=L.v22;have q22:∀ (w:World) (a:Option Addr) (n c n' c':Nat),(binOp .eql (ρ.t 22) (.slice a n c) (.slice none n' c')).run P w=.ok (.bool a.isNone) w:=fun w a n c n' c'=>Lib.run_eql_slice_nil w _ _ a n c n' c' L.t22
 have u22:∀ w,Sem.run P (underlying (ρ.t 22)) w=.ok (TypeDesc.slice (ρ.t 23)) w:=run_underlying t22
 obtain ⟨_,_,FG⟩:=L.f41
 go_enter FG,SlBodyN.n41_ntmps ρ
 go_wp2_with (at_builtin;refine wpList_append_own _ rfl _ _ (ρ.t 22) rfl w.heap.size (ρ.t 23) i0 z size bytes t22 hi hz0 hz1 hz2 hzs hsz _ _ _ rfl (World.ownsRow_made w #[] 0 (QA8 _) (QBU _) (by simp)) a 0 c [] rfl ?qc1 ?qc2 ?qc3 ?qc4 ?qc5 ?qc6 ?_)
 case qc1=>simp
 case qc2=>grind
 case qc3=>grind
 case qc4=>simp
 case qc5=>simp
 case qc6=>simp
 intro v' w1 hown hgrow hnil
 go_wp2
 go_ret
 refine ⟨v',rfl,by simpa using hown,?_⟩
 exact ((Below.refl _ w).alloc (QA8 _) _).grown hgrow (by simp) (by intro k hk;simp[Value.ownBlock] at hk;omega)
end Go.Proofs
namespace Go.Ev
open Go Go.RowKit
section
variable {P:Program} {K:World->Prop}
theorem QhH {f:FuncId} {e:TypeId} {sz bytes:Nat}
  (hcl:∀ (b off n c:Nat) (news:List Value) (w:World),news.length=n*sz->n<=maxLen->n*bytes<=140737488355328->(∀ (j:Nat) (u:Value),news[j]?=some u->w.cell? ⟨b,off+j,none⟩=some u)->(∀ u∈news,u.oneCell'=true) ->
    Calls P f #[.slice (some ⟨b,off,none⟩) n c] w fun x w'=>∃ v',x=.returned v'/\w'.ownsRow w.heap.size e sz v' n news/\v'≠.slice none 0 0/\Below w.heap.size w w')
  (hnil:∀ w:World,Calls P f #[.slice none 0 0] w fun x w'=>x=.returned (.slice none 0 0)/\w'=w)
  (hzero:∀ (a:Addr) (w:World),Calls P f #[.slice (some a) 0 0] w fun x w'=>∃ v',x=.returned v'/\w'.ownsRow w.heap.size e sz v' 0 []/\Below w.heap.size w w')
  (rows:List (List IV)) (hb:rows.length*bytes<=140737488355328) (hsz:∀ c∈rows,c.length=sz):YO P K f [.sl sz rows] (.aref 0 rows.length) e sz rows 0:=by
 by_cases hne:rows=[]
 ·subst hne
  intro w ok vs hk hnew hl hvs
  obtain ⟨v0,rfl⟩:∃ v0,vs=[v0]:=by
   match vs,hl with
   | [v],_=>exact ⟨v,rfl⟩
  have hrep:=hvs 0 _ v0 rfl rfl
  have fin:∀ (v':Value) (w':World),w'.ownsRow w.heap.size e sz v' 0 []->Below w.heap.size w w' ->
    ∃ v l,Ending.returned v'=.returned v/\Qo (fun b=>b<w.heap.size) (okL ok (one (Zu e sz [] 0)) (fun _=>l)) w' (one (Zu e sz [] 0)) (fun _=>l) (Zu e sz [] 0) l /\
     Qn (okL ok (one (Zu e sz [] 0)) (fun _=>l)) w' (one (Zu e sz [] 0)) (fun _=>l) (ren 0 (.aref 0 0)) v/\Below w.heap.size w w':=by
   intro v' w' hown hbel;have hsl:=ZS hown;have hge:∀ b,v'.ownBlock=some b->w.heap.size<=b:=fun b h=>(hown.lt b h).1
   have hown0:w'.ownsRow 0 e sz v' 0 []:=by
    obtain ⟨h1,h2⟩:=hown;refine ⟨h1,?_⟩
    grind
   refine ⟨v',.arr v' [],rfl,⟨⟨by simpa using hown0,fun b h1 h2=>by grind⟩,QBU _,by simp,by simp,by simp⟩,?_,hbel⟩
   exact Qn.aref (ok:=okL ok (one (Zu e sz [] 0)) (fun _=>.arr v' [])) (w:=w') (lo:=one (Zu e sz [] 0)) (L:=fun _=>.arr v' []) 0 e sz [] 0 v' [] (by simp[one,Zu]) rfl hsl
  cases hrep with
  | nils _=>exact (hnil w).mono fun x w' ⟨h1,h2⟩=>by subst h1 h2;exact fin _ _ ⟨by simp,.inl ⟨rfl,rfl⟩⟩ (Below.refl _ _)
  | nilz _ a=>exact (hzero a w).mono fun x w' ⟨v',h1,h2,h3⟩=>by grind
  | sl _ _ b off cap u hlc hc hs hu hx=>exact (hcl b off 0 cap [] w (by simp) (by simp) (by simp) (by simp) (by simp)).mono fun x w' ⟨v',h1,h2,_,h3⟩=>by grind
 ·exact JB hcl rows hb hsz hne
end
end Go.Ev
namespace Go.Pf
open Go Go.Ev Go.Proofs Go.RowKit Go.Shelf
set_option maxRecDepth 8000
noncomputable def Qc3 (t:TypeId) (h:(Tryz.prog.info? t).isSome=true):TypeInfo:=(Tryz.prog.info? t).get h
noncomputable def QlO (i:TypeInfo) (h:i.zero.isSome=true):Value:=i.zero.get h
section
variable {K:World->Prop}
theorem Wo {f:FuncId} {ρ:Ren} {e:TypeId} (sz bytes:Nat) (L:SlLaysE0.n41 Tryz.prog ρ) (hf:ρ.f 41=f) (he:ρ.t 23=e) (h1:(Tryz.prog.info? e).isSome=true) (h2:(Qc3 e h1).zero.isSome=true) (h3:(Qc3 e h1).size=sz) (h4:(Qc3 e h1).bytes=bytes) (h5:(QlO (Qc3 e h1) h2).cells.size=sz) (h0:0<sz)
  (hz:∀ w,(Go.sizeOf e).run Tryz.prog w=.ok sz w) (rows:List (List IV)) (hb:rows.length*bytes<=140737488355328) (hsz:∀ c∈rows,c.length=sz):YO Tryz.prog K f [.sl sz rows] (.aref 0 rows.length) e sz rows 0:=by
 subst hf he;have hi:Tryz.prog.info? (ρ.t 23)=some (Qc3 _ h1):=by simp[Qc3]
 have hz0:(Qc3 _ h1).zero=some (QlO _ h2):=by simp[QlO]
 exact QhH (fun b off n c news w g1 g2 g3 g4 g5=>AnyE.slices_Clone L _ _ sz bytes hi hz0 h3 h4 h5 h0 hz b off n c news w g1 g2 g3 g4 g5) (fun w=>AnyE.slices_Clone_nil L 0 0 w)
  (fun a w=>QfB L _ _ sz bytes hi hz0 h3 h4 h5 h0 hz a 0 w) rows hb hsz
theorem Qr6 (l:List Qw) (hl:l.length<=1000):YO Tryz.prog K 58 [Q0 l] (.aref 0 l.length) 137 5 (l.map dC) 0:=by
 have h:=Wo (K:=K) (f:=58) (e:=137) 5 40 Tryz.clone58 rfl rfl (by kernel_rfl) (by kernel_rfl) (by kernel_rfl) (by kernel_rfl) (by kernel_rfl) (by decide) Tryz.sizeOf137 (l.map dC) (by simp;omega) (by simp)
 simpa using h
theorem Qr5 (l:List XD) (hl:l.length<=1000):YO Tryz.prog K 59 [Q2 l] (.aref 0 l.length) 140 5 (l.map sC) 0:=by
 have h:=Wo (K:=K) (f:=59) (e:=140) 5 40 Tryz.clone59 rfl rfl (by kernel_rfl) (by kernel_rfl) (by kernel_rfl) (by kernel_rfl) (by kernel_rfl) (by decide) Tryz.sizeOf140 (l.map sC) (by simp;omega) (by simp)
 simpa using h
theorem Qr4 (l:List Z0) (hl:l.length<=1000):YO Tryz.prog K 60 [ZY l] (.aref 0 l.length) 143 3 (l.map leC) 0:=by
 have h:=Wo (K:=K) (f:=60) (e:=143) 3 24 Tryz.clone60 rfl rfl (by kernel_rfl) (by kernel_rfl) (by kernel_rfl) (by kernel_rfl) (by kernel_rfl) (by decide) Tryz.sizeOf143 (l.map leC) (by simp;omega) (by simp)
 simpa using h
theorem Qr3 (l:List Zi) (hl:l.length<=1000):YO Tryz.prog K 61 [WN l] (.aref 0 l.length) 146 4 (l.map baC) 0:=by
 have h:=Wo (K:=K) (f:=61) (e:=146) 4 32 Tryz.clone61 rfl rfl (by kernel_rfl) (by kernel_rfl) (by kernel_rfl) (by kernel_rfl) (by kernel_rfl) (by decide) Tryz.sizeOf146 (l.map baC) (by simp;omega) (by simp)
 simpa using h
theorem Qr2 (l:List Rod) (hl:l.length<=1000):YO Tryz.prog K 62 [QcD l] (.aref 0 l.length) 149 3 (l.map roC) 0:=by
 have h:=Wo (K:=K) (f:=62) (e:=149) 3 24 Tryz.clone62 rfl rfl (by kernel_rfl) (by kernel_rfl) (by kernel_rfl) (by kernel_rfl) (by kernel_rfl) (by decide) Tryz.sizeOf149 (l.map roC) (by simp;omega) (by simp)
 simpa using h
theorem Qr1 (l:List QN) (hl:l.length<=1000):YO Tryz.prog K 63 [UI l] (.aref 0 l.length) 106 7 (l.map reC) 0:=by
 have h:=Wo (K:=K) (f:=63) (e:=106) 7 56 Tryz.clone63 rfl rfl (by kernel_rfl) (by kernel_rfl) (by kernel_rfl) (by kernel_rfl) (by kernel_rfl) (by decide) Tryz.sizeOf106 (l.map reC) (by simp;omega) (by simp)
 simpa using h
theorem Qr0 (l:List VM) (hl:l.length<=1000):YO Tryz.prog K 64 [Us l] (.aref 0 l.length) 153 3 (l.map trC) 0:=by
 have h:=Wo (K:=K) (f:=64) (e:=153) 3 24 Tryz.clone64 rfl rfl (by kernel_rfl) (by kernel_rfl) (by kernel_rfl) (by kernel_rfl) (by kernel_rfl) (by decide) Tryz.sizeOf153 (l.map trC) (by simp;omega) (by simp)
 simpa using h
end
end Go.Pf
namespace Go.Proofs
open Go.Shelf
def Tryz.keys323_ren:Go.Shelf.Ren:=⟨fun | 10=>323 | n=>n,fun | 23=>210 | 26=>3 | 3=>22 | 28=>244 | 0=>0 | 27=>243 | 33=>196 | 4=>4 | n=>n,fun | n=>n⟩
end Go.Proofs
namespace Go.Pf
open Go Go.Ev Go.Proofs Go.RowKit Go.Shelf
set_option maxRecDepth 8000
section
variable {K:World->Prop}
end
end Go.Pf
namespace Go.Pf
open Go Go.Ev Go.Proofs Go.RowKit
variable {K:World->Prop} (hK:∀ w w',K w->Below w.heap.size w w'->K w')
set_option maxRecDepth 8000
include hK
theorem Xm (x a b:Int):Ev.Good Tryz.prog K 129 [.int .i64 x,.int .i64 a,.int .i64 b] (.bool (decide (inR x a b))):=by
 refine Qb hK Qpl (by simp) ?_
 by_cases h:a<=x<;>simp[inR,h]
theorem Qnl (n:Int):Ev.Good Tryz.prog K 131 [.int .i64 n] (.bool (decide (n=1\/n=2))):=by
 refine Qb hK Qpj (by simp) ?_
 by_cases h:n=1<;>simp[h]
theorem Qnn (r:Rod):Ev.Good Tryz.prog K 128 [.agg (roC r)] (.bool (decide (UO r))):=by
 refine Qb hK Qpm (by simp) ?_
 simp;refine cK (Xm hK _ _ _) ?_;by_cases h1:inR r.long 1 9999
 ·have h1':=h1
  simp only[inR] at h1';simp[h1,UO,Qq7];refine ⟨by omega,cK (Xm hK _ _ _) ?_⟩
  by_cases h2:inR r.wear 0 (min 9 (r.long-1))
  ·simp[h2]
   exact cK (Xm hK _ _ _) (by simp)
  ·simp[h2]
 ·simp[h1,UO]
theorem Qnm (p:ZD) (x:QN) (hl:p.rods.length<=1000):Ev.Good Tryz.prog K 130 [.agg (reC x),.ptr (puC p)] (.bool (decide (YD p.rods.length x))):=by
 refine Qb hK Qpk (by simp) ?_
 simp;refine cK (Qnl hK _) ?_;by_cases h1:x.whn=1\/x.whn=2
 ·simp[h1,YD]
  intro _;refine ⟨by omega,cK (Xm hK _ _ _) ?_⟩
  by_cases h2:inR x.rod 0 ((p.rods.length:Int)-1)
  ·simp[h2]
   refine cK (Xm hK _ _ _) ?_;by_cases h3:inR x.count 0 99
   ·simp[h3]
    refine cK (Xm hK _ _ _) ?_;by_cases h4:inR x.rest 0 9999
    ·simp[h4]
     refine cK (Xm hK _ _ _) ?_;by_cases h5:inR x.off 0 99
     ·simp[h5]
      refine cK (Xm hK _ _ _) ?_;by_cases h6:inR x.wlo (-50) x.whi
      ·simp[h6]
      ·simp[h6]
     ·simp[h5]
    ·simp[h4]
   ·simp[h3]
  ·simp[h2]
 ·simp[h1,YD]
theorem QmV (r:QN) (g:FuncId) (cs:List IV) (q:QN->Bool) (hg:Ev.Good Tryz.prog K g ([.agg (reC r)]++cs) (.bool (q r))) (hc:callee Tryz.prog g=true):Ev.Good Tryz.prog K 201 [.agg (reC r),.ptr [.clo g [] cs]] (.bool (!q r)):=by
 refine Qb hK QoG (by simp) ?_
 simp;exact ⟨hc,cK hg (by simp)⟩
theorem Qjj (r:Rod) (g:FuncId) (q:Rod->Bool) (hg:Ev.Good Tryz.prog K g [.agg (roC r)] (.bool (q r))) (hc:callee Tryz.prog g=true):Ev.Good Tryz.prog K 199 [.agg (roC r),.ptr [.fn g]] (.bool (!q r)):=by
 refine Qb hK QoI (by simp) ?_
 simp;exact ⟨hc,cK hg (by simp)⟩
theorem QmN (l:List Rod) (g:FuncId) (cs:List IV) (p:Rod->Bool) (hg:∀ x∈l,Ev.Good Tryz.prog K g ([.agg (roC x)]++cs) (.bool (p x))) (hc:callee Tryz.prog g=true) (hl:l.length<=1000):Ev.Good Tryz.prog K 238 [QcD l,.clo g [] cs] (.int .i64 (fi p l)):=by
 refine Qb hK Qop (by simp) ?_
 simp;intro _;refine QV (fun i=>[(0,AV.iv (QcD l)),(1,AV.iv (.clo g [] cs)),(7,AV.iv (.int .i64 l.length)),(8,AV.iv (IV.int IntKind.i64 (i:Nat)))]) (fun _=>[]) l.length (fun i=>∀ x∈l.take i,p x=false) (by simp) ?_ ?_
 ·intro h
  rw[Qa Qdo.eq_1];rw[QBo] at h;simp[Qak p l h]
 ·intro i hi h ih
  rw[Qa Qdo.eq_1];have hgi:=hg l[i] (QBc hi);simp[hi] at ih |-;refine ⟨hc,cK hgi ?_⟩;by_cases hp:p l[i]=true
  ·simp[hp,Qjn p l i hi hp h]
  ·have hp':p l[i]=false:=by simpa using hp
   simp[hp'];refine ⟨by omega,ih ?_⟩
   rw[QA3 hi]
   grind
theorem QmM (l:List QN) (g:FuncId) (cs:List IV) (p:QN->Bool) (hg:∀ x∈l,Ev.Good Tryz.prog K g ([.agg (reC x)]++cs) (.bool (p x))) (hc:callee Tryz.prog g=true) (hl:l.length<=1000):Ev.Good Tryz.prog K 239 [UI l,.clo g [] cs] (.int .i64 (fi p l)):=by
 refine Qb hK Qoo (by simp) ?_
 simp;intro _;refine QV (fun i=>[(0,AV.iv (UI l)),(1,AV.iv (.clo g [] cs)),(7,AV.iv (.int .i64 l.length)),(8,AV.iv (IV.int IntKind.i64 (i:Nat)))]) (fun _=>[]) l.length (fun i=>∀ x∈l.take i,p x=false) (by simp) ?_ ?_
 ·intro h
  rw[Qa Qdn.eq_1];rw[QBo] at h;simp[Qak p l h]
 ·intro i hi h ih
  rw[Qa Qdn.eq_1];have hgi:=hg l[i] (QBc hi);simp[hi] at ih |-;refine ⟨hc,cK hgi ?_⟩;by_cases hp:p l[i]=true
  ·simp[hp,Qjn p l i hi hp h]
  ·have hp':p l[i]=false:=by simpa using hp
   simp[hp'];refine ⟨by omega,ih ?_⟩
   rw[QA3 hi]
   grind
theorem QmZ (l:List Rod) (g:FuncId) (cs:List IV) (p:Rod->Bool) (hg:∀ x∈l,Ev.Good Tryz.prog K g ([.agg (roC x)]++cs) (.bool (p x))) (hc:callee Tryz.prog g=true) (hl:l.length<=1000):Ev.Good Tryz.prog K 198 [QcD l,.clo g [] cs] (.bool (l.any p)):=by
 refine Qb hK QoJ (by simp) ?_
 simp;refine cK (QmN hK l g cs p hg hc hl) ?_;simp[JV]
theorem QmW (l:List QN) (g:FuncId) (cs:List IV) (p:QN->Bool) (hg:∀ x∈l,Ev.Good Tryz.prog K g ([.agg (reC x)]++cs) (.bool (p x))) (hc:callee Tryz.prog g=true) (hl:l.length<=1000):Ev.Good Tryz.prog K 200 [UI l,.clo g [] cs] (.bool (l.any p)):=by
 refine Qb hK QoH (by simp) ?_
 simp;refine cK (QmM hK l g cs p hg hc hl) ?_;simp[JV]
theorem Qnk (l:List Rod) (g:FuncId) (q:Rod->Bool) (hg:∀ x,Ev.Good Tryz.prog K g [.agg (roC x)] (.bool (q x))) (hc:callee Tryz.prog g=true) (hl:l.length<=1000):Ev.Good Tryz.prog K 132 [QcD l,.fn g] (.bool (l.all q)):=by
 refine Qb hK Qpi (by simp) ?_
 simp;refine cK (QmZ hK l 199 [.ptr [.fn g]] (fun x=>!q x) (fun x _=>Qjj hK x g q (hg x) hc) (by kernel_rfl) hl) ?_
 simp[List.all_eq_not_any_not]
theorem Qnj (l:List QN) (g:FuncId) (cs:List IV) (q:QN->Bool) (hg:∀ x,Ev.Good Tryz.prog K g ([.agg (reC x)]++cs) (.bool (q x))) (hc:callee Tryz.prog g=true) (hl:l.length<=1000):Ev.Good Tryz.prog K 133 [UI l,.clo g [] cs] (.bool (l.all q)):=by
 refine Qb hK Qph (by simp) ?_
 simp;refine cK (QmW hK l 201 [.ptr [.clo g [] cs]] (fun x=>!q x) (fun x _=>QmV hK x g cs q (hg x) hc) (by kernel_rfl) hl) ?_
 simp[List.all_eq_not_any_not]
theorem Qro (p:ZD) (hl:p.rods.length<=1000) (hx:p.reads.length<=1000):Ev.Good Tryz.prog K 57 [puV p] (.int .i64 (if OkU p then 0 else 40)):=by
 refine Qb hK Qsl (by simp) ?_
 have no:∀ q:Prop,(OkU p->q)->¬ q->¬ OkU p:=fun q h1 h2 h=>h2 (h1 h)
 simp;refine cK (Xm hK _ _ _) ?_;by_cases h1:inR p.iron 0 50
 ·simp[h1]
  refine cK (Xm hK _ _ _) ?_;by_cases h2:inR p.glo 1 p.ghi
  ·simp[h2]
   by_cases h3:p.ghi<=99999
   ·have h3':¬ 99999<p.ghi:=by omega
    simp[h3'];intro _;refine cK (Xm hK _ _ _) ?_;by_cases h4:inR p.wrong 0 8
    ·simp[h4]
     intro _;by_cases h5:p.rods.length<=4
     ·have h5':¬ (4:Int)<p.rods.length:=by omega
      simp[h5'];intro _;by_cases h6:p.reads.length<=8
      ·have h6':¬ (8:Int)<p.reads.length:=by omega
       simp[h6'];intros;refine cK (Qnk hK p.rods 128 (fun r=>decide (UO r)) (Qnn hK) (by kernel_rfl) hl) ?_
       by_cases h7:∀ r∈p.rods,UO r
       ·have h7':p.rods.all (fun r=>decide (UO r))=true:=by simpa using h7
        simp only[h7'];simp;refine cK (Qnj hK p.reads 130 [.ptr (puC p)] (fun x=>decide (YD p.rods.length x)) (fun x=>Qnm hK p x hl) (by kernel_rfl) hx) ?_
        by_cases h8:∀ x∈p.reads,YD p.rods.length x
        ·have h8':p.reads.all (fun x=>decide (YD p.rods.length x))=true:=by simpa using h8
         have hok:OkU p:=⟨h1,h2,h3,h4,h5,h6,h7,h8⟩;simp only[h8'];simp[hok]
        ·have h8':p.reads.all (fun x=>decide (YD p.rods.length x))=false:=by simpa using h8
         have:=no _ (fun h=>h.reads) h8
         simp only[h8'];simp[this]
       ·have h7':p.rods.all (fun r=>decide (UO r))=false:=by simpa using h7
        have:=no _ (fun h=>h.rods) h7
        simp only[h7'];simp[this]
      ·have h6':(8:Int)<p.reads.length:=by omega
       have:=no _ (fun h=>h.xlen) h6
       grind
     ·have h5':(4:Int)<p.rods.length:=by omega
      have:=no _ (fun h=>h.rlen) h5
      grind
    ·have:=no _ (fun h=>h.wrong) h4
     simp[h4,this]
   ·have h3':99999<p.ghi:=by omega
    have:=no _ (fun h=>h.most) h3
    grind
  ·have:=no _ (fun h=>h.guess) h2
   simp[h2,this]
 ·have:=no _ (fun h=>h.iron) h1
  simp[h1,this]
@[simp] def tuV (t:TrU):List IV:=[.int .i64 t.bef,.int .i64 t.aft,ZF t.rods]
omit hK
def Qws (p:ZD) (t:TrU) (x:QN):Bool:=!Qla p x (if x.whn=2 then t.aft else t.bef) (t.rods.getD x.rod.toNat 0)
structure QAX (p:ZD) (t:TrU):Prop where
 bef:0<=t.bef/\t.bef<=99999
 aft:0<=t.aft/\t.aft<=99999
 len:t.rods.length=p.rods.length
 rods:∀ r∈t.rods,0<=r/\r<=9999
include hK
omit hK
def QwC (first:List Int) (lo:Int) (rs:List Rod) (i:Nat):List (List Int):=(WD rs).map fun w=>first++(lo+i)::w
include hK
omit hK
def Qrl (p:ZD):Nat:=(p.ghi-p.glo+1).toNat
def Qmh (p:ZD) (b:Int) (j:Nat):List TrU:=(WD p.rods).map fun w=>⟨b,p.glo+j,w⟩
def QtO (p:ZD) (i:Nat):List TrU:=acc (Qmh p (p.glo+i)) (Qrl p)
noncomputable def uE (p:ZD) (is:Bool):Int:=if OkU p then (if is=true then (if QdJ p=[] then 3 else 0) else 1) else 40
def uL (p:ZD) (is:Bool):List TrU:=if OkU p/\is=true then QdJ p else []
include hK
omit hK
def Qrk (part:Int) (t:TrU):Bool:=QmE t.bef t.aft part
def Qlq (T:List TrU) (part:Int):Int:=if T.all (Qrk part) then 1 else if T.any (Qrk part) then 3 else 2
def Qwj (T:List TrU):Option Nat:=(List.range 1001).find? fun i=>decide (Qlq T (i:Nat)=1)
def QtG (T:List TrU) (rod:Nat):List Int:=T.map fun t=>t.rods.getD rod 0
include hK
structure QzH (p:ZD):Prop where
 rods:p.rods.length<=1000
 reads:p.reads.length<=1000
 all:OkU p->(Qto p).length<=1000000
def Qq2 (n:Int):Bool:=decide (inR n 0 1000)
def Qwz (p:ZD) (n:Int):Bool:=decide (inR n 0 ((p.rods.length:Int)-1))
noncomputable def QqV (p:ZD) (part:Int):Int:=if uE p (Qq2 part)=0 then Qlq (QdJ p) part else 0
noncomputable def QqX (p:ZD):Int × Int:=if uE p true=0 then (match Qwj (QdJ p) with | some n=>((n:Int),0) | none=>(0,3)) else (0,uE p true)
noncomputable def QtK (p:ZD) (rod:Int):List Int:=if uE p (Qwz p rod)=0 then QfR (QtG (QdJ p) rod.toNat) ((p.rods.getD rod.toNat ⟨0,0,0⟩).long-(p.rods.getD rod.toNat ⟨0,0,0⟩).wear) (p.rods.getD rod.toNat ⟨0,0,0⟩).long else []
omit hK
@[simp] def QwH (w:List Int):List IV:=[.int .i64 (w.getD 0 0),.int .i64 (w.getD 1 0),.int .i64 (w.getD 2 0),.int .i64 (w.getD 3 0)]
def Qt8 (w:List Int):List IV:=[.agg (QwH w)]
def QzU {α:Type} (pc:Nat->List α) (i n:Nat):List α:=((List.range n).drop i).flatMap pc
def QzM (p:ZD) (first:List Int):List (List IV):=((WD (p.rods.drop first.length)).map (first++·)).map Qt8
include hK
omit hK
def QzR (p:ZD) (wh:Int) (w:List Int) (l:List Int):List Int:=l.flatMap fun len=>List.replicate (wrU p wh w len) len
def QAJ (p:ZD) (wh:Int) (w:List Int):List Int:=QzR p wh w (WH p)
def QzD (x:Bun):List IV:=QwH x.rods++[.int .i64 (x.bef.wrong:Nat),ZF x.bef.lens,.int .i64 (x.aft.wrong:Nat),ZF x.aft.lens]
def Qt9 (x:Bun):List IV:=[.agg (QzD x)]
include hK
omit hK
def QAg (f:Int->Nat) (kvs:List (MK × List (List IV))) (x:Int):List (MK × List (List IV)) :=
 mins (.int .i64 (f x:Nat)) (((Qh (.int .i64 (f x:Nat)) kvs).getD [])++[[.int .i64 x]]) kvs
def gby (f:Int->Nat) (l:List Int):List (MK × List (List IV)):=l.foldl (QAg f) []
def grC (g:Grp):List IV:=[.int .i64 (g.wrong:Nat),ZF g.lens]
def QAf (l:List Grp):IV:=.sl 2 (l.map grC)
include hK
omit hK
def QAT (p:ZD) (w:List Int):List (List IV):=(QbA p 1 w).flatMap fun g=>(QbA p 2 w).map fun h=>Qt9 ⟨w,g,h⟩
include hK
omit hK
def QAu (l:List Bun):IV:=.sl 8 (l.map QzD)
include hK
omit hK
def uT (p:ZD) (is:Bool):List Bun:=if OkU p/\is=true then Qcm p else []
structure QAY (x:Bun):Prop where
 bpos:0<x.bef.lens.length
 apos:0<x.aft.lens.length
 blen:x.bef.lens.length<=100000
 alen:x.aft.lens.length<=100000
 bh:0<=U9 x.bef.lens/\U9 x.bef.lens<=99999
 bl:0<=V5 x.bef.lens/\V5 x.bef.lens<=99999
 ah:0<=U9 x.aft.lens/\U9 x.aft.lens<=99999
 al:0<=V5 x.aft.lens/\V5 x.aft.lens<=99999
include hK
omit hK
def Quo (c:Qx) (ss:List XD) (i:Nat):Nat:=((List.range i).map fun n=>Q1 c.deeds ss (XC c.deeds n)).foldl min ss.length
def QAq (c:Qx) (ss:List XD):Nat:=Quo c ss (2 ^ Ud c.deeds)
def QrP (c:Qx):Option Nat:=(List.range c.sights.length).find? fun i=>decide (0<QAq c (c.sights.take (i+1)))
noncomputable def Qlg (c:Qx):Int × Int:=if OkC c then (match QrP c with | some n=>((n:Int),0) | none=>(0,3)) else (0,20)
include hK
omit hK
structure Uc (a p:Qj):Prop where
 sub:(Xj a).Sublist (Xj p)
 fail:∀ t,V8 a t=V8 p t
 proved:∀ l t,Jp a l t=Jp p l t
 good:∀ t,QgO a t=QgO p t
 rule:a.rule=p.rule
 link:∀ l,QcW a l=QcW p l
def QzY (p:Qj) (s:XD):Qj:=⟨⟨p.chain.deeds,p.chain.sights++[s],p.chain.wrong⟩,p.machine,p.trials,p.need,p.rule⟩
def QzZ (p:Qj) (b:Zi):Qj:=⟨p.chain,⟨p.machine.levers,p.machine.water,p.machine.llo,p.machine.lhi,p.machine.bals++[b],p.machine.wrong⟩,p.trials,p.need,p.rule⟩
theorem qE {α:Type} (f:α->Bool) {l l':List α} (h:∀ t∈l,t∈l') (hne:l≠[]) (h3:Vd (l'.countP f) l'.length≠3):Vd (l.countP f) l.length=Vd (l'.countP f) l'.length:=by
 have hl:l.length≠0:=fun e=>hne (QA5 e)
 obtain ⟨t,ht⟩:=QCb _ hne;have hl':l'.length≠0:=fun e=>by grind
 by_cases h1:Vd (l'.countP f) l'.length=1
 ·rw[h1,WU,List.countP_eq_length]
  rw[WU,List.countP_eq_length] at h1
  grind
 ·have h2:Vd (l'.countP f) l'.length=2:=by
   unfold Vd at *;omega
  rw[h2,Ut hl,List.countP_eq_zero];rw[Ut hl',List.countP_eq_zero] at h2
  grind
theorem Uc.kE {a p:Qj} (h:Uc a p) (hp:OkP p) (hk:kE a true=0):kE p true=0:=by
 have hne:=(q0 hk).2.2.2;obtain ⟨t,ht⟩:=QCb _ hne;exact Qt7 hp (h.sub.subset ht)
theorem Uc.len {a p:Qj} (h:Uc a p) (ha:OkP a) (hp:OkP p):(kL a true).length<=(kL p true).length:=by
 rw[Ji ha,Ji hp];exact h.sub.length_le
theorem Uc.rFail {a p:Qj} (h:Uc a p) (hp:OkP p) (hk:Go.Pf.kE a true=0):(rFail p).1<=(rFail a).1/\(rFail a).2<=(rFail p).2:=by
 have hne:=(q0 hk).2.2.2;unfold Go.Pf.rFail;rw[Ji (q0 hk).1,Ji hp];have e:(fun t=>(V8 a t:Int))=fun t=>(V8 p t:Int):=funext fun t=>by rw[h.fail t]
 rw[e];have h1:=Qcu ((Xj a).map fun t=>(V8 p t:Int)) (fun e=>hne (List.map_eq_nil_iff.1 e))
 obtain ⟨t1,ht1,e1⟩:=QBl.1 h1.1;obtain ⟨t2,ht2,e2⟩:=QBl.1 h1.2;rw[<- e1,<- e2];exact ⟨(YU (fun t=>(V8 p t:Int)) _ t1 (h.sub.subset ht1)).1,(YU (fun t=>(V8 p t:Int)) _ t2 (h.sub.subset ht2)).2⟩
theorem Uc.rCond {a p:Qj} (h:Uc a p) (hp:OkP p) (hk:Go.Pf.kE a true=0) (h3:rCond p≠3):rCond a=rCond p:=by
 have hkp:=h.kE hp hk;unfold Go.Pf.rCond at *;rw[if_pos hkp] at h3 |-;rw[if_pos hk,Ji (q0 hk).1];rw[Ji hp] at h3 |-;have e:(fun t=>decide (a.rule<=(V8 a t:Int)))=fun t=>decide (p.rule<=(V8 p t:Int)):=funext fun t=>by rw[h.fail t,h.rule]
 rw[e];exact qE _ (fun t ht=>h.sub.subset ht) (q0 hk).2.2.2 h3
theorem Uc.rGood {a p:Qj} (h:Uc a p) (hp:OkP p) (hk:Go.Pf.kE a true=0) (h3:rGood p≠3):rGood a=rGood p:=by
 have hkp:=h.kE hp hk;unfold Go.Pf.rGood at *;rw[if_pos hkp] at h3 |-;rw[if_pos hk,Ji (q0 hk).1];rw[Ji hp] at h3 |-;have e:QgO a=QgO p:=funext fun t=>h.good t
 rw[e];exact qE _ (fun t ht=>h.sub.subset ht) (q0 hk).2.2.2 h3
theorem Uc.rProved {a p:Qj} (h:Uc a p) (hp:OkP p) (hk:Go.Pf.kE a true=0) {link:Int} (hl:QcW p link=true) (h3:rProved p link≠3):rProved a link=rProved p link:=by
 have hkp:=h.kE hp hk;unfold Go.Pf.rProved at *;rw[h.link link];rw[hl] at h3 |-;rw[if_pos hkp] at h3 |-;rw[if_pos hk,Ji (q0 hk).1];rw[Ji hp] at h3 |-;have e:Jp a link=Jp p link:=funext fun t=>h.proved link t
 rw[e];exact qE _ (fun t ht=>h.sub.subset ht) (q0 hk).2.2.2 h3
include hK
omit hK
def QAr (D:List Qw) (n:Nat):List Int:=(List.range D.length).map (XC D n)
def Qlj (l:List Nat) (link:Int):Int:=fi (fun k:Nat=>decide ((k:Int)=link)) l
def Qqd (c:Qx) (link:Int) (n:Nat):Int:=Qlj (cab c.deeds (XC c.deeds n) c.deeds.length) link
def QgG (c:Qx) (link:Int):Bool:=decide (inR link 0 ((Qib c.deeds:Int)-1))
include hK
omit hK
def QAp (c:Qx) (ss:List XD) (i:Nat):Nat:=(((Zh c.deeds).take i).map fun e=>Q1 c.deeds ss (Wk e)).foldl min ss.length
def QAO (c:Qx) (ss:List XD):Nat:=((Zh c.deeds).map fun e=>Q1 c.deeds ss (Wk e)).foldl min ss.length
def plB (c:Qx) (n:Int):Bool:=decide (inR n 0 (Jd c.deeds-1))
noncomputable def Qiw (c:Qx) (n:Int):List Int:=if VK c (plB c n)=0 then Vh ((QM c).map (Qiv c n)) else []
noncomputable def Qtv (c:Qx) (n:Int):List Int:=if VK c (QgG c n)=0 then Vh ((QM c).map (Qqd c n)) else []
noncomputable def Qlf (p:Qj) (n:Int):Int × Int:=if kE p (QaI p n)=0 then Qmf p.machine (tr p n.toNat).weight (tr p n.toNat).mins else (0,0)
noncomputable def Qme (p:Qj) (n:Int):Int:=if kE p (QaI p n)=0 then tE p.machine (QlK (tr p n.toNat).weight (tr p n.toNat).mins 0) else kE p (QaI p n)
noncomputable def Qle (p:Qj):Int × Int:=if kE p true=0 then Qmd p.machine 0 p.need else (0,kE p true)
noncomputable def QlJ (h:Qp) (v:Qcb) (l:List Int):Txt :=
 match v with
 | .who=>Xb (Qiw h.proof.chain (nI l 0)) (VK h.proof.chain (plB h.proof.chain (nI l 0)))
 | .wher=>Xb (Qtv h.proof.chain (nI l 0)) (VK h.proof.chain (QgG h.proof.chain (nI l 0)))
 | .first=>Xb [(Qlg h.proof.chain).1] (Qlg h.proof.chain).2
 | .pulls=>Xb [(Qmf h.proof.machine (nI l 0) (nI l 1)).1,(Qmf h.proof.machine (nI l 0) (nI l 1)).2] (tE h.proof.machine (QlK (nI l 0) (nI l 1) 0))
 | .broke=>Xb (QqW h.proof (nI l 0)) (kE h.proof (QaI h.proof (nI l 0)))
 | .loads=>Xb [(Qlf h.proof (nI l 0)).1,(Qlf h.proof (nI l 0)).2] (Qme h.proof (nI l 0))
 | .failures=>Xb [(rFail h.proof).1,(rFail h.proof).2] (kE h.proof true)
 | .condemned=>Qbq (rCond h.proof) (kE h.proof true)
 | .proved=>Qbq (rProved h.proof (nI l 0)) (kE h.proof (QcW h.proof (nI l 0)))
 | .opn=>Xb (QtL h.proof) (kE h.proof true)
 | .good=>Qbq (rGood h.proof) (kE h.proof true)
 | .worth=>Xb [(Qlc h.proof).1] (Qlc h.proof).2
 | .weight=>Xb [(Qle h.proof).1] (Qle h.proof).2
 | .stretch=>Xb [(span ((uL h.pull true).map QgM)).1,(span ((uL h.pull true).map QgM)).2] (uE h.pull true)
 | .best=>Xb [(QqX h.pull).1] (QqX h.pull).2
 | .holds=>Qbq (QqV h.pull (nI l 0)) (uE h.pull (Qq2 (nI l 0)))
 | .rods=>Xb (QtK h.pull (nI l 0)) (uE h.pull (Qwz h.pull (nI l 0)))
 | _=>[]
noncomputable def doV (h:Qp) (v:Qcb) (l:List Int):Txt × Qp :=
 if Qaa v then (match QhL h v l with
  | some h'=>if okH h' then (Qww,h') else (tNo,h)
  | none=>(tNo,h))
 else (QlJ h v l,h)
def Yp:List Txt->Option (List Int)
 | []=>some []
 | w::r=>match Qd4 w,Yp r with
   | some x,some l=>some (x::l)
   | _,_=>none
theorem UP:∀ {ws:List Txt} {l:List Int},Yp ws=some l->l.length=ws.length
 | [],l,h=>by simp[Yp] at h;subst h;rfl
 | w::r,l,h=>by
   simp only[Yp] at h;split at h
   ·rename_i x l' _ h2
    injection h with h
    subst h;simp[UP h2]
   ·cases h
def Z2 (t:Txt):Option (Qcb × List Int):=match spl t with
 | []=>none
 | w::ws=>match VP w with
   | none=>none
   | some (n,v)=>if ws.length=n then (Yp ws).map fun l=>(v,l) else none
noncomputable def QY (h:Qp) (t:Txt):Txt × Qp:=match Z2 t with
 | none=>(Qcp,h)
 | some (v,l)=>doV h v l
noncomputable def Ze (h:Qp) (s:List Txt) (i:Nat):Qp:=(s.take i).foldl (fun h t=>(QY h t).2) h
noncomputable def Qay (h:Qp) (s:List Txt) (i:Nat):List Txt:=(List.range i).map fun j=>(QY (Ze h s j) (s.getD j [])).1
theorem QP (h:Qp) (s:List Txt) (i:Nat) (hi:i<s.length):Ze h s (i+1)=(QY (Ze h s i) s[i]).2:=by
 unfold Ze;rw[QA3 hi,QCs];rfl
theorem VL (h:Qp) (s:List Txt) (i:Nat) (hi:i<s.length):Qay h s (i+1)=Qay h s i++[(QY (Ze h s i) s[i]).1]:=by
 unfold Qay;rw[QBD,QBE,List.map_singleton,List.getD_eq_getElem?_getD,QA0 hi];rfl
noncomputable def Qs4 (h:Qp):Int:=if okH h then 0 else 120
noncomputable def QpR (h:Qp) (s:List Txt):Int:=if okH h then (if 40<s.length then 2 else 0) else 120
structure QzI (h:Qp):Prop where
 proof:Few h.proof
 pull:QzH h.pull
structure Yo (h:Qp):Prop where
 proof:QpJ h.proof
 rods:h.pull.rods.length<=1000
 reads:h.pull.reads.length<=1000
@[simp] def Qio (k:Nat) (h:Qp):List AV:=[.aref k h.proof.chain.deeds.length,.aref (k+1) h.proof.chain.sights.length,.iv (.int .i64 h.proof.chain.wrong),.aref (k+2) h.proof.machine.levers.length,.iv (.int .i64 h.proof.machine.water),.iv (.int .i64 h.proof.machine.llo),.iv (.int .i64 h.proof.machine.lhi),
 .aref (k+3) h.proof.machine.bals.length,.iv (.int .i64 h.proof.machine.wrong),.aref (k+4) h.proof.trials.length,.iv (.int .i64 h.proof.need),.iv (.int .i64 h.proof.rule),.iv (.int .i64 h.pull.iron),.iv (.int .i64 h.pull.glo),.iv (.int .i64 h.pull.ghi),.aref (k+5) h.pull.rods.length,.aref (k+6) h.pull.reads.length,.iv (.int .i64 h.pull.wrong)]
@[simp] def ZI (k:Nat) (h:Qp):Qi:=[(k,.arr 137 5 (emb (h.proof.chain.deeds.map dC)) 0),(k+1,.arr 140 5 (emb (h.proof.chain.sights.map sC)) 0),(k+2,.arr 143 3 (emb (h.proof.machine.levers.map leC)) 0),(k+3,.arr 146 4 (emb (h.proof.machine.bals.map baC)) 0),
 (k+4,.arr 153 3 (emb (h.proof.trials.map trC)) 0),(k+5,.arr 149 3 (emb (h.pull.rods.map roC)) 0),(k+6,.arr 106 7 (emb (h.pull.reads.map reC)) 0)]
include hK
theorem QgN (h:Qp) (hs:Yo h):Zn Tryz.prog K 36 [.iv (hoV h)] [] [] (.agg (Qio 0 h)) (ZI 0 h):=by
 obtain ⟨⟨h1,h2,h3,h4,h5⟩,h6,h7⟩:=hs;refine Yb [17,22,33,38,62,49,54] [] [] [] Qsq.p (by simp[c36]) (by simp) ?_ ?_ ?_ ?_
 ·intro q hq
  simp only[ZI,QBh,QBI,or_false] at hq;rcases hq with rfl | rfl | rfl | rfl | rfl | rfl | rfl<;>exact ⟨by simp,rfl,VG _ _ _ _ _⟩
 ·simp[clA,clAL]
 ·simp
 ·generalize hG:QpO c36.res [17,22,33,38,62,49,54] [] (.agg (Qio 0 h)) (ZI 0 h)=G
  simp[c36];refine Yg (Qr6 h.proof.chain.deeds h1) (by simp[Qc]) ?_
  simp;refine Yg (Qr5 h.proof.chain.sights h2) (by simp[Qc]) ?_
  simp;refine Yg (Qr4 h.proof.machine.levers h3) (by simp[Qc]) ?_
  simp;refine Yg (Qr3 h.proof.machine.bals h4) (by simp[Qc]) ?_
  simp;refine Yg (Qr2 h.pull.rods h6) (by simp[Qc]) ?_
  simp;refine Yg (Qr1 h.pull.reads h7) (by simp[Qc]) ?_
  simp;refine Yg (Qr0 h.proof.trials h5) (by simp[Qc]) ?_
  simp;rw[<- hG];refine ⟨⟨_,rfl,rfl⟩,fun q hq=>?_,by simp⟩
  simp only[ZI,QBh,QBI,or_false] at hq;rcases hq with rfl | rfl | rfl | rfl | rfl | rfl | rfl<;>simp[rnO,nth,QqR,emb]
omit hK
@[reducible] def Xq (h:Qp):Qi:=[(0,.box ((hoC h).map AV.iv))]
def QpN (r:Nat) (y:Txt) (h':Qp):Env->Qi->Prop:=QpO [ZG.tmp r] [0] [(0,0,0)] (.iv (.str y)) (Xq h')
theorem J5 (h:Qp):∀ q∈Xq h,q.1<1/\XO q.2=true/\clO ((Xq h).map (·.1)) q.2=true:=by
 intro q hq;simp only[QBh,QBI,or_false] at hq;subst hq;exact ⟨by omega,rfl,Qdk _ _⟩
theorem Yd {r:Nat} {y:Txt} {h':Qp} {e:Env} {o:Qi} (h1:Ev.look e r=.iv (.str y)) (h2:Ev.look e 0=.loc 0 0) (h3:Qc o 0=some (.box ((hoC h').map AV.iv))):QpN r y h' e o:=by
 refine ⟨⟨.iv (.str y),?_,rfl⟩,fun q hq=>?_,fun q hq=>?_⟩
 ·simp[QpU,Qlb,h1]
 ·simp only[QBh,QBI,or_false] at hq
  subst hq;refine h3.trans ?_;simp only[rnO,QdU]
 grind
section
theorem XS {f:FuncId} {A:AFn} {r:Nat} {args:List IV} {h h':Qp} {y:Txt} (hok:WR Tryz.prog f A [0]) (hres:A.res=[.tmp r]) (hlen:args.length<A.nt)
  (hrun:WpF Tryz.prog K (FnF (QpN r y h')) [.code A.code] (Yh 0 (.loc 0 0::args.map .iv)) (Xq h)):Zn Tryz.prog K f (.loc 0 0::args.map .iv) (Xq h) [0] (.iv (.str y)) (Xq h'):=by
 refine Yb [0] [0] [0] [(0,0,0)] hok (by simp;omega) (by simp) (J5 h') (by simp[clA]) ?_ (by rw[hres];exact hrun)
 simp[nth,Qc]
 grind
theorem Um {args0:List IV} {o:Qi} {h h':Qp} {a:Nat} (ho:Qc o a=some (.box ((hoC h).map AV.iv))):HOk [a] (.loc 0 0::args0.map .iv) o (Xq h) (Xq h'):=by
 refine ⟨by simp,?_,fun q hq=>?_,fun i hi h1=>?_,fun q hq=>⟨(J5 h' q hq).1,(J5 h' q hq).2.1⟩⟩
 ·simp[clA]
 ·have h1:=J5 h q hq
  refine ⟨h1.1,?_,h1.2.2,h1.2.1⟩;simp only[QBh,QBI,or_false] at hq;subst hq;refine ho.trans ?_;simp only[rnO,QdU]
 ·simp at hi
  subst hi;simp[Qc] at h1
include hK
theorem Qlv (h:Qp) (hs:Yo h):Ev.Good Tryz.prog K 35 [hoV h] (.int .i64 (Qs4 h)):=by
 refine Qb hK Qsr (by simp) ?_
 have g1:=Qrp hK h.proof hs.proof;have g2:=Qro hK h.pull hs.rods hs.reads;simp;refine cK (by simpa using g1) ?_
 unfold Qs4 okH;by_cases h1:OkP h.proof
 ·simp[h1]
  refine cK (by simpa using g2) ?_
  by_cases h2:OkU h.pull<;>simp[h2]
 ·simp[h1]
end
theorem QAv (h:Qp):imms (fun i=>if i=0 then none else Qc ((0,.box (Qio 1 h))::ZI 1 h) i) 40 (Qio 1 h)=some (hoC h):=by
 simp[imms,imm,immss,Qc,QBn]
def CH (K:World->Prop) (g:FuncId) (cs:List IV) (h h':Qp):Prop:=Zn Tryz.prog K g (.loc 0 0::cs.map .iv) ((0,.box (Qio 1 h))::ZI 1 h) [0] (.iv (.tup [])) (Xq h')
theorem QlI (h:Qp):∀ q∈((0,AO.box (Qio 1 h))::ZI 1 h),q.1<8/\XO q.2=true/\clO (((0,AO.box (Qio 1 h))::ZI 1 h).map (·.1)) q.2=true:=by
 intro q hq;simp only[ZI,QBh,QBI,or_false] at hq;rcases hq with rfl | rfl | rfl | rfl | rfl | rfl | rfl | rfl
 ·exact ⟨by omega,rfl,by simp[clO,clAL,clA]⟩
 all_goals exact ⟨by show (_:Nat)<8;omega,rfl,VG _ _ _ _ _⟩
def Qwr (h':Qp):Env->Qi->Prop:=QpO [] [0,1,2,3,4,5,6,7] [(0,0,0)] (.iv (.tup [])) ((0,.box (Qio 1 h'))::ZI 1 h')
theorem QnG {h':Qp} {e:Env} {o:Qi} (h1:Ev.look e 0=.loc 0 0) (h2:∀ q∈((0,AO.box (Qio 1 h'))::ZI 1 h'),Qc o q.1=some q.2):Qwr h' e o:=by
 refine ⟨⟨.iv (.tup []),rfl,rfl⟩,fun q hq=>?_,fun q hq=>?_⟩
 ·have h3:=h2 q hq
  simp only[ZI,QBh,QBI,or_false] at hq;rcases hq with rfl | rfl | rfl | rfl | rfl | rfl | rfl | rfl
  ·refine h3.trans ?_
   simp[rnO,rnL,rn,nth]
  all_goals
   refine h3.trans ?_;rw[Jo]
 grind
section
variable {K:World->Prop}
theorem QhK {f:FuncId} {A:AFn} {cs:List IV} {h h':Qp} (hok:WR Tryz.prog f A [0]) (hres:A.res=[]) (hlen:cs.length<A.nt)
  (hrun:WpF Tryz.prog K (FnF (Qwr h')) [.code A.code] (Yh 0 (.loc 0 0::cs.map .iv)) ((0,.box (Qio 1 h))::ZI 1 h)):CH K f cs h h':=by
 refine Zn.give (Yb [0,1,2,3,4,5,6,7] [0] [0] [(0,0,0)] hok (by simp;omega) (by decide) (QlI h') (by simp[clA]) ?_ (by rw[hres];exact hrun)) (by simp) (QAv h')
 simp[nth,Qc]
 grind
theorem Qkt:WR Tryz.prog 202 Qst [0]:=⟨_,Tryz.func202,by kernel_rfl⟩
def Qtp (h:Qp) (s:XD):Qp:={ h with proof:={ h.proof with chain:={ h.proof.chain with sights:=h.proof.chain.sights++[s] } } }
def QzG (h:Qp) (b:Zi):Qp:={ h with proof:={ h.proof with machine:={ h.proof.machine with bals:=h.proof.machine.bals++[b] } } }
def Qwl (h:Qp) (x:QN):Qp:={ h with pull:={ h.pull with reads:=h.pull.reads++[x] } }
def QeJ (h:Qp) (t:VM):Qp:={ h with proof:={ h.proof with chain:={ h.proof.chain with deeds:=h.proof.chain.deeds++[⟨4,0,0,0,0⟩] },trials:=h.proof.trials++[t] } }
def Qwt (h:Qp):Qp:={ h with proof:={ h.proof with chain:={ h.proof.chain with deeds:=h.proof.chain.deeds.dropLast },trials:=if (h.proof.chain.deeds.getLast?.map (·.what))=some 4 then h.proof.trials.dropLast else h.proof.trials } }
theorem QuU (h:Qp) (d:Qw) (hs:Yo h):CH K 202 [.ptr (dC d)] h (QC h d):=by
 obtain ⟨⟨h1,h2,h3,h4,h5⟩,h6,h7⟩:=hs;refine QhK Qkt rfl (by simp[Qst]) ?_
 generalize hG:Qwr (QC h d)=G;simp[Qst];rw[<- hG]
 repeat' first | omega | exact QnG rfl (by
  intro q hq;simp only[ZI,QBh,QBI,or_false] at hq;rcases hq with rfl | rfl | rfl | rfl | rfl | rfl | rfl | rfl<;>simp[Qc,QC]) | intro _ | apply And.intro
end
theorem Qkz:WR Tryz.prog 135 Qsv [0]:=⟨_,Tryz.func135,by kernel_rfl⟩
theorem QkA:WR Tryz.prog 134 Qsw [0]:=⟨_,Tryz.func134,by kernel_rfl⟩
theorem Qn0:WR Tryz.prog 67 c67 [0]:=⟨_,Tryz.func67,by kernel_rfl⟩
noncomputable def chT (h':Qp):Txt:=if okH h' then Qww else tNo
noncomputable def chH (h h':Qp):Qp:=if okH h' then h' else h
include hK
theorem Qjg (h h':Qp) (g:FuncId) (cs:List IV) (hs:Yo h) (hs':Yo h') (hc:callee Tryz.prog g=true) (hg:CH K g cs h h') :
  Zn Tryz.prog K 135 (.loc 0 0::[IV.clo g [] cs].map .iv) (Xq h) [0] (.iv (.str (chT h'))) (Xq (chH h h')):=by
 refine XS Qkz rfl (by simp[Qsv]) ?_
 generalize hG:QpN 4 (chT h') (chH h h')=G;have g28:=QgN hK h hs;have g9:=Qlv hK h' hs';simp[Qsv];refine ZQ (ids:=[11000,11001,11003,11007,11009,11015,11016]) g28 rfl ?_ ?_
 ·refine ⟨by decide,by simp[clA],by simp,?_,?_⟩
  ·simp[Qc]
   intro i hi;have:i=0\/i=1\/i=2\/i=3\/i=4\/i=5\/i=6:=by omega
   rcases this with rfl | rfl | rfl | rfl | rfl | rfl | rfl<;>simp[nth]
  intro q hq;simp only[ZI,QBh,QBI,or_false] at hq;rcases hq with rfl | rfl | rfl | rfl | rfl | rfl | rfl<;>exact ⟨by show (_:Nat)<7;omega,rfl⟩
 ·simp[rn,rnL,nth,Jo]
  refine ⟨hc,?_⟩;refine ZQ (ids:=[5,11000,11001,11003,11007,11009,11015,11016]) hg (by simp[nth,rn]) ?_ ?_
  ·refine ⟨by decide,by simp[clA],fun q hq=>?_,fun i hi h1=>?_,fun q hq=>?_⟩
   ·have h1:=QlI h q hq
    refine ⟨h1.1,?_,h1.2.2,h1.2.1⟩;simp only[ZI,QBh,QBI,or_false] at hq;rcases hq with rfl | rfl | rfl | rfl | rfl | rfl | rfl | rfl
    ·simp[Qc,nth,rnO,rnL,rn]
    all_goals
     rw[Jo];simp[Qc,nth]
   ·simp at hi
    have:i=0\/i=1\/i=2\/i=3\/i=4\/i=5\/i=6\/i=7:=by omega
    rcases this with rfl | rfl | rfl | rfl | rfl | rfl | rfl | rfl<;>simp[Qc] at h1
   ·have h1:=J5 h' q hq
    grind
  ·simp[rn,nth]
   refine cK (by simpa using g9) ?_
   rw[<- hG];unfold Qs4 chT chH;by_cases ho:okH h'
   ·simp[ho]
    exact Yd rfl rfl (by simp[Qc])
   ·simp[ho]
    exact Yd rfl rfl (by simp[Qc])
theorem Qjh (h:Qp) (d:Qw) (hs:Yo h) (hs':Yo (QC h d)):Zn Tryz.prog K 134 (.loc 0 0::[IV.agg (dC d)].map .iv) (Xq h) [0] (.iv (.str (chT (QC h d)))) (Xq (chH h (QC h d))):=by
 refine XS QkA rfl (by simp[Qsw]) ?_
 generalize hG:QpN 4 (chT (QC h d)) (chH h (QC h d))=G;have hg:=Qjg hK h (QC h d) 202 [.ptr (dC d)] hs hs' (by kernel_rfl) (QuU h d hs)
 simp[Qsw];refine ZQ hg (by simp[nth,rn]) (Um (by simp[Qc])) ?_
 simp[nth,rn];rw[<- hG];exact Yd rfl rfl (by simp[Qc])
theorem QmI (h:Qp) (hs:Yo h) (hs':Yo (QC h ⟨3,0,0,0,0⟩)):Zn Tryz.prog K 67 (.loc 0 0::[ZF []].map .iv) (Xq h) [0] (.iv (.str (chT (QC h ⟨3,0,0,0,0⟩)))) (Xq (chH h (QC h ⟨3,0,0,0,0⟩))):=by
 refine XS Qn0 rfl (by simp[c67]) ?_
 generalize hG:QpN 4 (chT (QC h ⟨3,0,0,0,0⟩)) (chH h (QC h ⟨3,0,0,0,0⟩))=G;have hg:=Qjh hK h ⟨3,0,0,0,0⟩ hs hs';simp[c67];refine ZQ hg (by simp[nth,rn]) (Um (by simp[Qc])) ?_
 simp[nth,rn];rw[<- hG];exact Yd rfl rfl (by simp[Qc])
omit hK
set_option maxHeartbeats 10000000
def QAM (neg:Bool) (D:Txt):Option Nat:=if D.length=0\/9<D.length\/(D.head?=some 48/\(neg=true\/1<D.length)) then none else Lib.decFrom 0 D
theorem QeL (w:Txt):(∃ p∈Jf,p.1=w)\/∀ p∈Jf,¬ p.1=w:=by
 grind
theorem QeO:∀ p∈Jf,VP p.1=some p.2:=by decide
theorem Qci {w:Txt} (h:∀ p∈Jf,¬ p.1=w):VP w=none:=by
 unfold VP
 grind
def ixW (w:Txt):Nat:=(Jf.map (·.1)).idxOf w
theorem WM (n:Nat) (h:9<n):Lib.decDigits n=Lib.decDigits (n / 10)++[UInt8.ofNat (48+n % 10)]:=by
 rw[Lib.decDigits,dif_neg (by omega)]
theorem Wn (n:Nat) (h:n<=9):Lib.decDigits n=[UInt8.ofNat (48+n)]:=by
 rw[Lib.decDigits,dif_pos (by omega)]
include hK
omit hK
def OkL (l:List Int):Prop:=l.length<=1000000/\∀ n∈l,-1000000000000000<=n/\n<=1000000000000000
theorem Qmj:OkL []:=⟨by simp,by simp⟩
theorem QbS (n:Nat):∀ k,n<10 ^ k->0<k->(Lib.decDigits n).length<=k:=by
 induction n using Nat.strongRecOn with
 | ind n ih =>
   intro k hk h0;by_cases h:n<=9
   ·rw[Wn n h];simp;omega
   ·rw[WM n (by omega)]
    obtain ⟨j,rfl⟩:∃ j,k=j+1:=⟨k-1,by omega⟩
    have hj:0<j:=by
     grind
    have:=ih (n / 10) (by omega) j (by omega) hj
    simp;omega
theorem Qi9 {n:Int} (h : -1000000000000000<=n/\n<=1000000000000000):(Lib.itoa n).length<=20:=by
 unfold Lib.itoa;split
 ·have:=QbS n.natAbs 16 (by omega) (by omega)
  simp;omega
 ·have:=QbS n.toNat 16 (by omega) (by omega)
  omega
theorem Qbs:∀ (l:List Txt) (c:Nat),(∀ x∈l,x.length<=c)->(WI l).length<=(c+1)*l.length
 | [],_,_=>by simp[WI]
 | [x],c,h=>by
   have:=h x (by simp)
   simp[WI];omega
 | x::y::r,c,h=>by
   have h1:=h x (by simp)
   have h2:=Qbs (y::r) c fun z hz=>h z (by simp[hz])
   simp only[WI,QBa,QBj] at h2 |-
   grind
theorem Qfc {l:List Int} (h:OkL l) (i:Nat):(WI ((l.take i).map Lib.itoa)).length<=21000000:=by
 have h1:=Qbs ((l.take i).map Lib.itoa) 20 fun x hx=>by
  obtain ⟨n,hn,rfl⟩:=QBl.1 hx;exact Qi9 (h.2 n (QBM hn))
 have h2:((l.take i).map Lib.itoa).length<=1000000:=by
  have:=h.1;simp;omega
 omega
@[simp] abbrev QAQ:AC:=.seq (.ops [⟨some 65,none,.mov (.t 4)⟩,⟨some 66,none,.mov (.t 6)⟩,⟨some 67,none,.bin .mul (.t 65) (.t 66)⟩,⟨some 2,none,.mov (.t 67)⟩,⟨some 3,none,.mov (.bool true)⟩] false) .ret
theorem Qbh (ws:List Txt) (w:Txt):Yp (ws++[w])=match Yp ws,Qd4 w with | some l,some n=>some (l++[n]) | _,_=>none:=by
 induction ws with
 | nil=>simp only[QB4,Yp];grind
 | cons x r ih =>
   simp only[QBA,Yp,ih]
   grind
def QwG (t:Txt):Txt × List Int × Bool:=match spl t with
 | []=>([],[],false)
 | w::ws=>match Yp ws with
   | none=>([],[],false)
   | some l=>(w,l,decide ((l.length:Int)=match VP w with | some p=>(p.1:Int) | none => -1))
theorem Qbg:∀ {ws:List Txt} {l:List Int},Yp ws=some l->∀ w∈ws,(Qd4 w).isSome=true
 | [],_,_,w,hw=>by simp at hw
 | x::r,l,h,w,hw=>by
   simp only[Yp] at h;split at h
   ·rename_i n l' h1 h2
    rcases QBh.1 hw with rfl | hw
    ·rw[h1];rfl
    ·exact Qbg h2 w hw
   ·cases h
include hK
omit hK
theorem q9:∀ l:List Txt,Lib.join l [32]=WI l
 | []=>rfl
 | [x]=>by simp[Lib.join,WI]
 | x::y::r=>by
   have:=q9 (y::r);simp only[WI];rw[<- this];simp[Lib.join]
theorem Qnt (w:Txt) (hw:w.length<=1000):∃ n,((Qd4 w).isSome=true->n=(Qd4 w).getD 0)/\Ev.Good Tryz.prog KW 111 [.str w] (.tup [.int .i64 n,.bool (Qd4 w).isSome]):=by
 have g1:=Qm9 w hw;have g3:=Qm8 w [45];cases hv:Qd4 w with
 | some v =>
   obtain ⟨h1,h2,h3⟩:=Qgj hv;have hb:=Lib.atoiAll_bounds h3;have g2:=Qc7 v hb;rw[h3] at g1;rw[h1] at g2;refine ⟨v,fun _=>rfl,Qb hKW Qat (by simp) ?_⟩
   have h2':((Lib.trimPrefix w [45]).length:Int)<=9:=by omega
   simp;refine cK (by simpa using g1) ?_
   simp;refine cK (by simpa using g2) ?_
   simp;refine cK (by simpa using g3) ?_
   simp[h2']
 | none =>
   cases ha:Lib.atoiAll w with
   | ok v =>
     have hb:=Lib.atoiAll_bounds ha;have g2:=Qc7 v hb;rw[ha] at g1;refine ⟨v,fun h=>by simp at h,Qb hKW Qat (by simp) ?_⟩
     simp;refine cK (by simpa using g1) ?_
     simp;refine cK (by simpa using g2) ?_
     by_cases hi:Lib.itoa v=w
     ·have hl:¬ (Lib.trimPrefix w [45]).length<=9:=fun h=>by
       have:=QgD hi h
       grind
      have hl':¬ ((Lib.trimPrefix w [45]).length:Int)<=9:=by omega
      simp[hi];refine cK (by simpa using g3) ?_
      simp;omega
     ·simp[hi]
   | range =>
     rw[ha] at g1;refine ⟨Lib.atoiSat w,fun h=>by simp at h,Qb hKW Qat (by simp) ?_⟩
     simp;refine cK (by simpa using g1) ?_
     simp
   | _ =>
     rw[ha] at g1;refine ⟨0,fun h=>by simp at h,Qb hKW Qat (by simp) ?_⟩
     simp;refine cK (by simpa using g1) ?_
     simp
theorem Qni (e:Int) (l:List Int) (h:e=0->OkL l):Ev.Good Tryz.prog KW 141 [.int .i64 e,ZF l] (.str (Xb l e)):=by
 refine Qb hKW Qpg (by simp) ?_
 unfold Xb Qrc;by_cases h0:e=0
 ·subst h0
  have hl:=h rfl;have h1:=hl.1;by_cases hne:l=[]
  ·subst hne
   simp[QiB]
  ·have hpos:=List.length_pos_iff.2 hne
   have hne':¬ (l.length:Int)=0:=by omega
   simp[hne,hne'];intro _;refine QV (fun i=>[(5,AV.aref 5 i),(16,AV.iv (ZF l)),(17,AV.iv (.int .i64 l.length)),(18,AV.iv (.int .i64 (i:Nat)))]) (fun i=>[(5,.arr 9 1 (emb (((l.take i).map Lib.itoa).map fun s=>[.str s])) 0)]) l.length (fun _=>True) trivial ?_ ?_
   ·intro _
    have hj:=Qfc hl l.length;rw[QBo] at hj;have hg:=QmU (l.map Lib.itoa) (by simpa using h1) (by rw[q9];omega)
    rw[q9] at hg;rw[Qa Qdx.eq_1];simp[-List.map_map,UL];rw[QBn (by simp)]
    refine Qd (by simpa using hg) (.inr rfl) ?_
    simp
   ·intro i hi _ ih
    have hg:=Qc7 l[i] (by have:=hl.2 l[i] (QBc hi);omega)
    have e3:List.take (i+1) (List.map ((fun s=>[IV.str s])∘Lib.itoa) l)=List.take i (List.map ((fun s=>[IV.str s])∘Lib.itoa) l)++[[.str (Lib.itoa l[i])]]:=by
     rw[QA3 (by simpa using hi)]
     simp
    rw[Qa Qdx.eq_1];simp[hi] at ih |-;rw[e3] at ih;refine cK (by simpa using hg) ?_
    simp
    grind
 ·by_cases h3:e=3
  ·simp[h3,QiB]
  ·simp[h0,h3,tNo]
theorem Qrn (l:List Int) (e:Int) (h:e=0->OkL l):Ev.Good Tryz.prog KW 74 [ZF l,.int .i64 e] (.str (Xb l e)):=by
 refine Qb hKW Qsk (by simp) ?_
 have hg:=Qni e l h;simp;refine cK (by simpa using hg) ?_
 simp
abbrev Sml (n:Int):Prop := -1000000000000000<=n/\n<=1000000000000000
theorem QeV (l:List Int):(Vh l).length<=l.length:=by
 unfold Vh;rw[List.length_mergeSort,QBb];exact Qex l
theorem Qe1 (c:Qx):(QM c).length<=2 ^ Ud c.deeds:=by
 unfold QM
 grind
theorem QcH {c:Qx} (hc:OkC c):(QM c).length<=4096:=by
 have h1:=Qe1 c;have h2:=qD c.deeds;have h3:=hc.len;have h4:2 ^ Ud c.deeds<=2 ^ 12:=QBL (by omega) (by omega)
 omega
theorem QiF {c:Qx} (hc:OkC c) (f:Nat->Int) (h:∀ n,-1000<=f n/\f n<=1000):OkL (Vh ((QM c).map f)):=by
 refine ⟨?_,fun n hn=>?_⟩
 ·have h1:=QeV ((QM c).map f)
  have h2:=QcH hc
  grind
 ·rw[Uu] at hn
  grind
theorem QnW {c:Qx} (hc:OkC c) (e:Nat->Int):∀ x∈cab c.deeds e c.deeds.length,x<12:=fun x hx=>by
 have h1:=Qey c.deeds e c.deeds.length x hx;have h2:=QlQ c.deeds c.deeds.length;have h3:=hc.len;omega
theorem Qqc {c:Qx} (hc:OkC c) (n:Int):OkL (Qiw c n):=by
 unfold Qiw;split
 ·refine QiF hc _ fun k=>?_
  unfold Qiv;have:=QnW hc (XC c.deeds k);rw[List.getD_eq_getElem?_getD];cases h:(cab c.deeds (XC c.deeds k) c.deeds.length)[n.toNat]? with
  | none=>simp
  | some x =>
    have:=this x (QBd h);simp;omega
 ·exact Qmj
theorem Jm {h:Qp} (ho:okH h):Yo h:=by
 have h1:=ho.1.chain.len;have h2:=ho.1.chain.slen;have h3:=ho.1.machine.len;have h4:=ho.1.machine.blen;have h5:=ho.1.many;have h6:=Qf9 h.proof.chain.deeds;have h7:=ho.2.rlen;have h8:=ho.2.xlen;exact ⟨⟨by omega,by omega,by omega,by omega,by omega⟩,by omega,by omega⟩
theorem QnZ:WR Tryz.prog 73 c73 [0]:=⟨_,Tryz.func73,by kernel_rfl⟩
theorem QmH (h:Qp) (a:Int) (ho:okH h) (hf:QzI h):Zn Tryz.prog KW 73 (.loc 0 0::[ZF [a]].map .iv) (Xq h) [0] (.iv (.str (QlJ h .who [a]))) (Xq h):=by
 have hc:=ho.1.chain;obtain ⟨⟨h1,h2,h3,h4,h5⟩,h6,h7⟩:=Jm ho;refine XS QnZ rfl (by simp[c73]) ?_
 generalize hG:QpN 4 (QlJ h .who [a]) h=G;have g1:=Qrm hKW h.proof.chain a h1 h2;have g2:=Qrn (Qiw h.proof.chain a) (VK h.proof.chain (plB h.proof.chain a)) (fun _=>Qqc hc a)
 have e1:(if VK h.proof.chain (decide (inR a 0 (Jd h.proof.chain.deeds-1)))=0 then Vh ((QM h.proof.chain).map (Qiv h.proof.chain a)) else [])=Qiw h.proof.chain a:=rfl
 have e2:VK h.proof.chain (decide (inR a 0 (Jd h.proof.chain.deeds-1)))=VK h.proof.chain (plB h.proof.chain a):=rfl;rw[e1,e2] at g1;simp[c73];refine cK (by simpa using g1) ?_
 simp;refine cK (by simpa using g2) ?_
 simp;rw[<- hG];exact Yd rfl rfl (by simp[Qc])
def chB (first:List Int) (rest:List Qw):List (List Int):=(Zh rest).map (first++·)
include hK
omit hK
def teT (c:Qx) (i:Nat):List (List Int):=((Zh c.deeds).take i).filter fun e=>decide ((Q1 c.deeds c.sights (Wk e):Int)<=c.wrong)
def teL (c:Qx):List (List Int):=(Zh c.deeds).filter fun e=>decide ((Q1 c.deeds c.sights (Wk e):Int)<=c.wrong)
theorem Qqm {c:Qx} (hc:OkC c):QbP c [] c.deeds=teL c:=by
 unfold QbP teL;rw[show ((Zh c.deeds).map (([]:List Int)++·))=Zh c.deeds by simp]
 refine List.filter_congr fun e he=>?_
 obtain ⟨h1,h2⟩:=YL he
 have hch:Qs3 c.deeds e:=⟨h1,fun i hi hi'=>by
  have hm:=QbQ (h2 i hi hi');obtain ⟨h3,h4⟩:=hm;refine ⟨by simp only[inR];omega,fun h=>by omega⟩⟩
 simp[Qs2,hch]
theorem Qh2:∀ {a b:List Int},a.Pairwise (·<·)->b.Pairwise (·<·)->(∀ x,x∈a↔x∈b)->a=b
 | [],[],_,_,_=>rfl
 | [],y::b,_,_,h=>absurd ((h y).2 (by simp)) (by simp)
 | x::a,[],_,_,h=>absurd ((h x).1 (by simp)) (by simp)
 | x::a,y::b,ha,hb,h=>by
   have h1:=List.pairwise_cons.1 ha;have h2:=List.pairwise_cons.1 hb
   have hxy:x=y:=by
    have e1:=(h x).1 (by simp)
    have e2:=(h y).2 (by simp)
    rcases QBh.1 e1 with e1 | e1
    ·exact e1
    ·rcases QBh.1 e2 with e2 | e2
     ·exact e2.symm
     ·have:=h1.1 y e2
      have:=h2.1 x e1;omega
   subst hxy;rw[Qh2 h1.2 h2.2 fun z=>?_]
   have hz:=h z;constructor
   ·intro hm
    rcases QBh.1 (hz.1 (QBO _ hm)) with e | e
    ·subst e;have:=h1.1 z hm;omega
    ·exact e
   ·intro hm
    rcases QBh.1 (hz.2 (QBO _ hm)) with e | e
    ·subst e;have:=h2.1 z hm;omega
    ·exact e
def QAI (c:Qx) (n:Int) (e:List Int):Int:=((cab c.deeds (Wk e) c.deeds.length).getD n.toNat 0:Nat)
def QzN (c:Qx) (n:Int) (e:List Int):Int:=Qlj (cab c.deeds (Wk e) c.deeds.length) n
include hK
omit hK
set_option maxRecDepth 100000
def trA (k:Nat) (l:List VM):AV:=if l=[] then .zsl 3 else .aref k l.length
def trO (k:Nat) (l:List VM):Qi:=if l=[] then [] else [(k,.arr 153 3 (emb (l.map trC)) 0)]
def QAt (k:Nat) (p:Qj):List AV:=[.aref k p.chain.deeds.length,.aref (k+1) p.chain.sights.length,.iv (.int .i64 p.chain.wrong),.aref (k+2) p.machine.levers.length,.iv (.int .i64 p.machine.water),.iv (.int .i64 p.machine.llo),.iv (.int .i64 p.machine.lhi),
 .aref (k+3) p.machine.bals.length,.iv (.int .i64 p.machine.wrong),trA (k+4) p.trials,.iv (.int .i64 p.need),.iv (.int .i64 p.rule)]
def QAs (k:Nat) (p:Qj):Qi:=[(k,.arr 137 5 (emb (p.chain.deeds.map dC)) 0),(k+1,.arr 140 5 (emb (p.chain.sights.map sC)) 0),(k+2,.arr 143 3 (emb (p.machine.levers.map leC)) 0),(k+3,.arr 146 4 (emb (p.machine.bals.map baC)) 0)]++trO (k+4) p.trials
def QAS (k:Nat) (h:Qp):List AV:=QAt k h.proof++[.iv (.int .i64 h.pull.iron),.iv (.int .i64 h.pull.glo),.iv (.int .i64 h.pull.ghi),.aref (k+5) h.pull.rods.length,.aref (k+6) h.pull.reads.length,.iv (.int .i64 h.pull.wrong)]
def QAR (k:Nat) (h:Qp):Qi:=QAs k h.proof++[(k+5,.arr 149 3 (emb (h.pull.rods.map roC)) 0),(k+6,.arr 106 7 (emb (h.pull.reads.map reC)) 0)]
include hK
omit hK
def Qs6:Qcb->FuncId
 | .weld=>65 | .cut=>66 | .turn=>67 | .prove=>68 | .undo=>69 | .see=>70 | .balance=>71 | .read=>72
 | .who=>73 | .wher=>76 | .first=>78 | .pulls=>81 | .broke=>84 | .loads=>86 | .failures=>88 | .condemned=>90 | .proved=>93 | .opn=>95 | .good=>97 | .worth=>99 | .weight=>101 | .stretch=>103 | .best=>105 | .holds=>107 | .rods=>109
def QeP (p:Nat × Qcb):IV:=.agg [.int .i64 (p.1:Nat),.fn (Qs6 p.2)]
def WT:List (MK × IV):=Jf.map fun p=>(.str p.1,QeP p.2)
theorem U3 {k:MK} {y:IV} (h:k.kind=none):∀ {l:List (MK × IV)},QZ none l->QZ none (mins k y l)
 | [],_=>⟨h,trivial⟩
 | p::r,hl=>by
   unfold mins;split
   ·exact ⟨h,hl.2⟩
   ·exact ⟨hl.1,U3 h hl.2⟩
include hK
theorem QrA:Ev.Good Tryz.prog K 37 [] (.map WT):=by
 refine Qb hK Qsp (by simp) ?_
 simp
 repeat' first | exact trivial | apply And.intro | apply U3 rfl | kernel_rfl
omit hK
def arV:Qcb->Nat
 | .weld=>4 | .cut=>2 | .turn=>0 | .prove=>3 | .undo=>0 | .see=>5 | .balance=>4 | .read=>7
 | .who=>1 | .wher=>1 | .first=>0 | .pulls=>2 | .broke=>1 | .loads=>1 | .failures=>0 | .condemned=>0 | .proved=>1 | .opn=>0 | .good=>0 | .worth=>0 | .weight=>0 | .stretch=>0 | .best=>0 | .holds=>1 | .rods=>1
theorem Qh4:∀ p∈Jf,p.2.1=arV p.2.2:=by decide
theorem QfK {w:Txt} {n:Nat} {v:Qcb} (h:VP w=some (n,v)):n=arV v:=by
 rcases QeL w with ⟨p,hp,rfl⟩ | hn
 ·rw[QeO p hp] at h
  injection h with h
  have:=Qh4 p hp
  grind
 ·rw[Qci hn] at h
  cases h
theorem QeN (w:Txt):Qh (.str w) WT=(VP w).map QeP:=by
 have key:∀ l:List (Txt × Nat × Qcb),Qh (.str w) (l.map fun p=>(MK.str p.1,QeP p.2))=((l.find? fun p=>p.1==w).map (·.2)).map QeP:=by
  intro l
  induction l with
  | nil=>rfl
  | cons p r ih =>
    simp only[QBf,Qh,List.find?_cons]
    grind
 exact key Jf
theorem Y5 {h h':Qp} {v:Qcb} {l:List Int} (hv:Qaa v=true) (hc:QhL h v l=some h'):doV h v l=(chT h',chH h h'):=by
 unfold doV chT chH
 grind
theorem VE {h:Qp} {v:Qcb} {l:List Int} (hv:Qaa v=false):doV h v l=(QlJ h v l,h):=by
 unfold doV;rw[hv];rfl
theorem QeW {h h':Qp} (ho:okH h) (h1:h'.proof.chain.deeds.length<=h.proof.chain.deeds.length+1) (h2:h'.proof.chain.sights.length<=h.proof.chain.sights.length+1) (h3:h'.proof.machine.levers.length<=h.proof.machine.levers.length)
  (h4:h'.proof.machine.bals.length<=h.proof.machine.bals.length+1) (h5:h'.proof.trials.length<=h.proof.trials.length+1) (h6:h'.pull.rods.length<=h.pull.rods.length) (h7:h'.pull.reads.length<=h.pull.reads.length+1):Yo h':=by
 have q1:=ho.1.chain.len;have q2:=ho.1.chain.slen;have q3:=ho.1.machine.len;have q4:=ho.1.machine.blen;have q5:=ho.1.many;have q6:=Qf9 h.proof.chain.deeds;have q7:=ho.2.rlen;have q8:=ho.2.xlen;exact ⟨⟨by omega,by omega,by omega,by omega,by omega⟩,by omega,by omega⟩
theorem Qn1:WR Tryz.prog 38 c38 [0]:=⟨_,Tryz.func38,by kernel_rfl⟩
theorem QhM:∀ v:Qcb,callee Tryz.prog (Qs6 v)=true:=by
 intro v;cases v<;>kernel_rfl
theorem QcX:QZ none WT:=by
 have key:∀ l:List (Txt × Nat × Qcb),QZ none (l.map fun p=>(MK.str p.1,QeP p.2)):=by
  intro l
  induction l with
  | nil=>trivial
  | cons p r ih=>exact ⟨rfl,ih⟩
 exact key Jf
theorem Qef (h:Qp) (t:Txt) (hdo:∀ v l,Z2 t=some (v,l)->l.length=arV v->Zn Tryz.prog KW (Qs6 v) (.loc 0 0::[ZF l].map .iv) (Xq h) [0] (.iv (.str (doV h v l).1)) (Xq (doV h v l).2)) (ht:t.length<=1000) :
  Zn Tryz.prog KW 38 (.loc 0 0::[.map WT,.str t].map .iv) (Xq h) [0] (.iv (.str (QY h t).1)) (Xq (QY h t).2):=by
 refine XS Qn1 rfl (by simp[c38]) ?_
 generalize hG:QpN 6 (QY h t).1 (QY h t).2=G;have g1:=Qlt t ht;have hsl:=spl_len t;have hwl:=QaM t;cases hs:spl t with
 | nil=>exact absurd hs (QaN t [])
 | cons w ws =>
   rw[hs] at g1 hsl hwl;simp at hsl;have hfd:=QeN w;simp[c38];refine cK (by simpa using g1) ?_
   simp;refine ⟨QcX,?_⟩;cases hv:VP w with
   | none =>
     have hL:QY h t=(Qcp,h):=by
      simp[QY,Z2,hs,hv]
     rw[hv] at hfd;simp only[Option.map_none] at hfd;rw[hL] at hG;simp[hfd];rw[<- hG];exact Yd (by simp[Ev.look,Qcp]) (by simp[Ev.look]) (by simp[Qc])
   | some p =>
     obtain ⟨n,v⟩:=p;rw[hv] at hfd;simp only[QB3] at hfd;have har:=QfK hv;simp[hfd,QeP];have h7:n<=7:=by rw[har];cases v<;>decide
     intro _;refine ⟨by omega,fun hq=>?_,fun hq=>?_⟩
     ·have hn:¬ ws.length=n:=fun e=>hq (by omega)
      have hL:QY h t=(Qcp,h):=by
       simp[QY,Z2,hs,hv,hn]
      rw[hL] at hG;rw[<- hG];exact Yd (by simp[Ev.look,Qcp]) (by simp[Ev.look]) (by simp[Qc])
     ·have hn:ws.length=n:=by omega
      refine ⟨by omega,fun _ _=>?_⟩
      refine QV (fun i=>[(0,AV.loc 0 0),(8,AV.loc 8 0),(10,AV.aref 10 ((Yp (ws.take i)).getD []).length),(36,AV.iv (.sl 1 (ws.map fun s=>[IV.str s]))),(37,AV.iv (.int .i64 ws.length)),(38,AV.iv (.int .i64 (i:Nat)))])
       (fun i=>[(0,AO.box ((hoC h).map AV.iv)),(8,AO.box [AV.iv (.int .i64 n),AV.iv (.fn (Qs6 v))]),(10,AO.arr 3 1 (emb (((Yp (ws.take i)).getD []).map fun n=>[.int .i64 n])) 0)]) ws.length (fun i=>(Yp (ws.take i)).isSome=true) (by simp[Yp]) ?_ ?_
      ·intro hall
       rw[QBo] at hall;obtain ⟨l,hl⟩:=QBy.1 hall;have hll:=UP hl
       have hL:QY h t=doV h v l:=by
        simp[QY,Z2,hs,hv,hn,hl]
       rw[hL] at hG;have hd:=hdo v l (by simp[Z2,hs,hv,hn,hl]) (by omega)
       rw[Qa QhV.eq_1];simp[hl,UL];refine ⟨QhM v,ZQ hd (by simp[nth,rn]) (Um (by simp[Qc])) ?_⟩
       simp[nth,rn];rw[<- hG];exact Yd rfl rfl (by simp[Qc])
      ·intro i hi hQ ih
       obtain ⟨l,hl⟩:=QBy.1 hQ;have hll:=UP hl;rw[QBT] at hll;have hwi:=hwl ws[i] (by simp)
       obtain ⟨m,hm,hg⟩:=Qnt ws[i] (by omega)
       have hst:=Qbh (ws.take i) ws[i];rw[<- QA3 hi,hl] at hst;rw[Qa QhV.eq_1];cases hx:Qd4 ws[i] with
       | none =>
         have hno:Yp ws=none:=by
          cases hq:Yp ws with
          | none=>rfl
          | some l' =>
            have:=Qbg hq ws[i] (by simp)
            grind
         have hL:QY h t=(Qcp,h):=by
          simp[QY,Z2,hs,hv,hn,hno]
         rw[hL] at hG;rw[hx] at hg;simp[hi,hl];refine cK (by simpa using hg) ?_
         simp;rw[<- hG];exact Yd (by simp[Ev.look,Qcp]) (by simp[Ev.look]) (by simp[Qc])
       | some x =>
         rw[hx] at hg hst hm;have hmx:m=x:=by simpa using hm rfl
         subst hmx;simp only at hst;have ih:=ih (by rw[hst];rfl)
         rw[hst] at ih;simp[hi,hl] at ih |-;refine cK (by simpa using hg) ?_
         simp
         grind
def h0:Qp:=⟨⟨⟨[],[],0⟩,⟨[],0,0,0,[],0⟩,[],0,0⟩,⟨0,0,0,[],[],0⟩⟩
noncomputable def QpS (h:Qp) (s:List Txt):List Txt:=if okH h then (if 40<s.length then [] else Qay h s s.length) else []
noncomputable def QeZ (h:Qp) (s:List Txt):Qp:=if okH h then (if 40<s.length then h0 else Ze h s s.length) else h0
theorem QmX (h:Qp) (s:List Txt) (hs:Yo h) (hl:s.length<=100) (hq:okH h->s.length<=40->∀ i (hi:i<s.length),Zn Tryz.prog KW 38 (.loc 0 0::[.map WT,.str s[i]].map .iv) (Xq (Ze h s i)) [0] (.iv (.str (QY (Ze h s i) s[i]).1)) (Xq (QY (Ze h s i) s[i]).2)) :
  Ev.Good Tryz.prog KW 19 [hoV h,strs s] (.tup [strs (QpS h s),hoV (QeZ h s),.int .i64 (QpR h s)]):=by
 refine Qb hKW Qsu (by simp) ?_
 have g9:=Qlv hKW h hs;unfold Qs4 at g9;generalize hG:QW c19.res (.tup [strs (QpS h s),hoV (QeZ h s),.int .i64 (QpR h s)])=G;unfold QpS QeZ QpR at hG;by_cases ho:okH h
 ·rw[if_pos ho] at g9 hG hG hG
  simp[c19];refine cK (by simpa using g9) ?_
  by_cases h40:40<s.length
  ·have h40':(40:Int)<s.length:=by omega
   rw[if_pos h40] at hG hG hG;simp[h40'];rw[<- hG];intro _;simp[c19,h0]
  ·have h40':¬ (40:Int)<s.length:=by omega
   rw[if_neg h40] at hG hG hG;have g28:Ev.Good Tryz.prog KW 36 [hoV h] (.agg (hoC h)):=Qae (xs:=[hoV h]) hKW (QgN hKW h hs) (by simp[Qc])
   have g29:=QrA hKW;simp[h40'];intro _;refine cK (by simpa using g28) ?_
   simp;refine cK (by simpa using g29) ?_
   simp;intro _;have hq:=hq ho (by omega)
   refine QX (fun i=>[(4,AV.aref 4 (Qay h s i).length),(5,AV.loc 5 0),(8,AV.loc 25 0),(9,AV.iv (IV.map WT)),(27,AV.iv (strs s)),(28,AV.iv (.int .i64 s.length)),(29,AV.iv (.int .i64 (i:Nat)))])
    (fun i=>[(4,AO.arr 9 1 (emb ((Qay h s i).map fun t=>[.str t])) 0),(5,AO.box ((hoC h0).map AV.iv)),(25,AO.box ((hoC (Ze h s i)).map AV.iv))]) s.length ?_ ?_
   ·rw[Qa QhX.eq_1]
    simp;rw[<- hG];simp[c19]
   ·intro i hi ih
    have hd:=hq i hi;rw[<- QP h s i hi] at hd;have hst:=VL h s i hi;rw[hst] at ih;rw[Qa QhX.eq_1];simp[hi] at ih |-;refine ZQ hd (by simp[nth,rn]) (Um (by simp[Qc])) ?_
    simp[nth,rn];have hal:(Qay h s i).length=i:=by simp[Qay]
    grind
 ·rw[if_neg ho] at g9 hG hG hG
  simp[c19];refine cK (by simpa using g9) ?_
  simp;rw[<- hG];simp[c19,h0]
noncomputable instance:DecidableEq Qp:=fun _ _=>Classical.propDecidable _
include hK
theorem Qeh (a b:List Txt) (ha:a.length<=1000000) (hb:b.length<=1000000):Ev.Good Tryz.prog K 12 [strs a,strs b] (.bool (decide (a=b))):=by
 refine Qb hK c12_ok (by simp) ?_
 by_cases h4:a.length=b.length
 ·simp[h4]
  intros;refine QV (fun i=>[(0,AV.iv (strs a)),(1,AV.iv (strs b)),(5,AV.iv (IV.int IntKind.i64 (i:Nat)))]) (fun _=>[]) a.length (fun i=>a.take i=b.take i) (by simp) ?_ ?_
  ·intro h
   rw[h4,QBo,<- h4,QBo] at h;subst h;rw[Qa c12_b0.eq_1];simp
  ·intro i hi h ih
   have hi':i<b.length:=by omega
   rw[Qa c12_b0.eq_1];by_cases e:a[i]=b[i]
   ·simp[hi,hi',e] at ih |-
    intros;refine ⟨by omega,ih ?_⟩
    rw[QA3 hi,QA3 hi',h,e]
   ·have hne:a≠b:=fun c=>by grind
    simp[hi,hi',hne,e]
 ·have h':¬ (a.length:Int)=b.length:=by omega
  have:a≠b:=fun e=>h4 (by rw[e])
  simp[h',this]
omit hK
def Qqe:List Rod->Int
 | []=>1
 | r::l=>(r.wear+1)*Qqe l
def QwQ (p:ZD):Prop:=40<p.rods.length\/40<p.reads.length\/(OkU p/\((∃ x∈p.reads,3<x.whi-x.wlo)\/12<Qqe p.rods\/8<p.ghi-p.glo\/4<p.reads.length))
noncomputable instance (p:ZD):Decidable (QwQ p):=Classical.propDecidable _
def Qup (h:Qp):Prop:=QwR h.proof\/QwQ h.pull
noncomputable instance (h:Qp):Decidable (Qup h):=Classical.propDecidable _
def QAF (h:Qp) (s:List Txt):Prop:=Qup h\/45<s.length\/(∃ t∈s,90<t.length)\/(okH h/\∃ i,i<=s.length/\Qup (Ze h s i))
noncomputable instance (h:Qp) (s:List Txt):Decidable (QAF h s):=Classical.propDecidable _
def exU:ZD:=⟨12,9900,10200,[⟨1000,1,12⟩,⟨500,0,20⟩],[⟨1,0,10,0,2,0,0⟩,⟨2,0,10,30,2,0,0⟩],0⟩
def exH:Qp:=⟨exP,exU⟩
def Qfl:Qx:=⟨exC.deeds,[⟨7,0,0,5,1⟩],0⟩
def Qim:Qj:={ exP with chain:=Qfl }
def VB:Qp:=⟨Qim,exU⟩
def exS:List Txt:=[[119,104,111,32,48],[115,101,101,32,55,32,48,32,48,32,53,32,49],[119,104,111,32,48],[119,101,108,100,32,48,32,48,32,53],[112,114,111,118,101,32,52,48,32,48,32,51],[115,116,114,101,116,99,104],[99,111,110,100,101,109,110,101,100]]
def exA:List Txt:=[[48,32,49],[121,101,115],[48],[119,104,97,116],[110,111],[50,54,32,51,52],[112,101,114,104,97,112,115]]
include hK
theorem Qrz:Ev.Good Tryz.prog K 39 [] (.tup [puV exU,.agg (reC ⟨1,1,20,0,1,20,20⟩)]):=by
 refine Qb hK Qso (by simp) ?_
 simp[exU]
theorem QrL:Ev.Good Tryz.prog K 20 [] (hoV exH):=by
 refine Qb hK Qss (by simp) ?_
 have g38:=Qrz hK;have g39:=Qry hK;simp;refine cK (by simpa using g38) ?_
 simp;refine cK (by simpa using g39) ?_
 simp[exH]
omit hK
theorem QbH:OkU exU:=by decide
theorem qk:okH exH:=⟨QbI,QbH⟩
theorem Qdg:OkC Qfl:=by
 refine ⟨by decide,by decide,by decide,QbJ.deeds,fun s hs=>?_⟩
 simp[Qfl] at hs;subst hs;decide
theorem Qdf:OkP Qim:=⟨Qdg,Qg7,QbI.need,QbI.rule,QbI.many,QbI.trials⟩
theorem Qg8:okH VB:=⟨Qdf,QbH⟩
theorem qj:span ((QdJ exU).map QgM)=(26,34):=by
 rw[<- Qcr];decide +kernel
theorem QuN:uE exU true=0:=by
 unfold uE;rw[if_pos QbH,if_pos rfl,if_neg];intro h;have:=qj;rw[h] at this
 revert this
 decide
theorem p1:Z2 [119,104,111,32,48]=some (.who,[0]):=by decide +kernel
theorem p2:Z2 [115,101,101,32,55,32,48,32,48,32,53,32,49]=some (.see,[7,0,0,5,1]):=by decide +kernel
theorem p4:Z2 [119,101,108,100,32,48,32,48,32,53]=none:=by decide +kernel
theorem p5:Z2 [112,114,111,118,101,32,52,48,32,48,32,51]=some (.prove,[40,0,3]):=by decide +kernel
theorem p6:Z2 [115,116,114,101,116,99,104]=some (.stretch,[]):=by decide +kernel
theorem p7:Z2 [99,111,110,100,101,109,110,101,100]=some (.condemned,[]):=by decide +kernel
theorem QlB:Qiw exC 0=[0,1]/\VK exC (plB exC 0)=0:=by
 have e:(QM exC).map (Qiv exC 0)=[1,0]:=by decide
 have hb:plB exC 0=true:=by decide
 have ha:VK exC (plB exC 0)=0:=by
  unfold VK;rw[if_pos QbJ,if_pos hb];decide
 refine ⟨?_,ha⟩;unfold Qiw;rw[if_pos ha,e]
 exact Qh2 (WW _) (by decide) fun x=>by
  rw[Uu]
  grind
theorem Qg6:Qiw Qfl 0=[0]/\VK Qfl (plB Qfl 0)=0:=by
 have e:(QM Qfl).map (Qiv Qfl 0)=[0]:=by decide
 have hb:plB Qfl 0=true:=by decide
 have ha:VK Qfl (plB Qfl 0)=0:=by
  unfold VK;rw[if_pos Qdg,if_pos hb];decide
 refine ⟨?_,ha⟩;unfold Qiw;rw[if_pos ha,e];exact Qh2 (WW _) (by decide) fun x=>by rw[Uu]
def QwU:List ZB:=[⟨[0,0,0,0,1,1,0],⟨[10,5],1⟩⟩,⟨[0,0,0,0,1,1,0],⟨[11,5],1⟩⟩]
theorem Qg9:Xj Qim=QwU:=by
 unfold Xj;rw[show Qim.chain=Qfl from rfl,show Qim.machine=exM from rfl,Qqm Qdg,Qcw]
 decide
theorem QlC:kL Qim true=QwU/\kE Qim true=0:=by
 unfold kL kE;rw[if_pos ⟨Qdf,rfl⟩,if_pos Qdf,if_pos rfl,Qg9];exact ⟨rfl,by decide⟩
theorem Qjr:Qbq (rCond Qim) (kE Qim true)=[112,101,114,104,97,112,115]:=by
 unfold rCond;rw[QlC.1,QlC.2];decide
theorem QnD:QzH exU:=by
 refine ⟨by decide,by decide,fun _=>?_⟩
 have h1:(WH exU).length=301:=by decide +kernel
 have h2:(WD exU.rods).length=2:=by decide
 have key:∀ l l':List Int,(l.flatMap fun b=>l'.flatMap fun a=>(WD exU.rods).map fun w=>(⟨b,a,w⟩:TrU)).length<=l.length*(l'.length*2):=fun l l'=>by
  refine Zq _ _ l fun b _=>Zq _ _ l' fun a _=>?_
  grind
 have:=key (WH exU) (WH exU);rw[h1] at this;unfold Qto;omega
theorem QnE:QzI exH:=⟨QrW 1 (by decide),QnD⟩
theorem QlD (h:okH (QeJ VB ⟨40,0,3⟩)):False:=by
 have h1:=h.1.trials 2 (by decide) (by decide)
 revert h1
 decide
theorem s0:Ze exH exS 0=exH:=rfl
theorem lv1:QY exH [119,104,111,32,48]=([48,32,49],exH):=by
 unfold QY;rw[p1];simp only;rw[VE rfl];unfold QlJ;rw[show exH.proof.chain=exC from rfl,show nI [0] 0=0 from rfl,QlB.1,QlB.2]
 show (Xb [0,1] 0,exH)=_
 rw[show Xb [0,1] 0=[48,32,49] by decide +kernel]
theorem lv2:QY exH [115,101,101,32,55,32,48,32,48,32,53,32,49]=([121,101,115],VB):=by
 unfold QY;rw[p2];simp only;rw[Y5 (h':=VB) rfl rfl];unfold chT chH;rw[if_pos Qg8,if_pos Qg8];rfl
theorem lv3:QY VB [119,104,111,32,48]=([48],VB):=by
 unfold QY;rw[p1];simp only;rw[VE rfl];unfold QlJ;rw[show VB.proof.chain=Qfl from rfl,show nI [0] 0=0 from rfl,Qg6.1,Qg6.2]
 show (Xb [0] 0,VB)=_
 rw[show Xb [0] 0=[48] by decide +kernel]
theorem lv4:QY VB [119,101,108,100,32,48,32,48,32,53]=([119,104,97,116],VB):=by
 unfold QY;rw[p4];rfl
theorem lv5:QY VB [112,114,111,118,101,32,52,48,32,48,32,51]=([110,111],VB):=by
 unfold QY;rw[p5];simp only;rw[Y5 (h':=QeJ VB ⟨40,0,3⟩) rfl rfl];unfold chT chH;rw[if_neg QlD,if_neg QlD];rfl
theorem lv6:QY VB [115,116,114,101,116,99,104]=([50,54,32,51,52],VB):=by
 unfold QY;rw[p6];simp only;rw[VE rfl];unfold QlJ;have hu:uL exU true=QdJ exU:=by simp[uL,QbH]
 rw[show VB.pull=exU from rfl,QuN,hu,qj]
 show (Xb [26,34] 0,VB)=_
 rw[show Xb [26,34] 0=[50,54,32,51,52] by decide +kernel]
theorem lv7:QY VB [99,111,110,100,101,109,110,101,100]=([112,101,114,104,97,112,115],VB):=by
 unfold QY;rw[p7];simp only;rw[VE rfl];unfold QlJ;rw[show VB.proof=Qim from rfl,Qjr]
theorem st (i:Nat) (h:i<=7):Ze exH exS i=if i<=1 then exH else VB:=by
 have e1:Ze exH exS 1=exH:=by rw[QP exH exS 0 (by decide)];exact congrArg Prod.snd lv1
 have e2:Ze exH exS 2=VB:=by rw[QP exH exS 1 (by decide),e1];exact congrArg Prod.snd lv2
 have e3:Ze exH exS 3=VB:=by rw[QP exH exS 2 (by decide),e2];exact congrArg Prod.snd lv3
 have e4:Ze exH exS 4=VB:=by rw[QP exH exS 3 (by decide),e3];exact congrArg Prod.snd lv4
 have e5:Ze exH exS 5=VB:=by rw[QP exH exS 4 (by decide),e4];exact congrArg Prod.snd lv5
 have e6:Ze exH exS 6=VB:=by rw[QP exH exS 5 (by decide),e5];exact congrArg Prod.snd lv6
 have e7:Ze exH exS 7=VB:=by rw[QP exH exS 6 (by decide),e6];exact congrArg Prod.snd lv7
 have:i=0\/i=1\/i=2\/i=3\/i=4\/i=5\/i=6\/i=7:=by omega
 rcases this with rfl | rfl | rfl | rfl | rfl | rfl | rfl | rfl
 ·rfl
 all_goals grind
def exW:List Txt:=[[119,104,111,32,48],[116,117,114,110]]
theorem pW:Z2 [116,117,114,110]=some (.turn,[]):=by decide +kernel
theorem QmY:Ev.Good Tryz.prog KW 19 [hoV exH,strs exW] (.tup [strs (QpS exH exW),hoV (QeZ exH exW),.int .i64 (QpR exH exW)]) :=
 QmX exH exW (Jm qk) (by decide) fun _ _ i hi=>by
  match i,hi with
  | 0,_ =>
    refine Qef _ _ (fun v l hp _=>?_) (by simp[exW])
    have hp:Z2 [119,104,111,32,48]=some (v,l):=hp;rw[p1] at hp;injection hp with hp
    injection hp with h1 h2
    subst h1 h2;rw[VE rfl];exact QmH exH 0 qk QnE
  | 1,_ =>
    refine Qef _ _ (fun v l hp _=>?_) (by simp[exW])
    have hp:Z2 [116,117,114,110]=some (v,l):=hp;rw[pW] at hp;injection hp with hp
    injection hp with h1 h2
    subst h1 h2
    have e:Ze exH exW 1=exH:=by
     rw[QP exH exW 0 (by decide)]
     show (QY exH [119,104,111,32,48]).2=_
     unfold QY;rw[p1];simp only;rw[VE rfl]
    rw[e,Y5 (h':=QC exH ⟨3,0,0,0,0⟩) rfl rfl];exact QmI hKW exH (Jm qk) (QeW qk (by simp[QC]) (by simp[QC]) (by simp[QC]) (by simp[QC]) (by simp[QC]) (by simp[QC]) (by simp[QC]))
end Go.Pf
set_option maxRecDepth 8000
namespace Go.Bk
open Go Go.Ev Go.RowKit
attribute [simp] Vq
abbrev W:=List UInt8
@[simp] def ZF (l:List Int):IV:=.sl 1 (l.map fun n=>[.int .i64 n])
@[simp] def strs (l:List W):IV:=.sl 1 (l.map fun s=>[.str s])
def tx (s:W):Bool:=s.all (fun c=>decide (32<=c.toNat)&&decide (c.toNat<=126))&&decide (s.length<=60)
def two (n:Nat):W:=[UInt8.ofNat (48+n / 10),UInt8.ofNat (48+n % 10)]
def v1 (c:UInt8):Int:=(c.toNat:Int)-32
def S1:W->Int
 | []=>0
 | c::s=>v1 c+S1 s
def S2:Nat->W->Int
 | _,[]=>0
 | k,c::s=>v1 c*(k:Int)+S2 (k+1) s
def Qt (s:W):W:=s++two (S1 s % 97).toNat++two (S2 1 s % 97).toNat
def Qmz (c:UInt8):Bool:=decide (48<=c.toNat)&&decide (c.toNat<=57)
def dg:W->Int
 | [a,b]=>if Qmz a&&Qmz b then 10*((a.toNat:Int)-48)+((b.toNat:Int)-48) else -1
 | _ => -1
def numOf (r:W):Int × W × Bool :=
 if decide (r.length<2)||!tx (r.drop 2) then (0,[],false) else (dg (r.take 2),r.drop 2,decide (0<=dg (r.take 2))&&decide (dg (r.take 2)<40))
def Yk (r:W):Int × Bool :=
 if decide (r.length≠4)||decide (r.take 2≠[46,46]) then (0,false) else (dg (r.drop 2),decide (0<=dg (r.drop 2))&&decide (dg (r.drop 2)<=40))
def Z4 (r:W):Bool:=(numOf r).2.2||(Yk r).2
def Zd:W->W->Nat
 | a::r,b::s=>(if a=b then 0 else 1)+Zd r s
 | _,_=>0
def fits (l r:W):Bool:=Z4 r&&decide (l.length=r.length+4)&&decide (Zd l (Qt r)<=1)
def QfF (want:Int) (r:W) (i:Nat):Int:=((want-(S1 (r.take i++[32]++r.drop (i+1))).tmod 97).tmod 97+97).tmod 97
def fix (want:Int) (r:W) (i:Nat):W:=r.take i++[UInt8.ofNat (32+QfF want r i).toNat]++r.drop (i+1)
def Xs (l:W):Option W :=
 if l.length<6 then none else
 let r:=l.take (l.length-4)
 if fits l r then some r else
 let want:=dg ((l.drop (l.length-4)).take 2)
 if want<0 then none else
 ((List.range r.length).find? fun i=>fits l (fix want r i)).map fun i=>fix want r i
theorem Qcj (c:UInt8):c.toNat<256:=c.toNat_lt
theorem qC (c:UInt8) : -32<=v1 c/\v1 c<=223:=by have:=Qcj c;unfold v1;omega
theorem QkR (s:W) : -32*(s.length:Int)<=S1 s/\S1 s<=223*(s.length:Int):=by
 induction s with
 | nil=>simp[S1]
 | cons c s ih=>have:=qC c;simp only[S1,QBj];omega
theorem WA (s t:W):S1 (s++t)=S1 s+S1 t:=by
 induction s with
 | nil=>simp[S1]
 | cons c s ih=>simp only[QBA,S1,ih];omega
theorem Qb5 (s t:W) (k:Nat):S2 k (s++t)=S2 k s+S2 (k+s.length) t:=by
 induction s generalizing k with
 | nil=>simp[S2]
 | cons c s ih=>simp only[QBA,S2,ih,QBj];rw[show k+1+s.length=k+(s.length+1) by omega];omega
theorem QkQ (s:W) (k:Nat) (hk:k+s.length<=200001) : -7000000*(s.length:Int)<=S2 k s/\S2 k s<=50000000*(s.length:Int):=by
 induction s generalizing k with
 | nil=>simp[S2]
 | cons c s ih =>
   simp only[QBj] at hk;have h1:=ih (k+1) (by omega)
   obtain ⟨h2,h3⟩:=qC c;simp only[S2,QBj];have e1:v1 c*(k:Int)<=223*(k:Int):=QBZ h3 (by omega)
   have e2 : -32*(k:Int)<=v1 c*(k:Int):=QBZ h2 (by omega)
   omega
theorem QdF {n:Int} (h : -2147483648<=n) (h':n<=2147483647):IntKind.wrap .i32 n=n:=by
 unfold IntKind.wrap;simp[IntKind.bits,IntKind.signed];omega
theorem QkX (a b:UInt8):((a.toNat:Int)=b.toNat)=(a=b):=by
 apply propext;constructor
 ·intro h
  exact UInt8.toNat_inj.1 (by omega)
 ·intro h
  rw[h]
theorem QnM (s:W) (i:Nat) (h:i<s.length) (hc:s[i].toNat<128):Qin s i=(s[i].toNat,1):=by
 unfold Qin Utf8.decode;have e:(ByteArray.get! ⟨s.toArray⟩ (i+0)).toNat=s[i].toNat:=by simp[ByteArray.get!,h]
 simp only[e];rw[if_pos (by omega)]
theorem QnN (s:W) (i:Nat) (h:i<s.length) (hc:128<=s[i].toNat):128<=(Qin s i).1:=by
 unfold Qin Utf8.decode;have e:(ByteArray.get! ⟨s.toArray⟩ (i+0)).toNat=s[i].toNat:=by simp[ByteArray.get!,h]
 simp only[e];rw[if_neg (by omega)]
 repeat' split
 all_goals first
  | (simp only[Utf8.runeError];omega)
  | (simp at *;omega)
@[simp] theorem QzL (c:UInt8):IntKind.i64.wrap (c.toNat:Int)=c.toNat:=by have:=Qcj c;exact wrap_i64 (by omega) (by omega)
@[simp] theorem Qtu (c:UInt8):IntKind.i64.wrap ((c.toNat:Int)-48)=c.toNat-48:=by have:=Qcj c;exact wrap_i64 (by omega) (by omega)
theorem Qaz {α:Type} {p:α->Bool} {l:List α} {i:Nat} (hi:i<l.length) (h:(l.take i).all p=true) (h':p l[i]=true):(l.take (i+1)).all p=true:=by
 rw[QA3 hi,List.all_append,h];simp[h']
theorem Vm {α:Type} {p:α->Bool} {l:List α} {i:Nat} (hi:i<l.length) (h':p l[i]=false):l.all p=false:=by
 cases h:l.all p with
 | false=>rfl
 | true =>
   rw[QBs] at h;rw[h _ (QBc hi)] at h';cases h'
theorem QsG (s:W) (i:Nat) (hi:i<s.length):S1 (s.take (i+1))=S1 (s.take i)+v1 s[i]/\S2 1 (s.take (i+1))=S2 1 (s.take i)+v1 s[i]*((i:Int)+1):=by
 rw[QA3 hi,WA,Qb5];have:(s.take i).length=i:=by simp;omega
 simp only[S1,S2,this];rw[show ((1+i:Nat):Int)=(i:Int)+1 by omega]
 omega
theorem QbT:∀ (a b:W) (i:Nat) (h:i<a.length) (h':i<b.length),Zd (a.take (i+1)) b=Zd (a.take i) b+if a[i]=b[i] then 0 else 1
 | [],_,i,h,_=>by simp at h
 | x::a,[],i,_,h'=>by simp at h'
 | x::a,y::b,0,_,_=>by simp[Zd]
 | x::a,y::b,i+1,h,h'=>by
   have:=QbT a b i (by simpa using h) (by simpa using h')
   simp only[List.take_succ_cons,Zd,this,List.getElem_cons_succ];omega
theorem QnL (a b:W):Zd a b<=a.length:=by
 induction a generalizing b with
 | nil=>simp[Zd]
 | cons x a ih =>
   cases b with
   | nil=>simp[Zd]
   | cons y b=>have:=ih b;simp only[Zd,QBj];split<;>omega
theorem Qqg {s:W} (h:tx s=true):∀ c∈s,32<=c.toNat/\c.toNat<=126:=by
 intro c hc;simp only[tx,QA1,QBs,decide_eq_true_eq] at h;exact h.1 c hc
def plain (s:W):Prop:=∀ c∈s,32<=c.toNat/\c.toNat<=126
theorem Qif {s:W} (h:plain s):0<=S1 s:=by
 induction s with
 | nil=>simp[S1]
 | cons c s ih =>
   have:=ih (fun c hc=>h c (QBO _ hc))
   have:=h c (by simp)
   simp only[S1,v1];omega
theorem QsH {s:W} (h:plain s) (k:Nat):0<=S2 k s:=by
 induction s generalizing k with
 | nil=>simp[S2]
 | cons c s ih =>
   have:=ih (fun c hc=>h c (QBO _ hc)) (k+1)
   have:=h c (by simp)
   have hv:0<=v1 c:=by simp only[v1];omega
   have:=Int.mul_nonneg hv (show (0:Int)<=k by omega)
   simp only[S2];omega
theorem Qeu {s:W} (h:0<=dg s):plain s:=by
 match s with
 | []=>simp[dg] at h
 | [a]=>simp[dg] at h
 | [a,b] =>
   simp only[dg] at h;split at h
   ·rename_i hd
    simp only[Qmz,QA1,decide_eq_true_eq] at hd;intro c hc;simp at hc;rcases hc with rfl | rfl<;>omega
   ·omega
 | a::b::c::s=>simp[dg] at h
theorem XL {r:W} (h:Z4 r=true):plain r/\r.length<=62/\2<=r.length:=by
 simp only[Z4,QB0] at h;rcases h with h | h
 ·unfold numOf at h
  split at h
  ·simp at h
  ·rename_i hc
   simp only[QB0,decide_eq_true_eq,QBq,not_or,Bool.not_eq_false] at hc;simp only[QA1,decide_eq_true_eq] at h;have h1:=Qeu h.1;have h2:=Qqg hc.2
   have h3:(r.drop 2).length<=60:=by
    have:=hc.2;simp only[tx,QA1,decide_eq_true_eq] at this;exact this.2
   simp at h3;refine ⟨fun c hc=>?_,by omega,by omega⟩
   rw[<- QCm 2 r] at hc;rcases QA7.1 hc with hc | hc
   ·exact h1 c hc
   ·exact h2 c hc
 ·unfold Yk at h
  split at h
  ·simp at h
  ·rename_i hc
   simp only[QB0,decide_eq_true_eq,not_or,ne_eq,Decidable.not_not] at hc;simp only[QA1,decide_eq_true_eq] at h;have h1:=Qeu h.1;refine ⟨fun c hc'=>?_,by omega,by omega⟩
   rw[<- QCm 2 r,hc.2] at hc';rcases QA7.1 hc' with hc' | hc'
   ·simp at hc';subst hc';decide
   ·exact h1 c hc'
theorem Za (r:W):(Qt r).length=r.length+4:=by simp[Qt,two]
end Go.Bk
set_option maxRecDepth 8000
namespace Go.Bk
open Go Go.Ev Go.Proofs Go.RowKit
variable {K:World->Prop} (hK:∀ w w',K w->Below w.heap.size w w'->K w')
open Go.Pf (c116_ok c117_ok c17_ok c25_ok c43_ok c44_ok)
include hK
theorem Vx (s:W) (h:s.length=2):Ev.Good Tryz.prog K 117 [.str s] (.int .i64 (dg s)):=by
 refine Qb hK c117_ok (by simp) ?_
 match s,h with
 | [a,b],_ =>
   have ha:=Qcj a;have hb:=Qcj b;simp[dg,Qmz];omega
theorem QrM (s:W) (hs:s.length<=1000000):Ev.Good Tryz.prog K 17 [.str s] (.bool (tx s)):=by
 refine Qb hK c17_ok (by simp) ?_
 simp;refine QV (fun i=>[(0,AV.iv (IV.str s)),(3,AV.iv (IV.int IntKind.i64 (i:Nat)))]) (fun _=>[]) s.length (fun i=>(s.take i).all (fun c=>decide (32<=c.toNat)&&decide (c.toNat<=126))=true) (by simp) ?_ ?_
 ·intro h
  rw[Qa Go.Pf.c17_b0.eq_1];rw[QBo] at h;simp[tx,h];omega
 ·intro i hi h ih
  have hc:=Qcj s[i];rw[Qa Go.Pf.c17_b0.eq_1];by_cases h1:32<=s[i].toNat
  ·by_cases h2:s[i].toNat<=126
   ·have:=ih (Qaz hi h (by simp[h1,h2]))
    simp[hi] at this |-
    repeat' (first | omega | assumption | intro _ | apply And.intro)
   ·have e:=Vm (p:=fun c:UInt8=>decide (32<=c.toNat)&&decide (c.toNat<=126)) hi (by simp[h2])
    simp[hi,tx,e]
    repeat' (first | omega | assumption | intro _ | apply And.intro)
  ·have e:=Vm (p:=fun c:UInt8=>decide (32<=c.toNat)&&decide (c.toNat<=126)) hi (by simp[h1])
   simp[hi,tx,e]
   repeat' (first | omega | assumption | intro _ | apply And.intro)
theorem Qlx (s:W) (hs:s.length<=1000000):Ev.Good Tryz.prog K 25 [.str s] (.bool (tx s)):=by
 refine Qb hK c25_ok (by simp) ?_
 simp;refine QV (fun i=>[(0,AV.iv (IV.str s)),(6,AV.oref 6)]) (fun i=>[(6,AO.siter s i)]) s.length (fun i=>(s.take i).all (fun c=>decide (32<=c.toNat)&&decide (c.toNat<=126))=true) (by simp) ?_ ?_
 ·intro h
  rw[Qa Go.Pf.c25_b0.eq_1];rw[QBo] at h;simp[tx,h];omega
 ·intro i hi h ih
  have hc:=Qcj s[i];rw[Qa Go.Pf.c25_b0.eq_1];by_cases h0:s[i].toNat<128
  ·have hd:=QnM s i hi h0
   by_cases h1:32<=s[i].toNat
   ·by_cases h2:s[i].toNat<=126
    ·have:=ih (Qaz hi h (by simp[h1,h2]))
     simp[hi,hd] at this |-
     repeat' (first | omega | assumption | intro _ | apply And.intro)
    ·have e:=Vm (p:=fun c:UInt8=>decide (32<=c.toNat)&&decide (c.toNat<=126)) hi (by simp[h2])
     simp[hi,hd,tx,e]
     repeat' (first | omega | assumption | intro _ | apply And.intro)
   ·have e:=Vm (p:=fun c:UInt8=>decide (32<=c.toNat)&&decide (c.toNat<=126)) hi (by simp[h1])
    simp[hi,hd,tx,e]
    repeat' (first | omega | assumption | intro _ | apply And.intro)
  ·have hd:=QnN s i hi (by omega)
   have e:=Vm (p:=fun c:UInt8=>decide (32<=c.toNat)&&decide (c.toNat<=126)) hi (by simp;omega)
   simp[hi,tx,e]
   repeat' (first | omega | assumption | intro _ | apply And.intro)
theorem Qlu (s:W) (hs:s.length<=100000):Ev.Good Tryz.prog K 43 [.str s] (.tup [.int .i64 ((S1 s).tmod 97),.int .i64 ((S2 1 s).tmod 97)]):=by
 refine Qb hK c43_ok (by simp) ?_
 simp;refine QX (fun i=>[(0,AV.iv (IV.str s)),(2,AV.iv (IV.int IntKind.i64 (S1 (s.take i)))),(3,AV.iv (IV.int IntKind.i64 (S2 1 (s.take i)))),(7,AV.iv (IV.int IntKind.i64 (s.length:Nat))),(8,AV.iv (IV.int IntKind.i64 (i:Nat)))]) (fun _=>[]) s.length ?_ ?_
 ·rw[Qa Go.Pf.c43_b0.eq_1]
  simp
 ·intro i hi ih
  obtain ⟨e1,e2⟩:=QsG s i hi;have r1:=QkR (s.take (i+1));have r2:=QkQ (s.take (i+1)) 1 (by simp;omega)
  have q1:((s.take (i+1)).length:Int)<=100000:=by simp;omega
  obtain ⟨r3,r4⟩:=qC s[i];have q2:v1 s[i]*((i:Int)+1)<=223*((i:Int)+1):=QBZ r4 (by omega)
  have q3 : -32*((i:Int)+1)<=v1 s[i]*((i:Int)+1):=QBZ r3 (by omega)
  rw[Qa Go.Pf.c43_b0.eq_1];rw[e1,e2] at ih;rw[e1] at r1;rw[e2] at r2;have ev:((s[i].toNat:Int)-32)=v1 s[i]:=rfl;simp[hi,ev] at ih |-
  repeat' (first | omega | assumption | intro _ | apply And.intro)
theorem Qeg (n:Nat) (hn:n<100):Ev.Good Tryz.prog K 44 [.int .i64 (n:Nat)] (.str (two n)):=by
 refine Qb hK c44_ok (by simp) ?_
 have h1:((n:Int)).tdiv 10=(n:Int) / 10:=Int.tdiv_eq_ediv_of_nonneg (by omega)
 have h2:((n:Int)).tmod 10=(n:Int) % 10:=QBH (by omega)
 have w1:IntKind.i32.wrap (48+(n:Int) / 10)=48+(n:Int) / 10:=QdF (by omega) (by omega)
 have w2:IntKind.i32.wrap (48+(n:Int) % 10)=48+(n:Int) % 10:=QdF (by omega) (by omega)
 have t1:(48+(n:Int) / 10).toNat=48+n / 10:=by omega
 have t2:(48+(n:Int) % 10).toNat=48+n % 10:=by omega
 simp[h1,h2,two,ZA,Vi,w1,w2,t1,t2];omega
theorem QgX (a b:W) (h:a.length<=b.length) (hb:b.length<=1000000):Ev.Good Tryz.prog K 116 [.str a,.str b] (.int .i64 (Zd a b:Nat)):=by
 refine Qb hK c116_ok (by simp) ?_
 simp;refine QX (fun i=>[(0,AV.iv (IV.str a)),(1,AV.iv (IV.str b)),(5,AV.iv (IV.int IntKind.i64 (Zd (a.take i) b:Nat))),(8,AV.iv (IV.int IntKind.i64 (a.length:Nat))),(9,AV.iv (IV.int IntKind.i64 (i:Nat)))]) (fun _=>[]) a.length ?_ ?_
 ·rw[Qa Go.Pf.c116_b0.eq_1]
  simp
 ·intro i hi ih
  have hi':i<b.length:=by omega
  have e:=QbT a b i hi hi';have l:=QnL (a.take i) b;rw[QBT] at l;rw[Qa Go.Pf.c116_b0.eq_1];have hne:=QkX a[i] b[i];by_cases hc:a[i]=b[i]
  ·rw[if_pos hc] at e
   rw[e] at ih;simp[hi,hi',hne,hc] at ih |-
   repeat' (first | omega | assumption | intro _ | apply And.intro)
  ·rw[if_neg hc] at e
   rw[e] at ih;simp[hi,hi',hne,hc] at ih |-
   repeat' (first | omega | assumption | intro _ | apply And.intro)
end Go.Bk
set_option maxRecDepth 8000
namespace Go.Bk
open Go Go.Ev Go.Proofs Go.RowKit
variable {K:World->Prop} (hK:∀ w w',K w->Below w.heap.size w w'->K w')
open Go.Pf (c115_ok c26_ok c42_ok)
theorem JQ {a:UInt8} (h:Qmz a=true):48<=a.toNat/\a.toNat<=57:=by simpa[Qmz] using h
theorem QkY {s:W} (h:0<=dg s):two (dg s).toNat=s:=by
 match s with
 | []=>simp[dg] at h
 | [a]=>simp[dg] at h
 | [a,b] =>
   simp only[dg] at h |-;split at h
   ·rename_i hd
    simp only[QA1] at hd;obtain ⟨h1,h2⟩:=JQ hd.1;obtain ⟨h3,h4⟩:=JQ hd.2;rw[if_pos (by simp[hd])]
    have e:(10*((a.toNat:Int)-48)+((b.toNat:Int)-48)).toNat=10*(a.toNat-48)+(b.toNat-48):=by omega
    rw[e];have e1:48+(10*(a.toNat-48)+(b.toNat-48)) / 10=a.toNat:=by omega
    have e2:48+(10*(a.toNat-48)+(b.toNat-48)) % 10=b.toNat:=by omega
    simp only[two,e1,e2,UInt8.ofNat_toNat]
   ·omega
 | a::b::c::s=>simp[dg] at h
theorem QuR (s:W):dg s<100 /\ -1<=dg s:=by
 match s with
 | []=>simp[dg]
 | [a]=>simp[dg]
 | [a,b] =>
   simp only[dg];split
   ·rename_i hd
    simp only[QA1] at hd;obtain ⟨h1,h2⟩:=JQ hd.1;obtain ⟨h3,h4⟩:=JQ hd.2;omega
   ·omega
 | a::b::c::s=>simp[dg]
theorem Wm {n:Nat} (h:n<100):dg (two n)=n:=by
 have e1:(UInt8.ofNat (48+n / 10)).toNat=48+n / 10:=by simp only[UInt8.toNat_ofNat'];omega
 have e2:(UInt8.ofNat (48+n % 10)).toNat=48+n % 10:=by simp only[UInt8.toNat_ofNat'];omega
 simp only[two,dg,Qmz,e1,e2];rw[if_pos (by simp;omega)]
 omega
def Qf (s:W):(Int × W × Bool) × Bool :=
 if s.length<2 then ((0,[],false),false)
 else if s.take 2=[46,46] then
  (if s.length=4 then ((dg (s.drop 2),[],true),decide (0<=dg (s.drop 2))&&decide (dg (s.drop 2)<=40)) else ((0,[],false),false))
 else ((dg (s.take 2),s.drop 2,false),decide (0<=dg (s.take 2))&&decide (dg (s.take 2)<40)&&tx (s.drop 2))
def XY (n:Nat) (t:W) (c:Bool):W:=if c then [46,46]++two n else two n++t
@[simp] def QqP (p:Int × W × Bool):IV:=.agg [.int .i64 p.1,.str p.2.1,.bool p.2.2]
theorem X4 {s:W} (hp:s.take 2=[46,46]) (h4:s.length=4):Qf s=((dg (s.drop 2),[],true),decide (0<=dg (s.drop 2))&&decide (dg (s.drop 2)<=40)):=by
 unfold Qf;rw[if_neg (by omega),if_pos hp,if_pos h4]
theorem Yz {s:W} (h2:¬ s.length<2) (hp:s.take 2=[46,46]) (h4:s.length≠4):Qf s=((0,[],false),false):=by
 unfold Qf;rw[if_neg h2,if_pos hp,if_neg h4]
theorem YZ {s:W} (h2:¬ s.length<2) (hp:s.take 2≠[46,46]):Qf s=((dg (s.take 2),s.drop 2,false),decide (0<=dg (s.take 2))&&decide (dg (s.take 2)<40)&&tx (s.drop 2)):=by
 unfold Qf;rw[if_neg h2,if_neg hp]
theorem Jq {s:W} (h2:s.length<2):Qf s=((0,[],false),false):=by
 unfold Qf;rw[if_pos h2]
theorem Yy (s:W):(Qf s).2=Z4 s:=by
 unfold Z4;by_cases h2:s.length<2
 ·have h4:s.length≠4:=by omega
  rw[Jq h2];simp[numOf,Yk,h2,h4]
 ·by_cases hp:s.take 2=[46,46]
  ·have hd:dg (s.take 2) = -1:=by rw[hp];decide
   have hn:(numOf s).2.2=false:=by
    unfold numOf;split
    ·rfl
    ·simp only[hd];decide
   by_cases h4:s.length=4
   ·rw[X4 hp h4,hn]
    simp[Yk,h4,hp]
   ·rw[Yz h2 hp h4,hn]
    simp[Yk,h4]
  ·rw[YZ h2 hp]
   have hm:(Yk s).2=false:=by simp[Yk,hp]
   rw[hm];by_cases hx:tx (s.drop 2)=true
   ·simp[numOf,hx,h2]
   ·simp[numOf,hx]
theorem Qba {s:W} (h:Z4 s=true):0<=(Qf s).1.1/\(Qf s).1.1<=40/\XY (Qf s).1.1.toNat (Qf s).1.2.1 (Qf s).1.2.2=s:=by
 rw[<- Yy] at h;by_cases h2:s.length<2
 ·rw[Jq h2] at h;cases h
 ·by_cases hp:s.take 2=[46,46]
  ·by_cases h4:s.length=4
   ·rw[X4 hp h4] at h |-
    simp only[QA1,decide_eq_true_eq] at h;refine ⟨h.1,h.2,?_⟩;simp only[XY,if_true,QkY h.1];rw[<- hp,QCm]
   ·rw[Yz h2 hp h4] at h;cases h
  ·rw[YZ h2 hp] at h |-
   simp only[QA1,decide_eq_true_eq] at h;refine ⟨h.1.1,by have:=h.1.2;simp only;omega,?_⟩
   simp only[XY,QBi,if_false,QkY h.1.1,QCm]
theorem QcB {l:W} (h:l.length<6):Xs l=none:=by unfold Xs;rw[if_pos h]
theorem Vk {l r:W} (h:¬ l.length<6) (hr:l.take (l.length-4)=r) (hf:fits l r=true):Xs l=some r:=by
 subst hr;unfold Xs;rw[if_neg h];simp only[hf,if_true]
theorem W2 {l r:W} (h:¬ l.length<6) (hr:l.take (l.length-4)=r) (hf:fits l r=false) (hd:dg ((l.drop (l.length-4)).take 2)<0):Xs l=none:=by
 subst hr;unfold Xs;rw[if_neg h];simp only[hf,QBi,if_false,hd,if_true]
theorem XM {l r:W} {want:Int} (h:¬ l.length<6) (hr:l.take (l.length-4)=r) (hf:fits l r=false) (hw:dg ((l.drop (l.length-4)).take 2)=want) (hd:¬ want<0) :
  Xs l=((List.range r.length).find? fun i=>fits l (fix want r i)).map fun i=>fix want r i:=by
 subst hr hw;unfold Xs;rw[if_neg h];simp only[hf,QBi,if_false,hd]
theorem Qny {p:Nat->Bool} {n i:Nat} (hi:i<n) (h:∀ j,j<i->p j=false) (hp:p i=true):(List.range n).find? p=some i:=by
 rw[List.find?_range_eq_some];exact ⟨hp,QBF.2 hi,fun j hj=>by simp[h j hj]⟩
theorem Qaj {p:Nat->Bool} {n:Nat} (h:∀ j,j<n->p j=false):(List.range n).find? p=none:=by
 rw[List.find?_eq_none];intro x hx;rw[QBF] at hx;simp[h x hx]
theorem Qfj (want:Int) (r:W) (i:Nat):0<=QfF want r i/\QfF want r i<97:=by
 unfold QfF;generalize want-_=x;have h1:=QCl x (show (0:Int)<97 by omega)
 have h2 : -97<x.tmod 97:=by
  have:=QCl (-x) (show (0:Int)<97 by omega)
  rw[Int.neg_tmod] at this;omega
 rw[QBH (by omega)]
 omega
theorem Qg3 (want:Int) (r:W) (i:Nat) (h:i<r.length):(fix want r i).length=r.length:=by
 simp[fix];omega
include hK
theorem Qrw (n:Nat) (t:W) (c:Bool) (hn:n<100) (ht:t.length<=1000000):Ev.Good Tryz.prog K 42 [QqP ((n:Nat),t,c)] (.str (XY n t c)):=by
 refine Qb hK c42_ok (by simp) ?_
 have la:(two n).length=2:=rfl;cases c with
 | true =>
   simp;refine Qd (Qeg hK n hn) (by simp) ?_
   simp[la,XY]
 | false =>
   simp;refine Qd (Qeg hK n hn) (by simp) ?_
   simp[la,XY];omega
theorem QgQ (n:Nat) (t:W) (c:Bool) (hn:n<100) (h:plain (XY n t c)) (hl:(XY n t c).length<=1000) (ht:t.length<=1000):Ev.Good Tryz.prog K 26 [QqP ((n:Nat),t,c)] (.str (Qt (XY n t c))):=by
 refine Qb hK c26_ok (by simp) ?_
 have g58:=Qrw hK n t c hn (by omega)
 simp at g58 |-;refine Qd g58 (by simp) ?_
 generalize XY n t c=r at *;simp;refine Qd (Qlu hK r (by omega)) (by simp) ?_
 simp;have e1:(S1 r).tmod 97=((S1 r % 97).toNat:Nat):=by rw[QBH (Qif h)];omega
 have e2:(S2 1 r).tmod 97=((S2 1 r % 97).toNat:Nat):=by rw[QBH (QsH h 1)];omega
 rw[e1,e2];have el:Qt r=r++two (S1 r % 97).toNat++two (S2 1 r % 97).toNat:=rfl;rw[el];have h1:(S1 r % 97).toNat<100:=by omega
 have h2:(S2 1 r % 97).toNat<100:=by omega
 generalize (S1 r % 97).toNat=a at *;generalize (S2 1 r % 97).toNat=b at *;refine Qd (Qeg hK a h1) (by simp) ?_
 have la:(two a).length=2:=rfl;have lb:(two b).length=2:=rfl;simp[la];refine ⟨by omega,Qd (Qeg hK b h2) (by simp) ?_⟩
 simp[la,lb];omega
theorem QgY (s:W) (h:s.length<=1000000):Ev.Good Tryz.prog K 115 [.str s] (.tup [QqP (Qf s).1,.bool (Qf s).2]):=by
 refine Qb hK c115_ok (by simp) ?_
 by_cases h2:s.length<2
 ·have hi:((s.length:Int)<2):=by omega
  rw[Jq h2];simp[hi]
 ·have hi:¬ ((s.length:Int)<2):=by omega
  have hi':(2:Int)<=(s.length:Int):=by omega
  by_cases hp:s.take 2=[46,46]
  ·by_cases h4:s.length=4
   ·have hi4:((s.length-2:Nat):Int)=2:=by omega
    rw[X4 hp h4];simp[hi,hi',hp,hi4];refine Qd (Vx hK (s.drop 2) (by simp;omega)) (by simp) ?_
    by_cases hd:0<=dg (s.drop 2)<;>simp[hd]
   ·have hi4:¬ ((s.length-2:Nat):Int)=2:=by omega
    rw[Yz h2 hp h4];simp[hi,hi',hp,hi4]
  ·rw[YZ h2 hp]
   simp[hi,hi',hp];refine Qd (Vx hK (s.take 2) (by simp;omega)) (by simp) ?_
   by_cases hd:0<=dg (s.take 2)
   ·by_cases hd4:dg (s.take 2)<40
    ·simp[hd,hd4]
     refine Qd (Qlx hK (s.drop 2) (by simp;omega)) (by simp) ?_
     simp
    ·simp[hd,hd4]
   ·simp[hd]
end Go.Bk
set_option maxRecDepth 8000
namespace Go.Bk
open Go Go.Ev Go.Proofs Go.RowKit
variable {K:World->Prop} (hK:∀ w w',K w->Below w.heap.size w w'->K w')
open Go.Pf (c46_b0 c46_ok)
theorem JY:∀ (a b:W),Zd a b=Zd b a
 | [],b=>by cases b<;>rfl
 | x::a,[]=>rfl
 | x::a,y::b=>by
   simp only[Zd,JY a b];by_cases h:x=y
   ·simp[h]
   ·simp[h,Ne.symm h]
theorem XT (a:W):Zd a a=0:=by
 induction a with
 | nil=>rfl
 | cons x a ih=>simp[Zd,ih]
theorem Z5:∀ (a b c d:W),a.length=b.length->Zd (a++c) (b++d)=Zd a b+Zd c d
 | [],[],c,d,_=>by simp[Zd]
 | x::a,y::b,c,d,h=>by
   simp only[QBA,Zd,Z5 a b c d (by simpa using h)]
   omega
 | [],y::b,c,d,h=>by simp at h
 | x::a,[],c,d,h=>by simp at h
theorem Zm:∀ (a b:W),a.length=b.length->Zd a b=0->a=b
 | [],[],_,_=>rfl
 | x::a,y::b,h,hd=>by
   simp only[Zd] at hd
   have h1:x=y:=by
    by_cases h:x=y
    ·exact h
    ·simp[h] at hd
   have h2:=Zm a b (by simpa using h) (by omega)
   rw[h1,h2]
 | [],y::b,h,_=>by simp at h
 | x::a,[],h,_=>by simp at h
theorem Qkh (want:Int) (r:W) (i:Nat) (h:i<r.length):Zd r (fix want r i)<=1:=by
 have e:r=r.take i++([r[i]]++r.drop (i+1)):=by simp
 have e2:fix want r i=r.take i++([UInt8.ofNat (32+QfF want r i).toNat]++r.drop (i+1)):=by simp[fix]
 rw[e2]
 conv=>lhs;arg 1;rw[e]
 rw[Z5 _ _ _ _ rfl,XT,Z5 [r[i]] [UInt8.ofNat (32+QfF want r i).toNat] _ _ rfl,XT];simp only[Zd];split<;>omega
theorem Qep {l r:W} {want:Int} {i:Nat} (h4:4<=l.length) (hr:l.take (l.length-4)=r) (hf:fits l r=false) (hi:i<r.length) :
  fits l (fix want r i)=(Z4 (fix want r i)&&decide (Qt (fix want r i)=fix want r i++l.drop (l.length-4))):=by
 have hrl:r.length=l.length-4:=by rw[<- hr];simp
 have hfl:=Qg3 want r i hi;have hl:l=r++l.drop (l.length-4):=by rw[<- hr];simp
 have hdl:(l.drop (l.length-4)).length=4:=by simp;omega
 generalize hq:fix want r i=q at *;have hlo:Qt q=q++(two (S1 q % 97).toNat++two (S2 1 q % 97).toNat):=by simp[Qt]
 generalize hdd:two (S1 q % 97).toNat++two (S2 1 q % 97).toNat=dd at hlo;have hddl:dd.length=4:=by rw[<- hdd];rfl
 have hdf:=Qkh want r i hi;rw[hq] at hdf;by_cases hrow:Z4 q=true
 ·have hlen:l.length=q.length+4:=by omega
  unfold fits;simp only[hrow,hlen,decide_true,Bool.true_and];rw[hlo]
  have hd:Zd l (q++dd)=Zd r q+Zd (l.drop (l.length-4)) dd:=by
   conv=>lhs;rw[hl]
   exact Z5 _ _ _ _ (by omega)
  rw[<- hlen,hd];by_cases heq:dd=l.drop (l.length-4)
  ·rw[<- heq,XT]
   simp;exact hdf
  ·have hne:¬ (q++dd=q++l.drop (l.length-4)):=fun e=>heq (List.append_cancel_left e)
   have h1:Zd (l.drop (l.length-4)) dd≠0:=fun e=>heq (Zm _ _ (by omega) e).symm
   by_cases h2:Zd r q=0
   ·have hrq:=Zm _ _ hfl.symm h2
    rw[hrq] at hf;have:fits l q=decide (Zd l (Qt q)<=1):=by unfold fits;simp only[hrow,hlen,decide_true,Bool.true_and]
    rw[this,hlo,hd,h2,decide_eq_false_iff_not] at hf;simp[hne];omega
   ·simp[hne]
    omega
 ·have:Z4 q=false:=by simpa using hrow
  simp[fits,this]
theorem Uz {l r:W} (h6:¬ l.length<6) (hr:l.take (l.length-4)=r) (hf:fits l r=false) (hw:¬ dg ((l.drop (l.length-4)).take 2)<0) (hz:dg ((l.drop (l.length-4)).drop 2)<0):Xs l=none:=by
 rw[XM h6 hr hf rfl hw,Qaj]
 ·rfl
 ·intro j hj
  rw[Qep (by omega) hr hf hj]
  generalize fix _ r j=q;by_cases hrow:Z4 q=true
  ·rw[hrow,Bool.true_and,decide_eq_false_iff_not]
   intro he;have hlo:Qt q=q++(two (S1 q % 97).toNat++two (S2 1 q % 97).toNat):=by simp[Qt]
   rw[hlo] at he;have he2:=List.append_cancel_left he;rw[<- he2] at hz;have e1:(two (S1 q % 97).toNat++two (S2 1 q % 97).toNat).drop 2=two (S2 1 q % 97).toNat:=rfl;rw[e1,Wm (by omega)] at hz
   omega
  ·have:Z4 q=false:=by simpa using hrow
   rw[this,Bool.false_and]
def Zr (l:W):Int × W × Bool:=match Xs l with
 | some r=>(Qf r).1
 | none=>(0,[],false)
include hK
theorem Qaf (r:W) (hrow:Z4 r=true):Ev.Good Tryz.prog K 26 [QqP (Qf r).1] (.str (Qt r)):=by
 obtain ⟨q1,q2,q3⟩:=Qba hrow;obtain ⟨h1,h2,h3⟩:=XL hrow;generalize hP:(Qf r).1=P at *;obtain ⟨pn,pt,pc⟩:=P;simp only at q1 q2 q3;obtain ⟨m,rfl⟩:∃ m:Nat,pn=m:=⟨pn.toNat,by omega⟩
 rw[QBW] at q3
 have htl:pt.length<=1000:=by
  have:=congrArg List.length q3;unfold XY at this;split at this
  ·rename_i hc
   have:pt=[]:=by
    have hP':=hP;unfold Qf at hP'
    repeat' (split at hP')
    all_goals (injection hP' with x1 x2;injection x2 with x2 x3)
    ·exact x2.symm
    ·exact x2.symm
    ·exact x2.symm
    ·rw[<- x3] at hc;cases hc
   rw[this];simp
  ·simp at this
   omega
 have g41:=QgQ hK m pt pc (by omega) (by rw[q3];exact h1) (by rw[q3];omega) htl
 rw[q3] at g41;exact g41
def k62:List AI:=[.inBlock 0,.code (.seq (.ops [⟨some 109,none,.bld [.int .i64 0,.str [],.bool false] []⟩,⟨none,none,.sto 2 3 (.t 2) (.t 109)⟩,⟨some 3,none,.mov (.bool false)⟩] false) .ret)]
theorem Qlm (l r:W) (R:Option W) (S:Int × W × Bool) (want:Int) (hl:l.length<=10000) (h6:¬ l.length<6) (hrl:r.length=l.length-4) (hr:l.take (l.length-4)=r) (hf':fits l r=false)
  (hw:dg ((l.drop (l.length-4)).take 2)=want) (hd:¬ want<0) (hR:Xs l=R) (hS:Zr l=S) :
  QK Tryz.prog K (FnF (QW [ZG.cell 2 3 true,ZG.tmp 3] (.tup [.agg [.int .i64 S.1,.str S.2.1,.bool S.2.2],.bool R.isSome]))) c46_b0 [0,2,4,7,60,61] [2] k62
   [(0,.iv (.str l)),(2,.loc 2 0),(4,.iv (.str r)),(7,.iv (.int .i64 want)),(60,.iv (.int .i64 (r.length:Nat))),(61,.iv (.int .i64 0))]
   [(2,.box [.iv (.int .i64 0),.iv (.str []),.iv (.bool false)])]:=by
 rw[XM h6 hr hf' hw hd] at hR;have hwr:=QuR ((l.drop (l.length-4)).take 2);rw[hw] at hwr;refine QV (fun i=>[(0,AV.iv (.str l)),(2,.loc 2 0),(4,.iv (.str r)),(7,.iv (.int .i64 want)),(60,.iv (.int .i64 (r.length:Nat))),(61,.iv (.int .i64 (i:Nat)))]) (fun _=>[(2,AO.box [.iv (.int .i64 0),.iv (.str []),.iv (.bool false)])]) r.length (fun i=>∀ j,j<i->fits l (fix want r j)=false) (by simp) ?_ ?_
 ·intro hq
  rw[Qa Go.Pf.c46_b0.eq_1];rw[Qaj hq] at hR
  have hS':Zr l=(0,[],false):=by
   unfold Zr;rw[XM h6 hr hf' hw hd,Qaj hq];rfl
  rw[hS'] at hS;subst hR hS;simp[k62]
 ·intro i hi hq ih
  have hir:(i:Int)<(r.length:Int):=by omega
  rw[Qa Go.Pf.c46_b0.eq_1];have hfl:=Qg3 want r i hi;have hfr:=Qfj want r i;have hset:r.set i 32=r.take i++[32]++r.drop (i+1):=by rw[List.set_eq_take_append_cons_drop,if_pos hi];simp
  have hfixv:QfF want r i=((want-(S1 (r.set i 32)).tmod 97).tmod 97+97).tmod 97:=by rw[hset];rfl
  have hfix:r.set i (UInt8.ofNat (32+QfF want r i).toNat)=fix want r i:=by rw[List.set_eq_take_append_cons_drop,if_pos hi];simp[fix]
  have g59:=Qlu hK (r.set i 32) (by simp;omega)
  generalize hs2:(S2 1 (r.set i 32)).tmod 97=s2 at *;generalize hs1:(S1 (r.set i 32)).tmod 97=s1 at *
  have hs1a : -97<s1/\s1<97:=by
   rw[<- hs1]
   exact ⟨by
    have:=QCl (-(S1 (r.set i 32))) (show (0:Int)<97 by omega)
    rw[Int.neg_tmod] at this;omega,QCl _ (by omega)⟩
  have hm : -97<(want-s1).tmod 97/\(want-s1).tmod 97<97:=⟨by
    have:=QCl (-(want-s1)) (show (0:Int)<97 by omega)
    rw[Int.neg_tmod] at this;omega,QCl _ (by omega)⟩
  have hw8:IntKind.u8.wrap (QfF want r i)=QfF want r i:=QfJ (by omega) (by omega)
  simp[hi,hir];refine ⟨by omega,Qd g59 (by simp) ?_⟩
  simp[hi,<- hfixv,hw8,hfix]
  repeat' (first | omega | apply And.intro)
  have g72:=QgY hK (fix want r i) (by omega)
  simp at g72;refine Qd g72 (by simp) ?_
  rw[Yy];have hfx:=Qep (want:=want) (by omega) hr hf' hi
  have hdl:((r.length:Int)).toNat=l.length-4:=by omega
  have hfd:(l.drop (l.length-4)).length=4:=by simp;omega
  by_cases hrow:Z4 (fix want r i)=true
  ·have g41:=Qaf hK (fix want r i) hrow
   simp at g41;simp[hrow];refine Qd g41 (by simp) ?_
   simp[hrl];rw[hrow,Bool.true_and] at hfx;refine ⟨by omega,fun hE=>?_,fun hE=>⟨by omega,?_⟩⟩
   ·have hfi:fits l (fix want r i)=true:=by rw[hfx];simp[hE]
    have hfd':=XM h6 hr hf' hw hd;rw[Qny hi hq hfi] at hR hfd'
    have hS':Zr l=(Qf (fix want r i)).1:=by
     unfold Zr;rw[hfd'];rfl
    rw[hS'] at hS;subst hR hS;simp
   ·have:=ih (fun j hj=>by
     rcases Nat.lt_succ_iff_lt_or_eq.1 hj with h | h
     ·exact hq j h
     ·subst h;rw[hfx];simp[hE])
    simp[hrl] at this;exact this
  ·have hrow':Z4 (fix want r i)=false:=by simpa using hrow
   rw[hrow'] at hfx;simp only[Bool.false_and] at hfx
   have:=ih (fun j hj=>by
    rcases Nat.lt_succ_iff_lt_or_eq.1 hj with h | h
    ·exact hq j h
    ·subst h;exact hfx)
   simp[hrow'] at this |-;exact ⟨by omega,this⟩
theorem Qru (l:W) (hl:l.length<=10000):Ev.Good Tryz.prog K 46 [.str l] (.tup [QqP (Zr l),.bool (Xs l).isSome]):=by
 refine Qb hK c46_ok (by simp) ?_
 by_cases h6:l.length<6
 ·have hi:((l.length:Int)<6):=by omega
  have e:=QcB h6;simp[hi,Zr,e]
 ·have hi:¬ ((l.length:Int)<6):=by omega
  have hn:((l.length:Int)-4).toNat=l.length-4:=by omega
  generalize hR:Xs l=R;generalize hS:Zr l=S;simp[hi,hn];refine ⟨by omega,by omega,?_⟩
  have hrl:(l.take (l.length-4)).length=l.length-4:=by simp
  generalize hr:l.take (l.length-4)=r at hrl;have g72:=QgY hK r (by omega)
  simp at g72;refine Qd g72 (by simp) ?_
  rw[Yy]
  have e2:List.drop r.length (List.take ((r.length:Int)+2).toNat l)=(l.drop (l.length-4)).take 2:=by
   rw[show ((r.length:Int)+2).toNat=(l.length-4)+2 by omega,hrl,List.drop_take]
   congr 1
   omega
  have e3:List.drop ((r.length:Int)+2).toNat l=(l.drop (l.length-4)).drop 2:=by
   rw[show ((r.length:Int)+2).toNat=(l.length-4)+2 by omega,List.drop_drop]
  have hlo:=Za r;by_cases hf:fits l r=true
  ·have hrow:Z4 r=true:=by
    simp only[fits,QA1] at hf;exact hf.1.1
   have hdf:Zd (Qt r) l<=1:=by
    simp only[fits,QA1,decide_eq_true_eq] at hf;rw[JY];exact hf.2
   rw[Vk h6 hr hf] at hR;have hS':Zr l=(Qf r).1:=by unfold Zr;rw[Vk h6 hr hf]
   rw[hS'] at hS;subst hR hS;have g41:=Qaf hK r hrow;simp at g41;simp[hrow];refine Qd g41 (by simp) ?_
   simp;refine Qd (QgX hK (Qt r) l (by omega) (by omega)) (by simp) ?_
   have hdi:((Zd (Qt r) l:Nat):Int)<=1:=by omega
   simp[hdi]
  ·have hf':fits l r=false:=by simpa using hf
   have hwl:((l.drop (l.length-4)).take 2).length=2:=by simp;omega
   have hzl:((l.drop (l.length-4)).drop 2).length=2:=by simp;omega
   generalize hwt:(l.drop (l.length-4)).take 2=wt at *;generalize hzt:(l.drop (l.length-4)).drop 2=zt at *;by_cases hrow:Z4 r=true
   ·have hdi:¬ ((Zd (Qt r) l:Nat):Int)<=1:=by
     have hlen:l.length=r.length+4:=by omega
     have:fits l r=decide (Zd l (Qt r)<=1):=by unfold fits;simp only[hrow,hlen,decide_true,Bool.true_and]
     rw[this,decide_eq_false_iff_not,JY] at hf';omega
    have g41:=Qaf hK r hrow;simp at g41;simp[hrow];refine Qd g41 (by simp) ?_
    simp;refine Qd (QgX hK (Qt r) l (by omega) (by omega)) (by simp) ?_
    simp[hdi,e2,e3];refine ⟨by omega,by omega,Qd (Vx hK wt hwl) (by simp) ?_⟩
    simp[e3];refine ⟨by omega,by omega,Qd (Vx hK zt hzl) (by simp) ?_⟩
    simp;refine ⟨fun h0=>⟨fun hz=>?_,fun _=>Qlm hK l r R S (dg wt) hl h6 hrl hr hf' (by rw[hwt]) (by omega) hR hS⟩,fun hneg=>?_⟩
    ·have e:=Uz h6 hr hf' (by rw[hwt];omega) (by rw[hzt];exact hz)
     have hS':Zr l=(0,[],false):=by unfold Zr;rw[e]
     rw[e] at hR;rw[hS'] at hS;subst hR hS;simp
    ·have e:=W2 h6 hr hf' (by rw[hwt];exact hneg)
     have hS':Zr l=(0,[],false):=by unfold Zr;rw[e]
     rw[e] at hR;rw[hS'] at hS;subst hR hS;simp
   ·simp[hrow,e2]
    refine ⟨by omega,by omega,Qd (Vx hK wt hwl) (by simp) ?_⟩
    simp[e3];refine ⟨by omega,by omega,Qd (Vx hK zt hzl) (by simp) ?_⟩
    simp;refine ⟨fun h0=>⟨fun hz=>?_,fun _=>Qlm hK l r R S (dg wt) hl h6 hrl hr hf' (by rw[hwt]) (by omega) hR hS⟩,fun hneg=>?_⟩
    ·have e:=Uz h6 hr hf' (by rw[hwt];omega) (by rw[hzt];exact hz)
     have hS':Zr l=(0,[],false):=by unfold Zr;rw[e]
     rw[e] at hR;rw[hS'] at hS;subst hR hS;simp
    ·have e:=W2 h6 hr hf' (by rw[hwt];exact hneg)
     have hS':Zr l=(0,[],false):=by unfold Zr;rw[e]
     rw[e] at hR;rw[hS'] at hS;subst hR hS;simp
end Go.Bk
