/- slices.Insert, Delete and Reverse at a row of ints of the caller's own, from contracts in the kit's words. -/
import Derived.Test.YtmjdnhobojjjaaaGreatDoorPartThree
import Derived.Ground.SlgnProg
import Derived.Shelf.SlicesE.Reverse
import Derived.Shelf.SlicesE.Delete
import Derived.Lib.SliceRun
import Derived.Lib.JoinLaws
import Derived.Test.YtmjdnhobojjjaaaGreatDoorProg
import Derived.KernelRfl
import Derived.Shelf.Spec.SlicesInsertGrow
import Derived.Test.YtmjdnhobojjjaaaGreatDoorPartFour
import Derived.Shelf.SlIterI.Nil
import Derived.Shelf.SortM.Plain
import Derived.Shelf.SortM.SortNone
import Derived.Ground.GgzProg
import Derived.Ground.SlgmProg
import Derived.Shelf.SlicesE.Compact
import Derived.Test.YtmjdnhobojjjaaaGreatDoorCards
import Derived.Test.YtmjdnhobojjjaaaGreatDoorTie
import Derived.ProofKit
import Derived.OpenShut
import Derived.Lay
import Derived.Lib.LaidTab
import Derived.Lib.LaidIn
import Derived.JoinedCond
set_option linter.all false
namespace Go.Ev
open Go Go.RowKit Go.Sort
section
variable {P:Program} {K:World->Prop}
@[reducible] def QU (zs:List Int) (mv:Nat):AO:=.arr 3 1 (zs.map fun z=>[AV.iv (.int .i64 z)]) mv
@[reducible] def Qfa (zs:List Int):IV:=.sl 1 (zs.map fun z=>[IV.int .i64 z])
theorem UX {w:World} {g:Nat} {f:Array Value->Array Value} {c:Array Value} {e:TypeId} {fr:Nat × Nat} (h:w.heap[g]?=some (.cells c e fr)):(mapBlock w g f).heap[g]?=some (.cells (f c) e fr):=by
 simp only[mapBlock,QyO,if_true,h,QyG,onCells]
theorem Qcb {w:World} {g k:Nat} {f:Array Value->Array Value} (h:k≠g):(mapBlock w g f).heap[k]?=w.heap[k]?:=by
 simp only[mapBlock,QyO,if_neg (Ne.symm h)]
theorem qS {w:World} {g:Nat} {f:Array Value->Array Value}:(mapBlock w g f).heap.size=w.heap.size:=by
 simp only[mapBlock,Array.size_modify]
theorem ZK {Fr:Nat->Prop} {w:World} {g:Nat} {f:Array Value->Array Value} (h:¬ Fr g):QG Fr w (mapBlock w g f) :=
 ⟨rfl,rfl,rfl,by rw[qS];omega,fun k hk=>Qcb fun e=>h (e▸hk)⟩
theorem Zi {Fr:Nat->Prop} {g:Nat} (h:¬ Fr g):∀ (vs:List Value) (o:Nat) (w:World),QG Fr w (w.setCells g o vs)
 | [],_,w=>QG.refl _ _
 | v::r,o,w=>by
   rw[World.setCells];have h1:QG Fr w (w.setCell ⟨g,o,none⟩ v):=by rw[setCell_eq];exact ZK h
   have h2:=Zi h r (o+1) (w.setCell ⟨g,o,none⟩ v);exact ⟨h2.os.trans h1.os,h2.tape.trans h1.tape,h2.output.trans h1.output,Qx7 h1.size h2.size,fun k hk=>(h2.block k hk).trans (h1.block k hk)⟩
theorem qt (w:World) (o:Obj):QG (fun b=>b<w.heap.size) w (w.alloc o) :=
 ⟨rfl,rfl,rfl,by show _<=(w.heap.push o).size;grind,fun k hk=>by
  show (w.heap.push o)[k]?=_
  grind⟩
structure WM (w:World) (v:Value) (zs:List Int) (g cap:Nat) (cur:Array Value):Prop where
 v:v=.slice (some ⟨g,0,none⟩) zs.length cap
 at_:w.heap[g]?=some (.cells cur 3 (0,0))
 le:zs.length<=cap
 max:cap<=maxLen
 size:cur.size=cap
 take:cur.toList.take zs.length=zs.map (.int .i64)
theorem WM.cell {w:World} {v:Value} {zs:List Int} {g cap:Nat} {cur:Array Value} (h:WM w v zs g cap cur) (j:Nat):w.cell? ⟨g,j,none⟩=cur[j]?:=by
 simp[World.cell?,h.at_]
theorem WM.frozen {w:World} {v:Value} {zs:List Int} {g cap:Nat} {cur:Array Value} (h:WM w v zs g cap cur) (j:Nat):w.frozen? ⟨g,j,none⟩=false:=by
 simp[World.frozen?,h.at_]
theorem WM.get {w:World} {v:Value} {zs:List Int} {g cap:Nat} {cur:Array Value} (h:WM w v zs g cap cur) (j:Nat) (hj:j<zs.length):cur[j]?=some (.int .i64 zs[j]):=by
 have h1:(cur.toList.take zs.length)[j]?=some (.int .i64 zs[j]):=by rw[h.take];simp[hj]
 grind
theorem WM.holds {w:World} {v:Value} {zs:List Int} {g cap:Nat} {cur:Array Value} (h:WM w v zs g cap cur):Holds (Value.int .i64) w g 0 zs.toArray:=by
 intro j hj;have hj':j<zs.length:=by simpa using hj
 refine ⟨?_,by rw[QxE];exact h.frozen j⟩
 rw[QxE,h.cell,h.get j hj',getElem!_pos _ j hj];simp
theorem WX {Fr ok:Nat->Prop} {w:World} {lo:Nat->Option AO} {L:Nat->Lay} {zs:List Int} {mv:Nat} {l:Lay} (h:Qp Fr ok w lo L (QU zs mv) l) :
  ∃ v xs,l=.arr v xs/\((v=.slice none 0 0/\zs=[])\/∃ g cap cur,WM w v zs g cap cur/\¬ Fr g):=by
 cases l with
 | arr v xs =>
   obtain ⟨⟨⟨h1,h2⟩,h3⟩,h4,h5,h6,h7⟩:=h;refine ⟨v,xs,rfl,?_⟩;simp only[QxB] at h1 h2;rcases h2 with ⟨h2,h8⟩ | ⟨g,cap,cur,h8,h9,h10,h11,h12,h13,h14⟩
   ·grind
   ·refine .inr ⟨g,cap,cur,⟨h8,h10,h11,h12,by omega,?_⟩,h3 g (by simp[h8,Value.ownBlock])⟩
    rw[Qyn] at h14;rw[h14];refine QyH fun i=>?_
    by_cases hi:i<zs.length
    ·have hx:i<xs.length:=by omega
     rw[Qxq hx];have:=h7 i 0 [AV.iv (.int .i64 zs[i])] (.iv (.int .i64 zs[i])) xs[i] (by simp[hi]) (by simp) (by simp[hx])
     cases this with
     | iv _ _ r =>
       generalize hz:xs[i]=z at r;cases r;simp[hi,hz]
    grind
 | _=>exact absurd h (by simp[Qp])
theorem qs {ok:Nat->Prop} {w:World} {lo:Nat->Option AO} {L:Nat->Lay} {zs:List Int} {mv id n:Nat} {v u:Value} {xs:List Value} (hid:lo id=some (QU zs mv)) (hL:L id=.arr v xs) (hn:n=zs.length) (h:Qo ok w lo L (.aref id n) u):u=v:=by
 grind
theorem JD {ok:Nat->Prop} {w:World} (zs:List Int) (b cap:Nat) (hcap:zs.length<=cap) (hmax:cap<=maxLen) (hb:ok b) (hc:∀ j z,zs[j]?=some z->w.cell? ⟨b,j,none⟩=some (.int .i64 z)) :
  Qq ok w (Qfa zs) (.slice (some ⟨b,0,none⟩) zs.length cap):=by
 have h:=Qq.sl (ok:=ok) (w:=w) 1 (zs.map fun z=>[IV.int .i64 z]) b 0 cap (fun k=>.int .i64 (zs.getD k 0)) (by simpa using hcap) hmax (by simp) (fun k hk=>?_) (fun i j c x hi hj=>?_)
 ·simpa using h
 ·simp only[QxB,Qyn] at hk
  refine ⟨hb,?_,rfl⟩
  grind
 ·rw[Qxz,Qxu] at hi
  obtain ⟨z,hz,rfl⟩:=hi;cases j with
  | zero =>
    simp at hj;subst hj;rw[Qyn,Qyd,List.getD_eq_getElem?_getD,hz];exact .int _ _
  | succ j=>simp at hj
theorem JI {Fr ok:Nat->Prop} {w:World} {L:Nat->Lay}:Qfb Fr ok w (Qc []) L:=⟨by simp[Qc],by simp[Qc]⟩
theorem qK {f:FuncId}
  (he:∀ (a:Option Addr) (cap:Nat) (w:World),Calls P f #[.slice a 0 cap] w fun e w'=>e=.returned (.tuple #[])/\w'=w)
  (hr:∀ (blk off cap:Nat) (zs:List Int) (w:World),Holds (Value.int .i64) w blk off zs.toArray->zs.length<=9223372036854775807 ->
    Calls P f #[.slice (some ⟨blk,off,none⟩) zs.length cap] w fun e w'=>e=.returned (.tuple #[])/\∃ n,w'=putRow (Value.int .i64) (Sort.ahead w n) blk off zs.reverse.toArray)
  (zs:List Int) (mv:Nat):ZC P K f [.aref 0 zs.length] [(0,QU zs mv)] [0] (.iv (.tup [])) [(0,QU zs.reverse zs.length)]:=by
 intro w ok L vs hK hnew hown hlaid hvl hvs
 obtain ⟨v0,rfl⟩:∃ v0,vs=[v0]:=by
  match vs,hvl with
  | [v],_=>exact ⟨v,rfl⟩
 have hob:=hlaid.objs 0 (QU zs mv) rfl;obtain ⟨v,xs,hL,hrow⟩:=WX hob;have hv:v0=v:=qs (id:=0) (zs:=zs) (mv:=mv) rfl hL rfl (hvs 0 _ v0 rfl rfl);subst hv
 have fin:∀ (w':World) (xs':List Value),QG (FrO w (Qc [(0,QU zs mv)]) L) w w'->Z7 (FrO w (Qc [(0,QU zs mv)]) L) w' 3 1 v0 zs.length xs'->xs'=zs.reverse.map (.int .i64) ->
   ∃ v1 L',(Ending.returned (.tuple #[]):Ending)=.returned v1/\Qfb (FrO w (Qc [(0,QU zs mv)]) L) ok w' (Qc [(0,QU zs.reverse zs.length)]) L'/\Qo (okL ok (Qc [(0,QU zs.reverse zs.length)]) L') w' (Qc [(0,QU zs.reverse zs.length)]) L' (.iv (.tup [])) v1/\QG (FrO w (Qc [(0,QU zs mv)]) L) w w' /\
    ∀ i∈[0],∀ o,Qc [(0,QU zs mv)] i=some o->∃ o',Qc [(0,QU zs.reverse zs.length)] i=some o'/\XQ o o' (L i) (L' i):=by
  intro w' xs' hk ho hx;refine ⟨.tuple #[],fun _=>.arr v0 xs',rfl,⟨fun id o hid=>?_,fun i j oi oj b hij hi hj=>?_⟩,.iv _ _ (.tup [] [] rfl (by simp)),hk,fun i hi o h=>?_⟩
  ·simp only[Qc] at hid
   split at hid
   ·injection hid with hid
    subst hid;refine ⟨by simpa using ho,by simp,by simp,fun u hu=>?_,fun i j c x u hi hj hu=>?_⟩
    ·rw[hx] at hu
     obtain ⟨z,_,rfl⟩:=QxR.1 hu;rfl
    ·rw[Qxz,Qxu] at hi
     obtain ⟨z,hz,rfl⟩:=hi;cases j with
     | zero =>
       simp at hj;subst hj;rw[hx,Qyn,Qyd,Qxz,hz] at hu;simp at hu;subst hu;exact .iv _ _ (.int _ _)
     | succ j=>simp at hj
   ·cases hid
  ·simp only[Qc] at hi hj
   grind
  ·simp at hi
   subst hi;simp only[Qc,if_true] at h;injection h with h
   subst h;refine ⟨QU zs.reverse zs.length,by simp[Qc],?_⟩
   rw[hL];simp[XQ]
 rcases hrow with ⟨rfl,rfl⟩ | ⟨g,cap,cur,hr1,hfr⟩
 ·refine (he none 0 w).mono fun e w' ⟨h1,h2⟩=>?_
  subst h1 h2;exact fin w' [] (QG.refl _ _) ⟨⟨by simp,.inl ⟨rfl,rfl⟩⟩,by simp[Value.ownBlock]⟩ (by simp)
 ·have hv:=hr1.v
  subst hv;refine (hr g 0 cap zs w hr1.holds (by have:=hr1.max;have:=hr1.le;unfold maxLen at *;omega)).mono fun e w' ⟨h1,n,h2⟩=>?_
  subst h1
  have hk:QG (FrO w (Qc [(0,QU zs mv)]) L) w w':=by
   have h3:QG (FrO w (Qc [(0,QU zs mv)]) L) (Sort.ahead w n) w':=by rw[h2];exact ZK hfr
   exact ⟨h3.os,h3.tape,h3.output,h3.size,h3.block⟩
  have hh:w'.heap[g]?=some (.cells (putCells (Value.int .i64) 0 zs.reverse.toArray cur) 3 (0,0)):=by
   rw[h2];exact UX (w:=Sort.ahead w n) hr1.at_
  refine fin w' _ hk ⟨⟨?_,.inr ⟨g,cap,_,rfl,Qyw _,hh,hr1.le,hr1.max,?_,rfl⟩⟩,fun b hb=>?_⟩ ?_
  ·simp[putCells,hr1.size,hr1.le]
  ·simp[putCells,hr1.size]
  ·simp[Value.ownBlock] at hb
   grind
  ·refine QyH fun i=>?_
   rw[QxU];by_cases hi:i<zs.length
   ·have h1:=hr1.size
    have h2:=hr1.le;have h3:i<cur.size:=by omega
    rw[Qyn,if_pos hi];simp only[putCells,Array.getElem?_toList,Array.getElem?_mapIdx,QxK h3,QyG,Qxz]
    grind
   grind
theorem Qbx {f:FuncId}
  (hd:∀ (blk off cap i j:Nat) (d:Array Int) (w:World),Holds (Value.int .i64) w blk off d->d.size<=cap->cap<=9223372036854775807->i<=j->j<=d.size ->
    Calls P f #[.slice (some ⟨blk,off,none⟩) d.size cap,.int .i64 i,.int .i64 j] w fun e w'=>e=.returned (.slice (some ⟨blk,off,none⟩) (d.size-(j-i)) cap)/\∃ q,w'=putRow (Value.int .i64) (Sort.ahead w q) blk off (d.toList.take i++d.toList.drop j++List.replicate (j-i) 0).toArray)
  (zs:List Int) (mv:Nat) (i:Nat) (hi:i<zs.length):ZC P K f [.aref 0 zs.length,.iv (.int .i64 (i:Nat)),.iv (.int .i64 ((i+1:Nat):Int))] [(0,QU zs mv)] [] (.iv (Qfa (zs.eraseIdx i))) []:=by
 intro w ok L vs hK hnew hown hlaid hvl hvs
 obtain ⟨v0,v1,v2,rfl⟩:∃ v0 v1 v2,vs=[v0,v1,v2]:=by
  match vs,hvl with
  | [v,u,z],_=>grind
 have hob:=hlaid.objs 0 (QU zs mv) rfl;obtain ⟨v,xs,hL,hrow⟩:=WX hob;have hv:v0=v:=qs (id:=0) (zs:=zs) (mv:=mv) rfl hL rfl (hvs 0 _ v0 rfl rfl);subst hv
 have e1:v1=.int .i64 (i:Nat):=by
  have:=hvs 1 _ v1 rfl rfl;cases this with
  | iv _ _ r=>cases r;rfl
 have e2:v2=.int .i64 ((i+1:Nat):Int):=by
  have:=hvs 2 _ v2 rfl rfl;cases this with
  | iv _ _ r=>cases r;rfl
 subst e1 e2;rcases hrow with ⟨rfl,rfl⟩ | ⟨g,cap,cur,hr1,hfr⟩
 ·simp at hi
 ·have hv:=hr1.v
  subst hv;have hm:=hr1.max;have hle:=hr1.le;have:=hd g 0 cap i (i+1) zs.toArray w hr1.holds (by simpa using hle) (by unfold maxLen at *;omega) (by omega) (by simp;omega)
  have es:zs.toArray.size=zs.length:=by simp
  rw[es] at this;refine this.mono fun e w' ⟨h1,q,h2⟩=>?_
  have hgo:ok g:=hown g ⟨0,QU zs mv,rfl,by rw[hL];simp[Lay.has,Value.ownBlock]⟩
  have hk:QG (FrO w (Qc [(0,QU zs mv)]) L) w w':=by
   have h3:QG (FrO w (Qc [(0,QU zs mv)]) L) (Sort.ahead w q) w':=by rw[h2];exact ZK hfr
   exact ⟨h3.os,h3.tape,h3.output,h3.size,h3.block⟩
  have hnew:Holds (Value.int .i64) w' g 0 (zs.take i++zs.drop (i+1)++List.replicate (i+1-i) 0).toArray:=by
   have h3:=holds_putRow (Value.int .i64) (Sort.ahead w q) g 0 zs.toArray (zs.take i++zs.drop (i+1)++List.replicate (i+1-i) 0).toArray (holds_ahead _ w q g 0 _ hr1.holds) (by simp;omega)
   grind
  have hlen:(zs.eraseIdx i).length=zs.length-(i+1-i):=by grind
  subst h1;refine ⟨_,fun _=>.one 0,rfl,JI,.iv _ _ ?_,hk,by simp⟩
  rw[<- hlen];refine JD _ _ _ (by omega) hm ⟨hgo,by simp[Qc]⟩ fun j z hj=>?_
  rw[List.eraseIdx_eq_take_drop_succ] at hj;have hjl:=(Qxr.1 hj).1;have h3:=(hnew j (by grind)).1
  grind
theorem Qbf {f:FuncId}
  (hshift:∀ (b n c i vb vc:Nat) (cs:List Value) (x:Value) (w:World),i<n->n+1<=c->c<=9223372036854775807->vb≠b->cs.length=n ->
    (∀ j v,cs[j]?=some v->w.cell? ⟨b,0+j,none⟩=some v)->(∀ j,j<n+1->(w.cell? ⟨b,0+j,none⟩).isSome=true)->(∀ j,j<n+1->w.frozen? ⟨b,0+j,none⟩=false) ->
    (∀ j v,[x][j]?=some v->w.cell? ⟨vb,0+j,none⟩=some v)->(∀ v∈cs,v.oneCell'=true)->(∀ v∈[x],v.oneCell'=true) ->
    ∀ (tA tB:TypeId) (kA kB:Nat),w.shape? vb=some (tA,kA)->w.shape? b=some (tB,kB)->kB≠0->w.frozen? ⟨vb,0,none⟩=false->w.frozen? ⟨vb,kA,none⟩=false ->
    Calls P f #[.slice (some ⟨b,0,none⟩) n c,.int .i64 i,.slice (some ⟨vb,0,none⟩) 1 vc] w fun e w' =>
     e=.returned (.slice (some ⟨b,0,none⟩) (n+1) c)/\w'=(w.drew.setCells b (0+(i+1)) (cs.drop i)).setCells b (0+i) [x])
  (hroom:∀ (b n c vb vc:Nat) (x:Value) (w:World),n+1<=c->c<=9223372036854775807->(∀ j,j<1->(w.cell? ⟨b,0+n+j,none⟩).isSome=true)->(∀ j,j<1->w.frozen? ⟨b,0+n+j,none⟩=false) ->
    (∀ j v,[x][j]?=some v->w.cell? ⟨vb,0+j,none⟩=some v)->(∀ v∈[x],v.oneCell'=true) ->
    Calls P f #[.slice (some ⟨b,0,none⟩) n c,.int .i64 n,.slice (some ⟨vb,0,none⟩) 1 vc] w fun e w' =>
     e=.returned (.slice (some ⟨b,0,none⟩) (n+1) c)/\w'=w.setCells b (0+n) [x])
  (hend:∀ (base:Option Addr) (n c vb vc:Nat) (cs:List Value) (x:Value) (w:World),n<=c->c<n+1->(n+1)*8<=140737488355328->cs.length=n->(base=none->n=0) ->
    (∀ a,base=some a->∀ j v,cs[j]?=some v->w.cell? (a.add j)=some v)->(∀ j v,[x][j]?=some v->w.cell? ⟨vb,0+j,none⟩=some v)->(∀ v∈[x],v.oneCell'=true) ->
    Calls P f #[.slice base n c,.int .i64 n,.slice (some ⟨vb,0,none⟩) 1 vc] w fun e w' =>
     e=.returned (.slice (some ⟨w.heap.size,0,none⟩) (n+1) (grownCap w (n+1) c 3)) /\
     w'=w.drew.alloc (.cells ((cs++[x]).toArray++Builtin.zeroCells (Value.int .i64 0).cells (grownCap w (n+1) c 3-(n+1))) 3))
  (hgrow:∀ (b n c i vb vc:Nat) (cs:List Value) (x:Value) (w:World),i<n->n<=c->c<n+1->(n+1)*8<=140737488355328->cs.length=n ->
    (∀ j v,cs[j]?=some v->w.cell? ⟨b,0+j,none⟩=some v)->(∀ j v,[x][j]?=some v->w.cell? ⟨vb,0+j,none⟩=some v)->(∀ v∈cs,v.oneCell'=true)->(∀ v∈[x],v.oneCell'=true) ->
    Calls P f #[.slice (some ⟨b,0,none⟩) n c,.int .i64 i,.slice (some ⟨vb,0,none⟩) 1 vc] w fun e w' =>
     e=.returned (.slice (some ⟨w.heap.size,0,none⟩) (n+1) (grownCap w (n+1) c 3)) /\
     w'=(((w.alloc (.cells ((cs.take i).toArray++Builtin.zeroCells (Value.int .i64 0).cells (n+1-i)++Builtin.zeroCells (Value.int .i64 0).cells (grownCap w (n+1) c 3-(n+1))) 3)).drew.setCells w.heap.size i [x]).drew).setCells w.heap.size (i+1) (cs.drop i))
  (zs:List Int) (mv:Nat) (i:Nat) (hi:i<=zs.length) (x:Int) (mv':Nat) (hlen:zs.length<=1000000):ZC P K f [.aref 0 zs.length,.iv (.int .i64 (i:Nat)),.aref 1 1] [(0,QU zs mv),(1,QU [x] mv')] [] (.iv (Qfa (zs.take i++x::zs.drop i))) []:=by
 intro w ok L vs hK hnew hown hlaid hvl hvs
 obtain ⟨v0,v1,v2,rfl⟩:∃ v0 v1 v2,vs=[v0,v1,v2]:=by
  match vs,hvl with
  | [v,u,z],_=>grind
 obtain ⟨v,xs,hL,hrow⟩:=WX (hlaid.objs 0 (QU zs mv) rfl);obtain ⟨v',xs',hL',hrow'⟩:=WX (zs:=[x]) (hlaid.objs 1 (QU [x] mv') rfl);have hv:v0=v:=qs (id:=0) (zs:=zs) (mv:=mv) rfl hL rfl (hvs 0 _ v0 rfl rfl);have hv':v2=v':=qs (id:=1) (zs:=[x]) (mv:=mv') rfl hL' rfl (hvs 2 _ v2 rfl rfl)
 have e1:v1=.int .i64 (i:Nat):=by
  have:=hvs 1 _ v1 rfl rfl;cases this with
  | iv _ _ r=>cases r;rfl
 subst hv hv' e1;have hmax:maxLen=1099511627775\/2000000<=maxLen/\maxLen<=9223372036854775807:=by unfold maxLen;omega
 rcases hrow' with ⟨_,h⟩ | ⟨vb,vc,cur',hr2,hfr2⟩
 ·cases h
 have hv2:=hr2.v;subst hv2
 have hx:∀ j v,[Value.int .i64 x][j]?=some v->w.cell? ⟨vb,0+j,none⟩=some v:=fun j v hj=>by
  cases j with
  | zero =>
    simp at hj;subst hj;rw[hr2.cell,hr2.get 0 (by simp)]
    simp
  | succ j=>simp at hj
 have hone:∀ v∈[Value.int .i64 x],v.oneCell'=true:=by simp[Value.oneCell']
 have hvw:vb<w.heap.size:=(Qxv.1 hr2.at_).1;have hlen':(zs.take i++x::zs.drop i).length=zs.length+1:=by simp;omega
 have fresh:∀ (w':World) (cap:Nat),QG (fun b=>b<w.heap.size) w w'->zs.length+1<=cap->cap<=maxLen->(∀ j z,(zs.take i++x::zs.drop i)[j]?=some z->w'.cell? ⟨w.heap.size,j,none⟩=some (.int .i64 z)) ->
   ∃ v1 L',(Ending.returned (.slice (some ⟨w.heap.size,0,none⟩) (zs.length+1) cap):Ending)=.returned v1/\Qfb (FrO w (Qc [(0,QU zs mv),(1,QU [x] mv')]) L) ok w' (Qc []) L'/\Qo (okL ok (Qc []) L') w' (Qc []) L' (.iv (Qfa (zs.take i++x::zs.drop i))) v1/\QG (FrO w (Qc [(0,QU zs mv),(1,QU [x] mv')]) L) w w' /\
    ∀ i∈([]:List Nat),∀ o,Qc [(0,QU zs mv),(1,QU [x] mv')] i=some o->∃ o',Qc [] i=some o'/\XQ o o' (L i) (L' i):=fun w' cap hk h1 h2 h3=>by
  refine ⟨_,fun _=>.one 0,rfl,JI,.iv _ _ ?_,⟨hk.os,hk.tape,hk.output,hk.size,fun k hkk=>hk.block k hkk.1⟩,by simp⟩
  rw[<- hlen'] at h1 |-;exact JD _ _ _ h1 h2 ⟨hnew _ (Qxw _),by simp[Qc]⟩ h3
 have inplace:∀ (g cap:Nat) (cur:Array Value) (w':World),WM w v0 zs g cap cur->¬ FrO w (Qc [(0,QU zs mv),(1,QU [x] mv')]) L g->QG (FrO w (Qc [(0,QU zs mv),(1,QU [x] mv')]) L) w w'->zs.length+1<=cap->(∀ j z,(zs.take i++x::zs.drop i)[j]?=some z->w'.cell? ⟨g,j,none⟩=some (.int .i64 z)) ->
   ∃ v1 L',(Ending.returned (.slice (some ⟨g,0,none⟩) (zs.length+1) cap):Ending)=.returned v1/\Qfb (FrO w (Qc [(0,QU zs mv),(1,QU [x] mv')]) L) ok w' (Qc []) L'/\Qo (okL ok (Qc []) L') w' (Qc []) L' (.iv (Qfa (zs.take i++x::zs.drop i))) v1/\QG (FrO w (Qc [(0,QU zs mv),(1,QU [x] mv')]) L) w w' /\
    ∀ i∈([]:List Nat),∀ o,Qc [(0,QU zs mv),(1,QU [x] mv')] i=some o->∃ o',Qc [] i=some o'/\XQ o o' (L i) (L' i):=fun g cap cur w' hr1 _ hk h1 h3=>by
  have hgo:ok g:=hown g ⟨0,QU zs mv,rfl,by rw[hL,hr1.v];simp[Lay.has,Value.ownBlock]⟩
  refine ⟨_,fun _=>.one 0,rfl,JI,.iv _ _ ?_,hk,by simp⟩
  have h2:=hr1.max;rw[<- hlen'] at h1 |-;exact JD _ _ _ h1 h2 ⟨hgo,by simp[Qc]⟩ h3
 have hcs:∀ j,j<zs.length->(zs.map (Value.int .i64))[j]?=some (.int .i64 zs[j]!):=fun j hj=>by simp[hj]
 have onev:∀ v∈zs.map (Value.int .i64),v.oneCell'=true:=fun v hv=>by
  obtain ⟨z,_,rfl⟩:=QxR.1 hv;rfl
 rcases Qyv i zs.length with hlt | hge
 ·
  rcases hrow with ⟨_,h⟩ | ⟨g,cap,cur,hr1,hfr⟩
  ·grind
  have hv:=hr1.v;have hm:=hr1.max;have hle:=hr1.le;have hgw:g<w.heap.size:=(Qxv.1 hr1.at_).1;have hne:vb≠g:=fun e=>hlaid.apart 0 1 (QU zs mv) (QU [x] mv') g (by simp) rfl rfl (by rw[hL,hv];simp[Lay.has,Value.ownBlock]) (by rw[hL',e];simp[Lay.has,Value.ownBlock])
  have hc:∀ j v,(zs.map (Value.int .i64))[j]?=some v->w.cell? ⟨g,0+j,none⟩=some v:=fun j v hj=>by
   rw[Qxz,Qxu] at hj;obtain ⟨z,hz,rfl⟩:=hj;obtain ⟨h1,h2⟩:=Qxr.1 hz;rw[QxE,hr1.cell,hr1.get j h1,h2]
  have hmid:∀ j z,(zs.take i++x::zs.drop i)[j]?=some z->(j<i/\zs[j]?=some z)\/(j=i/\z=x)\/(i+1<=j/\(zs.drop i)[j-(i+1)]?=some z):=fun j z hj=>by
   rcases Nat.lt_trichotomy j i with h | h | h
   ·rw[QxG (by simp;omega),QxU,if_pos h] at hj
    grind
   ·subst h
    rw[QxD (by simp;omega),QyE,Qx2 (by omega),Nat.sub_self] at hj
    grind
   ·rw[QxD (by simp;omega),QyE,Qx2 (by omega)] at hj
    obtain ⟨k,rfl⟩:∃ k,j=i+1+k:=⟨j-(i+1),by omega⟩
    rw[show i+1+k-i=k+1 by omega,List.getElem?_cons_succ] at hj
    exact .inr (.inr ⟨by omega,by rw[show i+1+k-(i+1)=k by omega];exact hj⟩)
  rcases Qyv zs.length cap with hcap | hcap
  ·
   have hsome:∀ j,j<zs.length+1->(w.cell? ⟨g,0+j,none⟩).isSome=true:=fun j hj=>by
    rw[QxE,hr1.cell,QxK (by have:=hr1.size;omega)];rfl
   have h0:=hshift g zs.length cap i vb vc (zs.map (.int .i64)) (.int .i64 x) w hlt (by omega) (by omega) hne (by simp) hc hsome (fun j _=>hr1.frozen _) hx onev hone 3 3 cur'.size cur.size
    (by simp[World.shape?,hr2.at_]) (by simp[World.shape?,hr1.at_]) (by have:=hr1.size;omega) (hr2.frozen _) (hr2.frozen _)
   rw[<- hv] at h0;refine h0.mono fun e w' ⟨h1,h2⟩=>?_
   subst h1
   have hk:QG (FrO w (Qc [(0,QU zs mv),(1,QU [x] mv')]) L) w w':=by
    have k1:=Zi (Fr:=FrO w (Qc [(0,QU zs mv),(1,QU [x] mv')]) L) hfr ((zs.map (Value.int .i64)).drop i) (0+(i+1)) w.drew;have k2:=Zi (Fr:=FrO w (Qc [(0,QU zs mv),(1,QU [x] mv')]) L) hfr [Value.int .i64 x] (0+i) (w.drew.setCells g (0+(i+1)) ((zs.map (Value.int .i64)).drop i));rw[h2];exact ⟨k2.os.trans k1.os,k2.tape.trans k1.tape,k2.output.trans k1.output,Qx7 k1.size k2.size,fun k hk=>(k2.block k hk).trans (k1.block k hk)⟩
   refine inplace g cap cur w' hr1 hfr hk (by omega) fun j z hj=>?_
   have in1:∀ k,k<((zs.map (Value.int .i64)).drop i).length->(w.drew.cell? ⟨g,0+(i+1)+k,none⟩).isSome=true:=fun k hk=>by
    have:=hsome (i+1+k) (by simp at hk;omega)
    rw[show 0+(i+1)+k=0+(i+1+k) by omega]
    exact this
   have sm1:∀ k,(w.cell? ⟨g,k,none⟩).isSome=true->((w.drew.setCells g (0+(i+1)) ((zs.map (Value.int .i64)).drop i)).cell? ⟨g,k,none⟩).isSome=true:=fun k hk=>by
    by_cases hin:0+(i+1)<=k/\k<0+(i+1)+((zs.map (Value.int .i64)).drop i).length
    ·have:=World.cell?_setCells_in g _ (0+(i+1)) w.drew in1 (k-(0+(i+1))) (by omega)
     rw[show 0+(i+1)+(k-(0+(i+1)))=k by omega] at this
     rw[this];rfl
    ·rw[World.cell?_setCells_out g _ (0+(i+1)) w.drew ⟨g,k,none⟩ (fun _ _=>by grind)]
     exact hk
   rw[h2];rcases hmid j z hj with ⟨h3,h4⟩ | ⟨h3,h4⟩ | ⟨h3,h4⟩
   ·rw[World.cell?_setCells_out g [_] (0+i) _ ⟨g,j,none⟩ (fun _ _=>by grind),World.cell?_setCells_out g _ (0+(i+1)) w.drew ⟨g,j,none⟩ (fun _ _=>by grind)]
    have:=hc j (.int .i64 z) (by simp[h4])
    rw[QxE] at this;exact this
   ·subst h3 h4
    have:=World.cell?_setCells_in g [Value.int .i64 z] (0+j) (w.drew.setCells g (0+(j+1)) ((zs.map (Value.int .i64)).drop j)) (fun k hk=>sm1 _ (by
     have:=hsome j (by omega)
     simp at hk;subst hk;simpa using this)) 0 (by simp)
    simpa using this
   ·obtain ⟨k,rfl⟩:∃ k,j=i+1+k:=⟨j-(i+1),by omega⟩
    rw[show i+1+k-(i+1)=k by omega] at h4
    have hkl:=(Qxr.1 h4).1;rw[World.cell?_setCells_out g [_] (0+i) _ ⟨g,i+1+k,none⟩ (fun _ _=>by show i+1+k<_\/_<=i+1+k;simp)]
    have:=World.cell?_setCells_in g ((zs.map (Value.int .i64)).drop i) (0+(i+1)) w.drew in1 k (by simpa using hkl)
    rw[QxE] at this;rw[QxE,this]
    have h5:(List.drop i (zs.map (Value.int .i64)))[k]?=some (.int .i64 z):=by
     rw[<- QyU,Qxz,h4];rfl
    rw[Qxq (by simpa using hkl)] at h5
    exact h5
  ·
   have hcap':cap=zs.length:=by omega
   have h0:=hgrow g zs.length cap i vb vc (zs.map (.int .i64)) (.int .i64 x) w hlt (by omega) (by omega) (by omega) (by simp) hc hx onev hone
   rw[<- hv] at h0;have hgc1:=grownCap_ge w (zs.length+1) cap 3;have hgc2:=grownCap_le_maxLen w (zs.length+1) cap 3 (by omega)
   generalize grownCap w (zs.length+1) cap 3=G at *;refine h0.mono fun e w' ⟨h1,h2⟩=>?_
   subst h1;obtain ⟨ROW,hROW⟩:∃ ROW:Array Value,ROW=((zs.map (Value.int .i64)).take i).toArray++Builtin.zeroCells (Value.int .i64 0).cells (zs.length+1-i)++Builtin.zeroCells (Value.int .i64 0).cells (G-(zs.length+1)):=⟨_,rfl⟩
   rw[<- hROW] at h2
   have hRs:zs.length+1<=ROW.size:=by
    rw[hROW];simp[Builtin.zeroCells,Value.cells];omega
   have hRt:∀ j z,j<i->zs[j]?=some z->ROW[j]?=some (.int .i64 z):=fun j z hj hz=>by
    rw[hROW,Array.append_assoc,Array.getElem?_append_left (by simp;omega)]
    simp[QxU,hj,hz]
   have hN:∀ j,j<zs.length+1->((w.alloc (.cells ROW 3)).cell? ⟨w.heap.size,j,none⟩).isSome=true:=fun j hj=>by
    rw[World.cell?_alloc_at (w:=w) ROW _ w.heap.size j rfl,QxK (by omega)];rfl
   obtain ⟨W1,hW1⟩:∃ W1,W1=(w.alloc (.cells ROW 3)).drew.setCells w.heap.size i [Value.int .i64 x]:=⟨_,rfl⟩
   rw[<- hW1] at h2;have hkA:QG (fun b=>b<w.heap.size) w (w.alloc (.cells ROW 3)):=qt w _
   have hk1:QG (fun b=>b<w.heap.size) w W1:=by
    have k2:=Zi (Fr:=fun b=>b<w.heap.size) (g:=w.heap.size) (by simp) [Value.int .i64 x] i (w.alloc (.cells ROW 3)).drew
    rw[hW1];exact ⟨k2.os.trans hkA.os,k2.tape.trans hkA.tape,k2.output.trans hkA.output,Qx7 hkA.size k2.size,fun k hk=>(k2.block k hk).trans (hkA.block k hk)⟩
   have hk2:QG (fun b=>b<w.heap.size) w w':=by
    have k2:=Zi (Fr:=fun b=>b<w.heap.size) (g:=w.heap.size) (by simp) ((zs.map (Value.int .i64)).drop i) (i+1) W1.drew
    rw[h2];exact ⟨k2.os.trans hk1.os,k2.tape.trans hk1.tape,k2.output.trans hk1.output,Qx7 hk1.size k2.size,fun k hk=>(k2.block k hk).trans (hk1.block k hk)⟩
   have sm1:∀ k,k<zs.length+1->(W1.cell? ⟨w.heap.size,k,none⟩).isSome=true:=fun k hk=>by
    rw[hW1];by_cases hin:k=i
    ·subst hin
     have:=World.cell?_setCells_in w.heap.size [Value.int .i64 x] k (w.alloc (.cells ROW 3)).drew (fun t ht=>by simp at ht;subst ht;exact hN k hk) 0 (by simp)
     rw[Qyd] at this;rw[this];rfl
    ·rw[World.cell?_setCells_out w.heap.size [_] i _ ⟨w.heap.size,k,none⟩ (fun _ _=>by show k<_\/_<=k;simp;omega)]
     exact hN k hk
   refine fresh w' G hk2 hgc1 hgc2 fun j z hj=>?_
   have in2:∀ k,k<((zs.map (Value.int .i64)).drop i).length->(W1.drew.cell? ⟨w.heap.size,i+1+k,none⟩).isSome=true:=fun k hk=>sm1 _ (by simp at hk;omega)
   rw[h2];rcases hmid j z hj with ⟨h3,h4⟩ | ⟨h3,h4⟩ | ⟨h3,h4⟩
   ·rw[World.cell?_setCells_out w.heap.size _ (i+1) W1.drew ⟨w.heap.size,j,none⟩ (fun _ _=>by grind)]
    show W1.cell? _=_
    rw[hW1,World.cell?_setCells_out w.heap.size [_] i _ ⟨w.heap.size,j,none⟩ (fun _ _=>by grind)]
    show (w.alloc (.cells ROW 3)).cell? _=_
    rw[World.cell?_alloc_at (w:=w) ROW _ w.heap.size j rfl];exact hRt j z h3 h4
   ·subst h3 h4
    rw[World.cell?_setCells_out w.heap.size _ (j+1) W1.drew ⟨w.heap.size,j,none⟩ (fun _ _=>by grind)]
    show W1.cell? _=_
    rw[hW1];have:=World.cell?_setCells_in w.heap.size [Value.int .i64 z] j (w.alloc (.cells ROW 3)).drew (fun t ht=>by simp at ht;subst ht;exact hN j (by omega)) 0 (by simp)
    simpa using this
   ·obtain ⟨k,rfl⟩:∃ k,j=i+1+k:=⟨j-(i+1),by omega⟩
    rw[show i+1+k-(i+1)=k by omega] at h4
    have hkl:=(Qxr.1 h4).1;have:=World.cell?_setCells_in w.heap.size ((zs.map (Value.int .i64)).drop i) (i+1) W1.drew in2 k (by simpa using hkl)
    rw[this]
    have h5:(List.drop i (zs.map (Value.int .i64)))[k]?=some (.int .i64 z):=by
     rw[<- QyU,Qxz,h4];rfl
    rw[Qxq (by simpa using hkl)] at h5
    exact h5
 ·
  have hie:i=zs.length:=by omega
  subst hie;have hsame:zs.take zs.length++x::zs.drop zs.length=zs++[x]:=by simp
  have grow:∀ (base:Option Addr) (c:Nat),v0=.slice base zs.length c->zs.length<=c->c<zs.length+1->(base=none->zs.length=0)->(∀ a,base=some a->∀ j v,(zs.map (Value.int .i64))[j]?=some v->w.cell? (a.add j)=some v) ->
    Calls P f [v0,Value.int .i64 (zs.length:Nat),Value.slice (some ⟨vb,0,none⟩) [x].length vc].toArray w (fun e w'=>∃ v1 L',e=.returned v1/\Qfb (FrO w (Qc [(0,QU zs mv),(1,QU [x] mv')]) L) ok w' (Qc []) L'/\Qo (okL ok (Qc []) L') w' (Qc []) L' (.iv (Qfa (zs.take zs.length++x::zs.drop zs.length))) v1/\QG (FrO w (Qc [(0,QU zs mv),(1,QU [x] mv')]) L) w w' /\
     ∀ i∈([]:List Nat),∀ o,Qc [(0,QU zs mv),(1,QU [x] mv')] i=some o->∃ o',Qc [] i=some o'/\XQ o o' (L i) (L' i)):=fun base c hv h1 h2 h3 h4=>by
   have h0:=hend base zs.length c vb vc (zs.map (.int .i64)) (.int .i64 x) w h1 h2 (by omega) (by simp) h3 h4 hx hone
   rw[<- hv] at h0;have hgc1:=grownCap_ge w (zs.length+1) c 3;have hgc2:=grownCap_le_maxLen w (zs.length+1) c 3 (by omega)
   generalize grownCap w (zs.length+1) c 3=G at *;refine h0.mono fun e w' ⟨h5,h6⟩=>?_
   subst h5;obtain ⟨ROW,hROW⟩:∃ ROW:Array Value,ROW=(zs.map (Value.int .i64)++[Value.int .i64 x]).toArray++Builtin.zeroCells (Value.int .i64 0).cells (G-(zs.length+1)):=⟨_,rfl⟩
   rw[<- hROW] at h6;refine fresh w' G ?_ hgc1 hgc2 fun j z hj=>?_
   ·rw[h6]
    have:=qt w.drew (.cells ROW 3);exact ⟨this.os,this.tape,this.output,this.size,this.block⟩
   ·rw[h6,World.cell?_alloc_at (w:=w.drew) ROW _ w.heap.size j rfl,hROW]
    rw[hsame] at hj;have hjl:=(Qxr.1 hj).1;simp at hjl;rw[Array.getElem?_append_left (by simp;omega)]
    have:(zs.map (Value.int .i64)++[Value.int .i64 x])=(zs++[x]).map (.int .i64):=by simp
    rw[this,List.getElem?_toArray,Qxz,hj];rfl
  rcases hrow with ⟨h1,h2⟩ | ⟨g,cap,cur,hr1,hfr⟩
  ·subst h2
   grind
  have hv:=hr1.v;have hm:=hr1.max;have hle:=hr1.le;rcases Qyv zs.length cap with hcap | hcap
  ·have h0:=hroom g zs.length cap vb vc (.int .i64 x) w (by omega) (by omega) (fun j hj=>by
    rw[hr1.cell,QxK (by have:=hr1.size;omega)];rfl) (fun j _=>hr1.frozen _) hx hone
   rw[<- hv] at h0;refine h0.mono fun e w' ⟨h1,h2⟩=>?_
   subst h1
   have hk:QG (FrO w (Qc [(0,QU zs mv),(1,QU [x] mv')]) L) w w':=by
    rw[h2];exact Zi hfr _ _ _
   refine inplace g cap cur w' hr1 hfr hk (by omega) fun j z hj=>?_
   rw[hsame] at hj;rw[h2];rcases Qyv j zs.length with h | h
   ·rw[QxG h] at hj
    rw[World.cell?_setCells_out g [_] (0+zs.length) _ ⟨g,j,none⟩ (fun _ _=>by grind),hr1.cell,hr1.get j h]
    obtain ⟨h3,h4⟩:=Qxr.1 hj;rw[h4]
   ·have hj':j=zs.length:=by have:=(Qxr.1 hj).1;grind
    subst hj';simp at hj;subst hj
    have:=World.cell?_setCells_in g [Value.int .i64 x] (0+zs.length) w (fun k hk=>by
     simp at hk;subst hk;rw[hr1.cell,QxK (by have:=hr1.size;omega)];rfl) 0 (by simp)
    simpa using this
  ·refine grow (some ⟨g,0,none⟩) cap hv hle (by omega) (by simp) (fun a ha j v hj=>?_)
   injection ha with ha
   subst ha;rw[Qxz,Qxu] at hj;obtain ⟨z,hz,rfl⟩:=hj;obtain ⟨h1,h2⟩:=Qxr.1 hz;rw[Addr.add_lit,QxE,hr1.cell,hr1.get j h1,h2]
end
end Go.Ev
namespace Go.Pf
open Go Go.Proofs Go.Shelf Go.RowKit Go.Lib
set_option linter.unusedVariables false
set_option linter.unusedSimpArgs false
theorem i3z:(Tryz.prog.info? 3).map (fun i=>(i.zero,i.size,i.bytes))=some (some (Value.int IntKind.i64 0),1,8):=by kernel_rfl
theorem QdH:Tryz.prog.follows .mixedOrders=true:=by kernel_rfl
set_option maxHeartbeats 4000000 in
set_option maxRecDepth 100000 in
theorem U3 (b off n c i vb voff m vc:Nat) (cs vs:List Value) (w:World) (hi:i<n) (hm:0<m) (hroom:n+m<=c) (hc63:c<=9223372036854775807) (hvb:vb≠b)
  (hcl:cs.length=n) (hvl:vs.length=m)
  (hcs:∀ j v,cs[j]?=some v->w.cell? ⟨b,off+j,none⟩=some v) (hsp:∀ j,j<n+m->(w.cell? ⟨b,off+j,none⟩).isSome=true) (hfz:∀ j,j<n+m->w.frozen? ⟨b,off+j,none⟩=false)
  (hvs:∀ j v,vs[j]?=some v->w.cell? ⟨vb,voff+j,none⟩=some v) (h1c:∀ v∈cs,v.oneCell'=true) (h1v:∀ v∈vs,v.oneCell'=true)
  (tA tB:TypeId) (kA kB:Nat) (hsa:w.shape? vb=some (tA,kA)) (hsb:w.shape? b=some (tB,kB)) (hkB:kB≠0) (hfa:w.frozen? ⟨vb,voff,none⟩=false) (hfe:w.frozen? ⟨vb,kA,none⟩=false) :
  Calls Tryz.prog 240 #[.slice (some ⟨b,off,none⟩) n c,.int .i64 i,.slice (some ⟨vb,voff,none⟩) m vc] w fun e w' =>
   e=.returned (.slice (some ⟨b,off,none⟩) (n+m) c)/\w'=(w.drew.setCells b (off+(i+m)) (cs.drop i)).setCells b (off+i) vs:=by
 have t0:=Tryz.underlying0;have a0:=Tryz.isAgg0;have z0:=Tryz.sizeOf0;have v0:=Tryz.zeroValue0;have t3:=Tryz.underlying3;have a3:=Tryz.isAgg3;have z3:=Tryz.sizeOf3;have v3:=Tryz.zeroValue3;have t4:=Tryz.underlying4;have a4:=Tryz.isAgg4;have z4:=Tryz.sizeOf4;have v4:=Tryz.zeroValue4;have t186:=Tryz.underlying253;have a186:=Tryz.isAgg253;have z186:=Tryz.sizeOf253;have v186:=Tryz.zeroValue253;have t74:=Tryz.underlying28;have a74:=Tryz.isAgg28;have z74:=Tryz.sizeOf28;have v74:=Tryz.zeroValue28;have u0:=run_underlying t0;have u3:=run_underlying t3;have u4:=run_underlying t4;have u186:=run_underlying t186;have u74:=run_underlying t74;have hz1:¬ ((m:Int)=0):=by omega
 have hz2:¬ ((i:Int)=(n:Int)):=by omega
 have hsz:(Tryz.prog.info? 3).map (·.size)=some 1:=by
  obtain ⟨i0,hi0,h0,h1,h2⟩:=info_parts i3z
  grind
 have hov:∀ lb cb,(callFunc 244 #[.slice (some ⟨vb,voff,none⟩) m vc,.slice (some ⟨b,off+(i+m),none⟩) lb cb]).run Tryz.prog w=.ok (.value (.bool false)) w:=fun lb cb=>by
  rw[run_callFunc_extern Tryz.func244 (by kernel_rfl) (by kernel_rfl) (by kernel_rfl) (e:=Extern.SlicesOverlaps.overlaps #[28,28] #[4]) (by kernel_rfl),
   Lib.run_overlaps_apart w 28 4 3 t74 1 z3 ⟨vb,voff,none⟩ ⟨b,off+(i+m),none⟩ m vc lb cb hvb tA tB kA kB hsa hsb hkB hfa hfe]
  rfl
 have hdl:(cs.drop i).length=n-i:=by grind
 have mixed:=QdH;have hw1:IntKind.i64.wrap ((i:Int)+(m:Int))=(i:Int)+(m:Int):=by rw[IntKind.wrap_i64];omega
 have hb1:(0:Int)<=(i:Int)+(m:Int):=by omega
 have hin:i<=n:=by omega
 have htn:((i:Int)+(m:Int)).toNat=i+m:=by omega
 have hb2:¬ (c=i+m):=by omega
 have hb3:(i:Int)<=(n:Int)+(m:Int):=by omega
 have hb4:¬ (c=i):=by omega
 have hcp1:∀ ty dc sc,(Builtin.copy_ #[253,253] ty #[.slice (some ⟨b,off+(i+m),none⟩) (n+m-(i+m)) dc,.slice (some ⟨b,off+i,none⟩) (n+m-i) sc]).run Tryz.prog w.drew=.ok (goInt (cs.drop i).length) (w.drew.setCells b (off+(i+m)) (cs.drop i)):=fun ty dc sc =>
  run_copy_cells w.drew _ _ ty 3 b (off+(i+m)) (n+m-(i+m)) dc ⟨b,off+i,none⟩ (n+m-i) sc (cs.drop i) t186 hsz (by grind)
   (fun j v hj=>by rw[Addr.add_lit,Qyg];exact hcs (i+j) v (by grind))
   (fun j hj=>by rw[Qyg];exact hsp _ (by omega)) (fun j hj=>by rw[Qyg];exact hfz _ (by omega)) (fun v hv=>h1c v (Qyl hv))
 obtain ⟨W1,hW1⟩:∃ W1,W1=w.drew.setCells b (off+(i+m)) (cs.drop i):=⟨_,rfl⟩
 have hsp1:∀ k,k<n+m->(W1.cell? ⟨b,off+k,none⟩).isSome=true:=fun k hk=>by
  rw[hW1];exact isSome_setCells b _ _ _ (fun j hj=>by rw[Qyg];exact hsp _ (by omega)) _ (hsp k hk)
 have hcp2:∀ (W:World),(∀ x,W.cell? x=W1.cell? x)->(∀ x,W.frozen? x=W1.frozen? x)->∀ ty dc,(Builtin.copy_ #[253,28] ty #[.slice (some ⟨b,off+i,none⟩) (n+m-i) dc,.slice (some ⟨vb,voff,none⟩) m vc]).run Tryz.prog W=.ok (goInt vs.length) (W.setCells b (off+i) vs):=fun W hWc hWf ty dc =>
  run_copy_cells W _ _ ty 3 b (off+i) (n+m-i) dc ⟨vb,voff,none⟩ m vc vs t186 hsz (by grind)
   (fun j v hj=>by
     rw[Addr.add_lit,hWc,hW1,World.cell?_setCells_out b _ _ _ _ (fun h _=>absurd h hvb)]
     exact hvs j v hj)
   (fun j hj=>by rw[hWc,Qyg];exact hsp1 _ (by omega)) (fun j hj=>by rw[hWf,hW1,World.frozen?_setCells,Qyg];exact hfz _ (by omega)) h1v
 rw[<- hW1] at hcp1
 go_enter Tryz.func240,Tryz.ntmps240
 go_wp2_with (simp only[hov])
 go_region_law_o (refine step_copy_runI rfl _ _ 253 253 rfl _ _ (by simp[Act.eval,Act.put]) (by simp[Act.eval,Act.put]) (hcp1 _ _ _) ?_)
 go_wp2_with (at_builtin;refine wpList_copy_runI _ rfl _ _ 253 28 rfl _ _ rfl rfl (hcp2 _ (fun _=>rfl) (fun _=>rfl) _ _) ?_)
 go_ret
 first | exact ⟨rfl,rfl⟩ | exact ⟨rfl,by rw[hW1]⟩
set_option maxHeartbeats 4000000 in
set_option maxRecDepth 100000 in
theorem JL (b off n c vb voff m vc:Nat) (vs:List Value) (w:World) (hm:0<m) (hroom:n+m<=c) (hc63:c<=9223372036854775807)
  (hvl:vs.length=m) (hsp:∀ j,j<m->(w.cell? ⟨b,off+n+j,none⟩).isSome=true) (hfz:∀ j,j<m->w.frozen? ⟨b,off+n+j,none⟩=false)
  (hvs:∀ j v,vs[j]?=some v->w.cell? ⟨vb,voff+j,none⟩=some v) (h1v:∀ v∈vs,v.oneCell'=true) :
  Calls Tryz.prog 240 #[.slice (some ⟨b,off,none⟩) n c,.int .i64 n,.slice (some ⟨vb,voff,none⟩) m vc] w fun e w' =>
   e=.returned (.slice (some ⟨b,off,none⟩) (n+m) c)/\w'=w.setCells b (off+n) vs:=by
 have t0:=Tryz.underlying0;have a0:=Tryz.isAgg0;have z0:=Tryz.sizeOf0;have v0:=Tryz.zeroValue0;have t3:=Tryz.underlying3;have a3:=Tryz.isAgg3;have z3:=Tryz.sizeOf3;have v3:=Tryz.zeroValue3;have t4:=Tryz.underlying4;have a4:=Tryz.isAgg4;have z4:=Tryz.sizeOf4;have v4:=Tryz.zeroValue4;have t186:=Tryz.underlying253;have a186:=Tryz.isAgg253;have z186:=Tryz.sizeOf253;have v186:=Tryz.zeroValue253;have t74:=Tryz.underlying28;have a74:=Tryz.isAgg28;have z74:=Tryz.sizeOf28;have v74:=Tryz.zeroValue28;have u0:=run_underlying t0;have u3:=run_underlying t3;have u4:=run_underlying t4;have u186:=run_underlying t186;have u74:=run_underlying t74;have mixed:=QdH;have hz1:¬ ((m:Int)=0):=by omega
 have hsrc:Src Tryz.prog 1 28 (.slice (some ⟨vb,voff,none⟩) m vc) m vs w:=Src.ofSlice w t74 ⟨vb,voff,none⟩ m vc vs (by omega) (fun j u hj=>by rw[Addr.add_lit];exact hvs j u hj) h1v
 go_enter Tryz.func240,Tryz.ntmps240
 go_wp2_with (at_builtin;refine wpList_append_room1 _ rfl _ _ 253 28 rfl 3 _ _ t186 i3z b off n c rfl _ rfl m vs hsrc hroom (by grind) (by grind) ?_)
 go_ret
 exact ⟨rfl,rfl⟩
set_option maxHeartbeats 4000000 in
set_option maxRecDepth 100000 in
theorem JM (base:Option Addr) (n c vb voff m vc:Nat) (cs vs:List Value) (w:World) (hm:0<m) (hnc:n<=c) (hroom:c<n+m) (hbig:(n+m)*8<=140737488355328)
  (hcl:cs.length=n) (hvl:vs.length=m) (hnil:base=none->n=0)
  (hcs:∀ a,base=some a->∀ j v,cs[j]?=some v->w.cell? (a.add j)=some v)
  (hvs:∀ j v,vs[j]?=some v->w.cell? ⟨vb,voff+j,none⟩=some v) (h1v:∀ v∈vs,v.oneCell'=true) :
  Calls Tryz.prog 240 #[.slice base n c,.int .i64 n,.slice (some ⟨vb,voff,none⟩) m vc] w fun e w' =>
   e=.returned (.slice (some ⟨w.heap.size,0,none⟩) (n+m) (grownCap w (n+m) c 3)) /\
   w'=w.drew.alloc (.cells ((cs++vs).toArray++Builtin.zeroCells (Value.int .i64 0).cells (grownCap w (n+m) c 3-(n+m))) 3):=by
 have t0:=Tryz.underlying0;have a0:=Tryz.isAgg0;have z0:=Tryz.sizeOf0;have v0:=Tryz.zeroValue0;have t3:=Tryz.underlying3;have a3:=Tryz.isAgg3;have z3:=Tryz.sizeOf3;have v3:=Tryz.zeroValue3;have t4:=Tryz.underlying4;have a4:=Tryz.isAgg4;have z4:=Tryz.sizeOf4;have v4:=Tryz.zeroValue4;have t186:=Tryz.underlying253;have a186:=Tryz.isAgg253;have z186:=Tryz.sizeOf253;have v186:=Tryz.zeroValue253;have t74:=Tryz.underlying28;have a74:=Tryz.isAgg28;have z74:=Tryz.sizeOf28;have v74:=Tryz.zeroValue28;have u0:=run_underlying t0;have u3:=run_underlying t3;have u4:=run_underlying t4;have u186:=run_underlying t186;have u74:=run_underlying t74;have mixed:=QdH;obtain ⟨i0,hi0,hz0,hzs,hzb⟩:=info_parts i3z;have hz1:¬ ((m:Int)=0):=by omega
 have hsrc:Src Tryz.prog i0.size 28 (.slice (some ⟨vb,voff,none⟩) m vc) m vs w:=by
  rw[hzs];exact Src.ofSlice w t74 ⟨vb,voff,none⟩ m vc vs (by omega) (fun j u hj=>by rw[Addr.add_lit];exact hvs j u hj) h1v
 have hold:(Builtin.firstCells i0.size n (.slice base n c)).run Tryz.prog w.drew=.ok cs.toArray w.drew:=by
  rw[hzs];cases base with
  | none =>
    have h0:=hnil rfl;subst h0;rw[List.length_eq_zero_iff.1 hcl];exact run_firstCells_none w.drew 1 0 0 c
  | some a=>exact run_firstCells_some w.drew 1 n a n c cs (by omega) (fun j v hj=>hcs a rfl j v hj)
 have hrun:∀ ty,(Builtin.append_ #[253,28] ty #[.slice base n c,.slice (some ⟨vb,voff,none⟩) m vc]).run Tryz.prog w=_:=fun ty =>
  run_append_grow_src w 253 28 ty 3 i0 _ t186 hi0 hz0 base n c cs hold _ m vs hsrc hroom (by omega) (by rw[hzb];exact growslice_fits hroom hbig)
 go_enter Tryz.func240,Tryz.ntmps240
 cases base with
 | none =>
   have h0:=hnil rfl;subst h0
   go_wp2_with (at_builtin;refine Lib.wpList_append_run _ rfl _ _ _ _ rfl _ _ rfl rfl _ _ (hrun _) ?_)
   go_ret
   exact ⟨rfl,rfl⟩
 | some a =>
   obtain ⟨ab,ao,asp⟩:=a
   go_wp2_with (at_builtin;refine Lib.wpList_append_run _ rfl _ _ _ _ rfl _ _ rfl rfl _ _ (hrun _) ?_)
   all_goals (go_ret;exact ⟨rfl,rfl⟩)
set_option maxHeartbeats 4000000 in
set_option maxRecDepth 100000 in
theorem WJ (b off n c i vb voff m vc:Nat) (cs vs:List Value) (w:World) (hi:i<n) (hm:0<m) (hnc:n<=c) (hroom:c<n+m) (hbig:(n+m)*8<=140737488355328)
  (hcl:cs.length=n) (hvl:vs.length=m)
  (hcs:∀ j v,cs[j]?=some v->w.cell? ⟨b,off+j,none⟩=some v)
  (hvs:∀ j v,vs[j]?=some v->w.cell? ⟨vb,voff+j,none⟩=some v) (h1c:∀ v∈cs,v.oneCell'=true) (h1v:∀ v∈vs,v.oneCell'=true) :
  Calls Tryz.prog 240 #[.slice (some ⟨b,off,none⟩) n c,.int .i64 i,.slice (some ⟨vb,voff,none⟩) m vc] w fun e w' =>
   e=.returned (.slice (some ⟨w.heap.size,0,none⟩) (n+m) (grownCap w (n+m) c 3)) /\
   w'=(((w.alloc (.cells ((cs.take i).toArray++Builtin.zeroCells (Value.int .i64 0).cells (n+m-i)++Builtin.zeroCells (Value.int .i64 0).cells (grownCap w (n+m) c 3-(n+m))) 3)).drew.setCells w.heap.size i vs).drew).setCells w.heap.size (i+m) (cs.drop i):=by
 have t0:=Tryz.underlying0;have a0:=Tryz.isAgg0;have z0:=Tryz.sizeOf0;have v0:=Tryz.zeroValue0;have t3:=Tryz.underlying3;have a3:=Tryz.isAgg3;have z3:=Tryz.sizeOf3;have v3:=Tryz.zeroValue3;have t4:=Tryz.underlying4;have a4:=Tryz.isAgg4;have z4:=Tryz.sizeOf4;have v4:=Tryz.zeroValue4;have t186:=Tryz.underlying253;have a186:=Tryz.isAgg253;have z186:=Tryz.sizeOf253;have v186:=Tryz.zeroValue253;have t74:=Tryz.underlying28;have a74:=Tryz.isAgg28;have z74:=Tryz.sizeOf28;have v74:=Tryz.zeroValue28;have u0:=run_underlying t0;have u3:=run_underlying t3;have u4:=run_underlying t4;have u186:=run_underlying t186;have u74:=run_underlying t74;have mixed:=QdH;obtain ⟨i0,hi0,hz0,hzs,hzb⟩:=info_parts i3z;have hz1:¬ ((m:Int)=0):=by omega
 have hz2:¬ ((i:Int)=(n:Int)):=by omega
 have hz3:(c:Int)<(n:Int)+(m:Int):=by omega
 have hsz:(Tryz.prog.info? 3).map (·.size)=some 1:=by grind
 have hbw:b<w.heap.size:=block_lt_of_cell (hcs 0 _ (Qxq (by omega)))
 have hvw:vb<w.heap.size:=block_lt_of_cell (hvs 0 _ (Qxq (by omega)))
 have hkk:(n:Int)+(m:Int)-(i:Int)=((n+m-i:Nat):Int):=by omega
 have hik:i+(n+m-i)=n+m:=by omega
 have hold:(Builtin.firstCells i0.size i (.slice (some ⟨b,off,none⟩) i c)).run Tryz.prog w.drew=.ok (cs.take i).toArray w.drew:=by
  rw[hzs]
  exact run_firstCells_some w.drew 1 i ⟨b,off,none⟩ i c (cs.take i) (by grind) (fun j v hj=>by
   rw[Addr.add_lit];rw[QxU] at hj;split at hj
   ·exact hcs j v hj
   ·cases hj)
 have hrz:∀ ty,(Builtin.append_ #[253,3] ty #[.slice (some ⟨b,off,none⟩) i c,.int .i64 ((n:Int)+(m:Int)-(i:Int))]).run Tryz.prog w =
   .ok (.slice (some ⟨w.heap.size,0,none⟩) (n+m) (grownCap w (n+m) c 3)) (w.drew.alloc (.cells ((cs.take i).toArray++Builtin.zeroCells (Value.int .i64 0).cells (n+m-i)++Builtin.zeroCells (Value.int .i64 0).cells (grownCap w (n+m) c 3-(n+m))) 3)):=fun ty=>by
  have h:=Lib.run_append_grow_zeros w 253 3 ty 3 i0 _ .i64 .i64 t186 t3 hi0 hz0 (some ⟨b,off,none⟩) i c (cs.take i) hold (n+m-i) (by omega) (by omega) (by omega) (by omega) (by rw[hzb];omega) (by rw[hzb,hik];exact growslice_fits hroom hbig)
  grind
 obtain ⟨G,hG⟩:∃ G,G=grownCap w (n+m) c 3:=⟨_,rfl⟩
 obtain ⟨ROW,hROW⟩:∃ ROW:Array Value,ROW=(cs.take i).toArray++Builtin.zeroCells (Value.int .i64 0).cells (n+m-i)++Builtin.zeroCells (Value.int .i64 0).cells (G-(n+m)):=⟨_,rfl⟩
 rw[<- hG] at hrz |-;rw[<- hROW] at hrz |-
 have hRl:n+m<=ROW.size:=by
  rw[hROW];simp[Builtin.zeroCells,Value.cells];omega
 obtain ⟨W1,hW1⟩:∃ W1,W1=w.drew.alloc (.cells ROW 3):=⟨_,rfl⟩
 rw[<- hW1] at hrz
 have hN:∀ j,j<n+m->(W1.cell? ⟨w.heap.size,j,none⟩).isSome=true:=fun j hj=>by
  rw[hW1,World.cell?_alloc_at (w:=w.drew) ROW _ w.heap.size j rfl,QxK (by omega)];rfl
 have hNf:∀ j,W1.frozen? ⟨w.heap.size,j,none⟩=false:=fun j=>by rw[hW1];exact World.frozen?_alloc_at (w:=w.drew) ROW _ w.heap.size j rfl
 have hOb:∀ j v,w.cell? ⟨b,j,none⟩=some v->W1.cell? ⟨b,j,none⟩=some v:=fun j v h=>by rw[hW1,World.cell?_alloc_past (w:=w.drew) _ b j hbw];exact h
 have hOv:∀ j v,w.cell? ⟨vb,j,none⟩=some v->W1.cell? ⟨vb,j,none⟩=some v:=fun j v h=>by rw[hW1,World.cell?_alloc_past (w:=w.drew) _ vb j hvw];exact h
 have hcpA:∀ (W:World),(∀ x,W.cell? x=W1.cell? x)->(∀ x,W.frozen? x=W1.frozen? x)->∀ ty dc,(Builtin.copy_ #[253,28] ty #[.slice (some ⟨w.heap.size,i,none⟩) (n+m-i) dc,.slice (some ⟨vb,voff,none⟩) m vc]).run Tryz.prog W=.ok (goInt vs.length) (W.setCells w.heap.size i vs):=fun W hWc hWf ty dc =>
  run_copy_cells W _ _ ty 3 w.heap.size i (n+m-i) dc ⟨vb,voff,none⟩ m vc vs t186 hsz (by grind)
   (fun j v hj=>by rw[Addr.add_lit,hWc];grind)
   (fun j hj=>by grind) (fun j hj=>by grind) h1v
 have hGn:n+m<=G:=by rw[hG];exact grownCap_ge w _ _ _
 have hG63:G<=9223372036854775807:=by
  have:=grownCap_le_maxLen w (n+m) c 3 (by unfold maxLen;omega)
  rw[<- hG] at this;unfold maxLen at this;omega
 have hGi:¬ (G=i):=by omega
 have hGim:¬ (G=i+m):=by omega
 have hci:¬ (c=i):=by omega
 have hbN:b≠w.heap.size:=by omega
 have hdl:(cs.drop i).length=n-i:=by grind
 have hcpB:∀ (W:World),(∀ x,W.cell? x=(W1.setCells w.heap.size i vs).cell? x)->(∀ x,W.frozen? x=(W1.setCells w.heap.size i vs).frozen? x)->∀ ty dc sc,(Builtin.copy_ #[253,253] ty #[.slice (some ⟨w.heap.size,i+m,none⟩) (n+m-(i+m)) dc,.slice (some ⟨b,off+i,none⟩) (n-i) sc]).run Tryz.prog W=.ok (goInt (cs.drop i).length) (W.setCells w.heap.size (i+m) (cs.drop i)):=fun W hWc hWf ty dc sc =>
  run_copy_cells W _ _ ty 3 w.heap.size (i+m) (n+m-(i+m)) dc ⟨b,off+i,none⟩ (n-i) sc (cs.drop i) t186 hsz (by grind)
   (fun j v hj=>by
     rw[Addr.add_lit,hWc,World.cell?_setCells_out _ _ _ _ _ (fun h _=>absurd h hbN),Qyg]
     grind)
   (fun j hj=>by rw[hWc];exact isSome_setCells _ _ _ _ (fun t ht=>hN _ (by omega)) _ (hN _ (by omega)))
   (fun j hj=>by rw[hWf,World.frozen?_setCells];exact hNf _) (fun v hv=>h1c v (Qyl hv))
 subst hW1;have hE1:∀ x,((w.alloc (.cells ROW 3)).drew).cell? x=(w.drew.alloc (.cells ROW 3)).cell? x:=fun x=>rfl
 have hE2:∀ x,((w.alloc (.cells ROW 3)).drew).frozen? x=(w.drew.alloc (.cells ROW 3)).frozen? x:=fun x=>rfl
 have hF1:∀ x,(((w.alloc (.cells ROW 3)).drew.setCells w.heap.size i vs).drew).cell? x=((w.drew.alloc (.cells ROW 3)).setCells w.heap.size i vs).cell? x:=fun x=>rfl
 have hF2:∀ x,(((w.alloc (.cells ROW 3)).drew.setCells w.heap.size i vs).drew).frozen? x=((w.drew.alloc (.cells ROW 3)).setCells w.heap.size i vs).frozen? x:=fun x=>rfl
 have hw1:IntKind.i64.wrap ((i:Int)+(m:Int))=(i:Int)+(m:Int):=by rw[IntKind.wrap_i64];omega
 have hb1:(0:Int)<=(i:Int)+(m:Int):=by omega
 have hin:i<=n:=by omega
 have htn:((i:Int)+(m:Int)).toNat=i+m:=by omega
 have hb3:(i:Int)<=(n:Int):=by omega
 clear hkk hik hold hROW hG hRl
 go_enter Tryz.func240,Tryz.ntmps240
 go_wp2_with (first
  | (at_builtin;refine Lib.wpList_append_run _ rfl _ _ _ _ rfl _ _ rfl rfl _ _ (hrz _) ?_)
  | (at_builtin;refine wpList_copy_runI _ rfl _ _ 253 28 rfl _ _ rfl rfl (hcpA _ hE1 hE2 _ _) ?_)
  | (at_builtin;refine wpList_copy_runI _ rfl _ _ 253 253 rfl _ _ rfl rfl (hcpB _ (fun _=>rfl) (fun _=>rfl) _ _ _) ?_))
 go_region_law_o (refine step_copy_runI rfl _ _ 253 253 rfl (.slice (some ⟨w.heap.size,i+m,none⟩) (n+m-(i+m)) (G-(i+m))) (.slice (some ⟨b,off+i,none⟩) (n-i) (c-i)) (by simp[Act.eval,Act.put]) (by simp[Act.eval,Act.put]) (hcpB _ hF1 hF2 3 (G-(i+m)) (c-i)) ?_)
 go_wp2
 go_ret
 exact ⟨rfl,rfl⟩
end Go.Pf
namespace Go.Pf
open Go Go.Ev Go.Proofs Go.RowKit Go.Shelf
set_option maxRecDepth 8000
noncomputable def QsX:TypeInfo:=(Tryz.prog.info? 3).get (by kernel_rfl)
section
variable {K:World->Prop}
theorem QiK (zs:List Int) (mv:Nat):ZC Tryz.prog K 243 [.aref 0 zs.length] [(0,QU zs mv)] [0] (.iv (.tup [])) [(0,QU zs.reverse zs.length)] :=
 qK (fun a cap w=>AnyE.slices_Reverse_empty Tryz.rev243 a cap w) (fun blk off cap zs w hh hl=>AnyE.slices_Reverse Tryz.rev243 (Value.int .i64) (fun _=>rfl) blk off cap zs w hh hl) zs mv
theorem QiL (zs:List Int) (mv i:Nat) (hi:i<zs.length):ZC Tryz.prog K 242 [.aref 0 zs.length,.iv (.int .i64 (i:Nat)),.iv (.int .i64 ((i+1:Nat):Int))] [(0,QU zs mv)] [] (.iv (Qfa (zs.eraseIdx i))) [] :=
 Qbx (fun blk off cap i j d w hh h1 h2 h3 h4=>AnyE.slices_Delete Tryz.del242 (Value.int .i64) (fun _=>rfl) 0 Tryz.zeroValue3 QsX (by kernel_rfl) (by kernel_rfl) blk off cap i j d w hh h1 h2 h3 h4) zs mv i hi
theorem QiM (zs:List Int) (mv i:Nat) (hi:i<=zs.length) (x:Int) (mv':Nat) (hlen:zs.length<=1000000):ZC Tryz.prog K 240 [.aref 0 zs.length,.iv (.int .i64 (i:Nat)),.aref 1 1] [(0,QU zs mv),(1,QU [x] mv')] [] (.iv (Qfa (zs.take i++x::zs.drop i))) [] :=
 Qbf
  (fun b n c i vb vc cs x w h1 h2 h3 h4 h5 h6 h7 h8 h9 h10 h11 tA tB kA kB h12 h13 h14 h15 h16=>U3 b 0 n c i vb 0 1 vc cs [x] w h1 (by omega) h2 h3 h4 h5 rfl h6 h7 h8 h9 h10 h11 tA tB kA kB h12 h13 h14 h15 h16)
  (fun b n c vb vc x w h1 h2 h3 h4 h5 h6=>JL b 0 n c vb 0 1 vc [x] w (by omega) h1 h2 rfl h3 h4 h5 h6)
  (fun base n c vb vc cs x w h1 h2 h3 h4 h5 h6 h7 h8=>JM base n c vb 0 1 vc cs [x] w (by omega) h1 h2 h3 h4 rfl h5 h6 h7 h8)
  (fun b n c i vb vc cs x w h1 h2 h3 h4 h5 h6 h7 h8 h9=>WJ b 0 n c i vb 0 1 vc cs [x] w h1 (by omega) h2 h3 h4 h5 rfl h6 h7 h8 h9)
  zs mv i hi x mv' hlen
end
end Go.Pf
namespace Go.Pf
open Go Go.Ev Go.Proofs Go.RowKit
set_option maxRecDepth 8000
def Qj7 (i:Nat) (kvs:List (MK × List (List IV))) (n:Nat):List (MK × List (List IV)):=mins (.int .i64 (n:Int)) (((Qg (.int .i64 (n:Int)) kvs).getD [])++[[.int .i64 (i:Nat)]]) kvs
def prf (ds:List Qy) (e:Nat->Int):Nat->List (MK × List (List IV))
 | 0=>[]
 | i+1=>match ds[i]? with
   | some d=>if d.what=4 then (cab ds e i).foldl (Qj7 i) (prf ds e i) else prf ds e i
   | none=>prf ds e i
theorem Qdz (ds:List Qy) (e:Nat->Int) (i:Nat) (h:i<ds.length):prf ds e (i+1)=if ds[i].what=4 then (cab ds e i).foldl (Qj7 i) (prf ds e i) else prf ds e i:=by
 simp only[prf,Qxq h]
theorem Vh (n:Int) (y:List (List IV)):∀ kvs:List (MK × List (List IV)),QN (.int .i64) kvs->QN (.int .i64) (mins (.int .i64 n) y kvs)
 | [],_=>⟨rfl,trivial⟩
 | p::r,h=>by
   unfold mins;split
   ·exact ⟨rfl,h.2⟩
   ·exact ⟨h.1,Vh n y r h.2⟩
theorem Wb (k j:MK) (y:List (List IV)):∀ kvs:List (MK × List (List IV)),Qg j (mins k y kvs)=if k=j then some y else Qg j kvs
 | []=>by simp[mins,Qg]
 | p::r=>by
   unfold mins;split
   ·rename_i h
    simp only[Qg]
    grind
   ·rename_i h
    simp only[Qg,Wb k j y r]
    grind
def Low (m:Nat) (kvs:List (MK × List (List IV))):Prop:=QN (.int .i64) kvs/\∀ k rows,Qg k kvs=some rows->rows.length<=m
theorem Low.add {m i:Nat} {kvs:List (MK × List (List IV))} (h:Low m kvs) (n:Nat):Low (m+1) (Qj7 i kvs n):=by
 refine ⟨Vh _ _ _ h.1,fun k rows hk=>?_⟩
 unfold Qj7 at hk;rw[Wb] at hk;split at hk
 ·injection hk with hk
  subst hk;cases hf:Qg (.int .i64 (n:Int)) kvs with
  | none=>simp
  | some r=>have:=h.2 _ _ hf;simp;omega
 ·have:=h.2 _ _ hk;omega
theorem Low.fold {i:Nat}:∀ (l:List Nat) {m:Nat} {kvs:List (MK × List (List IV))},Low m kvs->Low (m+l.length) (l.foldl (Qj7 i) kvs)
 | [],m,kvs,h=>h
 | n::l,m,kvs,h=>by
   have:=Low.fold (i:=i) l (h.add (i:=i) n)
   grind
theorem Low.mono {m m':Nat} {kvs:List (MK × List (List IV))} (h:Low m kvs) (hm:m<=m'):Low m' kvs:=⟨h.1,fun k rows hk=>Qx7 (h.2 k rows hk) hm⟩
theorem qQ (ds:List Qy) (e:Nat->Int) (hc:OkD ds ds.length):∀ i,i<=ds.length->Low (i*ds.length) (prf ds e i)
 | 0,_=>⟨trivial,fun k rows h=>by simp[prf,Qg] at h⟩
 | i+1,h=>by
   have ih:=qQ ds e hc i (by omega)
   rw[Qdz ds e i (by omega)]
   have e1:(i+1)*ds.length=i*ds.length+ds.length:=by grind
   rw[e1];split
   ·have hcl:=Yk e hc i (by omega) (by omega)
    have hcb:=hc.cnt i (by omega) (by omega)
    exact (ih.fold _).mono (by omega)
   ·exact ih.mono (by omega)
theorem Low.len {m:Nat} {kvs:List (MK × List (List IV))} (h:Low m kvs) (k:MK):((Qg k kvs).getD []).length<=m:=by
 cases hf:Qg k kvs with
 | none=>simp
 | some r=>exact h.2 _ _ hf
theorem Qcd (ds:List Qy) (i:Nat) (h:i<ds.length):ZL (ds.take (i+1))=if ds[i].what=1 then ZL (ds.take i)++[ds[i]] else ZL (ds.take i):=by
 rw[Qxt h];unfold ZL;rw[List.filter_append];generalize List.filter ZN (List.take i ds)=l;by_cases hw:ds[i].what=1<;>simp[ZN,hw]
theorem Qf4 (ds:List Qy) (i:Nat):(ZL (ds.take i)).length=wn ds i:=by rw[YZ];rfl
@[simp] def Quq (kvs:List (MK × List (List IV))):IV:=.map (kvs.map fun p=>(p.1,.sl 1 p.2))
theorem QiI (n:Nat) (z:IV):W8 (List.replicate n [AV.iv z])=some (List.replicate n [z]):=by
 have:=Qr (List.replicate n [z]);simpa[emb] using this
theorem Ue (l:List Nat) (mv:Nat):QU (l.map fun (n:Nat)=>(n:Int)) mv=AO.arr 3 1 (emb (l.map fun (n:Nat)=>[IV.int .i64 (n:Int)])) mv:=by simp[QU,emb]
theorem Qbd (l:List Nat):Qfa (l.map fun (n:Nat)=>(n:Int))=US l:=by simp[Qfa]
section
variable {K:World->Prop} {C:Env->Qh->Prop}
theorem UC (m:Nat->Nat) (e:TypeId) (sz:Nat) (xs:List (List IV)) (mv:Nat):rnO m (.arr e sz (emb xs) mv)=.arr e sz (emb xs) mv:=QfG m e sz xs mv
theorem Wj (dom:List Nat) (e:TypeId) (sz:Nat) (xs:List (List IV)) (mv:Nat):clO dom (.arr e sz (emb xs) mv)=true:=Qhi dom e sz xs mv
theorem Qe3 {id n mv:Nat} {d:Option Nat} {e:Env} {o:Qh} (l:List Nat) (hid:Qc o id=some (.arr 3 1 (emb (l.map fun (n:Nat)=>[IV.int .i64 (n:Int)])) mv)) (hn:n=l.length)
  (h:C (bnd d (.iv (.tup [])) (Qim (Xs [id] [0] o) e)) (Qlt [id] (Xs [id] [0] o) o [(0,.arr 3 1 (emb (l.reverse.map fun (n:Nat)=>[IV.int .i64 (n:Int)])) n)])):HK Tryz.prog K 243 [id] d C e o [.aref id n]:=by
 have hg:=QiK (K:=K) (l.map fun (n:Nat)=>(n:Int)) mv
 rw[<- List.map_reverse,Ue,Ue,QxB] at hg;subst hn;refine ZP hg (by simp[rn,nth]) ?_ ?_
 ·refine ⟨by simp,by simp[clA],?_,?_,by simp[Yp]⟩
  ·intro p hp
   simp only[Qx9] at hp;subst hp;exact ⟨by simp,by rw[UC];simpa[nth] using hid,Wj _ _ _ _ _,rfl⟩
  ·intro i hi h
   simp at hi;subst hi;simp[Qc] at h
 ·simpa[rn] using h
theorem qm {id n mv:Nat} {d:Option Nat} {e:Env} {o:Qh} (l:List Nat) (i:Nat) (hi:i<l.length) (hid:Qc o id=some (.arr 3 1 (emb (l.map fun (n:Nat)=>[IV.int .i64 (n:Int)])) mv)) (hn:n=l.length) {avs:List AV} (ha:avs=[.aref id n,.iv (.int .i64 (i:Nat)),.iv (.int .i64 ((i+1:Nat):Int))])
  (h:C (bnd d (.iv (US (l.eraseIdx i))) (Qim (Xs [id] [] o) e)) (Qlt [id] (Xs [id] [] o) o [])):HK Tryz.prog K 242 [id] d C e o avs:=by
 have hg:=QiL (K:=K) (l.map fun (n:Nat)=>(n:Int)) mv i (by simpa using hi)
 have e1:(l.map fun (n:Nat)=>(n:Int)).eraseIdx i=(l.eraseIdx i).map fun (n:Nat)=>(n:Int):=by simp[List.eraseIdx_eq_take_drop_succ]
 rw[e1,Ue,Qbd,QxB] at hg;subst hn;refine ZP hg (by rw[ha];simp[rn,nth]) ?_ ?_
 ·refine ⟨by simp,by simp[clA],?_,?_,by simp⟩
  ·intro p hp
   simp only[Qx9] at hp;subst hp;exact ⟨by simp,by rw[UC];simpa[nth] using hid,Wj _ _ _ _ _,rfl⟩
  ·intro i hi h
   simp at hi;subst hi;simp[Qc] at h
 ·simpa[rn] using h
theorem ql {id id' n mv mv':Nat} {d:Option Nat} {e:Env} {o:Qh} (l:List Nat) (i:Nat) (hi:i<=l.length) (x:Nat) (hlen:l.length<=1000000) (hne:id≠id') (hid:Qc o id=some (.arr 3 1 (emb (l.map fun (n:Nat)=>[IV.int .i64 (n:Int)])) mv)) (hid':Qc o id'=some (.arr 3 1 [[.iv (.int .i64 (x:Nat))]] mv')) (hn:n=l.length)
  (h:C (bnd d (.iv (US (l.take i++x::l.drop i))) (Qim (Xs [id,id'] [] o) e)) (Qlt [id,id'] (Xs [id,id'] [] o) o [])):HK Tryz.prog K 240 [id,id'] d C e o [.aref id n,.iv (.int .i64 (i:Nat)),.aref id' 1]:=by
 have hg:=QiM (K:=K) (l.map fun (n:Nat)=>(n:Int)) mv i (by simpa using hi) x mv' (by simpa using hlen)
 have e1:(l.map fun (n:Nat)=>(n:Int)).take i++(x:Int)::(l.map fun (n:Nat)=>(n:Int)).drop i=(l.take i++x::l.drop i).map fun (n:Nat)=>(n:Int):=by simp
 rw[e1,Ue,Qbd,QxB] at hg;subst hn;refine ZP hg (by simp[rn,nth]) ?_ ?_
 ·refine ⟨by simpa using hne,by simp[clA],?_,?_,by simp⟩
  ·intro p hp
   simp only[Qx4,QyD,or_false] at hp;rcases hp with rfl | rfl
   ·exact ⟨by simp,by rw[UC];simpa[nth] using hid,Wj _ _ _ _ _,rfl⟩
   ·exact ⟨by simp,by simpa[nth,rnO,rnL,rn] using hid',by simp[clO,clAL,clA],rfl⟩
  ·intro i hi h
   simp at hi;have:i=0\/i=1:=by omega
   rcases this with rfl | rfl<;>simp[Qc] at h
 ·simpa[rn] using h
end
section
variable {K:World->Prop} (hK:∀ w w',K w->Below w.heap.size w w'->K w')
include hK
theorem QlU (c:Qn) (n:Nat) (hn:n<2 ^ 63) (hc:OkD c.deeds c.deeds.length) (hl:c.deeds.length<=100) :
  Ev.Good Tryz.prog K 232 [QO c.deeds,.clo 233 [] [.ptr [.int .i64 n],.ptr (JY c)]] (.agg (Xk c.deeds (Zq c.deeds n) (Quq (prf c.deeds (Zq c.deeds n) c.deeds.length)))):=by
 refine Qb hK Qm9 (by simp) ?_
 simp;intros
 refine QI (fun i=>[(1,AV.iv (.clo 233 [] [.ptr [.int .i64 n],.ptr (JY c)])),(4,.loc 4 0),(5,.loc 5 0),(16,AV.iv (QO c.deeds)),(17,AV.iv (.int .i64 c.deeds.length)),(18,AV.iv (IV.int IntKind.i64 (i:Nat)))])
  (fun i=>[(4,AO.box [.iv (.sl 1 []),.iv (.sl 2 []),.iv (.map [])]),(5,AO.box [.aref 13 (i+1),.aref 6001 (ZL (c.deeds.take i)).length,.oref 14]),(13,AO.arr 253 1 (emb ((Qhr c.deeds (Zq c.deeds n) i).map fun c=>[US c])) 0),
    (14,.mapr 3 1 (prf c.deeds (Zq c.deeds n) i) none),(6001,.arr 257 2 (emb ((ZL (c.deeds.take i)).map lkC)) 0)]) c.deeds.length (fun i=>True) trivial ?_ ?_
 ·intro _
  rw[Qa QcP.eq_1];simp[-List.map_map,QE,Q1,QX,Qr,QxH]
 ·intro i hi _ ih
  have hcl:=Yk (Zq c.deeds n) hc i (by omega) (by omega)
  have hcb:=hc.cnt i (by omega) (by omega)
  have hd:=hc i hi hi;have hw:=QoY c.deeds i;have hlw:=Qf4 c.deeds i;have hlo:=qQ c.deeds (Zq c.deeds n) hc i (by omega)
  have hg202:=QlT hK c n i hn hi;have hei:=Qd4 c.deeds n i hi;have hii:i*c.deeds.length<=100*100:=QyM (by omega) (by omega)
  rw[Qhq,Qcd _ _ hi,Qai _ _ _ hi,Qdz _ _ _ hi] at ih;rw[Qa QcP.eq_1]
  have hcg:(Qhr c.deeds (Zq c.deeds n) i)[i]?=some (cab c.deeds (Zq c.deeds n) i):=by
   rw[Qxq (by simp),Qah _ _ _ _ (by omega)]
  have hcl2:=QjV c.deeds (Zq c.deeds n) i;generalize Zq c.deeds n i=ei at *;generalize Qhr c.deeds (Zq c.deeds n) i=cs at *;generalize prf c.deeds (Zq c.deeds n) i=kvs at *;generalize ZL (c.deeds.take i)=lk at *;generalize cab c.deeds (Zq c.deeds n) i=now at *
  have hcg2:cs[i]'(by omega)=now:=by
   grind
  have hnl:now.length<=100:=by omega
  simp[hi,hcl2,hcg2,-List.map_map,QE,Q1,QX,Qr];intro _;refine ⟨by omega,?_⟩
  refine QmQ (rows:=List.replicate now.length [IV.int .i64 0]) (QiI _ _) (by simp) (by simp) ?_
  rcases hd with ⟨h1,h2,h3,h4⟩ | ⟨h1,h2,h3,h4⟩ | ⟨h1,h4⟩
  ·simp only[inR] at h3 h2
   have hp:(if ei=1 then (now.length:Int)+1-1-c.deeds[i].pos else c.deeds[i].pos)=(plc c.deeds[i].pos ei (now.length+1):Nat):=by
    unfold plc;omega
   have hpl:plc c.deeds[i].pos ei (now.length+1)<=now.length:=Qky (by omega)
   have hg214:=Qcp hK c.deeds[i].pos ei (now.length+1) (by omega) (by omega)
   rw[hp] at hg214;simp[Y4,h1,<- hlw] at ih;generalize plc c.deeds[i].pos ei (now.length+1)=at_ at *;by_cases hf:c.deeds[i].frm=2
   ·have hg:=hg202 hf
    simp[hi,hf,h1,-List.map_map,QE,Q1,QX,Qr];refine ⟨by kernel_rfl,cK (by simpa using hg) ?_⟩
    simp[hi,hf,h1,-List.map_map,QE,Q1,QX,Qr];intro _;refine ⟨by omega,cK hg214 ?_⟩
    simp[hi,hf,h1,-List.map_map,QE,Q1,QX,Qr];intro _;refine ql (mv:=now.length) (mv':=0) now at_ hpl lk.length (by omega) (by simp) (by simp[emb,-List.map_map]) (by simp) rfl ?_
    simp[hi,hf,h1,-List.map_map,QE,Q1,QX,Qr]
    grind
   ·rw[if_neg hf] at hei
    simp[hi,hf,h1,-List.map_map,QE,Q1,QX,Qr];rw[<- hei];intro _;refine ⟨by omega,cK hg214 ?_⟩
    simp[hi,hf,h1,-List.map_map,QE,Q1,QX,Qr];intro _;refine ql (mv:=now.length) (mv':=0) now at_ hpl lk.length (by omega) (by simp) (by simp[emb,-List.map_map]) (by simp) rfl ?_
    simp[hi,hf,h1,-List.map_map,QE,Q1,QX,Qr]
    grind
  ·have h11:¬ c.deeds[i].what=1:=by omega
   simp only[inR] at h3 h2
   have hp:(if ei=1 then (now.length:Int)-1-c.deeds[i].pos else c.deeds[i].pos)=(plc c.deeds[i].pos ei now.length:Nat):=by
    unfold plc;split<;>omega
   have hpl:plc c.deeds[i].pos ei now.length<now.length:=QfN (by omega)
   have hg214:=Qcp hK c.deeds[i].pos ei now.length (by omega) (by omega)
   rw[hp] at hg214;simp[Y4,h1] at ih;generalize plc c.deeds[i].pos ei now.length=at_ at *;have he:now.take at_++now.drop (at_+1)=now.eraseIdx at_:=by grind
   rw[<- QyT,<- QyU,<- QxV,he] at ih;by_cases hf:c.deeds[i].frm=2
   ·have hg:=hg202 hf
    simp[hi,hf,h1,-List.map_map,QE,Q1,QX,Qr];refine ⟨by kernel_rfl,cK (by simpa using hg) ?_⟩
    simp[hi,hf,h1,-List.map_map,QE,Q1,QX,Qr];intro _;refine cK hg214 ?_;simp[hi,hf,h1,-List.map_map,QE,Q1,QX,Qr];refine ⟨by omega,?_⟩
    refine qm (mv:=now.length) now at_ hpl (by simp[emb,-List.map_map]) rfl (by simp) ?_
    simp[hi,hf,h1,-List.map_map,QE,Q1,QX,Qr]
    grind
   ·rw[if_neg hf] at hei
    simp[hi,hf,h1,-List.map_map,QE,Q1,QX,Qr];rw[<- hei];intro _;refine cK hg214 ?_;simp[hi,hf,h1,-List.map_map,QE,Q1,QX,Qr];refine ⟨by omega,?_⟩
    refine qm (mv:=now.length) now at_ hpl (by simp[emb,-List.map_map]) rfl (by simp) ?_
    simp[hi,hf,h1,-List.map_map,QE,Q1,QX,Qr]
    grind
  ·have hf:¬ c.deeds[i].frm=2:=by omega
   rcases h1 with h1 | h1
   ·simp[Y4,h1] at ih
    simp[hi,hf,h1,-List.map_map,QE,Q1,QX,Qr];refine Qe3 (mv:=now.length) now (by simp[emb,-List.map_map]) rfl ?_
    simp[hi,hf,h1,-List.map_map,QE,Q1,QX,Qr,QxH]
    grind
   ·simp[Y4,h1] at ih
    simp[hi,hf,h1,-List.map_map,QE,Q1,QX,Qr];intro _
    refine QI (fun k=>[(1,AV.iv (.clo 233 [] [.ptr [.int .i64 n],.ptr (JY c)])),(4,.loc 4 0),(5,.loc 5 0),(6,AV.iv (IV.int IntKind.i64 (i:Nat))),(8,AV.aref 29 now.length),(16,AV.iv (QO c.deeds)),(17,AV.iv (.int .i64 c.deeds.length)),(18,AV.iv (IV.int IntKind.i64 (i:Nat))),(90,AV.aref 29 now.length),(91,AV.iv (.int .i64 now.length)),(92,AV.iv (.int .i64 (k:Nat)))])
     (fun k=>[(4,AO.box [.iv (.sl 1 []),.iv (.sl 2 []),.iv (.map [])]),(5,AO.box [.aref 13 (i+1),.aref 6001 lk.length,.oref 14]),(13,AO.arr 253 1 (emb (cs.map fun c=>[US c])) 0),
       (14,.mapr 3 1 ((now.take k).foldl (Qj7 i) kvs) none),(29,AO.arr 3 1 (emb (now.map fun (n:Nat)=>[.int .i64 (n:Int)])) now.length),(6001,AO.arr 257 2 (emb (lk.map lkC)) 0)]) now.length (fun _=>True) trivial ?_ ?_
    ·intro _
     rw[Qa QcQ.eq_1];simp[-List.map_map,QE,Q1,QX,Qr,QxH]
     grind
    ·intro k hk _ ih2
     rw[Qa QcQ.eq_1];have hlk:Low (i*c.deeds.length+(now.take k).length) ((now.take k).foldl (Qj7 i) kvs):=hlo.fold _;rw[Qxt hk,List.foldl_append] at ih2;generalize (now.take k).foldl (Qj7 i) kvs=kv at *;have hkl:(List.take k now).length<=100:=by simp;omega
     have hle:=hlk.len (.int .i64 (now[k]:Nat));have hkk:=hlk.1;have hkk2:=Vh (now[k]:Nat) (((Qg (.int .i64 ((now[k]:Nat):Int)) kv).getD [])++[[.int .i64 (i:Nat)]]) kv hkk;have hfm:=Wb (.int .i64 ((now[k]:Nat):Int)) (.int .i64 ((now[k]:Nat):Int)) (((Qg (.int .i64 ((now[k]:Nat):Int)) kv).getD [])++[[.int .i64 (i:Nat)]]) kv;rw[if_pos rfl] at hfm;simp[Qj7] at ih2;simp[hk,hkk,hkk2,hfm,-List.map_map,QE,Q1,QX,Qr]
     grind
def pmC (c:Qn) (n:Nat):IV:=Quq (prf c.deeds (Zq c.deeds n) c.deeds.length)
theorem Qfk (c:Qn) (hc:OkC c):QbF K c (pmC c):=fun n hn=>by
 have h:=hc.len;have h2:=Uo c.deeds;have h3:=YV (show Xy c.deeds<=12 by omega)
 exact QlU hK c n (by omega) hc.deeds (by omega)
end
end Go.Pf
namespace Go.Pf
open Go Go.Proofs Go.RowKit Go.Maps Go.Sort Go.Shelf
variable {P:Program} {ρ:Ren}
set_option maxRecDepth 100000 in
set_option maxHeartbeats 1000000 in
theorem Qap (L:SlLaysZI.n10 P ρ) {H:Type} (F:Fence) (n:Nat) (h10:F.fn (ρ.f 10)) (hro:F.round=none) (hn:1<=n) (l Bm om b nn:Nat) (D0:DataW H) {R:Value->Option (DataW H × List MemPlace)} (J:List Int->World->Prop)
  (hY:∀ pre x W,J pre W->pre.length<Maps.size D0->YieldAt F (n-1) P l #[encZ x] W fun e W'=>e=.returned (.bool true)/\J (pre++[x]) W'/\KeepsWalks W W')
  (W:World) (hJ:AbidesFrom W.heap.size J) (hm:W.cell? ⟨Bm,om,none⟩=some (.map (some b))) (hown:W.ownsMap P (ρ.t 26) R b nn D0) (h0:J [] W) :
  CallsIn F n P (ρ.f 10) #[.func (.yield l) #[] #[],.pointer (some ⟨Bm,om,none⟩)] W fun e W'=>(∃ v,e=.returned v)/\∃ ss:List Int,ss.Perm (intKeys D0)/\J ss W':=by
 have mixed:=L.mixed;have t0:=L.t0;have a0:=L.a0;have z0:=L.z0;have v0:=L.v0;have t4:=L.t4;have a4:=L.a4;have z4:=L.z4;have v4:=L.v4;have t23:=L.t23;have a23:=L.a23;have z23:=L.z23;have v23:=L.v23;have t26:=L.t26;have a26:=L.a26;have z26:=L.z26;have v26:=L.v26;have t33:=L.t33;have a33:=L.a33;have z33:=L.z33;have v33:=L.v33;have u0:=run_underlying L.t0;have u4:=run_underlying L.t4;have u23:=run_underlying L.t23;have u26:=run_underlying L.t26;have u33:=run_underlying L.t33;obtain ⟨_,_,FG⟩:=L.f10;refine callsIn_of_wp FG rfl h10 ?_ hro;simp only[SlBodyZ.n10_ntmps ρ,Qyo,QxA,QxL,Nat.reduceAdd,Nat.reduceSub,Array.replicate_succ,Array.replicate_zero,List.push_toArray,List.append_toArray,Qyj,Qyt]
 gi_wp2_with (first
  | (gi_at_range;refine wpListIn_range_own _ rfl _ (ρ.t 23) rfl (ρ.t 26) (ρ.t 3) (int_keyed L.t26) L.t23 _ b nn _ rfl hown ?_;intro w0 hrg0 hg0 hs0)
  | gi_in)
 go_frame
 gi_loopw [3] (fun _ wr=>∃ (left:Lit->Bool) (cnt:Nat) (ss:List Int),wr.ranges P (ρ.t 26) R b W.heap.size nn D0 left cnt/\ss.length+cnt<=Maps.size D0/\CollectedI D0 left ss/\J ss wr)
  (fun _ wr=>wr.rangeLeft b W.heap.size)
 case atStart =>
  exact ⟨_,_,[],hrg0,by simp,CollectedI.start D0,hJ [] W w0 none h0 hg0 (fun r e=>by cases e)⟩
 case round =>
  obtain ⟨left,cnt,ss,hrg,hcs,hC,hJs⟩:=hrel
  gi_wp2_with (first
   | (gi_at_next;refine wpListIn_next_ranges _ rfl _ rfl (ρ.t 26) (int_keyed L.t26) R encZ id (fun key kl hk=>by obtain ⟨x,hx,_⟩:=Maps.keyOf_i64 L.t26 hk;exact ⟨x,hx⟩) (fun v _ _=>⟨v,rfl⟩) b W.heap.size nn _ _ _ rfl hrg ?_ ?_)
   | gi_in)
  ·
   intro hc0 hl0
   gi_wp2
   go_end0
   exact ⟨⟨_,rfl⟩,ss,hC.perm hown (int_keyed L.t26) L.t26 hl0,hJs⟩
  ·
   intro x c kl yd yp w2 cnt2 hkey hlk hv hat hrg2 hlt hg2 hs2 hen;obtain ⟨x',ex,rfl,_⟩:=Maps.keyOf_i64 L.t26 hkey;obtain rfl:x=x':=encZ_inj ex;have hJ2:J ss w2:=hJ ss wr w2 (some W.heap.size) hJs hg2 (fun r e=>by cases e;exact ⟨Qxw _,hrg.iter_walk⟩)
   obtain ⟨fn,tmps,assign,body,hy,hR⟩:=hY ss x w2 hJ2 (by omega)
   clear hs2
   gi_wp2
   refine hR.mono ?_
   rintro e W3 ⟨rfl,hJ3,hk3⟩
   gi_wp2
   have hrg3:=hrg2.of_walks hk3
   go_roundw
   case rel=>exact ⟨_,cnt2,ss++[x],hrg3,by simp;omega,hC.step hlk hat,hJ3⟩
   case measure=>rw[hrg3.left_eq,hrg.left_eq];exact hlt
set_option maxRecDepth 100000 in
set_option maxHeartbeats 1000000 in
theorem WK (L:SlLaysZI.n10 P ρ) {H:Type} (F:Fence) (n:Nat) (h10:F.fn (ρ.f 10)) (hro:F.round=none) (hn:1<=n) (Bm om b nn:Nat) (D0:DataW H) {R:Value->Option (DataW H × List MemPlace)} (w:World) (hBm:Bm<w.heap.size)
  (hm:w.cell? ⟨Bm,om,none⟩=some (.map (some b))) (hown:w.ownsMap P (ρ.t 26) R b nn D0) :
  SeqGives F n P (ρ.f 10) #[.pointer (some ⟨Bm,om,none⟩)] encZ (fun ss=>ss.Perm (intKeys D0)) (Maps.size D0) w:=fun l J W hW hJ hY h0=>by
 have hown':W.ownsMap P (ρ.t 26) R b nn D0:=by
  have hbl:=hown.lt;obtain ⟨es,clock,hb,Ft,hs,hD⟩:=hown;exact ⟨es,clock,(hW.block b hbl).trans hb,Ft,hs,hD⟩
 exact Qap { L with } F n h10 hro hn l Bm om b nn D0 J hY W hJ ((hW.cell (p:=⟨Bm,om,none⟩) hBm).trans hm) hown' h0
set_option maxRecDepth 100000 in
set_option maxHeartbeats 1000000 in
theorem V2 (L:SlLaysZI.n10 P ρ) (F:Fence) (n:Nat) (h10:F.fn (ρ.f 10)) (hro:F.round=none) (l Bm om:Nat) (J:List Int->World->Prop) (W:World) (hJ:AbidesFrom W.heap.size J)
  (hm:W.cell? ⟨Bm,om,none⟩=some (.map none)) (h0:J [] W) :
  CallsIn F n P (ρ.f 10) #[.func (.yield l) #[] #[],.pointer (some ⟨Bm,om,none⟩)] W fun e W'=>(∃ v,e=.returned v)/\∃ ss:List Int,ss=[]/\J ss W':=by
 have mixed:=L.mixed;have t0:=L.t0;have a0:=L.a0;have z0:=L.z0;have v0:=L.v0;have t4:=L.t4;have a4:=L.a4;have z4:=L.z4;have v4:=L.v4;have t23:=L.t23;have a23:=L.a23;have z23:=L.z23;have v23:=L.v23;have t26:=L.t26;have a26:=L.a26;have z26:=L.z26;have v26:=L.v26;have t33:=L.t33;have a33:=L.a33;have z33:=L.z33;have v33:=L.v33;have u0:=run_underlying L.t0;have u4:=run_underlying L.t4;have u23:=run_underlying L.t23;have u26:=run_underlying L.t26;have u33:=run_underlying L.t33;obtain ⟨_,_,FG⟩:=L.f10;refine callsIn_of_wp FG rfl h10 ?_ hro;simp only[SlBodyZ.n10_ntmps ρ,Qyo,QxA,QxL,Nat.reduceAdd,Nat.reduceSub,Array.replicate_succ,Array.replicate_zero,List.push_toArray,List.append_toArray,Qyj,Qyt];have hrg:=run_range_nilMap (P:=P) W (ρ.t 23) (ρ.t 26) (ρ.t 3) L.t23;have hnx:∀ ty,(Instr.next (.pointer (some ⟨W.heap.size,0,none⟩)) false ty).run P (W.alloc (.mapIter none 0 #[] 0))=_:=fun ty=>run_next_nilMap _ ty 0 0 #[]
 gi_wp2
 refine wpIn_loop_rounds 1 ?_;rw[roundsIn_succ]
 gi_wp2
 go_end0
 exact ⟨⟨_,rfl⟩,[],rfl,hJ [] W _ none h0 (World.grownBy_alloc W _ none) (fun r e=>by cases e)⟩
set_option maxRecDepth 100000 in
set_option maxHeartbeats 1000000 in
theorem J0 (L:SlLaysZI.n10 P ρ) (F:Fence) (n:Nat) (h10:F.fn (ρ.f 10)) (hro:F.round=none) (Bm om:Nat) (w:World) (hBm:Bm<w.heap.size) (hm:w.cell? ⟨Bm,om,none⟩=some (.map none)) :
  SeqGives F n P (ρ.f 10) #[.pointer (some ⟨Bm,om,none⟩)] encZ (fun ss:List Int=>ss=[]) 0 w:=fun l J W hW hJ _ h0 =>
 V2 { L with } F n h10 hro l Bm om J W hJ ((hW.cell (p:=⟨Bm,om,none⟩) hBm).trans hm) h0
end Go.Pf
namespace Go.Proofs
open Go.Shelf Go.RowKit Go.Maps Go.Sort
theorem Tryz.sorts122 (m:Nat):AnyZI.SortsIn Tryz.prog Tryz.sorted191_ren Fence.wide m :=
 ⟨fun blk off cap ss W hH hblk hsz=>callsIn_wide.2 (AnyM.slices_Sort_int Tryz.sort122 blk off cap ss W hH hblk hsz),
  fun p cap W=>callsIn_wide.2 (AnyM.slices_Sort_int_none Tryz.sort122 p cap W)⟩
end Go.Proofs
namespace Go.Pf
open Go Go.Ev Go.Proofs Go.RowKit Go.Shelf
set_option maxRecDepth 8000
theorem VB (lb:Array Value) (S:List Int->Prop) (N:Nat) (hN:N<=1000000) (w:World) (hseq:SeqGives Fence.wide 2 Tryz.prog 222 lb encZ S N w) :
  Calls Tryz.prog 191 #[.func (.func 222) #[] lb] w fun e w'=>∃ (v:Value) (ss:List Int),e=.returned v/\S ss /\
   w'.ownsRow w.heap.size 3 1 v ss.length ((ss.mergeSort (fun x y=>decide (x<=y))).map encZ)/\(v=.slice none 0 0↔ss=[])/\Below w.heap.size w w':=by
 refine (callsIn_wide (n:=5)).1 ?_;exact AnyZI.sorted_in Tryz.sorted191 Fence.wide 5 trivial trivial trivial trivial rfl (by omega) (Tryz.sorts122 _) (enters_of Tryz.func122 (by kernel_rfl) rfl) 222 lb trivial (enters_of Tryz.func222 (by kernel_rfl) rfl) S N (by unfold maxLen;omega) (by omega) w hseq
theorem insert_perm {H:Type} (x:Lit × DataW H):∀ l:List (Lit × DataW H),(DataW.insert x l).Perm (x::l)
 | []=>List.Perm.refl _
 | y::r=>by
   unfold DataW.insert;split
   ·exact List.Perm.refl _
   ·exact ((insert_perm x r).cons y).trans (List.Perm.swap x y r)
theorem sorted_perm {H:Type}:∀ l:List (Lit × DataW H),(l.foldr DataW.insert []).Perm l
 | []=>List.Perm.refl _
 | x::r=>by
   rw[List.foldr_cons];exact (insert_perm x _).trans ((sorted_perm r).cons x)
def Qj5:Value->Option (DataW Nat × List MemPlace):=fun _=>some (.nil,[])
theorem Qpw {x:MapEntry} {n:Int} (h:x.key=.int .i64 n) (hn : -9223372036854775808<=n/\n<9223372036854775808):WideElems.rd Tryz.prog 3 Qj5 x=some (.int .i64 n,.nil):=by
 have hw:(Lit.int .i64 n).wf=true:=by
  have h1:=hn.1;have h2:=hn.2;simp[Lit.wf,IntKind.inR,IntKind.min,IntKind.max,IntKind.bits,IntKind.signed];omega
 simp[WideElems.rd,h,Qj5,keyOf,Tryz.underlying3,mapKey,hw]
section
variable {K:World->Prop}
theorem Ql0 (kvs:List (MK × IV)) (ks:List Int) (hk:kvs.map (·.1)=ks.map (fun x=>MK.int .i64 x)) (hwf:∀ x∈ks,-9223372036854775808<=x/\x<9223372036854775808) (hlen:ks.length<=1000000) :
  Ev.Good Tryz.prog K 191 [.clo 222 [] [.ptr [.map kvs]]] (Yq (ks.mergeSort fun x y=>decide (x<=y))):=by
 intro w ok vs hK hnew hl hvs
 obtain ⟨v0,rfl⟩:∃ v0,vs=[v0]:=by
  match vs,hl with
  | [v],_=>exact ⟨v,rfl⟩
 have hrep:=hvs 0 _ v0 rfl rfl
 have fin:∀ (v:Value) (w':World) (ss:List Int),ss.Perm ks->w'.ownsRow w.heap.size 3 1 v ss.length ((ss.mergeSort (fun x y=>decide (x<=y))).map encZ)->Below w.heap.size w w' ->
   ∃ v1,Ending.returned v=.returned v1/\Qq ok w' (Yq (ks.mergeSort fun x y=>decide (x<=y))) v1/\Below w.heap.size w w':=fun v w' ss hp ho hb=>by
  refine ⟨v,rfl,?_,hb⟩;have e1:ss.mergeSort (fun x y=>decide (x<=y))=ks.mergeSort fun x y=>decide (x<=y):=mergeSort_of_perm_i hp
  rw[e1] at ho;have hl2:ss.length=ks.length:=hp.length_eq;have e3:(ks.mergeSort fun x y=>decide (x<=y)).length=ss.length:=by simp[hl2]
  generalize (ks.mergeSort fun x y=>decide (x<=y))=zs at *
  obtain ⟨h1,h2 | ⟨g,cap,cur,h2,h3,h4,h5,h6,h7,h8⟩⟩:=ho
  ·obtain ⟨rfl,h2⟩:=h2
   have:zs=[]:=QxC (by omega)
   subst this;exact .nils _
  ·subst h2
   rw[<- e3];refine JD zs g cap (by omega) h6 (hnew g h3) fun j z hj=>?_
   have hjl:=(Qxr.1 hj).1;have:(cur.toList.take (ss.length*1))[j]?=some (.int .i64 z):=by grind
   rw[QxU,if_pos (by omega)] at this
   simp only[World.cell?,h4];simpa using this
 cases hrep with
 | clo _ _ _ us vs' h1 h2 hf hc =>
   obtain rfl:us=[]:=QxC h1
   obtain ⟨p,rfl⟩:∃ p,vs'=[p]:=by
    match vs',h2 with
    | [v],_=>exact ⟨v,rfl⟩
   have hp:=hc 0 _ p rfl rfl;cases hp with
   | ptr _ b off u hu hx =>
     have hcell:=(hu 0 (by simp)).2.1
     rw[Qyd] at hcell;have hbw:b<w.heap.size:=Qyi w ⟨b,off,none⟩ hcell;have hm:=hx 0 _ rfl;generalize u 0=u0 at hcell hm;cases hm with
     | mapn =>
       have hk0:ks=[]:=by simpa using hk.symm
       subst hk0;refine (VB _ _ 0 (by omega) w (J0 (ρ:=Tryz.keys192_ren) { Tryz.keys192 with } Fence.wide 2 trivial rfl b off w hbw hcell)).mono ?_
       grind
     | map _ r es clock hok hr hmr hd hxx =>
       have hks:kvs.length=ks.length:=by simpa using congrArg List.length hk
       have hkey:∀ (i:Nat) (x:MapEntry),es[i]?=some x->∃ n:Int,ks[i]?=some n/\x.key=.int .i64 n:=fun i x hx=>by
        obtain ⟨k,h3,h4⟩:=hmr.keys i x hx;rw[<- Qxz,hk,Qxz,Qxu] at h3;obtain ⟨n,h5,rfl⟩:=h3;exact ⟨n,h5,h4⟩
       have hrd:∀ (i:Nat) (x:MapEntry),es[i]?=some x->∃ n:Int,ks[i]?=some n/\x.key=.int .i64 n/\WideElems.rd Tryz.prog 3 Qj5 x=some (.int .i64 n,.nil):=fun i x hx=>by
        obtain ⟨n,h3,h4⟩:=hkey i x hx;exact ⟨n,h3,h4,Qpw h4 (hwf n (QxF h3))⟩
       have hlist:es.toList.map (fun x=>intOf (WideElems.rg Tryz.prog 3 Qj5 x).1)=ks:=by
        refine QyH fun i=>?_
        rw[Qxz];cases hx:es[i]? with
        | none =>
          have:es.size<=i:=by
           grind
          have hz:=hmr.size
          grind
        | some x =>
          obtain ⟨n,h3,h4,h5⟩:=hrd i x hx;rw[Array.getElem?_toList,hx,h3];simp[WideElems.rg,h5,intOf]
       have hown:w.ownsMap Tryz.prog 3 Qj5 r ks.length (DataW.map ((es.toList.map (WideElems.rg Tryz.prog 3 Qj5)).foldr DataW.insert [])):=by
        refine ⟨es,clock,hr,⟨by have:=hmr.size;unfold maxLen;omega,⟨fun x hx=>?_,?_,?_⟩,fun x hx=>?_⟩,by grind,rfl⟩
        ·obtain ⟨i,hi⟩:=QxX hx
         exact hmr.born i x (by simpa using hi)
        ·rw[List.nodup_iff_pairwise_ne] at *
         refine List.pairwise_iff_getElem.2 fun i j hi hj hij heq=>?_
         simp at hi hj heq;have:=hmr.apart i j es[i] es[j] (by simp[hi]) (by simp[hj]) heq
         omega
        ·refine List.pairwise_iff_getElem.2 fun i j hi hj hij heq=>?_
         simp at hi hj heq;obtain ⟨k1,h3,h4⟩:=hmr.keys i es[i] (by simp[hi])
         obtain ⟨k2,h5,h6⟩:=hmr.keys j es[j] (by simp[hj])
         rw[Qxu] at h3 h5;obtain ⟨p,h7,rfl⟩:=h3;obtain ⟨q,h8,rfl⟩:=h5;rw[h4,h6] at heq
         have:p.1=q.1:=by
          have e1:(kvs.map (·.1))[i]?=some p.1:=by simp[h7]
          have e2:(kvs.map (·.1))[j]?=some q.1:=by simp[h8]
          rw[hk,Qxz,Qxu] at e1 e2;obtain ⟨n1,_,e1⟩:=e1;obtain ⟨n2,_,e2⟩:=e2;rw[<- e1,<- e2] at heq |-;simpa[MK.val] using heq
         grind
        ·obtain ⟨i,hi⟩:=QxX hx
         grind
       have hperm:(intKeys (DataW.map ((es.toList.map (WideElems.rg Tryz.prog 3 Qj5)).foldr DataW.insert []))).Perm ks:=by
        have:=(sorted_perm (es.toList.map (WideElems.rg Tryz.prog 3 Qj5))).map fun p=>intOf p.1
        rw[List.map_map] at this;refine this.trans ?_;rw[show es.toList.map ((fun p=>intOf p.1)∘WideElems.rg Tryz.prog 3 Qj5)=ks from hlist]
       have hsz:=hown.size_le;refine (VB _ _ _ (by omega) w (WK (ρ:=Tryz.keys192_ren) { Tryz.keys192 with } Fence.wide 2 trivial rfl (by omega) b off r _ _ w hbw hcell hown)).mono ?_
       grind
end
end Go.Pf
namespace Go.Pf
open Go Go.Ev Go.Proofs Go.RowKit
variable {K:World->Prop} (hK:∀ w w',K w->Below w.heap.size w w'->K w')
set_option maxRecDepth 8000
theorem V8 {α:Type} {p:List α->Prop} (h0:p []) (h1:∀ l x,p l->p (l++[x])) (l:List α):p l:=by
 have:∀ r:List α,p r.reverse:=by
  intro r
  induction r with
  | _=>grind
 have h:=this l.reverse
 grind
def Qbg:List (Int × Nat)->Int->List (Int × Nat)
 | [],x=>[(x,1)]
 | p::r,x=>if p.1=x then (x,p.2+1)::r else p::Qbg r x
def QcB:List (Int × Nat)->Int->Nat
 | [],_=>0
 | p::r,x=>if p.1=x then p.2 else QcB r x
def Jr (l:List (Int × Nat)):List (MK × IV):=l.map fun p=>(.int .i64 p.1,.int .i64 (p.2:Nat))
theorem JS (x:Int):∀ l,(Qg (.int .i64 x) (Jr l)).getD (.int .i64 0)=.int .i64 (QcB l x:Nat)
 | []=>rfl
 | p::r=>by
   by_cases h:p.1=x
   ·simp[Jr,Qg,QcB,h]
   ·have:=JS x r
    simp[Jr,Qg,QcB,h] at this |-;exact this
theorem Uh (x:Int):∀ l,mins (.int .i64 x) (.int .i64 ((QcB l x:Nat)+1)) (Jr l)=Jr (Qbg l x)
 | []=>by simp[Jr,mins,QcB,Qbg]
 | p::r=>by
   by_cases h:p.1=x
   ·simp[Jr,mins,QcB,Qbg,h]
   ·have:=Uh x r
    simp[Jr,mins,QcB,Qbg,h] at this |-;exact this
theorem Y1:∀ l,QN (.int .i64) (Jr l)
 | []=>trivial
 | _::r=>⟨rfl,Y1 r⟩
theorem QdW (x y:Int):∀ l,QcB (Qbg l x) y<=QcB l y+1
 | []=>by simp[Qbg,QcB];split<;>omega
 | p::r=>by
   unfold Qbg;split
   ·simp only[QcB];grind
   ·simp only[QcB]
    split
    ·omega
    ·exact QdW x y r
def Xh (l:List Int):List (Int × Nat):=l.foldl Qbg []
theorem Xv (l:List Int) (x:Int):Xh (l++[x])=Qbg (Xh l) x:=by simp[Xh]
theorem QcA (y:Int):∀ l:List Int,QcB (Xh l) y<=l.length:=by
 refine V8 (by simp[Xh,QcB]) fun l x ih=>?_
 rw[Xv];have:=QdW x y (Xh l);simp;omega
def Xd (l:List Int):List Int:=((Xh l).map (·.1)).mergeSort fun x y=>decide (x<=y)
theorem QdP (x y:Int):∀ l,y∈(Qbg l x).map (·.1)↔y∈l.map (·.1)\/y=x
 | []=>by simp[Qbg]
 | p::r=>by
   unfold Qbg;split
   ·grind
   ·have:=QdP x y r
    grind
theorem Qac (y:Int):∀ l:List Int,y∈(Xh l).map (·.1)↔y∈l:=by
 refine V8 (by simp[Xh]) fun l x ih=>?_
 rw[Xv,QdP,ih];simp
theorem QdQ (x:Int):∀ k,(Qbg k x).length<=k.length+1
 | []=>by simp[Qbg]
 | p::r=>by
   have:=QdQ x r;unfold Qbg
   grind
theorem Uk:∀ l:List Int,(Xh l).length<=l.length:=by
 refine V8 (by simp[Xh]) fun l x ih=>?_
 rw[Xv];have:=QdQ x (Xh l);simp;omega
theorem Qaz (y:Int) (l:List Int):y∈Xd l↔y∈l:=by
 unfold Xd;rw[List.mem_mergeSort,Qac]
include hK
theorem Qgm (kvs:List (MK × IV)):Ev.Good Tryz.prog K 192 [.map kvs] (.clo 222 [] [.ptr [.map kvs]]):=by
 refine Qb hK Qnl (by simp) ?_
 simp
omit hK in
theorem qb (l:List Int) (hw:∀ x∈l,-1000000<=x/\x<=1000000) (hl:l.length<=1000000):Ev.Good Tryz.prog K 191 [.clo 222 [] [.ptr [.map (Jr (Xh l))]]] (Yq (Xd l)):=by
 have hlen:(Xh l).length<=l.length:=by
  exact Uk l
 refine Ql0 (K:=K) (Jr (Xh l)) ((Xh l).map (·.1)) (by simp[Jr]) (fun x hx=>?_) (by simp;omega)
 have:=hw x ((Qac x l).1 hx);omega
theorem qY (c:Qn) (hl:c.deeds.length<=1000) (hs:c.sights.length<=1000) (g1:FuncId) (cs1:List IV) (is:Bool) (hg1:OkC c->Ev.Good Tryz.prog K g1 ([.int .i64 (QC c.deeds),.int .i64 (WA c.deeds)]++cs1) (.bool is)) (hc1:callee Tryz.prog g1=true)
  (g2:FuncId) (cs2:List IV) (v:Nat->Int) (hg2:OkC c->is=true->∀ n∈Qu c,Ev.Good Tryz.prog K g2 ([.agg (Xk c.deeds (Zq c.deeds n) (pmC c n))]++cs2) (.int .i64 (v n))) (hc2:callee Tryz.prog g2=true) (hv:OkC c->is=true->∀ n∈Qu c,-1000000<=v n/\v n<=1000000) :
  Ev.Good Tryz.prog K 155 [chV c,.clo g1 [] cs1,.clo g2 [] cs2] (.tup [Yq (if Ym c is=0 then Xd ((Qu c).map v) else []),.int .i64 (Ym c is)]):=by
 refine Qb hK QnM (by simp) ?_
 simp;refine cK (by simpa using Ql1 hK c (pmC c) (Qfk hK c) g1 [] cs1 is (fun h=>by simpa using hg1 h) hc1 hl hs) ?_
 by_cases he:Ym c is=0
 ·have h1:OkC c:=by
   unfold Ym at he
   grind
  have h2:is=true:=by
   unfold Ym at he
   grind
  have hlen:(Qu c).length<=4096:=by
   have h1':=Qx0 (fun n=>decide ((ZE c.deeds c.sights (Zq c.deeds n):Int)<=c.wrong)) (List.range (2 ^ Xy c.deeds))
   have h2':=YV (n:=Xy c.deeds) (by have:=Uo c.deeds;have:=h1.len;omega)
   simp at h1';unfold Qu;omega
  have hG:=hg2 h1 h2;have hV:=hv h1 h2;clear hg2 hv hg1;subst h2;simp[he,h1];refine QZ (wy:=.fall) (o':=[(10,.box [.oref 21]),(21,.mapd (Jr (Xh ((Qu c).map v))))]) rfl (by kernel_rfl) (Vi hK c h1 (pmC c) (Qfk hK c h1)) ?_ ?_
  ·have:=Vx.all (P:=Tryz.prog) (K:=K) (ps:=[24]) (asn:=Qam) (body:=Qc3) (ks:=[5,10]) (ids:=[10,21]) (eK:=[(5,.iv (.ptr [.clo g2 [] cs2])),(10,.loc 10 0)]) ((Qu c).map (ZZ c.deeds (pmC c)))
    (fun i=>[(10,.box [.oref 21]),(21,.mapd (Jr (Xh (((Qu c).map v).take i))))]) fun i x hi=>by
    simp only[Qxz,Qxu] at hi;obtain ⟨y,hy,rfl⟩:=hi;have hlt:=(Qxr.1 hy).1
    have hyv:((Qu c).map v)[i]'(by simpa using hlt)=v y:=by
     grind
    have hg:=hG y (QxF hy);refine ⟨rfl,?_⟩;rw[Qxt (by simpa using hlt),Xv,hyv]
    have hle:=QcA (v y) (((Qu c).map v).take i);have hkk:=Y1 (Xh (((Qu c).map v).take i));have hf:=JS (v y) (Xh (((Qu c).map v).take i));have hi:=Uh (v y) (Xh (((Qu c).map v).take i));have hle2:(((Qu c).map v).take i).length<=4096:=by simp;omega
    generalize Xh (((Qu c).map v).take i)=kv at *;simp[ZZ,Qam,Qc3];refine ⟨hc2,cK (by simpa using hg) ?_⟩
    simp[hkk,hf,hi];omega
   simpa[Xh,Jr,QxH] using this
  ·simp
   refine cK (by simpa using Qgm hK (Jr (Xh ((Qu c).map v)))) ?_
   simp;refine cK (qb ((Qu c).map v) (fun x hx=>?_) (by simp;omega)) ?_
   ·grind
   ·simp
 ·by_cases h1:OkC c<;>cases is<;>simp[he,h1]
def qw (c:Qn) (pos:Int) (n:Nat):Int:=((cab c.deeds (Zq c.deeds n) c.deeds.length).getD pos.toNat 0:Nat)
theorem Qmv (c:Qn) (pos:Int) (hl:c.deeds.length<=1000) (hs:c.sights.length<=1000) :
  Ev.Good Tryz.prog K 113 [chV c,.int .i64 pos] (.tup [Yq (if Ym c (decide (inR pos 0 (QC c.deeds-1)))=0 then Xd ((Qu c).map (qw c pos)) else []),.int .i64 (Ym c (decide (inR pos 0 (QC c.deeds-1))))]):=by
 refine Qb hK Qoi (by simp) ?_
 simp;refine cK (by simpa using Qcs hK pos) ?_
 simp
 have hcl:∀ n,OkC c->((cab c.deeds (Zq c.deeds n) c.deeds.length).length:Int)=QC c.deeds:=fun n h=>by
  rw[Yk _ h.deeds _ (Qxw _) (Qxw _)];rfl
 have hg:=qY hK c hl hs 193 [.ptr [.int .i64 pos]] (decide (inR pos 0 (QC c.deeds-1))) (fun h=>by
   have:=hcl 0 h;have h2:=h.deeds.cnt c.deeds.length (Qxw _) (Qxw _);have h3:=Yk (Zq c.deeds 0) h.deeds c.deeds.length (Qxw _) (Qxw _);simpa using Qcq hK (QC c.deeds) (WA c.deeds) pos (by omega)) (by kernel_rfl) 157 [.ptr [.int .i64 pos]] (qw c pos) (fun h hi n _=>by
   have h3:=hcl n h;have hi:=of_decide_eq_true hi;simp only[inR] at hi;have h4:pos=((pos.toNat:Nat):Int):=by omega
   have h5:pos.toNat<(cab c.deeds (Zq c.deeds n) c.deeds.length).length:=by omega
   have h6:=Qmd hK c.deeds (Zq c.deeds n) (pmC c n) hl pos.toNat h5;rw[<- h4] at h6;have h7:(cab c.deeds (Zq c.deeds n) c.deeds.length).getD pos.toNat 0=(cab c.deeds (Zq c.deeds n) c.deeds.length)[pos.toNat]:=by grind
   unfold qw
   grind) (by kernel_rfl) (fun h hi n _=>by
   have h3:=hcl n h;have hi:=of_decide_eq_true hi;simp only[inR] at hi;have h5:pos.toNat<(cab c.deeds (Zq c.deeds n) c.deeds.length).length:=by omega
   have h7:(cab c.deeds (Zq c.deeds n) c.deeds.length).getD pos.toNat 0=(cab c.deeds (Zq c.deeds n) c.deeds.length)[pos.toNat]:=by grind
   have h8:=Qd9 c.deeds (Zq c.deeds n) c.deeds.length _ (Qxx h5);have h9:=QoY c.deeds c.deeds.length;unfold qw;omega)
 refine cK (by simpa using hg) ?_
 simp
omit hK in
theorem Yv (x:Int):Xd [x]=[x]:=by simp[Xd,Xh,Qbg]
omit hK in
theorem Qev (c:Qn) (hc:OkC c) (h2:Xy c.deeds=0) (hs:c.sights=[]):Qu c=[0]:=by
 have:=hc.wrong;simp only[inR] at this;simp[Qu,h2,hs,ZE,this]
omit hK
def stW (w:Qd):List IV:=[.agg (weC w)]
theorem VD:∀ rest:List Zv,(∀ l∈rest,l.hi-l.lo<=9)->(Qt rest).length<=10 ^ rest.length
 | [],_=>by simp[Qt]
 | l::r,h=>by
   have h1:=VD r fun x hx=>h x (by simp[hx])
   have h2:=QhY (fun i:Nat=>(Qt r).map ((l.lo+(i:Nat))::·)) (10 ^ r.length) (fun i=>by simpa using h1) (l.hi+1-l.lo).toNat
   have h3:=h l (by simp)
   have h4:(l.hi+1-l.lo).toNat*10 ^ r.length<=10*10 ^ r.length:=QxT _ (by omega)
   simp only[Qt,QxA,Nat.pow_succ];omega
theorem Qk2 {c:Sea} (hc:Qx c):(Qk3 c).length<=100000:=by
 have h1:=VD (Yz c).levers (fun l hl=>by
  simp at hl;obtain ⟨a,b,hm,rfl⟩:=hl;have:=Z6 (hc.waters _ hm);simp at this |-;omega)
 have h2:=Z6 hc.wear;simp only at h2;have h3:=Zf (fun s:List Int=>(List.range ((Yz c).lhi+1-(Yz c).llo).toNat).map fun k:Nat=>(⟨[]++s,(Yz c).llo+k⟩:Qd)) 10 (Qt (Yz c).levers) (fun a _=>by simp;omega)
 have h4:10 ^ (Yz c).levers.length<=10 ^ 4:=QxW (by omega) (by have:=hc.nw;simpa using this)
 have e:(Qk3 c).length=((Qt (Yz c).levers).flatMap fun s:List Int=>(List.range ((Yz c).lhi+1-(Yz c).llo).toNat).map fun k:Nat=>(⟨[]++s,(Yz c).llo+k⟩:Qd)).length:=rfl
 rw[e];omega
theorem Qkh {c:Sea} (hc:Qx c):(wTr c).length<=100000:=Qx7 (Qx0 _ _) (Qk2 hc)
theorem Qay {c:Sea} {w:Qd} (h:w∈wTr c):okW c w:=Qk1 ((Qyp.1 h).1)
section
variable {K:World->Prop}
theorem Uz {c:Sea} {ks:Env} (hks:QW [2,3] [0,3] ks=[(2,.iv (.ptr [.ptr (Y9 c)])),(3,.loc 3 0)]) :
  ∀ (Ls:List Qd) (s:Ext) (b:Bool) (s':Ext),Zp Tryz.prog K ((Ls.filter (isW c)).map stW) s b s' ->
   ∃ wy,(wy=.fall\/wy=.ret)/\Vx Tryz.prog K [8,9] JV Wn [2,3] [0,3] (QW [2,3] [0,3] ks) (Ls.map (JK c)) [(0,.ext s),(3,.box [.cb 0])] wy [(0,.ext s'),(3,.box [.cb 0])]
 | [],s,b,s',h=>by
   cases h;exact ⟨.fall,.inl rfl,.nil _⟩
 | t::Ls,s,b,s',h=>by
   by_cases ht:(Ys c c.gauges t:Int)<=c.wrong
   ·rw[QyK (by simpa[isW] using ht)] at h
    cases h with
    | stop _ _ _ _ hg =>
      refine ⟨.ret,.inr rfl,.stop _ _ _ _ _ (by simp) ?_⟩
      rw[hks];refine ⟨rfl,?_⟩;simp[JK,JV,Wn,ht];refine Zw (by simpa[stW] using hg) rfl ?_
      simp
    | next _ _ _ s1 _ _ hg hr =>
      obtain ⟨wy,h1,h2⟩:=Uz hks Ls s1 b s' hr;refine ⟨wy,h1,.next _ _ _ _ _ _ ?_ h2⟩;rw[hks];refine ⟨rfl,?_⟩;simp[JK,JV,Wn,ht];refine Zw (by simpa[stW] using hg) rfl ?_
      simp
   ·rw[QyL (by simpa[isW] using ht)] at h
    obtain ⟨wy,h1,h2⟩:=Uz hks Ls s b s' h;refine ⟨wy,h1,.next _ _ _ _ _ _ ?_ h2⟩;rw[hks];refine ⟨rfl,?_⟩;simp[JK,JV,Wn,ht]
end
noncomputable def tW (c:Sea) (is:Bool):Int:=if Qx c then (if is=true then (if wTr c=[] then 3 else 0) else 1) else 90
theorem Qk7 {c:Sea} {is:Bool} (h:tW c is=0):Qx c/\is=true/\wTr c≠[]:=by
 unfold tW at h
 grind
def loD (l:List Int):Int:=(Xd l).getD 0 0
def hiD (l:List Int):Int:=(Xd l).getD ((Xd l).length-1) 0
theorem qD {l:List Int} (h:l≠[]):Xd l≠[]:=by
 obtain ⟨x,hx⟩:=List.exists_mem_of_ne_nil l h;exact List.ne_nil_of_mem ((Qaz x l).2 hx)
include hK
theorem Qci (c:Sea) (hc:Qx c):Qar Tryz.prog K 195 [.ptr (Y9 c)] [] ((wTr c).map stW):=by
 intro s b s' hfd;refine Q0 Qni (by simp) hfd.v rfl ?_
 obtain ⟨wy,h1,h2⟩:=Uz (c:=c) (ks:=[(2,.iv (.ptr [.ptr (Y9 c)])),(3,.loc 3 0)]) rfl (Qk3 c) s b s' hfd;simp;refine QZ (wy:=wy) (o':=[(0,.ext s'),(3,.box [.cb 0])]) rfl (by kernel_rfl) (QlD hK c hc) (by simpa using h2) ?_
 rcases h1 with rfl | rfl<;>simp
theorem Qgo (c:Sea) (is:Bool):Ev.Good Tryz.prog K 163 [Qfw c,.bool is] (.tup [if tW c is=0 then .ptr (Y9 c) else .nilp,.int .i64 (tW c is)]):=by
 refine Qb hK QnE (by simp) ?_
 simp;refine cK (by simpa using Qgu hK c) ?_
 by_cases h1:Qx c
 ·cases is
  ·simp[h1,tW]
  ·simp[h1]
   cases hL:wTr c with
   | nil =>
     refine QZ (wy:=.fall) (o':=[(4,.box [.iv .nilp]),(5,.box [.iv (.int .i64 0)]),(7,.box [.iv (.ptr (Y9 c))])]) rfl (by kernel_rfl) (Qci hK c h1) (by rw[hL];simpa using Vx.nil _) ?_
     simp[tW,h1,hL]
   | cons a r =>
     refine QZ (wy:=.ret) (o':=[(4,.box [.iv (.ptr (Y9 c))]),(5,.box [.iv (.int .i64 0)]),(7,.box [.iv (.ptr (Y9 c))])]) rfl (by kernel_rfl) (Qci hK c h1) (by
      rw[hL];refine .stop _ _ _ _ _ (by simp) ?_
      refine ⟨rfl,?_⟩;simp[stW,Qea,QhI]) ?_
     simp[tW,h1,hL]
 ·simp[h1,tW]
theorem QlY (c:Sea) (hc:Qx c) (g:FuncId) (fs cs:List IV) (v:Qd->Int) (hg:∀ w∈wTr c,Ev.Good Tryz.prog K g (fs++[.agg (weC w)]++cs) (.int .i64 (v w))) (hcl:callee Tryz.prog g=true) (hv:∀ w∈wTr c,-1000000<=v w/\v w<=1000000) :
  Ev.Good Tryz.prog K 196 [.ptr (Y9 c),.clo g fs cs] (Yq (Xd ((wTr c).map v))):=by
 refine Qb hK Qnh (by simp) ?_
 have hlen:=Qkh hc;simp;refine QZ (wy:=.fall) (o':=[(5,.box [.oref 7]),(7,.mapd (Jr (Xh ((wTr c).map v))))]) rfl (by kernel_rfl) (Qci hK c hc) ?_ ?_
 ·have:=Vx.all (P:=Tryz.prog) (K:=K) (ps:=[10]) (asn:=Qaj) (body:=QcU) (ks:=[3,5]) (ids:=[5,7]) (eK:=[(3,.iv (.ptr [.clo g fs cs])),(5,.loc 5 0)]) ((wTr c).map stW)
   (fun i=>[(5,.box [.oref 7]),(7,.mapd (Jr (Xh (((wTr c).map v).take i))))]) fun i x hi=>by
   simp only[Qxz,Qxu] at hi;obtain ⟨y,hy,rfl⟩:=hi;have hlt:=(Qxr.1 hy).1
   have hyv:((wTr c).map v)[i]'(by simpa using hlt)=v y:=by
    grind
   have hgy:=hg y (QxF hy);rw[QxJ] at hgy;refine ⟨rfl,?_⟩;rw[Qxt (by simpa using hlt),Xv,hyv]
   have hle:=QcA (v y) (((wTr c).map v).take i);have hkk:=Y1 (Xh (((wTr c).map v).take i));have hf:=JS (v y) (Xh (((wTr c).map v).take i));have hi:=Uh (v y) (Xh (((wTr c).map v).take i));have hle2:(((wTr c).map v).take i).length<=100000:=by simp;omega
   generalize Xh (((wTr c).map v).take i)=kv at *;simp[stW,Qaj,QcU];refine ⟨hcl,cK (by simpa using hgy) ?_⟩
   simp[hkk,hf,hi];omega
  simpa[Xh,Jr,QxH] using this
 ·simp
  refine cK (by simpa using Qgm hK (Jr (Xh ((wTr c).map v)))) ?_
  simp;refine cK (qb ((wTr c).map v) (fun x hx=>?_) (by simp;omega)) ?_
  ·grind
  ·simp
theorem Qgn (c:Sea) (hc:Qx c) (hne:wTr c≠[]) (g:FuncId) (fs cs:List IV) (v:Qd->Int) (hg:∀ w∈wTr c,Ev.Good Tryz.prog K g (fs++[.agg (weC w)]++cs) (.int .i64 (v w))) (hcl:callee Tryz.prog g=true) (hv:∀ w∈wTr c,-1000000<=v w/\v w<=1000000) :
  Ev.Good Tryz.prog K 164 [.ptr (Y9 c),.clo g fs cs] (.agg [.int .i64 (loD ((wTr c).map v)),.int .i64 (hiD ((wTr c).map v))]):=by
 refine Qb hK QnD (by simp) ?_
 have hs:=qD (l:=(wTr c).map v) (by simpa using hne)
 have hl:0<(Xd ((wTr c).map v)).length:=List.length_pos_iff.2 hs
 have hll:(Xd ((wTr c).map v)).length<=100000:=by
  have h1:=Uk ((wTr c).map v);have h2:=Qkh hc;unfold Xd;simp at h1 |-;omega
 simp;refine cK (by simpa using QlY hK c hc g fs cs v hg hcl hv) ?_
 unfold loD hiD;generalize Xd ((wTr c).map v)=L at *;have e:(L.length:Int)-1=((L.length-1:Nat):Int):=by omega
 have hl1:L.length-1<L.length:=by omega
 simp[hl,hl1,e]
 (repeat' first | omega | (with_reducible apply And.intro) | intro _)
 try grind
theorem QlX (c:Sea) (k:Nat) (w:Qd) (hc:Qx c) (hw:okW c w) (hk:k<=c.voys.length):Ev.Good Tryz.prog K 197 [.agg (weC w),.ptr [.ptr (Y9 c)],.ptr [.int .i64 k]] (.int .i64 (Zk c w k)):=by
 refine Qb hK Qng (by simp) ?_
 simp;exact cK (by simpa using Qcr hK c w k hc hw hk) (by simp)
theorem Ql9 (c:Sea) (k:Nat) (w:Qd) (hc:Qx c) (hw:okW c w) (hk:k<=c.voys.length):Ev.Good Tryz.prog K 165 [.agg (weC w),.ptr [.ptr (Y9 c)],.ptr [.int .i64 k]] (.int .i64 (Xt c (Zk c w k))):=by
 refine Qb hK QnC (by simp) ?_
 simp;refine cK (by simpa using Qcr hK c w k hc hw hk) ?_
 simp;exact cK (by simpa using Ql8 hK c _ hc (Yu hc hw k)) (by simp)
theorem Ql7 (c:Sea) (k:Nat) (hk:k<=c.voys.length):Ev.Good Tryz.prog K 170 [Qfw c,.int .i64 k]
  (.tup [if tW c true=0 then .agg [.int .i64 (loD ((wTr c).map fun w=>Zk c w k)),.int .i64 (hiD ((wTr c).map fun w=>Zk c w k))] else .agg [.int .i64 0,.int .i64 0],.int .i64 (tW c true)]):=by
 refine Qb hK Qny (by simp) ?_
 have hin:inR (k:Int) 0 c.voys.length:=by simp only[inR];omega
 simp;refine cK (by simpa[hin] using Qcu hK c k) ?_
 simp;refine cK (by simpa using Qgo hK c true) ?_
 by_cases he:tW c true=0
 ·obtain ⟨hc,_,hne⟩:=Qk7 he
  simp[he];refine cK (by simpa using Qgn hK c hc hne 197 [] [.ptr [.ptr (Y9 c)],.ptr [.int .i64 k]] (fun w=>Zk c w k) (fun w hw=>by simpa using QlX hK c k w hc (Qay hw) hk) (by kernel_rfl) (fun w hw=>by have:=Yu hc (Qay hw) k;omega)) ?_
  simp
 ·simp[he]
theorem Qgt (c:Sea) (k:Nat) (hk:k<=c.voys.length):Ev.Good Tryz.prog K 118 [Qfw c,.int .i64 k]
  (.tup [if tW c true=0 then .agg [.int .i64 (loD ((wTr c).map fun w=>Xt c (Zk c w k))),.int .i64 (hiD ((wTr c).map fun w=>Xt c (Zk c w k)))] else .agg [.int .i64 0,.int .i64 0],.int .i64 (tW c true)]):=by
 refine Qb hK Qoe (by simp) ?_
 have hin:inR (k:Int) 0 c.voys.length:=by simp only[inR];omega
 simp;refine cK (by simpa[hin] using Qcu hK c k) ?_
 simp;refine cK (by simpa using Qgo hK c true) ?_
 by_cases he:tW c true=0
 ·obtain ⟨hc,_,hne⟩:=Qk7 he
  simp[he];refine cK (by simpa using Qgn hK c hc hne 165 [] [.ptr [.ptr (Y9 c)],.ptr [.int .i64 k]] (fun w=>Xt c (Zk c w k)) (fun w hw=>by simpa using Ql9 hK c k w hc (Qay hw) hk) (by kernel_rfl) (fun w hw=>by have:=U7 hc (Yu hc (Qay hw) k);omega)) ?_
  simp
 ·simp[he]
omit hK
def Qh9 (c:Qn) (pos:Int) (n:Nat):Int:=(Ve c.deeds ((cab c.deeds (Zq c.deeds n) c.deeds.length).getD pos.toNat 0)).bar
def ZF (c:Qn) (pos:Int) (n:Nat):Int:=(Ve c.deeds ((cab c.deeds (Zq c.deeds n) c.deeds.length).getD pos.toNat 0)).smith
def Yo (c:Qn) (link:Int) (n:Nat):Int:=(((Qg (.int .i64 link) (prf c.deeds (Zq c.deeds n) c.deeds.length)).getD []).length:Nat)
theorem QdK {ds:List Qy} (hc:OkD ds ds.length) (k:Nat) (hk:k<(ZL ds).length):inR (Ve ds k).bar 0 99/\inR (Ve ds k).smith 0 99:=by
 rw[<- Vg ds k hk];have hm:=Qyp.1 (Qxx hk);obtain ⟨i,hi,e⟩:=Qyb hm.1;have hd:=hc i hi hi;rw[e] at hd;have hw:(ZL ds)[k].what=1:=by simpa[ZN] using hm.2
 rcases hd with h | h | h
 ·grind
 ·grind
 ·grind
theorem Ul {ds:List Qy} (e:Nat->Int) (n:Nat) (hn:n<(cab ds e ds.length).length):(cab ds e ds.length)[n]<(ZL ds).length:=by
 have h1:=Qd9 ds e ds.length _ (Qxx hn);have h2:=Qdl ds ds.length;rw[YZ];omega
theorem QaW (k:MK):∀ kvs:List (MK × List (List IV)),(Qg k (kvs.map fun p=>(p.1,IV.sl 1 p.2))).getD (.sl 1 [])=.sl 1 ((Qg k kvs).getD [])
 | []=>rfl
 | p::r=>by
   by_cases h:p.1=k
   ·simp[Qg,h]
   ·simpa[Qg,h] using QaW k r
theorem WZ {kk:KK}:∀ kvs:List (MK × List (List IV)),QN kk kvs->QN kk (kvs.map fun p=>(p.1,IV.sl 1 p.2))
 | [],_=>trivial
 | _::r,h=>⟨h.1,WZ r h.2⟩
include hK
theorem Qgp (ds:List Qy) (e:Nat->Int) (pm:IV) (hl:ds.length<=1000) (n:Nat) (hn:n<(cab ds e ds.length).length) :
  Ev.Good Tryz.prog K 162 [.agg (Xk ds e pm),.int .i64 n] (.agg (lkC (Ve ds (cab ds e ds.length)[n]))):=by
 refine Qb hK QnF (by simp) ?_
 have h1:=Ul e n hn;have hm:=Vg ds _ h1;simp;refine cK (by simpa using Qgq hK ds e pm hl) ?_
 rw[<- hm];simp[hn,h1]
 try omega
theorem Ql2 (ds:List Qy) (e:Nat->Int) (pm:IV) (hl:ds.length<=1000) (n:Nat) (hn:n<(cab ds e ds.length).length) :
  Ev.Good Tryz.prog K 188 [.agg (Xk ds e pm),.ptr [.int .i64 n]] (.int .i64 (Ve ds (cab ds e ds.length)[n]).bar):=by
 refine Qb hK Qnn (by simp) ?_
 simp;exact cK (by simpa using Qgp hK ds e pm hl n hn) (by simp)
theorem Qma (ds:List Qy) (e:Nat->Int) (pm:IV) (hl:ds.length<=1000) (n:Nat) (hn:n<(cab ds e ds.length).length) :
  Ev.Good Tryz.prog K 161 [.agg (Xk ds e pm),.ptr [.int .i64 n]] (.int .i64 (Ve ds (cab ds e ds.length)[n]).smith):=by
 refine Qb hK QnG (by simp) ?_
 simp;exact cK (by simpa using Qgp hK ds e pm hl n hn) (by simp)
theorem Qme (c:Qn) (pos:Int) (hl:c.deeds.length<=1000) (hs:c.sights.length<=1000) :
  Ev.Good Tryz.prog K 154 [chV c,.int .i64 pos] (.tup [Yq (if Ym c (decide (inR pos 0 (QC c.deeds-1)))=0 then Xd ((Qu c).map (Qh9 c pos)) else []),.int .i64 (Ym c (decide (inR pos 0 (QC c.deeds-1))))]):=by
 refine Qb hK QnN (by simp) ?_
 simp;refine cK (by simpa using Qcs hK pos) ?_
 simp
 have hcl:∀ n,OkC c->((cab c.deeds (Zq c.deeds n) c.deeds.length).length:Int)=QC c.deeds:=fun n h=>by
  rw[Yk _ h.deeds _ (Qxw _) (Qxw _)];rfl
 have hg:=qY hK c hl hs 193 [.ptr [.int .i64 pos]] (decide (inR pos 0 (QC c.deeds-1))) (fun h=>by
   have h2:=h.deeds.cnt c.deeds.length (Qxw _) (Qxw _);simpa using Qcq hK (QC c.deeds) (WA c.deeds) pos (by unfold QC;omega)) (by kernel_rfl) 188 [.ptr [.int .i64 pos]] (Qh9 c pos) (fun h hi n _=>by
   have h3:=hcl n h;have hi:=of_decide_eq_true hi;simp only[inR] at hi;have h4:pos=((pos.toNat:Nat):Int):=by omega
   have h5:pos.toNat<(cab c.deeds (Zq c.deeds n) c.deeds.length).length:=by omega
   have h6:=Ql2 hK c.deeds (Zq c.deeds n) (pmC c n) hl pos.toNat h5;rw[<- h4] at h6;have h7:(cab c.deeds (Zq c.deeds n) c.deeds.length).getD pos.toNat 0=(cab c.deeds (Zq c.deeds n) c.deeds.length)[pos.toNat]:=by grind
   unfold Qh9;rw[h7];exact h6) (by kernel_rfl) (fun h hi n _=>by
   have h3:=hcl n h;have hi:=of_decide_eq_true hi;simp only[inR] at hi;have h5:pos.toNat<(cab c.deeds (Zq c.deeds n) c.deeds.length).length:=by omega
   have h7:(cab c.deeds (Zq c.deeds n) c.deeds.length).getD pos.toNat 0=(cab c.deeds (Zq c.deeds n) c.deeds.length)[pos.toNat]:=by grind
   have h8:=QdK h.deeds _ (Ul _ _ h5);unfold Qh9;rw[h7];simp only[inR] at h8;omega)
 exact cK (by simpa using hg) (by simp)
theorem Qmt (c:Qn) (pos:Int) (hl:c.deeds.length<=1000) (hs:c.sights.length<=1000) :
  Ev.Good Tryz.prog K 115 [chV c,.int .i64 pos] (.tup [Yq (if Ym c (decide (inR pos 0 (QC c.deeds-1)))=0 then Xd ((Qu c).map (ZF c pos)) else []),.int .i64 (Ym c (decide (inR pos 0 (QC c.deeds-1))))]):=by
 refine Qb hK Qog (by simp) ?_
 simp;refine cK (by simpa using Qcs hK pos) ?_
 simp
 have hcl:∀ n,OkC c->((cab c.deeds (Zq c.deeds n) c.deeds.length).length:Int)=QC c.deeds:=fun n h=>by
  rw[Yk _ h.deeds _ (Qxw _) (Qxw _)];rfl
 have hg:=qY hK c hl hs 193 [.ptr [.int .i64 pos]] (decide (inR pos 0 (QC c.deeds-1))) (fun h=>by
   have h2:=h.deeds.cnt c.deeds.length (Qxw _) (Qxw _);simpa using Qcq hK (QC c.deeds) (WA c.deeds) pos (by unfold QC;omega)) (by kernel_rfl) 161 [.ptr [.int .i64 pos]] (ZF c pos) (fun h hi n _=>by
   have h3:=hcl n h;have hi:=of_decide_eq_true hi;simp only[inR] at hi;have h4:pos=((pos.toNat:Nat):Int):=by omega
   have h5:pos.toNat<(cab c.deeds (Zq c.deeds n) c.deeds.length).length:=by omega
   have h6:=Qma hK c.deeds (Zq c.deeds n) (pmC c n) hl pos.toNat h5;rw[<- h4] at h6;have h7:(cab c.deeds (Zq c.deeds n) c.deeds.length).getD pos.toNat 0=(cab c.deeds (Zq c.deeds n) c.deeds.length)[pos.toNat]:=by grind
   unfold ZF;rw[h7];exact h6) (by kernel_rfl) (fun h hi n _=>by
   have h3:=hcl n h;have hi:=of_decide_eq_true hi;simp only[inR] at hi;have h5:pos.toNat<(cab c.deeds (Zq c.deeds n) c.deeds.length).length:=by omega
   have h7:(cab c.deeds (Zq c.deeds n) c.deeds.length).getD pos.toNat 0=(cab c.deeds (Zq c.deeds n) c.deeds.length)[pos.toNat]:=by grind
   have h8:=QdK h.deeds _ (Ul _ _ h5);unfold ZF;rw[h7];simp only[inR] at h8;omega)
 exact cK (by simpa using hg) (by simp)
theorem Qmb (c:Qn) (hc:OkC c) (link:Int) (n:Nat):Ev.Good Tryz.prog K 160 [.agg (Xk c.deeds (Zq c.deeds n) (pmC c n)),.ptr [.int .i64 link]] (.int .i64 (Yo c link n)):=by
 refine Qb hK QnH (by simp) ?_
 have h1:=qQ c.deeds (Zq c.deeds n) hc.deeds c.deeds.length (Qxw _);have h2:=h1.len (.int .i64 link);have h3:=WZ _ h1.1;have h4:=QaW (.int .i64 link) (prf c.deeds (Zq c.deeds n) c.deeds.length);have h12:=hc.len;have h5:c.deeds.length*c.deeds.length<=12*12:=QyM h12 h12;unfold Yo;simp[pmC];rw[h4];simp[h3]
 try omega
theorem QlZ (left all link:Int) (h:0<=all/\all<=1000000):Ev.Good Tryz.prog K 194 [.int .i64 left,.int .i64 all,.ptr [.int .i64 link]] (.bool (decide (inR link 0 (all-1)))):=by
 refine Qb hK Qnj (by simp) ?_
 simp
 repeat' first | omega | intro _ | apply And.intro
 refine cK (Z8 hK _ _ _) ?_;simp
theorem Qmc (link:Int):Ev.Good Tryz.prog K 159 [.int .i64 link] (.clo 194 [] [.ptr [.int .i64 link]]):=by
 refine Qb hK QnI (by simp) ?_
 simp
theorem Qmu (c:Qn) (link:Int) (hl:c.deeds.length<=1000) (hs:c.sights.length<=1000) :
  Ev.Good Tryz.prog K 114 [chV c,.int .i64 link] (.tup [if Ym c (decide (inR link 0 ((WA c.deeds:Int)-1)))=0 then .agg [.int .i64 (loD ((Qu c).map (Yo c link))),.int .i64 (hiD ((Qu c).map (Yo c link)))] else .agg [.int .i64 0,.int .i64 0],.int .i64 (Ym c (decide (inR link 0 ((WA c.deeds:Int)-1))))]):=by
 refine Qb hK Qoh (by simp) ?_
 simp;refine cK (by simpa using Qmc hK link) ?_
 simp;have hal:WA c.deeds<=c.deeds.length:=Qx0 _ _
 have hg:=qY hK c hl hs 194 [.ptr [.int .i64 link]] (decide (inR link 0 ((WA c.deeds:Int)-1))) (fun h=>by
   simpa using QlZ hK (QC c.deeds) (WA c.deeds) link (by omega)) (by kernel_rfl) 160 [.ptr [.int .i64 link]] (Yo c link) (fun h hi n _=>by
   simpa using Qmb hK c h link n) (by kernel_rfl) (fun h hi n _=>by
   have h1:=qQ c.deeds (Zq c.deeds n) h.deeds c.deeds.length (Qxw _);have h2:=h1.len (.int .i64 link);have h12:=h.len;have h5:c.deeds.length*c.deeds.length<=12*12:=QyM h12 h12;unfold Yo;omega)
 refine cK (by simpa using hg) ?_
 by_cases he:Ym c (decide (inR link 0 ((WA c.deeds:Int)-1)))=0
 ·have hr:Qu c≠[]:=by
   unfold Ym at he
   grind
  have hs:=qD (l:=(Qu c).map (Yo c link)) (by simpa using hr)
  have hl:0<(Xd ((Qu c).map (Yo c link))).length:=List.length_pos_iff.2 hs
  have hll:(Xd ((Qu c).map (Yo c link))).length<=(2 ^ Xy c.deeds):=by
   have h1:=Uk ((Qu c).map (Yo c link));have h2:=Qx0 (fun n=>decide ((ZE c.deeds c.sights (Zq c.deeds n):Int)<=c.wrong)) (List.range (2 ^ Xy c.deeds))
   unfold Xd;unfold Qu at *;simp at h1 h2 |-;omega
  have h12:c.deeds.length<=12:=by
   unfold Ym at he;have:OkC c:=by grind
   exact this.len
  have hp:=YV (n:=Xy c.deeds) (by have:=Uo c.deeds;omega)
  simp[he];unfold loD hiD;generalize Xd ((Qu c).map (Yo c link))=L at *;have e:(L.length:Int)-1=((L.length-1:Nat):Int):=by omega
  have hl1:L.length-1<L.length:=by omega
  simp[hl,hl1,e]
  try (repeat' first | omega | (with_reducible apply And.intro) | intro _)
  try grind
 ·simp[he]
omit hK
structure ZB where
 chain:Qn
 sea:Sea
 plo:Int
 phi:Int
 flo:Int
 fhi:Int
 rlo:Int
 rhi:Int
 part:Int
 marks:List (Int × Int)
 broke:Int
 pth:Int
 deriving DecidableEq
@[simp] def QpB (l:ZB):List IV:=[ZR l.marks,.int .i64 l.broke,.int .i64 l.pth]
@[simp] def lsC (l:ZB):List IV:=[QO l.chain.deeds,QJ l.chain.sights,.int .i64 l.chain.wrong,.int .i64 l.sea.thick,.int .i64 l.sea.str,ZR l.sea.waters,.int .i64 l.sea.wlo,.int .i64 l.sea.whi,ZR l.sea.voys,Vn l.sea.gauges,.int .i64 l.sea.wrong,
 .int .i64 l.plo,.int .i64 l.phi,.int .i64 l.flo,.int .i64 l.fhi,.int .i64 l.rlo,.int .i64 l.rhi,.int .i64 l.part,ZR l.marks,.int .i64 l.broke,.int .i64 l.pth]
@[simp] def lsV (l:ZB):IV:=.agg (lsC l)
def Xo (lo hi most:Int):Prop:=inR lo 0 hi/\hi<=most
instance (lo hi most:Int):Decidable (Xo lo hi most):=by unfold Xo;infer_instance
def Qdf (m:Int × Int):Bool:=!decide (inR m.1 (-1) 99)||!decide (inR m.2 (-1) 99)
structure OkL (l:ZB):Prop where
 chain:OkC l.chain
 sea:Qx l.sea
 pull:Xo l.plo l.phi 99999
 flaw:Xo l.flo l.fhi 100
 rated:Xo l.rlo l.rhi 99999
 part:inR l.part 1 100
 mlen:inR (l.marks.length:Int) 1 8
 marks:∀ m∈l.marks,Qdf m=false
 broke:inR l.broke 0 ((l.marks.length:Int)-1)
 pth:inR l.pth (-1) 500
 long:(l.marks.length:Int)<=QC l.chain.deeds
noncomputable instance (l:ZB):Decidable (OkL l):=Classical.propDecidable _
include hK
theorem VR (n a b:Int):Ev.Good Tryz.prog K 86 [.int .i64 n,.int .i64 a,.int .i64 b] (.bool (decide (inR n a b))):=by
 refine Qb hK QqS (by simp) ?_
 by_cases h1:a<=n
 ·simp[h1,inR]
 ·simp[h1,inR]
theorem Qcx (a b m:Int):Ev.Good Tryz.prog K 107 [.agg [.int .i64 a,.int .i64 b],.int .i64 m] (.bool (decide (Xo a b m))):=by
 refine Qb hK Qoo (by simp) ?_
 simp;refine cK (VR hK _ _ _) ?_;by_cases h1:inR a 0 b
 ·simp[h1,Xo]
 ·simp[h1,Xo]
theorem Qmz (m:Int × Int):Ev.Good Tryz.prog K 104 [.agg (spC m)] (.bool (Qdf m)):=by
 refine Qb hK Qor (by simp) ?_
 simp;refine cK (VR hK _ _ _) ?_;by_cases h1:inR m.1 (-1) 99
 ·simp[h1]
  exact cK (VR hK _ _ _) (by simp[Qdf,h1])
 ·simp[h1,Qdf]
theorem Qmf (l:List (Int × Int)) (g:FuncId) (p:Int × Int->Bool) (hg:∀ x,Ev.Good Tryz.prog K g [.agg (spC x)] (.bool (p x))) (hc:callee Tryz.prog g=true) (hl:l.length<=1000):Ev.Good Tryz.prog K 150 [ZR l,.fn g] (.int .i64 (fi p l)):=by
 refine Qb hK QnQ (by simp) ?_
 simp;intro _;refine QI (fun i=>[(0,AV.iv (ZR l)),(1,AV.iv (.fn g)),(7,AV.iv (.int .i64 l.length)),(8,AV.iv (IV.int IntKind.i64 (i:Nat)))]) (fun _=>[]) l.length (fun i=>∀ x∈l.take i,p x=false) (by simp) ?_ ?_
 ·intro h
  rw[Qa Qc6.eq_1];rw[QxM] at h;simp[Vr p l h]
 ·intro i hi h ih
  rw[Qa Qc6.eq_1];have hgi:=hg l[i];simp[hi] at ih |-;refine ⟨hc,cK (by simpa using hgi) ?_⟩
  by_cases hp:p l[i]=true
  ·simp[hp,QeQ p l i hi hp h]
  ·have hp':p l[i]=false:=by simpa using hp
   simp[hp'];refine ⟨by omega,ih ?_⟩
   rw[Qxt hi]
   grind
theorem Qmy (l:List (Int × Int)) (g:FuncId) (p:Int × Int->Bool) (hg:∀ x,Ev.Good Tryz.prog K g [.agg (spC x)] (.bool (p x))) (hc:callee Tryz.prog g=true) (hl:l.length<=1000):Ev.Good Tryz.prog K 108 [ZR l,.fn g] (.bool (l.any p)):=by
 refine Qb hK Qon (by simp) ?_
 simp;refine cK (by simpa using Qmf hK l g p hg hc hl) ?_
 simp[X3]
theorem Qp6 (l:ZB) (hd:l.chain.deeds.length<=1000) (hs:l.chain.sights.length<=1000):Ev.Good Tryz.prog K 83 [lsV l] (.int .i64 (if OkL l then 0 else 100)):=by
 refine Qb hK QqV (by simp) ?_
 have no:∀ q:Prop,(OkL l->q)->¬ q->¬ OkL l:=fun q h1 h2 h=>h2 (h1 h)
 simp;refine cK (by simpa using q0 hK l.chain hd hs) ?_
 by_cases h1:OkC l.chain
 ·simp[h1]
  refine cK (by simpa using Qgu hK l.sea) ?_
  by_cases h2:Qx l.sea
  ·simp[h2]
   refine cK (Qcx hK _ _ _) ?_;by_cases h3:Xo l.plo l.phi 99999
   ·simp[h3]
    refine cK (Qcx hK _ _ _) ?_;by_cases h4:Xo l.flo l.fhi 100
    ·simp[h4]
     refine cK (Qcx hK _ _ _) ?_;by_cases h5:Xo l.rlo l.rhi 99999
     ·simp[h5]
      refine cK (VR hK _ _ _) ?_;by_cases h6:inR l.part 1 100
      ·simp[h6]
       intro _;refine cK (VR hK _ _ _) ?_;by_cases h7:inR (l.marks.length:Int) 1 8
       ·have h7':=h7
        simp only[inR] at h7';simp[h7];refine cK (by simpa using Qmy hK l.marks 104 Qdf (Qmz hK) (by kernel_rfl) (by omega)) ?_
        by_cases h8:l.marks.any Qdf=false
        ·simp only[h8]
         simp
         (repeat' first | omega | (with_reducible apply And.intro) | intro _)
         refine cK (VR hK _ _ _) ?_;by_cases h9:inR l.broke 0 ((l.marks.length:Int)-1)
         ·simp[h9]
          refine cK (VR hK _ _ _) ?_;by_cases h10:inR l.pth (-1) 500
          ·simp[h10]
           refine cK (by simpa using Qcw hK l.chain hd hs) ?_
           simp[h1];by_cases h11:(l.marks.length:Int)<=QC l.chain.deeds
           ·have:OkL l:=⟨h1,h2,h3,h4,h5,h6,h7,by simpa using h8,h9,h10,h11⟩
            have h11':¬ QC l.chain.deeds<l.marks.length:=by omega
            simp[h11',this]
           ·have:=no _ OkL.long h11
            have h11':QC l.chain.deeds<l.marks.length:=by omega
            simp[h11',this]
          ·have:=no _ OkL.pth h10
           simp[h10,this]
         ·have:=no _ OkL.broke h9
          simp[h9,this]
        ·have:=no _ OkL.marks (by simpa using h8)
         have h8':l.marks.any Qdf=true:=by simpa using h8
         simp only[h8',this];simp
       ·have:=no _ OkL.mlen h7
        simp[h7,this]
      ·have:=no _ OkL.part h6
       simp[h6,this]
     ·have:=no _ OkL.rated h5
      simp[h5,this]
    ·have:=no _ OkL.flaw h4
     simp[h4,this]
   ·have:=no _ OkL.pull h3
    simp[h3,this]
  ·have:=no _ OkL.sea h2
   simp[h2,this]
 ·have:=no _ OkL.chain h1
  simp[h1,this]
theorem Qmw (l:List Int) (e:Int) (h:l≠[]):Ev.Good Tryz.prog K 112 [Yq l,.int .i64 e] (.int .i64 (l.getD 0 0)):=by
 refine Qb hK Qoj (by simp) ?_
 have h0:0<l.length:=List.length_pos_iff.2 h;simp[h0]
omit hK
structure Qh0 (c:Qn):Prop where
 ok:OkC c
 two:Xy c.deeds=0
 right:Qu c≠[]
theorem Qh0.right0 {c:Qn} (h:Qh0 c):Qu c=[0]:=by
 have h1:=h.right;unfold Qu at h1 |-;rw[h.two] at h1 |-;simp only[Nat.pow_zero,List.range_one] at h1 |-;rw[List.filter_cons] at h1 |-;split at h1
 ·rename_i h2
  simp[h2]
 ·simp at h1
theorem Qh0.ask {c:Qn} (h:Qh0 c) {p:Prop} [Decidable p] (hp:p):Ym c (decide p)=0:=by
 unfold Ym;simp[h.ok,hp,h.right]
def Qh7 (c:Qn) (pos:Int) (m:Int × Int):Bool :=
 decide (inR pos 0 (QC c.deeds-1))&&(decide (m.1<0)||decide (m.1=Qh9 c pos 0))&&(decide (m.2<0)||decide (m.2=ZF c pos 0))
def Vq (c:Qn) (ms:List (Int × Int)) (at_ way:Int):Prop:=∀ i (h:i<ms.length),Qh7 c (at_+way*i) ms[i]=true
noncomputable instance (c:Qn) (ms:List (Int × Int)) (at_ way:Int):Decidable (Vq c ms at_ way):=Classical.propDecidable _
include hK
theorem QpD (c:Qn) (hc:Qh0 c) (pos:Int) (hp:inR pos 0 (QC c.deeds-1)):Ev.Good Tryz.prog K 154 [chV c,.int .i64 pos] (.tup [Yq [Qh9 c pos 0],.int .i64 0]):=by
 have h:=Qme hK c pos (by have:=hc.ok.len;omega) (by have:=hc.ok.slen;omega)
 rw[hc.ask hp,hc.right0] at h;simpa[Yv] using h
theorem QfQ (c:Qn) (hc:Qh0 c) (pos:Int) (hp:inR pos 0 (QC c.deeds-1)):Ev.Good Tryz.prog K 115 [chV c,.int .i64 pos] (.tup [Yq [ZF c pos 0],.int .i64 0]):=by
 have h:=Qmt hK c pos (by have:=hc.ok.len;omega) (by have:=hc.ok.slen;omega)
 rw[hc.ask hp,hc.right0] at h;simpa[Yv] using h
theorem QkA (c:Qn) (hc:Qh0 c) (pos:Int) (hp:inR pos 0 (QC c.deeds-1)):Ev.Good Tryz.prog K 113 [chV c,.int .i64 pos] (.tup [Yq [qw c pos 0],.int .i64 0]):=by
 have h:=Qmv hK c pos (by have:=hc.ok.len;omega) (by have:=hc.ok.slen;omega)
 rw[hc.ask hp,hc.right0] at h;simpa[Yv] using h
theorem UQ (x e:Int):Ev.Good Tryz.prog K 112 [Yq [x],.int .i64 e] (.int .i64 x):=by
 simpa using Qmw hK [x] e (by simp)
theorem qZ (c:Qn) (l:ZB) (at_ way:Int) (hc:Qh0 c) (hm:l.marks.length<=8) (ha : -1000<=at_/\at_<=1000) (hw:way=1\/way = -1) :
  Ev.Good Tryz.prog K 111 [chV c,.agg (QpB l),.int .i64 at_,.int .i64 way] (.bool (decide (Vq c l.marks at_ way))):=by
 refine Qb hK Qok (by simp) ?_
 have h12:=hc.ok.len;have hlb:=hc.ok.deeds.cnt c.deeds.length (Qxw _) (Qxw _);have hlb':0<=QC c.deeds/\QC c.deeds<=12:=by unfold QC;omega
 have no:∀ q:Prop,(Vq c l.marks at_ way->q)->¬ q->¬ Vq c l.marks at_ way:=fun q h1 h2 h=>h2 (h1 h)
 simp;refine cK (by simpa using Qcw hK c (by omega) (by have:=hc.ok.slen;omega)) ?_
 simp[hc.ok]
 (repeat' first | omega | (with_reducible apply And.intro) | intro _)
 refine QI (fun i=>[(2,AV.iv (.int .i64 at_)),(3,AV.iv (.int .i64 way)),(4,AV.iv (.ptr [QO c.deeds,QJ c.sights,.int .i64 c.wrong])),(9,AV.iv (.int .i64 (QC c.deeds))),(20,AV.iv (ZR l.marks)),(21,AV.iv (.int .i64 l.marks.length)),(22,AV.iv (IV.int IntKind.i64 (i:Nat)))])
  (fun _=>[]) l.marks.length (fun i=>∀ k (h:k<l.marks.length),k<i->Qh7 c (at_+way*k) l.marks[k]=true) (fun k h hk=>by omega) ?_ ?_
 ·intro h
  have:Vq c l.marks at_ way:=fun i hi=>h i hi hi
  rw[Qa Qc9.eq_1];simp[this]
 ·intro i hi h ih
  have hwi : -8<=way*(i:Int)/\way*(i:Int)<=8:=by rcases hw with rfl | rfl<;>omega
  have hn:Qh7 c (at_+way*i) l.marks[i]=false->¬ Vq c l.marks at_ way:=fun h1=>no _ (fun h2=>h2 i hi) (by simp[h1])
  have hy:Qh7 c (at_+way*i) l.marks[i]=true->∀ k (h:k<l.marks.length),k<i+1->Qh7 c (at_+way*k) l.marks[k]=true:=fun h1 k hk hki=>by
   rcases Nat.lt_succ_iff_lt_or_eq.1 hki with h2 | h2
   ·exact h k hk h2
   ·subst h2
    exact h1
  rw[Qa Qc9.eq_1];simp[hi] at ih |-;generalize hmk:l.marks[i]=m at *;generalize way*(i:Int)=W at *;refine ⟨by omega,by omega,by omega,?_⟩
  refine cK (VR hK _ _ _) ?_;by_cases hin:inR (at_+W) 0 (QC c.deeds-1)
  ·have hok:Qh7 c (at_+W) m=true↔(m.1<0\/m.1=Qh9 c (at_+W) 0)/\(m.2<0\/m.2=ZF c (at_+W) 0):=by simp[Qh7,hin]
   have hn':¬ ((m.1<0\/m.1=Qh9 c (at_+W) 0)/\(m.2<0\/m.2=ZF c (at_+W) 0))->¬ Vq c l.marks at_ way:=fun h1=>hn (by
    rw[Bool.eq_false_iff];exact fun h2=>h1 (hok.1 h2))
   have hB:=QpD hK c hc _ hin;have hS:=QfQ hK c hc _ hin;simp[hin];by_cases a1:0<=m.1
   ·have a1':¬ m.1<0:=by omega
    simp[a1,a1'];refine cK (by simpa using hB) ?_
    simp;refine cK (by simpa using UQ hK (Qh9 c (at_+W) 0) 0) ?_
    by_cases b1:m.1=Qh9 c (at_+W) 0
    ·simp[b1]
     by_cases a2:0<=m.2
     ·have a2':¬ m.2<0:=by omega
      simp[a2,a2'];refine cK (by simpa using hS) ?_
      simp;refine cK (by simpa using UQ hK (ZF c (at_+W) 0) 0) ?_
      by_cases b2:m.2=ZF c (at_+W) 0
      ·simp[b2]
       (repeat' first | omega | (with_reducible apply And.intro) | intro _)
       exact ih (hy (hok.2 ⟨.inr b1,.inr b2⟩))
      ·have:=hn' (by omega)
       simp[b2,this]
     ·have a2':m.2<0:=by omega
      simp[a2,a2']
      (repeat' first | omega | (with_reducible apply And.intro) | intro _)
      exact ih (hy (hok.2 ⟨.inr b1,.inl a2'⟩))
    ·have:=hn' (by omega)
     simp[b1,this]
   ·have a1':m.1<0:=by omega
    simp[a1,a1'];by_cases a2:0<=m.2
    ·have a2':¬ m.2<0:=by omega
     simp[a2,a2'];refine cK (by simpa using hS) ?_
     simp;refine cK (by simpa using UQ hK (ZF c (at_+W) 0) 0) ?_
     by_cases b2:m.2=ZF c (at_+W) 0
     ·simp[b2]
      (repeat' first | omega | (with_reducible apply And.intro) | intro _)
      exact ih (hy (hok.2 ⟨.inl a1',.inr b2⟩))
     ·have:=hn' (by omega)
      simp[b2,this]
    ·have a2':m.2<0:=by omega
     simp[a2,a2']
     (repeat' first | omega | (with_reducible apply And.intro) | intro _)
     exact ih (hy (hok.2 ⟨.inl a1',.inl a2'⟩))
  ·have:=hn (by simp[Qh7,hin])
   simp[hin,this]
omit hK
def qE (d:Qy) (x:Int):Qy:={ d with frm:=x }
def Yx:List Qy->List (List Qy)
 | []=>[[]]
 | d::r=>if d.frm=2 then (Yx r).map (qE d 0::·)++(Yx r).map (qE d 1::·) else (Yx r).map (d::·)
theorem Qls (ds:List Qy) (h:Xy ds=0):∀ x∈ds,ZO x=false:=by
 intro x hx;have:=List.countP_eq_zero.1 h x hx;simpa[ZO] using this
theorem WU:∀ ds:List Qy,Xy ds=0->Yx ds=[ds]
 | [],_=>rfl
 | d::r,h=>by
   by_cases hd:d.frm=2
   ·simp[Xy,Qym,hd] at h
   ·have:=WU r (by simpa[Xy,Qym,hd] using h)
    simp[Yx,hd,this]
theorem QgC:∀ ds:List Qy,Xy ds≠0->∃ i:Nat,(∀ x∈ds.take i,ZO x=false)/\∃ h:i<ds.length,ds[i].frm=2/\Yx ds=Yx (ds.set i (qE ds[i] 0))++Yx (ds.set i (qE ds[i] 1))/\∀ x:Int,x≠2->Xy (ds.set i (qE ds[i] x))+1=Xy ds
 | [],h=>absurd rfl h
 | d::r,h=>by
   by_cases hd:d.frm=2
   ·refine ⟨0,by simp,by simp,hd,?_,fun x hx=>?_⟩
    ·simp[Yx,hd,qE]
    ·simp[Xy,Qym,qE,hx,hd]
   ·have h':Xy r≠0:=by simpa[Xy,Qym,hd] using h
    obtain ⟨i,h1,h2,h3,h4,h5⟩:=QgC r h';refine ⟨i+1,?_,by simpa using h2,by simpa using h3,?_,fun x hx=>?_⟩
    ·intro x hx
     rw[List.take_succ_cons,Qx4] at hx;rcases hx with rfl | hx
     ·simp[ZO,hd]
     ·exact h1 x hx
    ·simp only[List.set_cons_succ,List.getElem_cons_succ,Yx,hd,if_false]
     grind
    ·have:=h5 x hx
     simp only[List.set_cons_succ,List.getElem_cons_succ];simp[Xy,hd] at this |-;omega
noncomputable def Q2 (c:Qn):List Qn:=((Yx c.deeds).map fun ds=>{ c with deeds:=ds }).filter fun c'=>decide (Ym c' true=0)
def qW (c:Qn):List IV:=[chV c]
theorem Qce (c:Qn) (h:Xy c.deeds=0):Q2 c=if Ym c true=0 then [c] else []:=by
 unfold Q2;rw[WU _ h];by_cases h1:Ym c true=0<;>simp[h1]
include hK
theorem Qcj:∀ (n:Nat) (c:Qn),Xy c.deeds=n->c.deeds.length<=1000->c.sights.length<=1000->Qh2 Tryz.prog K 153 [chV c] [] ((Q2 c).map qW) (fun b=>.bool b)
 | 0,c,hn,hl,hs=>by
   intro s b s' hf;refine Q0 QhJ (by simp) hf.v rfl ?_
   have hfi:=Qls _ hn;rw[Qce c hn] at hf;simp
   (repeat' first | omega | (with_reducible apply And.intro) | intro _)
   refine QI (fun i=>[(1,AV.cb 0),(2,AV.iv (.ptr [QO c.deeds,QJ c.sights,.int .i64 c.wrong])),(12,AV.iv (QO c.deeds)),(13,AV.iv (.int .i64 c.deeds.length)),(14,AV.iv (IV.int IntKind.i64 (i:Nat)))]) (fun _=>[(0,.ext s)]) c.deeds.length (fun _=>True) trivial ?_ ?_
   ·intro _
    rw[Qa Qan.eq_1];simp;refine cK (by simpa using Ql3 hK c (pmC c) (Qfk hK c) hl hs) ?_
    by_cases h1:Ym c true=0
    ·simp[h1] at hf |-
     cases hf with
     | stop _ _ _ _ hg =>
       refine Zw (by simpa[qW] using hg) rfl ?_
       simp
     | next _ _ _ s1 _ _ hg hr =>
       cases hr;refine Zw (by simpa[qW] using hg) rfl ?_
       simp
    ·simp[h1] at hf |-
     cases hf
     grind
   ·intro i hi _ ih
    have h2:=hfi _ (Qxx hi);have h2':¬ c.deeds[i].frm=2:=by simpa[ZO] using h2
    rw[Qa Qan.eq_1];simp[hi,h2'] at ih |-
    grind
 | n+1,c,hn,hl,hs=>by
   intro s b s' hf;refine Q0 QhJ (by simp) hf.v rfl ?_
   obtain ⟨i,h1,h2,h3,h4,h5⟩:=QgC c.deeds (by omega)
   have hne:c.deeds≠[]:=fun e=>by grind
   have hgc:=clone186 (K:=K) c.deeds hl hne;have ih0:=Qcj n { c with deeds:=c.deeds.set i (qE c.deeds[i] 0) } (by grind) (by simpa using hl) hs
   have ih1:=Qcj n { c with deeds:=c.deeds.set i (qE c.deeds[i] 1) } (by grind) (by simpa using hl) hs
   have hkn:Q2 c=Q2 { c with deeds:=c.deeds.set i (qE c.deeds[i] 0) }++Q2 { c with deeds:=c.deeds.set i (qE c.deeds[i] 1) }:=by
    unfold Q2
    grind
   rw[hkn,QxV] at hf;generalize hL0:Q2 { c with deeds:=c.deeds.set i (qE c.deeds[i] 0) }=L0 at *
   generalize hL1:Q2 { c with deeds:=c.deeds.set i (qE c.deeds[i] 1) }=L1 at *
   simp
   (repeat' first | omega | (with_reducible apply And.intro) | intro _)
   refine QI (fun k=>[(1,AV.cb 0),(2,AV.iv (.ptr [QO c.deeds,QJ c.sights,.int .i64 c.wrong])),(12,AV.iv (QO c.deeds)),(13,AV.iv (.int .i64 c.deeds.length)),(14,AV.iv (IV.int IntKind.i64 (k:Nat)))]) (fun _=>[(0,.ext s)]) c.deeds.length (fun k=>k<=i) (by omega) ?_ ?_
   ·intro h
    omega
   ·intro q hq hqi ih
    rw[Qa Qan.eq_1];by_cases hqe:q=i
    ·subst hqe
     clear ih;simp[hq,h3]
     refine JG 2 (fun k e o=>∃ si,e=[(1,AV.cb 0),(2,AV.iv (.ptr [QO c.deeds,QJ c.sights,.int .i64 c.wrong])),(5,AV.iv (.int .i64 (q:Nat))),(22,AV.iv (.int .i64 (k:Nat)))]/\o=[(0,.ext si)] /\
      Zp Tryz.prog K (if k=0 then L0.map qW++L1.map qW else if k=1 then L1.map qW else []) si b s') ?_ ?_ _ _ ⟨s,by simp,by simp,by simpa using hf⟩
     ·rintro e o ⟨si,rfl,rfl,hfd⟩
      cases hfd;rw[Qa Qc4.eq_1];simp
     ·rintro k e o hk ⟨si,rfl,rfl,hfd⟩ ih
      have hk2:k=0\/k=1:=by omega
      rw[Qa Qc4.eq_1]
      have hset:∀ x:Int,(List.map (List.map AV.iv∘dC) c.deeds).set q [AV.iv (.int .i64 c.deeds[q].what),AV.iv (.int .i64 c.deeds[q].pos),AV.iv (.int .i64 x),AV.iv (.int .i64 c.deeds[q].bar),AV.iv (.int .i64 c.deeds[q].smith)]=emb ((c.deeds.set q (qE c.deeds[q] x)).map dC):=fun x=>by
       simp[emb,List.map_set,qE]
      rcases hk2 with rfl | rfl
      ·simp only[if_true] at hfd
       simp;refine Qaf hgc (by simp) ?_
       simp[h2,hset,QxH];rcases hfd.append with ⟨s1,hf1,hf2⟩ | ⟨rfl,hf1⟩
       ·refine Y3 (by simpa[QxH] using ih0 _ _ _ hf1) rfl ?_
        simp;exact ih _ _ ⟨s1,by simp,by simp,by simpa using hf2⟩
       ·refine Y3 (by simpa[QxH] using ih0 _ _ _ hf1) rfl ?_
        simp
      ·simp only[if_true] at hfd
       simp at hfd;simp;refine Qaf hgc (by simp) ?_
       simp[h2,hset,QxH];refine Y3 (by simpa[QxH] using ih1 _ _ _ hfd) rfl ?_
       cases b
       ·simp
       ·simp
        exact ih _ _ ⟨s',by simp,by simp,by simpa using Zp.nil _⟩
    ·have hlt:q<i:=by omega
     have h6:=h1 c.deeds[q] (by
      rw[List.mem_take_iff_getElem];exact ⟨q,by omega,rfl⟩)
     have h6':¬ c.deeds[q].frm=2:=by simpa[ZO] using h6
     simp[hq,h6'] at ih |-;refine ⟨by omega,ih (by omega)⟩
theorem QlF (c:Qn) (hl:c.deeds.length<=1000) (hs:c.sights.length<=1000):∀ s b s',Zp Tryz.prog K ((Q2 c).map qW) s b s'->QbG Tryz.prog K 152 [] [.ptr [QO c.deeds,QJ c.sights,.int .i64 c.wrong]] s (.tup []) s':=by
 intro s b s' hf;refine Q0 QnO (by simp) hf.v rfl ?_
 have h:=Qcj hK (Xy c.deeds) c rfl hl hs s b s' hf;simp;refine Y3 (by simpa using h) rfl ?_
 simp
theorem Qmx (c:Qn):Ev.Good Tryz.prog K 110 [chV c] (.clo 152 [] [.ptr [QO c.deeds,QJ c.sights,.int .i64 c.wrong]]):=by
 refine Qb hK Qol (by simp) ?_
 simp
omit hK
def Qcm {α:Type} [DecidableEq α]:List (α × Nat)->α->List (α × Nat)
 | [],x=>[(x,1)]
 | p::r,x=>if p.1=x then (x,p.2+1)::r else p::Qcm r x
def q5 {α:Type} [DecidableEq α]:List (α × Nat)->α->Nat
 | [],_=>0
 | p::r,x=>if p.1=x then p.2 else q5 r x
def Jv {α:Type} (k:α->MK) (l:List (α × Nat)):List (MK × IV):=l.map fun p=>(k p.1,.int .i64 (p.2:Nat))
section
variable {α:Type} [DecidableEq α] {k:α->MK} (hk:∀ x y,k x=k y->x=y)
include hk
theorem Wf (x:α):∀ l,(Qg (k x) (Jv k l)).getD (.int .i64 0)=.int .i64 (q5 l x:Nat)
 | []=>rfl
 | p::r=>by
   by_cases h:p.1=x
   ·simp[Jv,Qg,q5,h]
   ·have h2:¬ k p.1=k x:=fun e=>h (hk _ _ e)
    have:=Wf x r;simp[Jv,Qg,q5,h,h2] at this |-;exact this
theorem Qaa (x:α):∀ l,mins (k x) (.int .i64 ((q5 l x:Nat)+1)) (Jv k l)=Jv k (Qcm l x)
 | []=>by simp[Jv,mins,q5,Qcm]
 | p::r=>by
   by_cases h:p.1=x
   ·simp[Jv,mins,q5,Qcm,h]
   ·have h2:¬ k p.1=k x:=fun e=>h (hk _ _ e)
    have:=Qaa x r;simp[Jv,mins,q5,Qcm,h,h2] at this |-;exact this
end
theorem Vs {α:Type} {k:α->MK} {kk:KK} (hk:∀ x,(k x).kind=kk):∀ l:List (α × Nat),QN kk (Jv k l)
 | []=>trivial
 | _::r=>⟨hk _,Vs hk r⟩
theorem QdV {α:Type} [DecidableEq α] (x y:α):∀ l,q5 (Qcm l x) y<=q5 l y+1
 | []=>by simp[Qcm,q5];split<;>omega
 | p::r=>by
   unfold Qcm;split
   ·simp only[q5];grind
   ·simp only[q5]
    split
    ·omega
    ·exact QdV x y r
def Wh {α:Type} [DecidableEq α] (l:List α):List (α × Nat):=l.foldl Qcm []
theorem JU {α:Type} [DecidableEq α] (l:List α) (x:α):Wh (l++[x])=Qcm (Wh l) x:=by simp[Wh]
theorem Qgv {α:Type} [DecidableEq α] (y:α):∀ l:List α,q5 (Wh l) y<=l.length:=by
 refine V8 (by simp[Wh,q5]) fun l x ih=>?_
 rw[JU];have:=QdV x y (Wh l);simp;omega
structure Qia where
 link:Int
 pos:Int
 smith:Int
 pv:Bool
 deriving DecidableEq
def spK (s:Qia):MK:=.agg [.int .i64 s.link,.int .i64 s.pos,.int .i64 s.smith,.bool s.pv]
theorem qC (x y:Qia) (h:spK x=spK y):x=y:=by
 cases x;cases y;simpa[spK] using h
theorem Qdq (x:Qia):(spK x).kind=.agg [some .i64,some .i64,some .i64,none]:=rfl
noncomputable def Yn (c:Qn) (p:Int):Qia:=⟨qw c p 0,p,ZF c p 0,decide (0<Yo c (qw c p 0) 0)⟩
noncomputable def WC (l:ZB) (c:Qn) (at_ way:Int):List Qia:=if Vq c l.marks at_ way then [Yn c (at_+way*l.broke)] else []
noncomputable def qB (l:ZB) (c:Qn) (at_:Int):List Qia:=WC l c at_ 1++WC l c at_ (-1)
noncomputable def XA (l:ZB) (c:Qn) (n:Nat):List Qia:=(List.range n).flatMap fun a=>qB l c (a:Nat)
noncomputable def Yl (l:ZB) (L:List Qn):List Qia:=L.flatMap fun c=>XA l c (QC c.deeds).toNat
theorem Jx (l:ZB) (c:Qn) (a w:Int):(WC l c a w).length<=1:=by unfold WC;split<;>simp
theorem WQ (l:ZB) (c:Qn) (n:Nat):XA l c (n+1)=XA l c n++qB l c n:=by simp[XA,Qye]
theorem Ur (l:ZB) (c:Qn):∀ n,(XA l c n).length<=n*2
 | 0=>by simp[XA]
 | n+1=>by
   have ih:=Ur l c n;have h1:=Jx l c n 1;have h2:=Jx l c n (-1);rw[WQ];unfold qB;simp;omega
theorem WT:∀ ds:List Qy,∀ x∈Yx ds,Xy x=0
 | [],x,h=>by
   simp[Yx] at h;subst h;rfl
 | d::r,x,h=>by
   have ih:=WT r;unfold Yx at h;split at h
   ·simp at h
    rcases h with ⟨y,hy,rfl⟩ | ⟨y,hy,rfl⟩
    ·have:=ih y hy
     simp[Xy,Qym,qE] at this |-;exact this
    ·have:=ih y hy
     simp[Xy,Qym,qE] at this |-;exact this
   ·rename_i hd
    simp at h;obtain ⟨y,hy,rfl⟩:=h;have:=ih y hy;simp[Xy,Qym,hd] at this |-;exact this
theorem W7 {c c':Qn} (h:c'∈Q2 c):Qh0 c':=by
 unfold Q2 at h;obtain ⟨h1,h2⟩:=Qyp.1 h;obtain ⟨ds,hds,rfl⟩:=QxR.1 h1;have h2:=of_decide_eq_true h2;have h3:=WT _ _ hds;unfold Ym at h2;exact ⟨by grind,h3,by grind⟩
theorem QaC:∀ ds:List Qy,(Yx ds).length<=2 ^ ds.length
 | []=>by simp[Yx]
 | d::r=>by
   have ih:=QaC r;unfold Yx;split<;>simp[Nat.pow_succ]<;>omega
theorem QeH (c:Qn) (h:c.deeds.length<=12):(Q2 c).length<=4096:=by
 have h1:=QaC c.deeds;have h2:=YV h;unfold Q2;refine Qx7 (Qx0 _ _) ?_;simp;omega
theorem Qlz (x:Int):loD [x]=x:=by simp[loD,Yv]
theorem QlM (x:Int):hiD [x]=x:=by simp[hiD,Yv]
include hK
theorem Qkz (c:Qn) (hc:Qh0 c) (link:Int) (hp:inR link 0 ((WA c.deeds:Int)-1)):Ev.Good Tryz.prog K 114 [chV c,.int .i64 link] (.tup [.agg [.int .i64 (Yo c link 0),.int .i64 (Yo c link 0)],.int .i64 0]):=by
 have h:=Qmu hK c link (by have:=hc.ok.len;omega) (by have:=hc.ok.slen;omega)
 rw[hc.ask hp,hc.right0] at h;simpa[Qlz,QlM] using h
theorem QpE (c:Qn) (hc:Qh0 c):Ev.Good Tryz.prog K 109 [chV c] (.tup [.int .i64 (QC c.deeds),.int .i64 0]):=by
 have h:=Qcw hK c (by have:=hc.ok.len;omega) (by have:=hc.ok.slen;omega)
 simpa[hc.ok] using h
omit hK
theorem QgB {c:Qn} {l:ZB} {a w:Int} (h:Vq c l.marks a w) (hb:inR l.broke 0 ((l.marks.length:Int)-1)):inR (a+w*l.broke) 0 (QC c.deeds-1):=by
 simp only[inR] at hb;have h1:=h l.broke.toNat (by omega)
 have e:((l.broke.toNat:Nat):Int)=l.broke:=by omega
 rw[e] at h1;unfold Qh7 at h1
 grind
theorem Qkg {c:Qn} (hc:OkC c) {p:Int} (hp:inR p 0 (QC c.deeds-1)):inR (qw c p 0) 0 ((WA c.deeds:Int)-1):=by
 simp only[inR] at hp;have h1:=Yk (Zq c.deeds 0) hc.deeds c.deeds.length (Qxw _) (Qxw _);have h2:p.toNat<(cab c.deeds (Zq c.deeds 0) c.deeds.length).length:=by unfold QC at hp;omega
 have h3:=Ul (Zq c.deeds 0) p.toNat h2;have h4:(ZL c.deeds).length=WA c.deeds:=rfl;unfold qw;rw[List.getD_eq_getElem?_getD,Qxq h2];simp only[inR,Qys];omega
noncomputable def Z0 (l:ZB) (c:Qn) (a:Int):Nat->List Qia
 | 0=>[]
 | 1=>WC l c a 1
 | _=>qB l c a
include hK
theorem Qp5 (l:ZB) (hl:OkL l):Ev.Good Tryz.prog K 84 [lsV l] (.map (Jv spK (Wh (Yl l (Q2 l.chain))))):=by
 refine Qb hK QqU (by simp) ?_
 have h12:=hl.chain.len;have h8:=hl.chain.slen;have hkl:=QeH l.chain h12;have hm8:=hl.mlen;have hbr:=hl.broke;simp only[inR] at hm8;have hbr':=hbr;simp only[inR] at hbr';simp;refine cK (by simpa using Qmx hK l.chain) ?_
 simp;refine QZ (wy:=.fall) (o':=[(3,.box [.oref 14]),(14,.mapd (Jv spK (Wh (Yl l (Q2 l.chain)))))]) rfl (by kernel_rfl) (QlF hK l.chain (by omega) (by omega)) ?_ ?_
 ·have:=Vx.all (P:=Tryz.prog) (K:=K) (ps:=[18]) (asn:=QcK) (body:=Qhy) (ks:=[1,3]) (ids:=[3,14]) (eK:=[(1,.iv (.ptr (lsC l))),(3,.loc 3 0)]) ((Q2 l.chain).map qW)
   (fun i=>[(3,.box [.oref 14]),(14,.mapd (Jv spK (Wh (Yl l ((Q2 l.chain).take i)))))]) fun i x hi=>by
   simp only[Qxz,Qxu] at hi;obtain ⟨c,hc,rfl⟩:=hi;have hlt:=(Qxr.1 hc).1;have hci:(Q2 l.chain)[i]=c:=(Qxr.1 hc).2;have hs1:=W7 (QxF hc)
   have hsp:Yl l ((Q2 l.chain).take (i+1))=Yl l ((Q2 l.chain).take i)++XA l c (QC c.deeds).toNat:=by
    rw[Qxt hlt,hci];simp[Yl]
   have hPl:(Yl l ((Q2 l.chain).take i)).length<=i*24:=by
    have h1:=Zf (fun c=>XA l c (QC c.deeds).toNat) 24 ((Q2 l.chain).take i) (fun c' hc'=>by
     have h2:=W7 (Qx8 hc');have h3:=h2.ok.deeds.cnt c'.deeds.length (Qxw _) (Qxw _);have h4:=Ur l c' (QC c'.deeds).toNat;have h5:=h2.ok.len;unfold QC at *;omega)
    unfold Yl;simp at h1 |-;omega
   rw[hsp];generalize Yl l ((Q2 l.chain).take i)=P at *;have hlb:=hs1.ok.deeds.cnt c.deeds.length (Qxw _) (Qxw _);have hc12:=hs1.ok.len;have hlb':0<=QC c.deeds/\QC c.deeds<=12:=by unfold QC;omega
   refine ⟨rfl,?_⟩;simp[qW,QcK,Qhy];refine cK (by simpa using QpE hK c hs1) ?_
   simp;have e0:AO.mapd (Jv spK (Wh P))=.mapd (Jv spK (Wh (P++XA l c 0))):=by simp[XA]
   rw[e0]
   refine QI (fun a=>[(1,AV.iv (.ptr (lsC l))),(3,AV.loc 3 0),(4,AV.loc 4 0),(24,AV.iv (.int .i64 (QC c.deeds))),(25,AV.iv (IV.int IntKind.i64 (a:Nat)))])
    (fun a=>[(3,.box [.oref 14]),(4,.box [.iv (QO c.deeds),.iv (QJ c.sights),.iv (.int .i64 c.wrong)]),(14,.mapd (Jv spK (Wh (P++XA l c a))))]) (QC c.deeds).toNat (fun _=>True) trivial ?_ ?_
   ·intro _
    have e1:(((QC c.deeds).toNat:Nat):Int)=QC c.deeds:=by omega
    rw[Qa Qhz.eq_1];simp[e1]
   ·intro a ha _ ih
    have ha':(a:Int)<QC c.deeds:=by omega
    have hal:=Ur l c a;rw[WQ] at ih;rw[Qa Qhz.eq_1];simp[ha'];have e1:AO.mapd (Jv spK (Wh (P++XA l c a)))=.mapd (Jv spK (Wh (P++XA l c a++Z0 l c a 0))):=by simp[Z0]
    rw[e1]
    refine QI (fun k=>[(1,AV.iv (.ptr (lsC l))),(3,AV.loc 3 0),(4,AV.loc 4 0),(7,AV.iv (IV.int IntKind.i64 (a:Nat))),(24,AV.iv (.int .i64 (QC c.deeds))),(25,AV.iv (IV.int IntKind.i64 (a:Nat))),(28,AV.iv (.agg [.int .i64 1,.int .i64 (-1)])),(29,AV.iv (IV.int IntKind.i64 (k:Nat)))])
     (fun k=>[(3,.box [.oref 14]),(4,.box [.iv (QO c.deeds),.iv (QJ c.sights),.iv (.int .i64 c.wrong)]),(14,.mapd (Jv spK (Wh (P++XA l c a++Z0 l c a k))))]) 2 (fun _=>True) trivial ?_ ?_
    ·intro _
     rw[Qa QhA.eq_1];simp[Z0] at ih |-;exact ⟨by omega,ih⟩
    ·intro k hk _ ih2
     rw[Qa QhA.eq_1];have hk2:k=0\/k=1:=by omega
     rcases hk2 with rfl | rfl
     ·simp only[QxE,Nat.reduceAdd] at ih2
      by_cases hf:Vq c l.marks a (1)
      ·have hp:inR ((a:Int)+l.broke) 0 (QC c.deeds-1):=by simpa using QgB hf hbr
       have hw:=Qkg hs1.ok hp;have hWk:Z0 l c a 1=Z0 l c a 0++[Yn c ((a:Int)+l.broke)]:=by simp[Z0,qB,WC,hf]
       have hle:=Qgv (Yn c ((a:Int)+l.broke)) (P++XA l c a++Z0 l c a 0)
       have hkl2:(P++XA l c a++Z0 l c a 0).length<=200000:=by
        have:=Jx l c a 1;simp[Z0];omega
       rw[hWk,<- QxJ,JU] at ih2;generalize Wh (P++XA l c a++Z0 l c a 0)=kv at *;have q1:(Qg (MK.agg [.int .i64 (qw c ((a:Int)+l.broke) 0),.int .i64 ((a:Int)+l.broke),.int .i64 (ZF c ((a:Int)+l.broke) 0),.bool (decide (0<Yo c (qw c ((a:Int)+l.broke) 0) 0))]) (Jv spK kv)).getD (.int .i64 0)=.int .i64 (q5 kv (Yn c ((a:Int)+l.broke)):Nat):=Wf qC (Yn c ((a:Int)+l.broke)) kv;have q2:mins (MK.agg [.int .i64 (qw c ((a:Int)+l.broke) 0),.int .i64 ((a:Int)+l.broke),.int .i64 (ZF c ((a:Int)+l.broke) 0),.bool (decide (0<Yo c (qw c ((a:Int)+l.broke) 0) 0))]) (.int .i64 ((q5 kv (Yn c ((a:Int)+l.broke)):Nat)+1)) (Jv spK kv)=Jv spK (Qcm kv (Yn c ((a:Int)+l.broke))):=Qaa qC (Yn c ((a:Int)+l.broke)) kv;have q3:QN (.agg [some .i64,some .i64,some .i64,none]) (Jv spK kv):=Vs Qdq kv;generalize Yn c ((a:Int)+l.broke)=sp at *;simp at ih2 |-;refine cK (by simpa using qZ hK c l a (1) hs1 (by omega) (by omega) (.inl rfl)) ?_
       simp[hf]
       (repeat' first | omega | (with_reducible apply And.intro) | intro _)
       refine cK (by simpa using QkA hK c hs1 _ hp) ?_
       simp;refine cK (by simpa using UQ hK (qw c ((a:Int)+l.broke) 0) 0) ?_
       simp;refine cK (by simpa using Qkz hK c hs1 _ hw) ?_
       simp;refine cK (by simpa using QfQ hK c hs1 _ hp) ?_
       simp;refine cK (by simpa using UQ hK (ZF c ((a:Int)+l.broke) 0) 0) ?_
       simp[Qcf,Qr4,KC.kind,q1,q3,UT,Qb7,q2];exact ⟨by omega,by simpa using ih2⟩
      ·have hWk:Z0 l c a 1=Z0 l c a 0:=by simp[Z0,qB,WC,hf]
       rw[hWk] at ih2;generalize Wh (P++XA l c a++Z0 l c a 0)=kv at *;simp at ih2 |-;refine cK (by simpa using qZ hK c l a (1) hs1 (by omega) (by omega) (.inl rfl)) ?_
       simp[hf];exact ih2
     ·simp only[QxE,Nat.reduceAdd] at ih2
      by_cases hf:Vq c l.marks a (-1)
      ·have hp:inR ((a:Int) + -l.broke) 0 (QC c.deeds-1):=by simpa using QgB hf hbr
       have hw:=Qkg hs1.ok hp;have hWk:Z0 l c a 2=Z0 l c a 1++[Yn c ((a:Int) + -l.broke)]:=by simp[Z0,qB,WC,hf]
       have hle:=Qgv (Yn c ((a:Int) + -l.broke)) (P++XA l c a++Z0 l c a 1)
       have hkl2:(P++XA l c a++Z0 l c a 1).length<=200000:=by
        have:=Jx l c a 1;simp[Z0];omega
       rw[hWk,<- QxJ,JU] at ih2;generalize Wh (P++XA l c a++Z0 l c a 1)=kv at *;have q1:(Qg (MK.agg [.int .i64 (qw c ((a:Int) + -l.broke) 0),.int .i64 ((a:Int) + -l.broke),.int .i64 (ZF c ((a:Int) + -l.broke) 0),.bool (decide (0<Yo c (qw c ((a:Int) + -l.broke) 0) 0))]) (Jv spK kv)).getD (.int .i64 0)=.int .i64 (q5 kv (Yn c ((a:Int) + -l.broke)):Nat):=Wf qC (Yn c ((a:Int) + -l.broke)) kv;have q2:mins (MK.agg [.int .i64 (qw c ((a:Int) + -l.broke) 0),.int .i64 ((a:Int) + -l.broke),.int .i64 (ZF c ((a:Int) + -l.broke) 0),.bool (decide (0<Yo c (qw c ((a:Int) + -l.broke) 0) 0))]) (.int .i64 ((q5 kv (Yn c ((a:Int) + -l.broke)):Nat)+1)) (Jv spK kv)=Jv spK (Qcm kv (Yn c ((a:Int) + -l.broke))):=Qaa qC (Yn c ((a:Int) + -l.broke)) kv;have q3:QN (.agg [some .i64,some .i64,some .i64,none]) (Jv spK kv):=Vs Qdq kv;generalize Yn c ((a:Int) + -l.broke)=sp at *;simp at ih2 |-;refine cK (by simpa using qZ hK c l a (-1) hs1 (by omega) (by omega) (.inr rfl)) ?_
       simp[hf]
       (repeat' first | omega | (with_reducible apply And.intro) | intro _)
       refine cK (by simpa using QkA hK c hs1 _ hp) ?_
       simp;refine cK (by simpa using UQ hK (qw c ((a:Int) + -l.broke) 0) 0) ?_
       simp;refine cK (by simpa using Qkz hK c hs1 _ hw) ?_
       simp;refine cK (by simpa using QfQ hK c hs1 _ hp) ?_
       simp;refine cK (by simpa using UQ hK (ZF c ((a:Int) + -l.broke) 0) 0) ?_
       simp[Qcf,Qr4,KC.kind,q1,q3,UT,Qb7,q2];exact ⟨by omega,by simpa using ih2⟩
      ·have hWk:Z0 l c a 2=Z0 l c a 1:=by simp[Z0,qB,WC,hf]
       rw[hWk] at ih2;generalize Wh (P++XA l c a++Z0 l c a 1)=kv at *;simp at ih2 |-;refine cK (by simpa using qZ hK c l a (-1) hs1 (by omega) (by omega) (.inr rfl)) ?_
       simp[hf];exact ih2
  simpa[Yl,Wh,Jv,QxH] using this
 ·simp
end Go.Pf
namespace Go.Proofs
open Go.Shelf
def Tryz.clone169_ren:Go.Shelf.Ren:=⟨fun | 41=>169 | n=>n,fun | 22=>65 | 23=>24 | 4=>4 | n=>n,fun | n=>n⟩
theorem Tryz.clone169:Go.Proofs.SlLaysE0.n41 Tryz.prog Tryz.clone169_ren:={
 mixed:=by kernel_rfl
 f41:=⟨Tryz.f169.name,by decide,Tryz.func169.trans (congrArg some (by kernel_rfl))⟩
 t4:=Tryz.underlying4
 a4:=Tryz.isAgg4
 z4:=Tryz.sizeOf4
 v4:=Tryz.zeroValue4
 t22:=Tryz.underlying65
 a22:=Tryz.isAgg65
 z22:=Tryz.sizeOf65
 v22:=Tryz.zeroValue65 }
end Go.Proofs
namespace Go.Pf
open Go Go.Ev Go.Proofs Go.RowKit
variable {K:World->Prop} (hK:∀ w w',K w->Below w.heap.size w w'->K w')
set_option maxRecDepth 8000
noncomputable def Qsx:TypeInfo:=(Tryz.prog.info? 24).get (by kernel_rfl)
def QbQ (c:Sea) (i:Nat) (n:Int):Sea:={ c with waters:=c.waters.set i (n,n) }
def J4 (c:Sea) (n:Int):Sea:={ c with wlo:=n,whi:=n }
def Ja (lo hi:Int):List Int:=(List.range (hi+1-lo).toNat).map fun k=>lo+(k:Nat)
def Qo3 (c:Sea):Int:=loD ((wTr c).map fun w=>Zk c w c.voys.length)
def QpV (c:Sea):Int:=loD ((wTr c).map fun w=>Xt c (Zk c w c.voys.length))
noncomputable def qV (l:ZB) (c:Sea) (n:Int):List Int:=if tW (J4 c n) true=0/\¬ (0<=l.pth/\Qo3 (J4 c n)≠l.pth) then [QpV (J4 c n)] else []
noncomputable def Yr (l:ZB):Nat->Sea->Nat->List Int
 | 0,c,_=>(Ja c.wlo c.whi).flatMap (qV l c)
 | k+1,c,w=>(Ja (c.waters.getD w (0,0)).1 (c.waters.getD w (0,0)).2).flatMap fun n=>Yr l k (QbQ c w n) (w+1)
@[reducible] def Yy (l:ZB) (P:List Int):Qh:=[(0,.box [.clo 168 [] [.loc 0 0,.iv (.ptr (lsC l)),.loc 1 0]]),(1,.box [.oref 2]),(2,.mapd (Jr (Xh P)))]
theorem Vf {P:Program} {K:World->Prop} {F:Ev.Way->Env->Qh->Prop} {c:AC} {ks ids:List Nat} {k:List AI} {e0:Env} {o0:Qh} (st:Nat->Env) (so:Nat->Qh) (n:Nat) (Q:Nat->Prop) (h0:Q 0)
  (hn:Q n->QP P K F c ks ids k (st n) (so n))
  (hs:∀ i,i<n->Q i->(Q (i+1)->QP P K F c ks ids k (st (i+1)) (so (i+1)))->QP P K F c ks ids k (st i) (so i)) (he:e0=st 0) (ho:o0=so 0):QP P K F c ks ids k e0 o0:=by
 subst he ho;exact QI st so n Q h0 hn hs
section
theorem clone169 (l:List (Int × Int)) (hl:l.length<=1000) (hne:l≠[]):QbH Tryz.prog K 169 [ZR l] (.aref 0 l.length) 24 2 (l.map spC) 0:=by
 have h:=Wi (P:=Tryz.prog) (K:=K) (f:=169) (e:=24) (sz:=2) (bytes:=16) (AnyE.slices_Clone Tryz.clone169 Qsx (.agg #[.int .i64 0,.int .i64 0]) 2 16 (by kernel_rfl) (by kernel_rfl) (by kernel_rfl) (by kernel_rfl) rfl (by decide) Tryz.sizeOf24) (l.map spC) (by simp;omega) (fun c hc=>by obtain ⟨x,_,rfl⟩:=QxR.1 hc;rfl) (by simpa using hne)
 simpa using h
theorem QjW:Qkf Tryz.prog 168 Qnz [2,4]:=⟨_,Tryz.func168,by kernel_rfl⟩
theorem Ub (l:ZB) (P:List Int):∀ q∈Yy l P,q.1<3/\Yp q.2=true/\clO ((Yy l P).map (·.1)) q.2=true:=by
 intro q hq;simp only[Qx4,QyD,or_false] at hq;rcases hq with rfl | rfl | rfl
 ·exact ⟨by omega,rfl,by simp[clO,clAL,clA]⟩
 ·exact ⟨by omega,rfl,by simp[clO,clAL,clA]⟩
 ·exact ⟨by omega,rfl,by simp[clO]⟩
def Qso (l:ZB) (Q:List Int):Env->Qh->Prop:=QoV [] [0,1,2] [(2,0,0),(4,1,0)] (.iv (.tup [])) (Yy l Q)
theorem QgW {l:ZB} {Q:List Int} {e:Env} {o:Qh} (h1:Ev.look e 2=.loc 0 0) (h2:Ev.look e 4=.loc 1 0) (h3:∀ q∈Yy l Q,Qc o q.1=some q.2):Qso l Q e o:=by
 refine ⟨⟨.iv (.tup []),rfl,rfl⟩,fun q hq=>?_,fun q hq=>?_⟩
 ·have h4:=h3 q hq
  simp only[Yy,Qx4,QyD,or_false] at hq;rcases hq with rfl | rfl | rfl
  ·exact h4
  ·exact h4
  ·exact h4
 grind
theorem qa (l:ZB) (c:Sea) (w:Nat) (P Q:List Int) (h:WpF Tryz.prog K (FnF (Qso l Q)) [.code Qnz.code] (YO 0 [.iv (Qfw c),.iv (.int .i64 w),.loc 0 0,.iv (.ptr (lsC l)),.loc 1 0]) (Yy l P)) :
  ZC Tryz.prog K 168 [.iv (Qfw c),.iv (.int .i64 w),.loc 0 0,.iv (.ptr (lsC l)),.loc 1 0] (Yy l P) [0,1] (.iv (.tup [])) (Yy l Q):=by
 refine Jn [0,1,2] [0,1] [2,4] [(2,0,0),(4,1,0)] QjW (by simp[Qnz]) (by decide) (Ub l _) (by simp[clA]) (fun i hi=>?_) h
 have:i=0\/i=1:=by simpa using hi
 rcases this with rfl | rfl
 ·exact ⟨rfl,⟨_,rfl⟩,⟨_,rfl⟩,2,0,by simp,by simp,by simp⟩
 ·exact ⟨rfl,⟨_,rfl⟩,⟨_,rfl⟩,4,0,by simp,by simp,by simp⟩
theorem YS (lo hi:Int):(Ja lo hi).length=(hi+1-lo).toNat:=by simp[Ja]
theorem qJ (lo hi:Int) (i:Nat) (h:i<(Ja lo hi).length):(Ja lo hi)[i]=lo+(i:Nat):=by simp[Ja]
theorem Uq {α:Type} (f:Int->List α) (l:List Int) (i:Nat) (h:i<l.length):(l.take (i+1)).flatMap f=(l.take i).flatMap f++f l[i]:=by
 rw[Qxt h,Qyx];simp
theorem VA {α:Type} (f:Int->List α) (l:List Int) (i:Nat):((l.take i).flatMap f).length<=(l.flatMap f).length:=by
 conv=>rhs;rw[<- List.take_append_drop i l]
 rw[Qyx,Qxy];omega
theorem Quz (l:ZB) (R R2:List Int) {args0:List AV} (o:Qh) {ids:List Nat} (hnd:ids.Nodup) (hl:ids.length=3) (ha:args0.all (clA [0,1,2])=true) (h0:Qc o (nth ids 0)=some (.box [.clo 168 [] [.loc (nth ids 0) 0,.iv (.ptr (lsC l)),.loc (nth ids 1) 0]])) (h1:Qc o (nth ids 1)=some (.box [.oref (nth ids 2)])) (h2:Qc o (nth ids 2)=some (.mapd (Jr (Xh R)))) :
  HOk ids args0 o (Yy l R) (Yy l R2):=by
 refine ⟨hnd,ha,fun q hq=>?_,fun i hi h=>?_,fun q hq=>⟨by rw[hl];exact (Ub l R2 q hq).1,(Ub l R2 q hq).2.1⟩⟩
 ·have h3:=Ub l R q hq
  refine ⟨by rw[hl];exact h3.1,?_,h3.2.2,h3.2.1⟩
  simp only[Yy,Qx4,QyD,or_false] at hq;rcases hq with rfl | rfl | rfl
  ·exact h0
  ·exact h1
  ·exact h2
 ·simp[hl] at hi
  have:i=0\/i=1\/i=2:=by omega
  rcases this with rfl | rfl | rfl<;>simp[Qc] at h
theorem QdD {c:Sea} (hc:Qx c) {w:Nat} (hw:w<c.waters.length) {n:Int} (h0:c.waters[w].1<=n) (h1:n<=c.waters[w].2):Qx (QbQ c w n):=by
 have h2:=Z6 (hc.waters _ (Qxx hw));refine ⟨hc.thick,hc.str,hc.wrong,by simpa[QbQ] using hc.nw,hc.wear,fun s hs=>?_,hc.nv,by simpa[QbQ] using hc.voys,hc.ng,hc.gauges⟩
 rcases List.mem_or_eq_of_mem_set hs with h | h
 ·exact hc.waters s h
 ·subst h
  simp[Zz,inR];omega
theorem QcC {f:Int->List Int} {m:Nat}:∀ l:List Int,(∀ x∈l,(f x).length<=m)->(l.flatMap f).length<=l.length*m
 | [],_=>by simp
 | a::r,h=>by
   have h1:=QcC r fun x hx=>h x (by simp[hx])
   have h2:=h a (by simp)
   rw[Qx6,Qxy,QxA,QxS];omega
theorem JC {lo hi n:Int} (h:n∈Ja lo hi):lo<=n/\n<=hi:=by
 simp only[Ja,QxR,Qyf] at h;obtain ⟨k,hk,rfl⟩:=h;omega
theorem Qd6 (l:ZB):∀ (k:Nat) (c:Sea) (w:Nat),w+k=c.waters.length->Qx c->(Yr l k c w).length<=10*10 ^ k
 | 0,c,w,_,hc=>by
   have h1:=Z6 hc.wear;have h2:=QcC (f:=qV l c) (m:=1) (Ja c.wlo c.whi) fun x _=>by unfold qV;split<;>simp
   rw[YS] at h2;simp only[Yr];simp at h1;omega
 | k+1,c,w,hw,hc=>by
   have hw':w<c.waters.length:=by omega
   have hge:c.waters.getD w (0,0)=c.waters[w]:=by simp[hw']
   have h1:=Z6 (hc.waters _ (Qxx hw'))
   have h2:=QcC (f:=fun n=>Yr l k (QbQ c w n) (w+1)) (m:=10*10 ^ k) (Ja c.waters[w].1 c.waters[w].2) fun x hx=>by
    have h3:=JC hx;exact Qd6 l k _ _ (by simp[QbQ];omega) (QdD hc hw' h3.1 h3.2)
   rw[YS] at h2;simp only[Yr];rw[hge];have h4:(c.waters[w].2+1-c.waters[w].1).toNat<=10:=by omega
   have h5:=QxT (10*10 ^ k) h4;rw[Nat.pow_succ];omega
noncomputable def Y5 (l:ZB):List Int:=Yr l l.sea.waters.length l.sea 0
theorem Qds {l:ZB} (hc:Qx l.sea):(Y5 l).length<=100000:=by
 have h1:=Qd6 l l.sea.waters.length l.sea 0 (by omega) hc
 have h2:=QxW (show 0<10 by omega) hc.nw
 unfold Y5;omega
include hK
theorem QiN (l:ZB):∀ (k:Nat) (c:Sea) (w:Nat) (P:List Int),w+k=c.waters.length->Qx c->P.length+(Yr l k c w).length<=1000000 ->
  ZC Tryz.prog K 168 [.iv (Qfw c),.iv (.int .i64 w),.loc 0 0,.iv (.ptr (lsC l)),.loc 1 0] (Yy l P) [0,1] (.iv (.tup [])) (Yy l (P++Yr l k c w)):=by
 intro k
 induction k with
 | zero =>
   intro c w P hw hc hle;refine qa l c w P _ ?_;generalize hG:Qso l _=G;have hw':c.waters.length=w:=by omega
   have hnw:=hc.nw;have hwr:=Z6 hc.wear;have hlen:=YS c.wlo c.whi;simp only[Yr] at hG hle;simp[Qnz,hw']
   (repeat' first | omega | (with_reducible apply And.intro) | intro _)
   refine Vf (fun i=>[(2,.loc 0 0),(3,.iv (.ptr (lsC l))),(4,.loc 1 0),(5,.iv (.ptr (Y9 c))),(9,.iv (.int .i64 (c.wlo+(i:Nat))))]) (fun i=>Yy l (P++((Ja c.wlo c.whi).take i).flatMap (qV l c))) (Ja c.wlo c.whi).length (fun _=>True) trivial ?_ ?_ (by simp) (by simp)
   ·intro _
    rw[Qa Qc0.eq_1];have h1:¬ c.wlo+((Ja c.wlo c.whi).length:Int)<=c.whi:=by omega
    simp[h1];rw[<- hG];exact QgW rfl rfl (by simp[Qc])
   ·intro i hi _ ih
    rw[Qa Qc0.eq_1];have h1:c.wlo+(i:Int)<=c.whi:=by omega
    rw[Uq _ _ _ hi,qJ] at ih;have hg1:=Ql7 hK (J4 c (c.wlo+i)) c.voys.length (by simp[J4])
    have hg2:=Qgt hK (J4 c (c.wlo+i)) c.voys.length (by simp[J4])
    have hnv:=hc.nv;have hdef:qV l c (c.wlo+(i:Int))=if tW (J4 c (c.wlo+(i:Int))) true=0/\¬ (0<=l.pth/\Qo3 (J4 c (c.wlo+(i:Int)))≠l.pth) then [QpV (J4 c (c.wlo+(i:Int)))] else []:=rfl
    have hle2:=VA (qV l c) (Ja c.wlo c.whi) i;rw[hdef] at ih;have e1:(loD ((wTr (J4 c (c.wlo+(i:Int)))).map fun w=>Zk (J4 c (c.wlo+(i:Int))) w c.voys.length))=Qo3 (J4 c (c.wlo+(i:Int))):=rfl
    have e2:(loD ((wTr (J4 c (c.wlo+(i:Int)))).map fun w=>Xt (J4 c (c.wlo+(i:Int))) (Zk (J4 c (c.wlo+(i:Int))) w c.voys.length)))=QpV (J4 c (c.wlo+(i:Int))):=rfl
    rw[e1] at hg1;rw[e2] at hg2;clear hdef e1 e2;generalize Qo3 (J4 c (c.wlo+(i:Int)))=th at *;generalize QpV (J4 c (c.wlo+(i:Int)))=ho at *;generalize tW (J4 c (c.wlo+(i:Int))) true=tt at *;have e3:c.wlo+((i+1:Nat):Int)=c.wlo+i+1:=by omega
    rw[e3] at ih;generalize hR:P++List.flatMap (qV l c) (List.take i (Ja c.wlo c.whi))=R at *;have hRl:R.length<=1000000:=by rw[<- hR,Qxy];omega
    rw[<- QxJ,hR] at ih;have hgl:=QcA ho R;have hkk:=Y1 (Xh R);have hf:=JS ho (Xh R);have hin:=Uh ho (Xh R);simp[h1]
    (repeat' first | omega | (with_reducible apply And.intro) | intro _)
    refine cK (by simpa[J4] using hg1) ?_
    by_cases h2:tt=0
    ·by_cases h3:0<=l.pth
     ·by_cases h4:th=l.pth
      ·simp[h2,h4] at ih |-
       simp only[Yy] at ih;rw[Xv] at ih;generalize Xh R=kv at *;simp[h3]
       (repeat' first | omega | (with_reducible apply And.intro) | intro _)
       refine cK (by simpa[J4,h2] using hg2) ?_
       simp[hkk,hf,hin];exact ⟨by omega,by omega,ih⟩
      ·simp[h2,h3,h4] at ih |-
       exact ⟨by omega,ih⟩
     ·simp[h2,h3] at ih |-
      simp only[Yy] at ih;rw[Xv] at ih;generalize Xh R=kv at *
      (repeat' first | omega | (with_reducible apply And.intro) | intro _)
      refine cK (by simpa[J4,h2] using hg2) ?_
      simp[hkk,hf,hin];exact ⟨by omega,by omega,ih⟩
    ·simp[h2] at ih |-
     exact ⟨by omega,ih⟩
 | succ k ih =>
   intro c w P hw hc hle;refine qa l c w P _ ?_;have hw':w<c.waters.length:=by omega
   generalize hG:Qso l _=G;have hsp:=Z6 (hc.waters _ (Qxx hw'));have hge:c.waters.getD w (0,0)=c.waters[w]:=by simp[hw']
   simp only[Yr] at hG hle;rw[hge] at hG hle;have hlen:=YS c.waters[w].1 c.waters[w].2;have hne:c.waters≠[]:=List.ne_nil_of_length_pos (by omega)
   have hgc:=clone169 (K:=K) c.waters (by have:=hc.nw;omega) hne
   simp[Qnz,hw']
   (repeat' first | omega | (with_reducible apply And.intro) | intro _)
   refine Vf (fun i=>[(1,.iv (.int .i64 w)),(2,.loc 0 0),(4,.loc 1 0),(5,.iv (.ptr (Y9 c))),(7,.iv (.int .i64 (c.waters[w].1+(i:Nat))))]) (fun i=>Yy l (P++((Ja c.waters[w].1 c.waters[w].2).take i).flatMap fun n=>Yr l k (QbQ c w n) (w+1))) (Ja c.waters[w].1 c.waters[w].2).length (fun _=>True) trivial ?_ ?_ (by simp) (by simp)
   ·intro _
    rw[Qa Qc1.eq_1];have h1:¬ c.waters[w].1+((Ja c.waters[w].1 c.waters[w].2).length:Int)<=c.waters[w].2:=by omega
    simp[h1,hw'];rw[<- hG];exact QgW rfl rfl (by simp[Qc])
   ·intro i hi _ ih2
    rw[Qa Qc1.eq_1];have h1:c.waters[w].1+(i:Int)<=c.waters[w].2:=by omega
    have hle2:=VA (fun n=>Yr l k (QbQ c w n) (w+1)) (Ja c.waters[w].1 c.waters[w].2) (i+1)
    rw[Uq _ _ _ hi,qJ] at ih2 hle2;have e3:c.waters[w].1+((i+1:Nat):Int)=c.waters[w].1+i+1:=by omega
    rw[e3,<- QxJ] at ih2;generalize hR:P++List.flatMap (fun n=>Yr l k (QbQ c w n) (w+1)) (List.take i (Ja c.waters[w].1 c.waters[w].2))=R at *
    have hg:=ih (QbQ c w (c.waters[w].1+i)) (w+1) R (by simp[QbQ];omega) (QdD hc hw' (by omega) h1) (by
     rw[<- hR,Qxy];rw[Qxy] at hle2;omega)
    have hset:∀ x:Int,(List.map (List.map AV.iv∘spC) c.waters).set w [AV.iv (.int .i64 x),AV.iv (.int .i64 x)]=emb ((c.waters.set w (x,x)).map spC):=fun x=>by
     simp[emb,List.map_set]
    simp[h1,hw']
    (repeat' first | omega | (with_reducible apply And.intro) | intro _)
    refine Qaf hgc (by simp) ?_
    simp[hw',hset,QxH];refine ⟨by omega,by kernel_rfl,ZP hg (by simp[nth,rn,QbQ,List.map_set]) (Quz l _ _ _ (by decide) rfl (by simp[clA]) (by simp[Qc,nth]) (by simp[Qc,nth]) (by simp[Qc,nth])) ?_⟩
    simp[nth,rn];exact ⟨by omega,ih2 trivial⟩
theorem Qmr (l:ZB) (hc:Qx l.sea):Ev.Good Tryz.prog K 119 [lsV l] (.map (Jr (Xh (Y5 l)))):=by
 refine Qb hK Qod (by simp) ?_
 have hle:=Qds hc;have hg:=QiN hK l l.sea.waters.length l.sea 0 [] (by omega) hc (by simpa[Y5] using (by omega:(Y5 l).length<=1000000))
 have e1:Yr l l.sea.waters.length l.sea 0=Y5 l:=rfl;rw[e1,Qyj] at hg;simp;refine ⟨by kernel_rfl,ZP hg (by simp[nth,rn]) (Quz l _ _ _ (by decide) rfl (by simp[clA]) (by simp[Qc,nth]) (by simp[Qc,nth]) (by simp[Qc,nth,Xh,Jr])) ?_⟩
 simp[nth,rn]
end
structure Evt where
 cause:Int
 flaw:Int
 held:Int
 pull:Int × Int
 rated:Int × Int
 deriving DecidableEq
@[simp] def evC (e:Evt):List IV:=[.int .i64 e.cause,.int .i64 e.flaw,.int .i64 e.held,.int .i64 e.pull.1,.int .i64 e.pull.2,.int .i64 e.rated.1,.int .i64 e.rated.2]
def isE (e:Evt):Bool:=decide (e.pull.1<=e.pull.2)&&decide (e.rated.1<=e.rated.2)
def XS (load flaw:Int):Int:=(load*(100-flaw)).tdiv 100
def Q8 (a b:Int × Int):Int × Int:=(max a.1 b.1,min a.2 b.2)
@[reducible] def evO (es:List Evt):Qh:=[(0,.box [.aref 1 es.length]),(1,.arr 177 7 (emb (es.map evC)) 0)]
def Quf (es:List Evt):Env->Qh->Prop:=QoV [] [0,1] [(1,0,0)] (.iv (.tup [])) (evO es)
theorem QgX {es:List Evt} {e:Env} {o:Qh} (h1:Ev.look e 1=.loc 0 0) (h2:Qc o 0=some (.box [.aref 1 es.length])) (h3:Qc o 1=some (.arr 177 7 (emb (es.map evC)) 0)):Quf es e o:=by
 refine ⟨⟨.iv (.tup []),rfl,rfl⟩,fun q hq=>?_,fun q hq=>?_⟩
 ·simp only[evO,Qx4,QyD,or_false] at hq
  rcases hq with rfl | rfl
  ·exact h2
  ·rw[UC]
   exact h3
 grind
theorem Qd3 (es:List Evt):∀ q∈evO es,q.1<2/\Yp q.2=true/\clO ((evO es).map (·.1)) q.2=true:=by
 intro q hq;simp only[evO,Qx4,QyD,or_false] at hq;rcases hq with rfl | rfl
 ·exact ⟨by omega,rfl,by simp[clO,clAL,clA]⟩
 ·exact ⟨by show (1:Nat)<2;omega,rfl,Wj _ _ _ _ _⟩
theorem QjX:Qkf Tryz.prog 116 Qrz [1]:=⟨_,Tryz.func116,by kernel_rfl⟩
def Vc (e:Evt):List Evt:=if isE e then [e] else []
def evF (l:ZB) (fr h f:Int):List Evt :=
 Vc ⟨1,f,XS h f,Q8 (Q8 (l.plo,l.phi) (XS h f+1,99999)) (l.rlo+1,99999),Q8 (l.rlo,l.rhi) (0,(Q8 (l.plo,l.phi) (XS h f+1,99999)).2-1)⟩ ++
 Vc ⟨2,f,XS h f,Q8 (Q8 (Q8 (l.plo,l.phi) (XS h f+1,99999)) (0,l.rhi)) (0,XS fr f),Q8 (l.rlo,l.rhi) ((Q8 (Q8 (Q8 (l.plo,l.phi) (XS h f+1,99999)) (0,l.rhi)) (0,XS fr f)).1,99999)⟩ ++
 Vc ⟨if l.part<f then 3 else 4,f,XS h f,Q8 (Q8 (Q8 (l.plo,l.phi) (XS h f+1,99999)) (0,l.rhi)) (XS fr f+1,99999),Q8 (l.rlo,l.rhi) ((Q8 (Q8 (Q8 (l.plo,l.phi) (XS h f+1,99999)) (0,l.rhi)) (XS fr f+1,99999)).1,99999)⟩
def evH (l:ZB) (fr h:Int):List Evt:=(Ja l.flo l.fhi).flatMap (evF l fr h)
def QdF (c:Sea):Sea:={ c with gauges:=[] }
noncomputable def Q5 (l:ZB):Int:=if tW (QdF l.sea) true=0 then loD ((wTr (QdF l.sea)).map fun w=>Xt (QdF l.sea) (Zk (QdF l.sea) w 0)) else 0
noncomputable def ZQ (l:ZB):List Int:=(Xh (Y5 l)).map (·.1)
noncomputable def Za (l:ZB):List Evt:=(ZQ l).flatMap (evH l (Q5 l))
noncomputable def evS (l:ZB) (seen:List Nat):List Evt:=seen.reverse.flatMap fun i=>evH l (Q5 l) ((ZQ l).getD i 0)
theorem Qd2 (l:ZB) (i:Nat) (seen:List Nat):evS l (i::seen)=evS l seen++evH l (Q5 l) ((ZQ l).getD i 0):=by simp[evS]
theorem QeA {n:Nat} {seen:List Nat} (h1:seen.Nodup) (h2:∀ i∈seen,i<n) (h3:∀ i,i<n->i∈seen):seen.Perm (List.range n):=by
 rw[List.perm_iff_count];intro a;by_cases ha:a<n
 ·rw[h1.count,(List.nodup_range).count]
  simp[ha,h3 a ha]
 ·rw[List.count_eq_zero.2 fun h=>ha (h2 a h),List.count_eq_zero.2 fun h=>ha (Qyf.1 h)]
theorem Qi2 (l:ZB) {seen:List Nat} (h1:seen.Nodup) (h2:∀ i∈seen,i<(ZQ l).length) (h3:∀ i,i<(ZQ l).length->i∈seen):(evS l seen).Perm (Za l):=by
 have h4:(ZQ l)=(List.range (ZQ l).length).map fun i=>(ZQ l).getD i 0:=by
  refine List.ext_getElem (by simp) fun i h _=>?_
  simp[h]
 have h5:Za l=(List.range (ZQ l).length).flatMap fun i=>evH l (Q5 l) ((ZQ l).getD i 0):=by
  unfold Za
  conv=>lhs;rw[h4]
  rw[List.flatMap_map]
 rw[h5];unfold evS;exact ((List.reverse_perm seen).trans (QeA h1 h2 h3)).flatMap_right _
include hK
theorem Qms (e:Evt):Ev.Good Tryz.prog K 117 [.agg (evC e)] (.bool (isE e)):=by
 refine Qb hK Qof (by simp) ?_
 unfold isE;by_cases h1:e.pull.1<=e.pull.2<;>simp[h1]
theorem Qgs (a f:Int) (ha:0<=a/\a<=100000) (hf:0<=f/\f<=100):Ev.Good Tryz.prog K 120 [.int .i64 a,.int .i64 f] (.int .i64 (XS a f)):=by
 refine Qb hK Qoc (by simp) ?_
 have h1:=Qx3 (a:=a) (b:=100-f) (by omega) (by omega)
 have h2:=QxY (a:=a) (b:=100-f) (c:=100000) (d:=100) (by omega) (by omega) (by omega) (by omega)
 have h3:(a*(100-f)).tdiv 100=a*(100-f) / 100:=QyB h1;simp[XS];omega
theorem Yh (a b:Int × Int):Ev.Good Tryz.prog K 121 [.agg (spC a),.agg (spC b)] (.agg (spC (Q8 a b))):=by
 refine Qb hK Qob (by simp) ?_
 simp only[Q8,Int.max_def,Int.min_def];simp
 grind
theorem Uf (es:List Evt) (e:Evt) (hl:es.length<=100000000):ZC Tryz.prog K 116 [.iv (.agg (evC e)),.loc 0 0] (evO es) [0] (.iv (.tup [])) (evO (es++if isE e then [e] else [])):=by
 refine Jn [0,1] [0] [1] [(1,0,0)] QjX (by simp[Qrz]) (by decide) (Qd3 _) (by simp[clA]) (fun i hi=>?_) ?_
 ·have:i=0:=by simpa using hi
  subst this;exact ⟨rfl,⟨_,rfl⟩,⟨_,rfl⟩,1,0,by simp,by simp,by simp⟩
 ·show WpF _ _ (FnF (Quf _)) _ _ _
  generalize hG:Quf _=G;have hg:=Qms hK e;simp[Qrz];refine cK (by simpa using hg) ?_
  cases hE:isE e
  ·rw[hE] at hG
   simp;rw[<- hG];exact QgX rfl (by simp[Qc]) (by simp[Qc])
  ·rw[hE] at hG
   simp;rw[<- hG];exact ⟨by omega,QgX rfl (by simp[Qc]) (by simp[Qc,emb])⟩
end Go.Pf
namespace Go.Ev
open Go Go.RowKit
section
variable {P:Program} {K:World->Prop}
end
section
variable {P:Program} {K:World->Prop}
theorem UI {ok w' fr o1 L'} (h:Qfb fr ok w' (Qc o1) L') (hlt:∀ b,fr b->b<w'.heap.size) :
  Rel ok ⟨0,[]⟩ ⟨w',fr,hlt,fun _=>undef⟩ (look []) (Qc o1) { tmps:=#[],defers:=[] } w' L' :=
 ⟨QG.refl _ _,⟨[],rfl,List.nodup_nil,by simp⟩,rfl,fun t=>.iv _ _ (.any _),h.objs,h.apart,fun t ht=>by simp at ht⟩
theorem qX (hK:∀ w w',K w->Below w.heap.size w w'->K w') {f xs y o1 r} (h:ZC P K f (xs.map .iv) [] [] y o1) (hi:imm (Qc o1) 40 y=some r):Good P K f xs r:=by
 intro w ok vs hk hnew hl hvs;have hn:∀ b,¬ Ww (Qc []) (fun _=>.one 0) b:=fun b ⟨id,ob,h1,_⟩=>by simp[Qc] at h1
 have hFr:∀ b,b<w.heap.size->FrO w (Qc []) (fun _=>.one 0) b:=fun b hb=>⟨hb,hn b⟩
 refine (h w ok (fun _=>.one 0) vs (fun w' hkeep=>hK w w' hk (hkeep.mono hFr).below) hnew (fun b hb=>absurd hb (hn b)) ⟨by simp[Qc],by simp[Qc]⟩ (by simpa using hl) (fun k x u hx hu=>?_)).mono
  fun e w' ⟨v,L',he,hlaid,hrep,hkeep,_⟩=>⟨v,he,?_,(hkeep.mono hFr).below⟩
 ·rw[Qxz,Qxu] at hx
  obtain ⟨z,hz,rfl⟩:=hx;exact .iv _ _ ((hvs k z u hz hu).mono fun b hb _=>⟨⟨hb,by simp[Qc]⟩,rfl⟩)
 ·have hlt:∀ b,FrO w (Qc []) (fun _=>.one 0) b->b<w'.heap.size:=fun b hb=>QxP hb.1 hkeep.size
  refine (X2 (UI hlaid hlt) (ok1:=ok) (fun b hb=>hb.1) (lo':=Qc o1) (fun _ _ h=>h) (fun id ob b hob hb=>?_) 40).1 y v r hrep hi
  by_cases hbl:b<w.heap.size
  ·exact absurd (hFr b hbl) ((hlaid.objs id ob hob).lt hb).1
  ·exact hnew b (QyC.1 hbl)
theorem ZC.give {f args o rows st r cs xs} (h:ZC P K f args o st (.iv r) ((0,.box cs)::rows)) (hst0:∀ i∈st,i=0)
  (hx:imms (fun i=>if i=0 then Option.none else Qc ((0,.box cs)::rows) i) 40 cs=some xs):ZC P K f args o st (.iv r) [(0,.box (xs.map .iv))]:=by
 intro w ok L vs hK hnew hown hlaid hvl hvs;refine (h w ok L vs hK hnew hown hlaid hvl hvs).mono fun e w' ⟨v,L',he,hl',hrep,hkeep,hst⟩=>⟨v,L',he,?_,?_,hkeep,?_⟩
 ·have h0:Qc ((0,AO.box cs)::rows) 0=some (.box cs):=rfl
  have hlt:∀ b,FrO w (Qc o) L b->b<w'.heap.size:=fun b hb=>QxP hb.1 hkeep.size
  have one0:∀ i ob,Qc [(0,AO.box (xs.map AV.iv))] i=some ob->i=0/\ob=.box (xs.map .iv):=fun i ob hob=>by
   simp only[Qc] at hob
   grind
  have hsub:∀ b,okL ok (Qc ((0,AO.box cs)::rows)) L' b->okL ok (Qc [(0,AO.box (xs.map AV.iv))]) L' b:=fun b hb=>⟨hb.1,fun i ob hob=>by
   obtain ⟨rfl,rfl⟩:=one0 i ob hob;exact hb.2 0 _ h0⟩
  have hs:=(X2 (UI hl' hlt) (ok1:=okL ok (Qc [(0,AO.box (xs.map AV.iv))]) L') hsub (lo':=fun i=>if i=0 then Option.none else Qc ((0,.box cs)::rows) i)
   (fun id ob hob=>by
     split at hob
     ·cases hob
     ·exact hob)
   (fun id ob b hob hb=>by
     split at hob
     ·cases hob
     ·rename_i hid
      refine ⟨?_,fun i oi hi=>?_⟩
      ·have hnf:=((hl'.objs id ob hob).lt hb).1
       by_cases hbl:b<w.heap.size
       ·exact hown b (Classical.byContradiction fun hno=>hnf ⟨hbl,hno⟩)
       ·exact hnew b (QyC.1 hbl)
      ·obtain ⟨rfl,rfl⟩:=one0 i oi hi
       exact fun hb0=>hl'.apart 0 id _ ob b (fun e=>hid e.symm) h0 hob hb0 hb) 40).2 cs xs hx
  refine ⟨fun i ob hob=>?_,fun i j oi oj b hij hi hj=>?_⟩
  ·obtain ⟨rfl,rfl⟩:=one0 i ob hob
   have hob0:=hl'.objs 0 _ h0;generalize L' 0=l0 at hob0;cases l0 with
   | box b =>
     obtain ⟨hB,t,us,hb,hul,h1,hcx⟩:=hob0;refine ⟨hB,t,us,hb,by rw[QxB,hs.1];exact hul,h1,fun k x u hk hu=>?_⟩
     grind
   | _=>exact hob0.elim
  grind
 ·cases hrep with
  | iv _ _ hr=>exact .iv _ _ (hr.mono fun b hb _=>⟨⟨hb.1,fun i ob hob=>by
    simp only[Qc] at hob;split at hob
    ·rename_i hi
     subst hi;exact hb.2 0 _ (show Qc ((0,AO.box cs)::rows) 0=some (.box cs) from rfl)
    ·cases hob⟩,rfl⟩)
 ·intro i hi ob hob
  have hi0:=hst0 i hi;subst hi0;obtain ⟨ob',h1,h2⟩:=hst 0 hi ob hob
  have:ob'=.box cs:=by
   have h0:Qc ((0,AO.box cs)::rows) 0=some (.box cs):=rfl;rw[h0] at h1;injection h1 with h1
   exact h1.symm
  subst this;refine ⟨_,rfl,?_⟩;cases ob<;>simp only[XQ] at h2 |-
  grind
end
variable {P:Program} {K:World->Prop}
def QkU (res:List ZY) (sz:Nat) (es:List (List IV)) (e:Env) (o:Qh):Prop:=∃ es':List (List IV),es'.Perm es/\Zb res (.sl sz es') e o
theorem Qco {f:FuncId} {A:AFn} {xs:List IV} {sz:Nat} {es:List (List IV)} (hK:∀ w w',K w->Below w.heap.size w w'->K w') (hok:QkY P f A) (hlen:xs.length<=A.nt)
  (h:WpF P K (FnF (QkU A.res sz es)) [.code A.code] (XF 0 xs) []):Good P K f xs (.bag sz es):=by
 intro w ok vs hk hnew hvl hvs;refine calls_of_wp hK hok hlen h w ok vs (fun v w'=>Qq ok w' (.bag sz es) v/\Below w.heap.size w w') hk hnew hvl hvs (fun fn w1 e o a w' L hres hv hle hr=>?_)
 obtain ⟨es',hp,hv⟩:=hv;obtain ⟨v,h1,h2⟩:=X8 hr (fun b hb=>hnew b (QyC.1 fun h=>hb (hle.fr b h))) hres hv
 exact ⟨v,h1,.bag sz es es' v hp h2,(hle.keeps hr.below).below⟩
theorem QiQ {f:FuncId} {sz:Nat} {es:List (List IV)} {rest:List IV} {r:IV} (h:∀ es',es'.Perm es->Good P K f (.sl sz es'::rest) r):Good P K f (.bag sz es::rest) r:=by
 intro w ok vs hk hnew hl hx;cases vs with
 | nil=>simp at hl
 | cons v vs =>
   have h0:=hx 0 _ v rfl rfl;cases h0 with
   | bag _ _ es' _ hp h1 =>
     exact h es' hp w ok (v::vs) hk hnew (by simpa using hl) fun k x u a b=>by
      cases k with
      | zero =>
        simp at a b;subst a b;exact h1
      | succ k=>exact hx (k+1) x u (by simpa using a) b
end Go.Ev
namespace Go.Pf
open Go Go.Ev Go.Proofs Go.RowKit
variable {K:World->Prop} (hK:∀ w w',K w->Below w.heap.size w w'->K w')
set_option maxRecDepth 8000
theorem QpL {l:List Int} (hne:l≠[]) {m:Int} (h:∀ x∈l,0<=x/\x<=m):0<=loD l/\loD l<=m:=by
 have h1:=qD hne;have h2:0<(Xd l).length:=List.length_pos_iff.2 h1;have h3:loD l=(Xd l)[0]:=by simp[loD,h2]
 rw[h3];exact h _ ((Qaz _ l).1 (Qxx h2))
theorem QkB {c:Sea} (hc:Qx c) {n:Int} (h0:c.wlo<=n) (h1:n<=c.whi):Qx (J4 c n):=by
 have h2:=Z6 hc.wear;refine ⟨hc.thick,hc.str,hc.wrong,hc.nw,?_,hc.waters,hc.nv,hc.voys,hc.ng,hc.gauges⟩;simp at h2;show Zz (n,n)=false
 simp[Zz,inR];omega
theorem Qgg {c:Sea} (hc:Qx c) (ht:tW c true=0) (k:Nat):0<=loD ((wTr c).map fun w=>Xt c (Zk c w k))/\loD ((wTr c).map fun w=>Xt c (Zk c w k))<=24975:=by
 obtain ⟨_,_,hne⟩:=Qk7 ht;refine QpL (by simpa using hne) fun x hx=>?_
 obtain ⟨w,hw,rfl⟩:=QxR.1 hx;exact U7 hc (Yu hc (Qay hw) k)
theorem Qd8 (l:ZB):∀ (k:Nat) (c:Sea) (w:Nat),w+k=c.waters.length->Qx c->∀ x∈Yr l k c w,0<=x/\x<=24975
 | 0,c,w,_,hc,x,hx=>by
   simp only[Yr,QxZ] at hx;obtain ⟨n,hn,hx⟩:=hx;have h1:=JC hn;unfold qV at hx;split at hx
   ·rename_i h2
    have:=Qgg (QkB hc h1.1 h1.2) h2.1 (J4 c n).voys.length;simp at hx;subst hx;exact this
   ·simp at hx
 | k+1,c,w,hw,hc,x,hx=>by
   have hw':w<c.waters.length:=by omega
   have hge:c.waters.getD w (0,0)=c.waters[w]:=by simp[hw']
   simp only[Yr,QxZ] at hx;obtain ⟨n,hn,hx⟩:=hx;rw[hge] at hn;have h1:=JC hn;exact Qd8 l k _ _ (by simp[QbQ];omega) (QdD hc hw' h1.1 h1.2) x hx
theorem Qij {l:ZB} (hc:Qx l.sea) {x:Int} (hx:x∈Y5 l):0<=x/\x<=24975:=Qd8 l _ _ _ (by omega) hc x hx
theorem QpF {c:Sea} (hc:Qx c):Qx (QdF c):=⟨hc.thick,hc.str,hc.wrong,hc.nw,hc.wear,hc.waters,hc.nv,hc.voys,by simp[QdF],by simp[QdF]⟩
theorem Qgx {l:ZB} (hc:Qx l.sea):0<=Q5 l/\Q5 l<=24975:=by
 unfold Q5;split
 ·exact Qgg (QpF hc) (by assumption) 0
 ·omega
theorem Qdm {a f:Int} (ha:0<=a/\a<=100000) (hf:0<=f/\f<=100):0<=XS a f/\XS a f<=100000:=by
 have h1:=Qx3 (a:=a) (b:=100-f) (by omega) (by omega)
 have h2:=QxY (a:=a) (b:=100-f) (c:=100000) (d:=100) (by omega) (by omega) (by omega) (by omega)
 have h3:(a*(100-f)).tdiv 100=a*(100-f) / 100:=QyB h1;unfold XS;omega
theorem Qi5 (l:List (Int × Nat)) (i:Nat):(Jr l)[i]?=(l[i]?).map fun p=>(.int .i64 p.1,.int .i64 (p.2:Nat)):=by simp[Jr]
theorem Qlj {n:Nat} {seen:List Nat} (h1:seen.Nodup) (h2:∀ i∈seen,i<n):seen.length<=n:=by
 have h:seen.Perm ((List.range n).filter fun i=>seen.contains i):=by
  rw[List.perm_iff_count];intro a;have hf:((List.range n).filter fun i=>seen.contains i).Nodup:=List.nodup_range.filter _
  rw[h1.count,hf.count];simp
  grind
 have h3:=Qx0 (fun i=>seen.contains i) (List.range n)
 rw[h.length_eq];simpa using h3
theorem UP (e:Evt):(Vc e).length<=1:=by unfold Vc;split<;>simp
theorem QkR (l:ZB) (fr h f:Int):(evF l fr h f).length<=3:=by
 unfold evF;rw[Qxy,Qxy];exact Nat.add_le_add (Nat.add_le_add (UP _) (UP _)) (UP _)
theorem Ug {f:Int->List Evt} {m:Nat}:∀ l:List Int,(∀ x∈l,(f x).length<=m)->(l.flatMap f).length<=l.length*m
 | [],_=>by simp
 | a::r,h=>by
   have h1:=Ug r fun x hx=>h x (by simp[hx])
   have h2:=h a (by simp)
   rw[Qx6,Qxy,QxA,QxS];omega
theorem QkQ {l:ZB} (hl:OkL l) (fr h:Int):(evH l fr h).length<=303:=by
 have h1:=Ug (f:=evF l fr h) (m:=3) (Ja l.flo l.fhi) fun x _=>QkR l fr h x
 have h2:=hl.flaw;simp only[Xo,inR] at h2;rw[YS] at h1;unfold evH;omega
theorem QkP {l:ZB} (hl:OkL l):∀ seen:List Nat,(evS l seen).length<=seen.length*303
 | []=>by simp[evS]
 | i::r=>by
   have h1:=QkP hl r;have h2:=QkQ hl (Q5 l) ((ZQ l).getD i 0);rw[Qd2,Qxy,QxA,QxS];omega
theorem QlC {l:ZB} (hc:Qx l.sea) (i:Nat):0<=(ZQ l).getD i 0/\(ZQ l).getD i 0<=24975:=by
 by_cases h:i<(ZQ l).length
 ·have h1:(ZQ l).getD i 0∈ZQ l:=by simp[h]
  exact Qij hc ((Qac _ _).1 h1)
 ·simp[h]
theorem Qf9 {l:ZB} (hc:Qx l.sea):(ZQ l).length<=100000:=by
 have h1:=Uk (Y5 l);have h2:=Qds hc;simp[ZQ];omega
theorem Qr6 (es es2:List Evt) {args0:List AV} (o:Qh) (ha:args0.all (clA [0,1])=true) (h0:Qc o 3=some (.box [.aref 4000 es.length])) (h1:Qc o 4000=some (.arr 177 7 (emb (es.map evC)) 0)) :
  HOk [3,4000] args0 o (evO es) (evO es2):=by
 refine ⟨by decide,ha,fun q hq=>?_,fun i hi h=>?_,fun q hq=>⟨(Qd3 es2 q hq).1,(Qd3 es2 q hq).2.1⟩⟩
 ·have h3:=Qd3 es q hq
  refine ⟨h3.1,?_,h3.2.2,h3.2.1⟩;simp only[evO,Qx4,QyD,or_false] at hq;rcases hq with rfl | rfl
  ·exact h0
  ·rw[UC]
   exact h1
 ·simp at hi
  have:i=0\/i=1:=by omega
  rcases this with rfl | rfl<;>simp[Qc] at h
include hK
theorem QiS (l:ZB):∃ fh ft:Int,Ev.Good Tryz.prog K 118 [Qfw (QdF l.sea),.int .i64 0] (.tup [.agg [.int .i64 (Q5 l),.int .i64 fh],.int .i64 ft]):=by
 have h:=Qgt hK (QdF l.sea) 0 (by omega)
 unfold Q5;split at h
 ·rename_i h1
  exact ⟨_,_,by simpa[h1] using h⟩
 ·rename_i h1
  exact ⟨_,_,by simpa[h1] using h⟩
theorem Qp4 (l:ZB) (hl:OkL l):Ev.Good Tryz.prog K 85 [lsV l] (.bag 7 ((Za l).map evC)):=by
 refine Qco hK QqT (by simp) ?_
 generalize hG:QkU c85.res 7 ((Za l).map evC)=G;obtain ⟨fh,ft,hg1⟩:=QiS hK l;have hg2:=Qmr hK l hl.sea;have hfr:=Qgx hl.sea;simp;refine cK (by simpa[QdF] using hg1) ?_
 simp;refine cK (by simpa using hg2) ?_
 simp;have hnk:(Xh (Y5 l)).length=(ZQ l).length:=by simp[ZQ]
 have hkl:=Qf9 hl.sea
 have key:∀ seen:List Nat,(seen.Nodup/\∀ i∈seen,i<(ZQ l).length)->QP Tryz.prog K (FnF G) Qhw [1,3,4,6,26] [3,6,26,4000]
   [AI.inBlock 0,AI.code ((AC.ops [⟨some 123,none,.ldo 3 1 false (.t 3)⟩,⟨some 2,none,.mov (.t 123)⟩] false).seq AC.ret)]
   [(1,.iv (.ptr (lsC l))),(3,.loc 3 0),(4,.clo 116 [] [.loc 3 0]),(6,.loc 6 0),(26,.oref 26)]
   [(3,.box [.aref 4000 (evS l seen).length]),(6,.box [.iv (.int .i64 (Q5 l)),.iv (.int .i64 fh)]),(26,.miter (Jr (Xh (Y5 l))) seen),(4000,.arr 177 7 (emb ((evS l seen).map evC)) 0)]:=by
  refine Qf0 (fun _=>[(1,.iv (.ptr (lsC l))),(3,.loc 3 0),(4,.clo 116 [] [.loc 3 0]),(6,.loc 6 0),(26,.oref 26)]) (fun seen=>[(3,.box [.aref 4000 (evS l seen).length]),(6,.box [.iv (.int .i64 (Q5 l)),.iv (.int .i64 fh)]),(26,.miter (Jr (Xh (Y5 l))) seen),(4000,.arr 177 7 (emb ((evS l seen).map evC)) 0)]) (ZQ l).length _ ?_
  intro seen hI ih;rw[Qa Qhw.eq_1];have hsl:=Qlj hI.1 hI.2;have hel:=QkP hl seen;have hlen:(Jr (Xh (Y5 l))).length=(ZQ l).length:=by simp[Jr,ZQ]
  simp[hlen,Qi5];refine ⟨fun hall=>?_,fun i a b n m hq ha hb hns=>?_⟩
  ·rw[<- hG]
   refine ⟨(evS l seen).map evC,(Qi2 l hI.1 hI.2 hall).map evC,?_⟩;simp[c85]
  ·subst ha hb
   have hil:=(Qxr.1 hq).1;have hk:n=(ZQ l).getD i 0:=by simp[ZQ,hq]
   have hbd:=QlC hl.sea i;rw[<- hk] at hbd
   have hih:=ih i (by omega) hns ⟨List.nodup_cons.2 ⟨hns,hI.1⟩,fun j hj=>by
    rcases Qx4.1 hj with rfl | hj
    ·omega
    ·exact hI.2 j hj⟩
   rw[Qd2,<- hk] at hih;clear ih;have hfl:=hl.flaw;simp only[Xo,inR] at hfl;have hpl:=hl.pull;simp only[Xo,inR] at hpl;have hrl:=hl.rated;simp only[Xo,inR] at hrl;have hrlen:=YS l.flo l.fhi;simp[hq]
   (repeat' first | omega | (with_reducible apply And.intro) | intro _)
   refine Vf (fun j=>[(1,.iv (.ptr (lsC l))),(3,.loc 3 0),(4,.clo 116 [] [.loc 3 0]),(6,.loc 6 0),(8,.iv (.int .i64 n)),(9,.iv (.int .i64 (l.flo+(j:Nat)))),(26,.oref 26)])
    (fun j=>[(3,.box [.aref 4000 (evS l seen++((Ja l.flo l.fhi).take j).flatMap (evF l (Q5 l) n)).length]),(6,.box [.iv (.int .i64 (Q5 l)),.iv (.int .i64 fh)]),(26,.miter (Jr (Xh (Y5 l))) (i::seen)),(4000,.arr 177 7 (emb ((evS l seen++((Ja l.flo l.fhi).take j).flatMap (evF l (Q5 l) n)).map evC)) 0)])
    (Ja l.flo l.fhi).length (fun _=>True) trivial ?_ ?_ (by simp) (by simp)
   ·intro _
    rw[Qa Qhx.eq_1];have h1:¬ l.flo+((Ja l.flo l.fhi).length:Int)<=l.fhi:=by omega
    simp[h1];simpa[evH] using hih
   ·intro j hj _ ih2
    rw[Qa Qhx.eq_1];have h1:l.flo+(j:Int)<=l.fhi:=by omega
    have e3:l.flo+((j+1:Nat):Int)=l.flo+j+1:=by omega
    rw[Uq _ _ _ hj,qJ,e3,<- QxJ] at ih2
    have hel2:(evS l seen++((Ja l.flo l.fhi).take j).flatMap (evF l (Q5 l) n)).length<=50000000:=by
     have:=Ug (f:=evF l (Q5 l) n) (m:=3) ((Ja l.flo l.fhi).take j) fun x _=>QkR l (Q5 l) n x
     rw[Qxy];rw[QyE] at this;omega
    generalize evS l seen++((Ja l.flo l.fhi).take j).flatMap (evF l (Q5 l) n)=E at *;have hf1:0<=l.flo+(j:Int)/\l.flo+(j:Int)<=100:=by omega
    generalize hf:l.flo+(j:Int)=f at *;have g1:=Qgs hK n f (by omega) hf1
    have g2:=Qgs hK (Q5 l) f (by omega) hf1
    have b1:=Qdm (a:=n) (f:=f) (by omega) hf1
    have b2:=Qdm (a:=Q5 l) (f:=f) (by omega) hf1
    clear hih hq;unfold evF at ih2;generalize XS n f=held at *;generalize XS (Q5 l) f=was at *;simp[h1];refine cK (by simpa using g1) ?_
    simp;refine cK (by simpa using g2) ?_
    simp;refine ⟨by omega,cK (by simpa using Yh hK (l.plo,l.phi) (held+1,99999)) ?_⟩
    have hp1 : -1<=(Q8 (l.plo,l.phi) (held+1,99999)).2/\(Q8 (l.plo,l.phi) (held+1,99999)).2<=99999:=by simp only[Q8];omega
    generalize Q8 (l.plo,l.phi) (held+1,99999)=p1 at *;simp;refine ⟨by omega,cK (by simpa using Yh hK p1 (l.rlo+1,99999)) ?_⟩
    simp;refine ⟨by omega,cK (by simpa using Yh hK (l.rlo,l.rhi) (0,p1.2-1)) ?_⟩
    have gh1:ZC Tryz.prog K 116 _ _ _ _ (evO (E++Vc ⟨1,f,held,Q8 p1 (l.rlo+1,99999),Q8 (l.rlo,l.rhi) (0,p1.2-1)⟩)):=Uf hK E ⟨1,f,held,Q8 p1 (l.rlo+1,99999),Q8 (l.rlo,l.rhi) (0,p1.2-1)⟩ (by omega)
    have hE1:=UP ⟨1,f,held,Q8 p1 (l.rlo+1,99999),Q8 (l.rlo,l.rhi) (0,p1.2-1)⟩;rw[<- QxJ,<- QxJ] at ih2
    have hE1:(E++Vc ⟨1,f,held,Q8 p1 (l.rlo+1,99999),Q8 (l.rlo,l.rhi) (0,p1.2-1)⟩).length<=50000001:=by
     rw[Qxy];omega
    generalize E++Vc _=E1 at *;simp;refine ⟨by kernel_rfl,ZP gh1 (by simp[nth,rn]) (Qr6 _ _ _ (by simp[clA]) (by simp[Qc]) (by simp[Qc])) ?_⟩
    simp[nth,rn];refine cK (by simpa using Yh hK p1 (0,l.rhi)) ?_
    generalize Q8 p1 (0,l.rhi)=p2 at *;simp;refine cK (by simpa using Yh hK p2 (0,was)) ?_
    simp;refine ⟨by omega,cK (by simpa using Yh hK p2 (was+1,99999)) ?_⟩
    generalize Q8 p2 (0,was)=q1 at *;generalize Q8 p2 (was+1,99999)=q2 at *;simp;rw[Qa QbB.eq_1];simp;refine cK (by simpa using Yh hK (l.rlo,l.rhi) (q1.1,99999)) ?_
    generalize Q8 (l.rlo,l.rhi) (q1.1,99999)=r2 at *;have gh2:ZC Tryz.prog K 116 _ _ _ _ (evO (E1++Vc ⟨2,f,held,q1,r2⟩)):=Uf hK E1 ⟨2,f,held,q1,r2⟩ (by omega)
    have hE2:=UP ⟨2,f,held,q1,r2⟩
    have hE2:(E1++Vc ⟨2,f,held,q1,r2⟩).length<=50000002:=by
     rw[Qxy];omega
    generalize E1++Vc _=E2 at *;simp;refine ⟨by kernel_rfl,ZP gh2 (by simp[nth,rn]) (Qr6 _ _ _ (by simp[clA]) (by simp[Qc]) (by simp[Qc])) ?_⟩
    simp[nth,rn];rw[Qa QbB.eq_1];by_cases hpf:l.part<f
    ·rw[if_pos hpf] at ih2
     simp[hpf];refine cK (by simpa using Yh hK (l.rlo,l.rhi) (q2.1,99999)) ?_
     generalize Q8 (l.rlo,l.rhi) (q2.1,99999)=r3 at *;have gh3:ZC Tryz.prog K 116 _ _ _ _ (evO (E2++Vc ⟨3,f,held,q2,r3⟩)):=Uf hK E2 ⟨3,f,held,q2,r3⟩ (by omega)
     generalize E2++Vc _=E3 at *;simp;refine ⟨by kernel_rfl,ZP gh3 (by simp[nth,rn]) (Qr6 _ _ _ (by simp[clA]) (by simp[Qc]) (by simp[Qc])) ?_⟩
     simp[nth,rn];rw[Qa QbB.eq_1];simp;exact ⟨by omega,ih2 trivial⟩
    ·rw[if_neg hpf] at ih2
     simp[hpf];refine cK (by simpa using Yh hK (l.rlo,l.rhi) (q2.1,99999)) ?_
     generalize Q8 (l.rlo,l.rhi) (q2.1,99999)=r3 at *;have gh3:ZC Tryz.prog K 116 _ _ _ _ (evO (E2++Vc ⟨4,f,held,q2,r3⟩)):=Uf hK E2 ⟨4,f,held,q2,r3⟩ (by omega)
     generalize E2++Vc _=E3 at *;simp;refine ⟨by kernel_rfl,ZP gh3 (by simp[nth,rn]) (Qr6 _ _ _ (by simp[clA]) (by simp[Qc]) (by simp[Qc])) ?_⟩
     simp[nth,rn];rw[Qa QbB.eq_1];simp;exact ⟨by omega,ih2 trivial⟩
 simpa[evS,emb] using key [] (by simp)
end Go.Pf
namespace Go.Ev
open Go Go.RowKit Go.Sort
section
variable {P:Program} {K:World->Prop}
theorem QG.grow {Fr:Nat->Prop} {w w1:World} {os:Array Obj} (h:QG Fr w w1) (hlt:∀ b,Fr b->b<w.heap.size):QG Fr w (grow w1 os) :=
 ⟨h.os,h.tape,h.output,by rw[size_grow];exact Qx7 h.size (by omega),fun k hk=>by
  have h1:=hlt k hk;have h2:=h.size;show (w1.heap++os)[k]?=_
  rw[QyF,if_pos (by omega)]
  exact h.block k hk⟩
theorem QlN {w:World} {g:Nat} {o:Obj} (os:Array Obj) (h:w.heap[g]?=some o):(grow w os).heap[g]?=some o:=by
 have h1:=(Qxv.1 h).1;show (w.heap++os)[g]?=_
 rw[QyF,if_pos h1];exact h
theorem Qeq {f:FuncId}
  (he:∀ (a:Option Addr) (cap:Nat) (w:World),Calls P f #[.slice a 0 cap] w fun e w'=>e=.returned (.tuple #[])/\w'=w)
  (zs zt:List Int) (hzt:zt.length=zs.length) (hzl:zs.length<=1000000000) (hr:∀ (blk off cap:Nat) (w:World),Holds (Value.int .i64) w blk off zs.toArray->blk<w.heap.size->zs.length<=1000000000 ->
    Calls P f #[.slice (some ⟨blk,off,none⟩) zs.length cap] w fun e w'=>e=.returned (.tuple #[])/\∃ n os,w'=grow (putRow (Value.int .i64) (Sort.ahead w n) blk off zt.toArray) os)
  (mv:Nat):ZC P K f [.aref 0 zs.length] [(0,QU zs mv)] [0] (.iv (.tup [])) [(0,QU zt zs.length)]:=by
 intro w ok L vs hK hnew hown hlaid hvl hvs
 obtain ⟨v0,rfl⟩:∃ v0,vs=[v0]:=by
  match vs,hvl with
  | [v],_=>exact ⟨v,rfl⟩
 have hob:=hlaid.objs 0 (QU zs mv) rfl;obtain ⟨v,xs,hL,hrow⟩:=WX hob;have hv:v0=v:=qs (id:=0) (zs:=zs) (mv:=mv) rfl hL rfl (hvs 0 _ v0 rfl rfl);subst hv
 have fin:∀ (w':World) (xs':List Value),QG (FrO w (Qc [(0,QU zs mv)]) L) w w'->Z7 (FrO w (Qc [(0,QU zs mv)]) L) w' 3 1 v0 zs.length xs'->xs'=zt.map (.int .i64) ->
   ∃ v1 L',(Ending.returned (.tuple #[]):Ending)=.returned v1/\Qfb (FrO w (Qc [(0,QU zs mv)]) L) ok w' (Qc [(0,QU zt zs.length)]) L'/\Qo (okL ok (Qc [(0,QU zt zs.length)]) L') w' (Qc [(0,QU zt zs.length)]) L' (.iv (.tup [])) v1/\QG (FrO w (Qc [(0,QU zs mv)]) L) w w' /\
    ∀ i∈[0],∀ o,Qc [(0,QU zs mv)] i=some o->∃ o',Qc [(0,QU zt zs.length)] i=some o'/\XQ o o' (L i) (L' i):=by
  intro w' xs' hk ho hx;refine ⟨.tuple #[],fun _=>.arr v0 xs',rfl,⟨fun id o hid=>?_,fun i j oi oj b hij hi hj=>?_⟩,.iv _ _ (.tup [] [] rfl (by simp)),hk,fun i hi o h=>?_⟩
  ·simp only[Qc] at hid
   split at hid
   ·injection hid with hid
    subst hid;refine ⟨by simpa[hzt] using ho,by simp;omega,by simp,fun u hu=>?_,fun i j c x u hi hj hu=>?_⟩
    ·rw[hx] at hu
     obtain ⟨z,_,rfl⟩:=QxR.1 hu;rfl
    ·rw[Qxz,Qxu] at hi
     obtain ⟨z,hz,rfl⟩:=hi;cases j with
     | zero =>
       simp at hj;subst hj;rw[hx,Qyn,Qyd,Qxz,hz] at hu;simp at hu;subst hu;exact .iv _ _ (.int _ _)
     | succ j=>simp at hj
   ·cases hid
  ·simp only[Qc] at hi hj
   grind
  ·simp at hi
   subst hi;simp only[Qc,if_true] at h;injection h with h
   subst h;refine ⟨QU zt zs.length,by simp[Qc],?_⟩
   rw[hL];simp[XQ,hzt]
 rcases hrow with ⟨rfl,rfl⟩ | ⟨g,cap,cur,hr1,hfr⟩
 ·refine (he none 0 w).mono fun e w' ⟨h1,h2⟩=>?_
  subst h1 h2;obtain rfl:zt=[]:=QxC (by simpa using hzt)
  exact fin w' [] (QG.refl _ _) ⟨⟨by simp,.inl ⟨rfl,rfl⟩⟩,by simp[Value.ownBlock]⟩ (by simp)
 ·have hv:=hr1.v
  subst hv;have hgs:g<w.heap.size:=(Qxv.1 hr1.at_).1;refine (hr g 0 cap w hr1.holds hgs hzl).mono fun e w' ⟨h1,n,os,h2⟩=>?_
  subst h1
  have hk:QG (FrO w (Qc [(0,QU zs mv)]) L) w w':=by
   have h3:QG (FrO w (Qc [(0,QU zs mv)]) L) (Sort.ahead w n) w':=by rw[h2];exact (ZK (f:=putCells (Value.int .i64) 0 zt.toArray) hfr).grow fun b hb=>hb.1
   exact ⟨h3.os,h3.tape,h3.output,h3.size,h3.block⟩
  have hh:w'.heap[g]?=some (.cells (putCells (Value.int .i64) 0 zt.toArray cur) 3 (0,0)):=by
   rw[h2];exact QlN os (UX (w:=Sort.ahead w n) hr1.at_)
  refine fin w' _ hk ⟨⟨?_,.inr ⟨g,cap,_,rfl,Qyw _,hh,hr1.le,hr1.max,?_,rfl⟩⟩,fun b hb=>?_⟩ ?_
  ·simp[putCells,hr1.size,hr1.le]
  ·simp[putCells,hr1.size]
  ·simp[Value.ownBlock] at hb
   grind
  ·refine QyH fun i=>?_
   rw[QxU];by_cases hi:i<zs.length
   ·have h1:=hr1.size
    have h2:=hr1.le;have h3:i<cur.size:=by omega
    rw[Qyn,if_pos hi];simp only[putCells,Array.getElem?_toList,Array.getElem?_mapIdx,QxK h3,QyG,Qxz]
    grind
   grind
theorem Qab {f:FuncId} (zs:List Int)
  (hd:∀ (blk off cap:Nat) (w:World),Holds (Value.int .i64) w blk off zs.toArray->zs.length<=9223372036854775807->zs.length<=cap ->
    Calls P f #[.slice (some ⟨blk,off,none⟩) zs.length cap] w fun e w'=>e=.returned (.slice (some ⟨blk,off,none⟩) (Lib.compact zs).length cap)/\∃ q,w'=putRow (Value.int .i64) (Sort.ahead w q) blk off (Lib.compact zs++List.replicate (zs.length-(Lib.compact zs).length) 0).toArray)
  (mv:Nat) (hne:zs≠[]):ZC P K f [.aref 0 zs.length] [(0,QU zs mv)] [] (.iv (Qfa (Lib.compact zs))) []:=by
 intro w ok L vs hK hnew hown hlaid hvl hvs
 obtain ⟨v0,rfl⟩:∃ v0,vs=[v0]:=by
  match vs,hvl with
  | [v],_=>exact ⟨v,rfl⟩
 have hob:=hlaid.objs 0 (QU zs mv) rfl;obtain ⟨v,xs,hL,hrow⟩:=WX hob;have hv:v0=v:=qs (id:=0) (zs:=zs) (mv:=mv) rfl hL rfl (hvs 0 _ v0 rfl rfl);subst hv;rcases hrow with ⟨rfl,rfl⟩ | ⟨g,cap,cur,hr1,hfr⟩
 ·simp at hne
 ·have hv:=hr1.v
  subst hv;have hm:=hr1.max;have hle:=hr1.le
  have hcl:(Lib.compact zs).length<=zs.length:=by
   unfold Lib.compact Lib.compactUpTo;rw[QxB];exact Qx7 (Qx0 _ _) (by simp)
  refine (hd g 0 cap w hr1.holds (by unfold maxLen at *;omega) hle).mono fun e w' ⟨h1,q,h2⟩=>?_
  have hgo:ok g:=hown g ⟨0,QU zs mv,rfl,by rw[hL];simp[Lay.has,Value.ownBlock]⟩
  have hk:QG (FrO w (Qc [(0,QU zs mv)]) L) w w':=by
   have h3:QG (FrO w (Qc [(0,QU zs mv)]) L) (Sort.ahead w q) w':=by rw[h2];exact ZK hfr
   exact ⟨h3.os,h3.tape,h3.output,h3.size,h3.block⟩
  have hnew:Holds (Value.int .i64) w' g 0 (Lib.compact zs++List.replicate (zs.length-(Lib.compact zs).length) 0).toArray:=by
   have h3:=holds_putRow (Value.int .i64) (Sort.ahead w q) g 0 zs.toArray (Lib.compact zs++List.replicate (zs.length-(Lib.compact zs).length) 0).toArray (holds_ahead _ w q g 0 _ hr1.holds) (by simp;omega)
   grind
  subst h1;refine ⟨_,fun _=>.one 0,rfl,JI,.iv _ _ ?_,hk,by simp⟩
  refine JD _ _ _ (by omega) hm ⟨hgo,by simp[Qc]⟩ fun j z hj=>?_
  have hjl:=(Qxr.1 hj).1;have h3:=(hnew j (by grind)).1
  grind
end
end Go.Ev
namespace Go.Proofs
open Go.Shelf Go.RowKit Go.Sort
def Tryz.comp123_ren:Go.Shelf.Ren:=⟨fun | 43=>123 | n=>n,fun | 22=>28 | 23=>3 | 3=>3 | 4=>4 | 0=>0 | n=>n,fun | n=>n⟩
theorem Tryz.comp123:Go.Proofs.SlLaysE.n43 Tryz.prog Tryz.comp123_ren:={
 mixed:=by kernel_rfl
 f43:=⟨Tryz.f123.name,by decide,Tryz.func123.trans (congrArg some (by kernel_rfl))⟩
 t0:=Tryz.underlying0
 a0:=Tryz.isAgg0
 z0:=Tryz.sizeOf0
 v0:=Tryz.zeroValue0
 t3:=Tryz.underlying3
 a3:=Tryz.isAgg3
 z3:=Tryz.sizeOf3
 v3:=Tryz.zeroValue3
 t4:=Tryz.underlying4
 a4:=Tryz.isAgg4
 z4:=Tryz.sizeOf4
 v4:=Tryz.zeroValue4
 t22:=Tryz.underlying28
 a22:=Tryz.isAgg28
 z22:=Tryz.sizeOf28
 v22:=Tryz.zeroValue28
 a23:=Tryz.isAgg3
 z23:=Tryz.sizeOf3 }
end Go.Proofs
namespace Go.Pf
open Go Go.Ev Go.Proofs Go.RowKit Go.Shelf
variable {K:World->Prop} (hK:∀ w w',K w->Below w.heap.size w w'->K w')
set_option maxRecDepth 8000
def Us (l:List Int):List Int:=l.mergeSort fun x y=>decide (x<=y)
def Qe1 (l:List Int):List Int:=Lib.compact (Us l)
theorem WS {l r:List Int} (h:l.Perm r):Us l=Us r:=mergeSort_of_perm_i h
def WI (l:List Int):List (List IV):=l.map fun n=>[.int .i64 n]
theorem QdO (l:List Int) (x:Int):emb (WI (l++[x]))=emb (WI l)++[[AV.iv (.int .i64 x)]]:=by simp[WI,emb]
theorem QiJ (l:List Int):(emb (WI l)).length=l.length:=by simp[WI,emb]
theorem Qbe (l:List Int):(WI l).length=l.length:=by simp[WI]
theorem QpU (l:List Int) (mv:Nat):AO.arr 3 1 (emb (WI l)) mv=QU l mv:=by simp[WI,emb,Function.comp_def]
theorem QuA {a n:Nat} {zs:List Int} {mv:Nat} {o o1:Qh} (ho:Qc o a=some (QU zs mv)) (h1:o1.all (fun q=>decide (q.1<1)&&Yp q.2)=true):HOk [a] [.aref 0 n] o [(0,QU zs mv)] o1:=by
 refine ⟨by simp,by simp[clA],fun q hq=>?_,fun i hi h=>?_,fun q hq=>?_⟩
 ·simp only[Qx4,QyD,or_false] at hq
  subst hq;refine ⟨by simp,?_,by simp[clO,clAL,clA],rfl⟩
  refine ho.trans ?_;simp[QU,rnO,rnL,rn]
 ·simp at hi
  subst hi;simp[Qc] at h
 ·have:=Qx5.1 h1 q hq
  simpa using this
section
theorem QiP (zs:List Int) (mv:Nat) (hl:zs.length<=1000000000):ZC Tryz.prog K 122 [.aref 0 zs.length] [(0,QU zs mv)] [0] (.iv (.tup [])) [(0,QU (Us zs) zs.length)] :=
 Qeq (fun a cap w=>AnyM.slices_Sort_int_none Tryz.sort122 a cap w) zs (Us zs) (by simp[Us]) hl (fun blk off cap w hh hb hz=>AnyM.slices_Sort_int Tryz.sort122 blk off cap zs w hh hb (by omega)) mv
theorem QiO (zs:List Int) (mv:Nat) (hne:zs≠[]):ZC Tryz.prog K 123 [.aref 0 zs.length] [(0,QU zs mv)] [] (.iv (Qfa (Lib.compact zs))) [] :=
 Qab zs (fun blk off cap w hh h1 h2=>by
  have h:=AnyE.slices_Compact Tryz.comp123 (Value.int .i64) (fun _=>rfl) (EqlAt.intD Tryz.prog 3 .i64) (NeqAt.intD Tryz.prog 3 .i64) 0 Tryz.zeroValue3 blk off cap zs.toArray w hh (by simpa using h1) (by simpa using h2)
  have e:Tryz.comp123_ren.f 43=123:=rfl;rw[e] at h;simpa[Lib.compact] using h) mv hne
include hK
theorem Qp2 (e:Evt):Ev.Good Tryz.prog K 88 [.agg (evC e)] (.int .i64 e.cause):=by
 refine Qb hK QqQ (by simp) ?_
 simp
theorem QlP (es:List Evt) (hne:es≠[]) (hl:es.length<=100000000):Ev.Good Tryz.prog K 87 [.sl 7 (es.map evC),.fn 88] (Yq (Qe1 (es.map (·.cause)))):=by
 refine Qb hK QqR (by simp) ?_
 simp
 (repeat' first | omega | (with_reducible apply And.intro) | intro _)
 refine Vf (fun i=>[(1,.iv (.fn 88)),(5,.aref 5 i),(8,.iv (.sl 7 (es.map evC))),(9,.iv (.int .i64 es.length)),(10,.iv (.int .i64 (i:Nat)))]) (fun i=>[(5,.arr 3 1 (emb (WI ((es.take i).map (·.cause)))) 0)]) es.length (fun _=>True) trivial ?_ ?_ (by simp) (by simp[WI,emb])
 ·intro _
  rw[Qa Qhv.eq_1];have h1:=QiP (K:=K) (es.map (·.cause)) 0 (by simp;omega)
  have h2:=QiO (K:=K) (Us (es.map (·.cause))) es.length (fun h=>hne (by simpa[Us] using congrArg List.length h))
  have e1:(Us (es.map (·.cause))).length=es.length:=by simp[Us]
  rw[e1] at h2;simp only[QxB] at h1;simp[QxH,QpU];refine ZP h1 (by simp[nth,rn]) (QuA (by simp[Qc]) (by simp[Yp])) ?_
  simp[nth,rn];refine ZP h2 (by simp[nth,rn]) (QuA (by simp[Qc]) (by simp)) ?_
  simp[nth,rn];rfl
 ·intro i hi _ ih
  rw[Qa Qhv.eq_1];have hi':(i:Int)<(es.length:Int):=by omega
  have hg:=Qp2 hK es[i];rw[Qxt hi,QxV,QxN,List.map_nil,QdO] at ih;have hL:((es.take i).map (·.cause)).length=i:=by simp;omega
  generalize (es.take i).map (·.cause)=L at *
  simp[hi,hi'] at ih |-;refine ⟨by kernel_rfl,cK (by simpa using hg) ?_⟩
  simp[QiJ,Qbe,hL];exact ⟨by omega,by omega,ih⟩
end
end Go.Pf
namespace Go.Pf
open Go Go.Ev Go.Proofs Go.RowKit
variable {K:World->Prop} (hK:∀ w w',K w->Below w.heap.size w w'->K w')
set_option maxRecDepth 8000
theorem Qit {α β:Type} (f:α->β) {a b:List β} (h:a.Perm b):∀ l:List α,b=l.map f->∃ k:List α,a=k.map f/\k.Perm l:=by
 induction h with
 | nil=>exact fun l hl=>⟨[],rfl,by simp_all⟩
 | cons x h ih =>
   intro l hl;cases l with
   | nil=>simp at hl
   | cons y r =>
     simp at hl;obtain ⟨k,h1,h2⟩:=ih r hl.2;exact ⟨y::k,by simp[hl.1,h1],h2.cons y⟩
 | swap x y r =>
   intro l hl
   match l with
   | [] | [_]=>simp at hl
   | u::v::q =>
     simp at hl;exact ⟨v::u::q,by simp[hl],List.Perm.swap u v q⟩
 | trans h1 h2 ih1 ih2 =>
   intro l hl;obtain ⟨k,h3,h4⟩:=ih2 l hl;obtain ⟨m,h5,h6⟩:=ih1 k h3;exact ⟨m,h5,h6.trans h4⟩
noncomputable def spN (l:ZB):List (Qia × Nat):=Wh (Yl l (Q2 l.chain))
noncomputable def Vu (l:ZB):List Int:=Qe1 ((Za l).map (·.cause))
noncomputable def QiA (l:ZB):List IV:=lsC l++[.map (Jv spK (spN l)),.bag 7 ((Za l).map evC)]
noncomputable def tLs (l:ZB) (is:Bool):Int:=if OkL l then (if is=true then (if spN l=[]\/Za l=[] then 3 else 0) else 1) else 100
noncomputable def QwM (l:ZB) (cause:Int):Int:=if cause∈Vu l then (if (Vu l).length=1 then 1 else 3) else 2
theorem qh {l:ZB} (hl:OkL l):(Za l).length<=100000000:=by
 have h1:=Ug (f:=evH l (Q5 l)) (m:=303) (ZQ l) fun x _=>QkQ hl (Q5 l) x
 have h2:=Qf9 hl.sea;unfold Za;omega
theorem Qo4 {l:ZB} {is:Bool} (h:tLs l is=0):OkL l/\is=true/\spN l≠[]/\Za l≠[]:=by
 unfold tLs at h
 grind
def Qw3 (x:Int):List Int->Nat->Int
 | [],_ => -1
 | a::r,i=>if a=x then (i:Nat) else Qw3 x r (i+1)
include hK
theorem Qp3 (es:List Evt) (hne:es≠[]) (hl:es.length<=100000000):Ev.Good Tryz.prog K 87 [.bag 7 (es.map evC),.fn 88] (Yq (Qe1 (es.map (·.cause)))):=by
 refine QiQ fun es' hp=>?_
 obtain ⟨k,rfl,h2⟩:=Qit evC hp es rfl;have h:=QlP hK k (fun e=>hne (by subst e;simpa using h2)) (by rw[h2.length_eq];exact hl)
 have e:Qe1 (k.map (·.cause))=Qe1 (es.map (·.cause)):=congrArg Lib.compact (WS (h2.map _))
 rw[e] at h;exact h
theorem Qqh (l:ZB) (hl:OkL l) (hne:Za l≠[]):Ev.Good Tryz.prog K 55 [.ptr (QiA l)] (Yq (Vu l)):=by
 refine Qb hK Qre (by simp) ?_
 have h:=Qp3 hK (Za l) hne (qh hl);simp[QiA];refine cK (by simpa using h) ?_
 simp
 try rfl
theorem Qqi (l:ZB) (is:Bool) (hd:l.chain.deeds.length<=1000) (hs:l.chain.sights.length<=1000):Ev.Good Tryz.prog K 53 [lsV l,.bool is] (.tup [if tLs l is=0 then .ptr (QiA l) else .nilp,.int .i64 (tLs l is)]):=by
 refine Qb hK Qrf (by simp) ?_
 simp;refine cK (by simpa using Qp6 hK l hd hs) ?_
 by_cases h1:OkL l
 ·cases is
  ·simp[h1,tLs]
  ·simp[h1]
   have g1:=Qp5 hK l h1;have g2:=Qp4 hK l h1;refine cK (by simpa using g1) ?_
   simp;refine cK (by simpa using g2) ?_
   have hle:=qh h1;have e1:(Jv spK (Wh (Yl l (Q2 l.chain)))=[])=(spN l=[]):=by simp[Jv,spN]
   have e2:tLs l true=if spN l=[]\/Za l=[] then 3 else 0:=by simp[tLs,h1]
   simp;rw[e1,e2];by_cases h2:spN l=[]
   ·simp[h2]
   ·by_cases h3:Za l=[]
    ·simp[h2,h3]
    ·simp[h3,QiA,spN]
     exact fun h _=>h
 ·simp[h1,tLs]
theorem Qqm (l:ZB) (hd:l.chain.deeds.length<=1000) (hs:l.chain.sights.length<=1000):Ev.Good Tryz.prog K 31 [lsV l] (.tup [Yq (if tLs l true=0 then Vu l else []),.int .i64 (tLs l true)]):=by
 refine Qb hK Qrr (by simp) ?_
 simp;refine cK (by simpa using Qqi hK l true hd hs) ?_
 by_cases h:tLs l true=0
 ·obtain ⟨h1,_,_,h2⟩:=Qo4 h
  simp[h];refine cK (by simpa using Qqh hK l h1 h2) ?_
  simp
 ·simp[h]
omit hK
def Qul (l:Zv) (n:Int):Zv:={ l with lo:=n,hi:=n }
def Qqu (m:Machine) (k:Nat) (l:Zv) (n:Int):Machine:={ m with levers:=m.levers.set k (Qul l n) }
noncomputable def QqA:Nat->Machine->Nat->List Machine
 | 0,m,_=>acc (QpA m) (m.lhi+1-m.llo).toNat
 | r+1,m,k=>match m.levers[k]? with
   | some l=>acc (fun i=>QqA r (Qqu m k l (l.lo+(i:Nat))) (k+1)) (l.hi+1-l.lo).toNat
   | none=>[]
structure Qxn (m:Machine):Prop where
 len:m.levers.length<=3
 blen:m.bals.length<=6
 leak:inR m.llo 0 m.lhi
 lhi:m.lhi<=20
 span:∀ l∈m.levers,1<=X7 l
 lo:∀ l∈m.levers,0<=l.lo/\l.hi<=100000
 sets:sets m m.levers.length<=1000000
include hK
omit hK
theorem Jw (a:Nat) (h:a<2 ^ 64):(BitVec.ofInt 64 (a:Int)).toNat=a:=by
 grind
theorem Un (a:Nat) (h:a<2 ^ 64):IntKind.wrap .u64 (a:Int)=(a:Int):=by
 have h':a<18446744073709551616:=h;simp only[IntKind.wrap,IntKind.bits,IntKind.signed];simp;omega
theorem W2 (a b:Nat) (ha:a<2 ^ 64) (hb:b<2 ^ 64):Jt .or .u64 (a:Int) (b:Int)=((a ||| b:Nat):Int):=by
 show IntKind.wrap .u64 (((BitVec.ofInt 64 (a:Int)) ||| (BitVec.ofInt 64 (b:Int))).toNat:Int)=_
 rw[BitVec.toNat_or,Jw a ha,Jw b hb,Un _ (QyP ha hb)]
theorem Qdi (a b:Nat) (ha:a<2 ^ 64) (hb:b<2 ^ 64):Jt .and .u64 (a:Int) (b:Int)=((a &&& b:Nat):Int):=by
 show IntKind.wrap .u64 (((BitVec.ofInt 64 (a:Int)) &&& (BitVec.ofInt 64 (b:Int))).toNat:Int)=_
 rw[BitVec.toNat_and,Jw a ha,Jw b hb,Un _ (Nat.and_lt_two_pow _ hb)]
def Qxe (a b:Nat):Nat:=a &&& (2 ^ 64-1-b)
theorem QbP {n:Nat} (h:n<64):Qii .u64 1 (n:Int)=((2 ^ n:Nat):Int):=by
 have h2:(2:Nat) ^ n<2 ^ 64:=QyQ (by decide) h
 unfold Qii;rw[show min ((n:Int)).toNat IntKind.u64.bits=n by simp[IntKind.bits];omega,Int.one_mul]
 have:((2:Int) ^ n)=((2 ^ n:Nat):Int):=by push_cast;rfl
 rw[this];exact Un _ h2
def Qlx (l:List Nat):Nat:=l.foldl (fun m n=>m ||| 2 ^ n) 0
def Qkr (p:Qv) (e:Nat->Int):List IV :=
 [.sl 1 ((List.range p.trials.length).map fun i=>[.int .u64 (Qlx (Qel p i e):Nat)]),.sl 1 ((List.range p.trials.length).map fun i=>[.int .i64 (Wp p i e)]),US (Qr2 p e)]
include hK
omit hK
def QkC (p:Qv) (s:Qd):List (List IV):=(List.range p.trials.length).map fun i=>[.int .i64 (QsT p.machine (tr p i).weight (tr p i).mins s),.int .i64 (upS p.machine (tr p i).weight (tr p i).mins s)]
def QoZ (p:Qv) (t:Z9):List IV:=Qkr p (QbK t.ends)++[.sl 2 (QkC p t.set)]
def nd (p:Qv) (need:Int):Qv:={ p with need:=need }
include hK
def QwV (p:Qv) (t:Z9) (m i:Nat):Nat :=
 if p.need<=QsT p.machine (tr p i).weight (tr p i).mins t.set then m ||| (if 0<=Wp p i (QbK t.ends) then Qxe (Qlx (Qel p i (QbK t.ends))) (2 ^ (Wp p i (QbK t.ends)).toNat) else Qlx (Qel p i (QbK t.ends))) else m
def pmN (p:Qv) (t:Z9) (n:Nat):Nat:=(List.range n).foldl (QwV p t) 0
omit hK
noncomputable def Qih (p:Qv):List (List IV):=(Qi4 p.chain [] p.chain.deeds).map fun e=>Qkr p (QbK e)
noncomputable def QpK (p:Qv):List (List IV):=(QV p.machine [] p.machine.levers).map fun s=>[.sl 2 (QkC p s)]
def prC (p:Qv):List IV:=[QO p.chain.deeds,QJ p.chain.sights,.int .i64 p.chain.wrong,Zm p.machine.levers,.int .i64 p.machine.water,.int .i64 p.machine.llo,.int .i64 p.machine.lhi,Y8 p.machine.bals,.int .i64 p.machine.wrong,
 Qfi p.trials,.int .i64 p.need,.int .i64 p.rule]
noncomputable def Qxb (p:Qv):List IV:=prC p++[.sl 3 (Qih p),.sl 1 (QpK p)]
def Qw1 (p:Qv) (t:Z9):List IV:=[.agg (QoZ p t)]
include hK
omit hK
def QuF (d:Qy):Qy:=qE d 0
section
variable {ds ds':List Qy} (h:ds'.map QuF=ds.map QuF)
include h
end
def QwO:List Qy->List Int->List Qy
 | d::r,x::e=>qE d x::QwO r e
 | _,_=>[]
theorem OkD.frm {ds:List Qy} {n:Nat} (h:OkD ds n) (hn:ds.length<=n):∀ d∈ds,d.frm=0\/d.frm=1\/d.frm=2:=by
 intro d hd;obtain ⟨i,hi,rfl⟩:=Qyb hd;have:=h i hi (by omega)
 rcases this with ⟨_,h2,_⟩ | ⟨_,h2,_⟩ | ⟨_,_,h2,_⟩
 ·simp only[inR] at h2;omega
 ·simp only[inR] at h2;omega
 ·omega
section
variable {c:Qn} (hc:OkC c) {e:List Int} (he:e∈QcJ c.deeds)
include hc he
end
def Qsq:List Zv->List Int->List Zv
 | l::r,x::e=>Qul l x::Qsq r e
 | l,[]=>l
 | [],_=>[]
def QwY (m:Machine) (s:Qd):Machine:={ m with levers:=Qsq m.levers s.shorts,llo:=s.leak,lhi:=s.leak }
def QwZ (m:Machine) (first:List Int):Machine:={ m with levers:=Qsq m.levers first }
@[reducible] def Qxa (p:Qv) (SS LL:List (List IV)):Qh :=
 [(0,.box [.loc 1 0]),(1,.box ((prC p).map AV.iv++[.aref 2 SS.length,.aref 3 LL.length])),(2,.arr 90215 3 (emb SS) 0),(3,.arr 65 1 (emb LL) 0)]
def Qxp (pe:List (Nat × Nat × Nat)) (o1:Qh):Env->Qh->Prop:=QoV [ZY.tmp 4] [0,1,2,3] pe (.iv (.bool true)) o1
include hK
def Qxi (p:Qv) (lo up:Nat->Int):List IV:=[.sl 2 ((List.range p.trials.length).map fun i=>[.int .i64 (lo i),.int .i64 (up i)])]
omit hK
structure Few (p:Qv):Prop where
 fine:Qxf p
 ends:OkP p->(Qi4 p.chain [] p.chain.deeds).length<=1000000
 sets:OkP p->(QV p.machine [] p.machine.levers).length<=1000000
 all:OkP p->(Qf7 p).length<=100000
include hK
omit hK
def exD:List Qy:=[⟨1,0,0,5,1⟩,⟨1,1,0,5,2⟩,⟨1,2,0,6,1⟩,⟨4,0,0,0,0⟩,⟨2,0,2,0,0⟩,⟨1,0,1,7,2⟩]
def exC:Qn:=⟨exD++[⟨4,0,0,0,0⟩],[],0⟩
def exM:Machine:=⟨[⟨100,10,11⟩,⟨50,5,5⟩],20,1,2,[⟨10,5,2500,250⟩],0⟩
def exP:Qv:=⟨exC,exM,[⟨30,0,0⟩,⟨31,0,-1⟩],4600,1⟩
include hK
theorem Qqn:Ev.Good Tryz.prog K 30 [] (maV exM):=by
 refine Qb hK Qrs (by simp) ?_
 simp[exM]
def QiZ:AV:=.tup [.agg [.aref 0 6,.iv (.sl 5 []),.iv (.int .i64 0)],.iv (.agg [.int .i64 6,.int .i64 1,.int .i64 0,.int .i64 6,.int .i64 (-1)]),.iv (.agg [.int .i64 6,.int .i64 0,.int .i64 0,.int .i64 (-1),.int .i64 1])]
theorem QlO:ZC Tryz.prog K 62 [] [] [] QiZ [(0,.arr 158 5 (emb (exD.map dC)) 0)]:=by
 refine Jn [9] [] [] [] Qra.p (by simp[c62]) (by simp) ?_ ?_ ?_ ?_
 ·intro q hq
  simp only[Qx9] at hq;subst hq;exact ⟨by simp,rfl,Wj _ _ _ _ _⟩
 ·simp[clA,clAL,QiZ]
 ·simp
 ·generalize hG:QoV c62.res [9] [] QiZ [(0,.arr 158 5 (emb (exD.map dC)) 0)]=G
  simp;rw[<- hG];refine ⟨⟨_,rfl,rfl⟩,fun q hq=>?_,by simp⟩
  simp only[Qx9] at hq;subst hq;rfl
omit hK
theorem QqB:OkM exM:=by
 refine ⟨by decide,?_,by decide,by decide,by decide,by decide,?_,by decide⟩
 ·intro l hl;simp[exM] at hl;rcases hl with rfl | rfl<;>decide
 ·intro l hl;simp[exM] at hl;subst hl;decide
def exT:List Z9:=[⟨[0,0,0,0,0,1,0],⟨[10,5],1⟩⟩,⟨[0,0,0,0,0,1,0],⟨[11,5],1⟩⟩,⟨[0,0,0,0,1,1,0],⟨[10,5],1⟩⟩,⟨[0,0,0,0,1,1,0],⟨[11,5],1⟩⟩]
include hK
omit hK
def QgI:Qn:=⟨exD,[],0⟩
def QiY:Sea:=⟨100,40,[(1,2),(0,1)],1,1,[(0,6),(1,10)],[(1,91,2)],0⟩
def exL:ZB:=⟨QgI,QiY,30,34,0,10,32,32,5,[(5,2),(-1,-1)],1,-1⟩
def QpO (l:ZB) (c:Sea) (n:Int):List Int:=if wTr (J4 c n)≠[]/\¬ (0<=l.pth/\Qo3 (J4 c n)≠l.pth) then [QpV (J4 c n)] else []
def QqF (l:ZB):Nat->Sea->Nat->List Int
 | 0,c,_=>(Ja c.wlo c.whi).flatMap (QpO l c)
 | k+1,c,w=>(Ja (c.waters.getD w (0,0)).1 (c.waters.getD w (0,0)).2).flatMap fun n=>QqF l k (QbQ c w n) (w+1)
theorem Qkn {c:Sea} (hc:Qx c):tW c true=0↔wTr c≠[]:=by
 unfold tW
 grind
theorem Vo {f g:Int->List Int}:∀ l:List Int,(∀ x∈l,f x=g x)->l.flatMap f=l.flatMap g
 | [],_=>rfl
 | a::r,h=>by
   rw[Qx6,Qx6,h a (by simp),Vo r fun x hx=>h x (by simp[hx])]
theorem Qd7 (l:ZB):∀ (k:Nat) (c:Sea) (w:Nat),w+k=c.waters.length->Qx c->Yr l k c w=QqF l k c w
 | 0,c,w,_,hc=>Vo _ fun n hn=>by
   have h1:=JC hn;have h2:=Qkn (QkB hc h1.1 h1.2);unfold qV QpO;simp only[h2]
 | k+1,c,w,hw,hc=>Vo _ fun n hn=>by
   have hw':w<c.waters.length:=by omega
   have hge:c.waters.getD w (0,0)=c.waters[w]:=by simp[hw']
   rw[hge] at hn;have h1:=JC hn;exact Qd7 l k _ _ (by simp[QbQ];omega) (QdD hc hw' h1.1 h1.2)
theorem Qgw (l:ZB) (hc:Qx l.sea):Q5 l=if wTr (QdF l.sea)≠[] then loD ((wTr (QdF l.sea)).map fun w=>Xt (QdF l.sea) (Zk (QdF l.sea) w 0)) else 0:=by
 unfold Q5;simp only[Qkn (QpF hc)]
theorem q7:Qx QiY:=by
 refine ⟨by decide,by decide,by decide,by decide,by decide,by decide,by decide,by decide,by decide,by decide⟩
theorem QmJ:OkC QgI:=by
 refine ⟨by decide,by decide,by decide,fun i h _=>?_,fun s hs=>by simp[QgI] at hs⟩
 have all:∀ i<6,Zn (QgI.deeds.getD i d0) (cnt QgI.deeds i):=by decide
 have:=all i h
 grind
theorem QqC:OkL exL:=⟨QmJ,q7,by decide,by decide,by decide,by decide,by decide,by decide,by decide,by decide,by decide⟩
theorem QmF:Y5 exL=[33,26]:=by
 unfold Y5;rw[Qd7 exL exL.sea.waters.length exL.sea 0 (by decide) q7]
 decide +kernel
theorem QiX:Q5 exL=40:=by
 rw[Qgw exL q7];decide +kernel
theorem Qbr:(Za exL).map (·.cause)=[1,1,1,1]++(List.replicate 18 [1,2]).flatten:=by
 unfold Za ZQ;rw[QmF,QiX];decide +kernel
theorem QgF:Us ([1,1,1,1]++(List.replicate 18 [1,2]).flatten)=List.replicate 22 1++List.replicate 18 2:=by
 have h:([1,1,1,1]++(List.replicate 18 [1,2]).flatten:List Int).Perm (List.replicate 22 1++List.replicate 18 2):=by
  rw[<- List.isPerm_iff];decide +kernel
 rw[WS h];refine List.mergeSort_of_pairwise ?_;decide +kernel
theorem QgH:Vu exL=[1,2]:=by
 unfold Vu Qe1;rw[Qbr,QgF];decide +kernel
def V1:Qn:={ QgI with deeds:=QgI.deeds.set 4 ⟨2,0,0,0,0⟩ }
theorem Qd1:OkC V1:=by
 refine ⟨by decide,by decide,by decide,fun i h _=>?_,fun s hs=>by simp[V1,QgI] at hs⟩
 have all:∀ i<6,Zn (V1.deeds.getD i d0) (cnt V1.deeds i):=by decide
 have:=all i h
 grind
theorem QmI:V1∈Q2 QgI:=by
 unfold Q2;refine Qyp.2 ⟨QxR.2 ⟨V1.deeds,by decide +kernel,rfl⟩,decide_eq_true ?_⟩
 unfold Ym;have h:=Qev V1 Qd1 (by decide) rfl
 simp[Qd1,h]
theorem QlL {α:Type} [DecidableEq α] (l:List (α × Nat)) (x:α):Qcm l x≠[]:=by
 cases l with
 | nil=>simp[Qcm]
 | cons p r=>unfold Qcm;split<;>simp
theorem QmS {α:Type} [DecidableEq α] {l:List α} (h:l≠[]):Wh l≠[]:=by
 obtain ⟨L,b,rfl⟩:∃ L b,l=L++[b]:=⟨_,_,(List.dropLast_concat_getLast h).symm⟩
 rw[JU];exact QlL _ _
theorem QmH:Vq V1 exL.marks ((0:Nat):Int) 1:=fun i h=>by
 have all:∀ i:Nat,(h:i<exL.marks.length)->Qh7 V1 (((0:Nat):Int)+1*(i:Nat)) exL.marks[i]=true:=by decide +kernel
 exact all i h
theorem QiW:spN exL≠[]:=by
 refine QmS (List.ne_nil_of_mem (a:=Yn V1 (((0:Nat):Int)+1*exL.broke)) ?_);refine QxZ.2 ⟨V1,QmI,QxZ.2 ⟨0,by decide +kernel,?_⟩⟩
 simp[qB,WC,show Vq V1 exL.marks 0 1 from QmH]
theorem QmG:tLs exL true=0:=by
 have h:Za exL≠[]:=fun e=>by
  have:=Qbr;rw[e] at this;exact absurd this (by decide +kernel)
 simp[tLs,QqC,QiW,h]
include hK
theorem Qqe:Ev.Good Tryz.prog K 62 [] (.tup [chV QgI,.agg [.int .i64 6,.int .i64 1,.int .i64 0,.int .i64 6,.int .i64 (-1)],.agg [.int .i64 6,.int .i64 0,.int .i64 0,.int .i64 (-1),.int .i64 1]]) :=
 qX (xs:=[]) hK (QlO hK) (by simp[QiZ,Qc,QgI,QxH,imm,imms,exD,emb])
theorem Qqd:Ev.Good Tryz.prog K 63 [] (Qfw QiY):=by
 refine Qb hK Qq9 (by simp) ?_
 simp[QiY]
theorem Qql:Ev.Good Tryz.prog K 32 [] (lsV exL):=by
 refine Qb hK Qrq (by simp) ?_
 simp;refine cK (by simpa using Qqe hK) ?_
 simp;refine cK (by simpa using Qqd hK) ?_
 simp[exL]
theorem QlQ:Ev.Good Tryz.prog K 31 [lsV exL] (.tup [Yq [1,2],.int .i64 0]):=by
 have h:=Qqm hK exL (by decide) (by decide)
 rw[QmG,QgH] at h;simpa using h
omit hK
def Z3 (m:Machine) (w mn ld:Int) (s:Qd):Bool:=decide (ld*den s<=num m s w mn)
noncomputable def YG (m:Machine) (w mn ld:Int):Int :=
 if (QV m [] m.levers).countP (fun s=>!Z3 m w mn ld s)=0 then 1 else if (QV m [] m.levers).countP (Z3 m w mn ld)=0 then 2 else 3
theorem Wg {α:Type} (p:α->Bool) (l:List α) (i:Nat) (h:i<l.length):(l.take (i+1)).countP p=(l.take i).countP p+if p l[i] then 1 else 0:=by
 rw[Qxt h,QyV];by_cases hp:p l[i]<;>simp[hp]
include hK
theorem Qqr (m:Machine) (w mn ld:Int) (hl:m.levers.length<=1000) (hb:m.bals.length<=1000) (hs:OkM m->sets m m.levers.length<=1000000) :
  Ev.Good Tryz.prog K 10 [maV m,.int .i64 w,.int .i64 mn,.int .i64 ld] (.tup [.int .i64 (if tE m (decide (inR w 0 9999/\inR mn 0 99/\inR ld 0 999999999))=0 then YG m w mn ld else 0),.int .i64 (tE m (decide (inR w 0 9999/\inR mn 0 99/\inR ld 0 999999999)))]):=by
 refine Qb hK QrA (by simp) ?_
 have hask:(decide (inR w 0 9999/\inR mn 0 99/\inR ld 0 999999999))=true->inR w 0 9999/\inR mn 0 99/\inR ld 0 999999999:=of_decide_eq_true;have g35:=QkM hK w mn ld;generalize (decide (inR w 0 9999/\inR mn 0 99/\inR ld 0 999999999))=is at *;simp;refine cK (by simpa using g35) ?_
 simp;refine cK (by simpa using QkN hK m is hl hb) ?_
 by_cases he:tE m is=0
 ·obtain ⟨hm,his,htl,hne⟩:=Qk8 he
  obtain ⟨hw,hmn,hld⟩:=hask his;have hln:=Qdr hm;have hsz:=hs hm;have hT:((QV m [] m.levers).length:Int)<=1000000:=by omega
  simp[he];refine QZ (wy:=.fall) (o':=[(10,.box [.iv (.ptr (wkC m))]),(12,.box [.iv (.int .i64 ((QV m [] m.levers).countP (Z3 m w mn ld):Nat))]),(13,.box [.iv (.int .i64 ((QV m [] m.levers).countP (fun s=>!Z3 m w mn ld s):Nat))])]) rfl (by kernel_rfl) (QdN hK m hm) ?_ ?_
  ·have:=Vx.all (P:=Tryz.prog) (K:=K) (ps:=[29]) (asn:=Qda) (body:=QhK) (ks:=[5,6,7,10,12,13]) (ids:=[10,12,13]) (eK:=[(5,.iv (.ptr [.int .i64 w])),(6,.iv (.ptr [.int .i64 mn])),(7,.iv (.ptr [.int .i64 ld])),(10,.loc 10 0),(12,.loc 12 0),(13,.loc 13 0)]) ((QV m [] m.levers).map stI)
    (fun i=>[(10,.box [.iv (.ptr (wkC m))]),(12,.box [.iv (.int .i64 (((QV m [] m.levers).take i).countP (Z3 m w mn ld):Nat))]),(13,.box [.iv (.int .i64 (((QV m [] m.levers).take i).countP (fun s=>!Z3 m w mn ld s):Nat))])]) fun i x hi=>by
    simp only[Qxz,Qxu] at hi;obtain ⟨y,hy,rfl⟩:=hi;have hlt:=(Qxr.1 hy).1;have hye:(QV m [] m.levers)[i]=y:=(Qxr.1 hy).2
    have hys:okS m y:=by
     have h:=QxF hy;rw[Yw] at h;exact J8 (Qyp.1 h).1
    have g37:=QkL hK m y w mn hm hys.2.1 hw hmn;have hn:=hm.numB hys hw hmn;have hd:=hm.denB hys;simp only[inR] at hld;have h4:=QxY hld.2 hd.2 (by omega) (by omega)
    have h5:=Qx3 hld.1 (Int.le_trans (by omega) hd.1)
    have hnum:Jf m y.leak w mn*Wv m=num m y w mn:=rfl;have c1:=Wg (Z3 m w mn ld) (QV m [] m.levers) i hlt;have c2:=Wg (fun s=>!Z3 m w mn ld s) (QV m [] m.levers) i hlt
    have l1:((QV m [] m.levers).take i).countP (Z3 m w mn ld)<=1000000:=Qx7 Qyr (by simp;omega)
    have l2:((QV m [] m.levers).take i).countP (fun s=>!Z3 m w mn ld s)<=1000000:=Qx7 Qyr (by simp;omega)
    rw[hye] at c1 c2;refine ⟨rfl,?_⟩;rw[c1,c2];generalize ((QV m [] m.levers).take i).countP (Z3 m w mn ld)=A at *;generalize ((QV m [] m.levers).take i).countP (fun s=>!Z3 m w mn ld s)=B at *
    simp[stI,Qda,QhK];refine cK (by simpa using g37) ?_
    simp[hnum];by_cases hr:ld*den y<=num m y w mn
    ·simp[Z3,hr]
     omega
    ·simp[Z3,hr]
     omega
   simpa[QxH] using this
  ·unfold YG
   generalize (QV m [] m.levers).countP (Z3 m w mn ld)=A at *;generalize (QV m [] m.levers).countP (fun s=>!Z3 m w mn ld s)=B at *
   by_cases hB:B=0
   ·simp[hB]
   ·by_cases hA:A=0
    ·simp[hA,hB]
    ·simp[hA,hB]
 ·simp[he]
end Go.Pf
namespace Go.Pp
open Go Go.Ev Go.Proofs Go.RowKit
open Go.Pf (c13_ok c14_ok c16_ok c24_ok c44_ok)
def fit (s:W):Prop:=s.length<=1000/\((spl s).length<=9\/11<(spl s).length)
def rdAt (s:W) (fs:List Int) (n:Int):Option Rd:=if 0<=n then (rs s fs)[n.toNat]? else none
def Vc (s:W) (fs:List Int) (n:Int):Int:=if err s fs≠0 then err s fs else if (rdAt s fs n).isSome then 0 else 1
def cnt (fs:List Int) (r:Rd):Nat:=(tru fs).countP (val r)
theorem rs_len (s:W) (fs:List Int):(rs s fs).length<=323:=by
 unfold rs;split
 ·rename_i h
  exact UJ (by omega) h.2
 ·simp
theorem Jp {fs:List Int} (h:factsOk fs=true):fs.length<=6:=by
 simp[factsOk] at h;exact h.2
theorem Qdu {s:W} {fs:List Int} (h:err s fs≠0):rs s fs=[]:=by
 unfold err at h;split at h
 ·rename_i h1
  simp[rs,h1]
 ·split at h
  ·assumption
  ·exact absurd rfl h
theorem err_ok {s:W} {fs:List Int} (h:err s fs=0):factsOk fs=true/\(spl s).length<=9/\rs s fs≠[]:=by
 unfold err at h;split at h
 ·cases h
 ·split at h
  ·cases h
  ·rename_i h1 h2
   refine ⟨by simpa using h1,?_,h2⟩
   unfold rs at h2;split at h2
   ·rename_i h3;exact h3.2
   ·exact absurd rfl h2
theorem Qkt {s:W} {fs:List Int} {r:Rd} (h:r∈rs s fs):err s fs=0:=by
 by_cases h1:err s fs=0
 ·exact h1
 ·rw[Qdu h1] at h;cases h
theorem Qfh {fs:List Int} (h:fs.length<=6):(tru fs).length<=64:=by
 have h1:=QbN fs fs.length;have h2:2 ^ fs.length<=2 ^ 6:=QxW (by omega) h
 unfold tru;omega
theorem Qkk {fs:List Int} (h:fs.length<=6):∀ t∈tru fs,t<64:=by
 intro t ht;have h1:=Qfj fs fs.length t ht;have h2:2 ^ fs.length<=2 ^ 6:=QxW (by omega) h
 omega
theorem qP {s:W} {fs:List Int} {n:Int} {r:Rd} (h:rdAt s fs n=some r):r∈rs s fs/\0<=n/\∃ h:n.toNat<(rs s fs).length,(rs s fs)[n.toNat]=r:=by
 unfold rdAt at h;split at h
 ·obtain ⟨h1,h2⟩:=Qxr.1 h
  exact ⟨h2▸Qxx h1,by assumption,h1,h2⟩
 ·cases h
theorem QfK {s:W} {fs:List Int} {n:Int} (h:rdAt s fs n=none):n<0\/((rs s fs).length:Int)<=n:=by
 unfold rdAt at h;split at h
 ·have:=List.getElem?_eq_none_iff.1 h
  omega
 ·omega
def Qui (s:W) (fs:List Int) (n:Int):IV:=.tup [.str (match rdAt s fs n with | some r=>text r | none=>[]),.int .i64 (Vc s fs n)]
def QuE (s:W) (fs:List Int) (n:Int):IV:=.tup [.int .i64 (match rdAt s fs n with | some r=>(cnt fs r:Nat) | none=>0),.int .i64 (Vc s fs n)]
def meansOf (fs:List Int) (r:Rd):Int:=Qf8 (cnt fs r:Nat) ((tru fs).length:Nat)
def meansV (s:W) (fs:List Int) (n:Int):IV:=.tup [.int .i64 (match rdAt s fs n with | some r=>meansOf fs r | none=>0),.int .i64 (Vc s fs n)]
theorem oneE_some {s:W} {fs:List Int} {n:Int} {r:Rd} (h:rdAt s fs n=some r):Vc s fs n=0:=by
 have h1:=Qkt (qP h).1;simp[Vc,h,h1]
theorem QfP {s:W} {fs:List Int} {n:Int} (h:rdAt s fs n=none):Vc s fs n≠0:=by
 unfold Vc;split
 ·assumption
 ·simp[h]
section
variable {K:World->Prop} (hK:∀ w w',K w->Below w.heap.size w w'->K w')
include hK
theorem good13 (s:W) (fs:List Int) (hs:fit s):Ev.Good Tryz.prog K 13 [Jb s fs] (.tup [rrs (rs s fs),.int .i64 (err s fs)]):=by
 refine Qb hK c13_ok (by simp) ?_
 simp;refine Qk (Qqk hK s fs) (by simp) ?_
 have hc:(fs.all (fun k=>decide (1<=k)&&decide (k<=3))&&decide (fs.length<=6))=factsOk fs:=rfl
 rw[hc];cases h1:factsOk fs with
 | false=>simp[rs,err,h1]
 | true =>
   have hf:=Jp h1;simp;refine ⟨fun e=>?_,fun e=>?_⟩
   ·have h2:rs s fs=[]:=Qf3 s fs (by omega)
    simp[h2,err,h1]
   ·refine Qk (QkJ hK s (by omega)) (by simp) ?_
    simp;refine fun _=>⟨fun e2=>?_,fun e2 _=>?_⟩
    ·have h2:rs s fs=[]:=by simp[rs];omega
     simp[h2,err,h1]
    ·have h4:(spl s).length<=9:=by rcases hs.2 with h | h<;>omega
     have h5:rs s fs=rdg fs.length 9 (spl s):=by simp[rs,h1,h4]
     refine Qk (QkI hK fs.length hf 9 (by omega) (spl s) h4) (by simp) ?_
     rw[<- h5];simp;refine fun _=>⟨fun e=>?_,fun e=>?_⟩
     ·simp[err,h1,e]
     ·simp[err,h1,e]
variable (hS:∀ s:W,s.length<=1000->Ev.Good Tryz.prog K 71 [.str s,.str [32]] (strs (spl s)))
include hS
theorem good14 (s:W) (fs:List Int) (hs:fit s):Ev.Good Tryz.prog K 14 [Jb s fs] (.int .i64 (err s fs)):=by
 refine Qb hK c14_ok (by simp) ?_
 simp;refine Qk (QdT hK hS s fs hs.1 hs.2) (by simp) ?_
 simp
theorem good24 (s:W) (fs:List Int) (hs:fit s):Ev.Good Tryz.prog K 24 [Jb s fs] (.tup [.int .i64 ((rs s fs).length:Nat),.int .i64 (err s fs)]):=by
 refine Qb hK c24_ok (by simp) ?_
 simp;refine Qk (QdT hK hS s fs hs.1 hs.2) (by simp) ?_
 by_cases h:err s fs=0
 ·simp[h,pap]
 ·simp[h,pap,Qdu h]
theorem Qqj (s:W) (fs:List Int) (n:Int) (hs:fit s):Ev.Good Tryz.prog K 44 [Jb s fs,.int .i64 n]
  (.tup (match rdAt s fs n with | some r=>[.ptr [rds (rs s fs),Qlu (tru fs)],enc r,.int .i64 0] | none=>[.nilp,.nilp,.int .i64 (Vc s fs n)])):=by
 refine Qb hK c44_ok (by simp) ?_
 simp;refine Qk (QdT hK hS s fs hs.1 hs.2) (by simp) ?_
 by_cases h:err s fs=0
 ·have hl:=rs_len s fs
  cases hr:rdAt s fs n with
  | some r =>
    obtain ⟨h1,h2,h3,h4⟩:=qP hr;have h5:n<(rs s fs).length:=by omega
    have h6:¬ n<0:=by omega
    simp[h,pap,h2,h3,h4,h5,h6]
    all_goals (try omega)
  | none =>
    have h5:=QfK hr;by_cases h6:n<0
    ·simp[h,pap,h6,Vc,hr]
    ·have h7:((rs s fs).length:Int)<=n:=by omega
     have h8:0<=n:=by omega
     simp[h,pap,h6,h7,h8,Vc,hr]
 ·have h1:=Qdu h
  have h2:rdAt s fs n=none:=by simp[rdAt,h1]
  simp[h,pap,h2,Vc]
theorem good16 (s:W) (fs:List Int) (n:Int) (hs:fit s):Ev.Good Tryz.prog K 16 [Jb s fs,.int .i64 n] (meansV s fs n):=by
 refine Qb hK c16_ok (by simp) ?_
 simp;refine Qk (Qqj hK hS s fs n hs) (by simp) ?_
 cases hr:rdAt s fs n with
 | some r =>
   have hf:=Jp (err_ok (Qkt (qP hr).1)).1;simp[meansV,hr,oneE_some hr];refine Qk (QkH hK (rds (rs s fs)) (tru fs) r (Qkk hf) (Qfh hf)) (by simp) ?_
   simp[meansOf,cnt]
 | none=>simp[meansV,hr,QfP hr]
end
open Go.Pf (c12_ok c15_ok c28_ok)
def QjZ (c:Rd->Nat) (L:List Rd):Nat->Nat
 | 0=>0
 | i+1=>match L[i]?,L[QjZ c L i]? with
   | some a,some b=>if c a<c b then i else QjZ c L i
   | _,_=>QjZ c L i
def Qsv (s:W) (fs:List Int):IV:=.tup [.int .i64 (QjZ (cnt fs) (rs s fs) (rs s fs).length:Nat),.int .i64 (err s fs)]
def courtOf (fs:List Int):List Rd->Int
 | []=>0
 | r::L=>if (r::L).all (fun a=>decide (meansOf fs a=meansOf fs r)) then meansOf fs r else 3
def courtV (s:W) (fs:List Int):IV:=.tup [.int .i64 (courtOf fs (rs s fs)),.int .i64 (err s fs)]
def farB (s:W) (fs:List Int):Bool:=decide (40<fs.length)||decide (100<s.length)||decide (9<(spl s).length)
def Qun (s:W) (fs:List Int):Bool:=!farB s fs&&decide (err s fs=0)
theorem fit_of_far {s:W} {fs:List Int} (h:farB s fs=false):fit s:=by
 simp[farB] at h;exact ⟨by omega,.inl h.2⟩
section
variable {K:World->Prop} (hK:∀ w w',K w->Below w.heap.size w w'->K w')
include hK
theorem good12 (s:W) (fs:List Int):Ev.Good Tryz.prog K 12 [Jb s fs] (.bool (farB s fs)):=by
 refine Qb hK c12_ok (by simp) ?_
 simp[farB];refine fun _=>⟨fun h1=>⟨fun h2=>?_,fun h2=>?_⟩,fun h1=>?_⟩
 ·refine Qk (QkJ hK s (by omega)) (by simp) ?_
  have h3:¬ 40<fs.length:=by omega
  have h4:¬ 100<s.length:=by omega
  simp[h3,h4];exact fun _=>by omega
 ·omega
 ·omega
theorem good28:Ev.Good Tryz.prog K 28 [] (Jb [110,111,116,32,97,32,97,110,100,32,98,32,111,114,32,99] [3,3,1]):=by
 refine Qb hK c28_ok (by simp) ?_
 simp
variable (hS:∀ s:W,s.length<=1000->Ev.Good Tryz.prog K 71 [.str s,.str [32]] (strs (spl s)))
include hS
theorem good15 (s:W) (fs:List Int) (hs:fit s):Ev.Good Tryz.prog K 15 [Jb s fs] (courtV s fs):=by
 refine Qb hK c15_ok (by simp) ?_
 simp;refine Qk (QdT hK hS s fs hs.1 hs.2) (by simp) ?_
 by_cases h:err s fs=0
 ·have hl:=rs_len s fs
  have hc:=(err_ok h).1;have hf:=Jp hc;have hn:=(err_ok h).2.2;have g55:=fun r=>QkH hK (rds (rs s fs)) (tru fs) r (Qkk hf) (Qfh hf)
  simp only[courtV,pap,h,if_true];generalize rs s fs=L at *;obtain ⟨r0,L',rfl⟩:=List.exists_cons_of_ne_nil hn;simp;refine Qk (g55 r0) (by simp) ?_
  simp;intro _;change QP _ _ (FnF (Zb _ (IV.tup [.int .i64 (if (r0::L').all (fun a=>decide (meansOf fs a=meansOf fs r0)) then meansOf fs r0 else 3),.int .i64 0]))) _ _ _ _ _ _
  have g55':∀ r,Ev.Good Tryz.prog K 43 [.ptr [rds (r0::L'),Qlu (tru fs)],enc r] (.int .i64 (meansOf fs r)):=g55
  have hm:Qf8 ↑(List.countP (val r0) (tru fs)) ↑(tru fs).length=meansOf fs r0:=rfl;rw[hm];have hlen:((L'.length:Int)+1)=((r0::L').length:Nat):=by simp
  rw[hlen];have hmap:[IV.ptr (QeZ r0)]::List.map (fun r=>[IV.ptr (QeZ r)]) L'=(r0::L').map fun r=>[IV.ptr (QeZ r)]:=rfl
  rw[hmap];generalize r0::L'=L at *;refine QI (fun i=>[(4,.iv (.ptr [rds L,Qlu (tru fs)])),(6,.iv (.int .i64 (meansOf fs r0))),(28,.iv (rds L)),(29,.iv (.int .i64 (L.length:Nat))),(30,.iv (.int .i64 (i:Nat)))]) (fun _=>[]) L.length (fun i=>∀ a∈L.take i,meansOf fs a=meansOf fs r0) (by simp) ?_ ?_
  ·intro hq
   rw[Qa Go.Pf.c15_b0.eq_1];simp at hq |-;exact fun x hx hne=>absurd (hq x hx) hne
  ·intro i hi hq ih
   rw[Qa Go.Pf.c15_b0.eq_1];simp[hi];refine Qk (g55' L[i]) (by simp) ?_
   simp;refine ⟨fun e=>?_,fun e=>⟨by omega,?_⟩⟩
   ·intro hall
    exact absurd (hall _ (Qxx hi)) e
   ·have:=ih fun a ha=>by
     rw[Qxt hi] at ha;rcases QxI.1 ha with c | c
     ·exact hq a c
     ·rw[Qx9] at c;subst c;exact e
    simpa using this
 ·simp[h,pap,courtV,Qdu h,courtOf]
end
open Go.Pf (c25_ok c59_b0 c59_ok)
def QfY (fs:List Int) (L:List Rd) (i:Nat):Bool:=(tru fs).any fun t=>L.any fun r=>val r t != val r (t ^^^ 2 ^ i)
def Qiy (fs:List Int) (L:List Rd) (m:Nat):List Nat:=(List.range m).filter fun i=>decide (fs.getD i 0=3)&&QfY fs L i
def Qiz (s:W) (fs:List Int):List Nat:=Qiy fs (rs s fs) fs.length
def Qr3 (s:W) (fs:List Int):IV:=.tup [US (Qiz s fs),.int .i64 (err s fs)]
def clash (L:List Rd) (t:Nat):Bool:=match L with | []=>false | r0::L'=>(r0::L').any fun r=>val r t != val r0 t
def QcH (s:W) (fs:List Int):Option Nat:=(tru fs).find? (clash (rs s fs))
def QrB (t n:Nat):List Nat:=(List.range n).map fun i=>(t.testBit i).toNat
def QqE (s:W) (fs:List Int):Int:=if err s fs≠0 then err s fs else match QcH s fs with | some _=>0 | none=>3
def QqD (s:W) (fs:List Int):List Nat:=if err s fs≠0 then [] else match QcH s fs with | some t=>QrB t fs.length | none=>[]
def QuC (s:W) (fs:List Int):IV:=.tup [US (QqD s fs),.int .i64 (QqE s fs)]
def QuG (s:W) (fs:List Int):IV:=.tup [.bool (decide (err s fs=0)&&(QcH s fs).isNone),.int .i64 (err s fs)]
@[simp] def ob4 (id:Nat) (M:List Nat):Qh:=[(id,AO.arr 3 1 (emb (M.map fun n=>[.int .i64 (n:Nat)])) 0)]
section
variable {K:World->Prop} (hK:∀ w w',K w->Below w.heap.size w w'->K w')
include hK
variable (hS:∀ s:W,s.length<=1000->Ev.Good Tryz.prog K 71 [.str s,.str [32]] (strs (spl s)))
include hS
omit hS
end
theorem QfR (fs:List Int) (n:Nat):∀ m,okT fs n m=true↔∀ i,i<m->(n.testBit i=true->fs.getD i 0≠2)/\(n.testBit i=false->fs.getD i 0≠1)
 | 0=>by simp[okT]
 | m+1=>by
   simp only[okT,Qxs,QfR fs n m,QyN,QxO,decide_eq_true_eq];constructor
   ·rintro ⟨⟨h1,h2⟩,h3⟩ i hi
    rcases Nat.lt_succ_iff_lt_or_eq.1 hi with c | c
    ·exact h1 i c
    ·subst c
     exact ⟨fun hb=>by simpa[hb] using h2,fun hb=>by simpa[hb] using h3⟩
   ·intro h
    refine ⟨⟨fun i hi=>h i (by omega),?_⟩,?_⟩
    ·cases hb:n.testBit m with
     | false=>exact .inl rfl
     | true=>exact .inr ((h m (by omega)).1 hb)
    ·cases hb:n.testBit m with
     | false=>exact .inr ((h m (by omega)).2 hb)
     | true=>exact .inl rfl
theorem mem_tru {fs:List Int} (h:factsOk fs=true) (t:Nat):t∈tru fs↔t<2 ^ fs.length/\∀ i,i<fs.length->(t.testBit i=true->fs.getD i 0≠2)/\(t.testBit i=false->fs.getD i 0≠1):=by
 rw[Qo0 fs h];simp only[Qkj,Qfg,Qyp,Qyf,QfR]
section
variable {K:World->Prop} (hK:∀ w w',K w->Below w.heap.size w w'->K w')
include hK
def Quj (s:W) (fs:List Int):List W:=(rs s fs).map text
variable (hS:∀ s:W,s.length<=1000->Ev.Good Tryz.prog K 71 [.str s,.str [32]] (strs (spl s)))
include hS
end
def exW:W:=[110,111,116,32,97,32,97,110,100,32,98,32,111,114,32,99]
def exF:List Int:=[3,3,1]
def exT:W:=[40,40,110,111,116,32,40,97,32,97,110,100,32,98,41,41,32,111,114,32,99,41]
theorem ex_fit:fit exW:=by
 unfold fit;decide +kernel
theorem ex_err:err exW exF=0:=by decide +kernel
theorem ex_len:(rs exW exF).length=5:=by decide +kernel
theorem ex_means:(rdAt exW exF 1).map (meansOf exF)=some 2:=by decide +kernel
def QsK (v:List Int):Nat->Nat
 | 0=>0
 | i+1=>QsK v i+(v.getD i 0).toNat*2 ^ i
def QsJ (fs v:List Int):Bool:=decide (v.length=fs.length)&&v.all fun x=>decide (0<=x)&&decide (x<=1)
def Qxj (fs v:List Int):IV:=if QsJ fs v then .tup [.int .i64 (QsK v v.length:Nat),.bool (decide (QsK v v.length∈tru fs))] else .tup [.int .i64 0,.bool false]
section
variable {K:World->Prop} (hK:∀ w w',K w->Below w.heap.size w w'->K w')
include hK
variable (hS:∀ s:W,s.length<=1000->Ev.Good Tryz.prog K 71 [.str s,.str [32]] (strs (spl s)))
include hS
end
end Go.Pp
namespace Go.Pf
open Go Go.Ev Go.Proofs Go.RowKit
set_option maxRecDepth 8000
theorem qg:tE exM true=0/\(tL exM true).length=2:=by
 have h:(QV exM [] exM.levers).length=2:=by
  rw[Yw];decide +kernel
 have hne:QV exM [] exM.levers≠[]:=fun e=>by rw[e] at h;simp at h
 have h1:tE exM true=0:=by simp[tE,QqB,hne]
 refine ⟨h1,?_⟩;rw[(Qk8 h1).2.2.1];exact h
theorem QgG:Go.Pp.meansV Go.Pp.exW Go.Pp.exF 1=.tup [.int .i64 2,.int .i64 0]:=by
 have h:=Go.Pp.ex_means;rw[Qxu] at h;obtain ⟨r,h1,h2⟩:=h;simp[Go.Pp.meansV,h1,h2,Go.Pp.oneE_some h1]
section
variable {K:World->Prop} (hK:∀ w w',K w->Below w.heap.size w w'->K w') (hS:∀ s:Go.Pp.W,s.length<=1000->Ev.Good Tryz.prog K 71 [.str s,.str [32]] (Go.Pp.strs (Go.Pp.spl s)))
include hK hS
theorem Qs2:Ev.Good Tryz.prog K 8 [] (.bool true):=by
 refine Qb hK QtC (by simp) ?_
 have g28:=Go.Pp.good28 hK;have g24:=Go.Pp.good24 hK hS Go.Pp.exW Go.Pp.exF Go.Pp.ex_fit;rw[Go.Pp.ex_len,Go.Pp.ex_err] at g24;have g16:=Go.Pp.good16 hK hS Go.Pp.exW Go.Pp.exF 1 Go.Pp.ex_fit;have g29:=Qqo hK exM (by decide) (by decide) (fun _=>by decide +kernel)
 rw[qg.1,qg.2] at g29;simp;refine cK (by simpa using g28) ?_
 simp;refine cK (by simpa[Go.Pp.exW,Go.Pp.exF] using g24) ?_
 simp;refine cK (by simpa using g28) ?_
 simp;rw[QgG] at g16;refine cK (by simpa[Go.Pp.exW,Go.Pp.exF] using g16) ?_
 simp;refine cK (by simpa using Qqn hK) ?_
 simp;refine cK (by simpa using g29) ?_
 simp;refine cK (by simpa using Qql hK) ?_
 simp;refine cK (by simpa using QlQ hK) ?_
 simp;refine cK (by simpa using Go.Pp.good33 hK [1,2] [1,2]) ?_
 simp
end
abbrev Ask:=Int × Int × Int
@[simp] def asC (a:Ask):List IV:=[.int .i64 a.1,.int .i64 a.2.1,.int .i64 a.2.2]
@[simp] def Qj1 (l:List Ask):IV:=.sl 3 (l.map asC)
def QeB (a:Ask):Prop:=inR a.1 0 9999/\inR a.2.1 0 99/\inR a.2.2 0 999999999
instance (a:Ask):Decidable (QeB a):=by unfold QeB;infer_instance
noncomputable def QcG (m:Machine) (a:Ask):Int:=YG m a.1 a.2.1 a.2.2
def QkF (m:Machine) (s:Qd) (a:Ask):Bool:=Z3 m a.1 a.2.1 a.2.2 s
def tN (m:Machine) (s:Qd) (l:List Ask):Nat->Nat
 | 0=>0
 | i+1=>tN m s l i+if QkF m s (l.getD i (0,0,0)) then 2 ^ i else 0
theorem Qfm (m:Machine) (s:Qd) (l:List Ask):∀ i,tN m s l i<2 ^ i
 | 0=>by simp[tN]
 | i+1=>by
   have:=Qfm m s l i;rw[tN,Nat.pow_succ];split<;>omega
theorem Qko (m:Machine) (s:Qd) (l:List Ask):∀ i j,j<i->(tN m s l i).testBit j=QkF m s (l.getD j (0,0,0))
 | i+1,j,h=>by
   have h1:=Qfm m s l i;rw[tN];by_cases hj:j=i
   ·subst hj
    split
    ·rename_i h2
     rw[QyI,Nat.testBit_two_pow_add_eq,Nat.testBit_lt_two_pow h1,h2];rfl
    ·rename_i h2
     rw[Qyd,Nat.testBit_lt_two_pow h1];simpa using h2
   ·have ih:=Qko m s l i j (by omega)
    split
    ·rw[QyI,Nat.testBit_two_pow_add_gt (by omega),ih]
    ·rw[Qyd,ih]
theorem Qez (m:Machine) (w mn ld:Int):1<=YG m w mn ld/\YG m w mn ld<=3:=by
 unfold YG;split
 ·omega
 ·split<;>omega
theorem QgE {m:Machine} {s:Qd} (hs:s∈QV m [] m.levers) (a:Ask):(QkF m s a=true->QcG m a≠2)/\(QkF m s a=false->QcG m a≠1):=by
 unfold QcG YG QkF;refine ⟨fun h=>?_,fun h=>?_⟩
 ·split
  ·omega
  ·split
   ·rename_i h2
    rw[List.countP_eq_zero] at h2;exact absurd h (h2 s hs)
   ·omega
 ·split
  ·rename_i h2
   rw[List.countP_eq_zero] at h2;exact absurd (by simp[h]) (h2 s hs)
  ·split<;>omega
end Go.Pf
namespace Go.Pf
open Go Go.Ev Go.Proofs Go.RowKit Go.ChangeShapes Go.WideShapes Go.Proofs.YtmjdnhobojjjaaaGreatDoor
theorem own:ownKnob Tryz.prog.godebug=none:=by kernel_rfl
theorem Qf6:laidOutB Tryz.prog=true:=by kernel_rfl
noncomputable def U1 (os:Os):World:=World.laidAll Tryz.prog os Rows.topWordsRow.laid
theorem QiE (os:Os) (args:Array Value):laidMet Tryz.prog Rows.topWordsRow.laid ((U1 os).forCall (fun _ _=>0) ⟨#[],args,[]⟩).memory :=
 laidMet_laidAll args (by kernel_rfl) (by kernel_rfl)
def qu (es:List Sh) (row:List IV):Prop:=∀ (j:Nat) (s:Sh) (x:IV),es[j]?=some s->row[j]?=some x->V3 s x
abbrev shI:Sh:=Sh.int IntKind.i64
theorem Qku (n:Nat):∀ rows:List (List IV),(∀ row∈rows,row.length=n)->(∀ row∈rows,qu (List.replicate n shI) row)->∃ fs:List (List Int),rows=fs.map (fun l=>l.map fun x=>.int .i64 x)/\∀ l∈fs,l.length=n
 | [],_,_=>⟨[],rfl,by simp⟩
 | row::rows,hrl,hr=>by
   obtain ⟨fs,hfs,hl⟩:=Qku n rows (fun r hr'=>hrl r (by simp[hr'])) (fun r hr'=>hr r (by simp[hr']))
   have h1:=hrl row (by simp)
   have h2:=hr row (by simp)
   have key:∀ row:List IV,(∀ x∈row,V3 shI x)->∃ l:List Int,row=l.map (fun x=>.int .i64 x)/\l.length=row.length:=fun row=>by
    induction row with
    | nil=>exact fun _=>⟨[],rfl,rfl⟩
    | cons x r ih =>
      intro h;obtain ⟨l,e,hl⟩:=ih fun y hy=>h y (by simp[hy])
      have hx:=h x (by simp)
      cases hx with
      | int _ m _ _=>exact ⟨m::l,by simp[<- e],by simp[hl]⟩
   obtain ⟨l,e,hll⟩:=key row fun x hx=>by
    obtain ⟨k,hk,rfl⟩:=Qyb hx;exact h2 k shI row[k] (by simp[<- h1,hk]) (by simp[hk])
   exact ⟨l::fs,by simp[hfs,e],fun x hx=>by
    rcases Qx4.1 hx with rfl | hx
    ·omega
    ·exact hl x hx⟩
theorem qH {α:Type} {n:Nat} {c:α->List IV} (g:List Int->α) (hg:∀ l:List Int,l.length=n->c (g l)=l.map fun x=>.int .i64 x) {rows:List (List IV)} (h1:∀ row∈rows,row.length=n) (h2:∀ row∈rows,qu (List.replicate n shI) row):∃ fs:List α,rows=fs.map c:=by
 obtain ⟨fs,rfl,hl⟩:=Qku n rows h1 h2;refine ⟨fs.map g,?_⟩;rw[List.map_map];exact QyJ fun l h=>(hg l (hl l h)).symm
theorem QbU (rows:List (List IV)):(∀ row∈rows,row.length=3)->(∀ row∈rows,qu [shI,shI,shI] row)->∃ fs:List Zv,rows=fs.map leC :=
 qH (n:=3) (fun l=>⟨l.getD 0 0,l.getD 1 0,l.getD 2 0⟩) fun l h=>match l,h with
  | [_,_,_],_=>rfl
theorem QfD (rows:List (List IV)):(∀ row∈rows,row.length=4)->(∀ row∈rows,qu [shI,shI,shI,shI] row)->∃ fs:List Q7,rows=fs.map baC :=
 qH (n:=4) (fun l=>⟨l.getD 0 0,l.getD 1 0,l.getD 2 0,l.getD 3 0⟩) fun l h=>match l,h with
  | [_,_,_,_],_=>rfl
theorem QfE (rows:List (List IV)):(∀ row∈rows,row.length=3)->(∀ row∈rows,qu [shI,shI,shI] row)->∃ fs:List Ask,rows=fs.map asC :=
 qH (n:=3) (fun l=>⟨l.getD 0 0,l.getD 1 0,l.getD 2 0⟩) fun l h=>match l,h with
  | [_,_,_],_=>rfl
theorem QfC (rows:List (List IV)):(∀ row∈rows,row.length=1)->(∀ row∈rows,qu [shI] row)->∃ fs:List Int,rows=fs.map (fun n=>[IV.int .i64 n]) :=
 qH (n:=1) (fun l=>l.getD 0 0) fun l h=>match l,h with
  | [_],_=>rfl
theorem QsB:shp Tryz.prog 7 27=some [.sl 24 [shI,shI,shI],shI,shI,shI,.sl 32 [shI,shI,shI,shI],shI]:=by kernel_rfl
theorem Qst:∃ fs,Tryz.prog.underlying 27=some (.struct fs):=⟨_,Tryz.underlying27⟩
set_option maxRecDepth 100000 in
theorem Qdh {x:IV} (h:QbI Tryz.prog 27 x):∃ m,x=maV m:=by
 obtain ⟨ss,h1,h2⟩:=h;rw[QsB] at h1;injection h1 with h1
 subst h1;obtain ⟨fs',hu⟩:=Qst;rw[hu] at h2;obtain ⟨xs,rfl,hl,hf⟩:=h2
 match xs,hl with
 | [a0,a1,a2,a3,a4,a5],_ =>
   have h0:=hf 0 _ a0 rfl rfl;have h1:=hf 1 _ a1 rfl rfl;have h2:=hf 2 _ a2 rfl rfl;have h3:=hf 3 _ a3 rfl rfl;have h4:=hf 4 _ a4 rfl rfl;have h5:=hf 5 _ a5 rfl rfl;cases h0 with
   | sl _ _ rows0 _ _ hrl0 hr0 =>
   cases h1 with
   | int _ n1 _ _ =>
   cases h2 with
   | int _ n2 _ _ =>
   cases h3 with
   | int _ n3 _ _ =>
   cases h4 with
   | sl _ _ rows4 _ _ hrl4 hr4 =>
   cases h5 with
   | int _ n5 _ _ =>
   obtain ⟨l0,rfl⟩:=QbU rows0 hrl0 hr0;obtain ⟨l4,rfl⟩:=QfD rows4 hrl4 hr4;exact ⟨⟨l0,n1,n2,n3,l4,n5⟩,rfl⟩
theorem QsA:shp Tryz.prog 7 30=some [.sl 8 [shI],shI]:=by kernel_rfl
theorem Qss:∃ fs,Tryz.prog.underlying 30=some (.struct fs):=⟨_,Tryz.underlying30⟩
set_option maxRecDepth 100000 in
theorem Qdg {x:IV} (h:QbI Tryz.prog 30 x):∃ s:Qd,x=.agg (seC s):=by
 obtain ⟨ss,h1,h2⟩:=h;rw[QsA] at h1;injection h1 with h1
 subst h1;obtain ⟨fs',hu⟩:=Qss;rw[hu] at h2;obtain ⟨xs,rfl,hl,hf⟩:=h2
 match xs,hl with
 | [a0,a1],_ =>
   have h0:=hf 0 _ a0 rfl rfl;have h1:=hf 1 _ a1 rfl rfl;cases h0 with
   | sl _ _ rows0 _ _ hrl0 hr0 =>
   cases h1 with
   | int _ n1 _ _ =>
   obtain ⟨l0,rfl⟩:=QfC rows0 hrl0 hr0;exact ⟨⟨l0,n1⟩,rfl⟩
theorem Qsz:shp Tryz.prog 7 33=some [.str,.sl 24 [shI,shI,shI]]:=by kernel_rfl
theorem Qsr:∃ fs,Tryz.prog.underlying 33=some (.struct fs):=⟨_,Tryz.underlying33⟩
set_option maxRecDepth 100000 in
theorem QhO {x:IV} (h:QbI Tryz.prog 33 x):∃ (s:Go.Pp.W) (l:List Ask),x=.agg [.str s,Qj1 l]:=by
 obtain ⟨ss,h1,h2⟩:=h;rw[Qsz] at h1;injection h1 with h1
 subst h1;obtain ⟨fs',hu⟩:=Qsr;rw[hu] at h2;obtain ⟨xs,rfl,hl,hf⟩:=h2
 match xs,hl with
 | [a0,a1],_ =>
   have h0:=hf 0 _ a0 rfl rfl;have h1:=hf 1 _ a1 rfl rfl;cases h0 with
   | str s0 _ =>
   cases h1 with
   | sl _ _ rows1 _ _ hrl1 hr1 =>
   obtain ⟨l1,rfl⟩:=QfE rows1 hrl1 hr1;exact ⟨s0,l1,rfl⟩
set_option maxRecDepth 100000
theorem Qga {P:Program} {f:FuncId} {fn:Func} {s:ChangeSpec} {c:OpenClaim}
  (k1:c.wf (OpenSpec.ofChange s)=true) (k2:laidOutB P=true) (k3:mapsRowed P=true) (k4:fn.params.all (P.readableRec ·)=true) (k5:namedTie P c.named s.vars=true)
  (k6:(c.stops==[])=true) (k7:(P.stops==[])=true) (k8:(c.knobs==[])=true) (k9:(P.stopKnobs==[])=true)
  (k10:(c.inPlace==P.inPlace f)=true) (k11:(c.unfollowed==P.unfollowed f)=true) (k12:(c.recurses==P.recurses f)=true) (k13:(c.named==P.varsNamed f)=true)
  (k14:(c.maps==(fn.params.toList++s.plain.varTypes P).any (P.mapsRec ·))=true) (k15:(c.ifaces==(fn.params.toList++s.plain.varTypes P).any (P.ifacesRec ·))=true) (k16:(c.mapsOut==P.mapsAmong fn.resultTypes.toList)=true)
  (k17:(c.loops==(fn.params.toList++s.plain.varTypes P).any (P.loopsFrom ·))=true) (k17b:(c.wideKeys==(fn.params.toList++s.plain.varTypes P++fn.resultTypes.toList).any (P.wideKeysFrom ·))=true)
  (k18:s.vars.all (P.varReadable ·)=true) (k19:fn.resultTypes.all (fun t=>P.readableRec t&&decide (t<P.types.size))=true) (k20:(c.ifacesOut==fn.resultTypes.toList.any (P.ifacesRec ·))=true) (k21:(c.loopsOut==fn.resultTypes.toList.any (P.loopsFrom ·))=true)
  (k22:(c.plainKeys==P.plainKeys)=true) (k23:c.shortTexts.isNone=true) (k23b:P.stopsHeard=true) (k24:P.mayEnter=true) (k24b:(c.lifted==P.liftsFinal)=true) (k24c:(P.make==some c.make)=true)
  (k25:(c.kinds==(if c.domain.isEmpty then [] else fn.params.toList.map fun t=>match P.underlying t with | some (.int k)=>some k | _=>none))=true) (k26:(c.pinned==c.pinnedBy)=true)
  (k27:(c.veiled==(fn.params.toList++s.plain.varTypes P++fn.resultTypes.toList).any (P.veiledRec ·))=true) (k28:c.veiledFits P fn.params.toList (fn.params.toList++s.plain.varTypes P++fn.resultTypes.toList)=true):joinedFacts P f fn s c=true:=by
 simp only[joinedFacts,Qxs];exact ⟨⟨⟨⟨⟨⟨⟨⟨⟨⟨⟨⟨⟨⟨⟨⟨⟨⟨⟨⟨⟨⟨⟨⟨⟨⟨⟨⟨⟨⟨⟨k1,k2⟩,k3⟩,k4⟩,k5⟩,k6⟩,k7⟩,k8⟩,k9⟩,k10⟩,k11⟩,k12⟩,k13⟩,k14⟩,k15⟩,k16⟩,k17⟩,k17b⟩,k18⟩,k19⟩,k20⟩,k21⟩,k22⟩,k23⟩,k23b⟩,k24⟩,k24b⟩,k24c⟩,k25⟩,k26⟩,k27⟩,k28⟩
theorem Qte:mapsRowed Tryz.prog=true:=by kernel_rfl
theorem Qtd:(Tryz.prog.stops==[])=true:=by kernel_rfl
theorem Qtc:(Tryz.prog.stopKnobs==[])=true:=by kernel_rfl
theorem QmB:Tryz.prog.stopsHeard=true:=by kernel_rfl
theorem Qqy:Tryz.prog.mayEnter=true:=by kernel_rfl
theorem Qta:(Rows.topWordsRow.plainKeys==Tryz.prog.plainKeys)=true:=by kernel_rfl
theorem Y6:(Rows.topWordsRow.lifted==Tryz.prog.liftsFinal)=true:=by kernel_rfl
theorem Qs9:(Tryz.prog.make==some Rows.topWordsRow.make)=true:=by kernel_rfl
theorem Qqw:Tryz.pinned.checked.prog.looks []=false:=by kernel_rfl
end Go.Pf
namespace Go.Pf
open Go Go.Ev Go.Proofs Go.RowKit
variable {K:World->Prop} (hK:∀ w w',K w->Below w.heap.size w w'->K w')
set_option maxRecDepth 8000
include hK
omit hK
def QrP (p:Qv) (r:Int):Qv:=⟨p.chain,p.machine,p.trials,p.need,r⟩
def QwP (p:Qv) (i:Nat):Nat:=(List.range i).countP fun k=>decide (0<=(tr p k).broke)
include hK
omit hK
theorem Jy:∀ (ls:List Zv) (s:List Int),s.length=ls.length->(∀ i (h:i<ls.length) (h':i<s.length),inR s[i] ls[i].lo ls[i].hi)->s∈Qt ls
 | [],s,hl,_=>by
   have:s=[]:=QxC hl;subst this;simp[Qt]
 | l::ls,[],hl,_=>by cases hl
 | l::ls,x::s,hl,h=>by
   have h0:=h 0 (by simp) (by simp)
   simp only[List.getElem_cons_zero,inR] at h0
   have hr:=Jy ls s (by simpa using hl) (fun i h1 h2=>by
    have:=h (i+1) (by simpa using h1) (by simpa using h2)
    grind)
   simp only[Qt,acc,QxZ,QxR,Qyf];refine ⟨(x-l.lo).toNat,by omega,s,hr,?_⟩
   grind
theorem Qfv {m:Machine} {s:Qd} (h:U2 m s):s∈QV m [] m.levers:=by
 simp only[QV,Qyp,decide_eq_true_eq];refine ⟨?_,h⟩;obtain ⟨⟨h1,h2,h3⟩,_⟩:=h;simp only[inR] at h2;simp only[QK,QxZ,QxR,Qyf,Qyj];refine ⟨s.shorts,Jy _ _ h1 h3,(s.leak-m.llo).toNat,by omega,?_⟩
 have:m.llo+((s.leak-m.llo).toNat:Int)=s.leak:=by omega
 rw[this]
def Qt7 (k:Int) (b:Bool):Prop:=k=3\/(k=1/\b=true)\/(k=2/\b=false)
end Go.Pf
namespace Go.Pp
open Go Go.Ev Go.Proofs Go.RowKit
theorem agrees_means {fs:List Int} {t:Nat} (ht:t∈tru fs) (r:Rd):VU (meansOf fs r) (val r t)=true:=by
 unfold meansOf Qf8 cnt;have h1:(tru fs).countP (val r)=(tru fs).length↔_:=List.countP_eq_length (p:=val r) (l:=tru fs);have h2:(tru fs).countP (val r)=0↔_:=List.countP_eq_zero (p:=val r) (l:=tru fs);split
 ·rename_i h
  have h3:=h1.1 (by omega) t ht
  simp[VU,h3]
 ·split
  ·rename_i h
   have h3:=h2.1 (by omega) t ht
   simpa[VU] using h3
  ·simp[VU]
theorem agrees_court {fs:List Int} {t:Nat} (ht:t∈tru fs) {L:List Rd} {r:Rd} (hr:r∈L):VU (courtOf fs L) (val r t)=true:=by
 unfold courtOf
 match L,hr with
 | a::L',hr =>
   simp only;split
   ·rename_i h
    have h2:=of_decide_eq_true (Qx5.1 h r hr);rw[<- h2];exact agrees_means ht r
   ·simp[VU]
end Go.Pp
namespace Go.Pf
open Go Go.Ev Go.Proofs Go.RowKit
set_option maxRecDepth 8000
noncomputable def Xb (m:Machine) (l:List Ask):List Int:=l.map (QcG m)
theorem Qif {m:Machine} {s:Qd} (hs:s∈QV m [] m.levers) (l:List Ask) (hf:Go.Pp.factsOk (Xb m l)=true):tN m s l l.length∈Go.Pp.tru (Xb m l):=by
 rw[Go.Pp.mem_tru hf];refine ⟨by simpa[Xb] using Qfm m s l l.length,fun i hi=>?_⟩
 have hi':i<l.length:=by simpa[Xb] using hi
 rw[Qko m s l l.length i hi'];have h:=QgE hs l[i];simpa[Xb,hi'] using h
section
variable {K:World->Prop} (hK:∀ w w',K w->Below w.heap.size w w'->K w') (hS:∀ s:Go.Pp.W,s.length<=1000->Ev.Good Tryz.prog K 71 [.str s,.str [32]] (Go.Pp.strs (Go.Pp.spl s)))
include hK hS
theorem Qs5 (m:Machine) (t:Qd) (ws:Go.Pp.W) (asks:List Ask):Ev.Good Tryz.prog K 3 [maV m,.agg (seC t),.agg [.str ws,Qj1 asks]] (.bool true):=by
 refine Qb hK QtH (by simp) ?_
 have g8:=Qs2 hK hS;have g5:=Qs4 hK m;simp;refine cK (by simpa using g5) ?_
 by_cases h1:Qh8 m
 ·simp[h1]
  exact cK g8 (by simp)
 have hml:m.levers.length<=40/\m.bals.length<=40:=by
  unfold Qh8 at h1;omega
 have g6:=Qqg hK m (by omega) (by omega)
 simp[h1];refine cK (by simpa using g6) ?_
 by_cases h2:OkM m
 case neg =>
  simp[h2];exact cK g8 (by simp)
 have g7:=Qs3 hK m t h2;simp[h2];by_cases h3:t.shorts.length<=40
 case neg =>
  have h3':(40:Int)<t.shorts.length:=by omega
  simp[h3'];refine fun _=>⟨fun h=>by omega,?_⟩
  exact cK g8 (by simp)
 have h3':¬ (40:Int)<t.shorts.length:=by omega
 simp[h3'];refine fun _ _=>cK (by simpa using g7) ?_
 by_cases h4:U2 m t
 case neg =>
  simp[h4];exact cK g8 (by simp)
 simp[h4];by_cases h5:asks.length<=4
 case neg =>
  have h5':(4:Int)<asks.length:=by omega
  simp[h5'];refine fun _=>⟨fun h=>by omega,?_⟩
  exact cK g8 (by simp)
 have h5':¬ (4:Int)<asks.length:=by omega
 simp[h5'];by_cases h6:ws.length<=100
 case neg =>
  have h6':(100:Int)<ws.length:=by omega
  simp[h6'];exact fun _ _=>⟨cK g8 (by simp),fun h=>by omega⟩
 have h6':¬ (100:Int)<ws.length:=by omega
 simp[h6'];intro _ _ _;have hsm:t∈QV m [] m.levers:=Qfv h4
 have hEm:∀ a:Ask,QeB a->tE m (decide (inR a.1 0 9999/\inR a.2.1 0 99/\inR a.2.2 0 999999999))=0:=fun a ha=>by
  have hne:QV m [] m.levers≠[]:=List.ne_nil_of_mem hsm;have ha':decide (inR a.1 0 9999/\inR a.2.1 0 99/\inR a.2.2 0 999999999)=true:=decide_eq_true ha;rw[ha'];simp[tE,h2,hne]
 have hsets:OkM m->sets m m.levers.length<=1000000:=fun _=>by
  by_cases h0:m.levers.length=0
  ·rw[h0]
   have h7:=h2.leak;have h8:=h2.lhi;simp only[inR] at h7;simp[sets,QL];omega
  ·by_cases h7:150<sets m m.levers.length
   ·exact absurd (.inr (.inr ⟨h2,m.levers.length,by omega,Qxw _,h7⟩)) h1
   ·omega
 refine Vf (fun i=>[(3,.iv (.ptr [Zm m.levers,.int .i64 m.water,.int .i64 m.llo,.int .i64 m.lhi,Y8 m.bals,.int .i64 m.wrong])),(4,.iv (.ptr (seC t))),(5,.iv (.ptr [.str ws,Qj1 asks])),(7,.loc 7 0),(8,.iv (.int .i64 (tN m t asks i:Nat))),(9,.iv (.int .i64 (i:Nat)))])
  (fun i=>[(7,.box [.iv (.str ws),.aref 8001 i]),(8001,.arr 3 1 (emb (WI (Xb m (asks.take i)))) 0)]) asks.length (fun i=>∀ a∈asks.take i,QeB a) (by simp) ?_ ?_ (by simp[tN]) (by simp[Xb,WI,emb])
 ·intro hq
  rw[Qa Qm3.eq_1];have hIl:(WI (Xb m asks)).length=asks.length:=by simp[WI,Xb]
  have hF:=Qif (m:=m) (s:=t) hsm asks;have hNl:=Qfm m t asks asks.length;have hp4:2 ^ asks.length<=2 ^ 4:=QxW (by omega) h5
  simp[QxH,hIl];generalize Xb m asks=F at *;generalize tN m t asks asks.length=N at *;have g12:=Go.Pp.good12 hK ws F
  (repeat' first | omega | (with_reducible apply And.intro) | intro _)
  refine cK (by simpa[WI] using g12) ?_
  by_cases h7:Go.Pp.farB ws F=true
  ·simp[h7]
   exact cK g8 (by simp)
  have h7':Go.Pp.farB ws F=false:=by simpa using h7
  have hfit:=Go.Pp.fit_of_far h7';have g13:=Go.Pp.good13 hK ws F hfit;simp[h7'];refine cK (by simpa[WI] using g13) ?_
  by_cases h8:Go.Pp.err ws F=0
  case neg =>
   have g14:=Go.Pp.good14 hK hS ws F hfit;simp[h8];refine cK (by simpa[WI] using g14) ?_
   simp;exact cK g8 (by simp)
  have g15:=Go.Pp.good15 hK hS ws F hfit;simp[h8];refine cK (by simpa[WI,Go.Pp.courtV] using g15) ?_
  simp[h8];have hNt:=hF (Go.Pp.err_ok h8).1;refine Vf (fun i=>[(7,.loc 7 0),(8,.iv (.int .i64 (N:Nat))),(13,.iv (Go.Pp.rrs (Go.Pp.rs ws F))),(15,.iv (.int .i64 (Go.Pp.courtOf F (Go.Pp.rs ws F)))),(17,.iv (.int .i64 (i:Nat)))]) (fun _=>[(7,.box [.iv (.str ws),.iv (.sl 1 (WI F))])]) (Go.Pp.rs ws F).length (fun _=>True) trivial ?_ ?_ (by simp) (by simp)
  ·intro _
   rw[Qa Qm2.eq_1];simp
   (repeat' first | omega | (with_reducible apply And.intro) | intro _)
   exact cK g8 (by simp)
  ·intro i hi _ ih
   rw[Qa Qm2.eq_1];have hi':(i:Int)<((Go.Pp.rs ws F).length:Int):=by omega
   have hrl:=Go.Pp.rs_len ws F;have hrd:Go.Pp.rdAt ws F (i:Int)=some (Go.Pp.rs ws F)[i]:=by simp[Go.Pp.rdAt,hi]
   have g16:=Go.Pp.good16 hK hS ws F (i:Int) hfit;have e16:Go.Pp.meansV ws F (i:Int)=.tup [.int .i64 (Go.Pp.meansOf F (Go.Pp.rs ws F)[i]),.int .i64 0]:=by simp[Go.Pp.meansV,hrd,Go.Pp.oneE_some hrd]
   rw[e16] at g16;obtain ⟨r,hr⟩:∃ r,(Go.Pp.rs ws F)[i]=r:=⟨_,rfl⟩
   rw[hr] at g16;have hrm:r∈Go.Pp.rs ws F:=hr▸Qxx hi;have g17:=Go.Pp.good17 hK (Go.Pp.text r) (Go.Pp.tset r) N (Go.Pp.tset_lt r) (by omega)
   rw[Go.Pp.tset_bit r N (by omega)] at g17
   have g18:=Go.Pp.good18 hK (Go.Pp.meansOf F r) (Go.Pp.val r N);rw[Go.Pp.agrees_means hNt r] at g18;have g18c:=Go.Pp.good18 hK (Go.Pp.courtOf F (Go.Pp.rs ws F)) (Go.Pp.val r N);rw[Go.Pp.agrees_court hNt hrm] at g18c;simp[hi,hi']
   (repeat' first | omega | (with_reducible apply And.intro) | intro _)
   refine cK (by simpa[WI] using g16) ?_
   simp[hi,hi',hr];refine cK (by simpa using g17) ?_
   simp;refine cK (by simpa using g18) ?_
   simp;refine cK (by simpa using g18c) ?_
   simp at ih |-;exact ⟨by omega,ih⟩
 ·intro i hi hq ih
  rw[Qa Qm3.eq_1];have hi':(i:Int)<(asks.length:Int):=by omega
  have htk:asks.take (i+1)=asks.take i++[asks[i]]:=Qxt hi;have hgd:asks.getD i (0,0,0)=asks[i]:=by simp[hi]
  have htN:tN m t asks (i+1)=tN m t asks i+if QkF m t asks[i] then 2 ^ i else 0:=by rw[tN,hgd]
  have htl:=Qfm m t asks i;have hp4:2 ^ i<=2 ^ 3:=QxW (by omega) (show i<=3 by omega)
  have hfl:(Xb m (asks.take i)).length=i:=by simp[Xb];omega
  have hfa:Xb m (asks.take (i+1))=Xb m (asks.take i)++[QcG m asks[i]]:=by
   rw[htk];unfold Xb;rw[QxV];rfl
  rw[hfa,QdO,htN] at ih;rw[htk] at ih;generalize Xb m (asks.take i)=F at *;generalize tN m t asks i=N at *;obtain ⟨a,hae⟩:∃ a,asks[i]=a:=⟨_,rfl⟩
  rw[hae] at ih;have g9:=Qp1 hK a.1 a.2.1 a.2.2;have e9:decide (inR a.1 0 9999/\inR a.2.1 0 99/\inR a.2.2 0 999999999)=decide (QeB a):=decide_eq_decide.2 Iff.rfl;rw[e9] at g9;simp[hi,hi',hae]
  (repeat' first | omega | (with_reducible apply And.intro) | intro _)
  refine cK (by simpa using g9) ?_
  by_cases ha:QeB a
  case neg =>
   simp[ha];exact cK g8 (by simp)
  have ha':inR a.1 0 9999/\inR a.2.1 0 99/\inR a.2.2 0 999999999:=ha
  have ih2:=ih (fun b hb=>by
   rcases QxI.1 hb with h | h
   ·exact hq b h
   ·rw[Qx9] at h
    subst h;exact ha)
  have g10:=Qqr hK m a.1 a.2.1 a.2.2 (by omega) (by omega) hsets
  rw[hEm a ha] at g10;have g11:=Qqq hK m t a.1 a.2.1 a.2.2 h2 h4.1 ha'.1 ha'.2.1 ha'.2.2;have hkb:=Qez m a.1 a.2.1 a.2.2;have hka:YG m a.1 a.2.1 a.2.2=QcG m a:=rfl;have hhit:decide (a.2.2*den t<=num m t a.1 a.2.1)=QkF m t a:=rfl;rw[hhit] at g11;rw[hka] at hkb g10;generalize QcG m a=k at *;simp[ha];refine cK (by simpa using g10) ?_
  have k1:¬ k<1:=by omega
  have k2:¬ 3<k:=by omega
  simp[k1,k2,Qbe,hfl];refine ⟨by omega,cK (by simpa using g11) ?_⟩
  cases hh:QkF m t a
  ·rw[hh] at ih2
   simp at ih2 |-;exact ⟨by omega,ih2⟩
  ·rw[hh] at ih2
   have hsh:∀ j:Nat,j<4->IntKind.wrap .u64 (j:Int)=j/\Qii .i64 1 (j:Int)=((2 ^ j:Nat):Int):=by decide
   obtain ⟨e1,e2⟩:=hsh i (by omega)
   have e4:((N+2 ^ i:Nat):Int)=(N:Int)+((2 ^ i:Nat):Int):=by omega
   rw[if_pos rfl,e4] at ih2;generalize 2 ^ i=X at *;simp[e1,e2] at ih2 |-;exact ⟨by omega,by omega,ih2⟩
end
abbrev KW:=Go.Pp.KW
theorem Qw0 (m:Machine) (t:Qd) (ws:Go.Pp.W) (asks:List Ask):Ev.Good Tryz.prog KW 3 [maV m,.agg (seC t),.agg [.str ws,Qj1 asks]] (.bool true):=Qs5 Go.Pp.hKW Go.Pp.hSW m t ws asks
end Go.Pf
namespace Go.Pf
open Go Go.Ev Go.Proofs Go.RowKit Go.ChangeShapes Go.WideShapes Go.Proofs.YtmjdnhobojjjaaaGreatDoor
set_option maxRecDepth 100000
theorem Qbk {P:Program} (h:P.funcs.any Func.goes=false) (f:FuncId):P.goes f=false:=by
 unfold Program.goes;rw[h,Bool.and_false,Bool.or_false,List.any_eq_false];intro g _;cases hg:P.funcs[g]? with
 | none=>simp
 | some fn =>
   have:=Array.any_eq_false'.1 h fn (Array.mem_of_getElem? hg);simpa using this
theorem Qcy {P:Program} (h:P.funcs.any Func.goes=false) (c:OpenClaim):false=c.goesBy P:=by
 have h1:∀ o:Option FuncId,o.any P.goes=false:=fun o=>by cases o<;>simp[Qbk h]
 have h2:P.inits.toList.any P.goes=false:=by
  rw[List.any_eq_false];intro f _;simp[Qbk h]
 unfold OpenClaim.goesBy Program.goesAt Program.goesFrom;rw[h1,h2];cases c.start<;>rfl
theorem Qtb:Tryz.prog.funcs.any Func.goes=false:=by kernel_rfl
end Go.Pf
