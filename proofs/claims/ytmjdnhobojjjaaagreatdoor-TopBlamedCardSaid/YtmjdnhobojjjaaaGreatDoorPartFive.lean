/- slices.Insert at the cables, from the kit's contracts at []int. -/
import Derived.Test.YtmjdnhobojjjaaaGreatDoorProg
import Derived.KernelRfl
import Derived.Shelf.Spec.SlicesInsertGrow
import Derived.Test.YtmjdnhobojjjaaaGreatDoorPartFour
import Derived.Shelf.SlIterI.Nil
import Derived.Shelf.SortM.Plain
import Derived.Shelf.SortM.SortNone
import Derived.Ground.GgzProg
import Derived.Ground.SlgmProg
import Derived.Test.YtmjdnhobojjjaaaGreatDoorPartThree
import Derived.Test.YtmjdnhobojjjaaaGreatDoorCards
import Derived.Test.YtmjdnhobojjjaaaGreatDoorTie
import Derived.ProofKit
import Derived.OpenShut
import Derived.Lay
import Derived.Lib.LaidTab
import Derived.Lib.LaidIn
import Derived.JoinedCond
import Derived.Shelf.SlicesE.Compact
set_option linter.all false
namespace Go.Pf
open Go Go.Proofs Go.Shelf Go.RowKit Go.Lib
set_option linter.unusedVariables false
set_option linter.unusedSimpArgs false
theorem i3z:(Tryz.prog.info? 3).map (fun i=>(i.zero,i.size,i.bytes))=some (some (Value.int IntKind.i64 0),1,8):=by kernel_rfl
theorem Qfc:Tryz.prog.follows .mixedOrders=true:=by kernel_rfl
set_option maxHeartbeats 4000000 in
set_option maxRecDepth 100000 in
theorem WZ (b off n c i vb voff m vc:Nat) (cs vs:List Value) (w:World) (hi:i<n) (hm:0<m) (hroom:n+m<=c) (hc63:c<=9223372036854775807) (hvb:vb≠b)
  (hcl:cs.length=n) (hvl:vs.length=m)
  (hcs:∀ j v,cs[j]?=some v->w.cell? ⟨b,off+j,none⟩=some v) (hsp:∀ j,j<n+m->(w.cell? ⟨b,off+j,none⟩).isSome=true) (hfz:∀ j,j<n+m->w.frozen? ⟨b,off+j,none⟩=false)
  (hvs:∀ j v,vs[j]?=some v->w.cell? ⟨vb,voff+j,none⟩=some v) (h1c:∀ v∈cs,v.oneCell'=true) (h1v:∀ v∈vs,v.oneCell'=true)
  (tA tB:TypeId) (kA kB:Nat) (hsa:w.shape? vb=some (tA,kA)) (hsb:w.shape? b=some (tB,kB)) (hkB:kB≠0) (hfa:w.frozen? ⟨vb,voff,none⟩=false) (hfe:w.frozen? ⟨vb,kA,none⟩=false) :
  Calls Tryz.prog 240 #[.slice (some ⟨b,off,none⟩) n c,.int .i64 i,.slice (some ⟨vb,voff,none⟩) m vc] w fun e w' =>
   e=.returned (.slice (some ⟨b,off,none⟩) (n+m) c)/\w'=(w.drew.setCells b (off+(i+m)) (cs.drop i)).setCells b (off+i) vs:=by
 have t0:=Tryz.underlying0;have a0:=Tryz.isAgg0;have z0:=Tryz.sizeOf0;have v0:=Tryz.zeroValue0;have t3:=Tryz.underlying3;have a3:=Tryz.isAgg3;have z3:=Tryz.sizeOf3;have v3:=Tryz.zeroValue3;have t4:=Tryz.underlying4;have a4:=Tryz.isAgg4;have z4:=Tryz.sizeOf4;have v4:=Tryz.zeroValue4;have t186:=Tryz.underlying253;have a186:=Tryz.isAgg253;have z186:=Tryz.sizeOf253;have v186:=Tryz.zeroValue253;have t74:=Tryz.underlying28;have a74:=Tryz.isAgg28;have z74:=Tryz.sizeOf28;have v74:=Tryz.zeroValue28;have u0:=run_underlying t0;have u3:=run_underlying t3;have u4:=run_underlying t4;have u186:=run_underlying t186;have u74:=run_underlying t74;have hz1:¬ ((m:Int)=0):=by omega
 have hz2:¬ ((i:Int)=(n:Int)):=by omega
 have hsz:(Tryz.prog.info? 3).map (·.size)=some 1:=by
  obtain ⟨i0,hi0,h0,h1,h2⟩:=info_parts i3z
  grind
 have hov:∀ lb cb,(callFunc 244 #[.slice (some ⟨vb,voff,none⟩) m vc,.slice (some ⟨b,off+(i+m),none⟩) lb cb]).run Tryz.prog w=.ok (.value (.bool false)) w:=fun lb cb=>by
  rw[run_callFunc_extern Tryz.func244 (by kernel_rfl) (by kernel_rfl) (by kernel_rfl) (e:=Extern.SlicesOverlaps.overlaps #[28,28] #[4]) (by kernel_rfl),
   Lib.run_overlaps_apart w 28 4 3 t74 1 z3 ⟨vb,voff,none⟩ ⟨b,off+(i+m),none⟩ m vc lb cb hvb tA tB kA kB hsa hsb hkB hfa hfe]
  rfl
 have hdl:(cs.drop i).length=n-i:=by grind
 have mixed:=Qfc;have hw1:IntKind.i64.wrap ((i:Int)+(m:Int))=(i:Int)+(m:Int):=by rw[IntKind.wrap_i64];omega
 have hb1:(0:Int)<=(i:Int)+(m:Int):=by omega
 have hin:i<=n:=by omega
 have htn:((i:Int)+(m:Int)).toNat=i+m:=by omega
 have hb2:¬ (c=i+m):=by omega
 have hb3:(i:Int)<=(n:Int)+(m:Int):=by omega
 have hb4:¬ (c=i):=by omega
 have hcp1:∀ ty dc sc,(Builtin.copy_ #[253,253] ty #[.slice (some ⟨b,off+(i+m),none⟩) (n+m-(i+m)) dc,.slice (some ⟨b,off+i,none⟩) (n+m-i) sc]).run Tryz.prog w.drew=.ok (goInt (cs.drop i).length) (w.drew.setCells b (off+(i+m)) (cs.drop i)):=fun ty dc sc =>
  run_copy_cells w.drew _ _ ty 3 b (off+(i+m)) (n+m-(i+m)) dc ⟨b,off+i,none⟩ (n+m-i) sc (cs.drop i) t186 hsz (by grind)
   (fun j v hj=>by rw[Addr.add_lit,Qz6];exact hcs (i+j) v (by grind))
   (fun j hj=>by rw[Qz6];exact hsp _ (by omega)) (fun j hj=>by rw[Qz6];exact hfz _ (by omega)) (fun v hv=>h1c v (QAc hv))
 obtain ⟨W1,hW1⟩:∃ W1,W1=w.drew.setCells b (off+(i+m)) (cs.drop i):=⟨_,rfl⟩
 have hsp1:∀ k,k<n+m->(W1.cell? ⟨b,off+k,none⟩).isSome=true:=fun k hk=>by
  rw[hW1];exact isSome_setCells b _ _ _ (fun j hj=>by rw[Qz6];exact hsp _ (by omega)) _ (hsp k hk)
 have hcp2:∀ (W:World),(∀ x,W.cell? x=W1.cell? x)->(∀ x,W.frozen? x=W1.frozen? x)->∀ ty dc,(Builtin.copy_ #[253,28] ty #[.slice (some ⟨b,off+i,none⟩) (n+m-i) dc,.slice (some ⟨vb,voff,none⟩) m vc]).run Tryz.prog W=.ok (goInt vs.length) (W.setCells b (off+i) vs):=fun W hWc hWf ty dc =>
  run_copy_cells W _ _ ty 3 b (off+i) (n+m-i) dc ⟨vb,voff,none⟩ m vc vs t186 hsz (by grind)
   (fun j v hj=>by
     rw[Addr.add_lit,hWc,hW1,World.cell?_setCells_out b _ _ _ _ (fun h _=>absurd h hvb)]
     exact hvs j v hj)
   (fun j hj=>by rw[hWc,Qz6];exact hsp1 _ (by omega)) (fun j hj=>by rw[hWf,hW1,World.frozen?_setCells,Qz6];exact hfz _ (by omega)) h1v
 rw[<- hW1] at hcp1
 go_enter Tryz.func240,Tryz.ntmps240
 go_wp2_with (simp only[hov])
 go_region_law_o (refine step_copy_runI rfl _ _ 253 253 rfl _ _ (by simp[Act.eval,Act.put]) (by simp[Act.eval,Act.put]) (hcp1 _ _ _) ?_)
 go_wp2_with (at_builtin;refine wpList_copy_runI _ rfl _ _ 253 28 rfl _ _ rfl rfl (hcp2 _ (fun _=>rfl) (fun _=>rfl) _ _) ?_)
 go_ret
 first | exact ⟨rfl,rfl⟩ | exact ⟨rfl,by rw[hW1]⟩
set_option maxHeartbeats 4000000 in
set_option maxRecDepth 100000 in
theorem Vo (b off n c vb voff m vc:Nat) (vs:List Value) (w:World) (hm:0<m) (hroom:n+m<=c) (hc63:c<=9223372036854775807)
  (hvl:vs.length=m) (hsp:∀ j,j<m->(w.cell? ⟨b,off+n+j,none⟩).isSome=true) (hfz:∀ j,j<m->w.frozen? ⟨b,off+n+j,none⟩=false)
  (hvs:∀ j v,vs[j]?=some v->w.cell? ⟨vb,voff+j,none⟩=some v) (h1v:∀ v∈vs,v.oneCell'=true) :
  Calls Tryz.prog 240 #[.slice (some ⟨b,off,none⟩) n c,.int .i64 n,.slice (some ⟨vb,voff,none⟩) m vc] w fun e w' =>
   e=.returned (.slice (some ⟨b,off,none⟩) (n+m) c)/\w'=w.setCells b (off+n) vs:=by
 have t0:=Tryz.underlying0;have a0:=Tryz.isAgg0;have z0:=Tryz.sizeOf0;have v0:=Tryz.zeroValue0;have t3:=Tryz.underlying3;have a3:=Tryz.isAgg3;have z3:=Tryz.sizeOf3;have v3:=Tryz.zeroValue3;have t4:=Tryz.underlying4;have a4:=Tryz.isAgg4;have z4:=Tryz.sizeOf4;have v4:=Tryz.zeroValue4;have t186:=Tryz.underlying253;have a186:=Tryz.isAgg253;have z186:=Tryz.sizeOf253;have v186:=Tryz.zeroValue253;have t74:=Tryz.underlying28;have a74:=Tryz.isAgg28;have z74:=Tryz.sizeOf28;have v74:=Tryz.zeroValue28;have u0:=run_underlying t0;have u3:=run_underlying t3;have u4:=run_underlying t4;have u186:=run_underlying t186;have u74:=run_underlying t74;have mixed:=Qfc;have hz1:¬ ((m:Int)=0):=by omega
 have hsrc:Src Tryz.prog 1 28 (.slice (some ⟨vb,voff,none⟩) m vc) m vs w:=Src.ofSlice w t74 ⟨vb,voff,none⟩ m vc vs (by omega) (fun j u hj=>by rw[Addr.add_lit];exact hvs j u hj) h1v
 go_enter Tryz.func240,Tryz.ntmps240
 go_wp2_with (at_builtin;refine wpList_append_room1 _ rfl _ _ 253 28 rfl 3 _ _ t186 i3z b off n c rfl _ rfl m vs hsrc hroom (by grind) (by grind) ?_)
 go_ret
 exact ⟨rfl,rfl⟩
set_option maxHeartbeats 4000000 in
set_option maxRecDepth 100000 in
theorem Vp (base:Option Addr) (n c vb voff m vc:Nat) (cs vs:List Value) (w:World) (hm:0<m) (hnc:n<=c) (hroom:c<n+m) (hbig:(n+m)*8<=140737488355328)
  (hcl:cs.length=n) (hvl:vs.length=m) (hnil:base=none->n=0)
  (hcs:∀ a,base=some a->∀ j v,cs[j]?=some v->w.cell? (a.add j)=some v)
  (hvs:∀ j v,vs[j]?=some v->w.cell? ⟨vb,voff+j,none⟩=some v) (h1v:∀ v∈vs,v.oneCell'=true) :
  Calls Tryz.prog 240 #[.slice base n c,.int .i64 n,.slice (some ⟨vb,voff,none⟩) m vc] w fun e w' =>
   e=.returned (.slice (some ⟨w.heap.size,0,none⟩) (n+m) (grownCap w (n+m) c 3)) /\
   w'=w.drew.alloc (.cells ((cs++vs).toArray++Builtin.zeroCells (Value.int .i64 0).cells (grownCap w (n+m) c 3-(n+m))) 3):=by
 have t0:=Tryz.underlying0;have a0:=Tryz.isAgg0;have z0:=Tryz.sizeOf0;have v0:=Tryz.zeroValue0;have t3:=Tryz.underlying3;have a3:=Tryz.isAgg3;have z3:=Tryz.sizeOf3;have v3:=Tryz.zeroValue3;have t4:=Tryz.underlying4;have a4:=Tryz.isAgg4;have z4:=Tryz.sizeOf4;have v4:=Tryz.zeroValue4;have t186:=Tryz.underlying253;have a186:=Tryz.isAgg253;have z186:=Tryz.sizeOf253;have v186:=Tryz.zeroValue253;have t74:=Tryz.underlying28;have a74:=Tryz.isAgg28;have z74:=Tryz.sizeOf28;have v74:=Tryz.zeroValue28;have u0:=run_underlying t0;have u3:=run_underlying t3;have u4:=run_underlying t4;have u186:=run_underlying t186;have u74:=run_underlying t74;have mixed:=Qfc;obtain ⟨i0,hi0,hz0,hzs,hzb⟩:=info_parts i3z;have hz1:¬ ((m:Int)=0):=by omega
 have hsrc:Src Tryz.prog i0.size 28 (.slice (some ⟨vb,voff,none⟩) m vc) m vs w:=by
  rw[hzs];exact Src.ofSlice w t74 ⟨vb,voff,none⟩ m vc vs (by omega) (fun j u hj=>by rw[Addr.add_lit];exact hvs j u hj) h1v
 have hold:(Builtin.firstCells i0.size n (.slice base n c)).run Tryz.prog w.drew=.ok cs.toArray w.drew:=by
  rw[hzs];cases base with
  | none =>
    have h0:=hnil rfl;subst h0;rw[List.length_eq_zero_iff.1 hcl];exact run_firstCells_none w.drew 1 0 0 c
  | some a=>exact run_firstCells_some w.drew 1 n a n c cs (by omega) (fun j v hj=>hcs a rfl j v hj)
 have hrun:∀ ty,(Builtin.append_ #[253,28] ty #[.slice base n c,.slice (some ⟨vb,voff,none⟩) m vc]).run Tryz.prog w=_:=fun ty =>
  run_append_grow_src w 253 28 ty 3 i0 _ t186 hi0 hz0 base n c cs hold _ m vs hsrc hroom (by omega) (by rw[hzb];exact growslice_fits hroom hbig)
 go_enter Tryz.func240,Tryz.ntmps240
 cases base with
 | none =>
   have h0:=hnil rfl;subst h0
   go_wp2_with (at_builtin;refine Lib.wpList_append_run _ rfl _ _ _ _ rfl _ _ rfl rfl _ _ (hrun _) ?_)
   go_ret
   exact ⟨rfl,rfl⟩
 | some a =>
   obtain ⟨ab,ao,asp⟩:=a
   go_wp2_with (at_builtin;refine Lib.wpList_append_run _ rfl _ _ _ _ rfl _ _ rfl rfl _ _ (hrun _) ?_)
   all_goals (go_ret;exact ⟨rfl,rfl⟩)
set_option maxHeartbeats 4000000 in
set_option maxRecDepth 100000 in
theorem qG (b off n c i vb voff m vc:Nat) (cs vs:List Value) (w:World) (hi:i<n) (hm:0<m) (hnc:n<=c) (hroom:c<n+m) (hbig:(n+m)*8<=140737488355328)
  (hcl:cs.length=n) (hvl:vs.length=m)
  (hcs:∀ j v,cs[j]?=some v->w.cell? ⟨b,off+j,none⟩=some v)
  (hvs:∀ j v,vs[j]?=some v->w.cell? ⟨vb,voff+j,none⟩=some v) (h1c:∀ v∈cs,v.oneCell'=true) (h1v:∀ v∈vs,v.oneCell'=true) :
  Calls Tryz.prog 240 #[.slice (some ⟨b,off,none⟩) n c,.int .i64 i,.slice (some ⟨vb,voff,none⟩) m vc] w fun e w' =>
   e=.returned (.slice (some ⟨w.heap.size,0,none⟩) (n+m) (grownCap w (n+m) c 3)) /\
   w'=(((w.alloc (.cells ((cs.take i).toArray++Builtin.zeroCells (Value.int .i64 0).cells (n+m-i)++Builtin.zeroCells (Value.int .i64 0).cells (grownCap w (n+m) c 3-(n+m))) 3)).drew.setCells w.heap.size i vs).drew).setCells w.heap.size (i+m) (cs.drop i):=by
 have t0:=Tryz.underlying0;have a0:=Tryz.isAgg0;have z0:=Tryz.sizeOf0;have v0:=Tryz.zeroValue0;have t3:=Tryz.underlying3;have a3:=Tryz.isAgg3;have z3:=Tryz.sizeOf3;have v3:=Tryz.zeroValue3;have t4:=Tryz.underlying4;have a4:=Tryz.isAgg4;have z4:=Tryz.sizeOf4;have v4:=Tryz.zeroValue4;have t186:=Tryz.underlying253;have a186:=Tryz.isAgg253;have z186:=Tryz.sizeOf253;have v186:=Tryz.zeroValue253;have t74:=Tryz.underlying28;have a74:=Tryz.isAgg28;have z74:=Tryz.sizeOf28;have v74:=Tryz.zeroValue28;have u0:=run_underlying t0;have u3:=run_underlying t3;have u4:=run_underlying t4;have u186:=run_underlying t186;have u74:=run_underlying t74;have mixed:=Qfc;obtain ⟨i0,hi0,hz0,hzs,hzb⟩:=info_parts i3z;have hz1:¬ ((m:Int)=0):=by omega
 have hz2:¬ ((i:Int)=(n:Int)):=by omega
 have hz3:(c:Int)<(n:Int)+(m:Int):=by omega
 have hsz:(Tryz.prog.info? 3).map (·.size)=some 1:=by grind
 have hbw:b<w.heap.size:=block_lt_of_cell (hcs 0 _ (Qzk (by omega)))
 have hvw:vb<w.heap.size:=block_lt_of_cell (hvs 0 _ (Qzk (by omega)))
 have hkk:(n:Int)+(m:Int)-(i:Int)=((n+m-i:Nat):Int):=by omega
 have hik:i+(n+m-i)=n+m:=by omega
 have hold:(Builtin.firstCells i0.size i (.slice (some ⟨b,off,none⟩) i c)).run Tryz.prog w.drew=.ok (cs.take i).toArray w.drew:=by
  rw[hzs]
  exact run_firstCells_some w.drew 1 i ⟨b,off,none⟩ i c (cs.take i) (by grind) (fun j v hj=>by
   rw[Addr.add_lit];rw[QzR] at hj;split at hj
   ·exact hcs j v hj
   ·cases hj)
 have hrz:∀ ty,(Builtin.append_ #[253,3] ty #[.slice (some ⟨b,off,none⟩) i c,.int .i64 ((n:Int)+(m:Int)-(i:Int))]).run Tryz.prog w =
   .ok (.slice (some ⟨w.heap.size,0,none⟩) (n+m) (grownCap w (n+m) c 3)) (w.drew.alloc (.cells ((cs.take i).toArray++Builtin.zeroCells (Value.int .i64 0).cells (n+m-i)++Builtin.zeroCells (Value.int .i64 0).cells (grownCap w (n+m) c 3-(n+m))) 3)):=fun ty=>by
  have h:=Lib.run_append_grow_zeros w 253 3 ty 3 i0 _ .i64 .i64 t186 t3 hi0 hz0 (some ⟨b,off,none⟩) i c (cs.take i) hold (n+m-i) (by omega) (by omega) (by omega) (by omega) (by rw[hzb];omega) (by rw[hzb,hik];exact growslice_fits hroom hbig)
  grind
 obtain ⟨G,hG⟩:∃ G,G=grownCap w (n+m) c 3:=⟨_,rfl⟩
 obtain ⟨ROW,hROW⟩:∃ ROW:Array Value,ROW=(cs.take i).toArray++Builtin.zeroCells (Value.int .i64 0).cells (n+m-i)++Builtin.zeroCells (Value.int .i64 0).cells (G-(n+m)):=⟨_,rfl⟩
 rw[<- hG] at hrz |-;rw[<- hROW] at hrz |-
 have hRl:n+m<=ROW.size:=by
  rw[hROW];simp[Builtin.zeroCells,Value.cells];omega
 obtain ⟨W1,hW1⟩:∃ W1,W1=w.drew.alloc (.cells ROW 3):=⟨_,rfl⟩
 rw[<- hW1] at hrz
 have hN:∀ j,j<n+m->(W1.cell? ⟨w.heap.size,j,none⟩).isSome=true:=fun j hj=>by
  rw[hW1,World.cell?_alloc_at (w:=w.drew) ROW _ w.heap.size j rfl,QzF (by omega)];rfl
 have hNf:∀ j,W1.frozen? ⟨w.heap.size,j,none⟩=false:=fun j=>by rw[hW1];exact World.frozen?_alloc_at (w:=w.drew) ROW _ w.heap.size j rfl
 have hOb:∀ j v,w.cell? ⟨b,j,none⟩=some v->W1.cell? ⟨b,j,none⟩=some v:=fun j v h=>by rw[hW1,World.cell?_alloc_past (w:=w.drew) _ b j hbw];exact h
 have hOv:∀ j v,w.cell? ⟨vb,j,none⟩=some v->W1.cell? ⟨vb,j,none⟩=some v:=fun j v h=>by rw[hW1,World.cell?_alloc_past (w:=w.drew) _ vb j hvw];exact h
 have hcpA:∀ (W:World),(∀ x,W.cell? x=W1.cell? x)->(∀ x,W.frozen? x=W1.frozen? x)->∀ ty dc,(Builtin.copy_ #[253,28] ty #[.slice (some ⟨w.heap.size,i,none⟩) (n+m-i) dc,.slice (some ⟨vb,voff,none⟩) m vc]).run Tryz.prog W=.ok (goInt vs.length) (W.setCells w.heap.size i vs):=fun W hWc hWf ty dc =>
  run_copy_cells W _ _ ty 3 w.heap.size i (n+m-i) dc ⟨vb,voff,none⟩ m vc vs t186 hsz (by grind)
   (fun j v hj=>by rw[Addr.add_lit,hWc];grind)
   (fun j hj=>by grind) (fun j hj=>by grind) h1v
 have hGn:n+m<=G:=by rw[hG];exact grownCap_ge w _ _ _
 have hG63:G<=9223372036854775807:=by
  have:=grownCap_le_maxLen w (n+m) c 3 (by unfold maxLen;omega)
  rw[<- hG] at this;unfold maxLen at this;omega
 have hGi:¬ (G=i):=by omega
 have hGim:¬ (G=i+m):=by omega
 have hci:¬ (c=i):=by omega
 have hbN:b≠w.heap.size:=by omega
 have hdl:(cs.drop i).length=n-i:=by grind
 have hcpB:∀ (W:World),(∀ x,W.cell? x=(W1.setCells w.heap.size i vs).cell? x)->(∀ x,W.frozen? x=(W1.setCells w.heap.size i vs).frozen? x)->∀ ty dc sc,(Builtin.copy_ #[253,253] ty #[.slice (some ⟨w.heap.size,i+m,none⟩) (n+m-(i+m)) dc,.slice (some ⟨b,off+i,none⟩) (n-i) sc]).run Tryz.prog W=.ok (goInt (cs.drop i).length) (W.setCells w.heap.size (i+m) (cs.drop i)):=fun W hWc hWf ty dc sc =>
  run_copy_cells W _ _ ty 3 w.heap.size (i+m) (n+m-(i+m)) dc ⟨b,off+i,none⟩ (n-i) sc (cs.drop i) t186 hsz (by grind)
   (fun j v hj=>by
     rw[Addr.add_lit,hWc,World.cell?_setCells_out _ _ _ _ _ (fun h _=>absurd h hbN),Qz6]
     grind)
   (fun j hj=>by rw[hWc];exact isSome_setCells _ _ _ _ (fun t ht=>hN _ (by omega)) _ (hN _ (by omega)))
   (fun j hj=>by rw[hWf,World.frozen?_setCells];exact hNf _) (fun v hv=>h1c v (QAc hv))
 subst hW1;have hE1:∀ x,((w.alloc (.cells ROW 3)).drew).cell? x=(w.drew.alloc (.cells ROW 3)).cell? x:=fun x=>rfl
 have hE2:∀ x,((w.alloc (.cells ROW 3)).drew).frozen? x=(w.drew.alloc (.cells ROW 3)).frozen? x:=fun x=>rfl
 have hF1:∀ x,(((w.alloc (.cells ROW 3)).drew.setCells w.heap.size i vs).drew).cell? x=((w.drew.alloc (.cells ROW 3)).setCells w.heap.size i vs).cell? x:=fun x=>rfl
 have hF2:∀ x,(((w.alloc (.cells ROW 3)).drew.setCells w.heap.size i vs).drew).frozen? x=((w.drew.alloc (.cells ROW 3)).setCells w.heap.size i vs).frozen? x:=fun x=>rfl
 have hw1:IntKind.i64.wrap ((i:Int)+(m:Int))=(i:Int)+(m:Int):=by rw[IntKind.wrap_i64];omega
 have hb1:(0:Int)<=(i:Int)+(m:Int):=by omega
 have hin:i<=n:=by omega
 have htn:((i:Int)+(m:Int)).toNat=i+m:=by omega
 have hb3:(i:Int)<=(n:Int):=by omega
 clear hkk hik hold hROW hG hRl
 go_enter Tryz.func240,Tryz.ntmps240
 go_wp2_with (first
  | (at_builtin;refine Lib.wpList_append_run _ rfl _ _ _ _ rfl _ _ rfl rfl _ _ (hrz _) ?_)
  | (at_builtin;refine wpList_copy_runI _ rfl _ _ 253 28 rfl _ _ rfl rfl (hcpA _ hE1 hE2 _ _) ?_)
  | (at_builtin;refine wpList_copy_runI _ rfl _ _ 253 253 rfl _ _ rfl rfl (hcpB _ (fun _=>rfl) (fun _=>rfl) _ _ _) ?_))
 go_region_law_o (refine step_copy_runI rfl _ _ 253 253 rfl (.slice (some ⟨w.heap.size,i+m,none⟩) (n+m-(i+m)) (G-(i+m))) (.slice (some ⟨b,off+i,none⟩) (n-i) (c-i)) (by simp[Act.eval,Act.put]) (by simp[Act.eval,Act.put]) (hcpB _ hF1 hF2 3 (G-(i+m)) (c-i)) ?_)
 go_wp2
 go_ret
 exact ⟨rfl,rfl⟩
end Go.Pf
namespace Go.Pf
open Go Go.Ev Go.Proofs Go.RowKit Go.Shelf
set_option maxRecDepth 8000
noncomputable def QvB:TypeInfo:=(Tryz.prog.info? 3).get (by kernel_rfl)
section
variable {K:World->Prop}
theorem QkR (zs:List Int) (mv:Nat):ZG Tryz.prog K 243 [.aref 0 zs.length] [(0,Q0 zs mv)] [0] (.iv (.tup [])) [(0,Q0 zs.reverse zs.length)] :=
 QaQ (fun a cap w=>AnyE.slices_Reverse_empty Tryz.rev243 a cap w) (fun blk off cap zs w hh hl=>AnyE.slices_Reverse Tryz.rev243 (Value.int .i64) (fun _=>rfl) blk off cap zs w hh hl) zs mv
theorem QkS (zs:List Int) (mv i:Nat) (hi:i<zs.length):ZG Tryz.prog K 242 [.aref 0 zs.length,.iv (.int .i64 (i:Nat)),.iv (.int .i64 ((i+1:Nat):Int))] [(0,Q0 zs mv)] [] (.iv (QgN (zs.eraseIdx i))) [] :=
 QcM (fun blk off cap i j d w hh h1 h2 h3 h4=>AnyE.slices_Delete Tryz.del242 (Value.int .i64) (fun _=>rfl) 0 Tryz.zeroValue3 QvB (by kernel_rfl) (by kernel_rfl) blk off cap i j d w hh h1 h2 h3 h4) zs mv i hi
theorem QkT (zs:List Int) (mv i:Nat) (hi:i<=zs.length) (x:Int) (mv':Nat) (hlen:zs.length<=1000000):ZG Tryz.prog K 240 [.aref 0 zs.length,.iv (.int .i64 (i:Nat)),.aref 1 1] [(0,Q0 zs mv),(1,Q0 [x] mv')] [] (.iv (QgN (zs.take i++x::zs.drop i))) [] :=
 Qcq
  (fun b n c i vb vc cs x w h1 h2 h3 h4 h5 h6 h7 h8 h9 h10 h11 tA tB kA kB h12 h13 h14 h15 h16=>WZ b 0 n c i vb 0 1 vc cs [x] w h1 (by omega) h2 h3 h4 h5 rfl h6 h7 h8 h9 h10 h11 tA tB kA kB h12 h13 h14 h15 h16)
  (fun b n c vb vc x w h1 h2 h3 h4 h5 h6=>Vo b 0 n c vb 0 1 vc [x] w (by omega) h1 h2 rfl h3 h4 h5 h6)
  (fun base n c vb vc cs x w h1 h2 h3 h4 h5 h6 h7 h8=>Vp base n c vb 0 1 vc cs [x] w (by omega) h1 h2 h3 h4 rfl h5 h6 h7 h8)
  (fun b n c i vb vc cs x w h1 h2 h3 h4 h5 h6 h7 h8 h9=>qG b 0 n c i vb 0 1 vc cs [x] w h1 (by omega) h2 h3 h4 h5 rfl h6 h7 h8 h9)
  zs mv i hi x mv' hlen
end
end Go.Pf
namespace Go.Pf
open Go Go.Ev Go.Proofs Go.RowKit
set_option maxRecDepth 8000
def Qmj (i:Nat) (kvs:List (MK × List (List IV))) (n:Nat):List (MK × List (List IV)):=mins (.int .i64 (n:Int)) (((Qh (.int .i64 (n:Int)) kvs).getD [])++[[.int .i64 (i:Nat)]]) kvs
def prf (ds:List Qr) (e:Nat->Int):Nat->List (MK × List (List IV))
 | 0=>[]
 | i+1=>match ds[i]? with
   | some d=>if d.what=4 then (cab ds e i).foldl (Qmj i) (prf ds e i) else prf ds e i
   | none=>prf ds e i
theorem Qe5 (ds:List Qr) (e:Nat->Int) (i:Nat) (h:i<ds.length):prf ds e (i+1)=if ds[i].what=4 then (cab ds e i).foldl (Qmj i) (prf ds e i) else prf ds e i:=by
 simp only[prf,Qzk h]
theorem VZ (n:Int) (y:List (List IV)):∀ kvs:List (MK × List (List IV)),QP (.int .i64) kvs->QP (.int .i64) (mins (.int .i64 n) y kvs)
 | [],_=>⟨rfl,trivial⟩
 | p::r,h=>by
   unfold mins;split
   ·exact ⟨rfl,h.2⟩
   ·exact ⟨h.1,VZ n y r h.2⟩
theorem qc (k j:MK) (y:List (List IV)):∀ kvs:List (MK × List (List IV)),Qh j (mins k y kvs)=if k=j then some y else Qh j kvs
 | []=>by simp[mins,Qh]
 | p::r=>by
   unfold mins;split
   ·rename_i h
    simp only[Qh]
    grind
   ·rename_i h
    simp only[Qh,qc k j y r]
    grind
def Low (m:Nat) (kvs:List (MK × List (List IV))):Prop:=QP (.int .i64) kvs/\∀ k rows,Qh k kvs=some rows->rows.length<=m
theorem Low.add {m i:Nat} {kvs:List (MK × List (List IV))} (h:Low m kvs) (n:Nat):Low (m+1) (Qmj i kvs n):=by
 refine ⟨VZ _ _ _ h.1,fun k rows hk=>?_⟩
 unfold Qmj at hk;rw[qc] at hk;split at hk
 ·injection hk with hk
  subst hk;cases hf:Qh (.int .i64 (n:Int)) kvs with
  | none=>simp
  | some r=>have:=h.2 _ _ hf;simp;omega
 ·have:=h.2 _ _ hk;omega
theorem Low.fold {i:Nat}:∀ (l:List Nat) {m:Nat} {kvs:List (MK × List (List IV))},Low m kvs->Low (m+l.length) (l.foldl (Qmj i) kvs)
 | [],m,kvs,h=>h
 | n::l,m,kvs,h=>by
   have:=Low.fold (i:=i) l (h.add (i:=i) n)
   grind
theorem Low.mono {m m':Nat} {kvs:List (MK × List (List IV))} (h:Low m kvs) (hm:m<=m'):Low m' kvs:=⟨h.1,fun k rows hk=>QzT (h.2 k rows hk) hm⟩
theorem QaX (ds:List Qr) (e:Nat->Int) (hc:OkD ds ds.length):∀ i,i<=ds.length->Low (i*ds.length) (prf ds e i)
 | 0,_=>⟨trivial,fun k rows h=>by simp[prf,Qh] at h⟩
 | i+1,h=>by
   have ih:=QaX ds e hc i (by omega)
   rw[Qe5 ds e i (by omega)]
   have e1:(i+1)*ds.length=i*ds.length+ds.length:=by grind
   rw[e1];split
   ·have hcl:=Xr e hc i (by omega) (by omega)
    have hcb:=hc.cnt i (by omega) (by omega)
    exact (ih.fold _).mono (by omega)
   ·exact ih.mono (by omega)
theorem Low.len {m:Nat} {kvs:List (MK × List (List IV))} (h:Low m kvs) (k:MK):((Qh k kvs).getD []).length<=m:=by
 cases hf:Qh k kvs with
 | none=>simp
 | some r=>exact h.2 _ _ hf
theorem Qdx (ds:List Qr) (i:Nat) (h:i<ds.length):ZY (ds.take (i+1))=if ds[i].what=1 then ZY (ds.take i)++[ds[i]] else ZY (ds.take i):=by
 rw[Qzn h];unfold ZY;rw[List.filter_append];generalize List.filter Q3 (List.take i ds)=l;by_cases hw:ds[i].what=1<;>simp[Q3,hw]
theorem QhO (ds:List Qr) (i:Nat):(ZY (ds.take i)).length=wn ds i:=by rw[Jy];rfl
@[simp] def QwI (kvs:List (MK × List (List IV))):IV:=.map (kvs.map fun p=>(p.1,.sl 1 p.2))
theorem QkN (n:Nat) (z:IV):Qad (List.replicate n [AV.iv z])=some (List.replicate n [z]):=by
 have:=Qi (List.replicate n [z]);simpa[emb] using this
theorem U2 (l:List Nat) (mv:Nat):Q0 (l.map fun (n:Nat)=>(n:Int)) mv=AO.arr 3 1 (emb (l.map fun (n:Nat)=>[IV.int .i64 (n:Int)])) mv:=by simp[Q0,emb]
theorem Qcp (l:List Nat):QgN (l.map fun (n:Nat)=>(n:Int))=Yz l:=by simp[QgN]
section
variable {K:World->Prop} {C:Env->Qk->Prop}
theorem WA (m:Nat->Nat) (e:TypeId) (sz:Nat) (xs:List (List IV)) (mv:Nat):rnO m (.arr e sz (emb xs) mv)=.arr e sz (emb xs) mv:=Qhp m e sz xs mv
theorem qj (dom:List Nat) (e:TypeId) (sz:Nat) (xs:List (List IV)) (mv:Nat):clO dom (.arr e sz (emb xs) mv)=true:=Qjc dom e sz xs mv
theorem QgD {id n mv:Nat} {d:Option Nat} {e:Env} {o:Qk} (l:List Nat) (hid:Qc o id=some (.arr 3 1 (emb (l.map fun (n:Nat)=>[IV.int .i64 (n:Int)])) mv)) (hn:n=l.length)
  (h:C (bnd d (.iv (.tup [])) (Qkc (Xh [id] [0] o) e)) (QmM [id] (Xh [id] [0] o) o [(0,.arr 3 1 (emb (l.reverse.map fun (n:Nat)=>[IV.int .i64 (n:Int)])) n)])):HK Tryz.prog K 243 [id] d C e o [.aref id n]:=by
 have hg:=QkR (K:=K) (l.map fun (n:Nat)=>(n:Int)) mv
 rw[<- List.map_reverse,U2,U2,Qzw] at hg;subst hn;refine ZH hg (by simp[rn,nth]) ?_ ?_
 ·refine ⟨by simp,by simp[clA],?_,?_,by simp[Y3]⟩
  ·intro p hp
   simp only[QzK] at hp;subst hp;exact ⟨by simp,by rw[WA];simpa[nth] using hid,qj _ _ _ _ _,rfl⟩
  ·intro i hi h
   simp at hi;subst hi;simp[Qc] at h
 ·simpa[rn] using h
theorem Qao {id n mv:Nat} {d:Option Nat} {e:Env} {o:Qk} (l:List Nat) (i:Nat) (hi:i<l.length) (hid:Qc o id=some (.arr 3 1 (emb (l.map fun (n:Nat)=>[IV.int .i64 (n:Int)])) mv)) (hn:n=l.length) {avs:List AV} (ha:avs=[.aref id n,.iv (.int .i64 (i:Nat)),.iv (.int .i64 ((i+1:Nat):Int))])
  (h:C (bnd d (.iv (Yz (l.eraseIdx i))) (Qkc (Xh [id] [] o) e)) (QmM [id] (Xh [id] [] o) o [])):HK Tryz.prog K 242 [id] d C e o avs:=by
 have hg:=QkS (K:=K) (l.map fun (n:Nat)=>(n:Int)) mv i (by simpa using hi)
 have e1:(l.map fun (n:Nat)=>(n:Int)).eraseIdx i=(l.eraseIdx i).map fun (n:Nat)=>(n:Int):=by simp[List.eraseIdx_eq_take_drop_succ]
 rw[e1,U2,Qcp,Qzw] at hg;subst hn;refine ZH hg (by rw[ha];simp[rn,nth]) ?_ ?_
 ·refine ⟨by simp,by simp[clA],?_,?_,by simp⟩
  ·intro p hp
   simp only[QzK] at hp;subst hp;exact ⟨by simp,by rw[WA];simpa[nth] using hid,qj _ _ _ _ _,rfl⟩
  ·intro i hi h
   simp at hi;subst hi;simp[Qc] at h
 ·simpa[rn] using h
theorem Qan {id id' n mv mv':Nat} {d:Option Nat} {e:Env} {o:Qk} (l:List Nat) (i:Nat) (hi:i<=l.length) (x:Nat) (hlen:l.length<=1000000) (hne:id≠id') (hid:Qc o id=some (.arr 3 1 (emb (l.map fun (n:Nat)=>[IV.int .i64 (n:Int)])) mv)) (hid':Qc o id'=some (.arr 3 1 [[.iv (.int .i64 (x:Nat))]] mv')) (hn:n=l.length)
  (h:C (bnd d (.iv (Yz (l.take i++x::l.drop i))) (Qkc (Xh [id,id'] [] o) e)) (QmM [id,id'] (Xh [id,id'] [] o) o [])):HK Tryz.prog K 240 [id,id'] d C e o [.aref id n,.iv (.int .i64 (i:Nat)),.aref id' 1]:=by
 have hg:=QkT (K:=K) (l.map fun (n:Nat)=>(n:Int)) mv i (by simpa using hi) x mv' (by simpa using hlen)
 have e1:(l.map fun (n:Nat)=>(n:Int)).take i++(x:Int)::(l.map fun (n:Nat)=>(n:Int)).drop i=(l.take i++x::l.drop i).map fun (n:Nat)=>(n:Int):=by simp
 rw[e1,U2,Qcp,Qzw] at hg;subst hn;refine ZH hg (by simp[rn,nth]) ?_ ?_
 ·refine ⟨by simpa using hne,by simp[clA],?_,?_,by simp⟩
  ·intro p hp
   simp only[Qz1,QAf,or_false] at hp;rcases hp with rfl | rfl
   ·exact ⟨by simp,by rw[WA];simpa[nth] using hid,qj _ _ _ _ _,rfl⟩
   ·exact ⟨by simp,by simpa[nth,rnO,rnL,rn] using hid',by simp[clO,clAL,clA],rfl⟩
  ·intro i hi h
   simp at hi;have:i=0\/i=1:=by omega
   rcases this with rfl | rfl<;>simp[Qc] at h
 ·simpa[rn] using h
end
section
variable {K:World->Prop} (hK:∀ w w',K w->Below w.heap.size w w'->K w')
include hK
theorem Qn6 (c:Qj) (n:Nat) (hn:n<2 ^ 63) (hc:OkD c.deeds c.deeds.length) (hl:c.deeds.length<=100) :
  Ev.Good Tryz.prog K 232 [QD c.deeds,.clo 233 [] [.ptr [.int .i64 n],.ptr (VE c)]] (.agg (XH c.deeds (Zw c.deeds n) (QwI (prf c.deeds (Zw c.deeds n) c.deeds.length)))):=by
 refine Qb hK Qpu (by simp) ?_
 simp;intros
 refine Qu (fun i=>[(1,AV.iv (.clo 233 [] [.ptr [.int .i64 n],.ptr (VE c)])),(4,.loc 4 0),(5,.loc 5 0),(16,AV.iv (QD c.deeds)),(17,AV.iv (.int .i64 c.deeds.length)),(18,AV.iv (IV.int IntKind.i64 (i:Nat)))])
  (fun i=>[(4,AO.box [.iv (.sl 1 []),.iv (.sl 2 []),.iv (.map [])]),(5,AO.box [.aref 13 (i+1),.aref 6001 (ZY (c.deeds.take i)).length,.oref 14]),(13,AO.arr 253 1 (emb ((QfG c.deeds (Zw c.deeds n) i).map fun c=>[Yz c])) 0),
    (14,.mapr 3 1 (prf c.deeds (Zw c.deeds n) i) none),(6001,.arr 257 2 (emb ((ZY (c.deeds.take i)).map lkC)) 0)]) c.deeds.length (fun i=>True) trivial ?_ ?_
 ·intro _
  rw[Qa Qec.eq_1];simp[-List.map_map,Qp,QC,Qz,Qi,Qzt]
 ·intro i hi _ ih
  have hcl:=Xr (Zw c.deeds n) hc i (by omega) (by omega)
  have hcb:=hc.cnt i (by omega) (by omega)
  have hd:=hc i hi hi;have hw:=Qng c.deeds i;have hlw:=QhO c.deeds i;have hlo:=QaX c.deeds (Zw c.deeds n) hc i (by omega)
  have hg202:=Qn5 hK c n i hn hi;have hei:=Qfy c.deeds n i hi;have hii:i*c.deeds.length<=100*100:=QAK (by omega) (by omega)
  rw[QcR,Qdx _ _ hi,Wa _ _ _ hi,Qe5 _ _ _ hi] at ih;rw[Qa Qec.eq_1]
  have hcg:(QfG c.deeds (Zw c.deeds n) i)[i]?=some (cab c.deeds (Zw c.deeds n) i):=by
   rw[Qzk (by simp),VA _ _ _ _ (by omega)]
  have hcl2:=Ql7 c.deeds (Zw c.deeds n) i;generalize Zw c.deeds n i=ei at *;generalize QfG c.deeds (Zw c.deeds n) i=cs at *;generalize prf c.deeds (Zw c.deeds n) i=kvs at *;generalize ZY (c.deeds.take i)=lk at *;generalize cab c.deeds (Zw c.deeds n) i=now at *
  have hcg2:cs[i]'(by omega)=now:=by
   grind
  have hnl:now.length<=100:=by omega
  simp[hi,hcl2,hcg2,-List.map_map,Qp,QC,Qz,Qi];intro _;refine ⟨by omega,?_⟩
  refine Qpg (rows:=List.replicate now.length [IV.int .i64 0]) (QkN _ _) (by simp) (by simp) ?_
  rcases hd with ⟨h1,h2,h3,h4⟩ | ⟨h1,h2,h3,h4⟩ | ⟨h1,h4⟩
  ·simp only[inR] at h3 h2
   have hp:(if ei=1 then (now.length:Int)+1-1-c.deeds[i].pos else c.deeds[i].pos)=(plc c.deeds[i].pos ei (now.length+1):Nat):=by
    unfold plc;omega
   have hpl:plc c.deeds[i].pos ei (now.length+1)<=now.length:=Qhv (by omega)
   have hg214:=QdJ hK c.deeds[i].pos ei (now.length+1) (by omega) (by omega)
   rw[hp] at hg214;simp[Yq,h1,<- hlw] at ih;generalize plc c.deeds[i].pos ei (now.length+1)=at_ at *;by_cases hf:c.deeds[i].frm=2
   ·have hg:=hg202 hf
    simp[hi,hf,h1,-List.map_map,Qp,QC,Qz,Qi];refine ⟨by kernel_rfl,cK (by simpa using hg) ?_⟩
    simp[hi,hf,h1,-List.map_map,Qp,QC,Qz,Qi];intro _;refine ⟨by omega,cK hg214 ?_⟩
    simp[hi,hf,h1,-List.map_map,Qp,QC,Qz,Qi];intro _;refine Qan (mv:=now.length) (mv':=0) now at_ hpl lk.length (by omega) (by simp) (by simp[emb,-List.map_map]) (by simp) rfl ?_
    simp[hi,hf,h1,-List.map_map,Qp,QC,Qz,Qi]
    grind
   ·rw[if_neg hf] at hei
    simp[hi,hf,h1,-List.map_map,Qp,QC,Qz,Qi];rw[<- hei];intro _;refine ⟨by omega,cK hg214 ?_⟩
    simp[hi,hf,h1,-List.map_map,Qp,QC,Qz,Qi];intro _;refine Qan (mv:=now.length) (mv':=0) now at_ hpl lk.length (by omega) (by simp) (by simp[emb,-List.map_map]) (by simp) rfl ?_
    simp[hi,hf,h1,-List.map_map,Qp,QC,Qz,Qi]
    grind
  ·have h11:¬ c.deeds[i].what=1:=by omega
   simp only[inR] at h3 h2
   have hp:(if ei=1 then (now.length:Int)-1-c.deeds[i].pos else c.deeds[i].pos)=(plc c.deeds[i].pos ei now.length:Nat):=by
    unfold plc;split<;>omega
   have hpl:plc c.deeds[i].pos ei now.length<now.length:=Qb9 (by omega)
   have hg214:=QdJ hK c.deeds[i].pos ei now.length (by omega) (by omega)
   rw[hp] at hg214;simp[Yq,h1] at ih;generalize plc c.deeds[i].pos ei now.length=at_ at *;have he:now.take at_++now.drop (at_+1)=now.eraseIdx at_:=by grind
   rw[<- QAH,<- QAO,<- QzU,he] at ih;by_cases hf:c.deeds[i].frm=2
   ·have hg:=hg202 hf
    simp[hi,hf,h1,-List.map_map,Qp,QC,Qz,Qi];refine ⟨by kernel_rfl,cK (by simpa using hg) ?_⟩
    simp[hi,hf,h1,-List.map_map,Qp,QC,Qz,Qi];intro _;refine cK hg214 ?_;simp[hi,hf,h1,-List.map_map,Qp,QC,Qz,Qi];refine ⟨by omega,?_⟩
    refine Qao (mv:=now.length) now at_ hpl (by simp[emb,-List.map_map]) rfl (by simp) ?_
    simp[hi,hf,h1,-List.map_map,Qp,QC,Qz,Qi]
    grind
   ·rw[if_neg hf] at hei
    simp[hi,hf,h1,-List.map_map,Qp,QC,Qz,Qi];rw[<- hei];intro _;refine cK hg214 ?_;simp[hi,hf,h1,-List.map_map,Qp,QC,Qz,Qi];refine ⟨by omega,?_⟩
    refine Qao (mv:=now.length) now at_ hpl (by simp[emb,-List.map_map]) rfl (by simp) ?_
    simp[hi,hf,h1,-List.map_map,Qp,QC,Qz,Qi]
    grind
  ·have hf:¬ c.deeds[i].frm=2:=by omega
   rcases h1 with h1 | h1
   ·simp[Yq,h1] at ih
    simp[hi,hf,h1,-List.map_map,Qp,QC,Qz,Qi];refine QgD (mv:=now.length) now (by simp[emb,-List.map_map]) rfl ?_
    simp[hi,hf,h1,-List.map_map,Qp,QC,Qz,Qi,Qzt]
    grind
   ·simp[Yq,h1] at ih
    simp[hi,hf,h1,-List.map_map,Qp,QC,Qz,Qi];intro _
    refine Qu (fun k=>[(1,AV.iv (.clo 233 [] [.ptr [.int .i64 n],.ptr (VE c)])),(4,.loc 4 0),(5,.loc 5 0),(6,AV.iv (IV.int IntKind.i64 (i:Nat))),(8,AV.aref 29 now.length),(16,AV.iv (QD c.deeds)),(17,AV.iv (.int .i64 c.deeds.length)),(18,AV.iv (IV.int IntKind.i64 (i:Nat))),(90,AV.aref 29 now.length),(91,AV.iv (.int .i64 now.length)),(92,AV.iv (.int .i64 (k:Nat)))])
     (fun k=>[(4,AO.box [.iv (.sl 1 []),.iv (.sl 2 []),.iv (.map [])]),(5,AO.box [.aref 13 (i+1),.aref 6001 lk.length,.oref 14]),(13,AO.arr 253 1 (emb (cs.map fun c=>[Yz c])) 0),
       (14,.mapr 3 1 ((now.take k).foldl (Qmj i) kvs) none),(29,AO.arr 3 1 (emb (now.map fun (n:Nat)=>[.int .i64 (n:Int)])) now.length),(6001,AO.arr 257 2 (emb (lk.map lkC)) 0)]) now.length (fun _=>True) trivial ?_ ?_
    ·intro _
     rw[Qa Qed.eq_1];simp[-List.map_map,Qp,QC,Qz,Qi,Qzt]
     grind
    ·intro k hk _ ih2
     rw[Qa Qed.eq_1];have hlk:Low (i*c.deeds.length+(now.take k).length) ((now.take k).foldl (Qmj i) kvs):=hlo.fold _;rw[Qzn hk,List.foldl_append] at ih2;generalize (now.take k).foldl (Qmj i) kvs=kv at *;have hkl:(List.take k now).length<=100:=by simp;omega
     have hle:=hlk.len (.int .i64 (now[k]:Nat));have hkk:=hlk.1;have hkk2:=VZ (now[k]:Nat) (((Qh (.int .i64 ((now[k]:Nat):Int)) kv).getD [])++[[.int .i64 (i:Nat)]]) kv hkk;have hfm:=qc (.int .i64 ((now[k]:Nat):Int)) (.int .i64 ((now[k]:Nat):Int)) (((Qh (.int .i64 ((now[k]:Nat):Int)) kv).getD [])++[[.int .i64 (i:Nat)]]) kv;rw[if_pos rfl] at hfm;simp[Qmj] at ih2;simp[hk,hkk,hkk2,hfm,-List.map_map,Qp,QC,Qz,Qi]
     grind
def pmC (c:Qj) (n:Nat):IV:=QwI (prf c.deeds (Zw c.deeds n) c.deeds.length)
theorem Qg1 (c:Qj) (hc:OkC c):QcW K c (pmC c):=fun n hn=>by
 have h:=hc.len;have h2:=Wg c.deeds;have h3:=X7 (show Z3 c.deeds<=12 by omega)
 exact Qn6 hK c n (by omega) hc.deeds (by omega)
end
end Go.Pf
namespace Go.Pf
open Go Go.Proofs Go.RowKit Go.Maps Go.Sort Go.Shelf
variable {P:Program} {ρ:Ren}
set_option maxRecDepth 100000 in
set_option maxHeartbeats 1000000 in
theorem Qbw (L:SlLaysZI.n10 P ρ) {H:Type} (F:Fence) (n:Nat) (h10:F.fn (ρ.f 10)) (hro:F.round=none) (hn:1<=n) (l Bm om b nn:Nat) (D0:DataW H) {R:Value->Option (DataW H × List MemPlace)} (J:List Int->World->Prop)
  (hY:∀ pre x W,J pre W->pre.length<Maps.size D0->YieldAt F (n-1) P l #[encZ x] W fun e W'=>e=.returned (.bool true)/\J (pre++[x]) W'/\KeepsWalks W W')
  (W:World) (hJ:AbidesFrom W.heap.size J) (hm:W.cell? ⟨Bm,om,none⟩=some (.map (some b))) (hown:W.ownsMap P (ρ.t 26) R b nn D0) (h0:J [] W) :
  CallsIn F n P (ρ.f 10) #[.func (.yield l) #[] #[],.pointer (some ⟨Bm,om,none⟩)] W fun e W'=>(∃ v,e=.returned v)/\∃ ss:List Int,ss.Perm (intKeys D0)/\J ss W':=by
 have mixed:=L.mixed;have t0:=L.t0;have a0:=L.a0;have z0:=L.z0;have v0:=L.v0;have t4:=L.t4;have a4:=L.a4;have z4:=L.z4;have v4:=L.v4;have t23:=L.t23;have a23:=L.a23;have z23:=L.z23;have v23:=L.v23;have t26:=L.t26;have a26:=L.a26;have z26:=L.z26;have v26:=L.v26;have t33:=L.t33;have a33:=L.a33;have z33:=L.z33;have v33:=L.v33;have u0:=run_underlying L.t0;have u4:=run_underlying L.t4;have u23:=run_underlying L.t23;have u26:=run_underlying L.t26;have u33:=run_underlying L.t33;obtain ⟨_,_,FG⟩:=L.f10;refine callsIn_of_wp FG rfl h10 ?_ hro;simp only[SlBodyZ.n10_ntmps ρ,QAk,Qzv,QzE,Nat.reduceAdd,Nat.reduceSub,Array.replicate_succ,Array.replicate_zero,List.push_toArray,List.append_toArray,QAa,QAB]
 gi_wp2_with (first
  | (gi_at_range;refine wpListIn_range_own _ rfl _ (ρ.t 23) rfl (ρ.t 26) (ρ.t 3) (int_keyed L.t26) L.t23 _ b nn _ rfl hown ?_;intro w0 hrg0 hg0 hs0)
  | gi_in)
 go_frame
 gi_loopw [3] (fun _ wr=>∃ (left:Lit->Bool) (cnt:Nat) (ss:List Int),wr.ranges P (ρ.t 26) R b W.heap.size nn D0 left cnt/\ss.length+cnt<=Maps.size D0/\CollectedI D0 left ss/\J ss wr)
  (fun _ wr=>wr.rangeLeft b W.heap.size)
 case atStart =>
  exact ⟨_,_,[],hrg0,by simp,CollectedI.start D0,hJ [] W w0 none h0 hg0 (fun r e=>by cases e)⟩
 case round =>
  obtain ⟨left,cnt,ss,hrg,hcs,hC,hJs⟩:=hrel
  gi_wp2_with (first
   | (gi_at_next;refine wpListIn_next_ranges _ rfl _ rfl (ρ.t 26) (int_keyed L.t26) R encZ id (fun key kl hk=>by obtain ⟨x,hx,_⟩:=Maps.keyOf_i64 L.t26 hk;exact ⟨x,hx⟩) (fun v _ _=>⟨v,rfl⟩) b W.heap.size nn _ _ _ rfl hrg ?_ ?_)
   | gi_in)
  ·
   intro hc0 hl0
   gi_wp2
   go_end0
   exact ⟨⟨_,rfl⟩,ss,hC.perm hown (int_keyed L.t26) L.t26 hl0,hJs⟩
  ·
   intro x c kl yd yp w2 cnt2 hkey hlk hv hat hrg2 hlt hg2 hs2 hen;obtain ⟨x',ex,rfl,_⟩:=Maps.keyOf_i64 L.t26 hkey;obtain rfl:x=x':=encZ_inj ex;have hJ2:J ss w2:=hJ ss wr w2 (some W.heap.size) hJs hg2 (fun r e=>by cases e;exact ⟨Qzq _,hrg.iter_walk⟩)
   obtain ⟨fn,tmps,assign,body,hy,hR⟩:=hY ss x w2 hJ2 (by omega)
   clear hs2
   gi_wp2
   refine hR.mono ?_
   rintro e W3 ⟨rfl,hJ3,hk3⟩
   gi_wp2
   have hrg3:=hrg2.of_walks hk3
   go_roundw
   case rel=>exact ⟨_,cnt2,ss++[x],hrg3,by simp;omega,hC.step hlk hat,hJ3⟩
   case measure=>rw[hrg3.left_eq,hrg.left_eq];exact hlt
set_option maxRecDepth 100000 in
set_option maxHeartbeats 1000000 in
theorem qH (L:SlLaysZI.n10 P ρ) {H:Type} (F:Fence) (n:Nat) (h10:F.fn (ρ.f 10)) (hro:F.round=none) (hn:1<=n) (Bm om b nn:Nat) (D0:DataW H) {R:Value->Option (DataW H × List MemPlace)} (w:World) (hBm:Bm<w.heap.size)
  (hm:w.cell? ⟨Bm,om,none⟩=some (.map (some b))) (hown:w.ownsMap P (ρ.t 26) R b nn D0) :
  SeqGives F n P (ρ.f 10) #[.pointer (some ⟨Bm,om,none⟩)] encZ (fun ss=>ss.Perm (intKeys D0)) (Maps.size D0) w:=fun l J W hW hJ hY h0=>by
 have hown':W.ownsMap P (ρ.t 26) R b nn D0:=by
  have hbl:=hown.lt;obtain ⟨es,clock,hb,Ft,hs,hD⟩:=hown;exact ⟨es,clock,(hW.block b hbl).trans hb,Ft,hs,hD⟩
 exact Qbw { L with } F n h10 hro hn l Bm om b nn D0 J hY W hJ ((hW.cell (p:=⟨Bm,om,none⟩) hBm).trans hm) hown' h0
set_option maxRecDepth 100000 in
set_option maxHeartbeats 1000000 in
theorem UQ (L:SlLaysZI.n10 P ρ) (F:Fence) (n:Nat) (h10:F.fn (ρ.f 10)) (hro:F.round=none) (l Bm om:Nat) (J:List Int->World->Prop) (W:World) (hJ:AbidesFrom W.heap.size J)
  (hm:W.cell? ⟨Bm,om,none⟩=some (.map none)) (h0:J [] W) :
  CallsIn F n P (ρ.f 10) #[.func (.yield l) #[] #[],.pointer (some ⟨Bm,om,none⟩)] W fun e W'=>(∃ v,e=.returned v)/\∃ ss:List Int,ss=[]/\J ss W':=by
 have mixed:=L.mixed;have t0:=L.t0;have a0:=L.a0;have z0:=L.z0;have v0:=L.v0;have t4:=L.t4;have a4:=L.a4;have z4:=L.z4;have v4:=L.v4;have t23:=L.t23;have a23:=L.a23;have z23:=L.z23;have v23:=L.v23;have t26:=L.t26;have a26:=L.a26;have z26:=L.z26;have v26:=L.v26;have t33:=L.t33;have a33:=L.a33;have z33:=L.z33;have v33:=L.v33;have u0:=run_underlying L.t0;have u4:=run_underlying L.t4;have u23:=run_underlying L.t23;have u26:=run_underlying L.t26;have u33:=run_underlying L.t33;obtain ⟨_,_,FG⟩:=L.f10;refine callsIn_of_wp FG rfl h10 ?_ hro;simp only[SlBodyZ.n10_ntmps ρ,QAk,Qzv,QzE,Nat.reduceAdd,Nat.reduceSub,Array.replicate_succ,Array.replicate_zero,List.push_toArray,List.append_toArray,QAa,QAB];have hrg:=run_range_nilMap (P:=P) W (ρ.t 23) (ρ.t 26) (ρ.t 3) L.t23;have hnx:∀ ty,(Instr.next (.pointer (some ⟨W.heap.size,0,none⟩)) false ty).run P (W.alloc (.mapIter none 0 #[] 0))=_:=fun ty=>run_next_nilMap _ ty 0 0 #[]
 gi_wp2
 refine wpIn_loop_rounds 1 ?_;rw[roundsIn_succ]
 gi_wp2
 go_end0
 exact ⟨⟨_,rfl⟩,[],rfl,hJ [] W _ none h0 (World.grownBy_alloc W _ none) (fun r e=>by cases e)⟩
set_option maxRecDepth 100000 in
set_option maxHeartbeats 1000000 in
theorem VG (L:SlLaysZI.n10 P ρ) (F:Fence) (n:Nat) (h10:F.fn (ρ.f 10)) (hro:F.round=none) (Bm om:Nat) (w:World) (hBm:Bm<w.heap.size) (hm:w.cell? ⟨Bm,om,none⟩=some (.map none)) :
  SeqGives F n P (ρ.f 10) #[.pointer (some ⟨Bm,om,none⟩)] encZ (fun ss:List Int=>ss=[]) 0 w:=fun l J W hW hJ _ h0 =>
 UQ { L with } F n h10 hro l Bm om J W hJ ((hW.cell (p:=⟨Bm,om,none⟩) hBm).trans hm) h0
end Go.Pf
namespace Go.Proofs
open Go.Shelf Go.RowKit Go.Maps Go.Sort
theorem Tryz.sorts122 (m:Nat):AnyZI.SortsIn Tryz.prog Tryz.sorted191_ren Fence.wide m :=
 ⟨fun blk off cap ss W hH hblk hsz=>callsIn_wide.2 (AnyM.slices_Sort_int Tryz.sort122 blk off cap ss W hH hblk hsz),
  fun p cap W=>callsIn_wide.2 (AnyM.slices_Sort_int_none Tryz.sort122 p cap W)⟩
end Go.Proofs
namespace Go.Pf
open Go Go.Ev Go.Proofs Go.RowKit Go.Shelf
set_option maxRecDepth 8000
theorem Ul (lb:Array Value) (S:List Int->Prop) (N:Nat) (hN:N<=1000000) (w:World) (hseq:SeqGives Fence.wide 2 Tryz.prog 222 lb encZ S N w) :
  Calls Tryz.prog 191 #[.func (.func 222) #[] lb] w fun e w'=>∃ (v:Value) (ss:List Int),e=.returned v/\S ss /\
   w'.ownsRow w.heap.size 3 1 v ss.length ((ss.mergeSort (fun x y=>decide (x<=y))).map encZ)/\(v=.slice none 0 0↔ss=[])/\Below w.heap.size w w':=by
 refine (callsIn_wide (n:=5)).1 ?_;exact AnyZI.sorted_in Tryz.sorted191 Fence.wide 5 trivial trivial trivial trivial rfl (by omega) (Tryz.sorts122 _) (enters_of Tryz.func122 (by kernel_rfl) rfl) 222 lb trivial (enters_of Tryz.func222 (by kernel_rfl) rfl) S N (by unfold maxLen;omega) (by omega) w hseq
theorem insert_perm {H:Type} (x:Lit × DataW H):∀ l:List (Lit × DataW H),(DataW.insert x l).Perm (x::l)
 | []=>List.Perm.refl _
 | y::r=>by
   unfold DataW.insert;split
   ·exact List.Perm.refl _
   ·exact ((insert_perm x r).cons y).trans (List.Perm.swap x y r)
theorem sorted_perm {H:Type}:∀ l:List (Lit × DataW H),(l.foldr DataW.insert []).Perm l
 | []=>List.Perm.refl _
 | x::r=>by
   rw[List.foldr_cons];exact (insert_perm x _).trans ((sorted_perm r).cons x)
def Qmh:Value->Option (DataW Nat × List MemPlace):=fun _=>some (.nil,[])
theorem QrX {x:MapEntry} {n:Int} (h:x.key=.int .i64 n) (hn : -9223372036854775808<=n/\n<9223372036854775808):WideElems.rd Tryz.prog 3 Qmh x=some (.int .i64 n,.nil):=by
 have hw:(Lit.int .i64 n).wf=true:=by
  have h1:=hn.1;have h2:=hn.2;simp[Lit.wf,IntKind.inR,IntKind.min,IntKind.max,IntKind.bits,IntKind.signed];omega
 simp[WideElems.rd,h,Qmh,keyOf,Tryz.underlying3,mapKey,hw]
section
variable {K:World->Prop}
theorem Qoe (kvs:List (MK × IV)) (ks:List Int) (hk:kvs.map (·.1)=ks.map (fun x=>MK.int .i64 x)) (hwf:∀ x∈ks,-9223372036854775808<=x/\x<9223372036854775808) (hlen:ks.length<=1000000) :
  Ev.Good Tryz.prog K 191 [.clo 222 [] [.ptr [.map kvs]]] (Q8 (ks.mergeSort fun x y=>decide (x<=y))):=by
 intro w ok vs hK hnew hl hvs
 obtain ⟨v0,rfl⟩:∃ v0,vs=[v0]:=by
  match vs,hl with
  | [v],_=>exact ⟨v,rfl⟩
 have hrep:=hvs 0 _ v0 rfl rfl
 have fin:∀ (v:Value) (w':World) (ss:List Int),ss.Perm ks->w'.ownsRow w.heap.size 3 1 v ss.length ((ss.mergeSort (fun x y=>decide (x<=y))).map encZ)->Below w.heap.size w w' ->
   ∃ v1,Ending.returned v=.returned v1/\Qv ok w' (Q8 (ks.mergeSort fun x y=>decide (x<=y))) v1/\Below w.heap.size w w':=fun v w' ss hp ho hb=>by
  refine ⟨v,rfl,?_,hb⟩;have e1:ss.mergeSort (fun x y=>decide (x<=y))=ks.mergeSort fun x y=>decide (x<=y):=mergeSort_of_perm_i hp
  rw[e1] at ho;have hl2:ss.length=ks.length:=hp.length_eq;have e3:(ks.mergeSort fun x y=>decide (x<=y)).length=ss.length:=by simp[hl2]
  generalize (ks.mergeSort fun x y=>decide (x<=y))=zs at *
  obtain ⟨h1,h2 | ⟨g,cap,cur,h2,h3,h4,h5,h6,h7,h8⟩⟩:=ho
  ·obtain ⟨rfl,h2⟩:=h2
   have:zs=[]:=Qzy (by omega)
   subst this;exact .nils _
  ·subst h2
   rw[<- e3];refine Vf zs g cap (by omega) h6 (hnew g h3) fun j z hj=>?_
   have hjl:=(Qzl.1 hj).1;have:(cur.toList.take (ss.length*1))[j]?=some (.int .i64 z):=by grind
   rw[QzR,if_pos (by omega)] at this
   simp only[World.cell?,h4];simpa using this
 cases hrep with
 | clo _ _ _ us vs' h1 h2 hf hc =>
   obtain rfl:us=[]:=Qzy h1
   obtain ⟨p,rfl⟩:∃ p,vs'=[p]:=by
    match vs',h2 with
    | [v],_=>exact ⟨v,rfl⟩
   have hp:=hc 0 _ p rfl rfl;cases hp with
   | ptr _ b off u hu hx =>
     have hcell:=(hu 0 (by simp)).2.1
     rw[QAe] at hcell;have hbw:b<w.heap.size:=Qz9 w ⟨b,off,none⟩ hcell;have hm:=hx 0 _ rfl;generalize u 0=u0 at hcell hm;cases hm with
     | mapn =>
       have hk0:ks=[]:=by simpa using hk.symm
       subst hk0;refine (Ul _ _ 0 (by omega) w (VG (ρ:=Tryz.keys192_ren) { Tryz.keys192 with } Fence.wide 2 trivial rfl b off w hbw hcell)).mono ?_
       grind
     | map _ r es clock hok hr hmr hd hxx =>
       have hks:kvs.length=ks.length:=by simpa using congrArg List.length hk
       have hkey:∀ (i:Nat) (x:MapEntry),es[i]?=some x->∃ n:Int,ks[i]?=some n/\x.key=.int .i64 n:=fun i x hx=>by
        obtain ⟨k,h3,h4⟩:=hmr.keys i x hx;rw[<- Qzu,hk,Qzu,Qzo] at h3;obtain ⟨n,h5,rfl⟩:=h3;exact ⟨n,h5,h4⟩
       have hrd:∀ (i:Nat) (x:MapEntry),es[i]?=some x->∃ n:Int,ks[i]?=some n/\x.key=.int .i64 n/\WideElems.rd Tryz.prog 3 Qmh x=some (.int .i64 n,.nil):=fun i x hx=>by
        obtain ⟨n,h3,h4⟩:=hkey i x hx;exact ⟨n,h3,h4,QrX h4 (hwf n (QzB h3))⟩
       have hlist:es.toList.map (fun x=>intOf (WideElems.rg Tryz.prog 3 Qmh x).1)=ks:=by
        refine QAF fun i=>?_
        rw[Qzu];cases hx:es[i]? with
        | none =>
          have:es.size<=i:=by
           grind
          have hz:=hmr.size
          grind
        | some x =>
          obtain ⟨n,h3,h4,h5⟩:=hrd i x hx;rw[Array.getElem?_toList,hx,h3];simp[WideElems.rg,h5,intOf]
       have hown:w.ownsMap Tryz.prog 3 Qmh r ks.length (DataW.map ((es.toList.map (WideElems.rg Tryz.prog 3 Qmh)).foldr DataW.insert [])):=by
        refine ⟨es,clock,hr,⟨by have:=hmr.size;unfold maxLen;omega,⟨fun x hx=>?_,?_,?_⟩,fun x hx=>?_⟩,by grind,rfl⟩
        ·obtain ⟨i,hi⟩:=QzS hx
         exact hmr.born i x (by simpa using hi)
        ·rw[List.nodup_iff_pairwise_ne] at *
         refine List.pairwise_iff_getElem.2 fun i j hi hj hij heq=>?_
         simp at hi hj heq;have:=hmr.apart i j es[i] es[j] (by simp[hi]) (by simp[hj]) heq
         omega
        ·refine List.pairwise_iff_getElem.2 fun i j hi hj hij heq=>?_
         simp at hi hj heq;obtain ⟨k1,h3,h4⟩:=hmr.keys i es[i] (by simp[hi])
         obtain ⟨k2,h5,h6⟩:=hmr.keys j es[j] (by simp[hj])
         rw[Qzo] at h3 h5;obtain ⟨p,h7,rfl⟩:=h3;obtain ⟨q,h8,rfl⟩:=h5;rw[h4,h6] at heq
         have:p.1=q.1:=by
          have e1:(kvs.map (·.1))[i]?=some p.1:=by simp[h7]
          have e2:(kvs.map (·.1))[j]?=some q.1:=by simp[h8]
          rw[hk,Qzu,Qzo] at e1 e2;obtain ⟨n1,_,e1⟩:=e1;obtain ⟨n2,_,e2⟩:=e2;rw[<- e1,<- e2] at heq |-;simpa[MK.val] using heq
         grind
        ·obtain ⟨i,hi⟩:=QzS hx
         grind
       have hperm:(intKeys (DataW.map ((es.toList.map (WideElems.rg Tryz.prog 3 Qmh)).foldr DataW.insert []))).Perm ks:=by
        have:=(sorted_perm (es.toList.map (WideElems.rg Tryz.prog 3 Qmh))).map fun p=>intOf p.1
        rw[List.map_map] at this;refine this.trans ?_;rw[show es.toList.map ((fun p=>intOf p.1)∘WideElems.rg Tryz.prog 3 Qmh)=ks from hlist]
       have hsz:=hown.size_le;refine (Ul _ _ _ (by omega) w (qH (ρ:=Tryz.keys192_ren) { Tryz.keys192 with } Fence.wide 2 trivial rfl (by omega) b off r _ _ w hbw hcell hown)).mono ?_
       grind
end
end Go.Pf
namespace Go.Pf
open Go Go.Ev Go.Proofs Go.RowKit
variable {K:World->Prop} (hK:∀ w w',K w->Below w.heap.size w w'->K w')
set_option maxRecDepth 8000
theorem J8 {α:Type} {p:List α->Prop} (h0:p []) (h1:∀ l x,p l->p (l++[x])) (l:List α):p l:=by
 have:∀ r:List α,p r.reverse:=by
  intro r
  induction r with
  | _=>grind
 have h:=this l.reverse
 grind
def Qcr:List (Int × Nat)->Int->List (Int × Nat)
 | [],x=>[(x,1)]
 | p::r,x=>if p.1=x then (x,p.2+1)::r else p::Qcr r x
def QdW:List (Int × Nat)->Int->Nat
 | [],_=>0
 | p::r,x=>if p.1=x then p.2 else QdW r x
def JZ (l:List (Int × Nat)):List (MK × IV):=l.map fun p=>(.int .i64 p.1,.int .i64 (p.2:Nat))
theorem Vx (x:Int):∀ l,(Qh (.int .i64 x) (JZ l)).getD (.int .i64 0)=.int .i64 (QdW l x:Nat)
 | []=>rfl
 | p::r=>by
   by_cases h:p.1=x
   ·simp[JZ,Qh,QdW,h]
   ·have:=Vx x r
    simp[JZ,Qh,QdW,h] at this |-;exact this
theorem U5 (x:Int):∀ l,mins (.int .i64 x) (.int .i64 ((QdW l x:Nat)+1)) (JZ l)=JZ (Qcr l x)
 | []=>by simp[JZ,mins,QdW,Qcr]
 | p::r=>by
   by_cases h:p.1=x
   ·simp[JZ,mins,QdW,Qcr,h]
   ·have:=U5 x r
    simp[JZ,mins,QdW,Qcr,h] at this |-;exact this
theorem JA:∀ l,QP (.int .i64) (JZ l)
 | []=>trivial
 | _::r=>⟨rfl,JA r⟩
theorem Qfq (x y:Int):∀ l,QdW (Qcr l x) y<=QdW l y+1
 | []=>by simp[Qcr,QdW];split<;>omega
 | p::r=>by
   unfold Qcr;split
   ·simp only[QdW];grind
   ·simp only[QdW]
    split
    ·omega
    ·exact Qfq x y r
def XE (l:List Int):List (Int × Nat):=l.foldl Qcr []
theorem XT (l:List Int) (x:Int):XE (l++[x])=Qcr (XE l) x:=by simp[XE]
theorem QdV (y:Int):∀ l:List Int,QdW (XE l) y<=l.length:=by
 refine J8 (by simp[XE,QdW]) fun l x ih=>?_
 rw[XT];have:=Qfq x y (XE l);simp;omega
def Xl (l:List Int):List Int:=((XE l).map (·.1)).mergeSort fun x y=>decide (x<=y)
theorem Qfi (x y:Int):∀ l,y∈(Qcr l x).map (·.1)↔y∈l.map (·.1)\/y=x
 | []=>by simp[Qcr]
 | p::r=>by
   unfold Qcr;split
   ·grind
   ·have:=Qfi x y r
    grind
theorem U7 (y:Int):∀ l:List Int,y∈(XE l).map (·.1)↔y∈l:=by
 refine J8 (by simp[XE]) fun l x ih=>?_
 rw[XT,Qfi,ih];simp
theorem Qfj (x:Int):∀ k,(Qcr k x).length<=k.length+1
 | []=>by simp[Qcr]
 | p::r=>by
   have:=Qfj x r;unfold Qcr
   grind
theorem U9:∀ l:List Int,(XE l).length<=l.length:=by
 refine J8 (by simp[XE]) fun l x ih=>?_
 rw[XT];have:=Qfj x (XE l);simp;omega
theorem Wo (y:Int) (l:List Int):y∈Xl l↔y∈l:=by
 unfold Xl;rw[List.mem_mergeSort,U7]
include hK
theorem Qh9 (kvs:List (MK × IV)):Ev.Good Tryz.prog K 192 [.map kvs] (.clo 222 [] [.ptr [.map kvs]]):=by
 refine Qb hK QpJ (by simp) ?_
 simp
omit hK in
theorem Qag (l:List Int) (hw:∀ x∈l,-1000000<=x/\x<=1000000) (hl:l.length<=1000000):Ev.Good Tryz.prog K 191 [.clo 222 [] [.ptr [.map (JZ (XE l))]]] (Q8 (Xl l)):=by
 have hlen:(XE l).length<=l.length:=by
  exact U9 l
 refine Qoe (K:=K) (JZ (XE l)) ((XE l).map (·.1)) (by simp[JZ]) (fun x hx=>?_) (by simp;omega)
 have:=hw x ((U7 x l).1 hx);omega
theorem Qa7 (c:Qj) (hl:c.deeds.length<=1000) (hs:c.sights.length<=1000) (g1:FuncId) (cs1:List IV) (is:Bool) (hg1:OkC c->Ev.Good Tryz.prog K g1 ([.int .i64 (Qn c.deeds),.int .i64 (qy c.deeds)]++cs1) (.bool is)) (hc1:callee Tryz.prog g1=true)
  (g2:FuncId) (cs2:List IV) (v:Nat->Int) (hg2:OkC c->is=true->∀ n∈Qx c,Ev.Good Tryz.prog K g2 ([.agg (XH c.deeds (Zw c.deeds n) (pmC c n))]++cs2) (.int .i64 (v n))) (hc2:callee Tryz.prog g2=true) (hv:OkC c->is=true->∀ n∈Qx c,-1000000<=v n/\v n<=1000000) :
  Ev.Good Tryz.prog K 155 [chV c,.clo g1 [] cs1,.clo g2 [] cs2] (.tup [Q8 (if YF c is=0 then Xl ((Qx c).map v) else []),.int .i64 (YF c is)]):=by
 refine Qb hK Qqa (by simp) ?_
 simp;refine cK (by simpa using Qof hK c (pmC c) (Qg1 hK c) g1 [] cs1 is (fun h=>by simpa using hg1 h) hc1 hl hs) ?_
 by_cases he:YF c is=0
 ·have h1:OkC c:=by
   unfold YF at he
   grind
  have h2:is=true:=by
   unfold YF at he
   grind
  have hlen:(Qx c).length<=4096:=by
   have h1':=QzQ (fun n=>decide ((QW c.deeds c.sights (Zw c.deeds n):Int)<=c.wrong)) (List.range (2 ^ Z3 c.deeds))
   have h2':=X7 (n:=Z3 c.deeds) (by have:=Wg c.deeds;have:=h1.len;omega)
   simp at h1';unfold Qx;omega
  have hG:=hg2 h1 h2;have hV:=hv h1 h2;clear hg2 hv hg1;subst h2;simp[he,h1];refine Za (wy:=.fall) (o':=[(10,.box [.oref 21]),(21,.mapd (JZ (XE ((Qx c).map v))))]) rfl (by kernel_rfl) (V0 hK c h1 (pmC c) (Qg1 hK c h1)) ?_ ?_
  ·have:=UF.all (P:=Tryz.prog) (K:=K) (ps:=[24]) (asn:=Qbs) (body:=Qew) (ks:=[5,10]) (ids:=[10,21]) (eK:=[(5,.iv (.ptr [.clo g2 [] cs2])),(10,.loc 10 0)]) ((Qx c).map (Xd c.deeds (pmC c)))
    (fun i=>[(10,.box [.oref 21]),(21,.mapd (JZ (XE (((Qx c).map v).take i))))]) fun i x hi=>by
    simp only[Qzu,Qzo] at hi;obtain ⟨y,hy,rfl⟩:=hi;have hlt:=(Qzl.1 hy).1
    have hyv:((Qx c).map v)[i]'(by simpa using hlt)=v y:=by
     grind
    have hg:=hG y (QzB hy);refine ⟨rfl,?_⟩;rw[Qzn (by simpa using hlt),XT,hyv]
    have hle:=QdV (v y) (((Qx c).map v).take i);have hkk:=JA (XE (((Qx c).map v).take i));have hf:=Vx (v y) (XE (((Qx c).map v).take i));have hi:=U5 (v y) (XE (((Qx c).map v).take i));have hle2:(((Qx c).map v).take i).length<=4096:=by simp;omega
    generalize XE (((Qx c).map v).take i)=kv at *;simp[Xd,Qbs,Qew];refine ⟨hc2,cK (by simpa using hg) ?_⟩
    simp[hkk,hf,hi];omega
   simpa[XE,JZ,Qzt] using this
  ·simp
   refine cK (by simpa using Qh9 hK (JZ (XE ((Qx c).map v)))) ?_
   simp;refine cK (Qag ((Qx c).map v) (fun x hx=>?_) (by simp;omega)) ?_
   ·grind
   ·simp
 ·by_cases h1:OkC c<;>cases is<;>simp[he,h1]
def QaB (c:Qj) (pos:Int) (n:Nat):Int:=((cab c.deeds (Zw c.deeds n) c.deeds.length).getD pos.toNat 0:Nat)
theorem QoT (c:Qj) (pos:Int) (hl:c.deeds.length<=1000) (hs:c.sights.length<=1000) :
  Ev.Good Tryz.prog K 113 [chV c,.int .i64 pos] (.tup [Q8 (if YF c (decide (inR pos 0 (Qn c.deeds-1)))=0 then Xl ((Qx c).map (QaB c pos)) else []),.int .i64 (YF c (decide (inR pos 0 (Qn c.deeds-1))))]):=by
 refine Qb hK QqJ (by simp) ?_
 simp;refine cK (by simpa using QdN hK pos) ?_
 simp
 have hcl:∀ n,OkC c->((cab c.deeds (Zw c.deeds n) c.deeds.length).length:Int)=Qn c.deeds:=fun n h=>by
  rw[Xr _ h.deeds _ (Qzq _) (Qzq _)];rfl
 have hg:=Qa7 hK c hl hs 193 [.ptr [.int .i64 pos]] (decide (inR pos 0 (Qn c.deeds-1))) (fun h=>by
   have:=hcl 0 h;have h2:=h.deeds.cnt c.deeds.length (Qzq _) (Qzq _);have h3:=Xr (Zw c.deeds 0) h.deeds c.deeds.length (Qzq _) (Qzq _);simpa using QdL hK (Qn c.deeds) (qy c.deeds) pos (by omega)) (by kernel_rfl) 157 [.ptr [.int .i64 pos]] (QaB c pos) (fun h hi n _=>by
   have h3:=hcl n h;have hi:=of_decide_eq_true hi;simp only[inR] at hi;have h4:pos=((pos.toNat:Nat):Int):=by omega
   have h5:pos.toNat<(cab c.deeds (Zw c.deeds n) c.deeds.length).length:=by omega
   have h6:=Qow hK c.deeds (Zw c.deeds n) (pmC c n) hl pos.toNat h5;rw[<- h4] at h6;have h7:(cab c.deeds (Zw c.deeds n) c.deeds.length).getD pos.toNat 0=(cab c.deeds (Zw c.deeds n) c.deeds.length)[pos.toNat]:=by grind
   unfold QaB
   grind) (by kernel_rfl) (fun h hi n _=>by
   have h3:=hcl n h;have hi:=of_decide_eq_true hi;simp only[inR] at hi;have h5:pos.toNat<(cab c.deeds (Zw c.deeds n) c.deeds.length).length:=by omega
   have h7:(cab c.deeds (Zw c.deeds n) c.deeds.length).getD pos.toNat 0=(cab c.deeds (Zw c.deeds n) c.deeds.length)[pos.toNat]:=by grind
   have h8:=Qaq c.deeds (Zw c.deeds n) c.deeds.length _ (Qzr h5);have h9:=Qng c.deeds c.deeds.length;unfold QaB;omega)
 refine cK (by simpa using hg) ?_
 simp
omit hK in
theorem Y6 (x:Int):Xl [x]=[x]:=by simp[Xl,XE,Qcr]
omit hK in
theorem Qf5 (c:Qj) (hc:OkC c) (h2:Z3 c.deeds=0) (hs:c.sights=[]):Qx c=[0]:=by
 have:=hc.wrong;simp only[inR] at this;simp[Qx,h2,hs,QW,this]
omit hK
def stW (w:Qd):List IV:=[.agg (weC w)]
theorem Un:∀ rest:List ZP,(∀ l∈rest,l.hi-l.lo<=9)->(QB rest).length<=10 ^ rest.length
 | [],_=>by simp[QB]
 | l::r,h=>by
   have h1:=Un r fun x hx=>h x (by simp[hx])
   have h2:=QeP (fun i:Nat=>(QB r).map ((l.lo+(i:Nat))::·)) (10 ^ r.length) (fun i=>by simpa using h1) (l.hi+1-l.lo).toNat
   have h3:=h l (by simp)
   have h4:(l.hi+1-l.lo).toNat*10 ^ r.length<=10*10 ^ r.length:=QzN _ (by omega)
   simp only[QB,Qzv,Nat.pow_succ];omega
theorem Qni {c:Sea} (hc:Qf c):(Qkl c).length<=100000:=by
 have h1:=Un (X4 c).levers (fun l hl=>by
  simp at hl;obtain ⟨a,b,hm,rfl⟩:=hl;have:=Zb (hc.waters _ hm);simp at this |-;omega)
 have h2:=Zb hc.wear;simp only at h2;have h3:=Q6 (fun s:List Int=>(List.range ((X4 c).lhi+1-(X4 c).llo).toNat).map fun k:Nat=>(⟨[]++s,(X4 c).llo+k⟩:Qd)) 10 (QB (X4 c).levers) (fun a _=>by simp;omega)
 have h4:10 ^ (X4 c).levers.length<=10 ^ 4:=Qz0 (by omega) (by have:=hc.nw;simpa using this)
 have e:(Qkl c).length=((QB (X4 c).levers).flatMap fun s:List Int=>(List.range ((X4 c).lhi+1-(X4 c).llo).toNat).map fun k:Nat=>(⟨[]++s,(X4 c).llo+k⟩:Qd)).length:=rfl
 rw[e];omega
theorem Qmt {c:Sea} (hc:Qf c):(wTr c).length<=100000:=QzT (QzQ _ _) (Qni hc)
theorem QbJ {c:Sea} {w:Qd} (h:w∈wTr c):okW c w:=QgV ((QAo.1 h).1)
section
variable {K:World->Prop}
theorem Ww {c:Sea} {ks:Env} (hks:Q1 [2,3] [0,3] ks=[(2,.iv (.ptr [.ptr (Yt c)])),(3,.loc 3 0)]) :
  ∀ (Ls:List Qd) (s:Ext) (b:Bool) (s':Ext),Zz Tryz.prog K ((Ls.filter (isW c)).map stW) s b s' ->
   ∃ wy,(wy=.fall\/wy=.ret)/\UF Tryz.prog K [8,9] VB qn [2,3] [0,3] (Q1 [2,3] [0,3] ks) (Ls.map (Vm c)) [(0,.ext s),(3,.box [.cb 0])] wy [(0,.ext s'),(3,.box [.cb 0])]
 | [],s,b,s',h=>by
   cases h;exact ⟨.fall,.inl rfl,.nil _⟩
 | t::Ls,s,b,s',h=>by
   by_cases ht:(Xk c c.gauges t:Int)<=c.wrong
   ·rw[QAr (by simpa[isW] using ht)] at h
    cases h with
    | stop _ _ _ _ hg =>
      refine ⟨.ret,.inr rfl,.stop _ _ _ _ _ (by simp) ?_⟩
      rw[hks];refine ⟨rfl,?_⟩;simp[Vm,VB,qn,ht];refine ZI (by simpa[stW] using hg) rfl ?_
      simp
    | next _ _ _ s1 _ _ hg hr =>
      obtain ⟨wy,h1,h2⟩:=Ww hks Ls s1 b s' hr;refine ⟨wy,h1,.next _ _ _ _ _ _ ?_ h2⟩;rw[hks];refine ⟨rfl,?_⟩;simp[Vm,VB,qn,ht];refine ZI (by simpa[stW] using hg) rfl ?_
      simp
   ·rw[QAs (by simpa[isW] using ht)] at h
    obtain ⟨wy,h1,h2⟩:=Ww hks Ls s b s' h;refine ⟨wy,h1,.next _ _ _ _ _ _ ?_ h2⟩;rw[hks];refine ⟨rfl,?_⟩;simp[Vm,VB,qn,ht]
end
noncomputable def tW (c:Sea) (is:Bool):Int:=if Qf c then (if is=true then (if wTr c=[] then 3 else 0) else 1) else 90
theorem Qno {c:Sea} {is:Bool} (h:tW c is=0):Qf c/\is=true/\wTr c≠[]:=by
 unfold tW at h
 grind
def loD (l:List Int):Int:=(Xl l).getD 0 0
def hiD (l:List Int):Int:=(Xl l).getD ((Xl l).length-1) 0
theorem QaJ {l:List Int} (h:l≠[]):Xl l≠[]:=by
 obtain ⟨x,hx⟩:=List.exists_mem_of_ne_nil l h;exact List.ne_nil_of_mem ((Wo x l).2 hx)
include hK
theorem QdC (c:Sea) (hc:Qf c):Qbz Tryz.prog K 195 [.ptr (Yt c)] [] ((wTr c).map stW):=by
 intro s b s' hfd;refine Q5 QpG (by simp) hfd.v rfl ?_
 obtain ⟨wy,h1,h2⟩:=Ww (c:=c) (ks:=[(2,.iv (.ptr [.ptr (Yt c)])),(3,.loc 3 0)]) rfl (Qkl c) s b s' hfd;simp;refine Za (wy:=wy) (o':=[(0,.ext s'),(3,.box [.cb 0])]) rfl (by kernel_rfl) (QnP hK c hc) (by simpa using h2) ?_
 rcases h1 with rfl | rfl<;>simp
theorem Qic (c:Sea) (is:Bool):Ev.Good Tryz.prog K 163 [VQ c,.bool is] (.tup [if tW c is=0 then .ptr (Yt c) else .nilp,.int .i64 (tW c is)]):=by
 refine Qb hK Qp2 (by simp) ?_
 simp;refine cK (by simpa using Qik hK c) ?_
 by_cases h1:Qf c
 ·cases is
  ·simp[h1,tW]
  ·simp[h1]
   cases hL:wTr c with
   | nil =>
     refine Za (wy:=.fall) (o':=[(4,.box [.iv .nilp]),(5,.box [.iv (.int .i64 0)]),(7,.box [.iv (.ptr (Yt c))])]) rfl (by kernel_rfl) (QdC hK c h1) (by rw[hL];simpa using UF.nil _) ?_
     simp[tW,h1,hL]
   | cons a r =>
     refine Za (wy:=.ret) (o':=[(4,.box [.iv (.ptr (Yt c))]),(5,.box [.iv (.int .i64 0)]),(7,.box [.iv (.ptr (Yt c))])]) rfl (by kernel_rfl) (QdC hK c h1) (by
      rw[hL];refine .stop _ _ _ _ _ (by simp) ?_
      refine ⟨rfl,?_⟩;simp[stW,QfH,QjQ]) ?_
     simp[tW,h1,hL]
 ·simp[h1,tW]
theorem Qoc (c:Sea) (hc:Qf c) (g:FuncId) (fs cs:List IV) (v:Qd->Int) (hg:∀ w∈wTr c,Ev.Good Tryz.prog K g (fs++[.agg (weC w)]++cs) (.int .i64 (v w))) (hcl:callee Tryz.prog g=true) (hv:∀ w∈wTr c,-1000000<=v w/\v w<=1000000) :
  Ev.Good Tryz.prog K 196 [.ptr (Yt c),.clo g fs cs] (Q8 (Xl ((wTr c).map v))):=by
 refine Qb hK QpF (by simp) ?_
 have hlen:=Qmt hc;simp;refine Za (wy:=.fall) (o':=[(5,.box [.oref 7]),(7,.mapd (JZ (XE ((wTr c).map v))))]) rfl (by kernel_rfl) (QdC hK c hc) ?_ ?_
 ·have:=UF.all (P:=Tryz.prog) (K:=K) (ps:=[10]) (asn:=Qbp) (body:=Qeh) (ks:=[3,5]) (ids:=[5,7]) (eK:=[(3,.iv (.ptr [.clo g fs cs])),(5,.loc 5 0)]) ((wTr c).map stW)
   (fun i=>[(5,.box [.oref 7]),(7,.mapd (JZ (XE (((wTr c).map v).take i))))]) fun i x hi=>by
   simp only[Qzu,Qzo] at hi;obtain ⟨y,hy,rfl⟩:=hi;have hlt:=(Qzl.1 hy).1
   have hyv:((wTr c).map v)[i]'(by simpa using hlt)=v y:=by
    grind
   have hgy:=hg y (QzB hy);rw[QzC] at hgy;refine ⟨rfl,?_⟩;rw[Qzn (by simpa using hlt),XT,hyv]
   have hle:=QdV (v y) (((wTr c).map v).take i);have hkk:=JA (XE (((wTr c).map v).take i));have hf:=Vx (v y) (XE (((wTr c).map v).take i));have hi:=U5 (v y) (XE (((wTr c).map v).take i));have hle2:(((wTr c).map v).take i).length<=100000:=by simp;omega
   generalize XE (((wTr c).map v).take i)=kv at *;simp[stW,Qbp,Qeh];refine ⟨hcl,cK (by simpa using hgy) ?_⟩
   simp[hkk,hf,hi];omega
  simpa[XE,JZ,Qzt] using this
 ·simp
  refine cK (by simpa using Qh9 hK (JZ (XE ((wTr c).map v)))) ?_
  simp;refine cK (Qag ((wTr c).map v) (fun x hx=>?_) (by simp;omega)) ?_
  ·grind
  ·simp
theorem Qib (c:Sea) (hc:Qf c) (hne:wTr c≠[]) (g:FuncId) (fs cs:List IV) (v:Qd->Int) (hg:∀ w∈wTr c,Ev.Good Tryz.prog K g (fs++[.agg (weC w)]++cs) (.int .i64 (v w))) (hcl:callee Tryz.prog g=true) (hv:∀ w∈wTr c,-1000000<=v w/\v w<=1000000) :
  Ev.Good Tryz.prog K 164 [.ptr (Yt c),.clo g fs cs] (.agg [.int .i64 (loD ((wTr c).map v)),.int .i64 (hiD ((wTr c).map v))]):=by
 refine Qb hK Qp1 (by simp) ?_
 have hs:=QaJ (l:=(wTr c).map v) (by simpa using hne)
 have hl:0<(Xl ((wTr c).map v)).length:=List.length_pos_iff.2 hs
 have hll:(Xl ((wTr c).map v)).length<=100000:=by
  have h1:=U9 ((wTr c).map v);have h2:=Qmt hc;unfold Xl;simp at h1 |-;omega
 simp;refine cK (by simpa using Qoc hK c hc g fs cs v hg hcl hv) ?_
 unfold loD hiD;generalize Xl ((wTr c).map v)=L at *;have e:(L.length:Int)-1=((L.length-1:Nat):Int):=by omega
 have hl1:L.length-1<L.length:=by omega
 simp[hl,hl1,e]
 (repeat' first | omega | (with_reducible apply And.intro) | intro _)
 try grind
theorem Qob (c:Sea) (k:Nat) (w:Qd) (hc:Qf c) (hw:okW c w) (hk:k<=c.voys.length):Ev.Good Tryz.prog K 197 [.agg (weC w),.ptr [.ptr (Yt c)],.ptr [.int .i64 k]] (.int .i64 (QH c w k)):=by
 refine Qb hK QpE (by simp) ?_
 simp;exact cK (by simpa using QdM hK c w k hc hw hk) (by simp)
theorem Qos (c:Sea) (k:Nat) (w:Qd) (hc:Qf c) (hw:okW c w) (hk:k<=c.voys.length):Ev.Good Tryz.prog K 165 [.agg (weC w),.ptr [.ptr (Yt c)],.ptr [.int .i64 k]] (.int .i64 (Ze c (QH c w k))):=by
 refine Qb hK Qp0 (by simp) ?_
 simp;refine cK (by simpa using QdM hK c w k hc hw hk) ?_
 simp;exact cK (by simpa using Qor hK c _ hc (ZA hc hw k)) (by simp)
theorem Qoq (c:Sea) (k:Nat) (hk:k<=c.voys.length):Ev.Good Tryz.prog K 170 [VQ c,.int .i64 k]
  (.tup [if tW c true=0 then .agg [.int .i64 (loD ((wTr c).map fun w=>QH c w k)),.int .i64 (hiD ((wTr c).map fun w=>QH c w k))] else .agg [.int .i64 0,.int .i64 0],.int .i64 (tW c true)]):=by
 refine Qb hK QpW (by simp) ?_
 have hin:inR (k:Int) 0 c.voys.length:=by simp only[inR];omega
 simp;refine cK (by simpa[hin] using QdP hK c k) ?_
 simp;refine cK (by simpa using Qic hK c true) ?_
 by_cases he:tW c true=0
 ·obtain ⟨hc,_,hne⟩:=Qno he
  simp[he];refine cK (by simpa using Qib hK c hc hne 197 [] [.ptr [.ptr (Yt c)],.ptr [.int .i64 k]] (fun w=>QH c w k) (fun w hw=>by simpa using Qob hK c k w hc (QbJ hw) hk) (by kernel_rfl) (fun w hw=>by have:=ZA hc (QbJ hw) k;omega)) ?_
  simp
 ·simp[he]
theorem Qij (c:Sea) (k:Nat) (hk:k<=c.voys.length):Ev.Good Tryz.prog K 118 [VQ c,.int .i64 k]
  (.tup [if tW c true=0 then .agg [.int .i64 (loD ((wTr c).map fun w=>Ze c (QH c w k))),.int .i64 (hiD ((wTr c).map fun w=>Ze c (QH c w k)))] else .agg [.int .i64 0,.int .i64 0],.int .i64 (tW c true)]):=by
 refine Qb hK QqF (by simp) ?_
 have hin:inR (k:Int) 0 c.voys.length:=by simp only[inR];omega
 simp;refine cK (by simpa[hin] using QdP hK c k) ?_
 simp;refine cK (by simpa using Qic hK c true) ?_
 by_cases he:tW c true=0
 ·obtain ⟨hc,_,hne⟩:=Qno he
  simp[he];refine cK (by simpa using Qib hK c hc hne 165 [] [.ptr [.ptr (Yt c)],.ptr [.int .i64 k]] (fun w=>Ze c (QH c w k)) (fun w hw=>by simpa using Qos hK c k w hc (QbJ hw) hk) (by kernel_rfl) (fun w hw=>by have:=XR hc (ZA hc (QbJ hw) k);omega)) ?_
  simp
 ·simp[he]
omit hK
def QgP (c:Qj) (pos:Int) (n:Nat):Int:=(Xz c.deeds ((cab c.deeds (Zw c.deeds n) c.deeds.length).getD pos.toNat 0)).bar
def ZB (c:Qj) (pos:Int) (n:Nat):Int:=(Xz c.deeds ((cab c.deeds (Zw c.deeds n) c.deeds.length).getD pos.toNat 0)).smith
def Y2 (c:Qj) (link:Int) (n:Nat):Int:=(((Qh (.int .i64 link) (prf c.deeds (Zw c.deeds n) c.deeds.length)).getD []).length:Nat)
theorem Qff {ds:List Qr} (hc:OkD ds ds.length) (k:Nat) (hk:k<(ZY ds).length):inR (Xz ds k).bar 0 99/\inR (Xz ds k).smith 0 99:=by
 rw[<- VX ds k hk];have hm:=QAo.1 (Qzr hk);obtain ⟨i,hi,e⟩:=QzV hm.1;have hd:=hc i hi hi;rw[e] at hd;have hw:(ZY ds)[k].what=1:=by simpa[Q3] using hm.2
 rcases hd with h | h | h
 ·grind
 ·grind
 ·grind
theorem Wb {ds:List Qr} (e:Nat->Int) (n:Nat) (hn:n<(cab ds e ds.length).length):(cab ds e ds.length)[n]<(ZY ds).length:=by
 have h1:=Qaq ds e ds.length _ (Qzr hn);have h2:=UW ds ds.length;rw[Jy];omega
theorem Qb8 (k:MK):∀ kvs:List (MK × List (List IV)),(Qh k (kvs.map fun p=>(p.1,IV.sl 1 p.2))).getD (.sl 1 [])=.sl 1 ((Qh k kvs).getD [])
 | []=>rfl
 | p::r=>by
   by_cases h:p.1=k
   ·simp[Qh,h]
   ·simpa[Qh,h] using Qb8 k r
theorem q8 {kk:KK}:∀ kvs:List (MK × List (List IV)),QP kk kvs->QP kk (kvs.map fun p=>(p.1,IV.sl 1 p.2))
 | [],_=>trivial
 | _::r,h=>⟨h.1,q8 r h.2⟩
include hK
theorem Qid (ds:List Qr) (e:Nat->Int) (pm:IV) (hl:ds.length<=1000) (n:Nat) (hn:n<(cab ds e ds.length).length) :
  Ev.Good Tryz.prog K 162 [.agg (XH ds e pm),.int .i64 n] (.agg (lkC (Xz ds (cab ds e ds.length)[n]))):=by
 refine Qb hK Qp3 (by simp) ?_
 have h1:=Wb e n hn;have hm:=VX ds _ h1;simp;refine cK (by simpa using Qie hK ds e pm hl) ?_
 rw[<- hm];simp[hn,h1]
 try omega
theorem Qog (ds:List Qr) (e:Nat->Int) (pm:IV) (hl:ds.length<=1000) (n:Nat) (hn:n<(cab ds e ds.length).length) :
  Ev.Good Tryz.prog K 188 [.agg (XH ds e pm),.ptr [.int .i64 n]] (.int .i64 (Xz ds (cab ds e ds.length)[n]).bar):=by
 refine Qb hK QpL (by simp) ?_
 simp;exact cK (by simpa using Qid hK ds e pm hl n hn) (by simp)
theorem Qot (ds:List Qr) (e:Nat->Int) (pm:IV) (hl:ds.length<=1000) (n:Nat) (hn:n<(cab ds e ds.length).length) :
  Ev.Good Tryz.prog K 161 [.agg (XH ds e pm),.ptr [.int .i64 n]] (.int .i64 (Xz ds (cab ds e ds.length)[n]).smith):=by
 refine Qb hK Qp4 (by simp) ?_
 simp;exact cK (by simpa using Qid hK ds e pm hl n hn) (by simp)
theorem Qox (c:Qj) (pos:Int) (hl:c.deeds.length<=1000) (hs:c.sights.length<=1000) :
  Ev.Good Tryz.prog K 154 [chV c,.int .i64 pos] (.tup [Q8 (if YF c (decide (inR pos 0 (Qn c.deeds-1)))=0 then Xl ((Qx c).map (QgP c pos)) else []),.int .i64 (YF c (decide (inR pos 0 (Qn c.deeds-1))))]):=by
 refine Qb hK Qqb (by simp) ?_
 simp;refine cK (by simpa using QdN hK pos) ?_
 simp
 have hcl:∀ n,OkC c->((cab c.deeds (Zw c.deeds n) c.deeds.length).length:Int)=Qn c.deeds:=fun n h=>by
  rw[Xr _ h.deeds _ (Qzq _) (Qzq _)];rfl
 have hg:=Qa7 hK c hl hs 193 [.ptr [.int .i64 pos]] (decide (inR pos 0 (Qn c.deeds-1))) (fun h=>by
   have h2:=h.deeds.cnt c.deeds.length (Qzq _) (Qzq _);simpa using QdL hK (Qn c.deeds) (qy c.deeds) pos (by unfold Qn;omega)) (by kernel_rfl) 188 [.ptr [.int .i64 pos]] (QgP c pos) (fun h hi n _=>by
   have h3:=hcl n h;have hi:=of_decide_eq_true hi;simp only[inR] at hi;have h4:pos=((pos.toNat:Nat):Int):=by omega
   have h5:pos.toNat<(cab c.deeds (Zw c.deeds n) c.deeds.length).length:=by omega
   have h6:=Qog hK c.deeds (Zw c.deeds n) (pmC c n) hl pos.toNat h5;rw[<- h4] at h6;have h7:(cab c.deeds (Zw c.deeds n) c.deeds.length).getD pos.toNat 0=(cab c.deeds (Zw c.deeds n) c.deeds.length)[pos.toNat]:=by grind
   unfold QgP;rw[h7];exact h6) (by kernel_rfl) (fun h hi n _=>by
   have h3:=hcl n h;have hi:=of_decide_eq_true hi;simp only[inR] at hi;have h5:pos.toNat<(cab c.deeds (Zw c.deeds n) c.deeds.length).length:=by omega
   have h7:(cab c.deeds (Zw c.deeds n) c.deeds.length).getD pos.toNat 0=(cab c.deeds (Zw c.deeds n) c.deeds.length)[pos.toNat]:=by grind
   have h8:=Qff h.deeds _ (Wb _ _ h5);unfold QgP;rw[h7];simp only[inR] at h8;omega)
 exact cK (by simpa using hg) (by simp)
theorem QoR (c:Qj) (pos:Int) (hl:c.deeds.length<=1000) (hs:c.sights.length<=1000) :
  Ev.Good Tryz.prog K 115 [chV c,.int .i64 pos] (.tup [Q8 (if YF c (decide (inR pos 0 (Qn c.deeds-1)))=0 then Xl ((Qx c).map (ZB c pos)) else []),.int .i64 (YF c (decide (inR pos 0 (Qn c.deeds-1))))]):=by
 refine Qb hK QqH (by simp) ?_
 simp;refine cK (by simpa using QdN hK pos) ?_
 simp
 have hcl:∀ n,OkC c->((cab c.deeds (Zw c.deeds n) c.deeds.length).length:Int)=Qn c.deeds:=fun n h=>by
  rw[Xr _ h.deeds _ (Qzq _) (Qzq _)];rfl
 have hg:=Qa7 hK c hl hs 193 [.ptr [.int .i64 pos]] (decide (inR pos 0 (Qn c.deeds-1))) (fun h=>by
   have h2:=h.deeds.cnt c.deeds.length (Qzq _) (Qzq _);simpa using QdL hK (Qn c.deeds) (qy c.deeds) pos (by unfold Qn;omega)) (by kernel_rfl) 161 [.ptr [.int .i64 pos]] (ZB c pos) (fun h hi n _=>by
   have h3:=hcl n h;have hi:=of_decide_eq_true hi;simp only[inR] at hi;have h4:pos=((pos.toNat:Nat):Int):=by omega
   have h5:pos.toNat<(cab c.deeds (Zw c.deeds n) c.deeds.length).length:=by omega
   have h6:=Qot hK c.deeds (Zw c.deeds n) (pmC c n) hl pos.toNat h5;rw[<- h4] at h6;have h7:(cab c.deeds (Zw c.deeds n) c.deeds.length).getD pos.toNat 0=(cab c.deeds (Zw c.deeds n) c.deeds.length)[pos.toNat]:=by grind
   unfold ZB;rw[h7];exact h6) (by kernel_rfl) (fun h hi n _=>by
   have h3:=hcl n h;have hi:=of_decide_eq_true hi;simp only[inR] at hi;have h5:pos.toNat<(cab c.deeds (Zw c.deeds n) c.deeds.length).length:=by omega
   have h7:(cab c.deeds (Zw c.deeds n) c.deeds.length).getD pos.toNat 0=(cab c.deeds (Zw c.deeds n) c.deeds.length)[pos.toNat]:=by grind
   have h8:=Qff h.deeds _ (Wb _ _ h5);unfold ZB;rw[h7];simp only[inR] at h8;omega)
 exact cK (by simpa using hg) (by simp)
theorem Qou (c:Qj) (hc:OkC c) (link:Int) (n:Nat):Ev.Good Tryz.prog K 160 [.agg (XH c.deeds (Zw c.deeds n) (pmC c n)),.ptr [.int .i64 link]] (.int .i64 (Y2 c link n)):=by
 refine Qb hK Qp5 (by simp) ?_
 have h1:=QaX c.deeds (Zw c.deeds n) hc.deeds c.deeds.length (Qzq _);have h2:=h1.len (.int .i64 link);have h3:=q8 _ h1.1;have h4:=Qb8 (.int .i64 link) (prf c.deeds (Zw c.deeds n) c.deeds.length);have h12:=hc.len;have h5:c.deeds.length*c.deeds.length<=12*12:=QAK h12 h12;unfold Y2;simp[pmC];rw[h4];simp[h3]
 try omega
theorem Qod (left all link:Int) (h:0<=all/\all<=1000000):Ev.Good Tryz.prog K 194 [.int .i64 left,.int .i64 all,.ptr [.int .i64 link]] (.bool (decide (inR link 0 (all-1)))):=by
 refine Qb hK QpH (by simp) ?_
 simp
 repeat' first | omega | intro _ | apply And.intro
 refine cK (Xp hK _ _ _) ?_;simp
theorem Qov (link:Int):Ev.Good Tryz.prog K 159 [.int .i64 link] (.clo 194 [] [.ptr [.int .i64 link]]):=by
 refine Qb hK Qp6 (by simp) ?_
 simp
theorem QoS (c:Qj) (link:Int) (hl:c.deeds.length<=1000) (hs:c.sights.length<=1000) :
  Ev.Good Tryz.prog K 114 [chV c,.int .i64 link] (.tup [if YF c (decide (inR link 0 ((qy c.deeds:Int)-1)))=0 then .agg [.int .i64 (loD ((Qx c).map (Y2 c link))),.int .i64 (hiD ((Qx c).map (Y2 c link)))] else .agg [.int .i64 0,.int .i64 0],.int .i64 (YF c (decide (inR link 0 ((qy c.deeds:Int)-1))))]):=by
 refine Qb hK QqI (by simp) ?_
 simp;refine cK (by simpa using Qov hK link) ?_
 simp;have hal:qy c.deeds<=c.deeds.length:=QzQ _ _
 have hg:=Qa7 hK c hl hs 194 [.ptr [.int .i64 link]] (decide (inR link 0 ((qy c.deeds:Int)-1))) (fun h=>by
   simpa using Qod hK (Qn c.deeds) (qy c.deeds) link (by omega)) (by kernel_rfl) 160 [.ptr [.int .i64 link]] (Y2 c link) (fun h hi n _=>by
   simpa using Qou hK c h link n) (by kernel_rfl) (fun h hi n _=>by
   have h1:=QaX c.deeds (Zw c.deeds n) h.deeds c.deeds.length (Qzq _);have h2:=h1.len (.int .i64 link);have h12:=h.len;have h5:c.deeds.length*c.deeds.length<=12*12:=QAK h12 h12;unfold Y2;omega)
 refine cK (by simpa using hg) ?_
 by_cases he:YF c (decide (inR link 0 ((qy c.deeds:Int)-1)))=0
 ·have hr:Qx c≠[]:=by
   unfold YF at he
   grind
  have hs:=QaJ (l:=(Qx c).map (Y2 c link)) (by simpa using hr)
  have hl:0<(Xl ((Qx c).map (Y2 c link))).length:=List.length_pos_iff.2 hs
  have hll:(Xl ((Qx c).map (Y2 c link))).length<=(2 ^ Z3 c.deeds):=by
   have h1:=U9 ((Qx c).map (Y2 c link));have h2:=QzQ (fun n=>decide ((QW c.deeds c.sights (Zw c.deeds n):Int)<=c.wrong)) (List.range (2 ^ Z3 c.deeds))
   unfold Xl;unfold Qx at *;simp at h1 h2 |-;omega
  have h12:c.deeds.length<=12:=by
   unfold YF at he;have:OkC c:=by grind
   exact this.len
  have hp:=X7 (n:=Z3 c.deeds) (by have:=Wg c.deeds;omega)
  simp[he];unfold loD hiD;generalize Xl ((Qx c).map (Y2 c link))=L at *;have e:(L.length:Int)-1=((L.length-1:Nat):Int):=by omega
  have hl1:L.length-1<L.length:=by omega
  simp[hl,hl1,e]
  try (repeat' first | omega | (with_reducible apply And.intro) | intro _)
  try grind
 ·simp[he]
omit hK
structure QJ where
 chain:Qj
 sea:Sea
 plo:Int
 phi:Int
 flo:Int
 fhi:Int
 rlo:Int
 rhi:Int
 part:Int
 marks:List (Int × Int)
 broke:Int
 pth:Int
 deriving DecidableEq
@[simp] def Qr2 (l:QJ):List IV:=[ZS l.marks,.int .i64 l.broke,.int .i64 l.pth]
@[simp] def lsC (l:QJ):List IV:=[QD l.chain.deeds,Qy l.chain.sights,.int .i64 l.chain.wrong,.int .i64 l.sea.thick,.int .i64 l.sea.str,ZS l.sea.waters,.int .i64 l.sea.wlo,.int .i64 l.sea.whi,ZS l.sea.voys,V5 l.sea.gauges,.int .i64 l.sea.wrong,
 .int .i64 l.plo,.int .i64 l.phi,.int .i64 l.flo,.int .i64 l.fhi,.int .i64 l.rlo,.int .i64 l.rhi,.int .i64 l.part,ZS l.marks,.int .i64 l.broke,.int .i64 l.pth]
@[simp] def lsV (l:QJ):IV:=.agg (lsC l)
def Zc (lo hi most:Int):Prop:=inR lo 0 hi/\hi<=most
instance (lo hi most:Int):Decidable (Zc lo hi most):=by unfold Zc;infer_instance
def UP (m:Int × Int):Bool:=!decide (inR m.1 (-1) 99)||!decide (inR m.2 (-1) 99)
structure OkL (l:QJ):Prop where
 chain:OkC l.chain
 sea:Qf l.sea
 pull:Zc l.plo l.phi 99999
 flaw:Zc l.flo l.fhi 100
 rated:Zc l.rlo l.rhi 99999
 part:inR l.part 1 100
 mlen:inR (l.marks.length:Int) 1 8
 marks:∀ m∈l.marks,UP m=false
 broke:inR l.broke 0 ((l.marks.length:Int)-1)
 pth:inR l.pth (-1) 500
 long:(l.marks.length:Int)<=Qn l.chain.deeds
noncomputable instance (l:QJ):Decidable (OkL l):=Classical.propDecidable _
include hK
theorem Vr (n a b:Int):Ev.Good Tryz.prog K 86 [.int .i64 n,.int .i64 a,.int .i64 b] (.bool (decide (inR n a b))):=by
 refine Qb hK Qtt (by simp) ?_
 by_cases h1:a<=n
 ·simp[h1,inR]
 ·simp[h1,inR]
theorem QdS (a b m:Int):Ev.Good Tryz.prog K 107 [.agg [.int .i64 a,.int .i64 b],.int .i64 m] (.bool (decide (Zc a b m))):=by
 refine Qb hK QqQ (by simp) ?_
 simp;refine cK (Vr hK _ _ _) ?_;by_cases h1:inR a 0 b
 ·simp[h1,Zc]
 ·simp[h1,Zc]
theorem QoX (m:Int × Int):Ev.Good Tryz.prog K 104 [.agg (spC m)] (.bool (UP m)):=by
 refine Qb hK QqT (by simp) ?_
 simp;refine cK (Vr hK _ _ _) ?_;by_cases h1:inR m.1 (-1) 99
 ·simp[h1]
  exact cK (Vr hK _ _ _) (by simp[UP,h1])
 ·simp[h1,UP]
theorem Qoy (l:List (Int × Int)) (g:FuncId) (p:Int × Int->Bool) (hg:∀ x,Ev.Good Tryz.prog K g [.agg (spC x)] (.bool (p x))) (hc:callee Tryz.prog g=true) (hl:l.length<=1000):Ev.Good Tryz.prog K 150 [ZS l,.fn g] (.int .i64 (fi p l)):=by
 refine Qb hK Qqe (by simp) ?_
 simp;intro _;refine Qu (fun i=>[(0,AV.iv (ZS l)),(1,AV.iv (.fn g)),(7,AV.iv (.int .i64 l.length)),(8,AV.iv (IV.int IntKind.i64 (i:Nat)))]) (fun _=>[]) l.length (fun i=>∀ x∈l.take i,p x=false) (by simp) ?_ ?_
 ·intro h
  rw[Qa Qez.eq_1];rw[QzG] at h;simp[V8 p l h]
 ·intro i hi h ih
  rw[Qa Qez.eq_1];have hgi:=hg l[i];simp[hi] at ih |-;refine ⟨hc,cK (by simpa using hgi) ?_⟩
  by_cases hp:p l[i]=true
  ·simp[hp,Qgo p l i hi hp h]
  ·have hp':p l[i]=false:=by simpa using hp
   simp[hp'];refine ⟨by omega,ih ?_⟩
   rw[Qzn hi]
   grind
theorem QoW (l:List (Int × Int)) (g:FuncId) (p:Int × Int->Bool) (hg:∀ x,Ev.Good Tryz.prog K g [.agg (spC x)] (.bool (p x))) (hc:callee Tryz.prog g=true) (hl:l.length<=1000):Ev.Good Tryz.prog K 108 [ZS l,.fn g] (.bool (l.any p)):=by
 refine Qb hK QqP (by simp) ?_
 simp;refine cK (by simpa using Qoy hK l g p hg hc hl) ?_
 simp[YC]
theorem Qsx (l:QJ) (hd:l.chain.deeds.length<=1000) (hs:l.chain.sights.length<=1000):Ev.Good Tryz.prog K 83 [lsV l] (.int .i64 (if OkL l then 0 else 100)):=by
 refine Qb hK Qtw (by simp) ?_
 have no:∀ q:Prop,(OkL l->q)->¬ q->¬ OkL l:=fun q h1 h2 h=>h2 (h1 h)
 simp;refine cK (by simpa using Qa9 hK l.chain hd hs) ?_
 by_cases h1:OkC l.chain
 ·simp[h1]
  refine cK (by simpa using Qik hK l.sea) ?_
  by_cases h2:Qf l.sea
  ·simp[h2]
   refine cK (QdS hK _ _ _) ?_;by_cases h3:Zc l.plo l.phi 99999
   ·simp[h3]
    refine cK (QdS hK _ _ _) ?_;by_cases h4:Zc l.flo l.fhi 100
    ·simp[h4]
     refine cK (QdS hK _ _ _) ?_;by_cases h5:Zc l.rlo l.rhi 99999
     ·simp[h5]
      refine cK (Vr hK _ _ _) ?_;by_cases h6:inR l.part 1 100
      ·simp[h6]
       intro _;refine cK (Vr hK _ _ _) ?_;by_cases h7:inR (l.marks.length:Int) 1 8
       ·have h7':=h7
        simp only[inR] at h7';simp[h7];refine cK (by simpa using QoW hK l.marks 104 UP (QoX hK) (by kernel_rfl) (by omega)) ?_
        by_cases h8:l.marks.any UP=false
        ·simp only[h8]
         simp
         (repeat' first | omega | (with_reducible apply And.intro) | intro _)
         refine cK (Vr hK _ _ _) ?_;by_cases h9:inR l.broke 0 ((l.marks.length:Int)-1)
         ·simp[h9]
          refine cK (Vr hK _ _ _) ?_;by_cases h10:inR l.pth (-1) 500
          ·simp[h10]
           refine cK (by simpa using QdR hK l.chain hd hs) ?_
           simp[h1];by_cases h11:(l.marks.length:Int)<=Qn l.chain.deeds
           ·have:OkL l:=⟨h1,h2,h3,h4,h5,h6,h7,by simpa using h8,h9,h10,h11⟩
            have h11':¬ Qn l.chain.deeds<l.marks.length:=by omega
            simp[h11',this]
           ·have:=no _ OkL.long h11
            have h11':Qn l.chain.deeds<l.marks.length:=by omega
            simp[h11',this]
          ·have:=no _ OkL.pth h10
           simp[h10,this]
         ·have:=no _ OkL.broke h9
          simp[h9,this]
        ·have:=no _ OkL.marks (by simpa using h8)
         have h8':l.marks.any UP=true:=by simpa using h8
         simp only[h8',this];simp
       ·have:=no _ OkL.mlen h7
        simp[h7,this]
      ·have:=no _ OkL.part h6
       simp[h6,this]
     ·have:=no _ OkL.rated h5
      simp[h5,this]
    ·have:=no _ OkL.flaw h4
     simp[h4,this]
   ·have:=no _ OkL.pull h3
    simp[h3,this]
  ·have:=no _ OkL.sea h2
   simp[h2,this]
 ·have:=no _ OkL.chain h1
  simp[h1,this]
theorem QoU (l:List Int) (e:Int) (h:l≠[]):Ev.Good Tryz.prog K 112 [Q8 l,.int .i64 e] (.int .i64 (l.getD 0 0)):=by
 refine Qb hK QqK (by simp) ?_
 have h0:0<l.length:=List.length_pos_iff.2 h;simp[h0]
end Go.Pf
namespace Go.Pf
open Go Go.Ev Go.Proofs Go.RowKit Go.ChangeShapes Go.WideShapes Go.Proofs.YtmjdnhobojjjaaaGreatDoor
theorem own:ownKnob Tryz.prog.godebug=none:=by kernel_rfl
theorem QhQ:laidOutB Tryz.prog=true:=by kernel_rfl
noncomputable def WY (os:Os):World:=World.laidAll Tryz.prog os Rows.topBlamedRow.laid
theorem QkL (os:Os) (args:Array Value):laidMet Tryz.prog Rows.topBlamedRow.laid ((WY os).forCall (fun _ _=>0) ⟨#[],args,[]⟩).memory :=
 laidMet_laidAll args (by kernel_rfl) (by kernel_rfl)
def Qax (es:List Sh) (row:List IV):Prop:=∀ (j:Nat) (s:Sh) (x:IV),es[j]?=some s->row[j]?=some x->UR s x
abbrev shI:Sh:=Sh.int IntKind.i64
theorem QmF (n:Nat):∀ rows:List (List IV),(∀ row∈rows,row.length=n)->(∀ row∈rows,Qax (List.replicate n shI) row)->∃ fs:List (List Int),rows=fs.map (fun l=>l.map fun x=>.int .i64 x)/\∀ l∈fs,l.length=n
 | [],_,_=>⟨[],rfl,by simp⟩
 | row::rows,hrl,hr=>by
   obtain ⟨fs,hfs,hl⟩:=QmF n rows (fun r hr'=>hrl r (by simp[hr'])) (fun r hr'=>hr r (by simp[hr']))
   have h1:=hrl row (by simp)
   have h2:=hr row (by simp)
   have key:∀ row:List IV,(∀ x∈row,UR shI x)->∃ l:List Int,row=l.map (fun x=>.int .i64 x)/\l.length=row.length:=fun row=>by
    induction row with
    | nil=>exact fun _=>⟨[],rfl,rfl⟩
    | cons x r ih =>
      intro h;obtain ⟨l,e,hl⟩:=ih fun y hy=>h y (by simp[hy])
      have hx:=h x (by simp)
      cases hx with
      | int _ m _ _=>exact ⟨m::l,by simp[<- e],by simp[hl]⟩
   obtain ⟨l,e,hll⟩:=key row fun x hx=>by
    obtain ⟨k,hk,rfl⟩:=QzV hx;exact h2 k shI row[k] (by simp[<- h1,hk]) (by simp[hk])
   exact ⟨l::fs,by simp[hfs,e],fun x hx=>by
    rcases Qz1.1 hx with rfl | hx
    ·omega
    ·exact hl x hx⟩
theorem QaN {α:Type} {n:Nat} {c:α->List IV} (g:List Int->α) (hg:∀ l:List Int,l.length=n->c (g l)=l.map fun x=>.int .i64 x) {rows:List (List IV)} (h1:∀ row∈rows,row.length=n) (h2:∀ row∈rows,Qax (List.replicate n shI) row):∃ fs:List α,rows=fs.map c:=by
 obtain ⟨fs,rfl,hl⟩:=QmF n rows h1 h2;refine ⟨fs.map g,?_⟩;rw[List.map_map];exact QAN fun l h=>(hg l (hl l h)).symm
theorem Qf4 (rows:List (List IV)):(∀ row∈rows,row.length=5)->(∀ row∈rows,Qax [shI,shI,shI,shI,shI] row)->∃ fs:List Qr,rows=fs.map dC :=
 QaN (n:=5) (fun l=>⟨l.getD 0 0,l.getD 1 0,l.getD 2 0,l.getD 3 0,l.getD 4 0⟩) fun l h=>match l,h with
  | [_,_,_,_,_],_=>rfl
theorem Qdd (rows:List (List IV)):(∀ row∈rows,row.length=5)->(∀ row∈rows,Qax [shI,shI,shI,shI,shI] row)->∃ fs:List YZ,rows=fs.map sC :=
 QaN (n:=5) (fun l=>⟨l.getD 0 0,l.getD 1 0,l.getD 2 0,l.getD 3 0,l.getD 4 0⟩) fun l h=>match l,h with
  | [_,_,_,_,_],_=>rfl
theorem VR (rows:List (List IV)):(∀ row∈rows,row.length=2)->(∀ row∈rows,Qax [shI,shI] row)->∃ fs:List (Int × Int),rows=fs.map spC :=
 QaN (n:=2) (fun l=>⟨l.getD 0 0,l.getD 1 0⟩) fun l h=>match l,h with
  | [_,_],_=>rfl
theorem Qde (rows:List (List IV)):(∀ row∈rows,row.length=3)->(∀ row∈rows,Qax [shI,shI,shI] row)->∃ fs:List (Int × Int × Int),rows=fs.map gaC :=
 QaN (n:=3) (fun l=>⟨l.getD 0 0,l.getD 1 0,l.getD 2 0⟩) fun l h=>match l,h with
  | [_,_,_],_=>rfl
theorem Qvg:shp Tryz.prog 7 74=some [.sl 40 [shI,shI,shI,shI,shI],.sl 40 [shI,shI,shI,shI,shI],shI,shI,shI,.sl 16 [shI,shI],shI,shI,.sl 16 [shI,shI],.sl 24 [shI,shI,shI],shI,shI,shI,shI,shI,shI,shI,shI,.sl 16 [shI,shI],shI,shI]:=by kernel_rfl
theorem Qva:∃ fs,Tryz.prog.underlying 74=some (.struct fs):=⟨_,Tryz.underlying74⟩
set_option maxRecDepth 100000 in
theorem Qmd {x:IV} (h:QgI Tryz.prog 74 x):∃ l,x=lsV l:=by
 obtain ⟨ss,h1,h2⟩:=h;rw[Qvg] at h1;injection h1 with h1
 subst h1;obtain ⟨fs',hu⟩:=Qva;rw[hu] at h2;obtain ⟨xs,rfl,hl,hf⟩:=h2
 match xs,hl with
 | [a0,a1,a2,a3,a4,a5,a6,a7,a8,a9,a10,a11,a12,a13,a14,a15,a16,a17,a18,a19,a20],_ =>
   have h0:=hf 0 _ a0 rfl rfl;have h1:=hf 1 _ a1 rfl rfl;have h2:=hf 2 _ a2 rfl rfl;have h3:=hf 3 _ a3 rfl rfl;have h4:=hf 4 _ a4 rfl rfl;have h5:=hf 5 _ a5 rfl rfl;have h6:=hf 6 _ a6 rfl rfl;have h7:=hf 7 _ a7 rfl rfl;have h8:=hf 8 _ a8 rfl rfl;have h9:=hf 9 _ a9 rfl rfl;have h10:=hf 10 _ a10 rfl rfl;have h11:=hf 11 _ a11 rfl rfl;have h12:=hf 12 _ a12 rfl rfl;have h13:=hf 13 _ a13 rfl rfl;have h14:=hf 14 _ a14 rfl rfl;have h15:=hf 15 _ a15 rfl rfl;have h16:=hf 16 _ a16 rfl rfl;have h17:=hf 17 _ a17 rfl rfl;have h18:=hf 18 _ a18 rfl rfl;have h19:=hf 19 _ a19 rfl rfl;have h20:=hf 20 _ a20 rfl rfl;cases h0 with
   | sl _ _ rows0 _ _ hrl0 hr0 =>
   cases h1 with
   | sl _ _ rows1 _ _ hrl1 hr1 =>
   cases h2 with
   | int _ n2 _ _ =>
   cases h3 with
   | int _ n3 _ _ =>
   cases h4 with
   | int _ n4 _ _ =>
   cases h5 with
   | sl _ _ rows5 _ _ hrl5 hr5 =>
   cases h6 with
   | int _ n6 _ _ =>
   cases h7 with
   | int _ n7 _ _ =>
   cases h8 with
   | sl _ _ rows8 _ _ hrl8 hr8 =>
   cases h9 with
   | sl _ _ rows9 _ _ hrl9 hr9 =>
   cases h10 with
   | int _ n10 _ _ =>
   cases h11 with
   | int _ n11 _ _ =>
   cases h12 with
   | int _ n12 _ _ =>
   cases h13 with
   | int _ n13 _ _ =>
   cases h14 with
   | int _ n14 _ _ =>
   cases h15 with
   | int _ n15 _ _ =>
   cases h16 with
   | int _ n16 _ _ =>
   cases h17 with
   | int _ n17 _ _ =>
   cases h18 with
   | sl _ _ rows18 _ _ hrl18 hr18 =>
   cases h19 with
   | int _ n19 _ _ =>
   cases h20 with
   | int _ n20 _ _ =>
   obtain ⟨l0,rfl⟩:=Qf4 rows0 hrl0 hr0;obtain ⟨l1,rfl⟩:=Qdd rows1 hrl1 hr1;obtain ⟨l5,rfl⟩:=VR rows5 hrl5 hr5;obtain ⟨l8,rfl⟩:=VR rows8 hrl8 hr8;obtain ⟨l9,rfl⟩:=Qde rows9 hrl9 hr9;obtain ⟨l18,rfl⟩:=VR rows18 hrl18 hr18;exact ⟨⟨⟨l0,l1,n2⟩,⟨n3,n4,l5,n6,n7,l8,l9,n10⟩,n11,n12,n13,n14,n15,n16,n17,l18,n19,n20⟩,rfl⟩
set_option maxRecDepth 100000
theorem QhT {P:Program} {f:FuncId} {fn:Func} {s:ChangeSpec} {c:OpenClaim}
  (k1:c.wf (OpenSpec.ofChange s)=true) (k2:laidOutB P=true) (k3:mapsRowed P=true) (k4:fn.params.all (P.readableRec ·)=true) (k5:namedTie P c.named s.vars=true)
  (k6:(c.stops==[])=true) (k7:(P.stops==[])=true) (k8:(c.knobs==[])=true) (k9:(P.stopKnobs==[])=true)
  (k10:(c.inPlace==P.inPlace f)=true) (k11:(c.unfollowed==P.unfollowed f)=true) (k12:(c.recurses==P.recurses f)=true) (k13:(c.named==P.varsNamed f)=true)
  (k14:(c.maps==(fn.params.toList++s.plain.varTypes P).any (P.mapsRec ·))=true) (k15:(c.ifaces==(fn.params.toList++s.plain.varTypes P).any (P.ifacesRec ·))=true) (k16:(c.mapsOut==P.mapsAmong fn.resultTypes.toList)=true)
  (k17:(c.loops==(fn.params.toList++s.plain.varTypes P).any (P.loopsFrom ·))=true) (k17b:(c.wideKeys==(fn.params.toList++s.plain.varTypes P++fn.resultTypes.toList).any (P.wideKeysFrom ·))=true)
  (k18:s.vars.all (P.varReadable ·)=true) (k19:fn.resultTypes.all (fun t=>P.readableRec t&&decide (t<P.types.size))=true) (k20:(c.ifacesOut==fn.resultTypes.toList.any (P.ifacesRec ·))=true) (k21:(c.loopsOut==fn.resultTypes.toList.any (P.loopsFrom ·))=true)
  (k22:(c.plainKeys==P.plainKeys)=true) (k23:c.shortTexts.isNone=true) (k23b:P.stopsHeard=true) (k24:P.mayEnter=true) (k24b:(c.lifted==P.liftsFinal)=true) (k24c:(P.make==some c.make)=true)
  (k25:(c.kinds==(if c.domain.isEmpty then [] else fn.params.toList.map fun t=>match P.underlying t with | some (.int k)=>some k | _=>none))=true) (k26:(c.pinned==c.pinnedBy)=true)
  (k27:(c.veiled==(fn.params.toList++s.plain.varTypes P++fn.resultTypes.toList).any (P.veiledRec ·))=true) (k28:c.veiledFits P fn.params.toList (fn.params.toList++s.plain.varTypes P++fn.resultTypes.toList)=true):joinedFacts P f fn s c=true:=by
 simp only[joinedFacts,Qzm];exact ⟨⟨⟨⟨⟨⟨⟨⟨⟨⟨⟨⟨⟨⟨⟨⟨⟨⟨⟨⟨⟨⟨⟨⟨⟨⟨⟨⟨⟨⟨⟨k1,k2⟩,k3⟩,k4⟩,k5⟩,k6⟩,k7⟩,k8⟩,k9⟩,k10⟩,k11⟩,k12⟩,k13⟩,k14⟩,k15⟩,k16⟩,k17⟩,k17b⟩,k18⟩,k19⟩,k20⟩,k21⟩,k22⟩,k23⟩,k23b⟩,k24⟩,k24b⟩,k24c⟩,k25⟩,k26⟩,k27⟩,k28⟩
theorem QvQ:mapsRowed Tryz.prog=true:=by kernel_rfl
theorem QvP:(Tryz.prog.stops==[])=true:=by kernel_rfl
theorem QvO:(Tryz.prog.stopKnobs==[])=true:=by kernel_rfl
theorem Qo0:Tryz.prog.stopsHeard=true:=by kernel_rfl
theorem Qs9:Tryz.prog.mayEnter=true:=by kernel_rfl
theorem QvM:(Rows.topBlamedRow.plainKeys==Tryz.prog.plainKeys)=true:=by kernel_rfl
theorem Qs8:(Rows.topBlamedRow.lifted==Tryz.prog.liftsFinal)=true:=by kernel_rfl
theorem QvL:(Tryz.prog.make==some Rows.topBlamedRow.make)=true:=by kernel_rfl
theorem Qs7:Tryz.pinned.checked.prog.looks []=false:=by kernel_rfl
end Go.Pf
namespace Go.Pf
open Go Go.Ev Go.Proofs Go.RowKit
variable {K:World->Prop} (hK:∀ w w',K w->Below w.heap.size w w'->K w')
set_option maxRecDepth 8000
include hK
theorem Jk (x a b:Int):Ev.Good Tryz.prog K 76 [.int .i64 x,.int .i64 a,.int .i64 b] (.bool (decide (inR x a b))):=by
 refine Qb hK QtD (by simp) ?_
 simp;exact cK (QmV hK x a b) (by simp)
theorem QmS (s:Int × Int):Ev.Good Tryz.prog K 77 [.agg (spC s)] (.bool (!QZ s)):=by
 refine Qb hK QtC (by simp) ?_
 simp;refine cK (by simpa using Jk hK s.1 0 s.2) ?_
 by_cases h1:inR s.1 0 s.2
 ·simp[h1,QZ]
  try grind
 ·simp[h1,QZ]
theorem QsB (c:Sea) (n:Int) (hl:c.waters.length<=1000):Ev.Good Tryz.prog K 78 [VQ c,.int .i64 n] (.bool (decide (inR n 0 ((c.waters.length:Int)-1)))):=by
 refine Qb hK QtB (by simp) ?_
 simp
 (repeat' first | omega | (with_reducible apply And.intro) | intro _)
 exact cK (by simpa using Jk hK n 0 _) (by simp)
theorem QsA (c:Sea) (n:Int) (hl:c.voys.length<=1000):Ev.Good Tryz.prog K 79 [VQ c,.int .i64 n] (.bool (decide (inR n 0 c.voys.length))):=by
 refine Qb hK QtA (by simp) ?_
 simp
 (repeat' first | omega | (with_reducible apply And.intro) | intro _)
 exact cK (by simpa using Jk hK n 0 _) (by simp)
theorem QmY (c:Sea) (h1000:c.waters.length<=1000) (hv1:c.voys.length<=1000) (hg1:c.gauges.length<=1000):Ev.Good Tryz.prog K 49 [VQ c] (.int .i64 (if Qf c then 0 else 90)):=by
 refine Qb hK QtW (by simp) ?_
 have no:∀ q:Prop,(Qf c->q)->¬ q->¬ Qf c:=fun q h1 h2 h=>h2 (h1 h)
 simp;refine cK (by simpa using Jk hK c.thick 1 500) ?_
 by_cases h1:inR c.thick 1 500
 case neg=>simp[h1,no _ Qf.thick h1]
 simp[h1];refine cK (by simpa using Jk hK c.str 1 999) ?_
 by_cases h2:inR c.str 1 999
 case neg=>simp[h2,no _ Qf.str h2]
 simp[h2]
 (repeat' first | omega | (with_reducible apply And.intro) | intro _)
 by_cases h3:c.waters.length<=4
 case neg =>
  have h3':(4:Int)<c.waters.length:=by omega
  simp[h3',no _ Qf.nw h3]
  try (intros;omega)
 have h3':¬ (4:Int)<c.waters.length:=by omega
 simp[h3'];refine cK (by simpa using QmS hK (c.wlo,c.whi)) ?_
 by_cases h4:QZ (c.wlo,c.whi)=false
 case neg =>
  have h4':QZ (c.wlo,c.whi)=true:=by simpa using h4
  simp[h4',no _ Qf.wear h4]
 simp[h4]
 (repeat' first | omega | (with_reducible apply And.intro) | intro _)
 by_cases h5:c.voys.length<=8
 case neg =>
  have h5':(8:Int)<c.voys.length:=by omega
  simp[h5',no _ Qf.nv h5]
  try (intros;omega)
 have h5':¬ (8:Int)<c.voys.length:=by omega
 simp[h5']
 (repeat' first | omega | (with_reducible apply And.intro) | intro _)
 by_cases h6:c.gauges.length<=6
 case neg =>
  have h6':(6:Int)<c.gauges.length:=by omega
  simp[h6',no _ Qf.ng h6]
  try (intros;omega)
 have h6':¬ (6:Int)<c.gauges.length:=by omega
 simp[h6'];refine cK (by simpa using Jk hK c.wrong 0 6) ?_
 by_cases h7:inR c.wrong 0 6
 case neg=>simp[h7,no _ Qf.wrong h7]
 simp[h7];refine Qu (fun i=>[(1,.iv (.ptr (Yt c))),(3,.iv (.int .i64 (i:Nat)))]) (fun _=>[]) c.waters.length (fun i=>∀ x∈c.waters.take i,QZ x=false) (by simp) ?_ ?_
 case refine_2 =>
  intro i hi hq ih;rw[Qa QjH.eq_1];have hi':(i:Int)<(c.waters.length:Int):=by omega
  simp[hi,hi']
  (repeat' first | omega | (with_reducible apply And.intro) | intro _)
  refine cK (by simpa using QmS hK c.waters[i]) ?_
  cases hb:QZ c.waters[i]
  ·simp at ih |-
   refine ⟨by omega,ih ?_⟩
   intro a b hx;rw[Qzn hi] at hx;rcases QzD.1 hx with h | h
   ·exact hq _ h
   ·rw[QzK] at h
    rw[h];exact hb
  ·have:=no _ Qf.waters (fun h=>by rw[h _ (Qzr hi)] at hb;cases hb)
   simp[this]
 intro hqw;rw[Qa QjH.eq_1];simp
 (repeat' first | omega | (with_reducible apply And.intro) | intro _)
 refine Qu (fun i=>[(1,.iv (.ptr (Yt c))),(4,.iv (.int .i64 (i:Nat)))]) (fun _=>[]) c.voys.length (fun i=>∀ x∈c.voys.take i,YE c.waters.length x=false) (by simp) ?_ ?_
 case refine_2 =>
  intro i hi hq ih;rw[Qa QjG.eq_1];have hi':(i:Int)<(c.voys.length:Int):=by omega
  simp[hi,hi']
  (repeat' first | omega | (with_reducible apply And.intro) | intro _)
  refine cK (by simpa using QsB hK c c.voys[i].1 h1000) ?_
  have bad:YE c.waters.length c.voys[i]=true->¬ Qf c:=fun hb=>no _ Qf.voys (fun h=>by rw[h _ (Qzr hi)] at hb;cases hb)
  by_cases ha:inR c.voys[i].1 0 ((c.waters.length:Int)-1)
  case neg =>
   have:=bad (by simp[YE,ha])
   simp[ha,this]
  simp[ha,hi];refine cK (by simpa using Jk hK c.voys[i].2 0 36) ?_
  by_cases hb:inR c.voys[i].2 0 36
  case neg =>
   have:=bad (by simp[YE,hb])
   simp[hb,this]
  simp[hb] at ih |-;refine ⟨by omega,ih ?_⟩
  intro a b hx;rw[Qzn hi] at hx;rcases QzD.1 hx with h | h
  ·exact hq _ h
  ·rw[QzK] at h
   rw[h];simp[YE,ha,hb]
 intro hqv;rw[Qa QjG.eq_1];simp
 (repeat' first | omega | (with_reducible apply And.intro) | intro _)
 refine Qu (fun i=>[(1,.iv (.ptr (Yt c))),(5,.iv (.int .i64 (i:Nat)))]) (fun _=>[]) c.gauges.length (fun i=>∀ x∈c.gauges.take i,XU c.voys.length x=false) (by simp) ?_ ?_
 case refine_2 =>
  intro i hi hq ih;rw[Qa QjF.eq_1];have hi':(i:Int)<(c.gauges.length:Int):=by omega
  simp[hi,hi']
  (repeat' first | omega | (with_reducible apply And.intro) | intro _)
  refine cK (by simpa using QsA hK c c.gauges[i].1 hv1) ?_
  have bad:XU c.voys.length c.gauges[i]=true->¬ Qf c:=fun hb=>no _ Qf.gauges (fun h=>by rw[h _ (Qzr hi)] at hb;cases hb)
  by_cases ha:inR c.gauges[i].1 0 c.voys.length
  case neg =>
   have:=bad (by simp[XU,ha])
   simp[ha,this]
  simp[ha];refine cK (by simpa using Jk hK c.gauges[i].2.1 0 500) ?_
  by_cases hb:inR c.gauges[i].2.1 0 500
  case neg =>
   have:=bad (by simp[XU,hb])
   simp[hb,this]
  simp[hb];refine cK (by simpa using Jk hK c.gauges[i].2.2 0 500) ?_
  by_cases hc:inR c.gauges[i].2.2 0 500
  case neg =>
   have:=bad (by simp[XU,hc])
   simp[hc,this]
  simp[hc] at ih |-;refine ⟨by omega,ih ?_⟩
  intro a b d hx;rw[Qzn hi] at hx;rcases QzD.1 hx with h | h
  ·exact hq _ h
  ·rw[QzK] at h
   rw[h];simp[XU,ha,hb,hc]
 ·intro hqg
  rw[Qa QjF.eq_1];rw[QzG] at hqw hqv hqg;have hok:Qf c:=⟨h1,h2,h7,h3,h4,hqw,h5,hqv,h6,hqg⟩;simp[hok]
 all_goals
  have q1:=Qf.nw ‹Qf c›;have q2:=Qf.nv ‹Qf c›;have q3:=Qf.ng ‹Qf c›;omega
theorem QsI (c:Sea) (hw:c.waters.length<=1000) (hv:c.voys.length<=1000) (hg:c.gauges.length<=1000):Ev.Good Tryz.prog K 58 [VQ c] (VQ c):=by
 refine Qb hK QtN (by simp) ?_
 simp;omega
theorem QsZ (l:QJ) (hd:l.chain.deeds.length<=1000) (hs:l.chain.sights.length<=1000) (hw:l.sea.waters.length<=1000) (hv:l.sea.voys.length<=1000) (hg:l.sea.gauges.length<=1000) (hm:l.marks.length<=1000):Ev.Good Tryz.prog K 23 [lsV l] (lsV l):=by
 refine Qb hK Qud (by simp) ?_
 simp;refine cK (by simpa using QsJ hK l.chain hd hs) ?_
 simp;refine cK (by simpa using QsI hK l.sea hw hv hg) ?_
 simp;omega
theorem W8 (x a b:Int):Ev.Good Tryz.prog K 51 [.int .i64 x,.int .i64 a,.int .i64 b] (.bool (decide (inR x a b))):=by
 refine Qb hK QtU (by simp) ?_
 simp;exact cK (Xv hK x a b) (by simp)
theorem Qh6 (a b m:Int):Ev.Good Tryz.prog K 50 [.agg [.int .i64 a,.int .i64 b],.int .i64 m] (.bool (decide (Zc a b m))):=by
 refine Qb hK QtV (by simp) ?_
 by_cases h1:0<=a
 ·by_cases h2:a<=b
  ·simp[h1,h2,Zc,inR]
  ·simp[h1,h2,Zc,inR]
 ·simp[h1,Zc,inR]
theorem QsO (a b:Int) (h:0<=a/\a<=b/\b<=1000000):Ev.Good Tryz.prog K 47 [.agg [.int .i64 a,.int .i64 b]] (.int .i64 (b-a+1)):=by
 refine Qb hK QtY (by simp) ?_
 simp;omega
theorem QsN (c:Qj) (hd:c.deeds.length<=1000) (hs:c.sights.length<=1000):Ev.Good Tryz.prog K 48 [chV c] (.tup [.int .i64 (if OkC c then Qn c.deeds else 0),.int .i64 (if OkC c then 0 else 20)]):=by
 refine Qb hK QtX (by simp) ?_
 simp;refine cK (by simpa using QmT hK c hd hs) ?_
 by_cases h:OkC c
 case neg=>simp[h]
 simp[h];refine cK (by simpa using Qh5 hK c.deeds hd) ?_
 have hg:=XQ c.deeds c.deeds.length c.deeds.length (by omega)
 simp[h.deeds]
 (repeat' first | omega | (with_reducible apply And.intro) | intro _)
 simp[hg,Qn]
theorem Qh8 (l:QJ) (hd:l.chain.deeds.length<=1000) (hs:l.chain.sights.length<=1000) (hw:l.sea.waters.length<=1000) (hv:l.sea.voys.length<=1000) (hg:l.sea.gauges.length<=1000) (hm:l.marks.length<=1000):Ev.Good Tryz.prog K 20 [lsV l] (.int .i64 (if OkL l then 0 else 100)):=by
 refine Qb hK Qug (by simp) ?_
 have no:∀ q:Prop,(OkL l->q)->¬ q->¬ OkL l:=fun q h1 h2 h=>h2 (h1 h)
 simp;refine cK (by simpa using QsN hK l.chain hd hs) ?_
 by_cases h1:OkC l.chain
 case neg=>simp[h1,no _ OkL.chain h1]
 simp[h1];refine cK (by simpa using QmY hK l.sea hw hv hg) ?_
 by_cases h2:Qf l.sea
 case neg=>simp[h2,no _ OkL.sea h2]
 simp[h2];refine cK (by simpa using Qh6 hK l.plo l.phi 99999) ?_
 by_cases h3:Zc l.plo l.phi 99999
 case neg=>simp[h3,no _ OkL.pull h3]
 simp[h3];refine cK (by simpa using Qh6 hK l.flo l.fhi 100) ?_
 by_cases h4:Zc l.flo l.fhi 100
 case neg=>simp[h4,no _ OkL.flaw h4]
 simp[h4];refine cK (by simpa using Qh6 hK l.rlo l.rhi 99999) ?_
 by_cases h5:Zc l.rlo l.rhi 99999
 case neg=>simp[h5,no _ OkL.rated h5]
 simp[h5];refine cK (by simpa using W8 hK l.part 1 100) ?_
 by_cases h6:inR l.part 1 100
 case neg=>simp[h6,no _ OkL.part h6]
 simp[h6]
 (repeat' first | omega | (with_reducible apply And.intro) | intro _)
 generalize hM:(if Qn l.chain.deeds<8 then Qn l.chain.deeds else 8)=M
 have hMi:inR (l.marks.length:Int) 1 M↔inR (l.marks.length:Int) 1 8/\(l.marks.length:Int)<=Qn l.chain.deeds:=by
  rw[<- hM];simp only[inR];split<;>omega
 refine cK (by simpa using W8 hK l.marks.length 1 M) ?_
 by_cases h7:inR (l.marks.length:Int) 1 M
 case neg =>
  have:=no _ (fun h=>hMi.2 ⟨OkL.mlen h,OkL.long h⟩) h7
  simp[h7,this]
 have h8:=hMi.1 h7;have h9:=h8.1;simp only[inR] at h9;simp[h7]
 (repeat' first | omega | (with_reducible apply And.intro) | intro _)
 refine cK (by simpa using W8 hK l.broke 0 ((l.marks.length:Int)-1)) ?_
 by_cases ha:inR l.broke 0 ((l.marks.length:Int)-1)
 case neg=>simp[ha,no _ OkL.broke ha]
 simp[ha];refine cK (by simpa using W8 hK l.pth (-1) 500) ?_
 by_cases hb:inR l.pth (-1) 500
 case neg=>simp[hb,no _ OkL.pth hb]
 simp[hb];refine Qu (fun i=>[(5,.loc 5 0),(6,.iv (.int .i64 (i:Nat)))]) (fun _=>[(5,.box [.iv (ZS l.marks),.iv (.int .i64 l.broke),.iv (.int .i64 l.pth)])]) l.marks.length (fun i=>∀ x∈l.marks.take i,UP x=false) (by simp) ?_ ?_
 case refine_2 =>
  intro i hi hq ih;rw[Qa QjN.eq_1];have hi':(i:Int)<(l.marks.length:Int):=by omega
  have bad:UP l.marks[i]=true->¬ OkL l:=fun hb=>no _ OkL.marks (fun h=>by rw[h _ (Qzr hi)] at hb;cases hb)
  simp[hi,hi']
  (repeat' first | omega | (with_reducible apply And.intro) | intro _)
  refine cK (by simpa using W8 hK l.marks[i].1 (-1) 99) ?_
  by_cases hc:inR l.marks[i].1 (-1) 99
  case neg =>
   have:=bad (by simp[UP,hc])
   simp[hc,this]
  simp[hc,hi];refine cK (by simpa using W8 hK l.marks[i].2 (-1) 99) ?_
  by_cases he:inR l.marks[i].2 (-1) 99
  case neg =>
   have:=bad (by simp[UP,he])
   simp[he,this]
  simp[he] at ih |-;refine ⟨by omega,ih ?_⟩
  intro a b hx;rw[Qzn hi] at hx;rcases QzD.1 hx with h | h
  ·exact hq _ h
  ·rw[QzK] at h
   rw[h];simp[UP,hc,he]
 intro hqm;rw[Qa QjN.eq_1];rw[QzG] at hqm;have hok:OkL l:=⟨h1,h2,h3,h4,h5,h6,h8.1,hqm,ha,hb,h8.2⟩;simp[hok]
omit hK
def wid (s:Int × Int):Int:=s.2-s.1+1
def QbH (c:Sea) (i:Nat):Int:=wid (c.wlo,c.whi)*QX wid (c.waters.take i)
def QgO (c:Sea):Prop:=40<c.waters.length\/40<c.voys.length\/40<c.gauges.length\/(Qf c/\100<QbH c c.waters.length)
noncomputable instance (c:Sea):Decidable (QgO c):=Classical.propDecidable _
theorem We (c:Sea) (i:Nat) (h:i<c.waters.length):QbH c (i+1)=QbH c i*wid c.waters[i]:=by
 unfold QbH;rw[q0 _ _ _ h,Int.mul_assoc]
theorem Qmr {s:Int × Int} (h:QZ s=false):1<=wid s/\wid s<=10:=by
 have:=Zb h;unfold wid;omega
theorem Qc4 {c:Sea} (hc:Qf c):∀ i:Nat,i<=c.waters.length->1<=QbH c i/\QbH c i<=10*10 ^ i
 | 0,_=>by
   have:=Qmr hc.wear;simpa[QbH,QX] using this
 | i+1,h=>by
   have ih:=Qc4 hc i (by omega)
   have h2:=Qmr (hc.waters _ (Qzr (show i<c.waters.length from h)))
   rw[We c i h];have h3:=QzW ih.2 h2.2 (by omega) (by omega)
   have h4:=QzW ih.1 h2.1 (by omega) (by omega)
   rw[Int.pow_succ];omega
def Qm0 (l:QJ):Prop:=Qkd l.chain\/QgO l.sea\/40<l.marks.length\/(OkL l/\(40<QbH l.sea l.sea.waters.length\/160<wid (l.plo,l.phi)\/160<wid (l.rlo,l.rhi)\/160<wid (l.plo,l.phi)*wid (l.flo,l.fhi)*wid (l.rlo,l.rhi)))
noncomputable instance (l:QJ):Decidable (Qm0 l):=Classical.propDecidable _
include hK
theorem QsP (c:Sea):Ev.Good Tryz.prog K 46 [VQ c] (.bool (decide (QgO c))):=by
 refine Qb hK QtZ (by simp) ?_
 by_cases h1:c.waters.length<=40
 case neg =>
  have h1':(40:Int)<c.waters.length:=by omega
  have:QgO c:=.inl (by omega)
  simp[h1',this]
 have h1':¬ (40:Int)<c.waters.length:=by omega
 by_cases h2:c.voys.length<=40
 case neg =>
  have h2':(40:Int)<c.voys.length:=by omega
  have:QgO c:=.inr (.inl (by omega))
  simp[h1',h2',this]
 have h2':¬ (40:Int)<c.voys.length:=by omega
 by_cases h3:c.gauges.length<=40
 case neg =>
  have h3':(40:Int)<c.gauges.length:=by omega
  have:QgO c:=.inr (.inr (.inl (by omega)))
  simp[h1',h2',h3',this]
 have h3':¬ (40:Int)<c.gauges.length:=by omega
 simp[h1',h2',h3'];intros;refine cK (by simpa using QmY hK c (by omega) (by omega) (by omega)) ?_
 by_cases h4:Qf c
 case neg =>
  have:¬ QgO c:=by
   rintro (h | h | h | h)
   ·omega
   ·omega
   ·omega
   ·exact h4 h.1
  simp[h4,this]
 have hwr:=Zb h4.wear;simp[h4]
 (repeat' first | omega | (with_reducible apply And.intro) | intro _)
 have e0:c.whi-c.wlo+1=QbH c 0:=by simp[QbH,wid,QX]
 rw[e0];refine Qu (fun i=>[(1,.iv (.ptr (Yt c))),(3,.iv (.int .i64 (QbH c i))),(4,.iv (.int .i64 (i:Nat)))]) (fun _=>[]) c.waters.length (fun _=>True) trivial ?_ ?_
 case refine_2 =>
  intro i hi _ ih;have hb:=Qc4 h4 (i+1) hi
  have hp:(10:Int) ^ (i+1)<=10000:=by
   have:i=0\/i=1\/i=2\/i=3:=by have:=h4.nw;omega
   rcases this with rfl | rfl | rfl | rfl<;>decide
  have hsp:=Zb (h4.waters _ (Qzr hi));have hws:=We c i hi;rw[hws] at ih hb;have ew:wid c.waters[i]=c.waters[i].2-c.waters[i].1+1:=rfl;rw[ew] at ih hb;rw[Qa QjI.eq_1];have hi':(i:Int)<(c.waters.length:Int):=by omega
  simp[hi,hi'] at ih |-;exact fun _=>⟨by omega,by omega,by omega,by omega,ih⟩
 intro _;rw[Qa QjI.eq_1]
 have e:decide (QgO c)=decide (100<QbH c c.waters.length):=by
  refine decide_eq_decide.2 ⟨fun h=>?_,fun h=>.inr (.inr (.inr ⟨h4,h⟩))⟩
  rcases h with h | h | h | h
  ·omega
  ·omega
  ·omega
  ·exact h.2
 rw[e];simp
theorem W9 (s:Int × Int) (h:0<=s.1/\s.1<=s.2/\s.2<=1000000):Ev.Good Tryz.prog K 47 [.agg (spC s)] (.int .i64 (wid s)):=by
 simpa[wid] using QsO hK s.1 s.2 h
theorem Qs2 (l:QJ):Ev.Good Tryz.prog K 19 [lsV l] (.bool (decide (Qm0 l))):=by
 refine Qb hK Quh (by simp) ?_
 simp;refine cK (by simpa using QsQ hK l.chain) ?_
 by_cases h1:Qkd l.chain
 case pos =>
  have:Qm0 l:=.inl h1;simp[h1,this]
 simp[h1];refine cK (by simpa using QsP hK l.sea) ?_
 by_cases h2:QgO l.sea
 case pos =>
  have:Qm0 l:=.inr (.inl h2);simp[h2,this]
 simp[h2];by_cases h3:l.marks.length<=40
 case neg =>
  have h3':(40:Int)<l.marks.length:=by omega
  have:Qm0 l:=.inr (.inr (.inl (by omega)))
  simp[h3',this]
  try (intros;omega)
 have h3':¬ (40:Int)<l.marks.length:=by omega
 have hc40:l.chain.deeds.length<=40/\l.chain.sights.length<=40:=by
  unfold Qkd at h1;omega
 have hs40:l.sea.waters.length<=40/\l.sea.voys.length<=40/\l.sea.gauges.length<=40:=by
  unfold QgO at h2;omega
 simp[h3'];intros;refine cK (by simpa using Qh8 hK l (by omega) (by omega) (by omega) (by omega) (by omega) (by omega)) ?_
 by_cases h4:OkL l
 case neg =>
  have:¬ Qm0 l:=by
   rintro (h | h | h | h)
   ·exact h1 h
   ·exact h2 h
   ·omega
   ·exact h4 h.1
  simp[h4,this]
 have hwr:=Zb h4.sea.wear;simp[h4];refine cK (by simpa using W9 hK (l.sea.wlo,l.sea.whi) (by omega)) ?_
 have e0:wid (l.sea.wlo,l.sea.whi)=QbH l.sea 0:=by simp[QbH,QX]
 rw[e0];simp;refine Qu (fun i=>[(1,.iv (.ptr (lsC l))),(3,.iv (.int .i64 (QbH l.sea i))),(4,.iv (.int .i64 (i:Nat)))]) (fun _=>[]) l.sea.waters.length (fun _=>True) trivial ?_ ?_
 case refine_2 =>
  intro i hi _ ih;have hb:=Qc4 h4.sea (i+1) hi
  have hp:(10:Int) ^ (i+1)<=10000:=by
   have:i=0\/i=1\/i=2\/i=3:=by have:=h4.sea.nw;omega
   rcases this with rfl | rfl | rfl | rfl<;>decide
  have hsp:=Zb (h4.sea.waters _ (Qzr hi));have hws:=We l.sea i hi;rw[hws] at ih hb;rw[Qa QjO.eq_1];have hi':(i:Int)<(l.sea.waters.length:Int):=by omega
  simp[hi,hi'] at ih |-
  (repeat' first | omega | (with_reducible apply And.intro) | intro _)
  refine cK (by simpa using W9 hK l.sea.waters[i] (by omega)) ?_
  simp;exact ⟨by omega,by omega,ih⟩
 intro _;rw[Qa QjO.eq_1]
 have e:decide (Qm0 l)=decide (40<QbH l.sea l.sea.waters.length\/160<wid (l.plo,l.phi)\/160<wid (l.rlo,l.rhi)\/160<wid (l.plo,l.phi)*wid (l.flo,l.fhi)*wid (l.rlo,l.rhi)):=by
  refine decide_eq_decide.2 ⟨fun h=>?_,fun h=>.inr (.inr (.inr ⟨h4,h⟩))⟩
  rcases h with h | h | h | h
  ·exact absurd h h1
  ·exact absurd h h2
  ·omega
  ·exact h.2
 rw[e];have q1:=h4.pull;have q2:=h4.flaw;have q3:=h4.rated;simp only[Zc,inR] at q1 q2 q3;have g1:=W9 hK (l.plo,l.phi) (by simp only;omega)
 have g2:=W9 hK (l.flo,l.fhi) (by simp only;omega)
 have g3:=W9 hK (l.rlo,l.rhi) (by simp only;omega)
 have w1:1<=wid (l.plo,l.phi)/\wid (l.plo,l.phi)<=100000:=by simp only[wid];omega
 have w2:1<=wid (l.flo,l.fhi)/\wid (l.flo,l.fhi)<=101:=by simp only[wid];omega
 have w3:1<=wid (l.rlo,l.rhi)/\wid (l.rlo,l.rhi)<=100000:=by simp only[wid];omega
 generalize wid (l.plo,l.phi)=p at *;generalize wid (l.flo,l.fhi)=f at *;generalize wid (l.rlo,l.rhi)=r at *;generalize QbH l.sea l.sea.waters.length=W at *;have m1:=QzW w1.2 w2.2 (by omega) (by omega)
 have m2:=QzW w1.1 w2.1 (by omega) (by omega)
 have m3:=QzW (a:=p*f) (b:=r) (c:=10100000) (d:=100000) (by omega) w3.2 (by omega) (by omega)
 have m4:=Qz8 (a:=p*f) (b:=r) (by omega) (by omega)
 simp
 (repeat' first | omega | (with_reducible apply And.intro) | intro _)
 by_cases c1:40<W
 case pos=>omega
 try simp[c1]
 refine cK (by simpa using g1) ?_
 by_cases c2:160<p
 case pos=>simp[c2]
 simp[c2];refine cK (by simpa using g3) ?_
 by_cases c3:160<r
 case pos=>simp[c3]
 simp[c3];refine cK (by simpa using g1) ?_
 simp;refine cK (by simpa using g2) ?_
 simp;refine ⟨by omega,cK (by simpa using g3) ?_⟩
 simp;omega
omit hK
structure Qj5 (c:Qj):Prop where
 ok:OkC c
 two:Z3 c.deeds=0
 right:Qx c≠[]
theorem Qj5.right0 {c:Qj} (h:Qj5 c):Qx c=[0]:=by
 have h1:=h.right;unfold Qx at h1 |-;rw[h.two] at h1 |-;simp only[Nat.pow_zero,List.range_one] at h1 |-;rw[List.filter_cons] at h1 |-;split at h1
 ·rename_i h2
  simp[h2]
 ·simp at h1
theorem Qj5.ask {c:Qj} (h:Qj5 c) {p:Prop} [Decidable p] (hp:p):YF c (decide p)=0:=by
 unfold YF;simp[h.ok,hp,h.right]
def QgL (c:Qj) (pos:Int) (m:Int × Int):Bool :=
 decide (inR pos 0 (Qn c.deeds-1))&&(decide (m.1<0)||decide (m.1=QgP c pos 0))&&(decide (m.2<0)||decide (m.2=ZB c pos 0))
def JW (c:Qj) (ms:List (Int × Int)) (at_ way:Int):Prop:=∀ i (h:i<ms.length),QgL c (at_+way*i) ms[i]=true
noncomputable instance (c:Qj) (ms:List (Int × Int)) (at_ way:Int):Decidable (JW c ms at_ way):=Classical.propDecidable _
include hK
theorem Qr4 (c:Qj) (hc:Qj5 c) (pos:Int) (hp:inR pos 0 (Qn c.deeds-1)):Ev.Good Tryz.prog K 154 [chV c,.int .i64 pos] (.tup [Q8 [QgP c pos 0],.int .i64 0]):=by
 have h:=Qox hK c pos (by have:=hc.ok.len;omega) (by have:=hc.ok.slen;omega)
 rw[hc.ask hp,hc.right0] at h;simpa[Y6] using h
theorem Qhy (c:Qj) (hc:Qj5 c) (pos:Int) (hp:inR pos 0 (Qn c.deeds-1)):Ev.Good Tryz.prog K 115 [chV c,.int .i64 pos] (.tup [Q8 [ZB c pos 0],.int .i64 0]):=by
 have h:=QoR hK c pos (by have:=hc.ok.len;omega) (by have:=hc.ok.slen;omega)
 rw[hc.ask hp,hc.right0] at h;simpa[Y6] using h
theorem QmL (c:Qj) (hc:Qj5 c) (pos:Int) (hp:inR pos 0 (Qn c.deeds-1)):Ev.Good Tryz.prog K 113 [chV c,.int .i64 pos] (.tup [Q8 [QaB c pos 0],.int .i64 0]):=by
 have h:=QoT hK c pos (by have:=hc.ok.len;omega) (by have:=hc.ok.slen;omega)
 rw[hc.ask hp,hc.right0] at h;simpa[Y6] using h
theorem WO (x e:Int):Ev.Good Tryz.prog K 112 [Q8 [x],.int .i64 e] (.int .i64 x):=by
 simpa using QoU hK [x] e (by simp)
theorem Qa8 (c:Qj) (l:QJ) (at_ way:Int) (hc:Qj5 c) (hm:l.marks.length<=8) (ha : -1000<=at_/\at_<=1000) (hw:way=1\/way = -1) :
  Ev.Good Tryz.prog K 111 [chV c,.agg (Qr2 l),.int .i64 at_,.int .i64 way] (.bool (decide (JW c l.marks at_ way))):=by
 refine Qb hK QqL (by simp) ?_
 have h12:=hc.ok.len;have hlb:=hc.ok.deeds.cnt c.deeds.length (Qzq _) (Qzq _);have hlb':0<=Qn c.deeds/\Qn c.deeds<=12:=by unfold Qn;omega
 have no:∀ q:Prop,(JW c l.marks at_ way->q)->¬ q->¬ JW c l.marks at_ way:=fun q h1 h2 h=>h2 (h1 h)
 simp;refine cK (by simpa using QdR hK c (by omega) (by have:=hc.ok.slen;omega)) ?_
 simp[hc.ok]
 (repeat' first | omega | (with_reducible apply And.intro) | intro _)
 refine Qu (fun i=>[(2,AV.iv (.int .i64 at_)),(3,AV.iv (.int .i64 way)),(4,AV.iv (.ptr [QD c.deeds,Qy c.sights,.int .i64 c.wrong])),(9,AV.iv (.int .i64 (Qn c.deeds))),(20,AV.iv (ZS l.marks)),(21,AV.iv (.int .i64 l.marks.length)),(22,AV.iv (IV.int IntKind.i64 (i:Nat)))])
  (fun _=>[]) l.marks.length (fun i=>∀ k (h:k<l.marks.length),k<i->QgL c (at_+way*k) l.marks[k]=true) (fun k h hk=>by omega) ?_ ?_
 ·intro h
  have:JW c l.marks at_ way:=fun i hi=>h i hi hi
  rw[Qa QeG.eq_1];simp[this]
 ·intro i hi h ih
  have hwi : -8<=way*(i:Int)/\way*(i:Int)<=8:=by rcases hw with rfl | rfl<;>omega
  have hn:QgL c (at_+way*i) l.marks[i]=false->¬ JW c l.marks at_ way:=fun h1=>no _ (fun h2=>h2 i hi) (by simp[h1])
  have hy:QgL c (at_+way*i) l.marks[i]=true->∀ k (h:k<l.marks.length),k<i+1->QgL c (at_+way*k) l.marks[k]=true:=fun h1 k hk hki=>by
   rcases Nat.lt_succ_iff_lt_or_eq.1 hki with h2 | h2
   ·exact h k hk h2
   ·subst h2
    exact h1
  rw[Qa QeG.eq_1];simp[hi] at ih |-;generalize hmk:l.marks[i]=m at *;generalize way*(i:Int)=W at *;refine ⟨by omega,by omega,by omega,?_⟩
  refine cK (Vr hK _ _ _) ?_;by_cases hin:inR (at_+W) 0 (Qn c.deeds-1)
  ·have hok:QgL c (at_+W) m=true↔(m.1<0\/m.1=QgP c (at_+W) 0)/\(m.2<0\/m.2=ZB c (at_+W) 0):=by simp[QgL,hin]
   have hn':¬ ((m.1<0\/m.1=QgP c (at_+W) 0)/\(m.2<0\/m.2=ZB c (at_+W) 0))->¬ JW c l.marks at_ way:=fun h1=>hn (by
    rw[Bool.eq_false_iff];exact fun h2=>h1 (hok.1 h2))
   have hB:=Qr4 hK c hc _ hin;have hS:=Qhy hK c hc _ hin;simp[hin];by_cases a1:0<=m.1
   ·have a1':¬ m.1<0:=by omega
    simp[a1,a1'];refine cK (by simpa using hB) ?_
    simp;refine cK (by simpa using WO hK (QgP c (at_+W) 0) 0) ?_
    by_cases b1:m.1=QgP c (at_+W) 0
    ·simp[b1]
     by_cases a2:0<=m.2
     ·have a2':¬ m.2<0:=by omega
      simp[a2,a2'];refine cK (by simpa using hS) ?_
      simp;refine cK (by simpa using WO hK (ZB c (at_+W) 0) 0) ?_
      by_cases b2:m.2=ZB c (at_+W) 0
      ·simp[b2]
       (repeat' first | omega | (with_reducible apply And.intro) | intro _)
       exact ih (hy (hok.2 ⟨.inr b1,.inr b2⟩))
      ·have:=hn' (by omega)
       simp[b2,this]
     ·have a2':m.2<0:=by omega
      simp[a2,a2']
      (repeat' first | omega | (with_reducible apply And.intro) | intro _)
      exact ih (hy (hok.2 ⟨.inr b1,.inl a2'⟩))
    ·have:=hn' (by omega)
     simp[b1,this]
   ·have a1':m.1<0:=by omega
    simp[a1,a1'];by_cases a2:0<=m.2
    ·have a2':¬ m.2<0:=by omega
     simp[a2,a2'];refine cK (by simpa using hS) ?_
     simp;refine cK (by simpa using WO hK (ZB c (at_+W) 0) 0) ?_
     by_cases b2:m.2=ZB c (at_+W) 0
     ·simp[b2]
      (repeat' first | omega | (with_reducible apply And.intro) | intro _)
      exact ih (hy (hok.2 ⟨.inl a1',.inr b2⟩))
     ·have:=hn' (by omega)
      simp[b2,this]
    ·have a2':m.2<0:=by omega
     simp[a2,a2']
     (repeat' first | omega | (with_reducible apply And.intro) | intro _)
     exact ih (hy (hok.2 ⟨.inl a1',.inl a2'⟩))
  ·have:=hn (by simp[QgL,hin])
   simp[hin,this]
omit hK
def VP (d:Qr) (x:Int):Qr:={ d with frm:=x }
def Yf:List Qr->List (List Qr)
 | []=>[[]]
 | d::r=>if d.frm=2 then (Yf r).map (VP d 0::·)++(Yf r).map (VP d 1::·) else (Yf r).map (d::·)
theorem QnG (ds:List Qr) (h:Z3 ds=0):∀ x∈ds,Z0 x=false:=by
 intro x hx;have:=List.countP_eq_zero.1 h x hx;simpa[Z0] using this
theorem qT:∀ ds:List Qr,Z3 ds=0->Yf ds=[ds]
 | [],_=>rfl
 | d::r,h=>by
   by_cases hd:d.frm=2
   ·simp[Z3,QAh,hd] at h
   ·have:=qT r (by simpa[Z3,QAh,hd] using h)
    simp[Yf,hd,this]
theorem Qiu:∀ ds:List Qr,Z3 ds≠0->∃ i:Nat,(∀ x∈ds.take i,Z0 x=false)/\∃ h:i<ds.length,ds[i].frm=2/\Yf ds=Yf (ds.set i (VP ds[i] 0))++Yf (ds.set i (VP ds[i] 1))/\∀ x:Int,x≠2->Z3 (ds.set i (VP ds[i] x))+1=Z3 ds
 | [],h=>absurd rfl h
 | d::r,h=>by
   by_cases hd:d.frm=2
   ·refine ⟨0,by simp,by simp,hd,?_,fun x hx=>?_⟩
    ·simp[Yf,hd,VP]
    ·simp[Z3,QAh,VP,hx,hd]
   ·have h':Z3 r≠0:=by simpa[Z3,QAh,hd] using h
    obtain ⟨i,h1,h2,h3,h4,h5⟩:=Qiu r h';refine ⟨i+1,?_,by simpa using h2,by simpa using h3,?_,fun x hx=>?_⟩
    ·intro x hx
     rw[List.take_succ_cons,Qz1] at hx;rcases hx with rfl | hx
     ·simp[Z0,hd]
     ·exact h1 x hx
    ·simp only[List.set_cons_succ,List.getElem_cons_succ,Yf,hd,if_false]
     grind
    ·have:=h5 x hx
     simp only[List.set_cons_succ,List.getElem_cons_succ];simp[Z3,hd] at this |-;omega
noncomputable def QQ (c:Qj):List Qj:=((Yf c.deeds).map fun ds=>{ c with deeds:=ds }).filter fun c'=>decide (YF c' true=0)
def Qa2 (c:Qj):List IV:=[chV c]
theorem Qdy (c:Qj) (h:Z3 c.deeds=0):QQ c=if YF c true=0 then [c] else []:=by
 unfold QQ;rw[qT _ h];by_cases h1:YF c true=0<;>simp[h1]
include hK
theorem QdD:∀ (n:Nat) (c:Qj),Z3 c.deeds=n->c.deeds.length<=1000->c.sights.length<=1000->Qj7 Tryz.prog K 153 [chV c] [] ((QQ c).map Qa2) (fun b=>.bool b)
 | 0,c,hn,hl,hs=>by
   intro s b s' hf;refine Q5 QjR (by simp) hf.v rfl ?_
   have hfi:=QnG _ hn;rw[Qdy c hn] at hf;simp
   (repeat' first | omega | (with_reducible apply And.intro) | intro _)
   refine Qu (fun i=>[(1,AV.cb 0),(2,AV.iv (.ptr [QD c.deeds,Qy c.sights,.int .i64 c.wrong])),(12,AV.iv (QD c.deeds)),(13,AV.iv (.int .i64 c.deeds.length)),(14,AV.iv (IV.int IntKind.i64 (i:Nat)))]) (fun _=>[(0,.ext s)]) c.deeds.length (fun _=>True) trivial ?_ ?_
   ·intro _
    rw[Qa Qbt.eq_1];simp;refine cK (by simpa using Qoh hK c (pmC c) (Qg1 hK c) hl hs) ?_
    by_cases h1:YF c true=0
    ·simp[h1] at hf |-
     cases hf with
     | stop _ _ _ _ hg =>
       refine ZI (by simpa[Qa2] using hg) rfl ?_
       simp
     | next _ _ _ s1 _ _ hg hr =>
       cases hr;refine ZI (by simpa[Qa2] using hg) rfl ?_
       simp
    ·simp[h1] at hf |-
     cases hf
     grind
   ·intro i hi _ ih
    have h2:=hfi _ (Qzr hi);have h2':¬ c.deeds[i].frm=2:=by simpa[Z0] using h2
    rw[Qa Qbt.eq_1];simp[hi,h2'] at ih |-
    grind
 | n+1,c,hn,hl,hs=>by
   intro s b s' hf;refine Q5 QjR (by simp) hf.v rfl ?_
   obtain ⟨i,h1,h2,h3,h4,h5⟩:=Qiu c.deeds (by omega)
   have hne:c.deeds≠[]:=fun e=>by grind
   have hgc:=clone186 (K:=K) c.deeds hl hne;have ih0:=QdD n { c with deeds:=c.deeds.set i (VP c.deeds[i] 0) } (by grind) (by simpa using hl) hs
   have ih1:=QdD n { c with deeds:=c.deeds.set i (VP c.deeds[i] 1) } (by grind) (by simpa using hl) hs
   have hkn:QQ c=QQ { c with deeds:=c.deeds.set i (VP c.deeds[i] 0) }++QQ { c with deeds:=c.deeds.set i (VP c.deeds[i] 1) }:=by
    unfold QQ
    grind
   rw[hkn,QzU] at hf;generalize hL0:QQ { c with deeds:=c.deeds.set i (VP c.deeds[i] 0) }=L0 at *
   generalize hL1:QQ { c with deeds:=c.deeds.set i (VP c.deeds[i] 1) }=L1 at *
   simp
   (repeat' first | omega | (with_reducible apply And.intro) | intro _)
   refine Qu (fun k=>[(1,AV.cb 0),(2,AV.iv (.ptr [QD c.deeds,Qy c.sights,.int .i64 c.wrong])),(12,AV.iv (QD c.deeds)),(13,AV.iv (.int .i64 c.deeds.length)),(14,AV.iv (IV.int IntKind.i64 (k:Nat)))]) (fun _=>[(0,.ext s)]) c.deeds.length (fun k=>k<=i) (by omega) ?_ ?_
   ·intro h
    omega
   ·intro q hq hqi ih
    rw[Qa Qbt.eq_1];by_cases hqe:q=i
    ·subst hqe
     clear ih;simp[hq,h3]
     refine UA 2 (fun k e o=>∃ si,e=[(1,AV.cb 0),(2,AV.iv (.ptr [QD c.deeds,Qy c.sights,.int .i64 c.wrong])),(5,AV.iv (.int .i64 (q:Nat))),(22,AV.iv (.int .i64 (k:Nat)))]/\o=[(0,.ext si)] /\
      Zz Tryz.prog K (if k=0 then L0.map Qa2++L1.map Qa2 else if k=1 then L1.map Qa2 else []) si b s') ?_ ?_ _ _ ⟨s,by simp,by simp,by simpa using hf⟩
     ·rintro e o ⟨si,rfl,rfl,hfd⟩
      cases hfd;rw[Qa Qex.eq_1];simp
     ·rintro k e o hk ⟨si,rfl,rfl,hfd⟩ ih
      have hk2:k=0\/k=1:=by omega
      rw[Qa Qex.eq_1]
      have hset:∀ x:Int,(List.map (List.map AV.iv∘dC) c.deeds).set q [AV.iv (.int .i64 c.deeds[q].what),AV.iv (.int .i64 c.deeds[q].pos),AV.iv (.int .i64 x),AV.iv (.int .i64 c.deeds[q].bar),AV.iv (.int .i64 c.deeds[q].smith)]=emb ((c.deeds.set q (VP c.deeds[q] x)).map dC):=fun x=>by
       simp[emb,List.map_set,VP]
      rcases hk2 with rfl | rfl
      ·simp only[if_true] at hfd
       simp;refine Qbm hgc (by simp) ?_
       simp[h2,hset,Qzt];rcases hfd.append with ⟨s1,hf1,hf2⟩ | ⟨rfl,hf1⟩
       ·refine JC (by simpa[Qzt] using ih0 _ _ _ hf1) rfl ?_
        simp;exact ih _ _ ⟨s1,by simp,by simp,by simpa using hf2⟩
       ·refine JC (by simpa[Qzt] using ih0 _ _ _ hf1) rfl ?_
        simp
      ·simp only[if_true] at hfd
       simp at hfd;simp;refine Qbm hgc (by simp) ?_
       simp[h2,hset,Qzt];refine JC (by simpa[Qzt] using ih1 _ _ _ hfd) rfl ?_
       cases b
       ·simp
       ·simp
        exact ih _ _ ⟨s',by simp,by simp,by simpa using Zz.nil _⟩
    ·have hlt:q<i:=by omega
     have h6:=h1 c.deeds[q] (by
      rw[List.mem_take_iff_getElem];exact ⟨q,by omega,rfl⟩)
     have h6':¬ c.deeds[q].frm=2:=by simpa[Z0] using h6
     simp[hq,h6'] at ih |-;refine ⟨by omega,ih (by omega)⟩
theorem QnR (c:Qj) (hl:c.deeds.length<=1000) (hs:c.sights.length<=1000):∀ s b s',Zz Tryz.prog K ((QQ c).map Qa2) s b s'->QcX Tryz.prog K 152 [] [.ptr [QD c.deeds,Qy c.sights,.int .i64 c.wrong]] s (.tup []) s':=by
 intro s b s' hf;refine Q5 Qqc (by simp) hf.v rfl ?_
 have h:=QdD hK (Z3 c.deeds) c rfl hl hs s b s' hf;simp;refine JC (by simpa using h) rfl ?_
 simp
theorem QoV (c:Qj):Ev.Good Tryz.prog K 110 [chV c] (.clo 152 [] [.ptr [QD c.deeds,Qy c.sights,.int .i64 c.wrong]]):=by
 refine Qb hK QqM (by simp) ?_
 simp
omit hK
def QbB {α:Type} [DecidableEq α]:List (α × Nat)->α->List (α × Nat)
 | [],x=>[(x,1)]
 | p::r,x=>if p.1=x then (x,p.2+1)::r else p::QbB r x
def Qbb {α:Type} [DecidableEq α]:List (α × Nat)->α->Nat
 | [],_=>0
 | p::r,x=>if p.1=x then p.2 else Qbb r x
def J3 {α:Type} (k:α->MK) (l:List (α × Nat)):List (MK × IV):=l.map fun p=>(k p.1,.int .i64 (p.2:Nat))
section
variable {α:Type} [DecidableEq α] {k:α->MK} (hk:∀ x y,k x=k y->x=y)
include hk
theorem qg (x:α):∀ l,(Qh (k x) (J3 k l)).getD (.int .i64 0)=.int .i64 (Qbb l x:Nat)
 | []=>rfl
 | p::r=>by
   by_cases h:p.1=x
   ·simp[J3,Qh,Qbb,h]
   ·have h2:¬ k p.1=k x:=fun e=>h (hk _ _ e)
    have:=qg x r;simp[J3,Qh,Qbb,h,h2] at this |-;exact this
theorem Qbg (x:α):∀ l,mins (k x) (.int .i64 ((Qbb l x:Nat)+1)) (J3 k l)=J3 k (QbB l x)
 | []=>by simp[J3,mins,Qbb,QbB]
 | p::r=>by
   by_cases h:p.1=x
   ·simp[J3,mins,Qbb,QbB,h]
   ·have h2:¬ k p.1=k x:=fun e=>h (hk _ _ e)
    have:=Qbg x r;simp[J3,mins,Qbb,QbB,h,h2] at this |-;exact this
end
theorem Ub {α:Type} {k:α->MK} {kk:KK} (hk:∀ x,(k x).kind=kk):∀ l:List (α × Nat),QP kk (J3 k l)
 | []=>trivial
 | _::r=>⟨hk _,Ub hk r⟩
theorem Qfp {α:Type} [DecidableEq α] (x y:α):∀ l,Qbb (QbB l x) y<=Qbb l y+1
 | []=>by simp[QbB,Qbb];split<;>omega
 | p::r=>by
   unfold QbB;split
   ·simp only[Qbb];grind
   ·simp only[Qbb]
    split
    ·omega
    ·exact Qfp x y r
def UO {α:Type} [DecidableEq α] (l:List α):List (α × Nat):=l.foldl QbB []
theorem Jn {α:Type} [DecidableEq α] (l:List α) (x:α):UO (l++[x])=QbB (UO l) x:=by simp[UO]
theorem Qio {α:Type} [DecidableEq α] (y:α):∀ l:List α,Qbb (UO l) y<=l.length:=by
 refine J8 (by simp[UO,Qbb]) fun l x ih=>?_
 rw[Jn];have:=Qfp x y (UO l);simp;omega
theorem Qfk {α:Type} [DecidableEq α] (x y:α):∀ l,y∈(QbB l x).map (·.1)↔y∈l.map (·.1)\/y=x
 | []=>by simp[QbB]
 | p::r=>by
   unfold QbB;split
   ·grind
   ·have:=Qfk x y r
    grind
theorem Ql1 {α:Type} [DecidableEq α] (y:α):∀ l:List α,y∈(UO l).map (·.1)↔y∈l:=by
 refine J8 (by simp[UO]) fun l x ih=>?_
 rw[Jn,Qfk,ih];simp
structure Qke where
 link:Int
 pos:Int
 smith:Int
 pv:Bool
 deriving DecidableEq
def spK (s:Qke):MK:=.agg [.int .i64 s.link,.int .i64 s.pos,.int .i64 s.smith,.bool s.pv]
theorem QaI (x y:Qke) (h:spK x=spK y):x=y:=by
 cases x;cases y;simpa[spK] using h
theorem QeV (x:Qke):(spK x).kind=.agg [some .i64,some .i64,some .i64,none]:=rfl
noncomputable def Y1 (c:Qj) (p:Int):Qke:=⟨QaB c p 0,p,ZB c p 0,decide (0<Y2 c (QaB c p 0) 0)⟩
noncomputable def Wh (l:QJ) (c:Qj) (at_ way:Int):List Qke:=if JW c l.marks at_ way then [Y1 c (at_+way*l.broke)] else []
noncomputable def qz (l:QJ) (c:Qj) (at_:Int):List Qke:=Wh l c at_ 1++Wh l c at_ (-1)
noncomputable def XJ (l:QJ) (c:Qj) (n:Nat):List Qke:=(List.range n).flatMap fun a=>qz l c (a:Nat)
noncomputable def Xt (l:QJ) (L:List Qj):List Qke:=L.flatMap fun c=>XJ l c (Qn c.deeds).toNat
theorem J6 (l:QJ) (c:Qj) (a w:Int):(Wh l c a w).length<=1:=by unfold Wh;split<;>simp
theorem qP (l:QJ) (c:Qj) (n:Nat):XJ l c (n+1)=XJ l c n++qz l c n:=by simp[XJ,QAv]
theorem Wl (l:QJ) (c:Qj):∀ n,(XJ l c n).length<=n*2
 | 0=>by simp[XJ]
 | n+1=>by
   have ih:=Wl l c n;have h1:=J6 l c n 1;have h2:=J6 l c n (-1);rw[qP];unfold qz;simp;omega
theorem qS:∀ ds:List Qr,∀ x∈Yf ds,Z3 x=0
 | [],x,h=>by
   simp[Yf] at h;subst h;rfl
 | d::r,x,h=>by
   have ih:=qS r;unfold Yf at h;split at h
   ·simp at h
    rcases h with ⟨y,hy,rfl⟩ | ⟨y,hy,rfl⟩
    ·have:=ih y hy
     simp[Z3,QAh,VP] at this |-;exact this
    ·have:=ih y hy
     simp[Z3,QAh,VP] at this |-;exact this
   ·rename_i hd
    simp at h;obtain ⟨y,hy,rfl⟩:=h;have:=ih y hy;simp[Z3,QAh,hd] at this |-;exact this
theorem Qac {c c':Qj} (h:c'∈QQ c):Qj5 c':=by
 unfold QQ at h;obtain ⟨h1,h2⟩:=QAo.1 h;obtain ⟨ds,hds,rfl⟩:=QzI.1 h1;have h2:=of_decide_eq_true h2;have h3:=qS _ _ hds;unfold YF at h2;exact ⟨by grind,h3,by grind⟩
theorem QbO:∀ ds:List Qr,(Yf ds).length<=2 ^ ds.length
 | []=>by simp[Yf]
 | d::r=>by
   have ih:=QbO r;unfold Yf;split<;>simp[Nat.pow_succ]<;>omega
theorem Qgf (c:Qj) (h:c.deeds.length<=12):(QQ c).length<=4096:=by
 have h1:=QbO c.deeds;have h2:=X7 h;unfold QQ;refine QzT (QzQ _ _) ?_;simp;omega
theorem QnL (x:Int):loD [x]=x:=by simp[loD,Y6]
theorem QnX (x:Int):hiD [x]=x:=by simp[hiD,Y6]
include hK
theorem QmK (c:Qj) (hc:Qj5 c) (link:Int) (hp:inR link 0 ((qy c.deeds:Int)-1)):Ev.Good Tryz.prog K 114 [chV c,.int .i64 link] (.tup [.agg [.int .i64 (Y2 c link 0),.int .i64 (Y2 c link 0)],.int .i64 0]):=by
 have h:=QoS hK c link (by have:=hc.ok.len;omega) (by have:=hc.ok.slen;omega)
 rw[hc.ask hp,hc.right0] at h;simpa[QnL,QnX] using h
theorem Qr5 (c:Qj) (hc:Qj5 c):Ev.Good Tryz.prog K 109 [chV c] (.tup [.int .i64 (Qn c.deeds),.int .i64 0]):=by
 have h:=QdR hK c (by have:=hc.ok.len;omega) (by have:=hc.ok.slen;omega)
 simpa[hc.ok] using h
omit hK
theorem Qit {c:Qj} {l:QJ} {a w:Int} (h:JW c l.marks a w) (hb:inR l.broke 0 ((l.marks.length:Int)-1)):inR (a+w*l.broke) 0 (Qn c.deeds-1):=by
 simp only[inR] at hb;have h1:=h l.broke.toNat (by omega)
 have e:((l.broke.toNat:Nat):Int)=l.broke:=by omega
 rw[e] at h1;unfold QgL at h1
 grind
theorem Qms {c:Qj} (hc:OkC c) {p:Int} (hp:inR p 0 (Qn c.deeds-1)):inR (QaB c p 0) 0 ((qy c.deeds:Int)-1):=by
 simp only[inR] at hp;have h1:=Xr (Zw c.deeds 0) hc.deeds c.deeds.length (Qzq _) (Qzq _);have h2:p.toNat<(cab c.deeds (Zw c.deeds 0) c.deeds.length).length:=by unfold Qn at hp;omega
 have h3:=Wb (Zw c.deeds 0) p.toNat h2;have h4:(ZY c.deeds).length=qy c.deeds:=rfl;unfold QaB;rw[List.getD_eq_getElem?_getD,Qzk h2];simp only[inR,QAd];omega
noncomputable def Xe (l:QJ) (c:Qj) (a:Int):Nat->List Qke
 | 0=>[]
 | 1=>Wh l c a 1
 | _=>qz l c a
include hK
theorem Qsw (l:QJ) (hl:OkL l):Ev.Good Tryz.prog K 84 [lsV l] (.map (J3 spK (UO (Xt l (QQ l.chain))))):=by
 refine Qb hK Qtv (by simp) ?_
 have h12:=hl.chain.len;have h8:=hl.chain.slen;have hkl:=Qgf l.chain h12;have hm8:=hl.mlen;have hbr:=hl.broke;simp only[inR] at hm8;have hbr':=hbr;simp only[inR] at hbr';simp;refine cK (by simpa using QoV hK l.chain) ?_
 simp;refine Za (wy:=.fall) (o':=[(3,.box [.oref 14]),(14,.mapd (J3 spK (UO (Xt l (QQ l.chain)))))]) rfl (by kernel_rfl) (QnR hK l.chain (by omega) (by omega)) ?_ ?_
 ·have:=UF.all (P:=Tryz.prog) (K:=K) (ps:=[18]) (asn:=Qd7) (body:=Qjs) (ks:=[1,3]) (ids:=[3,14]) (eK:=[(1,.iv (.ptr (lsC l))),(3,.loc 3 0)]) ((QQ l.chain).map Qa2)
   (fun i=>[(3,.box [.oref 14]),(14,.mapd (J3 spK (UO (Xt l ((QQ l.chain).take i)))))]) fun i x hi=>by
   simp only[Qzu,Qzo] at hi;obtain ⟨c,hc,rfl⟩:=hi;have hlt:=(Qzl.1 hc).1;have hci:(QQ l.chain)[i]=c:=(Qzl.1 hc).2;have hs1:=Qac (QzB hc)
   have hsp:Xt l ((QQ l.chain).take (i+1))=Xt l ((QQ l.chain).take i)++XJ l c (Qn c.deeds).toNat:=by
    rw[Qzn hlt,hci];simp[Xt]
   have hPl:(Xt l ((QQ l.chain).take i)).length<=i*24:=by
    have h1:=Q6 (fun c=>XJ l c (Qn c.deeds).toNat) 24 ((QQ l.chain).take i) (fun c' hc'=>by
     have h2:=Qac (Qz5 hc');have h3:=h2.ok.deeds.cnt c'.deeds.length (Qzq _) (Qzq _);have h4:=Wl l c' (Qn c'.deeds).toNat;have h5:=h2.ok.len;unfold Qn at *;omega)
    unfold Xt;simp at h1 |-;omega
   rw[hsp];generalize Xt l ((QQ l.chain).take i)=P at *;have hlb:=hs1.ok.deeds.cnt c.deeds.length (Qzq _) (Qzq _);have hc12:=hs1.ok.len;have hlb':0<=Qn c.deeds/\Qn c.deeds<=12:=by unfold Qn;omega
   refine ⟨rfl,?_⟩;simp[Qa2,Qd7,Qjs];refine cK (by simpa using Qr5 hK c hs1) ?_
   simp;have e0:AO.mapd (J3 spK (UO P))=.mapd (J3 spK (UO (P++XJ l c 0))):=by simp[XJ]
   rw[e0]
   refine Qu (fun a=>[(1,AV.iv (.ptr (lsC l))),(3,AV.loc 3 0),(4,AV.loc 4 0),(24,AV.iv (.int .i64 (Qn c.deeds))),(25,AV.iv (IV.int IntKind.i64 (a:Nat)))])
    (fun a=>[(3,.box [.oref 14]),(4,.box [.iv (QD c.deeds),.iv (Qy c.sights),.iv (.int .i64 c.wrong)]),(14,.mapd (J3 spK (UO (P++XJ l c a))))]) (Qn c.deeds).toNat (fun _=>True) trivial ?_ ?_
   ·intro _
    have e1:(((Qn c.deeds).toNat:Nat):Int)=Qn c.deeds:=by omega
    rw[Qa Qjt.eq_1];simp[e1]
   ·intro a ha _ ih
    have ha':(a:Int)<Qn c.deeds:=by omega
    have hal:=Wl l c a;rw[qP] at ih;rw[Qa Qjt.eq_1];simp[ha'];have e1:AO.mapd (J3 spK (UO (P++XJ l c a)))=.mapd (J3 spK (UO (P++XJ l c a++Xe l c a 0))):=by simp[Xe]
    rw[e1]
    refine Qu (fun k=>[(1,AV.iv (.ptr (lsC l))),(3,AV.loc 3 0),(4,AV.loc 4 0),(7,AV.iv (IV.int IntKind.i64 (a:Nat))),(24,AV.iv (.int .i64 (Qn c.deeds))),(25,AV.iv (IV.int IntKind.i64 (a:Nat))),(28,AV.iv (.agg [.int .i64 1,.int .i64 (-1)])),(29,AV.iv (IV.int IntKind.i64 (k:Nat)))])
     (fun k=>[(3,.box [.oref 14]),(4,.box [.iv (QD c.deeds),.iv (Qy c.sights),.iv (.int .i64 c.wrong)]),(14,.mapd (J3 spK (UO (P++XJ l c a++Xe l c a k))))]) 2 (fun _=>True) trivial ?_ ?_
    ·intro _
     rw[Qa Qju.eq_1];simp[Xe] at ih |-;exact ⟨by omega,ih⟩
    ·intro k hk _ ih2
     rw[Qa Qju.eq_1];have hk2:k=0\/k=1:=by omega
     rcases hk2 with rfl | rfl
     ·simp only[Qzx,Nat.reduceAdd] at ih2
      by_cases hf:JW c l.marks a (1)
      ·have hp:inR ((a:Int)+l.broke) 0 (Qn c.deeds-1):=by simpa using Qit hf hbr
       have hw:=Qms hs1.ok hp;have hWk:Xe l c a 1=Xe l c a 0++[Y1 c ((a:Int)+l.broke)]:=by simp[Xe,qz,Wh,hf]
       have hle:=Qio (Y1 c ((a:Int)+l.broke)) (P++XJ l c a++Xe l c a 0)
       have hkl2:(P++XJ l c a++Xe l c a 0).length<=200000:=by
        have:=J6 l c a 1;simp[Xe];omega
       rw[hWk,<- QzC,Jn] at ih2;generalize UO (P++XJ l c a++Xe l c a 0)=kv at *;have q1:(Qh (MK.agg [.int .i64 (QaB c ((a:Int)+l.broke) 0),.int .i64 ((a:Int)+l.broke),.int .i64 (ZB c ((a:Int)+l.broke) 0),.bool (decide (0<Y2 c (QaB c ((a:Int)+l.broke) 0) 0))]) (J3 spK kv)).getD (.int .i64 0)=.int .i64 (Qbb kv (Y1 c ((a:Int)+l.broke)):Nat):=qg QaI (Y1 c ((a:Int)+l.broke)) kv;have q2:mins (MK.agg [.int .i64 (QaB c ((a:Int)+l.broke) 0),.int .i64 ((a:Int)+l.broke),.int .i64 (ZB c ((a:Int)+l.broke) 0),.bool (decide (0<Y2 c (QaB c ((a:Int)+l.broke) 0) 0))]) (.int .i64 ((Qbb kv (Y1 c ((a:Int)+l.broke)):Nat)+1)) (J3 spK kv)=J3 spK (QbB kv (Y1 c ((a:Int)+l.broke))):=Qbg QaI (Y1 c ((a:Int)+l.broke)) kv;have q3:QP (.agg [some .i64,some .i64,some .i64,none]) (J3 spK kv):=Ub QeV kv;generalize Y1 c ((a:Int)+l.broke)=sp at *;simp at ih2 |-;refine cK (by simpa using Qa8 hK c l a (1) hs1 (by omega) (by omega) (.inl rfl)) ?_
       simp[hf]
       (repeat' first | omega | (with_reducible apply And.intro) | intro _)
       refine cK (by simpa using QmL hK c hs1 _ hp) ?_
       simp;refine cK (by simpa using WO hK (QaB c ((a:Int)+l.broke) 0) 0) ?_
       simp;refine cK (by simpa using QmK hK c hs1 _ hw) ?_
       simp;refine cK (by simpa using Qhy hK c hs1 _ hp) ?_
       simp;refine cK (by simpa using WO hK (ZB c ((a:Int)+l.broke) 0) 0) ?_
       simp[Qdz,QuN,KC.kind,q1,q3,WQ,Qdq,q2];exact ⟨by omega,by simpa using ih2⟩
      ·have hWk:Xe l c a 1=Xe l c a 0:=by simp[Xe,qz,Wh,hf]
       rw[hWk] at ih2;generalize UO (P++XJ l c a++Xe l c a 0)=kv at *;simp at ih2 |-;refine cK (by simpa using Qa8 hK c l a (1) hs1 (by omega) (by omega) (.inl rfl)) ?_
       simp[hf];exact ih2
     ·simp only[Qzx,Nat.reduceAdd] at ih2
      by_cases hf:JW c l.marks a (-1)
      ·have hp:inR ((a:Int) + -l.broke) 0 (Qn c.deeds-1):=by simpa using Qit hf hbr
       have hw:=Qms hs1.ok hp;have hWk:Xe l c a 2=Xe l c a 1++[Y1 c ((a:Int) + -l.broke)]:=by simp[Xe,qz,Wh,hf]
       have hle:=Qio (Y1 c ((a:Int) + -l.broke)) (P++XJ l c a++Xe l c a 1)
       have hkl2:(P++XJ l c a++Xe l c a 1).length<=200000:=by
        have:=J6 l c a 1;simp[Xe];omega
       rw[hWk,<- QzC,Jn] at ih2;generalize UO (P++XJ l c a++Xe l c a 1)=kv at *;have q1:(Qh (MK.agg [.int .i64 (QaB c ((a:Int) + -l.broke) 0),.int .i64 ((a:Int) + -l.broke),.int .i64 (ZB c ((a:Int) + -l.broke) 0),.bool (decide (0<Y2 c (QaB c ((a:Int) + -l.broke) 0) 0))]) (J3 spK kv)).getD (.int .i64 0)=.int .i64 (Qbb kv (Y1 c ((a:Int) + -l.broke)):Nat):=qg QaI (Y1 c ((a:Int) + -l.broke)) kv;have q2:mins (MK.agg [.int .i64 (QaB c ((a:Int) + -l.broke) 0),.int .i64 ((a:Int) + -l.broke),.int .i64 (ZB c ((a:Int) + -l.broke) 0),.bool (decide (0<Y2 c (QaB c ((a:Int) + -l.broke) 0) 0))]) (.int .i64 ((Qbb kv (Y1 c ((a:Int) + -l.broke)):Nat)+1)) (J3 spK kv)=J3 spK (QbB kv (Y1 c ((a:Int) + -l.broke))):=Qbg QaI (Y1 c ((a:Int) + -l.broke)) kv;have q3:QP (.agg [some .i64,some .i64,some .i64,none]) (J3 spK kv):=Ub QeV kv;generalize Y1 c ((a:Int) + -l.broke)=sp at *;simp at ih2 |-;refine cK (by simpa using Qa8 hK c l a (-1) hs1 (by omega) (by omega) (.inr rfl)) ?_
       simp[hf]
       (repeat' first | omega | (with_reducible apply And.intro) | intro _)
       refine cK (by simpa using QmL hK c hs1 _ hp) ?_
       simp;refine cK (by simpa using WO hK (QaB c ((a:Int) + -l.broke) 0) 0) ?_
       simp;refine cK (by simpa using QmK hK c hs1 _ hw) ?_
       simp;refine cK (by simpa using Qhy hK c hs1 _ hp) ?_
       simp;refine cK (by simpa using WO hK (ZB c ((a:Int) + -l.broke) 0) 0) ?_
       simp[Qdz,QuN,KC.kind,q1,q3,WQ,Qdq,q2];exact ⟨by omega,by simpa using ih2⟩
      ·have hWk:Xe l c a 2=Xe l c a 1:=by simp[Xe,qz,Wh,hf]
       rw[hWk] at ih2;generalize UO (P++XJ l c a++Xe l c a 1)=kv at *;simp at ih2 |-;refine cK (by simpa using Qa8 hK c l a (-1) hs1 (by omega) (by omega) (.inr rfl)) ?_
       simp[hf];exact ih2
  simpa[Xt,UO,J3,Qzt] using this
 ·simp
end Go.Pf
namespace Go.Proofs
open Go.Shelf
def Tryz.clone169_ren:Go.Shelf.Ren:=⟨fun | 41=>169 | n=>n,fun | 22=>65 | 23=>24 | 4=>4 | n=>n,fun | n=>n⟩
theorem Tryz.clone169:Go.Proofs.SlLaysE0.n41 Tryz.prog Tryz.clone169_ren:={
 mixed:=by kernel_rfl
 f41:=⟨Tryz.f169.name,by decide,Tryz.func169.trans (congrArg some (by kernel_rfl))⟩
 t4:=Tryz.underlying4
 a4:=Tryz.isAgg4
 z4:=Tryz.sizeOf4
 v4:=Tryz.zeroValue4
 t22:=Tryz.underlying65
 a22:=Tryz.isAgg65
 z22:=Tryz.sizeOf65
 v22:=Tryz.zeroValue65 }
end Go.Proofs
namespace Go.Pf
open Go Go.Ev Go.Proofs Go.RowKit
variable {K:World->Prop} (hK:∀ w w',K w->Below w.heap.size w w'->K w')
set_option maxRecDepth 8000
noncomputable def Qve:TypeInfo:=(Tryz.prog.info? 24).get (by kernel_rfl)
def Wq (c:Sea) (i:Nat) (n:Int):Sea:={ c with waters:=c.waters.set i (n,n) }
def XW (c:Sea) (n:Int):Sea:={ c with wlo:=n,whi:=n }
def Q9 (lo hi:Int):List Int:=(List.range (hi+1-lo).toNat).map fun k=>lo+(k:Nat)
def Qnn (c:Sea):Int:=loD ((wTr c).map fun w=>QH c w c.voys.length)
def QnW (c:Sea):Int:=loD ((wTr c).map fun w=>Ze c (QH c w c.voys.length))
noncomputable def WX (l:QJ) (c:Sea) (n:Int):List Int:=if tW (XW c n) true=0/\¬ (0<=l.pth/\Qnn (XW c n)≠l.pth) then [QnW (XW c n)] else []
noncomputable def X2 (l:QJ):Nat->Sea->Nat->List Int
 | 0,c,_=>(Q9 c.wlo c.whi).flatMap (WX l c)
 | k+1,c,w=>(Q9 (c.waters.getD w (0,0)).1 (c.waters.getD w (0,0)).2).flatMap fun n=>X2 l k (Wq c w n) (w+1)
@[reducible] def Y7 (l:QJ) (P:List Int):Qk:=[(0,.box [.clo 168 [] [.loc 0 0,.iv (.ptr (lsC l)),.loc 1 0]]),(1,.box [.oref 2]),(2,.mapd (JZ (XE P)))]
theorem Zy {P:Program} {K:World->Prop} {F:Ev.Way->Env->Qk->Prop} {c:AC} {ks ids:List Nat} {k:List AI} {e0:Env} {o0:Qk} (st:Nat->Env) (so:Nat->Qk) (n:Nat) (Q:Nat->Prop) (h0:Q 0)
  (hn:Q n->Q7 P K F c ks ids k (st n) (so n))
  (hs:∀ i,i<n->Q i->(Q (i+1)->Q7 P K F c ks ids k (st (i+1)) (so (i+1)))->Q7 P K F c ks ids k (st i) (so i)) (he:e0=st 0) (ho:o0=so 0):Q7 P K F c ks ids k e0 o0:=by
 subst he ho;exact Qu st so n Q h0 hn hs
section
theorem clone169 (l:List (Int × Int)) (hl:l.length<=1000) (hne:l≠[]):QcY Tryz.prog K 169 [ZS l] (.aref 0 l.length) 24 2 (l.map spC) 0:=by
 have h:=qi (P:=Tryz.prog) (K:=K) (f:=169) (e:=24) (sz:=2) (bytes:=16) (AnyE.slices_Clone Tryz.clone169 Qve (.agg #[.int .i64 0,.int .i64 0]) 2 16 (by kernel_rfl) (by kernel_rfl) (by kernel_rfl) (by kernel_rfl) rfl (by decide) Tryz.sizeOf24) (l.map spC) (by simp;omega) (fun c hc=>by obtain ⟨x,_,rfl⟩:=QzI.1 hc;rfl) (by simpa using hne)
 simpa using h
theorem Ql8:Qmq Tryz.prog 168 QpX [2,4]:=⟨_,Tryz.func168,by kernel_rfl⟩
theorem U0 (l:QJ) (P:List Int):∀ q∈Y7 l P,q.1<3/\Y3 q.2=true/\clO ((Y7 l P).map (·.1)) q.2=true:=by
 intro q hq;simp only[Qz1,QAf,or_false] at hq;rcases hq with rfl | rfl | rfl
 ·exact ⟨by omega,rfl,by simp[clO,clAL,clA]⟩
 ·exact ⟨by omega,rfl,by simp[clO,clAL,clA]⟩
 ·exact ⟨by omega,rfl,by simp[clO]⟩
def Qu7 (l:QJ) (Q:List Int):Env->Qk->Prop:=Qrq [] [0,1,2] [(2,0,0),(4,1,0)] (.iv (.tup [])) (Y7 l Q)
theorem QiQ {l:QJ} {Q:List Int} {e:Env} {o:Qk} (h1:Ev.look e 2=.loc 0 0) (h2:Ev.look e 4=.loc 1 0) (h3:∀ q∈Y7 l Q,Qc o q.1=some q.2):Qu7 l Q e o:=by
 refine ⟨⟨.iv (.tup []),rfl,rfl⟩,fun q hq=>?_,fun q hq=>?_⟩
 ·have h4:=h3 q hq
  simp only[Y7,Qz1,QAf,or_false] at hq;rcases hq with rfl | rfl | rfl
  ·exact h4
  ·exact h4
  ·exact h4
 grind
theorem Qaf (l:QJ) (c:Sea) (w:Nat) (P Q:List Int) (h:WpF Tryz.prog K (FnF (Qu7 l Q)) [.code QpX.code] (YY 0 [.iv (VQ c),.iv (.int .i64 w),.loc 0 0,.iv (.ptr (lsC l)),.loc 1 0]) (Y7 l P)) :
  ZG Tryz.prog K 168 [.iv (VQ c),.iv (.int .i64 w),.loc 0 0,.iv (.ptr (lsC l)),.loc 1 0] (Y7 l P) [0,1] (.iv (.tup [])) (Y7 l Q):=by
 refine JT [0,1,2] [0,1] [2,4] [(2,0,0),(4,1,0)] Ql8 (by simp[QpX]) (by decide) (U0 l _) (by simp[clA]) (fun i hi=>?_) h
 have:i=0\/i=1:=by simpa using hi
 rcases this with rfl | rfl
 ·exact ⟨rfl,⟨_,rfl⟩,⟨_,rfl⟩,2,0,by simp,by simp,by simp⟩
 ·exact ⟨rfl,⟨_,rfl⟩,⟨_,rfl⟩,4,0,by simp,by simp,by simp⟩
theorem Zg (lo hi:Int):(Q9 lo hi).length=(hi+1-lo).toNat:=by simp[Q9]
theorem X5 (lo hi:Int) (i:Nat) (h:i<(Q9 lo hi).length):(Q9 lo hi)[i]=lo+(i:Nat):=by simp[Q9]
theorem Y5 {α:Type} (f:Int->List α) (l:List Int) (i:Nat) (h:i<l.length):(l.take (i+1)).flatMap f=(l.take i).flatMap f++f l[i]:=by
 rw[Qzn h,QAl];simp
theorem Uk {α:Type} (f:Int->List α) (l:List Int) (i:Nat):((l.take i).flatMap f).length<=(l.flatMap f).length:=by
 conv=>rhs;rw[<- List.take_append_drop i l]
 rw[QAl,Qzp];omega
theorem QwP (l:QJ) (R R2:List Int) {args0:List AV} (o:Qk) {ids:List Nat} (hnd:ids.Nodup) (hl:ids.length=3) (ha:args0.all (clA [0,1,2])=true) (h0:Qc o (nth ids 0)=some (.box [.clo 168 [] [.loc (nth ids 0) 0,.iv (.ptr (lsC l)),.loc (nth ids 1) 0]])) (h1:Qc o (nth ids 1)=some (.box [.oref (nth ids 2)])) (h2:Qc o (nth ids 2)=some (.mapd (JZ (XE R)))) :
  HOk ids args0 o (Y7 l R) (Y7 l R2):=by
 refine ⟨hnd,ha,fun q hq=>?_,fun i hi h=>?_,fun q hq=>⟨by rw[hl];exact (U0 l R2 q hq).1,(U0 l R2 q hq).2.1⟩⟩
 ·have h3:=U0 l R q hq
  refine ⟨by rw[hl];exact h3.1,?_,h3.2.2,h3.2.1⟩
  simp only[Y7,Qz1,QAf,or_false] at hq;rcases hq with rfl | rfl | rfl
  ·exact h0
  ·exact h1
  ·exact h2
 ·simp[hl] at hi
  have:i=0\/i=1\/i=2:=by omega
  rcases this with rfl | rfl | rfl<;>simp[Qc] at h
theorem Qcf {c:Sea} (hc:Qf c) {w:Nat} (hw:w<c.waters.length) {n:Int} (h0:c.waters[w].1<=n) (h1:n<=c.waters[w].2):Qf (Wq c w n):=by
 have h2:=Zb (hc.waters _ (Qzr hw));refine ⟨hc.thick,hc.str,hc.wrong,by simpa[Wq] using hc.nw,hc.wear,fun s hs=>?_,hc.nv,by simpa[Wq] using hc.voys,hc.ng,hc.gauges⟩
 rcases List.mem_or_eq_of_mem_set hs with h | h
 ·exact hc.waters s h
 ·subst h
  simp[QZ,inR];omega
theorem JV {f:Int->List Int} {m:Nat}:∀ l:List Int,(∀ x∈l,(f x).length<=m)->(l.flatMap f).length<=l.length*m
 | [],_=>by simp
 | a::r,h=>by
   have h1:=JV r fun x hx=>h x (by simp[hx])
   have h2:=h a (by simp)
   rw[Qz4,Qzp,Qzv,QzO];omega
theorem YJ {lo hi n:Int} (h:n∈Q9 lo hi):lo<=n/\n<=hi:=by
 simp only[Q9,QzI,QAE] at h;obtain ⟨k,hk,rfl⟩:=h;omega
theorem QfD (l:QJ):∀ (k:Nat) (c:Sea) (w:Nat),w+k=c.waters.length->Qf c->(X2 l k c w).length<=10*10 ^ k
 | 0,c,w,_,hc=>by
   have h1:=Zb hc.wear;have h2:=JV (f:=WX l c) (m:=1) (Q9 c.wlo c.whi) fun x _=>by unfold WX;split<;>simp
   rw[Zg] at h2;simp only[X2];simp at h1;omega
 | k+1,c,w,hw,hc=>by
   have hw':w<c.waters.length:=by omega
   have hge:c.waters.getD w (0,0)=c.waters[w]:=by simp[hw']
   have h1:=Zb (hc.waters _ (Qzr hw'))
   have h2:=JV (f:=fun n=>X2 l k (Wq c w n) (w+1)) (m:=10*10 ^ k) (Q9 c.waters[w].1 c.waters[w].2) fun x hx=>by
    have h3:=YJ hx;exact QfD l k _ _ (by simp[Wq];omega) (Qcf hc hw' h3.1 h3.2)
   rw[Zg] at h2;simp only[X2];rw[hge];have h4:(c.waters[w].2+1-c.waters[w].1).toNat<=10:=by omega
   have h5:=QzN (10*10 ^ k) h4;rw[Nat.pow_succ];omega
noncomputable def JE (l:QJ):List Int:=X2 l l.sea.waters.length l.sea 0
theorem QeX {l:QJ} (hc:Qf l.sea):(JE l).length<=100000:=by
 have h1:=QfD l l.sea.waters.length l.sea 0 (by omega) hc
 have h2:=Qz0 (show 0<10 by omega) hc.nw
 unfold JE;omega
include hK
theorem QkU (l:QJ):∀ (k:Nat) (c:Sea) (w:Nat) (P:List Int),w+k=c.waters.length->Qf c->P.length+(X2 l k c w).length<=1000000 ->
  ZG Tryz.prog K 168 [.iv (VQ c),.iv (.int .i64 w),.loc 0 0,.iv (.ptr (lsC l)),.loc 1 0] (Y7 l P) [0,1] (.iv (.tup [])) (Y7 l (P++X2 l k c w)):=by
 intro k
 induction k with
 | zero =>
   intro c w P hw hc hle;refine Qaf l c w P _ ?_;generalize hG:Qu7 l _=G;have hw':c.waters.length=w:=by omega
   have hnw:=hc.nw;have hwr:=Zb hc.wear;have hlen:=Zg c.wlo c.whi;simp only[X2] at hG hle;simp[QpX,hw']
   (repeat' first | omega | (with_reducible apply And.intro) | intro _)
   refine Zy (fun i=>[(2,.loc 0 0),(3,.iv (.ptr (lsC l))),(4,.loc 1 0),(5,.iv (.ptr (Yt c))),(9,.iv (.int .i64 (c.wlo+(i:Nat))))]) (fun i=>Y7 l (P++((Q9 c.wlo c.whi).take i).flatMap (WX l c))) (Q9 c.wlo c.whi).length (fun _=>True) trivial ?_ ?_ (by simp) (by simp)
   ·intro _
    rw[Qa Qet.eq_1];have h1:¬ c.wlo+((Q9 c.wlo c.whi).length:Int)<=c.whi:=by omega
    simp[h1];rw[<- hG];exact QiQ rfl rfl (by simp[Qc])
   ·intro i hi _ ih
    rw[Qa Qet.eq_1];have h1:c.wlo+(i:Int)<=c.whi:=by omega
    rw[Y5 _ _ _ hi,X5] at ih;have hg1:=Qoq hK (XW c (c.wlo+i)) c.voys.length (by simp[XW])
    have hg2:=Qij hK (XW c (c.wlo+i)) c.voys.length (by simp[XW])
    have hnv:=hc.nv;have hdef:WX l c (c.wlo+(i:Int))=if tW (XW c (c.wlo+(i:Int))) true=0/\¬ (0<=l.pth/\Qnn (XW c (c.wlo+(i:Int)))≠l.pth) then [QnW (XW c (c.wlo+(i:Int)))] else []:=rfl
    have hle2:=Uk (WX l c) (Q9 c.wlo c.whi) i;rw[hdef] at ih;have e1:(loD ((wTr (XW c (c.wlo+(i:Int)))).map fun w=>QH (XW c (c.wlo+(i:Int))) w c.voys.length))=Qnn (XW c (c.wlo+(i:Int))):=rfl
    have e2:(loD ((wTr (XW c (c.wlo+(i:Int)))).map fun w=>Ze (XW c (c.wlo+(i:Int))) (QH (XW c (c.wlo+(i:Int))) w c.voys.length)))=QnW (XW c (c.wlo+(i:Int))):=rfl
    rw[e1] at hg1;rw[e2] at hg2;clear hdef e1 e2;generalize Qnn (XW c (c.wlo+(i:Int)))=th at *;generalize QnW (XW c (c.wlo+(i:Int)))=ho at *;generalize tW (XW c (c.wlo+(i:Int))) true=tt at *;have e3:c.wlo+((i+1:Nat):Int)=c.wlo+i+1:=by omega
    rw[e3] at ih;generalize hR:P++List.flatMap (WX l c) (List.take i (Q9 c.wlo c.whi))=R at *;have hRl:R.length<=1000000:=by rw[<- hR,Qzp];omega
    rw[<- QzC,hR] at ih;have hgl:=QdV ho R;have hkk:=JA (XE R);have hf:=Vx ho (XE R);have hin:=U5 ho (XE R);simp[h1]
    (repeat' first | omega | (with_reducible apply And.intro) | intro _)
    refine cK (by simpa[XW] using hg1) ?_
    by_cases h2:tt=0
    ·by_cases h3:0<=l.pth
     ·by_cases h4:th=l.pth
      ·simp[h2,h4] at ih |-
       simp only[Y7] at ih;rw[XT] at ih;generalize XE R=kv at *;simp[h3]
       (repeat' first | omega | (with_reducible apply And.intro) | intro _)
       refine cK (by simpa[XW,h2] using hg2) ?_
       simp[hkk,hf,hin];exact ⟨by omega,by omega,ih⟩
      ·simp[h2,h3,h4] at ih |-
       exact ⟨by omega,ih⟩
     ·simp[h2,h3] at ih |-
      simp only[Y7] at ih;rw[XT] at ih;generalize XE R=kv at *
      (repeat' first | omega | (with_reducible apply And.intro) | intro _)
      refine cK (by simpa[XW,h2] using hg2) ?_
      simp[hkk,hf,hin];exact ⟨by omega,by omega,ih⟩
    ·simp[h2] at ih |-
     exact ⟨by omega,ih⟩
 | succ k ih =>
   intro c w P hw hc hle;refine Qaf l c w P _ ?_;have hw':w<c.waters.length:=by omega
   generalize hG:Qu7 l _=G;have hsp:=Zb (hc.waters _ (Qzr hw'));have hge:c.waters.getD w (0,0)=c.waters[w]:=by simp[hw']
   simp only[X2] at hG hle;rw[hge] at hG hle;have hlen:=Zg c.waters[w].1 c.waters[w].2;have hne:c.waters≠[]:=List.ne_nil_of_length_pos (by omega)
   have hgc:=clone169 (K:=K) c.waters (by have:=hc.nw;omega) hne
   simp[QpX,hw']
   (repeat' first | omega | (with_reducible apply And.intro) | intro _)
   refine Zy (fun i=>[(1,.iv (.int .i64 w)),(2,.loc 0 0),(4,.loc 1 0),(5,.iv (.ptr (Yt c))),(7,.iv (.int .i64 (c.waters[w].1+(i:Nat))))]) (fun i=>Y7 l (P++((Q9 c.waters[w].1 c.waters[w].2).take i).flatMap fun n=>X2 l k (Wq c w n) (w+1))) (Q9 c.waters[w].1 c.waters[w].2).length (fun _=>True) trivial ?_ ?_ (by simp) (by simp)
   ·intro _
    rw[Qa Qeu.eq_1];have h1:¬ c.waters[w].1+((Q9 c.waters[w].1 c.waters[w].2).length:Int)<=c.waters[w].2:=by omega
    simp[h1,hw'];rw[<- hG];exact QiQ rfl rfl (by simp[Qc])
   ·intro i hi _ ih2
    rw[Qa Qeu.eq_1];have h1:c.waters[w].1+(i:Int)<=c.waters[w].2:=by omega
    have hle2:=Uk (fun n=>X2 l k (Wq c w n) (w+1)) (Q9 c.waters[w].1 c.waters[w].2) (i+1)
    rw[Y5 _ _ _ hi,X5] at ih2 hle2;have e3:c.waters[w].1+((i+1:Nat):Int)=c.waters[w].1+i+1:=by omega
    rw[e3,<- QzC] at ih2;generalize hR:P++List.flatMap (fun n=>X2 l k (Wq c w n) (w+1)) (List.take i (Q9 c.waters[w].1 c.waters[w].2))=R at *
    have hg:=ih (Wq c w (c.waters[w].1+i)) (w+1) R (by simp[Wq];omega) (Qcf hc hw' (by omega) h1) (by
     rw[<- hR,Qzp];rw[Qzp] at hle2;omega)
    have hset:∀ x:Int,(List.map (List.map AV.iv∘spC) c.waters).set w [AV.iv (.int .i64 x),AV.iv (.int .i64 x)]=emb ((c.waters.set w (x,x)).map spC):=fun x=>by
     simp[emb,List.map_set]
    simp[h1,hw']
    (repeat' first | omega | (with_reducible apply And.intro) | intro _)
    refine Qbm hgc (by simp) ?_
    simp[hw',hset,Qzt];refine ⟨by omega,by kernel_rfl,ZH hg (by simp[nth,rn,Wq,List.map_set]) (QwP l _ _ _ (by decide) rfl (by simp[clA]) (by simp[Qc,nth]) (by simp[Qc,nth]) (by simp[Qc,nth])) ?_⟩
    simp[nth,rn];exact ⟨by omega,ih2 trivial⟩
theorem QoP (l:QJ) (hc:Qf l.sea):Ev.Good Tryz.prog K 119 [lsV l] (.map (JZ (XE (JE l)))):=by
 refine Qb hK QqE (by simp) ?_
 have hle:=QeX hc;have hg:=QkU hK l l.sea.waters.length l.sea 0 [] (by omega) hc (by simpa[JE] using (by omega:(JE l).length<=1000000))
 have e1:X2 l l.sea.waters.length l.sea 0=JE l:=rfl;rw[e1,QAa] at hg;simp;refine ⟨by kernel_rfl,ZH hg (by simp[nth,rn]) (QwP l _ _ _ (by decide) rfl (by simp[clA]) (by simp[Qc,nth]) (by simp[Qc,nth]) (by simp[Qc,nth,XE,JZ])) ?_⟩
 simp[nth,rn]
end
structure Evt where
 cause:Int
 flaw:Int
 held:Int
 pull:Int × Int
 rated:Int × Int
 deriving DecidableEq
@[simp] def evC (e:Evt):List IV:=[.int .i64 e.cause,.int .i64 e.flaw,.int .i64 e.held,.int .i64 e.pull.1,.int .i64 e.pull.2,.int .i64 e.rated.1,.int .i64 e.rated.2]
def isE (e:Evt):Bool:=decide (e.pull.1<=e.pull.2)&&decide (e.rated.1<=e.rated.2)
def Z2 (load flaw:Int):Int:=(load*(100-flaw)).tdiv 100
def Zj (a b:Int × Int):Int × Int:=(max a.1 b.1,min a.2 b.2)
@[reducible] def evO (es:List Evt):Qk:=[(0,.box [.aref 1 es.length]),(1,.arr 177 7 (emb (es.map evC)) 0)]
def Qww (es:List Evt):Env->Qk->Prop:=Qrq [] [0,1] [(1,0,0)] (.iv (.tup [])) (evO es)
theorem QiR {es:List Evt} {e:Env} {o:Qk} (h1:Ev.look e 1=.loc 0 0) (h2:Qc o 0=some (.box [.aref 1 es.length])) (h3:Qc o 1=some (.arr 177 7 (emb (es.map evC)) 0)):Qww es e o:=by
 refine ⟨⟨.iv (.tup []),rfl,rfl⟩,fun q hq=>?_,fun q hq=>?_⟩
 ·simp only[evO,Qz1,QAf,or_false] at hq
  rcases hq with rfl | rfl
  ·exact h2
  ·rw[WA]
   exact h3
 grind
theorem Qfw (es:List Evt):∀ q∈evO es,q.1<2/\Y3 q.2=true/\clO ((evO es).map (·.1)) q.2=true:=by
 intro q hq;simp only[evO,Qz1,QAf,or_false] at hq;rcases hq with rfl | rfl
 ·exact ⟨by omega,rfl,by simp[clO,clAL,clA]⟩
 ·exact ⟨by show (1:Nat)<2;omega,rfl,qj _ _ _ _ _⟩
theorem Ql9:Qmq Tryz.prog 116 Qui [1]:=⟨_,Tryz.func116,by kernel_rfl⟩
def J2 (e:Evt):List Evt:=if isE e then [e] else []
def evF (l:QJ) (fr h f:Int):List Evt :=
 J2 ⟨1,f,Z2 h f,Zj (Zj (l.plo,l.phi) (Z2 h f+1,99999)) (l.rlo+1,99999),Zj (l.rlo,l.rhi) (0,(Zj (l.plo,l.phi) (Z2 h f+1,99999)).2-1)⟩ ++
 J2 ⟨2,f,Z2 h f,Zj (Zj (Zj (l.plo,l.phi) (Z2 h f+1,99999)) (0,l.rhi)) (0,Z2 fr f),Zj (l.rlo,l.rhi) ((Zj (Zj (Zj (l.plo,l.phi) (Z2 h f+1,99999)) (0,l.rhi)) (0,Z2 fr f)).1,99999)⟩ ++
 J2 ⟨if l.part<f then 3 else 4,f,Z2 h f,Zj (Zj (Zj (l.plo,l.phi) (Z2 h f+1,99999)) (0,l.rhi)) (Z2 fr f+1,99999),Zj (l.rlo,l.rhi) ((Zj (Zj (Zj (l.plo,l.phi) (Z2 h f+1,99999)) (0,l.rhi)) (Z2 fr f+1,99999)).1,99999)⟩
def evH (l:QJ) (fr h:Int):List Evt:=(Q9 l.flo l.fhi).flatMap (evF l fr h)
def Qfa (c:Sea):Sea:={ c with gauges:=[] }
noncomputable def Zd (l:QJ):Int:=if tW (Qfa l.sea) true=0 then loD ((wTr (Qfa l.sea)).map fun w=>Ze (Qfa l.sea) (QH (Qfa l.sea) w 0)) else 0
noncomputable def ZQ (l:QJ):List Int:=(XE (JE l)).map (·.1)
noncomputable def QT (l:QJ):List Evt:=(ZQ l).flatMap (evH l (Zd l))
noncomputable def evS (l:QJ) (seen:List Nat):List Evt:=seen.reverse.flatMap fun i=>evH l (Zd l) ((ZQ l).getD i 0)
theorem Qfv (l:QJ) (i:Nat) (seen:List Nat):evS l (i::seen)=evS l seen++evH l (Zd l) ((ZQ l).getD i 0):=by simp[evS]
theorem Qf9 {n:Nat} {seen:List Nat} (h1:seen.Nodup) (h2:∀ i∈seen,i<n) (h3:∀ i,i<n->i∈seen):seen.Perm (List.range n):=by
 rw[List.perm_iff_count];intro a;by_cases ha:a<n
 ·rw[h1.count,(List.nodup_range).count]
  simp[ha,h3 a ha]
 ·rw[List.count_eq_zero.2 fun h=>ha (h2 a h),List.count_eq_zero.2 fun h=>ha (QAE.1 h)]
theorem Qlc (l:QJ) {seen:List Nat} (h1:seen.Nodup) (h2:∀ i∈seen,i<(ZQ l).length) (h3:∀ i,i<(ZQ l).length->i∈seen):(evS l seen).Perm (QT l):=by
 have h4:(ZQ l)=(List.range (ZQ l).length).map fun i=>(ZQ l).getD i 0:=by
  refine List.ext_getElem (by simp) fun i h _=>?_
  simp[h]
 have h5:QT l=(List.range (ZQ l).length).flatMap fun i=>evH l (Zd l) ((ZQ l).getD i 0):=by
  unfold QT
  conv=>lhs;rw[h4]
  rw[List.flatMap_map]
 rw[h5];unfold evS;exact ((List.reverse_perm seen).trans (Qf9 h1 h2 h3)).flatMap_right _
include hK
theorem QoQ (e:Evt):Ev.Good Tryz.prog K 117 [.agg (evC e)] (.bool (isE e)):=by
 refine Qb hK QqG (by simp) ?_
 unfold isE;by_cases h1:e.pull.1<=e.pull.2<;>simp[h1]
theorem Qii (a f:Int) (ha:0<=a/\a<=100000) (hf:0<=f/\f<=100):Ev.Good Tryz.prog K 120 [.int .i64 a,.int .i64 f] (.int .i64 (Z2 a f)):=by
 refine Qb hK QqD (by simp) ?_
 have h1:=Qz8 (a:=a) (b:=100-f) (by omega) (by omega)
 have h2:=QzW (a:=a) (b:=100-f) (c:=100000) (d:=100) (by omega) (by omega) (by omega) (by omega)
 have h3:(a*(100-f)).tdiv 100=a*(100-f) / 100:=QAj h1;simp[Z2];omega
theorem YT (a b:Int × Int):Ev.Good Tryz.prog K 121 [.agg (spC a),.agg (spC b)] (.agg (spC (Zj a b))):=by
 refine Qb hK QqC (by simp) ?_
 simp only[Zj,Int.max_def,Int.min_def];simp
 grind
theorem U3 (es:List Evt) (e:Evt) (hl:es.length<=100000000):ZG Tryz.prog K 116 [.iv (.agg (evC e)),.loc 0 0] (evO es) [0] (.iv (.tup [])) (evO (es++if isE e then [e] else [])):=by
 refine JT [0,1] [0] [1] [(1,0,0)] Ql9 (by simp[Qui]) (by decide) (Qfw _) (by simp[clA]) (fun i hi=>?_) ?_
 ·have:i=0:=by simpa using hi
  subst this;exact ⟨rfl,⟨_,rfl⟩,⟨_,rfl⟩,1,0,by simp,by simp,by simp⟩
 ·show WpF _ _ (FnF (Qww _)) _ _ _
  generalize hG:Qww _=G;have hg:=QoQ hK e;simp[Qui];refine cK (by simpa using hg) ?_
  cases hE:isE e
  ·rw[hE] at hG
   simp;rw[<- hG];exact QiR rfl (by simp[Qc]) (by simp[Qc])
  ·rw[hE] at hG
   simp;rw[<- hG];exact ⟨by omega,QiR rfl (by simp[Qc]) (by simp[Qc,emb])⟩
end Go.Pf
namespace Go.Ev
open Go Go.RowKit
section
variable {P:Program} {K:World->Prop}
end
section
variable {P:Program} {K:World->Prop}
theorem WG {ok w' fr o1 L'} (h:QgQ fr ok w' (Qc o1) L') (hlt:∀ b,fr b->b<w'.heap.size) :
  Rel ok ⟨0,[]⟩ ⟨w',fr,hlt,fun _=>undef⟩ (look []) (Qc o1) { tmps:=#[],defers:=[] } w' L' :=
 ⟨QL.refl _ _,⟨[],rfl,QAL,by simp⟩,rfl,fun t=>.iv _ _ (.any _),h.objs,h.apart,fun t ht=>by simp at ht⟩
theorem Qa6 (hK:∀ w w',K w->Below w.heap.size w w'->K w') {f xs y o1 r} (h:ZG P K f (xs.map .iv) [] [] y o1) (hi:imm (Qc o1) 40 y=some r):Good P K f xs r:=by
 intro w ok vs hk hnew hl hvs;have hn:∀ b,¬ qv (Qc []) (fun _=>.one 0) b:=fun b ⟨id,ob,h1,_⟩=>by simp[Qc] at h1
 have hFr:∀ b,b<w.heap.size->FrO w (Qc []) (fun _=>.one 0) b:=fun b hb=>⟨hb,hn b⟩
 refine (h w ok (fun _=>.one 0) vs (fun w' hkeep=>hK w w' hk (hkeep.mono hFr).below) hnew (fun b hb=>absurd hb (hn b)) ⟨by simp[Qc],by simp[Qc]⟩ (by simpa using hl) (fun k x u hx hu=>?_)).mono
  fun e w' ⟨v,L',he,hlaid,hrep,hkeep,_⟩=>⟨v,he,?_,(hkeep.mono hFr).below⟩
 ·rw[Qzu,Qzo] at hx
  obtain ⟨z,hz,rfl⟩:=hx;exact .iv _ _ ((hvs k z u hz hu).mono fun b hb _=>⟨⟨hb,by simp[Qc]⟩,rfl⟩)
 ·have hlt:∀ b,FrO w (Qc []) (fun _=>.one 0) b->b<w'.heap.size:=fun b hb=>QzJ hb.1 hkeep.size
  refine (XD (WG hlaid hlt) (ok1:=ok) (fun b hb=>hb.1) (lo':=Qc o1) (fun _ _ h=>h) (fun id ob b hob hb=>?_) 40).1 y v r hrep hi
  by_cases hbl:b<w.heap.size
  ·exact absurd (hFr b hbl) ((hlaid.objs id ob hob).lt hb).1
  ·exact hnew b (QAA.1 hbl)
theorem ZG.give {f args o rows st r cs xs} (h:ZG P K f args o st (.iv r) ((0,.box cs)::rows)) (hst0:∀ i∈st,i=0)
  (hx:imms (fun i=>if i=0 then Option.none else Qc ((0,.box cs)::rows) i) 40 cs=some xs):ZG P K f args o st (.iv r) [(0,.box (xs.map .iv))]:=by
 intro w ok L vs hK hnew hown hlaid hvl hvs;refine (h w ok L vs hK hnew hown hlaid hvl hvs).mono fun e w' ⟨v,L',he,hl',hrep,hkeep,hst⟩=>⟨v,L',he,?_,?_,hkeep,?_⟩
 ·have h0:Qc ((0,AO.box cs)::rows) 0=some (.box cs):=rfl
  have hlt:∀ b,FrO w (Qc o) L b->b<w'.heap.size:=fun b hb=>QzJ hb.1 hkeep.size
  have one0:∀ i ob,Qc [(0,AO.box (xs.map AV.iv))] i=some ob->i=0/\ob=.box (xs.map .iv):=fun i ob hob=>by
   simp only[Qc] at hob
   grind
  have hsub:∀ b,okL ok (Qc ((0,AO.box cs)::rows)) L' b->okL ok (Qc [(0,AO.box (xs.map AV.iv))]) L' b:=fun b hb=>⟨hb.1,fun i ob hob=>by
   obtain ⟨rfl,rfl⟩:=one0 i ob hob;exact hb.2 0 _ h0⟩
  have hs:=(XD (WG hl' hlt) (ok1:=okL ok (Qc [(0,AO.box (xs.map AV.iv))]) L') hsub (lo':=fun i=>if i=0 then Option.none else Qc ((0,.box cs)::rows) i)
   (fun id ob hob=>by
     split at hob
     ·cases hob
     ·exact hob)
   (fun id ob b hob hb=>by
     split at hob
     ·cases hob
     ·rename_i hid
      refine ⟨?_,fun i oi hi=>?_⟩
      ·have hnf:=((hl'.objs id ob hob).lt hb).1
       by_cases hbl:b<w.heap.size
       ·exact hown b (Classical.byContradiction fun hno=>hnf ⟨hbl,hno⟩)
       ·exact hnew b (QAA.1 hbl)
      ·obtain ⟨rfl,rfl⟩:=one0 i oi hi
       exact fun hb0=>hl'.apart 0 id _ ob b (fun e=>hid e.symm) h0 hob hb0 hb) 40).2 cs xs hx
  refine ⟨fun i ob hob=>?_,fun i j oi oj b hij hi hj=>?_⟩
  ·obtain ⟨rfl,rfl⟩:=one0 i ob hob
   have hob0:=hl'.objs 0 _ h0;generalize L' 0=l0 at hob0;cases l0 with
   | box b =>
     obtain ⟨hB,t,us,hb,hul,h1,hcx⟩:=hob0;refine ⟨hB,t,us,hb,by rw[Qzw,hs.1];exact hul,h1,fun k x u hk hu=>?_⟩
     grind
   | _=>exact hob0.elim
  grind
 ·cases hrep with
  | iv _ _ hr=>exact .iv _ _ (hr.mono fun b hb _=>⟨⟨hb.1,fun i ob hob=>by
    simp only[Qc] at hob;split at hob
    ·rename_i hi
     subst hi;exact hb.2 0 _ (show Qc ((0,AO.box cs)::rows) 0=some (.box cs) from rfl)
    ·cases hob⟩,rfl⟩)
 ·intro i hi ob hob
  have hi0:=hst0 i hi;subst hi0;obtain ⟨ob',h1,h2⟩:=hst 0 hi ob hob
  have:ob'=.box cs:=by
   have h0:Qc ((0,AO.box cs)::rows) 0=some (.box cs):=rfl;rw[h0] at h1;injection h1 with h1
   exact h1.symm
  subst this;refine ⟨_,rfl,?_⟩;cases ob<;>simp only[Yn] at h2 |-
  grind
end
variable {P:Program} {K:World->Prop}
def Qm8 (res:List XY) (sz:Nat) (es:List (List IV)) (e:Env) (o:Qk):Prop:=∃ es':List (List IV),es'.Perm es/\Xi res (.sl sz es') e o
theorem QdI {f:FuncId} {A:AFn} {xs:List IV} {sz:Nat} {es:List (List IV)} (hK:∀ w w',K w->Below w.heap.size w w'->K w') (hok:Qnc P f A) (hlen:xs.length<=A.nt)
  (h:WpF P K (FnF (Qm8 A.res sz es)) [.code A.code] (Yd 0 xs) []):Good P K f xs (.bag sz es):=by
 intro w ok vs hk hnew hvl hvs;refine calls_of_wp hK hok hlen h w ok vs (fun v w'=>Qv ok w' (.bag sz es) v/\Below w.heap.size w w') hk hnew hvl hvs (fun fn w1 e o a w' L hres hv hle hr=>?_)
 obtain ⟨es',hp,hv⟩:=hv;obtain ⟨v,h1,h2⟩:=YK hr (fun b hb=>hnew b (QAA.1 fun h=>hb (hle.fr b h))) hres hv
 exact ⟨v,h1,.bag sz es es' v hp h2,(hle.keeps hr.below).below⟩
theorem QkX {f:FuncId} {sz:Nat} {es:List (List IV)} {rest:List IV} {r:IV} (h:∀ es',es'.Perm es->Good P K f (.sl sz es'::rest) r):Good P K f (.bag sz es::rest) r:=by
 intro w ok vs hk hnew hl hx;cases vs with
 | nil=>simp at hl
 | cons v vs =>
   have h0:=hx 0 _ v rfl rfl;cases h0 with
   | bag _ _ es' _ hp h1 =>
     exact h es' hp w ok (v::vs) hk hnew (by simpa using hl) fun k x u a b=>by
      cases k with
      | zero =>
        simp at a b;subst a b;exact h1
      | succ k=>exact hx (k+1) x u (by simpa using a) b
end Go.Ev
namespace Go.Pf
open Go Go.Ev Go.Proofs Go.RowKit
variable {K:World->Prop} (hK:∀ w w',K w->Below w.heap.size w w'->K w')
set_option maxRecDepth 8000
theorem Qsc {l:List Int} (hne:l≠[]) {m:Int} (h:∀ x∈l,0<=x/\x<=m):0<=loD l/\loD l<=m:=by
 have h1:=QaJ hne;have h2:0<(Xl l).length:=List.length_pos_iff.2 h1;have h3:loD l=(Xl l)[0]:=by simp[loD,h2]
 rw[h3];exact h _ ((Wo _ l).1 (Qzr h2))
theorem QhA {c:Sea} (hc:Qf c) {n:Int} (h0:c.wlo<=n) (h1:n<=c.whi):Qf (XW c n):=by
 have h2:=Zb hc.wear;refine ⟨hc.thick,hc.str,hc.wrong,hc.nw,?_,hc.waters,hc.nv,hc.voys,hc.ng,hc.gauges⟩;simp at h2;show QZ (n,n)=false
 simp[QZ,inR];omega
theorem Qh0 {c:Sea} (hc:Qf c) (ht:tW c true=0) (k:Nat):0<=loD ((wTr c).map fun w=>Ze c (QH c w k))/\loD ((wTr c).map fun w=>Ze c (QH c w k))<=24975:=by
 obtain ⟨_,_,hne⟩:=Qno ht;refine Qsc (by simpa using hne) fun x hx=>?_
 obtain ⟨w,hw,rfl⟩:=QzI.1 hx;exact XR hc (ZA hc (QbJ hw) k)
theorem QfF (l:QJ):∀ (k:Nat) (c:Sea) (w:Nat),w+k=c.waters.length->Qf c->∀ x∈X2 l k c w,0<=x/\x<=24975
 | 0,c,w,_,hc,x,hx=>by
   simp only[X2,QzP] at hx;obtain ⟨n,hn,hx⟩:=hx;have h1:=YJ hn;unfold WX at hx;split at hx
   ·rename_i h2
    have:=Qh0 (QhA hc h1.1 h1.2) h2.1 (XW c n).voys.length;simp at hx;subst hx;exact this
   ·simp at hx
 | k+1,c,w,hw,hc,x,hx=>by
   have hw':w<c.waters.length:=by omega
   have hge:c.waters.getD w (0,0)=c.waters[w]:=by simp[hw']
   simp only[X2,QzP] at hx;obtain ⟨n,hn,hx⟩:=hx;rw[hge] at hn;have h1:=YJ hn;exact QfF l k _ _ (by simp[Wq];omega) (Qcf hc hw' h1.1 h1.2) x hx
theorem Qkq {l:QJ} (hc:Qf l.sea) {x:Int} (hx:x∈JE l):0<=x/\x<=24975:=QfF l _ _ _ (by omega) hc x hx
theorem Qr6 {c:Sea} (hc:Qf c):Qf (Qfa c):=⟨hc.thick,hc.str,hc.wrong,hc.nw,hc.wear,hc.waters,hc.nv,hc.voys,by simp[Qfa],by simp[Qfa]⟩
theorem Qcv {l:QJ} (hc:Qf l.sea):0<=Zd l/\Zd l<=24975:=by
 unfold Zd;split
 ·exact Qh0 (Qr6 hc) (by assumption) 0
 ·omega
theorem QaE {a f:Int} (ha:0<=a/\a<=100000) (hf:0<=f/\f<=100):0<=Z2 a f/\Z2 a f<=100000:=by
 have h1:=Qz8 (a:=a) (b:=100-f) (by omega) (by omega)
 have h2:=QzW (a:=a) (b:=100-f) (c:=100000) (d:=100) (by omega) (by omega) (by omega) (by omega)
 have h3:(a*(100-f)).tdiv 100=a*(100-f) / 100:=QAj h1;unfold Z2;omega
theorem Qle (l:List (Int × Nat)) (i:Nat):(JZ l)[i]?=(l[i]?).map fun p=>(.int .i64 p.1,.int .i64 (p.2:Nat)):=by simp[JZ]
theorem Qny {n:Nat} {seen:List Nat} (h1:seen.Nodup) (h2:∀ i∈seen,i<n):seen.length<=n:=by
 have h:seen.Perm ((List.range n).filter fun i=>seen.contains i):=by
  rw[List.perm_iff_count];intro a;have hf:((List.range n).filter fun i=>seen.contains i).Nodup:=List.nodup_range.filter _
  rw[h1.count,hf.count];simp
  grind
 have h3:=QzQ (fun i=>seen.contains i) (List.range n)
 rw[h.length_eq];simpa using h3
theorem WN (e:Evt):(J2 e).length<=1:=by unfold J2;split<;>simp
theorem Qm4 (l:QJ) (fr h f:Int):(evF l fr h f).length<=3:=by
 unfold evF;rw[Qzp,Qzp];exact Nat.add_le_add (Nat.add_le_add (WN _) (WN _)) (WN _)
theorem U4 {f:Int->List Evt} {m:Nat}:∀ l:List Int,(∀ x∈l,(f x).length<=m)->(l.flatMap f).length<=l.length*m
 | [],_=>by simp
 | a::r,h=>by
   have h1:=U4 r fun x hx=>h x (by simp[hx])
   have h2:=h a (by simp)
   rw[Qz4,Qzp,Qzv,QzO];omega
theorem Qm3 {l:QJ} (hl:OkL l) (fr h:Int):(evH l fr h).length<=303:=by
 have h1:=U4 (f:=evF l fr h) (m:=3) (Q9 l.flo l.fhi) fun x _=>Qm4 l fr h x
 have h2:=hl.flaw;simp only[Zc,inR] at h2;rw[Zg] at h1;unfold evH;omega
theorem Qm2 {l:QJ} (hl:OkL l):∀ seen:List Nat,(evS l seen).length<=seen.length*303
 | []=>by simp[evS]
 | i::r=>by
   have h1:=Qm2 hl r;have h2:=Qm3 hl (Zd l) ((ZQ l).getD i 0);rw[Qfv,Qzp,Qzv,QzO];omega
theorem QnO {l:QJ} (hc:Qf l.sea) (i:Nat):0<=(ZQ l).getD i 0/\(ZQ l).getD i 0<=24975:=by
 by_cases h:i<(ZQ l).length
 ·have h1:(ZQ l).getD i 0∈ZQ l:=by simp[h]
  exact Qkq hc ((U7 _ _).1 h1)
 ·simp[h]
theorem QhS {l:QJ} (hc:Qf l.sea):(ZQ l).length<=100000:=by
 have h1:=U9 (JE l);have h2:=QeX hc;simp[ZQ];omega
theorem QuP (es es2:List Evt) {args0:List AV} (o:Qk) (ha:args0.all (clA [0,1])=true) (h0:Qc o 3=some (.box [.aref 4000 es.length])) (h1:Qc o 4000=some (.arr 177 7 (emb (es.map evC)) 0)) :
  HOk [3,4000] args0 o (evO es) (evO es2):=by
 refine ⟨by decide,ha,fun q hq=>?_,fun i hi h=>?_,fun q hq=>⟨(Qfw es2 q hq).1,(Qfw es2 q hq).2.1⟩⟩
 ·have h3:=Qfw es q hq
  refine ⟨h3.1,?_,h3.2.2,h3.2.1⟩;simp only[evO,Qz1,QAf,or_false] at hq;rcases hq with rfl | rfl
  ·exact h0
  ·rw[WA]
   exact h1
 ·simp at hi
  have:i=0\/i=1:=by omega
  rcases this with rfl | rfl<;>simp[Qc] at h
include hK
theorem QkZ (l:QJ):∃ fh ft:Int,Ev.Good Tryz.prog K 118 [VQ (Qfa l.sea),.int .i64 0] (.tup [.agg [.int .i64 (Zd l),.int .i64 fh],.int .i64 ft]):=by
 have h:=Qij hK (Qfa l.sea) 0 (by omega)
 unfold Zd;split at h
 ·rename_i h1
  exact ⟨_,_,by simpa[h1] using h⟩
 ·rename_i h1
  exact ⟨_,_,by simpa[h1] using h⟩
theorem Qsv (l:QJ) (hl:OkL l):Ev.Good Tryz.prog K 85 [lsV l] (.bag 7 ((QT l).map evC)):=by
 refine QdI hK Qtu (by simp) ?_
 generalize hG:Qm8 c85.res 7 ((QT l).map evC)=G;obtain ⟨fh,ft,hg1⟩:=QkZ hK l;have hg2:=QoP hK l hl.sea;have hfr:=Qcv hl.sea;simp;refine cK (by simpa[Qfa] using hg1) ?_
 simp;refine cK (by simpa using hg2) ?_
 simp;have hnk:(XE (JE l)).length=(ZQ l).length:=by simp[ZQ]
 have hkl:=QhS hl.sea
 have key:∀ seen:List Nat,(seen.Nodup/\∀ i∈seen,i<(ZQ l).length)->Q7 Tryz.prog K (FnF G) Qjq [1,3,4,6,26] [3,6,26,4000]
   [AI.inBlock 0,AI.code ((AC.ops [⟨some 123,none,.ldo 3 1 false (.t 3)⟩,⟨some 2,none,.mov (.t 123)⟩] false).seq AC.ret)]
   [(1,.iv (.ptr (lsC l))),(3,.loc 3 0),(4,.clo 116 [] [.loc 3 0]),(6,.loc 6 0),(26,.oref 26)]
   [(3,.box [.aref 4000 (evS l seen).length]),(6,.box [.iv (.int .i64 (Zd l)),.iv (.int .i64 fh)]),(26,.miter (JZ (XE (JE l))) seen),(4000,.arr 177 7 (emb ((evS l seen).map evC)) 0)]:=by
  refine QhK (fun _=>[(1,.iv (.ptr (lsC l))),(3,.loc 3 0),(4,.clo 116 [] [.loc 3 0]),(6,.loc 6 0),(26,.oref 26)]) (fun seen=>[(3,.box [.aref 4000 (evS l seen).length]),(6,.box [.iv (.int .i64 (Zd l)),.iv (.int .i64 fh)]),(26,.miter (JZ (XE (JE l))) seen),(4000,.arr 177 7 (emb ((evS l seen).map evC)) 0)]) (ZQ l).length _ ?_
  intro seen hI ih;rw[Qa Qjq.eq_1];have hsl:=Qny hI.1 hI.2;have hel:=Qm2 hl seen;have hlen:(JZ (XE (JE l))).length=(ZQ l).length:=by simp[JZ,ZQ]
  simp[hlen,Qle];refine ⟨fun hall=>?_,fun i a b n m hq ha hb hns=>?_⟩
  ·rw[<- hG]
   refine ⟨(evS l seen).map evC,(Qlc l hI.1 hI.2 hall).map evC,?_⟩;simp[c85]
  ·subst ha hb
   have hil:=(Qzl.1 hq).1;have hk:n=(ZQ l).getD i 0:=by simp[ZQ,hq]
   have hbd:=QnO hl.sea i;rw[<- hk] at hbd
   have hih:=ih i (by omega) hns ⟨List.nodup_cons.2 ⟨hns,hI.1⟩,fun j hj=>by
    rcases Qz1.1 hj with rfl | hj
    ·omega
    ·exact hI.2 j hj⟩
   rw[Qfv,<- hk] at hih;clear ih;have hfl:=hl.flaw;simp only[Zc,inR] at hfl;have hpl:=hl.pull;simp only[Zc,inR] at hpl;have hrl:=hl.rated;simp only[Zc,inR] at hrl;have hrlen:=Zg l.flo l.fhi;simp[hq]
   (repeat' first | omega | (with_reducible apply And.intro) | intro _)
   refine Zy (fun j=>[(1,.iv (.ptr (lsC l))),(3,.loc 3 0),(4,.clo 116 [] [.loc 3 0]),(6,.loc 6 0),(8,.iv (.int .i64 n)),(9,.iv (.int .i64 (l.flo+(j:Nat)))),(26,.oref 26)])
    (fun j=>[(3,.box [.aref 4000 (evS l seen++((Q9 l.flo l.fhi).take j).flatMap (evF l (Zd l) n)).length]),(6,.box [.iv (.int .i64 (Zd l)),.iv (.int .i64 fh)]),(26,.miter (JZ (XE (JE l))) (i::seen)),(4000,.arr 177 7 (emb ((evS l seen++((Q9 l.flo l.fhi).take j).flatMap (evF l (Zd l) n)).map evC)) 0)])
    (Q9 l.flo l.fhi).length (fun _=>True) trivial ?_ ?_ (by simp) (by simp)
   ·intro _
    rw[Qa Qjr.eq_1];have h1:¬ l.flo+((Q9 l.flo l.fhi).length:Int)<=l.fhi:=by omega
    simp[h1];simpa[evH] using hih
   ·intro j hj _ ih2
    rw[Qa Qjr.eq_1];have h1:l.flo+(j:Int)<=l.fhi:=by omega
    have e3:l.flo+((j+1:Nat):Int)=l.flo+j+1:=by omega
    rw[Y5 _ _ _ hj,X5,e3,<- QzC] at ih2
    have hel2:(evS l seen++((Q9 l.flo l.fhi).take j).flatMap (evF l (Zd l) n)).length<=50000000:=by
     have:=U4 (f:=evF l (Zd l) n) (m:=3) ((Q9 l.flo l.fhi).take j) fun x _=>Qm4 l (Zd l) n x
     rw[Qzp];rw[QAg] at this;omega
    generalize evS l seen++((Q9 l.flo l.fhi).take j).flatMap (evF l (Zd l) n)=E at *;have hf1:0<=l.flo+(j:Int)/\l.flo+(j:Int)<=100:=by omega
    generalize hf:l.flo+(j:Int)=f at *;have g1:=Qii hK n f (by omega) hf1
    have g2:=Qii hK (Zd l) f (by omega) hf1
    have b1:=QaE (a:=n) (f:=f) (by omega) hf1
    have b2:=QaE (a:=Zd l) (f:=f) (by omega) hf1
    clear hih hq;unfold evF at ih2;generalize Z2 n f=held at *;generalize Z2 (Zd l) f=was at *;simp[h1];refine cK (by simpa using g1) ?_
    simp;refine cK (by simpa using g2) ?_
    simp;refine ⟨by omega,cK (by simpa using YT hK (l.plo,l.phi) (held+1,99999)) ?_⟩
    have hp1 : -1<=(Zj (l.plo,l.phi) (held+1,99999)).2/\(Zj (l.plo,l.phi) (held+1,99999)).2<=99999:=by simp only[Zj];omega
    generalize Zj (l.plo,l.phi) (held+1,99999)=p1 at *;simp;refine ⟨by omega,cK (by simpa using YT hK p1 (l.rlo+1,99999)) ?_⟩
    simp;refine ⟨by omega,cK (by simpa using YT hK (l.rlo,l.rhi) (0,p1.2-1)) ?_⟩
    have gh1:ZG Tryz.prog K 116 _ _ _ _ (evO (E++J2 ⟨1,f,held,Zj p1 (l.rlo+1,99999),Zj (l.rlo,l.rhi) (0,p1.2-1)⟩)):=U3 hK E ⟨1,f,held,Zj p1 (l.rlo+1,99999),Zj (l.rlo,l.rhi) (0,p1.2-1)⟩ (by omega)
    have hE1:=WN ⟨1,f,held,Zj p1 (l.rlo+1,99999),Zj (l.rlo,l.rhi) (0,p1.2-1)⟩;rw[<- QzC,<- QzC] at ih2
    have hE1:(E++J2 ⟨1,f,held,Zj p1 (l.rlo+1,99999),Zj (l.rlo,l.rhi) (0,p1.2-1)⟩).length<=50000001:=by
     rw[Qzp];omega
    generalize E++J2 _=E1 at *;simp;refine ⟨by kernel_rfl,ZH gh1 (by simp[nth,rn]) (QuP _ _ _ (by simp[clA]) (by simp[Qc]) (by simp[Qc])) ?_⟩
    simp[nth,rn];refine cK (by simpa using YT hK p1 (0,l.rhi)) ?_
    generalize Zj p1 (0,l.rhi)=p2 at *;simp;refine cK (by simpa using YT hK p2 (0,was)) ?_
    simp;refine ⟨by omega,cK (by simpa using YT hK p2 (was+1,99999)) ?_⟩
    generalize Zj p2 (0,was)=q1 at *;generalize Zj p2 (was+1,99999)=q2 at *;simp;rw[Qa QcS.eq_1];simp;refine cK (by simpa using YT hK (l.rlo,l.rhi) (q1.1,99999)) ?_
    generalize Zj (l.rlo,l.rhi) (q1.1,99999)=r2 at *;have gh2:ZG Tryz.prog K 116 _ _ _ _ (evO (E1++J2 ⟨2,f,held,q1,r2⟩)):=U3 hK E1 ⟨2,f,held,q1,r2⟩ (by omega)
    have hE2:=WN ⟨2,f,held,q1,r2⟩
    have hE2:(E1++J2 ⟨2,f,held,q1,r2⟩).length<=50000002:=by
     rw[Qzp];omega
    generalize E1++J2 _=E2 at *;simp;refine ⟨by kernel_rfl,ZH gh2 (by simp[nth,rn]) (QuP _ _ _ (by simp[clA]) (by simp[Qc]) (by simp[Qc])) ?_⟩
    simp[nth,rn];rw[Qa QcS.eq_1];by_cases hpf:l.part<f
    ·rw[if_pos hpf] at ih2
     simp[hpf];refine cK (by simpa using YT hK (l.rlo,l.rhi) (q2.1,99999)) ?_
     generalize Zj (l.rlo,l.rhi) (q2.1,99999)=r3 at *;have gh3:ZG Tryz.prog K 116 _ _ _ _ (evO (E2++J2 ⟨3,f,held,q2,r3⟩)):=U3 hK E2 ⟨3,f,held,q2,r3⟩ (by omega)
     generalize E2++J2 _=E3 at *;simp;refine ⟨by kernel_rfl,ZH gh3 (by simp[nth,rn]) (QuP _ _ _ (by simp[clA]) (by simp[Qc]) (by simp[Qc])) ?_⟩
     simp[nth,rn];rw[Qa QcS.eq_1];simp;exact ⟨by omega,ih2 trivial⟩
    ·rw[if_neg hpf] at ih2
     simp[hpf];refine cK (by simpa using YT hK (l.rlo,l.rhi) (q2.1,99999)) ?_
     generalize Zj (l.rlo,l.rhi) (q2.1,99999)=r3 at *;have gh3:ZG Tryz.prog K 116 _ _ _ _ (evO (E2++J2 ⟨4,f,held,q2,r3⟩)):=U3 hK E2 ⟨4,f,held,q2,r3⟩ (by omega)
     generalize E2++J2 _=E3 at *;simp;refine ⟨by kernel_rfl,ZH gh3 (by simp[nth,rn]) (QuP _ _ _ (by simp[clA]) (by simp[Qc]) (by simp[Qc])) ?_⟩
     simp[nth,rn];rw[Qa QcS.eq_1];simp;exact ⟨by omega,ih2 trivial⟩
 simpa[evS,emb] using key [] (by simp)
theorem Qig (c:Sea) (w:Qd) (k:Nat) (hc:Qf c) (hw:okW c w) (hk:k<=c.voys.length):Ev.Good Tryz.prog K 134 [VQ c,.agg (seC w),.int .i64 k] (.int .i64 (QH c w k)):=by
 refine Qb hK Qqu (by simp) ?_
 have hv8:=hc.nv;have hth:=hc.thick;simp only[inR] at hth;have e0:AV.iv (IV.int IntKind.i64 c.thick)=AV.iv (.int .i64 (Qdl c w (c.voys.take 0))):=by simp[Qdl]
 simp;rw[e0];refine Qu (fun i=>[(2,AV.iv (.int .i64 k)),(3,AV.iv (.ptr (Yt c))),(4,AV.iv (.ptr (seC w))),(7,AV.iv (.int .i64 (Qdl c w (c.voys.take i)))),(8,AV.iv (.int .i64 (i:Nat)))]) (fun _=>[]) k (fun _=>True) trivial ?_ ?_
 ·intro _
  rw[Qa QeB.eq_1];simp[QH];split<;>omega
 ·intro i hi _ ih
  have hi':i<c.voys.length:=by omega
  have hii:(i:Int)<(k:Int):=by omega
  have hv:=hc.voy (Qzr hi');have hl:=Qa0 hc hw (Qzr hi');have hr:=QaW hc hw i;have h4:=hc.nw;have hwl:=(Qhz hc hw).2.1;have hlt:c.voys[i].1.toNat<w.shorts.length:=by omega
  have hge:w.shorts.getD c.voys[i].1.toNat 0=w.shorts[c.voys[i].1.toNat]:=by simp[hlt]
  have hnn:((c.voys[i].1.toNat:Nat):Int)=c.voys[i].1:=by omega
  rw[WH c w i hi'] at ih;rw[Qa QeB.eq_1];generalize Qdl c w (c.voys.take i)=R at *;unfold Qdv at hl ih;rw[hge] at hl ih;simp[hi',hii];refine ⟨by omega,?_⟩
  generalize c.voys[i].1.toNat=q at *;simp[hlt] at ih |-;generalize c.voys[i].2*w.shorts[q]=X at *;exact ⟨by omega,by omega,by omega,by omega,ih⟩
theorem Qol (c:Sea) (t:Int) (hc:Qf c) (ht:0<=t/\t<=500):Ev.Good Tryz.prog K 182 [VQ c,.int .i64 t] (.int .i64 (Ze c t)):=by
 refine Qb hK QpQ (by simp) ?_
 have h:=Qnw hc.str ht;have h2:=XR hc ht;unfold Ze at h2 |-;simp;omega
theorem Qn9 (c:Sea) (w:Qd) (g:Int × Int × Int) (hc:Qf c) (hw:okW c w) (hg:g∈c.gauges):Ev.Good Tryz.prog K 216 [VQ c,.agg (seC w),.agg (gaC g)] (.bool (Uu c w g)):=by
 refine Qb hK QpB (by simp) ?_
 have h:=hc.gau hg;have hb:=ZA hc hw g.1.toNat;have g134:=Qig hK c w g.1.toNat hc hw (by omega)
 have e:((g.1.toNat:Nat):Int)=g.1:=by omega
 rw[e] at g134;have hr:Uu c w g=decide (inR (QH c w g.1.toNat-g.2.1) (-g.2.2) g.2.2):=rfl;simp;refine cK (by simpa using g134) ?_
 rw[hr];generalize QH c w g.1.toNat=T at *;simp[inR]
 (repeat' first | omega | (with_reducible apply And.intro) | intro _)
 try grind
theorem Qon (c:Sea) (w:Qd) (hc:Qf c) (hw:okW c w):Ev.Good Tryz.prog K 180 [VQ c,.agg (seC w)] (.int .i64 (Xk c c.gauges w:Nat)):=by
 refine Qb hK QpS (by simp) ?_
 have hg6:=hc.ng;simp;refine Zy (fun i=>[(2,AV.iv (.ptr (Yt c))),(3,AV.iv (.ptr (seC w))),(5,AV.iv (.int .i64 (Xk c (c.gauges.take i) w:Nat))),(6,AV.iv (.int .i64 (i:Nat)))]) (fun _=>[]) c.gauges.length (fun _=>True) trivial ?_ ?_ (by simp[Xk]) (by simp)
 ·intro _
  rw[Qa Qeo.eq_1];simp[Qzt]
 ·intro i hi _ ih
  have hi':(i:Int)<(c.gauges.length:Int):=by omega
  have hle:=qK c (c.gauges.take i) w;rw[Ug c c.gauges w i hi] at ih;rw[Qa Qeo.eq_1];have hll:(c.gauges.take i).length<=6:=by simp;omega
  generalize Xk c (c.gauges.take i) w=W at *;simp[hi,hi']
  (repeat' first | omega | (with_reducible apply And.intro) | intro _)
  refine cK (by simpa using Qn9 hK c w c.gauges[i] hc hw (Qzr hi)) ?_
  by_cases hb:Uu c w c.gauges[i]=true
  ·simp[hb] at ih |-
   exact ⟨by omega,ih⟩
  ·simp[hb] at ih |-
   exact ⟨by omega,by omega,ih⟩
omit hK
def QkQ (l:QJ) (t f:Int):Int:=Z2 (Ze l.sea t) f
def Ud (l:QJ) (t p f:Int):Bool:=decide (QkQ l t f<p)&&(decide (l.pth<0)||decide (t=l.pth))
include hK
theorem QoH (l:QJ) (t f:Int) (hc:Qf l.sea) (ht:0<=t/\t<=500) (hf:0<=f/\f<=100):Ev.Good Tryz.prog K 136 [lsV l,.int .i64 t,.int .i64 f] (.int .i64 (QkQ l t f)):=by
 refine Qb hK Qqs (by simp) ?_
 have hb:=XR hc ht;simp;refine cK (by simpa using Qol hK l.sea t hc ht) ?_
 unfold QkQ;generalize Ze l.sea t=a at *;have h1:=Qz8 (a:=a) (b:=100-f) (by omega) (by omega)
 have h2:=QzW (a:=a) (b:=100-f) (c:=100000) (d:=100) (by omega) (by omega) (by omega) (by omega)
 have h3:(a*(100-f)).tdiv 100=a*(100-f) / 100:=QAj h1;simp[Z2];omega
theorem QoY (l:QJ) (t p f r:Int) (hc:Qf l.sea) (ht:0<=t/\t<=500) (hf:0<=f/\f<=100):Ev.Good Tryz.prog K 103 [lsV l,.agg [.int .i64 t,.int .i64 p,.int .i64 f,.int .i64 r]] (.bool (Ud l t p f)):=by
 refine Qb hK QqU (by simp) ?_
 simp;refine cK (by simpa using QoH hK l t f hc ht hf) ?_
 unfold Ud;by_cases h1:QkQ l t f<p
 case neg=>simp[h1]
 by_cases h2:l.pth<0
 ·simp[h1,h2]
 ·simp[h1,h2]
theorem QoJ (c:Sea) (w:Qd) (hc:Qf c) (hw:okW c w):Ev.Good Tryz.prog K 133 [VQ c,.agg (seC w)] (.bool (isW c w)):=by
 refine Qb hK Qqv (by simp) ?_
 obtain ⟨h1,h2,h3⟩:=hw;have hlen:w.shorts.length=c.waters.length:=by simpa using h1
 have h2':inR w.leak c.wlo c.whi:=by simpa using h2
 have h4:=hc.nw;have g180:=Qon hK c w hc ⟨h1,h2,h3⟩;simp[hlen]
 (repeat' first | omega | (with_reducible apply And.intro) | intro _)
 refine cK (by simpa using Jk hK w.leak c.wlo c.whi) ?_
 simp[h2'];refine Qu (fun i=>[(2,AV.iv (.ptr (Yt c))),(3,AV.iv (.ptr (seC w))),(5,AV.iv (.int .i64 (i:Nat)))]) (fun _=>[]) c.waters.length (fun _=>True) trivial ?_ ?_
 ·intro _
  rw[Qa QeC.eq_1];simp[hlen]
  (repeat' first | omega | (with_reducible apply And.intro) | intro _)
  refine cK (by simpa using g180) ?_
  simp[isW]
 ·intro i hi _ ih
  have hi':(i:Int)<(c.waters.length:Int):=by omega
  have his:i<w.shorts.length:=by omega
  have hin:inR w.shorts[i] c.waters[i].1 c.waters[i].2:=by
   have:=h3 i (by simpa using hi) his
   simpa using this
  rw[Qa QeC.eq_1];simp[hi,hi',his,hlen]
  (repeat' first | omega | (with_reducible apply And.intro) | intro _)
  refine cK (by simpa using Jk hK w.shorts[i] c.waters[i].1 c.waters[i].2) ?_
  simp[hin] at ih |-;exact ⟨by omega,ih⟩
end Go.Pf
namespace Go.Ev
open Go Go.RowKit Go.Sort
section
variable {P:Program} {K:World->Prop}
theorem QL.grow {Fr:Nat->Prop} {w w1:World} {os:Array Obj} (h:QL Fr w w1) (hlt:∀ b,Fr b->b<w.heap.size):QL Fr w (grow w1 os) :=
 ⟨h.os,h.tape,h.output,by rw[size_grow];exact QzT h.size (by omega),fun k hk=>by
  have h1:=hlt k hk;have h2:=h.size;show (w1.heap++os)[k]?=_
  rw[QAD,if_pos (by omega)]
  exact h.block k hk⟩
theorem QnY {w:World} {g:Nat} {o:Obj} (os:Array Obj) (h:w.heap[g]?=some o):(grow w os).heap[g]?=some o:=by
 have h1:=(Qzs.1 h).1;show (w.heap++os)[g]?=_
 rw[QAD,if_pos h1];exact h
theorem QfZ {f:FuncId}
  (he:∀ (a:Option Addr) (cap:Nat) (w:World),Calls P f #[.slice a 0 cap] w fun e w'=>e=.returned (.tuple #[])/\w'=w)
  (zs zt:List Int) (hzt:zt.length=zs.length) (hzl:zs.length<=1000000000) (hr:∀ (blk off cap:Nat) (w:World),Holds (Value.int .i64) w blk off zs.toArray->blk<w.heap.size->zs.length<=1000000000 ->
    Calls P f #[.slice (some ⟨blk,off,none⟩) zs.length cap] w fun e w'=>e=.returned (.tuple #[])/\∃ n os,w'=grow (putRow (Value.int .i64) (Sort.ahead w n) blk off zt.toArray) os)
  (mv:Nat):ZG P K f [.aref 0 zs.length] [(0,Q0 zs mv)] [0] (.iv (.tup [])) [(0,Q0 zt zs.length)]:=by
 intro w ok L vs hK hnew hown hlaid hvl hvs
 obtain ⟨v0,rfl⟩:∃ v0,vs=[v0]:=by
  match vs,hvl with
  | [v],_=>exact ⟨v,rfl⟩
 have hob:=hlaid.objs 0 (Q0 zs mv) rfl;obtain ⟨v,xs,hL,hrow⟩:=qX hob;have hv:v0=v:=Qav (id:=0) (zs:=zs) (mv:=mv) rfl hL rfl (hvs 0 _ v0 rfl rfl);subst hv
 have fin:∀ (w':World) (xs':List Value),QL (FrO w (Qc [(0,Q0 zs mv)]) L) w w'->Xm (FrO w (Qc [(0,Q0 zs mv)]) L) w' 3 1 v0 zs.length xs'->xs'=zt.map (.int .i64) ->
   ∃ v1 L',(Ending.returned (.tuple #[]):Ending)=.returned v1/\QgQ (FrO w (Qc [(0,Q0 zs mv)]) L) ok w' (Qc [(0,Q0 zt zs.length)]) L'/\Qs (okL ok (Qc [(0,Q0 zt zs.length)]) L') w' (Qc [(0,Q0 zt zs.length)]) L' (.iv (.tup [])) v1/\QL (FrO w (Qc [(0,Q0 zs mv)]) L) w w' /\
    ∀ i∈[0],∀ o,Qc [(0,Q0 zs mv)] i=some o->∃ o',Qc [(0,Q0 zt zs.length)] i=some o'/\Yn o o' (L i) (L' i):=by
  intro w' xs' hk ho hx;refine ⟨.tuple #[],fun _=>.arr v0 xs',rfl,⟨fun id o hid=>?_,fun i j oi oj b hij hi hj=>?_⟩,.iv _ _ (.tup [] [] rfl (by simp)),hk,fun i hi o h=>?_⟩
  ·simp only[Qc] at hid
   split at hid
   ·injection hid with hid
    subst hid;refine ⟨by simpa[hzt] using ho,by simp;omega,by simp,fun u hu=>?_,fun i j c x u hi hj hu=>?_⟩
    ·rw[hx] at hu
     obtain ⟨z,_,rfl⟩:=QzI.1 hu;rfl
    ·rw[Qzu,Qzo] at hi
     obtain ⟨z,hz,rfl⟩:=hi;cases j with
     | zero =>
       simp at hj;subst hj;rw[hx,QAp,QAe,Qzu,hz] at hu;simp at hu;subst hu;exact .iv _ _ (.int _ _)
     | succ j=>simp at hj
   ·cases hid
  ·simp only[Qc] at hi hj
   grind
  ·simp at hi
   subst hi;simp only[Qc,if_true] at h;injection h with h
   subst h;refine ⟨Q0 zt zs.length,by simp[Qc],?_⟩
   rw[hL];simp[Yn,hzt]
 rcases hrow with ⟨rfl,rfl⟩ | ⟨g,cap,cur,hr1,hfr⟩
 ·refine (he none 0 w).mono fun e w' ⟨h1,h2⟩=>?_
  subst h1 h2;obtain rfl:zt=[]:=Qzy (by simpa using hzt)
  exact fin w' [] (QL.refl _ _) ⟨⟨by simp,.inl ⟨rfl,rfl⟩⟩,by simp[Value.ownBlock]⟩ (by simp)
 ·have hv:=hr1.v
  subst hv;have hgs:g<w.heap.size:=(Qzs.1 hr1.at_).1;refine (hr g 0 cap w hr1.holds hgs hzl).mono fun e w' ⟨h1,n,os,h2⟩=>?_
  subst h1
  have hk:QL (FrO w (Qc [(0,Q0 zs mv)]) L) w w':=by
   have h3:QL (FrO w (Qc [(0,Q0 zs mv)]) L) (Sort.ahead w n) w':=by rw[h2];exact (ZX (f:=putCells (Value.int .i64) 0 zt.toArray) hfr).grow fun b hb=>hb.1
   exact ⟨h3.os,h3.tape,h3.output,h3.size,h3.block⟩
  have hh:w'.heap[g]?=some (.cells (putCells (Value.int .i64) 0 zt.toArray cur) 3 (0,0)):=by
   rw[h2];exact QnY os (WU (w:=Sort.ahead w n) hr1.at_)
  refine fin w' _ hk ⟨⟨?_,.inr ⟨g,cap,_,rfl,QAu _,hh,hr1.le,hr1.max,?_,rfl⟩⟩,fun b hb=>?_⟩ ?_
  ·simp[putCells,hr1.size,hr1.le]
  ·simp[putCells,hr1.size]
  ·simp[Value.ownBlock] at hb
   grind
  ·refine QAF fun i=>?_
   rw[QzR];by_cases hi:i<zs.length
   ·have h1:=hr1.size
    have h2:=hr1.le;have h3:i<cur.size:=by omega
    rw[QAp,if_pos hi];simp only[putCells,Array.getElem?_toList,Array.getElem?_mapIdx,QzF h3,QAt,Qzu]
    grind
   grind
theorem Qbi {f:FuncId} (zs:List Int)
  (hd:∀ (blk off cap:Nat) (w:World),Holds (Value.int .i64) w blk off zs.toArray->zs.length<=9223372036854775807->zs.length<=cap ->
    Calls P f #[.slice (some ⟨blk,off,none⟩) zs.length cap] w fun e w'=>e=.returned (.slice (some ⟨blk,off,none⟩) (Lib.compact zs).length cap)/\∃ q,w'=putRow (Value.int .i64) (Sort.ahead w q) blk off (Lib.compact zs++List.replicate (zs.length-(Lib.compact zs).length) 0).toArray)
  (mv:Nat) (hne:zs≠[]):ZG P K f [.aref 0 zs.length] [(0,Q0 zs mv)] [] (.iv (QgN (Lib.compact zs))) []:=by
 intro w ok L vs hK hnew hown hlaid hvl hvs
 obtain ⟨v0,rfl⟩:∃ v0,vs=[v0]:=by
  match vs,hvl with
  | [v],_=>exact ⟨v,rfl⟩
 have hob:=hlaid.objs 0 (Q0 zs mv) rfl;obtain ⟨v,xs,hL,hrow⟩:=qX hob;have hv:v0=v:=Qav (id:=0) (zs:=zs) (mv:=mv) rfl hL rfl (hvs 0 _ v0 rfl rfl);subst hv;rcases hrow with ⟨rfl,rfl⟩ | ⟨g,cap,cur,hr1,hfr⟩
 ·simp at hne
 ·have hv:=hr1.v
  subst hv;have hm:=hr1.max;have hle:=hr1.le
  have hcl:(Lib.compact zs).length<=zs.length:=by
   unfold Lib.compact Lib.compactUpTo;rw[Qzw];exact QzT (QzQ _ _) (by simp)
  refine (hd g 0 cap w hr1.holds (by unfold maxLen at *;omega) hle).mono fun e w' ⟨h1,q,h2⟩=>?_
  have hgo:ok g:=hown g ⟨0,Q0 zs mv,rfl,by rw[hL];simp[Lay.has,Value.ownBlock]⟩
  have hk:QL (FrO w (Qc [(0,Q0 zs mv)]) L) w w':=by
   have h3:QL (FrO w (Qc [(0,Q0 zs mv)]) L) (Sort.ahead w q) w':=by rw[h2];exact ZX hfr
   exact ⟨h3.os,h3.tape,h3.output,h3.size,h3.block⟩
  have hnew:Holds (Value.int .i64) w' g 0 (Lib.compact zs++List.replicate (zs.length-(Lib.compact zs).length) 0).toArray:=by
   have h3:=holds_putRow (Value.int .i64) (Sort.ahead w q) g 0 zs.toArray (Lib.compact zs++List.replicate (zs.length-(Lib.compact zs).length) 0).toArray (holds_ahead _ w q g 0 _ hr1.holds) (by simp;omega)
   grind
  subst h1;refine ⟨_,fun _=>.one 0,rfl,Vj,.iv _ _ ?_,hk,by simp⟩
  refine Vf _ _ _ (by omega) hm ⟨hgo,by simp[Qc]⟩ fun j z hj=>?_
  have hjl:=(Qzl.1 hj).1;have h3:=(hnew j (by grind)).1
  grind
end
end Go.Ev
namespace Go.Proofs
open Go.Shelf Go.RowKit Go.Sort
def Tryz.comp123_ren:Go.Shelf.Ren:=⟨fun | 43=>123 | n=>n,fun | 22=>28 | 23=>3 | 3=>3 | 4=>4 | 0=>0 | n=>n,fun | n=>n⟩
theorem Tryz.comp123:Go.Proofs.SlLaysE.n43 Tryz.prog Tryz.comp123_ren:={
 mixed:=by kernel_rfl
 f43:=⟨Tryz.f123.name,by decide,Tryz.func123.trans (congrArg some (by kernel_rfl))⟩
 t0:=Tryz.underlying0
 a0:=Tryz.isAgg0
 z0:=Tryz.sizeOf0
 v0:=Tryz.zeroValue0
 t3:=Tryz.underlying3
 a3:=Tryz.isAgg3
 z3:=Tryz.sizeOf3
 v3:=Tryz.zeroValue3
 t4:=Tryz.underlying4
 a4:=Tryz.isAgg4
 z4:=Tryz.sizeOf4
 v4:=Tryz.zeroValue4
 t22:=Tryz.underlying28
 a22:=Tryz.isAgg28
 z22:=Tryz.sizeOf28
 v22:=Tryz.zeroValue28
 a23:=Tryz.isAgg3
 z23:=Tryz.sizeOf3 }
end Go.Proofs
namespace Go.Pf
open Go Go.Ev Go.Proofs Go.RowKit Go.Shelf
variable {K:World->Prop} (hK:∀ w w',K w->Below w.heap.size w w'->K w')
set_option maxRecDepth 8000
def JD (l:List Int):List Int:=l.mergeSort fun x y=>decide (x<=y)
def Qbj (l:List Int):List Int:=Lib.compact (JD l)
theorem qR {l r:List Int} (h:l.Perm r):JD l=JD r:=mergeSort_of_perm_i h
def VJ (l:List Int):List (List IV):=l.map fun n=>[.int .i64 n]
theorem Qa3 (l:List Int) (x:Int):emb (VJ (l++[x]))=emb (VJ l)++[[AV.iv (.int .i64 x)]]:=by simp[VJ,emb]
theorem QkO (l:List Int):(emb (VJ l)).length=l.length:=by simp[VJ,emb]
theorem Vn (l:List Int):(VJ l).length=l.length:=by simp[VJ]
theorem Qsl (l:List Int) (mv:Nat):AO.arr 3 1 (emb (VJ l)) mv=Q0 l mv:=by simp[VJ,emb,Function.comp_def]
theorem QwQ {a n:Nat} {zs:List Int} {mv:Nat} {o o1:Qk} (ho:Qc o a=some (Q0 zs mv)) (h1:o1.all (fun q=>decide (q.1<1)&&Y3 q.2)=true):HOk [a] [.aref 0 n] o [(0,Q0 zs mv)] o1:=by
 refine ⟨by simp,by simp[clA],fun q hq=>?_,fun i hi h=>?_,fun q hq=>?_⟩
 ·simp only[Qz1,QAf,or_false] at hq
  subst hq;refine ⟨by simp,?_,by simp[clO,clAL,clA],rfl⟩
  refine ho.trans ?_;simp[Q0,rnO,rnL,rn]
 ·simp at hi
  subst hi;simp[Qc] at h
 ·have:=QzX.1 h1 q hq
  simpa using this
section
theorem QkW (zs:List Int) (mv:Nat) (hl:zs.length<=1000000000):ZG Tryz.prog K 122 [.aref 0 zs.length] [(0,Q0 zs mv)] [0] (.iv (.tup [])) [(0,Q0 (JD zs) zs.length)] :=
 QfZ (fun a cap w=>AnyM.slices_Sort_int_none Tryz.sort122 a cap w) zs (JD zs) (by simp[JD]) hl (fun blk off cap w hh hb hz=>AnyM.slices_Sort_int Tryz.sort122 blk off cap zs w hh hb (by omega)) mv
theorem QkV (zs:List Int) (mv:Nat) (hne:zs≠[]):ZG Tryz.prog K 123 [.aref 0 zs.length] [(0,Q0 zs mv)] [] (.iv (QgN (Lib.compact zs))) [] :=
 Qbi zs (fun blk off cap w hh h1 h2=>by
  have h:=AnyE.slices_Compact Tryz.comp123 (Value.int .i64) (fun _=>rfl) (EqlAt.intD Tryz.prog 3 .i64) (NeqAt.intD Tryz.prog 3 .i64) 0 Tryz.zeroValue3 blk off cap zs.toArray w hh (by simpa using h1) (by simpa using h2)
  have e:Tryz.comp123_ren.f 43=123:=rfl;rw[e] at h;simpa[Lib.compact] using h) mv hne
include hK
theorem Qst (e:Evt):Ev.Good Tryz.prog K 88 [.agg (evC e)] (.int .i64 e.cause):=by
 refine Qb hK Qtr (by simp) ?_
 simp
theorem Qn1 (es:List Evt) (hne:es≠[]) (hl:es.length<=100000000):Ev.Good Tryz.prog K 87 [.sl 7 (es.map evC),.fn 88] (Q8 (Qbj (es.map (·.cause)))):=by
 refine Qb hK Qts (by simp) ?_
 simp
 (repeat' first | omega | (with_reducible apply And.intro) | intro _)
 refine Zy (fun i=>[(1,.iv (.fn 88)),(5,.aref 5 i),(8,.iv (.sl 7 (es.map evC))),(9,.iv (.int .i64 es.length)),(10,.iv (.int .i64 (i:Nat)))]) (fun i=>[(5,.arr 3 1 (emb (VJ ((es.take i).map (·.cause)))) 0)]) es.length (fun _=>True) trivial ?_ ?_ (by simp) (by simp[VJ,emb])
 ·intro _
  rw[Qa Qjp.eq_1];have h1:=QkW (K:=K) (es.map (·.cause)) 0 (by simp;omega)
  have h2:=QkV (K:=K) (JD (es.map (·.cause))) es.length (fun h=>hne (by simpa[JD] using congrArg List.length h))
  have e1:(JD (es.map (·.cause))).length=es.length:=by simp[JD]
  rw[e1] at h2;simp only[Qzw] at h1;simp[Qzt,Qsl];refine ZH h1 (by simp[nth,rn]) (QwQ (by simp[Qc]) (by simp[Y3])) ?_
  simp[nth,rn];refine ZH h2 (by simp[nth,rn]) (QwQ (by simp[Qc]) (by simp)) ?_
  simp[nth,rn];rfl
 ·intro i hi _ ih
  rw[Qa Qjp.eq_1];have hi':(i:Int)<(es.length:Int):=by omega
  have hg:=Qst hK es[i];rw[Qzn hi,QzU,QzH,List.map_nil,Qa3] at ih;have hL:((es.take i).map (·.cause)).length=i:=by simp;omega
  generalize (es.take i).map (·.cause)=L at *
  simp[hi,hi'] at ih |-;refine ⟨by kernel_rfl,cK (by simpa using hg) ?_⟩
  simp[QkO,Vn,hL];exact ⟨by omega,by omega,ih⟩
end
end Go.Pf
namespace Go.Pf
open Go Go.Ev Go.Proofs Go.RowKit
variable {K:World->Prop} (hK:∀ w w',K w->Below w.heap.size w w'->K w')
set_option maxRecDepth 8000
def X3 (c:Sea) (first:List Int) (n:Int):List Int:=if isW c ⟨first,n⟩ then [QH c ⟨first,n⟩ c.voys.length] else []
def Zf (c:Sea):Nat->List Int->List Int
 | 0,first=>(Q9 c.wlo c.whi).flatMap (X3 c first)
 | k+1,first=>JK ((Q9 (c.waters.getD first.length (0,0)).1 (c.waters.getD first.length (0,0)).2).flatMap fun n=>Zf c k (first++[n])) 0 500
def okF (c:Sea) (first:List Int):Prop:=∀ i (h:i<first.length) (h':i<c.waters.length),inR first[i] c.waters[i].1 c.waters[i].2
include hK
theorem Qk0 (c:Sea) (first:List Int) (hc:Qf c) (hf:okF c first) (hl:first.length=c.waters.length):Ev.Good Tryz.prog K 102 [VQ c,Q8 first] (Q8 (Zf c 0 first)):=by
 refine Qb hK QjS (by simp) ?_
 have hnw:=hc.nw;have hnv:=hc.nv;have hwr:=Zb hc.wear;have hlen:=Zg c.wlo c.whi;simp only[Zf];simp[hl]
 (repeat' first | omega | (with_reducible apply And.intro) | intro _)
 refine Zy (fun i=>[(1,.iv (Q8 first)),(2,.iv (.ptr (Yt c))),(5,.aref 5 ((Q9 c.wlo c.whi).take i |>.flatMap (X3 c first)).length),(6,.iv (.int .i64 (c.wlo+(i:Nat))))]) (fun i=>[(5,.arr 3 1 (emb (VJ (((Q9 c.wlo c.whi).take i).flatMap (X3 c first)))) 0)]) (Q9 c.wlo c.whi).length (fun _=>True) trivial ?_ ?_ (by simp) (by simp[VJ,emb])
 ·intro _
  rw[Qa QeK.eq_1];have h1:¬ c.wlo+((Q9 c.wlo c.whi).length:Int)<=c.whi:=by omega
  rw[QzG];generalize (Q9 c.wlo c.whi).flatMap (X3 c first)=L at *
  simp[h1,Vn,Qzt];simp[VJ]
 ·intro i hi _ ih
  rw[Qa QeK.eq_1];have h1:c.wlo+(i:Int)<=c.whi:=by omega
  have hw:okW c ⟨first,c.wlo+(i:Int)⟩:=⟨by simpa using hl,by simp only[inR,X4];omega,fun j h h'=>by
   have:=hf j h' (by simpa using h)
   simpa using this⟩
  have g133:=QoJ hK c ⟨first,c.wlo+(i:Int)⟩ hc hw
  have g134:=Qig hK c ⟨first,c.wlo+(i:Int)⟩ c.voys.length hc hw (Qzq _)
  have e3:c.wlo+((i+1:Nat):Int)=c.wlo+i+1:=by omega
  rw[Y5 _ _ _ hi,X5,e3] at ih;have hle:=JV (f:=X3 c first) (m:=1) ((Q9 c.wlo c.whi).take i) fun x _=>by unfold X3;split<;>simp
  have hle2:(((Q9 c.wlo c.whi).take i).flatMap (X3 c first)).length<=10:=by
   rw[QAg] at hle;simp only at hwr;omega
  generalize ((Q9 c.wlo c.whi).take i).flatMap (X3 c first)=L at *
  have hth:X3 c first (c.wlo+(i:Int))=if isW c ⟨first,c.wlo+(i:Int)⟩ then [QH c ⟨first,c.wlo+(i:Int)⟩ c.voys.length] else []:=rfl
  rw[hth] at ih;simp[h1];refine cK (by simpa using g133) ?_
  cases hb:isW c ⟨first,c.wlo+(i:Int)⟩
  ·rw[hb] at ih
   simp at ih |-;exact ⟨by omega,ih⟩
  ·rw[hb] at ih
   simp[Qa3] at ih;simp
   (repeat' first | omega | (with_reducible apply And.intro) | intro _)
   refine cK (by simpa using g134) ?_
   simp[Vn];exact ⟨by omega,by omega,ih⟩
omit hK
theorem QfY (l:List Int):(JK l 0 500).length<=501:=Wm l 0 501
theorem VN (c:Sea) (hc:Qf c) (k:Nat) (first:List Int):(Zf c k first).length<=501:=by
 cases k with
 | zero =>
   have h:=JV (f:=X3 c first) (m:=1) (Q9 c.wlo c.whi) fun x _=>by unfold X3;split<;>simp
   have h2:=Zg c.wlo c.whi;have h3:=Zb hc.wear;simp only at h3;simp only[Zf];omega
 | succ k=>exact QfY _
include hK
theorem Qil (c:Sea) (hc:Qf c):∀ (k:Nat) (first:List Int),first.length+k=c.waters.length->okF c first->Ev.Good Tryz.prog K 102 [VQ c,Q8 first] (Q8 (Zf c k first))
 | 0,first,hl,hf=>Qk0 hK c first hc hf (by omega)
 | k+1,first,hl,hf=>by
   have ih:=Qil c hc k;refine Qb hK QjS (by simp) ?_
   have hnw:=hc.nw;have hlt:first.length<c.waters.length:=by omega
   have hne:¬ (first.length:Int)=c.waters.length:=by omega
   have hne':¬ first.length=c.waters.length:=by omega
   have hsp:=Zb (hc.waters _ (Qzr hlt));have hge:c.waters.getD first.length (0,0)=c.waters[first.length]:=by simp[hlt]
   have hlen:=Zg c.waters[first.length].1 c.waters[first.length].2
   simp only[Zf];rw[hge]
   have ih1:∀ n,c.waters[first.length].1<=n->n<=c.waters[first.length].2->Ev.Good Tryz.prog K 102 [VQ c,Q8 (first++[n])] (Q8 (Zf c k (first++[n]))):=fun n h1 h2=>by
    refine ih (first++[n]) (by simp;omega) fun i h h'=>?_
    by_cases hi:i<first.length
    ·have:=hf i hi h'
     simpa[List.getElem_append_left hi] using this
    ·have:i=first.length:=by simp at h;omega
     subst this;simp[inR];omega
   have hb1:∀ n,(Zf c k (first++[n])).length<=501:=fun n=>VN c hc k _
   generalize hG:(fun n=>Zf c k (first++[n]))=G at *
   have hGn:∀ n,Zf c k (first++[n])=G n:=fun n=>by rw[<- hG]
   simp only[hGn] at ih1 hb1;generalize hlo:c.waters[first.length].1=lo at *
   generalize hhi:c.waters[first.length].2=hi at *
   simp[hne,hne',hlt,hlo]
   (repeat' first | omega | (with_reducible apply And.intro) | intro _)
   refine Zy (fun i=>[(1,.iv (Q8 first)),(2,.iv (.ptr (Yt c))),(5,.aref 5 (((Q9 lo hi).take i).flatMap G).length),(8,.iv (.int .i64 (lo+(i:Nat))))]) (fun i=>[(5,.arr 3 1 (emb (VJ (((Q9 lo hi).take i).flatMap G))) 0)]) (Q9 lo hi).length (fun _=>True) trivial ?_ ?_ (by simp) (by simp[VJ,emb])
   ·intro _
    rw[Qa QeJ.eq_1];have h1:¬ lo+((Q9 lo hi).length:Int)<=hi:=by omega
    rw[QzG];have hle:=JV (f:=G) (m:=501) (Q9 lo hi) fun x _=>hb1 x
    generalize (Q9 lo hi).flatMap G=L at *;have g135:=QoI hK L 0 500 (by omega) (by omega) (by omega)
    simp[h1,Vn,Qzt,hlt,hhi];simp[VJ] at g135 |-
    (repeat' first | omega | (with_reducible apply And.intro) | intro _)
    refine cK (by simpa using g135) ?_
    simp
   ·intro i hi' _ hh
    have q1:lo+(i:Int)<=hi:=by omega
    have q3:lo+((i+1:Nat):Int)=lo+i+1:=by omega
    have hg:=ih1 (lo+i) (by omega) q1
    have hle:=JV (f:=G) (m:=501) ((Q9 lo hi).take i) fun x _=>hb1 x
    have hbi:=hb1 (lo+i);rw[Y5 _ _ _ hi',X5,q3] at hh
    have hle2:(((Q9 lo hi).take i).flatMap G).length<=501*10:=by
     rw[QAg] at hle;omega
    generalize ((Q9 lo hi).take i).flatMap G=L at *;generalize G (lo+(i:Int))=g at *;simp only[VJ,QzU,Qzp] at hh;rw[Qa QeJ.eq_1];simp[q1,hlt,hhi] at hh |-
    (repeat' first | omega | (with_reducible apply And.intro) | intro _)
    refine Qbo [some (VQ c),none] (by simp) (rows:=(first++[lo+(i:Int)]).map fun n=>[.int .i64 n]) (n:=first.length+1) (sz:=1) (et:=3) (mv:=0) (r:=Q8 g) ?_ (by simp) (by simp[Qc]) (by simp) (by simp) ?_
    ·have:((first++[lo+(i:Int)]).map fun n=>[IV.int IntKind.i64 n]).take (first.length+1)=(first++[lo+(i:Int)]).map fun n=>[IV.int IntKind.i64 n]:=Qzt (by simp)
     rw[this];exact hg
    ·simp[-List.map_map,Qp,QC,Qz,Qi,VJ]
     (repeat' first | omega | (with_reducible apply And.intro) | intro _)
theorem QmR (c:Qj) (hc:OkC c):∀ (n:Nat) (first:List Int),first.length+n=c.deeds.length->Ev.Good Tryz.prog K 99 [chV c,Q8 first] (.sl 1 ((Xb c first (c.deeds.drop first.length)).map fun e=>[Q8 e]))
 | 0,first,hn=>by
   refine Qb hK Qm5 (by simp) ?_
   have e1:c.deeds.drop first.length=[]:=QAI (by omega)
   have e2:first.length=c.deeds.length:=by omega
   rw[e1];simp[e2];intros;refine Qw (QoL hK c first hc) (.inl rfl) ?_
   by_cases h:QhW c first
   ·simp[h,Xb,Zi]
   ·simp[h,Xb,Zi]
 | n+1,first,hn=>by
   have ih:=QmR c hc n;refine Qb hK Qm5 (by simp) ?_
   have hlt:first.length<c.deeds.length:=by omega
   have hne:¬ (first.length:Int)=c.deeds.length:=by omega
   have hne':¬ first.length=c.deeds.length:=by omega
   have hl:=hc.len;have e1:c.deeds.drop first.length=c.deeds[first.length]::c.deeds.drop (first.length+1):=QAm hlt
   rw[e1,QcJ]
   have hb:∀ i,(Vg c first c.deeds[first.length] (c.deeds.drop (first.length+1)) i).length<=4096:=fun i=>by
    unfold Vg;split
    ·exact QzT (qf c _ _) (X7 (by simp;omega))
    ·simp
   have ih1:∀ i:Nat,c.deeds[first.length].frm=i\/c.deeds[first.length].frm=2->Ev.Good Tryz.prog K 99 [chV c,Q8 (first++[(i:Int)])] (.sl 1 ((Vg c first c.deeds[first.length] (c.deeds.drop (first.length+1)) i).map fun e=>[Q8 e])):=fun i hi=>by
    have:=ih (first++[(i:Int)]) (by simp;omega)
    simp only[Qzp,Qzv,QzE,Qzx] at this
    rwa [Vg,if_pos hi]
   have hno:∀ i:Nat,¬ (c.deeds[first.length].frm=i\/c.deeds[first.length].frm=2)->Vg c first c.deeds[first.length] (c.deeds.drop (first.length+1)) i=[]:=fun i hi=>by
    rw[Vg,if_neg hi]
   generalize Vg c first c.deeds[first.length] (c.deeds.drop (first.length+1))=pc at *
   simp[hne,hne']
   (repeat' first | omega | (with_reducible apply And.intro) | intro _)
   refine Qu (fun i=>[(1,AV.iv (Q8 first)),(2,AV.iv (.ptr [QD c.deeds,Qy c.sights,.int .i64 c.wrong])),(5,AV.aref 5 (acc pc i).length),(6,AV.iv (IV.int IntKind.i64 (i:Nat)))])
    (fun i=>[(5,AO.arr 28 1 (emb ((acc pc i).map fun e=>[Q8 e])) 0)]) 2 (fun i=>True) trivial ?_ ?_
   ·intro _
    rw[Qa Qjk.eq_1];simp
   ·intro i hi _ hh
    have hlen:=QeP pc 4096 hb i;have hbi:=hb i;rw[QfQ pc i] at hh;rw[Qa Qjk.eq_1];have hi2:(i:Int)<2:=by omega
    by_cases hq:c.deeds[first.length].frm=i\/c.deeds[first.length].frm=2
    ·have hg:=ih1 i hq
     by_cases q1:c.deeds[first.length].frm=i
     ·have q2:∀ A:Prop,(¬ c.deeds[first.length].frm=i->A):=fun A h=>absurd q1 h
      simp[hi2,hlt] at hh |-;simp[q1]
      (repeat' first | omega | (with_reducible apply And.intro) | intro _)
      refine Qbo [some (chV c),none] (by simp) (rows:=(first++[(i:Int)]).map fun n=>[.int .i64 n]) (n:=first.length+1) (sz:=1) (et:=3) (mv:=0) (r:=.sl 1 ((pc i).map fun e=>[Q8 e])) ?_ (by simp) (by simp[Qc]) (by simp) (by simp) ?_
      ·have:((first++[(i:Int)]).map fun n=>[IV.int IntKind.i64 n]).take (first.length+1)=(first++[(i:Int)]).map fun n=>[IV.int IntKind.i64 n]:=Qzt (by simp)
       rw[this];exact hg
      ·simp[-List.map_map,Qp,QC,Qz,Qi]
       (repeat' first | omega | (with_reducible apply And.intro) | intro _)
     ·have q2:c.deeds[first.length].frm=2:=by omega
      simp[hi2,hlt,q1,q2] at hh |-
      (repeat' first | omega | (with_reducible apply And.intro) | intro _)
      refine Qbo [some (chV c),none] (by simp) (rows:=(first++[(i:Int)]).map fun n=>[.int .i64 n]) (n:=first.length+1) (sz:=1) (et:=3) (mv:=0) (r:=.sl 1 ((pc i).map fun e=>[Q8 e])) ?_ (by simp) (by simp[Qc]) (by simp) (by simp) ?_
      ·have:((first++[(i:Int)]).map fun n=>[IV.int IntKind.i64 n]).take (first.length+1)=(first++[(i:Int)]).map fun n=>[IV.int IntKind.i64 n]:=Qzt (by simp)
       rw[this];exact hg
      ·simp[-List.map_map,Qp,QC,Qz,Qi]
       (repeat' first | omega | (with_reducible apply And.intro) | intro _)
    ·have hq1:¬ c.deeds[first.length].frm=i:=fun h=>hq (.inl h)
     have hq2:¬ c.deeds[first.length].frm=2:=fun h=>hq (.inr h)
     simp[hno i hq,hi2,hlt,hq1,hq2] at hh |-
     (repeat' first | omega | (with_reducible apply And.intro) | intro _)
theorem Qn0 (c:Qj) (hc:OkC c):Ev.Good Tryz.prog K 99 [chV c,.sl 1 []] (.sl 1 ((Xb c [] c.deeds).map fun e=>[Q8 e])):=by
 have:=QmR hK c hc c.deeds.length [] (by simp)
 simpa using this
omit hK
def mkR (ds:List Qr) (e:List Int) (pos:Int):Qr:=Xz ds ((cab ds (Z4 e) ds.length).getD pos.toNat 0)
def okR (ds:List Qr) (e:List Int) (pos:Int) (m:Int × Int):Bool :=
 decide (inR pos 0 (Qn ds-1))&&(decide (m.1<0)||decide (m.1=(mkR ds e pos).bar))&&(decide (m.2<0)||decide (m.2=(mkR ds e pos).smith))
def Vv (l:QJ) (e:List Int) (at_ way:Int):Prop:=∀ i (h:i<l.marks.length),okR l.chain.deeds e (at_+way*i) l.marks[i]=true
noncomputable instance (l:QJ) (e:List Int) (at_ way:Int):Decidable (Vv l e at_ way):=Classical.propDecidable _
include hK
theorem Qim (l:QJ) (e:List Int) (at_ way:Int) (hl:OkL l) (he:e.length=l.chain.deeds.length) (ha : -1000<=at_/\at_<=1000) (hw:way=1\/way = -1) :
  Ev.Good Tryz.prog K 101 [lsV l,.agg [Q8 e,.int .i64 at_,.int .i64 way]] (.bool (decide (Vv l e at_ way))):=by
 refine Qb hK QqV (by simp) ?_
 have h12:=hl.chain.len;have hm8:=hl.mlen;simp only[inR] at hm8;have hcl:((cab l.chain.deeds (Z4 e) l.chain.deeds.length).length:Int)=Qn l.chain.deeds:=Xr (Z4 e) hl.chain.deeds l.chain.deeds.length (Qzq _) (Qzq _);have hlb:=hl.chain.deeds.cnt l.chain.deeds.length (Qzq _) (Qzq _);have hlb':0<=Qn l.chain.deeds/\Qn l.chain.deeds<=12:=by unfold Qn;omega
 have hclt:=Qaq l.chain.deeds (Z4 e) l.chain.deeds.length;have hww:=UW l.chain.deeds l.chain.deeds.length;have no:∀ q:Prop,(Vv l e at_ way->q)->¬ q->¬ Vv l e at_ way:=fun q h1 h2 h=>h2 (h1 h)
 simp;refine cK (by simpa using QoK hK l.chain e hl.chain.deeds (by omega) (by omega)) ?_
 simp
 refine Qu (fun i=>[(2,.iv (.ptr (lsC l))),(3,.iv (.ptr [Q8 e,.int .i64 at_,.int .i64 way])),(5,.iv (Yz (cab l.chain.deeds (Z4 e) l.chain.deeds.length))),(6,.iv (.int .i64 (i:Nat)))]) (fun _=>[]) l.marks.length
  (fun i=>∀ k (h:k<l.marks.length),k<i->okR l.chain.deeds e (at_+way*k) l.marks[k]=true) (fun k h hk=>by omega) ?_ ?_
 ·intro h
  have:Vv l e at_ way:=fun i hi=>h i hi hi
  rw[Qa QeL.eq_1];simp[this]
 ·intro i hi h ih
  have hwi : -8<=way*(i:Int)/\way*(i:Int)<=8:=by rcases hw with rfl | rfl<;>omega
  have hn:okR l.chain.deeds e (at_+way*i) l.marks[i]=false->¬ Vv l e at_ way:=fun h1=>no _ (fun h2=>h2 i hi) (by simp[h1])
  have hy:okR l.chain.deeds e (at_+way*i) l.marks[i]=true->∀ k (h:k<l.marks.length),k<i+1->okR l.chain.deeds e (at_+way*k) l.marks[k]=true:=fun h1 k hk hki=>by
   rcases Nat.lt_succ_iff_lt_or_eq.1 hki with h2 | h2
   ·exact h k hk h2
   ·subst h2
    exact h1
  rw[Qa QeL.eq_1];simp[hi] at ih |-;generalize hmk:l.marks[i]=m at *;generalize way*(i:Int)=W at *
  (repeat' first | omega | (with_reducible apply And.intro) | intro _)
  generalize hnow:cab l.chain.deeds (Z4 e) l.chain.deeds.length=now at *;refine cK (by simpa using W8 hK (at_+W) 0 ((now.length:Int)-1)) ?_
  rw[hcl];by_cases hin:inR (at_+W) 0 (Qn l.chain.deeds-1)
  case neg =>
   have:=hn (by simp[okR,hin])
   simp[hin,this]
  have hin':=hin;simp only[inR] at hin';have g132:=Qih hK l.chain (by omega)
  have hwe:Xo Q3 l.chain.deeds 0=XZ l.chain.deeds:=rfl;rw[hwe] at g132;have hp:((at_+W).toNat:Int)=at_+W:=by omega
  have hpl:(at_+W).toNat<now.length:=by omega
  have h1:now[(at_+W).toNat]<(XZ l.chain.deeds).length:=by
   have:=hclt now[(at_+W).toNat] (Qzr hpl);omega
  have h2:(XZ l.chain.deeds)[now[(at_+W).toNat]]<l.chain.deeds.length:=QaC (Qzr h1)
  have hm:mkR l.chain.deeds e (at_+W)=l.chain.deeds[(XZ l.chain.deeds)[now[(at_+W).toNat]]]:=by
   unfold mkR;rw[hnow];simp[Xz,List.getD_eq_getElem?_getD,hpl,h1,h2]
  have hok:okR l.chain.deeds e (at_+W) m=true↔(m.1<0\/m.1=(mkR l.chain.deeds e (at_+W)).bar)/\(m.2<0\/m.2=(mkR l.chain.deeds e (at_+W)).smith):=by simp[okR,hin]
  have hn':¬ ((m.1<0\/m.1=(mkR l.chain.deeds e (at_+W)).bar)/\(m.2<0\/m.2=(mkR l.chain.deeds e (at_+W)).smith))->¬ Vv l e at_ way:=fun h1=>hn (by
   rw[Bool.eq_false_iff];exact fun h2=>h1 (hok.1 h2))
  rw[hm] at hok hn';generalize hj:now[(at_+W).toNat]=j at *;generalize hq:(XZ l.chain.deeds)[j]=q at *;generalize at_+W=pos at *;obtain ⟨pn,rfl⟩:∃ pn:Nat,pos=pn:=⟨pos.toNat,by omega⟩
  simp only[Int.toNat_natCast] at *;have hpl2:pn<now.length:=by simpa using hpl
  simp[hin];refine cK (by simpa using g132) ?_
  simp[hpl2,hj,h1,hq,h2,hi,hmk];by_cases a1:0<=m.1
  ·have a1':¬ m.1<0:=by omega
   by_cases b1:m.1=l.chain.deeds[q].bar
   ·by_cases a2:0<=m.2
    ·have a2':¬ m.2<0:=by omega
     by_cases b2:m.2=l.chain.deeds[q].smith
     ·simp[a1,b1,a2,b2]
      (repeat' first | omega | (with_reducible apply And.intro) | intro _)
      exact ih (hy (hok.2 ⟨.inr b1,.inr b2⟩))
     ·have:=hn' (by omega)
      simp[a1,a1',b1,a2,a2',b2,this]
    ·have a2':m.2<0:=by omega
     simp[a1,b1,a2]
     (repeat' first | omega | (with_reducible apply And.intro) | intro _)
     exact ih (hy (hok.2 ⟨.inr b1,.inl a2'⟩))
   ·have:=hn' (by omega)
    simp[a1,a1',b1,this]
  ·have a1':m.1<0:=by omega
   by_cases a2:0<=m.2
   ·have a2':¬ m.2<0:=by omega
    by_cases b2:m.2=l.chain.deeds[q].smith
    ·simp[a1,a2,b2]
     (repeat' first | omega | (with_reducible apply And.intro) | intro _)
     exact ih (hy (hok.2 ⟨.inl a1',.inr b2⟩))
    ·have:=hn' (by omega)
     simp[a1,a2,a2',b2,this]
   ·have a2':m.2<0:=by omega
    simp[a1,a2]
    (repeat' first | omega | (with_reducible apply And.intro) | intro _)
    exact ih (hy (hok.2 ⟨.inl a1',.inl a2'⟩))
omit hK
def spR (s:List Int × Int × Int):List IV:=[Q8 s.1,.int .i64 s.2.1,.int .i64 s.2.2]
noncomputable def Yr (l:QJ) (e:List Int) (a w:Int):List (List Int × Int × Int):=if Vv l e a w then [(e,a,w)] else []
noncomputable def Qhb (l:QJ) (e:List Int) (a:Int):List (List Int × Int × Int):=Yr l e a (-1)++Yr l e a 1
noncomputable def Zv (l:QJ) (n:Nat) (e:List Int):List (List Int × Int × Int):=(List.range n).flatMap fun a=>Qhb l e (a:Nat)
noncomputable def XI (l:QJ):List (List Int × Int × Int):=(Xb l.chain [] l.chain.deeds).flatMap (Zv l (Qn l.chain.deeds).toNat)
theorem Wi (l:QJ) (e:List Int) (a w:Int):(Yr l e a w).length<=1:=by unfold Yr;split<;>simp
theorem Wk (l:QJ) (n:Nat) (e:List Int):Zv l (n+1) e=Zv l n e++(Yr l e n (-1)++Yr l e n 1):=by simp[Zv,QAv,Qhb]
theorem Jr (l:QJ) (e:List Int):∀ n,(Zv l n e).length<=n*2
 | 0=>by simp[Zv]
 | n+1=>by
   have ih:=Jr l e n;have h1:=Wi l e n 1;have h2:=Wi l e n (-1);rw[Wk];simp;omega
noncomputable def Wj (l:QJ) (e:List Int) (a:Int):Nat->List (List Int × Int × Int)
 | 0=>[]
 | 1=>Yr l e a (-1)
 | _=>Yr l e a (-1)++Yr l e a 1
theorem Vu {α β:Type} {f:α->List β} {m:Nat}:∀ l:List α,(∀ x∈l,(f x).length<=m)->(l.flatMap f).length<=l.length*m:=by
 intro l h;have:=Q6 f m l h;omega
theorem Yp {α β:Type} (f:α->List β) (l:List α) (i:Nat) (h:i<l.length):(l.take (i+1)).flatMap f=(l.take i).flatMap f++f l[i]:=by
 rw[Qzn h,QAl];simp
theorem Xw {α β:Type} (f:α->List β) (l:List α) (i:Nat):((l.take i).flatMap f).length<=(l.flatMap f).length:=by
 conv=>rhs;rw[<- List.take_append_drop i l]
 rw[QAl,Qzp];omega
theorem Qbh {α:Type} (f:α->List IV) (L:List α) (x:α):emb ((L++[x]).map f)=emb (L.map f)++[(f x).map .iv]:=by simp[emb]
include hK
theorem Qsz (l:QJ) (hl:OkL l):Ev.Good Tryz.prog K 81 [lsV l] (.sl 3 ((XI l).map spR)):=by
 refine Qb hK Qty (by simp) ?_
 have h12:=hl.chain.len;have hlb:=hl.chain.deeds.cnt l.chain.deeds.length (Qzq _) (Qzq _);have hlb':0<=Qn l.chain.deeds/\Qn l.chain.deeds<=12:=by unfold Qn;omega
 have hnn:(((Qn l.chain.deeds).toNat:Nat):Int)=Qn l.chain.deeds:=by omega
 have hE:=Qfx hl.chain;have hEl:∀ e∈Xb l.chain [] l.chain.deeds,e.length=l.chain.deeds.length:=fun e he=>(Qd1 he).1.1
 have g99:=Qn0 hK l.chain hl.chain;have hsp:XI l=(Xb l.chain [] l.chain.deeds).flatMap (Zv l (Qn l.chain.deeds).toNat):=rfl;rw[hsp];generalize Xb l.chain [] l.chain.deeds=E at *;generalize hn:(Qn l.chain.deeds).toNat=n at *;simp
 (repeat' first | omega | (with_reducible apply And.intro) | intro _)
 refine cK (by simpa using g99) ?_
 simp;refine Zy (fun i=>[(1,.iv (.ptr (lsC l))),(3,.aref 3 ((E.take i).flatMap (Zv l n)).length),(4,.iv (.sl 1 (E.map fun e=>[Q8 e]))),(5,.iv (.int .i64 (i:Nat)))]) (fun i=>[(3,.arr 196 3 (emb (((E.take i).flatMap (Zv l n)).map spR)) 0)]) E.length (fun _=>True) trivial ?_ ?_ (by simp) (by simp[emb])
 ·intro _
  rw[Qa Qjz.eq_1];rw[QzG];generalize E.flatMap (Zv l n)=L at *;simp[Qzt]
 ·intro i hi _ ih
  have e1:=Yp (Zv l n) E i hi;rw[e1] at ih
  have hPl:((E.take i).flatMap (Zv l n)).length<=i*24:=by
   have h1:=Q6 (Zv l n) 24 (E.take i) fun e _=>by
    have:=Jr l e n;omega
   rw[QAg] at h1;have:min i E.length=i:=by omega
   rwa [this] at h1
  generalize (E.take i).flatMap (Zv l n)=P at *;have hel:=hEl E[i] (Qzr hi);have hiE:(i:Int)<E.length:=by omega
  rw[Qa Qjz.eq_1];simp[hi,hiE] at ih |-;generalize hEi:E[i]=e at *
  (repeat' first | omega | (with_reducible apply And.intro) | intro _)
  refine Zy (fun a=>[(1,.iv (.ptr (lsC l))),(3,.aref 3 (P++Zv l a e).length),(4,.iv (.sl 1 (E.map fun e=>[Q8 e]))),(5,.iv (.int .i64 (i:Nat))),(6,.iv (.int .i64 (a:Nat)))]) (fun a=>[(3,.arr 196 3 (emb ((P++Zv l a e).map spR)) 0)]) n (fun _=>True) trivial ?_ ?_ (by simp[Zv]) (by simp[Zv])
  ·intro _
   rw[Qa QjA.eq_1];have g100:=Qin hK l.chain n hl.chain.deeds (by omega)
   have hno:¬ inR (n:Int) 0 (Qn l.chain.deeds-1):=by
    simp only[inR];omega
   simp;refine cK (by simpa using g100) ?_
   simp[hno] at ih |-;exact ⟨by omega,ih⟩
  ·intro a ha _ ih2
   have hal:=Jr l e a;rw[Wk] at ih2;have g100:=Qin hK l.chain a hl.chain.deeds (by omega)
   have hyes:inR (a:Int) 0 (Qn l.chain.deeds-1):=by
    simp only[inR];omega
   have hm1:=Qim hK l e a (-1) hl hel (by omega) (.inr rfl)
   have hp1:=Qim hK l e a 1 hl hel (by omega) (.inl rfl)
   rw[Qa QjA.eq_1];simp;refine cK (by simpa using g100) ?_
   simp[hyes];rw[<- QzC,<- QzC] at ih2
   have hQ:(P++Zv l a e).length<=200000:=by
    rw[Qzp];omega
   rw[<- Qzp,<- QzU];generalize P++Zv l a e=Q at *;refine Zy (fun k=>[(1,.iv (.ptr (lsC l))),(3,.aref 3 (Q++Wj l e a k).length),(4,.iv (.sl 1 (E.map fun e=>[Q8 e]))),(5,.iv (.int .i64 (i:Nat))),(6,.iv (.int .i64 (a:Nat))),(7,.iv (.int .i64 (2*(k:Nat)-1)))]) (fun k=>[(3,.arr 196 3 (emb ((Q++Wj l e a k).map spR)) 0)]) 2 (fun _=>True) trivial ?_ ?_ (by simp[Wj]) (by simp[Wj])
   ·intro _
    rw[Qa QjB.eq_1];simp only[Wj,<- QzC];simp at ih2 |-;exact ⟨by omega,ih2⟩
   ·intro k hk _ ih3
    have hk2:k=0\/k=1:=by omega
    rw[Qa QjB.eq_1];rcases hk2 with rfl | rfl
    ·simp only[Wj,Qzx,QAx] at ih3 |-
     by_cases hf:Vv l e a (-1)
     ·have hs:Yr l e a (-1)=[(e,(a:Int),-1)]:=by simp[Yr,hf]
      rw[hs] at ih3;simp only[Qbh,Qzp] at ih3;simp[hi,hEi];refine cK (by simpa using hm1) ?_
      simp[hf];simp[spR] at ih3 |-;exact ⟨by omega,ih3⟩
     ·have hs:Yr l e a (-1)=[]:=by simp[Yr,hf]
      rw[hs] at ih3;simp[hi,hEi];refine cK (by simpa using hm1) ?_
      simp[hf];simp at ih3 |-;exact ih3
    ·simp only[Wj,<- QzC] at ih3 |-
     have hl2:=Wi l e a (-1)
     have hQ2:(Q++Yr l e a (-1)).length<=200001:=by
      rw[Qzp];omega
     generalize Q++Yr l e a (-1)=Q2 at *;by_cases hf:Vv l e a 1
     ·have hs:Yr l e a 1=[(e,(a:Int),1)]:=by simp[Yr,hf]
      rw[hs] at ih3;simp only[Qbh,Qzp] at ih3;simp[hi,hEi];refine cK (by simpa using hp1) ?_
      simp[hf];simp[spR] at ih3 |-;exact ⟨by omega,ih3⟩
     ·have hs:Yr l e a 1=[]:=by simp[Yr,hf]
      rw[hs] at ih3;simp[hi,hEi];refine cK (by simpa using hp1) ?_
      simp[hf];simp at ih3 |-;exact ih3
omit hK
def QwD (l:ZP) (n:Int):ZP:={ l with lo:=n,hi:=n }
def Qs5 (m:Machine) (k:Nat) (l:ZP) (n:Int):Machine:={ m with levers:=m.levers.set k (QwD l n) }
noncomputable def Qtb:Nat->Machine->Nat->List Machine
 | 0,m,_=>acc (Qr1 m) (m.lhi+1-m.llo).toNat
 | r+1,m,k=>match m.levers[k]? with
   | some l=>acc (fun i=>Qtb r (Qs5 m k l (l.lo+(i:Nat))) (k+1)) (l.hi+1-l.lo).toNat
   | none=>[]
structure Qzh (m:Machine):Prop where
 len:m.levers.length<=3
 blen:m.bals.length<=6
 leak:inR m.llo 0 m.lhi
 lhi:m.lhi<=20
 span:∀ l∈m.levers,1<=J7 l
 lo:∀ l∈m.levers,0<=l.lo/\l.hi<=100000
 sets:sets m m.levers.length<=1000000
include hK
omit hK
theorem J5 (a:Nat) (h:a<2 ^ 64):(BitVec.ofInt 64 (a:Int)).toNat=a:=by
 grind
theorem Wf (a:Nat) (h:a<2 ^ 64):IntKind.wrap .u64 (a:Int)=(a:Int):=by
 have h':a<18446744073709551616:=h;simp only[IntKind.wrap,IntKind.bits,IntKind.signed];simp;omega
theorem Qhw (a b:Nat) (ha:a<2 ^ 64) (hb:b<2 ^ 64):VF .or .u64 (a:Int) (b:Int)=((a ||| b:Nat):Int):=by
 show IntKind.wrap .u64 (((BitVec.ofInt 64 (a:Int)) ||| (BitVec.ofInt 64 (b:Int))).toNat:Int)=_
 rw[BitVec.toNat_or,J5 a ha,J5 b hb,Wf _ (Nat.or_lt_two_pow ha hb)]
theorem Qj3 (a b:Nat) (ha:a<2 ^ 64) (hb:b<2 ^ 64):VF .and .u64 (a:Int) (b:Int)=((a &&& b:Nat):Int):=by
 show IntKind.wrap .u64 (((BitVec.ofInt 64 (a:Int)) &&& (BitVec.ofInt 64 (b:Int))).toNat:Int)=_
 rw[BitVec.toNat_and,J5 a ha,J5 b hb,Wf _ (Nat.and_lt_two_pow _ hb)]
def Qy8 (a b:Nat):Nat:=a &&& (2 ^ 64-1-b)
theorem Qhh {n:Nat} (h:n<64):QmC .u64 1 (n:Int)=((2 ^ n:Nat):Int):=by
 have h2:(2:Nat) ^ n<2 ^ 64:=Nat.pow_lt_pow_right (by decide) h
 unfold QmC;rw[show min ((n:Int)).toNat IntKind.u64.bits=n by simp[IntKind.bits];omega,Int.one_mul]
 have:((2:Int) ^ n)=((2 ^ n:Nat):Int):=by push_cast;rfl
 rw[this];exact Wf _ h2
def QnJ (l:List Nat):Nat:=l.foldl (fun m n=>m ||| 2 ^ n) 0
def QmB (p:QE) (e:Nat->Int):List IV :=
 [.sl 1 ((List.range p.trials.length).map fun i=>[.int .u64 (QnJ (QfT p i e):Nat)]),.sl 1 ((List.range p.trials.length).map fun i=>[.int .i64 (qp p i e)]),Yz (QuL p e)]
include hK
omit hK
def QmN (p:QE) (s:Qd):List (List IV):=(List.range p.trials.length).map fun i=>[.int .i64 (Qvx p.machine (tr p i).weight (tr p i).mins s),.int .i64 (upS p.machine (tr p i).weight (tr p i).mins s)]
def Qrt (p:QE) (t:Xs):List IV:=QmB p (Z4 t.ends)++[.sl 2 (QmN p t.set)]
def nd (p:QE) (need:Int):QE:={ p with need:=need }
include hK
def QyJ (p:QE) (t:Xs) (m i:Nat):Nat :=
 if p.need<=Qvx p.machine (tr p i).weight (tr p i).mins t.set then m ||| (if 0<=qp p i (Z4 t.ends) then Qy8 (QnJ (QfT p i (Z4 t.ends))) (2 ^ (qp p i (Z4 t.ends)).toNat) else QnJ (QfT p i (Z4 t.ends))) else m
def pmN (p:QE) (t:Xs) (n:Nat):Nat:=(List.range n).foldl (QyJ p t) 0
omit hK
noncomputable def Qko (p:QE):List (List IV):=(Xb p.chain [] p.chain.deeds).map fun e=>QmB p (Z4 e)
noncomputable def Qsb (p:QE):List (List IV):=(Xx p.machine [] p.machine.levers).map fun s=>[.sl 2 (QmN p s)]
def prC (p:QE):List IV:=[QD p.chain.deeds,Qy p.chain.sights,.int .i64 p.chain.wrong,YQ p.machine.levers,.int .i64 p.machine.water,.int .i64 p.machine.llo,.int .i64 p.machine.lhi,Qbu p.machine.bals,.int .i64 p.machine.wrong,
 QgY p.trials,.int .i64 p.need,.int .i64 p.rule]
noncomputable def Qy0 (p:QE):List IV:=prC p++[.sl 3 (Qko p),.sl 1 (Qsb p)]
def QyQ (p:QE) (t:Xs):List IV:=[.agg (Qrt p t)]
include hK
omit hK
def Qd4 (d:Qr):Qr:=VP d 0
theorem W5 (p:Qr->Bool) (hp:∀ d,p (Qd4 d)=p d):∀ (ds:List Qr) (i:Nat),Xo p (ds.map Qd4) i=Xo p ds i
 | [],_=>rfl
 | d::r,i=>by simp only[QzH,Xo,hp,W5 p hp r]
theorem Qnh (ds:List Qr) (i:Nat):wn (ds.map Qd4) i=wn ds i:=by
 unfold wn;rw[<- QAH,W5 Q3 fun d=>rfl]
theorem QfS (ds:List Qr):XZ (ds.map Qd4)=XZ ds:=W5 Q3 (fun _=>rfl) ds 0
theorem QfA (ds:List Qr) (i:Nat):cnt (ds.map Qd4) i=cnt ds i:=by
 unfold cnt;rw[<- QAH,List.map_map];rfl
theorem Wc (ds:List Qr) (e:Nat->Int):∀ i,cab (ds.map Qd4) e i=cab ds e i
 | 0=>rfl
 | i+1=>by
   have ih:=Wc ds e i;simp only[cab,Qzu,ih,Qnh];cases ds[i]?<;>rfl
theorem VV (ds:List Qr) (k:Nat):Xz (ds.map Qd4) k=Qd4 (Xz ds k):=by
 unfold Xz;rw[QfS];simp only[List.getD_eq_getElem?_getD,Qzu];cases ds[(XZ ds)[k]?.getD 0]?<;>rfl
theorem Ui (ds:List Qr) (ss:List YZ) (e:Nat->Int):QW (ds.map Qd4) ss e=QW ds ss e:=by
 unfold QW
 congr 1
 funext s
 simp only[Ve,Wc,qY,VV];rfl
section
variable {ds ds':List Qr} (h:ds'.map Qd4=ds.map Qd4)
include h
theorem U1:ds'.length=ds.length:=by simpa using congrArg List.length h
theorem QaL (i:Nat):cnt ds' i=cnt ds i:=by rw[<- QfA ds',h,QfA]
theorem QeZ (e:Nat->Int) (i:Nat):cab ds' e i=cab ds e i:=by rw[<- Wc ds',h,Wc]
theorem Qc9 (ss:List YZ) (e:Nat->Int):QW ds' ss e=QW ds ss e:=by rw[<- Ui ds',h,Ui]
end
def UV:List Qr->List Int->List Qr
 | d::r,x::e=>VP d x::UV r e
 | _,_=>[]
theorem Xc:∀ {ds:List Qr} {e:List Int},e.length=ds.length->(UV ds e).map Qd4=ds.map Qd4
 | [],[],_=>rfl
 | d::r,x::e,h=>by
   have:=Xc (ds:=r) (e:=e) (by simpa using h)
   simp only[UV,QzH,this];rfl
theorem QeR:∀ {ds:List Qr} {e:List Int} (hl:e.length=ds.length) (i:Nat) (h:i<ds.length),(UV ds e)[i]?=some (VP ds[i] (e[i]'(by omega)))
 | d::r,x::e,hl,0,_=>rfl
 | d::r,x::e,hl,i+1,h=>by
   have:=QeR (ds:=r) (e:=e) (by simpa using hl) i (by simpa using h)
   simpa[UV] using this
theorem QV:∀ {ds:List Qr} {e:List Int},e∈Zi ds->e.length=ds.length/\∀ i (h:i<ds.length) (h':i<e.length),e[i]∈UN ds[i]
 | [],e,h=>by simp[Zi] at h;subst h;simp
 | d::r,e,h=>by
   simp only[Zi,QzP,QzI] at h;obtain ⟨x,hx,e',he',rfl⟩:=h;obtain ⟨h1,h2⟩:=QV he'
   grind
theorem Vb:∀ {ds:List Qr},(∀ d∈ds,d.frm=0\/d.frm=1\/d.frm=2)->Yf ds=(Zi ds).map (UV ds)
 | [],_=>rfl
 | d::r,h=>by
   have ih:=Vb (ds:=r) fun d hd=>h d (by simp[hd])
   have hd:=h d (by simp)
   have hself:∀ x,d.frm=x->VP d x=d:=fun x hx=>by subst hx;rfl
   rcases hd with hd | hd | hd
   ·simp[Yf,Zi,UN,hd,ih,UV,hself 0 hd,List.map_map,Function.comp_def]
   ·simp[Yf,Zi,UN,hd,ih,UV,hself 1 hd,List.map_map,Function.comp_def]
   ·simp[Yf,Zi,UN,hd,ih,UV,List.map_map,Function.comp_def]
theorem QcK {d:Qr} {x:Int} (h:x∈UN d):(x=0\/x=1)/\(d.frm=2\/x=d.frm):=by
 unfold UN at h
 grind
theorem OkD.frm {ds:List Qr} {n:Nat} (h:OkD ds n) (hn:ds.length<=n):∀ d∈ds,d.frm=0\/d.frm=1\/d.frm=2:=by
 intro d hd;obtain ⟨i,hi,rfl⟩:=QzV hd;have:=h i hi (by omega)
 rcases this with ⟨_,h2,_⟩ | ⟨_,h2,_⟩ | ⟨_,_,h2,_⟩
 ·simp only[inR] at h2;omega
 ·simp only[inR] at h2;omega
 ·omega
section
variable {c:Qj} (hc:OkC c) {e:List Int} (he:e∈Zi c.deeds)
include hc he
theorem Qay:(UV c.deeds e).length=c.deeds.length:=U1 (Xc (QV he).1)
theorem Qc2 (i:Nat) (h:i<c.deeds.length):∃ x,(UV c.deeds e)[i]?=some (VP c.deeds[i] x)/\(x=0\/x=1)/\(c.deeds[i].frm=2\/x=c.deeds[i].frm)/\Z4 e i=x:=by
 obtain ⟨h1,h2⟩:=QV he;have h3:=QcK (h2 i h (by omega))
 refine ⟨e[i]'(by omega),QeR h1 i h,h3.1,h3.2,?_⟩
 simp[Z4,List.getD_eq_getElem?_getD,Qzk (show i<e.length by omega)]
theorem Qnd:OkD (UV c.deeds e) (UV c.deeds e).length:=by
 intro i h _;have hlen:=Qay hc he;have hi:i<c.deeds.length:=by omega
 obtain ⟨x,h1,h2,h3,_⟩:=Qc2 hc he i hi;rw[Qzk h] at h1;injection h1 with h1
 rw[h1,QaL (Xc (QV he).1)];rcases hc.deeds i hi hi with ⟨a1,a2,a3⟩ | ⟨a1,a2,a3⟩ | ⟨a1,a2,a3,a4⟩
 ·exact .inl ⟨a1,by simp only[inR,VP];omega,a3⟩
 ·exact .inr (.inl ⟨a1,by simp only[inR,VP];omega,a3⟩)
 ·exact .inr (.inr ⟨a1,a2,by simp only[VP];omega,a4⟩)
theorem Qne:OkC { c with deeds:=UV c.deeds e }:=by
 have hlen:=Qay hc he;refine ⟨by simp only[hlen];exact hc.len,hc.slen,hc.wrong,Qnd hc he,fun s hs=>?_⟩
 have:=hc.sights s hs;unfold Zm at *;simp only[hlen,QaL (Xc (QV he).1)];exact this
theorem Qkg:Z3 (UV c.deeds e)=0:=by
 rw[Z3,List.countP_eq_zero];intro d hd;obtain ⟨i,hi,rfl⟩:=QzV hd;have hlen:=Qay hc he;obtain ⟨x,h1,h2,_⟩:=Qc2 hc he i (by omega)
 rw[Qzk hi] at h1;injection h1 with h1
 have h3:¬ x=2:=by omega
 rw[h1];simp[VP,h3]
theorem J4:Zw (UV c.deeds e) 0=Z4 e:=by
 funext i
 have hlen:=Qay hc he;unfold Zw;rcases QAn i c.deeds.length with h | h
 ·obtain ⟨x,h1,h2,_,h4⟩:=Qc2 hc he i h
  have h5:¬ (VP c.deeds[i] x).frm=2:=by show ¬ x=2;omega
  rw[h1,h4];simp only;rw[if_neg h5];rfl
 ·rw[List.getElem?_eq_none (by omega)]
  have:=(QV he).1;simp[Z4,List.getD_eq_getElem?_getD,List.getElem?_eq_none (show e.length<=i by omega)]
theorem Qkh:QmQ c.deeds e:=by
 obtain ⟨h1,h2⟩:=QV he;refine ⟨h1,fun i h h'=>?_⟩
 have h3:=QcK (h2 i h h');simp only[inR];omega
theorem Qnf:YF { c with deeds:=UV c.deeds e } true=0↔QhW c e:=by
 have h1:=Qne hc he
 have h2:Qx { c with deeds:=UV c.deeds e }=if (QW c.deeds c.sights (Z4 e):Int)<=c.wrong then [0] else []:=by
  have hw:=Qc9 (Xc (QV he).1) c.sights (Z4 e);unfold Qx;simp only[Qkg hc he,J4 hc he,Nat.pow_zero];rw[show List.range 1=[0] from rfl]
  by_cases h:(QW c.deeds c.sights (Z4 e):Int)<=c.wrong
  ·rw[if_pos h,QAr (by simpa[J4 hc he,hw] using h)];rfl
  ·rw[if_neg h,QAs (by simpa[J4 hc he,hw] using h)];rfl
 unfold YF QhW;rw[if_pos h1,if_pos rfl,h2];have:=Qkh hc he
 grind
end
theorem Qge (c:Qj) (hc:OkC c):QQ c=(Xb c [] c.deeds).map fun e=>{ c with deeds:=UV c.deeds e }:=by
 unfold QQ Xb;rw[Vb (hc.deeds.frm (Qzq _)),List.map_map,List.filter_map];have e1:((Zi c.deeds).map fun x=>[]++x)=Zi c.deeds:=by simp
 rw[e1]
 congr 1
 refine List.filter_congr fun e he=>?_
 simp only[Function.comp_apply];rw[Bool.eq_iff_iff];simpa using Qnf hc he
def Qu9:List ZP->List Int->List ZP
 | l::r,x::e=>QwD l x::Qu9 r e
 | l,[]=>l
 | [],_=>[]
def QyM (m:Machine) (s:Qd):Machine:={ m with levers:=Qu9 m.levers s.shorts,llo:=s.leak,lhi:=s.leak }
def QyN (m:Machine) (first:List Int):Machine:={ m with levers:=Qu9 m.levers first }
@[reducible] def QyZ (p:QE) (SS LL:List (List IV)):Qk :=
 [(0,.box [.loc 1 0]),(1,.box ((prC p).map AV.iv++[.aref 2 SS.length,.aref 3 LL.length])),(2,.arr 90215 3 (emb SS) 0),(3,.arr 65 1 (emb LL) 0)]
def Qzj (pe:List (Nat × Nat × Nat)) (o1:Qk):Env->Qk->Prop:=Qrq [XY.tmp 4] [0,1,2,3] pe (.iv (.bool true)) o1
include hK
def Qzc (p:QE) (lo up:Nat->Int):List IV:=[.sl 2 ((List.range p.trials.length).map fun i=>[.int .i64 (lo i),.int .i64 (up i)])]
omit hK
structure Few (p:QE):Prop where
 fine:Qy9 p
 ends:OkP p->(Xb p.chain [] p.chain.deeds).length<=1000000
 sets:OkP p->(Xx p.machine [] p.machine.levers).length<=1000000
 all:OkP p->(QhR p).length<=100000
include hK
omit hK
theorem Wn (l:List Int) (lo hi x:Int):x∈JK l lo hi↔lo<=x/\x<=hi/\x∈l:=by
 unfold JK YI;simp only[QAo,QzI,QAE,decide_eq_true_eq];constructor
 ·grind
 ·rintro ⟨h1,h2,h3⟩
  exact ⟨⟨(x-lo).toNat,by omega,by omega⟩,h3⟩
include hK
omit hK
abbrev StR:=Int × Int × Int × Int
def stR (s:StR):List IV:=[.int .i64 s.1,.int .i64 s.2.1,.int .i64 s.2.2.1,.int .i64 s.2.2.2]
def QgJ (l:QJ) (t p f r:Int):List StR:=if Ud l t p f then [(t,p,f,r)] else []
def QgK (l:QJ) (t p f:Int):List StR:=(Q9 l.rlo l.rhi).flatMap (QgJ l t p f)
def Qg8 (l:QJ) (t p:Int):List StR:=(Q9 l.flo l.fhi).flatMap (QgK l t p)
def Qg7 (l:QJ) (t:Int):List StR:=(Q9 l.plo l.phi).flatMap (Qg8 l t)
def Y4 (l:QJ):List Int:=Zf l.sea l.sea.waters.length []
def Zs (l:QJ):List StR:=(Y4 l).flatMap (Qg7 l)
theorem Qkm (c:Sea) (hc:Qf c):∀ (k:Nat) (first:List Int),first.length+k=c.waters.length->okF c first->∀ t∈Zf c k first,0<=t/\t<=500
 | 0,first,hl,hf,t,ht=>by
   simp only[Zf,QzP] at ht;obtain ⟨n,hn,ht⟩:=ht;have hn:=YJ hn
   have hw:okW c ⟨first,n⟩:=⟨by simp only[X4];simpa using hl,by simp only[inR,X4];omega,fun j h h'=>by
    have:=hf j h' (by simpa[X4] using h)
    simpa[X4] using this⟩
   unfold X3 at ht;split at ht
   ·simp at ht
    have:=ZA hc hw c.voys.length;omega
   ·simp at ht
 | k+1,first,hl,hf,t,ht=>by
   simp only[Zf] at ht;rw[Wn] at ht;exact ⟨ht.1,ht.2.1⟩
theorem qO {l:QJ} (hl:OkL l) (h:wid (l.plo,l.phi)*wid (l.flo,l.fhi)*wid (l.rlo,l.rhi)<=160):(Zs l).length<=501*160:=by
 have hp:=hl.pull;have hf:=hl.flaw;have hr:=hl.rated;simp only[Zc,inR] at hp hf hr
 have h1:∀ t p f,(QgK l t p f).length<=(wid (l.rlo,l.rhi)).toNat:=fun t p f=>by
  have h:=Vu (f:=QgJ l t p f) (m:=1) (Q9 l.rlo l.rhi) fun x _=>by unfold QgJ;split<;>simp
  rw[Zg] at h;unfold QgK wid;simp only;omega
 have h2:∀ t p,(Qg8 l t p).length<=(wid (l.flo,l.fhi)).toNat*(wid (l.rlo,l.rhi)).toNat:=fun t p=>by
  have h:=Vu (f:=QgK l t p) (Q9 l.flo l.fhi) fun x _=>h1 t p x
  rw[Zg] at h;have e:(l.fhi+1-l.flo).toNat=(wid (l.flo,l.fhi)).toNat:=by unfold wid;simp only;omega
  rwa [e] at h
 have h3:∀ t,(Qg7 l t).length<=(wid (l.plo,l.phi)).toNat*((wid (l.flo,l.fhi)).toNat*(wid (l.rlo,l.rhi)).toNat):=fun t=>by
  have h:=Vu (f:=Qg8 l t) (Q9 l.plo l.phi) fun x _=>h2 t x
  rw[Zg] at h;have e:(l.phi+1-l.plo).toNat=(wid (l.plo,l.phi)).toNat:=by unfold wid;simp only;omega
  rwa [e] at h
 have h4:=Vu (f:=Qg7 l) (Y4 l) fun x _=>h3 x
 have h5:=VN l.sea hl.sea l.sea.waters.length []
 have h6:(wid (l.plo,l.phi)).toNat*((wid (l.flo,l.fhi)).toNat*(wid (l.rlo,l.rhi)).toNat)<=160:=by
  have a1:1<=wid (l.plo,l.phi):=by unfold wid;simp only;omega
  have a2:1<=wid (l.flo,l.fhi):=by unfold wid;simp only;omega
  have a3:1<=wid (l.rlo,l.rhi):=by unfold wid;simp only;omega
  generalize wid (l.plo,l.phi)=a at *;generalize wid (l.flo,l.fhi)=b at *;generalize wid (l.rlo,l.rhi)=c at *;obtain ⟨a,rfl⟩:=Int.eq_ofNat_of_zero_le (show 0<=a by omega)
  obtain ⟨b,rfl⟩:=Int.eq_ofNat_of_zero_le (show 0<=b by omega)
  obtain ⟨c,rfl⟩:=Int.eq_ofNat_of_zero_le (show 0<=c by omega)
  simp only[Int.toNat_natCast];rw[<- Nat.mul_assoc];have:((a*b*c:Nat):Int)<=160:=by push_cast;exact h
  omega
 unfold Zs;exact QzT h4 (QAK h5 h6)
include hK
theorem Qk1 (l:QJ) (hl:OkL l):Ev.Good Tryz.prog K 102 [VQ l.sea,.sl 1 []] (Q8 (Y4 l)):=by
 have:=Qil hK l.sea hl.sea l.sea.waters.length [] (by simp) (fun i h=>by simp at h)
 simpa[Y4] using this
theorem Qsy (l:QJ) (hl:OkL l) (h:wid (l.plo,l.phi)*wid (l.flo,l.fhi)*wid (l.rlo,l.rhi)<=160):Ev.Good Tryz.prog K 82 [lsV l] (.sl 4 ((Zs l).map stR)):=by
 refine Qb hK Qtx (by simp) ?_
 have hle:=qO hl h;have g102:=Qk1 hK l hl;have hbd:=Qkm l.sea hl.sea l.sea.waters.length [] (by simp) (fun i h=>by simp at h)
 have hTl:=VN l.sea hl.sea l.sea.waters.length [];have hsr:Zs l=(Y4 l).flatMap (Qg7 l):=rfl;rw[hsr] at hle |-;have hTe:Zf l.sea l.sea.waters.length []=Y4 l:=rfl;rw[hTe] at hbd hTl;generalize Y4 l=T at *;have hp:=hl.pull;have hf:=hl.flaw;have hr:=hl.rated;simp only[Zc,inR] at hp hf hr;have hpl:=Zg l.plo l.phi;have hfl:=Zg l.flo l.fhi;have hrl:=Zg l.rlo l.rhi;simp
 (repeat' first | omega | (with_reducible apply And.intro) | intro _)
 refine cK (by simpa using g102) ?_
 simp;refine Zy (fun i=>[(1,.iv (.ptr (lsC l))),(3,.aref 3 ((T.take i).flatMap (Qg7 l)).length),(4,.iv (Q8 T)),(5,.iv (.int .i64 (i:Nat)))]) (fun i=>[(3,.arr 200 4 (emb (((T.take i).flatMap (Qg7 l)).map stR)) 0)]) T.length (fun _=>True) trivial ?_ ?_ (by simp) (by simp[emb])
 ·intro _
  rw[Qa Qjv.eq_1];rw[QzG];generalize T.flatMap (Qg7 l)=L at *;simp[Qzt]
 ·intro i hi _ ih
  have hle1:=QzT (Xw (Qg7 l) T (i+1)) hle;rw[Yp _ _ _ hi] at ih hle1;have hiT:(i:Int)<T.length:=by omega
  have hbi:=hbd T[i] (Qzr hi);generalize (T.take i).flatMap (Qg7 l)=P at *;rw[Qa Qjv.eq_1];simp only[Qg7] at ih hle1;generalize hTi:T[i]=t at *;simp[hiT]
  (repeat' first | omega | (with_reducible apply And.intro) | intro _)
  refine Zy (fun j=>[(1,.iv (.ptr (lsC l))),(3,.aref 3 (P++((Q9 l.plo l.phi).take j).flatMap (Qg8 l t)).length),(4,.iv (Q8 T)),(5,.iv (.int .i64 (i:Nat))),(6,.iv (.int .i64 (l.plo+(j:Nat))))]) (fun j=>[(3,.arr 200 4 (emb ((P++((Q9 l.plo l.phi).take j).flatMap (Qg8 l t)).map stR)) 0)]) (Q9 l.plo l.phi).length (fun _=>True) trivial ?_ ?_ (by simp) (by simp)
  ·intro _
   rw[Qa Qjw.eq_1];have h1:¬ l.plo+((Q9 l.plo l.phi).length:Int)<=l.phi:=by omega
   rw[QzG];generalize P++(Q9 l.plo l.phi).flatMap (Qg8 l t)=L at *;simp[h1] at ih |-;exact ⟨by omega,ih⟩
  ·intro j hj _ ih2
   have q1:l.plo+(j:Int)<=l.phi:=by omega
   have q3:l.plo+((j+1:Nat):Int)=l.plo+j+1:=by omega
   have hle2:(P++((Q9 l.plo l.phi).take (j+1)).flatMap (Qg8 l t)).length<=501*160:=by
    have:=Xw (Qg8 l t) (Q9 l.plo l.phi) (j+1);rw[Qzp] at hle1 |-;omega
   rw[Yp _ _ _ hj,X5,<- QzC] at ih2 hle2;rw[q3] at ih2;generalize P++((Q9 l.plo l.phi).take j).flatMap (Qg8 l t)=P2 at *;rw[Qa Qjw.eq_1];simp only[Qg8] at ih2 hle2;simp[q1];generalize hpu:l.plo+(j:Int)=pu at *;refine Zy (fun k=>[(1,.iv (.ptr (lsC l))),(3,.aref 3 (P2++((Q9 l.flo l.fhi).take k).flatMap (QgK l t pu)).length),(4,.iv (Q8 T)),(5,.iv (.int .i64 (i:Nat))),(6,.iv (.int .i64 pu)),(7,.iv (.int .i64 (l.flo+(k:Nat))))]) (fun k=>[(3,.arr 200 4 (emb ((P2++((Q9 l.flo l.fhi).take k).flatMap (QgK l t pu)).map stR)) 0)]) (Q9 l.flo l.fhi).length (fun _=>True) trivial ?_ ?_ (by simp) (by simp)
   ·intro _
    rw[Qa Qjx.eq_1];have h1:¬ l.flo+((Q9 l.flo l.fhi).length:Int)<=l.fhi:=by omega
    rw[QzG];generalize P2++(Q9 l.flo l.fhi).flatMap (QgK l t pu)=L at *;simp[h1] at ih2 |-;exact ⟨by omega,ih2⟩
   ·intro k hk _ ih3
    have q4:l.flo+(k:Int)<=l.fhi:=by omega
    have q5:l.flo+((k+1:Nat):Int)=l.flo+k+1:=by omega
    have hle3:(P2++((Q9 l.flo l.fhi).take (k+1)).flatMap (QgK l t pu)).length<=501*160:=by
     have:=Xw (QgK l t pu) (Q9 l.flo l.fhi) (k+1);rw[Qzp] at hle2 |-;omega
    rw[Yp _ _ _ hk,X5,<- QzC] at ih3 hle3;rw[q5] at ih3;generalize P2++((Q9 l.flo l.fhi).take k).flatMap (QgK l t pu)=P3 at *;rw[Qa Qjx.eq_1];simp only[QgK] at ih3 hle3;simp[q4];have hfb:0<=l.flo+(k:Int)/\l.flo+(k:Int)<=100:=by omega
    generalize hfw:l.flo+(k:Int)=fw at *;refine Zy (fun m=>[(1,.iv (.ptr (lsC l))),(3,.aref 3 (P3++((Q9 l.rlo l.rhi).take m).flatMap (QgJ l t pu fw)).length),(4,.iv (Q8 T)),(5,.iv (.int .i64 (i:Nat))),(6,.iv (.int .i64 pu)),(7,.iv (.int .i64 fw)),(8,.iv (.int .i64 (l.rlo+(m:Nat))))]) (fun m=>[(3,.arr 200 4 (emb ((P3++((Q9 l.rlo l.rhi).take m).flatMap (QgJ l t pu fw)).map stR)) 0)]) (Q9 l.rlo l.rhi).length (fun _=>True) trivial ?_ ?_ (by simp) (by simp)
    ·intro _
     rw[Qa Qjy.eq_1];have h1:¬ l.rlo+((Q9 l.rlo l.rhi).length:Int)<=l.rhi:=by omega
     rw[QzG];generalize P3++(Q9 l.rlo l.rhi).flatMap (QgJ l t pu fw)=L at *;simp[h1] at ih3 |-;exact ⟨by omega,ih3⟩
    ·intro m hm _ ih4
     have q6:l.rlo+(m:Int)<=l.rhi:=by omega
     have q7:l.rlo+((m+1:Nat):Int)=l.rlo+m+1:=by omega
     have hle4:(P3++((Q9 l.rlo l.rhi).take (m+1)).flatMap (QgJ l t pu fw)).length<=501*160:=by
      have:=Xw (QgJ l t pu fw) (Q9 l.rlo l.rhi) (m+1);rw[Qzp] at hle3 |-;omega
     rw[Yp _ _ _ hm,X5,<- QzC] at ih4 hle4;rw[q7] at ih4;generalize P3++((Q9 l.rlo l.rhi).take m).flatMap (QgJ l t pu fw)=P4 at *;have g103:=QoY hK l t pu fw (l.rlo+m) hl.sea hbi hfb;rw[Qa Qjy.eq_1];simp only[QgJ] at ih4 hle4;simp[q6,hi,hTi];generalize hra:l.rlo+(m:Int)=ra at *;refine cK (by simpa using g103) ?_
     cases hb:Ud l t pu fw
     ·rw[hb] at ih4
      simp at ih4 |-;exact ⟨by omega,ih4⟩
     ·rw[hb] at ih4 hle4
      simp only[if_pos,Qbh,Qzp] at ih4 hle4;simp[stR] at ih4 hle4 |-;exact ⟨by omega,by omega,ih4⟩
theorem QsM (l:QJ) (hl:OkL l) (h:wid (l.plo,l.phi)*wid (l.flo,l.fhi)*wid (l.rlo,l.rhi)<=160) (hsp:(XI l).length<=1000000) :
  Ev.Good Tryz.prog K 52 [lsV l,.bool true] (.tup [.sl 3 (if XI l=[]\/Zs l=[] then [] else (XI l).map spR),.sl 4 (if XI l=[]\/Zs l=[] then [] else (Zs l).map stR),.int .i64 (if XI l=[]\/Zs l=[] then 3 else 0)]):=by
 refine Qb hK QtT (by simp) ?_
 have h1:=hl.chain.len;have h2:=hl.chain.slen;have h3:=hl.sea.nw;have h4:=hl.sea.nv;have h5:=hl.sea.ng;have h6:=hl.mlen;simp only[inR] at h6;have g20:=Qh8 hK l (by omega) (by omega) (by omega) (by omega) (by omega) (by omega)
 have g81:=Qsz hK l hl;have g82:=Qsy hK l hl h;have hle:=qO hl h;generalize XI l=A at *;generalize Zs l=B at *;simp;refine cK (by simpa using g20) ?_
 simp[hl];refine cK (by simpa using g81) ?_
 simp;refine cK (by simpa using g82) ?_
 by_cases a:A=[]
 ·simp[a]
 ·by_cases b:B=[]
  ·simp[a,b]
  ·simp[a,b]
theorem Qs1 (l:QJ) (hl:OkL l) (h:wid (l.plo,l.phi)*wid (l.flo,l.fhi)*wid (l.rlo,l.rhi)<=160) (hsp:(XI l).length<=1000000) :
  Ev.Good Tryz.prog K 21 [lsV l] (.int .i64 (if XI l=[]\/Zs l=[] then 3 else 0)):=by
 refine Qb hK Quf (by simp) ?_
 have g:=QsM hK l hl h hsp;simp;refine cK (by simpa using g) ?_
 simp
omit hK
theorem Qha {l:QJ} (hl:OkL l):(XI l).length<=1000000:=by
 have h12:=hl.chain.len;have hlb:=hl.chain.deeds.cnt l.chain.deeds.length (Qzq _) (Qzq _);have hlb':0<=Qn l.chain.deeds/\Qn l.chain.deeds<=12:=by unfold Qn;omega
 have hE:=Qfx hl.chain
 have h1:=Vu (f:=Zv l (Qn l.chain.deeds).toNat) (m:=24) (Xb l.chain [] l.chain.deeds) fun e _=>by
  have:=Jr l e (Qn l.chain.deeds).toNat;omega
 unfold XI;omega
theorem Qkz {α β:Type} (f:α->β) {a b:List β} (h:a.Perm b):∀ l:List α,b=l.map f->∃ k:List α,a=k.map f/\k.Perm l:=by
 induction h with
 | nil=>exact fun l hl=>⟨[],rfl,by simp_all⟩
 | cons x h ih =>
   intro l hl;cases l with
   | nil=>simp at hl
   | cons y r =>
     simp at hl;obtain ⟨k,h1,h2⟩:=ih r hl.2;exact ⟨y::k,by simp[hl.1,h1],h2.cons y⟩
 | swap x y r =>
   intro l hl
   match l with
   | [] | [_]=>simp at hl
   | u::v::q =>
     simp at hl;exact ⟨v::u::q,by simp[hl],List.Perm.swap u v q⟩
 | trans h1 h2 ih1 ih2 =>
   intro l hl;obtain ⟨k,h3,h4⟩:=ih2 l hl;obtain ⟨m,h5,h6⟩:=ih1 k h3;exact ⟨m,h5,h6.trans h4⟩
noncomputable def spN (l:QJ):List (Qke × Nat):=UO (Xt l (QQ l.chain))
noncomputable def ZN (l:QJ):List Int:=Qbj ((QT l).map (·.cause))
noncomputable def QkH (l:QJ):List IV:=lsC l++[.map (J3 spK (spN l)),.bag 7 ((QT l).map evC)]
noncomputable def tLs (l:QJ) (is:Bool):Int:=if OkL l then (if is=true then (if spN l=[]\/QT l=[] then 3 else 0) else 1) else 100
noncomputable def Y0 (l:QJ) (cause:Int):Int:=if cause∈ZN l then (if (ZN l).length=1 then 1 else 3) else 2
theorem Ua {l:QJ} (hl:OkL l):(QT l).length<=100000000:=by
 have h1:=U4 (f:=evH l (Zd l)) (m:=303) (ZQ l) fun x _=>Qm3 hl (Zd l) x
 have h2:=QhS hl.sea;unfold QT;omega
theorem Qg3 {l:QJ} {is:Bool} (h:tLs l is=0):OkL l/\is=true/\spN l≠[]/\QT l≠[]:=by
 unfold tLs at h
 grind
def QkP (x:Int):List Int->Nat->Int
 | [],_ => -1
 | a::r,i=>if a=x then (i:Nat) else QkP x r (i+1)
theorem Qfl (x:Int):∀ (l:List Int) (i:Nat),0<=QkP x l i↔x∈l
 | [],i=>by simp[QkP]
 | a::r,i=>by
   have h:=Qfl x r (i+1);unfold QkP;by_cases ha:a=x
   ·simp[ha]
   ·have hx:¬ x=a:=fun e=>ha e.symm
    simp[ha,hx,h]
include hK
theorem Qsu (es:List Evt) (hne:es≠[]) (hl:es.length<=100000000):Ev.Good Tryz.prog K 87 [.bag 7 (es.map evC),.fn 88] (Q8 (Qbj (es.map (·.cause)))):=by
 refine QkX fun es' hp=>?_
 obtain ⟨k,rfl,h2⟩:=Qkz evC hp es rfl;have h:=Qn1 hK k (fun e=>hne (by subst e;simpa using h2)) (by rw[h2.length_eq];exact hl)
 have e:Qbj (k.map (·.cause))=Qbj (es.map (·.cause)):=congrArg Lib.compact (qR (h2.map _))
 rw[e] at h;exact h
theorem QmW (l:QJ) (hl:OkL l) (hne:QT l≠[]):Ev.Good Tryz.prog K 55 [.ptr (QkH l)] (Q8 (ZN l)):=by
 refine Qb hK QtQ (by simp) ?_
 have h:=Qsu hK (QT l) hne (Ua hl);simp[QkH];refine cK (by simpa using h) ?_
 simp
 try rfl
theorem QmX (l:QJ) (is:Bool) (hd:l.chain.deeds.length<=1000) (hs:l.chain.sights.length<=1000):Ev.Good Tryz.prog K 53 [lsV l,.bool is] (.tup [if tLs l is=0 then .ptr (QkH l) else .nilp,.int .i64 (tLs l is)]):=by
 refine Qb hK QtS (by simp) ?_
 simp;refine cK (by simpa using Qsx hK l hd hs) ?_
 by_cases h1:OkL l
 ·cases is
  ·simp[h1,tLs]
  ·simp[h1]
   have g1:=Qsw hK l h1;have g2:=Qsv hK l h1;refine cK (by simpa using g1) ?_
   simp;refine cK (by simpa using g2) ?_
   have hle:=Ua h1;have e1:(J3 spK (UO (Xt l (QQ l.chain)))=[])=(spN l=[]):=by simp[J3,spN]
   have e2:tLs l true=if spN l=[]\/QT l=[] then 3 else 0:=by simp[tLs,h1]
   simp;rw[e1,e2];by_cases h2:spN l=[]
   ·simp[h2]
   ·by_cases h3:QT l=[]
    ·simp[h2,h3]
    ·simp[h3,QkH,spN]
     exact fun h _=>h
 ·simp[h1,tLs]
theorem QsW (l:QJ) (hd:l.chain.deeds.length<=1000) (hs:l.chain.sights.length<=1000):Ev.Good Tryz.prog K 31 [lsV l] (.tup [Q8 (if tLs l true=0 then ZN l else []),.int .i64 (tLs l true)]):=by
 refine Qb hK Qt9 (by simp) ?_
 simp;refine cK (by simpa using QmX hK l true hd hs) ?_
 by_cases h:tLs l true=0
 ·obtain ⟨h1,_,_,h2⟩:=Qg3 h
  simp[h];refine cK (by simpa using QmW hK l h1 h2) ?_
  simp
 ·simp[h]
theorem QsL (n:Int):Ev.Good Tryz.prog K 54 [.int .i64 n] (.bool (decide (inR n 1 4))):=by
 refine Qb hK QtR (by simp) ?_
 simp;exact cK (by simpa using Vr hK n 1 4) (by simp)
theorem Qss (l:List Int) (x:Int) (hl:l.length<=1000000000):Ev.Good Tryz.prog K 89 [Q8 l,.int .i64 x] (.int .i64 (QkP x l 0)):=by
 refine Qb hK Qtq (by simp) ?_
 generalize hR:QkP x l 0=R;simp
 (repeat' first | omega | (with_reducible apply And.intro) | intro _)
 refine Zy (fun i=>[(0,.iv (Q8 l)),(1,.iv (.int .i64 x)),(7,.iv (.int .i64 l.length)),(8,.iv (.int .i64 (i:Nat)))]) (fun _=>[]) l.length (fun i=>QkP x (l.drop i) i=R) (by simpa using hR) ?_ ?_ (by simp) (by simp)
 ·intro h
  rw[Qa Qjo.eq_1];simp[QkP] at h;simp[<- h]
 ·intro i hi h ih
  rw[Qa Qjo.eq_1];rw[QAm hi] at h;simp only[QkP] at h;have hi':(i:Int)<(l.length:Int):=by omega
  by_cases hx:l[i]=x
  ·simp[hi,hi',hx] at h |-
   exact h
  ·have hx2:¬ x=l[i]:=fun e=>hx e.symm
   simp[hx] at h ih;simp[hi,hi',hx2];exact ⟨by omega,by simpa using ih h⟩
theorem QsK (l:List Int) (x:Int) (hl:l.length<=1000000000):Ev.Good Tryz.prog K 56 [Q8 l,.int .i64 x] (.bool (decide (x∈l))):=by
 refine Qb hK QtP (by simp) ?_
 have h:=Qfl x l 0;simp;refine cK (by simpa using Qss hK l x hl) ?_
 simp[h]
theorem QgC {l:QJ} (hl:OkL l):(ZN l).length<=100000000:=by
 have h1:=Ua hl
 have h2:∀ zs:List Int,(Lib.compact zs).length<=zs.length:=fun zs=>by
  unfold Lib.compact Lib.compactUpTo;rw[Qzw];exact QzT (QzQ _ _) (by simp)
 have h3:=h2 (JD ((QT l).map (·.cause)))
 simp[JD] at h3;unfold ZN Qbj;simp[JD];omega
theorem Qs0 (l:QJ) (n:Int) (hd:l.chain.deeds.length<=1000) (hs:l.chain.sights.length<=1000):Ev.Good Tryz.prog K 22 [lsV l,.int .i64 n] (.tup [.int .i64 (if tLs l (decide (inR n 1 4))=0 then Y0 l n else 0),.int .i64 (tLs l (decide (inR n 1 4)))]):=by
 refine Qb hK Que (by simp) ?_
 simp;refine cK (by simpa using QsL hK n) ?_
 simp;refine cK (by simpa using QmX hK l (decide (inR n 1 4)) hd hs) ?_
 by_cases h:tLs l (decide (inR n 1 4))=0
 ·obtain ⟨h1,_,_,h2⟩:=Qg3 h
  have hle:=QgC hK h1;simp[h];refine cK (by simpa using QmW hK l h1 h2) ?_
  unfold Y0;generalize ZN l=L at *;simp;refine cK (by simpa using QsK hK L n (by omega)) ?_
  by_cases h3:n∈L
  ·by_cases h4:L.length=1
   ·simp[h3,h4]
   ·have h5:¬ (L.length:Int)=1:=by omega
    simp[h3,h4,h5]
    try omega
  ·simp[h3]
 ·simp[h]
omit hK
theorem QbC {c:Qj} {e:List Int} (h:e.length=c.deeds.length):Qn (UV c.deeds e)=Qn c.deeds:=by
 unfold Qn;rw[U1 (Xc h),QaL (Xc h)]
theorem QbS {ds ds':List Qr} (h:ds'.map Qd4=ds.map Qd4) (k:Nat):(Xz ds' k).bar=(Xz ds k).bar/\(Xz ds' k).smith=(Xz ds k).smith:=by
 have h1:=VV ds' k;rw[h,VV] at h1;exact ⟨(congrArg Qr.bar h1).symm,(congrArg Qr.smith h1).symm⟩
theorem QkB {c:Qj} (hc:OkC c) {e:List Int} (he:e∈Zi c.deeds) (pos:Int) (m:Int × Int):QgL { c with deeds:=UV c.deeds e } pos m=okR c.deeds e pos m:=by
 have hl:=(QV he).1;have hz:=Xc (ds:=c.deeds) hl
 have h1:QgP { c with deeds:=UV c.deeds e } pos 0=(mkR c.deeds e pos).bar:=by
  unfold QgP mkR;simp only[J4 hc he,U1 hz,QeZ hz];exact (QbS hz _).1
 have h2:ZB { c with deeds:=UV c.deeds e } pos 0=(mkR c.deeds e pos).smith:=by
  unfold ZB mkR;simp only[J4 hc he,U1 hz,QeZ hz];exact (QbS hz _).2
 unfold QgL okR;simp only[h1,h2,QbC hl]
theorem Qfs {l:QJ} (hc:OkC l.chain) {e:List Int} (he:e∈Zi l.chain.deeds) (a w:Int):JW { l.chain with deeds:=UV l.chain.deeds e } l.marks a w↔Vv l e a w:=by
 unfold JW Vv;simp only[QkB hc he]
theorem QcI {c:Qj} {e:List Int} (h:e∈Xb c [] c.deeds):e∈Zi c.deeds:=by
 simp only[Xb,QAo,QAa,List.map_id'] at h;exact h.1
theorem YU {α β:Type} {f:α->List β} {l:List α}:l.flatMap f=[]↔∀ x∈l,f x=[]:=by simp
theorem Qg9 {l:QJ} (hl:OkL l):spN l=[]↔XI l=[]:=by
 have h0:spN l=[]↔Xt l (QQ l.chain)=[]:=by
  unfold spN;have hm:=fun y=>Ql1 y (Xt l (QQ l.chain))
  generalize Xt l (QQ l.chain)=L at *;constructor
  ·intro h
   cases L with
   | nil=>rfl
   | cons a r =>
     have:=(hm a).2 (by simp)
     rw[h] at this;simp at this
  ·rintro rfl
   rfl
 rw[h0];unfold Xt XI;rw[Qge l.chain hl.chain,YU,YU];simp only[QzI,forall_exists_index,and_imp,forall_apply_eq_imp_iff₂];refine forall_congr' fun e=>forall_congr' fun he=>?_
 have hch:=QcI he;have hlen:=(QV hch).1;unfold XJ Zv;rw[YU,YU,QbC hlen];refine forall_congr' fun a=>forall_congr' fun _=>?_
 have f1:=Qfs hl.chain hch (a:Nat) 1;have f2:=Qfs hl.chain hch (a:Nat) (-1);unfold qz Wh Qhb Yr;by_cases g1:Vv l e (a:Nat) 1
 ·simp[f1.2 g1,g1]
 ·by_cases g2:Vv l e (a:Nat) (-1)
  ·simp[f2.2 g2,g2]
  ·simp[mt f1.1 g1,mt f2.1 g2,g1,g2]
include hK
omit hK
def exD:List Qr:=[⟨1,0,0,5,1⟩,⟨1,1,0,5,2⟩,⟨1,2,0,6,1⟩,⟨4,0,0,0,0⟩,⟨2,0,2,0,0⟩,⟨1,0,1,7,2⟩]
def exC:Qj:=⟨exD++[⟨4,0,0,0,0⟩],[],0⟩
def exM:Machine:=⟨[⟨100,10,11⟩,⟨50,5,5⟩],20,1,2,[⟨10,5,2500,250⟩],0⟩
def exP:QE:=⟨exC,exM,[⟨30,0,0⟩,⟨31,0,-1⟩],4600,1⟩
include hK
theorem QsX:Ev.Good Tryz.prog K 30 [] (maV exM):=by
 refine Qb hK Qua (by simp) ?_
 simp[exM]
def Qk9:AV:=.tup [.agg [.aref 0 6,.iv (.sl 5 []),.iv (.int .i64 0)],.iv (.agg [.int .i64 6,.int .i64 1,.int .i64 0,.int .i64 6,.int .i64 (-1)]),.iv (.agg [.int .i64 6,.int .i64 0,.int .i64 0,.int .i64 (-1),.int .i64 1])]
theorem QnZ:ZG Tryz.prog K 62 [] [] [] Qk9 [(0,.arr 158 5 (emb (exD.map dC)) 0)]:=by
 refine JT [9] [] [] [] QtM.p (by simp[c62]) (by simp) ?_ ?_ ?_ ?_
 ·intro q hq
  simp only[QzK] at hq;subst hq;exact ⟨by simp,rfl,qj _ _ _ _ _⟩
 ·simp[clA,clAL,Qk9]
 ·simp
 ·generalize hG:Qrq c62.res [9] [] Qk9 [(0,.arr 158 5 (emb (exD.map dC)) 0)]=G
  simp;rw[<- hG];refine ⟨⟨_,rfl,rfl⟩,fun q hq=>?_,by simp⟩
  simp only[QzK] at hq;subst hq;rfl
omit hK
theorem Qtc:OkM exM:=by
 refine ⟨by decide,?_,by decide,by decide,by decide,by decide,?_,by decide⟩
 ·intro l hl;simp[exM] at hl;rcases hl with rfl | rfl<;>decide
 ·intro l hl;simp[exM] at hl;subst hl;decide
def exT:List Xs:=[⟨[0,0,0,0,0,1,0],⟨[10,5],1⟩⟩,⟨[0,0,0,0,0,1,0],⟨[11,5],1⟩⟩,⟨[0,0,0,0,1,1,0],⟨[10,5],1⟩⟩,⟨[0,0,0,0,1,1,0],⟨[11,5],1⟩⟩]
include hK
omit hK
def Quy (p:QE) (r:Int):QE:=⟨p.chain,p.machine,p.trials,p.need,r⟩
def QyD (p:QE) (i:Nat):Nat:=(List.range i).countP fun k=>decide (0<=(tr p k).broke)
include hK
omit hK
theorem J9:∀ (ls:List ZP) (s:List Int),s.length=ls.length->(∀ i (h:i<ls.length) (h':i<s.length),inR s[i] ls[i].lo ls[i].hi)->s∈QB ls
 | [],s,hl,_=>by
   have:s=[]:=Qzy hl;subst this;simp[QB]
 | l::ls,[],hl,_=>by cases hl
 | l::ls,x::s,hl,h=>by
   have h0:=h 0 (by simp) (by simp)
   simp only[List.getElem_cons_zero,inR] at h0
   have hr:=J9 ls s (by simpa using hl) (fun i h1 h2=>by
    have:=h (i+1) (by simpa using h1) (by simpa using h2)
    grind)
   simp only[QB,acc,QzP,QzI,QAE];refine ⟨(x-l.lo).toNat,by omega,s,hr,?_⟩
   grind
def Qwo (k:Int) (b:Bool):Prop:=k=3\/(k=1/\b=true)\/(k=2/\b=false)
theorem Xn {c:Sea} {w:Qd}:okW c w↔w.shorts.length=c.waters.length/\inR w.leak c.wlo c.whi/\∀ i (h:i<c.waters.length) (h':i<w.shorts.length),inR w.shorts[i] c.waters[i].1 c.waters[i].2:=by
 unfold okW okS;simp only[X4,Qzw,List.getElem_map]
theorem Qkk {c:Sea} {w:Qd} (h:okW c w):w∈Qkl c:=by
 obtain ⟨h1,h2,h3⟩:=h;simp only[inR] at h2;unfold Qkl;simp only[QO,QzP,QzI,QAE,QAa];refine ⟨w.shorts,J9 _ _ h1 h3,(w.leak-(X4 c).llo).toNat,by omega,?_⟩
 have:(X4 c).llo+((w.leak-(X4 c).llo).toNat:Int)=w.leak:=by omega
 rw[this]
theorem Qc5 {c:Sea} {w:Qd}:w∈wTr c↔okW c w/\isW c w=true:=by
 unfold wTr;rw[QAo];exact ⟨fun h=>⟨QgV h.1,h.2⟩,fun h=>⟨Qkk h.1,h.2⟩⟩
theorem QhN {l:List Int} (hne:l≠[]) {x:Int} (h:∀ y∈l,y=x):loD l=x:=by
 unfold loD;have hm:=fun y=>Wo y l
 generalize Xl l=s at *;cases s with
 | nil =>
   obtain ⟨a,r,rfl⟩:=QAi hne;have:=(hm a).2 (by simp)
   simp at this
 | cons a r=>exact h a ((hm a).1 (by simp))
def Ql4 (l:QJ) (c:Sea) (w:Qd):Prop:=okW c w/\isW c w=true/\(l.pth<0\/QH c w c.voys.length=l.pth)
theorem Qd2 {c:Sea} (hd:∀ i (h:i<c.waters.length),c.waters[i].1=c.waters[i].2) {n:Int} {w:Qd} (hw:okW (XW c n) w):w=⟨c.waters.map (·.1),n⟩:=by
 obtain ⟨h1,h2,h3⟩:=Xn.1 hw;simp only[inR,XW] at h1 h2 h3;cases w with
 | mk s k =>
   simp only at h1 h2 h3
   congr 1
   ·refine List.ext_getElem (by simpa using h1) fun i h h'=>?_
    have:=h3 i (by omega) h
    have:=hd i (by omega)
    simp only[List.getElem_map];omega
   ·omega
theorem Qfg {l:QJ} {c:Sea} (hc:Qf c) (hd:∀ i (h:i<c.waters.length),c.waters[i].1=c.waters[i].2) {n:Int} (h0:c.wlo<=n) (h1:n<=c.whi) (h:Int) :
  h∈WX l c n↔∃ w,Ql4 l c w/\w.leak=n/\h=Ze c (QH c w c.voys.length):=by
 have hR:=QhA hc h0 h1;have e1:∀ w,isW (XW c n) w=isW c w:=fun _=>rfl
 have e2:∀ w k,QH (XW c n) w k=QH c w k:=fun _ _=>rfl
 have e3:∀ t,Ze (XW c n) t=Ze c t:=fun _=>rfl
 have hok:∀ w,okW c w->w.leak=n->okW (XW c n) w:=fun w hw hk=>by
  obtain ⟨a1,a2,a3⟩:=Xn.1 hw;exact Xn.2 ⟨a1,by simp only[inR,XW];omega,a3⟩
 have hok':∀ w,okW (XW c n) w->okW c w/\w.leak=n:=fun w hw=>by
  obtain ⟨a1,a2,a3⟩:=Xn.1 hw;simp only[inR,XW] at a2;exact ⟨Xn.2 ⟨a1,by simp only[inR];omega,a3⟩,by omega⟩
 unfold WX;by_cases ht:wTr (XW c n)=[]
 ·have hno:∀ w,okW c w->w.leak=n->isW c w=true->False:=fun w a b d=>by
   have:w∈wTr (XW c n):=Qc5.2 ⟨hok w a b,d⟩;rw[ht] at this;simp at this
  have ht3:tW (XW c n) true≠0:=by
   unfold tW;simp[hR,ht]
  simp only[ht3,false_and,if_false,QAf,false_iff]
  rintro ⟨w,⟨a,b,_⟩,d,_⟩
  exact hno w a d b
 ·have ht0:tW (XW c n) true=0:=by
   unfold tW;simp[hR,ht]
  have hall:∀ w∈wTr (XW c n),w=⟨c.waters.map (·.1),n⟩:=fun w hw=>Qd2 hd (Qc5.1 hw).1
  have hmem:(⟨c.waters.map (·.1),n⟩:Qd)∈wTr (XW c n):=by
   obtain ⟨a,r,e⟩:=QAi ht;have ha:a∈wTr (XW c n):=by rw[e];simp
   rwa [hall a ha] at ha
  have hT:Qnn (XW c n)=QH c ⟨c.waters.map (·.1),n⟩ c.voys.length:=by
   unfold Qnn;refine QhN (by simpa using ht) fun y hy=>?_
   obtain ⟨w,hw,rfl⟩:=QzI.1 hy;rw[hall w hw];rfl
  have hH:QnW (XW c n)=Ze c (QH c ⟨c.waters.map (·.1),n⟩ c.voys.length):=by
   unfold QnW;refine QhN (by simpa using ht) fun y hy=>?_
   obtain ⟨w,hw,rfl⟩:=QzI.1 hy;rw[hall w hw];rfl
  have hW:=Qc5.1 hmem;rw[hT,hH];simp only[ht0,true_and];by_cases hp:0<=l.pth/\QH c ⟨c.waters.map (·.1),n⟩ c.voys.length≠l.pth
  ·simp only[hp,not_true_eq_false,and_self,ne_eq,not_false_eq_true,if_false,QAf,false_iff]
   rintro ⟨w,⟨a,b,d⟩,hk,_⟩
   have:=Qd2 hd (hok w a hk);subst this;omega
  ·simp only[hp,not_false_eq_true,if_true,QzK]
   constructor
   ·rintro rfl
    exact ⟨_,⟨(hok' _ hW.1).1,hW.2,by omega⟩,rfl,rfl⟩
   ·rintro ⟨w,⟨a,b,d⟩,hk,rfl⟩
    have:=Qd2 hd (hok w a hk);subst this;rfl
theorem Xy {lo hi n:Int}:n∈Q9 lo hi↔lo<=n/\n<=hi:=by
 constructor
 ·exact YJ
 ·intro h
  unfold Q9;rw[QzI];exact ⟨(n-lo).toNat,by rw[QAE];omega,by omega⟩
theorem QfC {l:QJ}:∀ (k:Nat) (c:Sea) (w:Nat),w+k=c.waters.length->Qf c->(∀ i (h:i<c.waters.length),i<w->c.waters[i].1=c.waters[i].2)->∀ h,h∈X2 l k c w↔∃ W,Ql4 l c W/\h=Ze c (QH c W c.voys.length)
 | 0,c,w,hw,hc,hd,h=>by
   simp only[X2,QzP];have hd':∀ i (h:i<c.waters.length),c.waters[i].1=c.waters[i].2:=fun i hi=>hd i hi (by omega)
   constructor
   ·rintro ⟨n,hn,hm⟩
    have hn:=Xy.1 hn;obtain ⟨W,a,_,b⟩:=(Qfg hc hd' hn.1 hn.2 h).1 hm;exact ⟨W,a,b⟩
   ·rintro ⟨W,a,b⟩
    have h2:=(Xn.1 a.1).2.1;simp only[inR] at h2;exact ⟨W.leak,Xy.2 h2,(Qfg hc hd' h2.1 h2.2 h).2 ⟨W,a,rfl,b⟩⟩
 | k+1,c,w,hw,hc,hd,h=>by
   have hlt:w<c.waters.length:=by omega
   have hge:c.waters.getD w (0,0)=c.waters[w]:=by simp[hlt]
   simp only[X2,QzP];rw[hge]
   have key:∀ n,c.waters[w].1<=n->n<=c.waters[w].2->(h∈X2 l k (Wq c w n) (w+1)↔∃ W,Ql4 l (Wq c w n) W/\h=Ze c (QH c W c.voys.length)):=fun n h0 h1=>by
    have:=QfC (l:=l) k (Wq c w n) (w+1) (by simp[Wq];omega) (Qcf hc hlt h0 h1) (fun i hi hiw=>by
     simp only[Wq,List.getElem_set];by_cases e:w=i
     ·simp[e]
     ·simp only[e,if_false]
      exact hd i (by simpa[Wq] using hi) (by omega)) h
    exact this
   have hst:∀ n W,c.waters[w].1<=n->n<=c.waters[w].2->(okW (Wq c w n) W↔okW c W/\∀ h':w<W.shorts.length,W.shorts[w]=n):=fun n W h0 h1=>by
    rw[Xn,Xn];simp only[Wq,List.length_set,inR,List.getElem_set];constructor
    ·rintro ⟨a1,a2,a3⟩
     refine ⟨⟨a1,a2,fun i hi hi'=>?_⟩,fun h'=>?_⟩
     ·have:=a3 i hi hi'
      by_cases e:w=i
      ·subst e
       simp only[if_true] at this;omega
      ·simpa only[e,if_false] using this
     ·have:=a3 w hlt h'
      simp only[if_true] at this;omega
    ·rintro ⟨⟨a1,a2,a3⟩,a4⟩
     refine ⟨a1,a2,fun i hi hi'=>?_⟩
     have:=a3 i hi hi';by_cases e:w=i
     ·subst e
      have:=a4 hi';simp only[if_true];omega
     ·simpa only[e,if_false] using this
   constructor
   ·rintro ⟨n,hn,hm⟩
    have hn:=Xy.1 hn;obtain ⟨W,⟨a,b,d⟩,e⟩:=(key n hn.1 hn.2).1 hm;exact ⟨W,⟨((hst n W hn.1 hn.2).1 a).1,b,d⟩,e⟩
   ·rintro ⟨W,⟨a,b,d⟩,e⟩
    have h3:=Xn.1 a;have hwl:w<W.shorts.length:=by omega
    have h4:=h3.2.2 w hlt hwl;simp only[inR] at h4;exact ⟨W.shorts[w],Xy.2 h4,(key _ h4.1 h4.2).2 ⟨W,⟨(hst _ W h4.1 h4.2).2 ⟨a,fun _=>rfl⟩,b,d⟩,e⟩⟩
theorem QeW {l:QJ} (hc:Qf l.sea) (h:Int):h∈ZQ l↔∃ W,Ql4 l l.sea W/\h=Ze l.sea (QH l.sea W l.sea.voys.length):=by
 unfold ZQ;rw[U7];exact QfC l.sea.waters.length l.sea 0 (by omega) hc (fun i _ hi=>by omega) h
theorem VM {c:Sea} (hc:Qf c):∀ (k:Nat) (first:List Int),first.length+k=c.waters.length->okF c first->∀ t,t∈Zf c k first↔∃ W,okW c W/\isW c W=true/\W.shorts.take first.length=first/\t=QH c W c.voys.length
 | 0,first,hl,hf,t=>by
   simp only[Zf,QzP];have hok:∀ n,c.wlo<=n->n<=c.whi->okW c ⟨first,n⟩:=fun n h0 h1=>Xn.2 ⟨by simpa using hl,by simp only[inR];omega,fun i h h'=>hf i h' h⟩
   constructor
   ·rintro ⟨n,hn,hm⟩
    have hn:=Xy.1 hn;unfold X3 at hm;split at hm
    ·rename_i hi
     simp only[QzK] at hm;exact ⟨⟨first,n⟩,hok n hn.1 hn.2,hi,by simp,hm⟩
    ·simp at hm
   ·rintro ⟨W,a,b,d,rfl⟩
    have h3:=Xn.1 a
    have hs:W.shorts=first:=by
     rw[<- d];exact (Qzt (by omega)).symm
    have h4:=h3.2.1;simp only[inR] at h4;cases W with
    | mk s n =>
      simp only at hs h4;subst hs;refine ⟨n,Xy.2 h4,?_⟩;unfold X3;simp[b]
 | k+1,first,hl,hf,t=>by
   have hlt:first.length<c.waters.length:=by omega
   have hge:c.waters.getD first.length (0,0)=c.waters[first.length]:=by simp[hlt]
   simp only[Zf];rw[Wn,QzP,hge]
   have ih:=fun (n:Int) (h0:c.waters[first.length].1<=n) (h1:n<=c.waters[first.length].2)=>VM hc k (first++[n]) (by simp;omega) (fun i h h'=>by
    by_cases hi:i<first.length
    ·have:=hf i hi h'
     simpa[List.getElem_append_left hi] using this
    ·have:i=first.length:=by simp at h;omega
     subst this;simp[inR];exact ⟨h0,h1⟩) t
   constructor
   ·rintro ⟨_,_,n,hn,hm⟩
    have hn:=Xy.1 hn;obtain ⟨W,a,b,d,e⟩:=(ih n hn.1 hn.2).1 hm;refine ⟨W,a,b,?_,e⟩;have:=congrArg (List.take first.length) d
    rw[List.take_take] at this;simpa using this
   ·rintro ⟨W,a,b,d,rfl⟩
    have h3:=Xn.1 a;have hwl:first.length<W.shorts.length:=by omega
    have h4:=h3.2.2 first.length hlt hwl
    simp only[inR] at h4;have hb:=ZA hc a c.voys.length;refine ⟨hb.1,hb.2,W.shorts[first.length],Xy.2 h4,(ih _ h4.1 h4.2).2 ⟨W,a,b,?_,rfl⟩⟩
    rw[Qzp,List.length_singleton,Qzn hwl,d]
theorem QiJ {l:QJ} (hl:OkL l) (fr h f:Int) (hh:0<=Z2 h f) (hfr:0<=Z2 fr f):evF l fr h f=[]↔∀ p r,l.plo<=p->p<=l.phi->l.rlo<=r->r<=l.rhi->¬ Z2 h f<p:=by
 have h1:=hl.pull;have h2:=hl.rated;simp only[Zc,inR] at h1 h2;unfold evF J2 isE Zj;generalize Z2 h f=a at *;generalize Z2 fr f=b at *;simp only[List.append_eq_nil_iff]
 have e1:∀ (x y z v:Int) (A:Evt),((if (decide (x<=y)&&decide (z<=v))=true then [A] else [])=[])↔¬ (x<=y/\z<=v):=fun x y z v A=>by
  by_cases q:x<=y/\z<=v
  ·simp[q]
  ·simp only[Qzm,decide_eq_true_eq,q,if_false,not_false_eq_true]
 simp only[e1];constructor
 ·rintro ⟨⟨c1,c2⟩,c3⟩ p r p1 p2 r1 r2 hp
  by_cases q:r<p
  ·exact c1 (by omega)
  ·by_cases q2:p<=b
   ·exact c2 (by omega)
   ·exact c3 (by omega)
 ·intro hn
  have hn':=hn l.phi l.rlo (by omega) (by omega) (by omega) (by omega)
  refine ⟨⟨?_,?_⟩,?_⟩<;>omega
theorem Qgr {l:QJ} (hl:OkL l):QT l=[]↔Zs l=[]:=by
 have h1:=hl.pull;have h2:=hl.flaw;have h3:=hl.rated;simp only[Zc,inR] at h1 h2 h3;have hfr:=Qcv hl.sea;unfold QT Zs Y4;rw[YU,YU];simp only[evH,Qg7,Qg8,QgK,YU,Xy];have hw:∀ a f:Int,0<=a->a<=24975->0<=f->f<=100->0<=Z2 a f:=fun a f x y z v=>(QaE ⟨x,by omega⟩ ⟨z,v⟩).1
 constructor
 ·intro hE t ht p hp f hf r hr
  obtain ⟨W,a,b,_,rfl⟩:=(VM hl.sea l.sea.waters.length [] (by simp) (fun i h=>by simp at h) t).1 ht
  unfold QgJ Ud;rw[if_neg];simp only[Qzm,QAG,decide_eq_true_eq,not_and];intro hlt hpt;have hk:=(QeW hl.sea _).2 ⟨W,⟨a,b,hpt⟩,rfl⟩;have hb:=XR hl.sea (ZA hl.sea a l.sea.voys.length);exact (QiJ hl _ _ f (hw _ f hb.1 hb.2 (by omega) (by omega)) (hw _ f hfr.1 hfr.2 (by omega) (by omega))).1 (hE _ hk f hf) p r hp.1 hp.2 hr.1 hr.2 hlt
 ·intro hS h hk f hf
  obtain ⟨W,⟨a,b,hpt⟩,rfl⟩:=(QeW hl.sea h).1 hk;have hb:=XR hl.sea (ZA hl.sea a l.sea.voys.length);refine (QiJ hl _ _ f (hw _ f hb.1 hb.2 (by omega) (by omega)) (hw _ f hfr.1 hfr.2 (by omega) (by omega))).2 fun p r p1 p2 r1 r2 hlt=>?_
  have ht:=(VM hl.sea l.sea.waters.length [] (by simp) (fun i h=>by simp at h) _).2 ⟨W,a,b,by simp,rfl⟩
  have:=hS _ ht p ⟨p1,p2⟩ f hf r ⟨r1,r2⟩;unfold QgJ Ud at this;split at this
  ·simp at this
  ·rename_i q
   refine q ?_;simp only[Qzm,QAG,decide_eq_true_eq];exact ⟨hlt,hpt⟩
end Go.Pf
