/- A function that takes a row of the caller's own and hands it back, longer or as it was. -/
import Derived.Test.YtidcmjicfnjcjaaGreatEvTwo
import Derived.RangeFuncRecord
import Derived.AtR
import Derived.Laws.CopyRow
import Derived.Laws.IdiomCopy
import Derived.Maps.RangeRun
set_option linter.all false

namespace Go.Ev
open Go Go.RowKit
def GoodR (P:Program) (K:World→Prop) (f:FuncId) (e:TypeId) (sz:Nat) (rows:List (List IV)) (args:List IV) (rows':List (List IV)):Prop :=
 ∀ (w:World) (ok:Nat→Prop) (v0:Value) (xs vs:List Value),(∀ w',Keep (Fr0 w v0) w w'→K w')→(∀ b,w.heap.size≤b→ok b) →
  w.ownsRow 0 e sz v0 rows.length xs→(∀ c∈rows,c.length=sz)→(∀ u∈xs,u.oneCell'=true) →
  (∀ (i j:Nat) (c:List IV) (x:IV) (u:Value),rows[i]?=some c→c[j]?=some x→xs[i*sz+j]?=some u→RepI (fun b=>ok b∧v0.ownBlock≠some b) w x u) →
  vs.length=args.length→(∀ (k:Nat) (x:IV) (u:Value),args[k]?=some x→vs[k]?=some u→RepI (fun b=>ok b∧v0.ownBlock≠some b) w x u) →
  Calls P f (v0::vs).toArray w (fun x w'=>∃ v' xs',x=.returned v'∧RowBack w ok e sz rows v0 rows' v' xs' w')
section
variable {P:Program} {ok0:Nat→Prop} {N:Fm} {w0:Base} {lk:Nat→AV} {lo:Nat→Option AO} {a:Act} {w:World} {L:Nat→Lay}
theorem inv_aref_all {id:Nat} {e:TypeId} {sz mv:Nat} {rows:List (List IV)} {v0 u:Value} {xs:List Value} {ok:Nat→Prop} (hid:lo id=some (rowO e sz rows mv)) (hL:L id=.arr v0 xs) (hr:RepA ok w lo L (.aref id rows.length) u):u=v0:=by
 generalize hq:AV.aref id rows.length=q at hr
 cases hr with
 | iv=>cases hq
 | agg=>cases hq
 | loc=>cases hq
 | eloc=>cases hq
 | nilr=>cases hq
 | mref=>cases hq
 | oref=>cases hq
 | omap=>cases hq
 | orow=>cases hq
 | obytes=>cases hq
 | belem=>cases hq
 | clo=>cases hq
 | tup=>cases hq
 | cb=>cases hq
 | aref i2 e2 sz2 es2 mv2 v2 xs2 hob2 hL2 hsl =>
   injection hq with hq1 hq2
   subst hq1
   rw[hL] at hL2
   injection hL2 with g1 g2
   exact g1.symm
 | old i2 n2 e2 sz2 es2 mv2 v2 _ xs2 hob2 hL2 hsl hn2 hv =>
   injection hq with hq1 hq2
   subst hq1 hq2
   rw[hid] at hob2
   injection hob2 with hob2
   injection hob2 with g1 g2 g3 g4
   subst g3
   rw[List.length_map] at hn2
   omega
theorem back_arr {id mv:Nat} {e:TypeId} {sz:Nat} {rows rows':List (List IV)} {v0 v':Value} {xs xs':List Value} {w':World} (h:Rel ok0 N w0 lk lo a w L) (hok0:∀ b,¬ w0.fr b→ok0 b)
  (hid:lo id=some (rowO e sz rows mv)) (hL:L id=.arr v0 xs) (hr:RowBack w (okL ok0 lo L) e sz rows v0 rows' v' xs' w') :
  Rel ok0 N w0 lk (setO lo id (rowO e sz rows' rows'.length)) a w' (setL L id (.arr v' xs')) ∧
  RepA (okL ok0 (setO lo id (rowO e sz rows' rows'.length)) (setL L id (.arr v' xs'))) w' (setO lo id (rowO e sz rows' rows'.length)) (setL L id (.arr v' xs')) (.aref id rows'.length) v':=by
 have hob:=h.objs _ _ hid
 rw[hL] at hob
 obtain ⟨hown,hmv,hsz,h1,hxx⟩:=hob
 rw[List.length_map] at hown hmv
 have h0:∀ b,v0.ownBlock=some b→(L id).has b∧¬ w0.fr b:=fun b hb=>⟨by rw[hL];exact hb,hown.free b hb⟩
 have hl':∀ b,(Lay.arr v' xs').has b→(L id).has b∨w.heap.size≤b:=fun b hb=>(hr.blk b hb).imp (fun h=>(h0 b h).1) (fun h=>h)
 have hg:Only (L id).has w w':=⟨hr.keep.os,hr.keep.tape,hr.keep.output,hr.keep.size,fun k hk hn=>hr.keep.block k ⟨hk,fun e=>hn (h0 k e).1⟩⟩
 have hlen':(rows'.map (List.map AV.iv)).length=rows'.length:=by simp
 have hlen:(rows.map (List.map AV.iv)).length=rows.length:=by simp
 have hsl':=ownsRow_isSl hr.own
 have res:∀ ok,RepA ok w' (setO lo id (rowO e sz rows' rows'.length)) (setL L id (.arr v' xs')) (.aref id rows'.length) v':=fun ok=>by
  have:=RepA.aref (ok:=ok) (w:=w') (lo:=setO lo id (rowO e sz rows' rows'.length)) (L:=setL L id (.arr v' xs')) id e sz (rows'.map (List.map AV.iv)) rows'.length v' xs' (by simp[setO,rowO]) (by simp[setL]) hsl'
  rwa [hlen'] at this
 refine ⟨h.turn id hid hg hl' (fun z u hz hu=>?_) (fun _=>?_),res _⟩
 ·cases hu with
  | iv=>simp[AV.refs] at hz
  | agg=>simp[AV.refs] at hz
  | clo=>simp[AV.refs] at hz
  | tup=>simp[AV.refs] at hz
  | nilr=>simp[AV.refs] at hz
  | loc jj off cs b ho' hL'=>have:jj=id:=by simpa[AV.refs] using hz
                             subst this;rw[hid] at ho';cases ho'
  | mref jj k2 n2 e2 sz2 kvs2 pend2 b2 vals2 v2 ho' hL' =>
    have:jj=id:=by simpa[AV.refs] using hz
    subst this;rw[hid] at ho';cases ho'
  | oref jj b2 o2 ho' hn' hL' =>
    have:jj=id:=by simpa[AV.refs] using hz
    subst this;rw[hid] at ho';injection ho' with ho';subst ho';cases hn'
  | omap jj b2 kvs2 ho' hL' =>
    have:jj=id:=by simpa[AV.refs] using hz
    subst this;rw[hid] at ho';cases ho'
  | orow jj b2 e2 sz2 kvs2 pend2 vals2 ho' hL' =>
    have:jj=id:=by simpa[AV.refs] using hz
    subst this;rw[hid] at ho';cases ho'
  | obytes jj b2 cap2 s2 ho' hL' =>
    have:jj=id:=by simpa[AV.refs] using hz
    subst this;rw[hid] at ho';cases ho'
  | belem jj j2 b2 s2 ho' hL' hi' =>
    have:jj=id:=by simpa[AV.refs] using hz
    subst this;rw[hid] at ho';cases ho'
  | cb jj s2 O2 D2 ho' hL' =>
    have:jj=id:=by simpa[AV.refs] using hz
    subst this;rw[hid] at ho';cases ho'
  | aref jj e2 sz2 es2 mv2 v2 xs2 ho' hL' hsl2 =>
    have:jj=id:=by simpa[AV.refs] using hz
    subst this
    rw[hid] at ho'
    injection ho' with ho'
    injection ho' with g1 g2 g3 g4
    subst g1 g2 g3 g4
    rw[hL] at hL'
    injection hL' with g1 g2
    subst g1 g2
    rw[hlen]
    by_cases hs:rows'.length=rows.length
    ·have:=res (okL ok0 (setO lo jj (rowO e sz rows' rows'.length)) (setL L jj (.arr v' xs')))
     rw[hs,hr.same hs] at this
     rw[hr.same hs]
     rw[hs]
     exact this
    ·have hle:=hr.le
     exact .old jj rows.length e sz (rows'.map (List.map AV.iv)) rows'.length v' v0 xs' (by simp[setO,rowO]) (by simp[setL]) hsl2 (by rw[hlen'];omega) (fun hm=>by omega)
  | old jj n' e2 sz2 es2 mv2 v2 v2' xs2 ho' hL' hsl2 hn' hv2 =>
    have:jj=id:=by simpa[AV.refs] using hz
    subst this
    rw[hid] at ho'
    injection ho' with ho'
    injection ho' with g1 g2 g3 g4
    subst g1 g2 g3 g4
    rw[hlen] at hn'
    have hle:=hr.le
    exact .old jj n' e sz (rows'.map (List.map AV.iv)) rows'.length v' _ xs' (by simp[setO,rowO]) (by simp[setL]) hsl2 (by rw[hlen'];omega) (fun hm=>by omega)
  | eloc jj n' i' off' e2 sz2 es2 mv2 v2 xs2 b2 ho' hL' hn' hv2 =>
    have:jj=id:=by simpa[AV.refs] using hz
    subst this
    rw[hid] at ho'
    injection ho' with ho'
    injection ho' with g1 g2 g3 g4
    subst g1 g2 g3 g4
    rw[hL] at hL'
    injection hL' with g1 g2
    subst g1 g2
    rw[hlen] at hn' hv2
    have hle:=hr.le
    refine .eloc jj n' i' off' e sz (rows'.map (List.map AV.iv)) rows'.length v' xs' b2 (by simp[setO,rowO]) (by simp[setL]) (by rw[hlen'];omega) (fun hm=>?_)
    have hs:rows'.length=rows.length:=by omega
    have hnr:n'=rows.length:=by omega
    obtain ⟨k1,k2,k3⟩:=hv2 (by omega)
    have hb2:v'.ownBlock=some b2:=by rw[hr.same hs];exact k2 hnr
    refine ⟨k1,fun _=>hb2,fun k hk=>⟨.inr hb2,?_⟩⟩
    have hk':k<xs'.length:=by rw[hr.own.1,hs,← hnr];exact hk
    refine ⟨xs'[k],?_,List.getElem?_eq_getElem hk'⟩
    have:=hr.own.cells (g:=b2) hb2 k xs'[k] (List.getElem?_eq_getElem hk')
    rwa [addr_add,Nat.zero_add] at this
 ·refine ⟨by rw[hlen'];exact ⟨hr.own,fun b hb=>(hr.blk b hb).elim (fun h1=>hown.free b h1) (fun h2=>h.frlt h2)⟩,by rw[hlen'];exact Nat.le_refl _,fun c hc=>?_,hr.one,fun i j c x u hi hj hu=>?_⟩
  ·obtain ⟨d,hd,rfl⟩:=List.mem_map.1 hc
   rw[List.length_map]
   exact hr.size d hd
  ·rw[List.getElem?_map,Option.map_eq_some_iff] at hi
   obtain ⟨d,hd,rfl⟩:=hi
   rw[List.getElem?_map,Option.map_eq_some_iff] at hj
   obtain ⟨y,hy,rfl⟩:=hj
   exact .iv _ _ ((hr.cells i j d y u hd hy hu).mono fun b hb _=>⟨okL_back (l':=.arr v' xs') h hok0 hid h0 (fun b hb=>.inl hb) hb,rfl⟩)
/-! ### A map's row -/
end
end Go.Ev

/- Calls of function values; a region's run in a frame that may be a round's. -/
namespace Go.Ev
open Go Go.RowKit
inductive Enters (P:Program):Value→List Value→World→Next→Prop
 | clo (g:FuncId) (us cs vs:List Value) (w:World) (hc:callee P g=true):Enters P (.func (.func g) us.toArray cs.toArray) vs w (.enter g (us++vs++cs).toArray)
 | yield (l:Nat) (vs:List Value) (w:World) (f:FuncId) (tmps:Array Value) (as body:Code) (h:(Instr.yield l vs.toArray).run P w=.ok (.round l f tmps as body) w) :
   Enters P (.func (.yield l) #[] #[]) vs w (.round l f tmps as body)
def begun (P:Program) (c:Frame) (cs:List Frame) (w:World):Next→Machine
 | .enter f args=>lone (Frame.enter P f args .normal) (c::cs) w
 | .round l f tmps as body=>lone (Frame.round l f tmps as body .normal) (c::cs) w
 | _=>lone c cs w
def Ans (P:Program) (fv:Value) (vs:List Value) (w:World) (R:Value→World→Prop):Prop :=
 ∃ n,Enters P fv vs w n∧∀ (c:Frame) (cs:List Frame),∃ v w',R v w'∧Steps P (begun P c cs w n) (lone (c.finish v) cs w')
theorem Ans.mono {P:Program} {fv:Value} {vs:List Value} {w:World} {R R':Value→World→Prop} (h:Ans P fv vs w R) (hr:∀ v w',R v w'→R' v w'):Ans P fv vs w R':=by
 obtain ⟨n,h1,h2⟩:=h
 refine ⟨n,h1,fun c cs=>?_⟩
 obtain ⟨v,w',h3,h4⟩:=h2 c cs
 exact ⟨v,w',hr _ _ h3,h4⟩
theorem Ans.of_calls {P:Program} {g:FuncId} {us cs vs:List Value} {w:World} {R:Value→World→Prop} (hc:callee P g=true)
  (h:Calls P g (us++vs++cs).toArray w (fun e w'=>∃ v,e=.returned v∧R v w')):Ans P (.func (.func g) us.toArray cs.toArray) vs w R:=by
 refine ⟨_,.clo g us cs vs w hc,fun c fs=>?_⟩
 obtain ⟨e,w',fr,⟨v,rfl,hR⟩,h1,h2,h3⟩:=h (c::fs)
 exact ⟨v,w',hR,Steps.trans h1 (.one (step_leave_returned h3))⟩
theorem callv_run {P:Program} {a:Act} {o:Oper} {m:Nat} {as:Array Operand} {ts:Array TypeId} {w:World} {fv:Value} {n:Next} (ho:o.op=.call { callee:=.value (.tmp m),args:=as,argTypes:=ts })
  (hv:a.eval (.tmp m)=fv) (h:Enters P fv (as.toList.map a.eval) w n):(execOp a.eval o).run P w=.ok n w:=by
 cases h with
 | clo g us cs _ _ hc =>
   unfold callee at hc
   split at hc
   ·rename_i fn hfn
    simp only[Bool.and_eq_true,Bool.not_eq_true',beq_eq_false_iff_ne,ne_eq] at hc
    obtain ⟨hb,hn⟩:=hc
    have hb':fn.body≠none:=by cases h:fn.body<;>simp_all
    simp[execOp,ho,resolve,hv,Deferred.ofValue,invoke,callFunc,program,Sem.run,hfn,hn,hb']
   ·cases hc
 | yield l _ _ f tmps as' body h =>
   have e:(Array.map a.eval as)=((as.toList.map a.eval).toArray):=by
    apply Array.ext'
    simp
   simp[execOp,ho,resolve,hv,Deferred.ofValue,invoke]
   rw[e]
   exact h
def Step1 (P:Program) (ops:Array Oper) (i:Nat) (C:Act→World→Prop) (a:Act) (w:World):Prop :=
 ∀ (b:Frame) (rest:List Nat) (k:List Item) (cs:List Frame),∃ a' w',C a' w'∧Steps P (lone (b.atR a (.inRegion ops (i::rest)::k)) cs w) (lone (b.atR a' (.inRegion ops rest::k)) cs w')
section
variable {P:Program} {ops:Array Oper} {C:Act→World→Prop} {a:Act} {w:World} {i:Nat} {o:Oper}
theorem Step1.mono {C':Act→World→Prop} (h:∀ a w,C a w→C' a w) (hh:Step1 P ops i C a w):Step1 P ops i C' a w:=fun b rest k cs =>
 let ⟨a',w',h1,h2⟩:=hh b rest k cs
 ⟨a',w',h _ _ h1,h2⟩
theorem step1_none (ho:ops[i]?=none) (h:C a w):Step1 P ops i C a w:=fun b rest k cs=>by
 have hs:=stepR_op_skip (P:=P) (b:=b) (a:=a) (k:=k) (cs:=cs) (w:=w) (ops:=ops) (i:=i) (rest:=rest) (by simp[ho])
 simp only[ho,Option.bind_none,Act.put] at hs
 exact ⟨a,w,h,.one hs⟩
theorem step1_skip (ho:ops[i]?=some o) (hw:Region.wanted o (yielded ops a.tmps)=false) (h:C (a.put o.dst undef) w):Step1 P ops i C a w:=fun b rest k cs=>by
 have hs:=stepR_op_skip (P:=P) (b:=b) (a:=a) (k:=k) (cs:=cs) (w:=w) (ops:=ops) (i:=i) (rest:=rest) (by simp[ho,hw])
 simp only[ho,Option.bind_some] at hs
 exact ⟨_,w,h,.one hs⟩
theorem step1_wp (ho:ops[i]?=some o) (hw:Region.wanted o (yielded ops a.tmps)=true) (hnd:∀ c,o.op≠.defer c) (h:o.wp P a w C (fun _ _ _=>False)):Step1 P ops i C a w:=by
 intro b rest k cs
 simp only[Oper.wp,Oper.upon] at h
 have hg:=stepGR_op (P:=P) (b:=b) (k:=k) (cs:=cs) (w:=w) (rest:=rest) ho hw
 rw[Oper.semAt_eq _ _ _ hnd] at hg
 have hfin:∀ v,(b.atR a (.inRegion ops (i::rest)::k)).finish v=b.atR (a.put o.dst v) (.inRegion ops rest::k):=by
  intro v;rw[Frame.finish_atR,ho];rfl
 split at h
 ·rename_i v w' hr
  refine ⟨_,_,h,.one (step_lone_go ?_)⟩
  rw[hg,← hfin];simp[stepG.apply,hr]
 ·rename_i w' hr
  refine ⟨_,_,h,.one (step_lone_go ?_)⟩
  rw[hg,← hfin];simp[stepG.apply,hr]
 ·rename_i d w' hr
  refine ⟨_,_,h,.one (step_lone_go ?_)⟩
  have:({ b.atR a (.inRegion ops (i::rest)::k) with defers:=d::a.defers }:Frame).finish undef =
    b.atR ({ a with defers:=d::a.defers }.put o.dst undef) (.inRegion ops rest::k):=by
   have:=Frame.finish_atR b { a with defers:=d::a.defers } ops i rest k undef
   rw[ho] at this;exact this
  rw[hg];simp only[stepG.apply,Sem.runT_eq,hr,GStep.bare_after]
  exact congrArg (fun fr=>GStep.go { frame:=fr,callers:=cs,status:=.running,dying:=none } w') this
 ·rename_i f args w' hr
  obtain ⟨e,w'',fr,hR,hsteps,_,hleave⟩:=h (b.atR a (.inRegion ops (i::rest)::k)::cs)
  have henter:step P (lone (b.atR a (.inRegion ops (i::rest)::k)) cs w) =
    .next (lone (Frame.enter P f args .normal) (b.atR a (.inRegion ops (i::rest)::k)::cs) w') :=
   step_lone_go (by rw[hg];simp[stepG.apply,hr,Frame.atR])
  cases e with
  | returned v =>
    refine ⟨_,_,hR,.head henter (Steps.trans hsteps (.one ?_))⟩
    rw[← hfin];exact step_leave_returned hleave
  | panicked chain=>exact hR.elim
  | outgrown =>
    obtain ⟨_,_,hq⟩:=hR
    exact hq.elim
 ·rename_i row args w' hr
  obtain ⟨v,w'',hR,hsteps⟩:=h (b.atR a (.inRegion ops (i::rest)::k)) cs
  have henter:step P (lone (b.atR a (.inRegion ops (i::rest)::k)) cs w) =
    .next (lone (Frame.ofRow P row args .normal) (b.atR a (.inRegion ops (i::rest)::k)::cs) w') :=
   step_lone_go (by rw[hg];simp[stepG.apply,hr,Frame.atR])
  refine ⟨_,_,hR,.head henter ?_⟩
  rw[← hfin];exact hsteps
 ·exact h.elim
 ·exact h.elim
theorem step1_call {m:Nat} {as:Array Operand} {ts:Array TypeId} {fv:Value} {R:Value→World→Prop} (ho:ops[i]?=some o) (hw:Region.wanted o (yielded ops a.tmps)=true)
  (hop:o.op=.call { callee:=.value (.tmp m),args:=as,argTypes:=ts }) (hv:a.eval (.tmp m)=fv) (h:Ans P fv (as.toList.map a.eval) w R) (hC:∀ v w',R v w'→C (a.put o.dst v) w'):Step1 P ops i C a w:=by
 intro b rest k cs
 obtain ⟨n,hen,hans⟩:=h
 have hr:=callv_run hop hv hen
 have hg:=stepGR_op (P:=P) (b:=b) (k:=k) (cs:=cs) (w:=w) (rest:=rest) ho hw
 rw[Oper.semAt_eq _ _ _ (fun c=>by rw[hop];simp)] at hg
 have hfin:∀ v,(b.atR a (.inRegion ops (i::rest)::k)).finish v=b.atR (a.put o.dst v) (.inRegion ops rest::k):=by
  intro v;rw[Frame.finish_atR,ho];rfl
 obtain ⟨v,w',hR,hst⟩:=hans (b.atR a (.inRegion ops (i::rest)::k)) cs
 refine ⟨_,w',hC v w' hR,?_⟩
 rw[hfin] at hst
 refine .head ?_ hst
 cases hen with
 | clo g us cs' _ _ hc=>exact step_lone_go (by rw[hg];simp[stepG.apply,hr,Frame.atR])
 | yield l _ _ f tmps as' body h=>exact step_lone_go (by rw[hg];simp[stepG.apply,hr])
def goOps (P:Program) (ops:Array Oper) (Q:Act→World→Prop):List Nat→Act→World→Prop
 | []=>Q
 | i::r=>Step1 P ops i (goOps P ops Q r)
def goAny (P:Program) (md:Region.Mode) (ops:Array Oper) (Q:Act→World→Prop):Nat→Array Bool→Act→World→Prop
 | 0,listed,a,w=>Region.ready md ops listed=[]∧Q a w
 | fuel+1,listed,a,w =>
   (Region.ready md ops listed=[]→Q a w) ∧
   ∀ i∈Region.ready md ops listed,Step1 P ops i (goAny P md ops Q fuel (listed.setIfInBounds i true)) a w
theorem goAny_sound {md:Region.Mode} {Q:Act→World→Prop}:∀ (fuel t:Nat) (listed:Array Bool) (a:Act) (w:World),goAny P md ops Q fuel listed a w →
  goOps P ops Q (Region.linearise.go md ops fuel t listed []) a w:=by
 intro fuel
 induction fuel with
 | zero=>intro t listed a w h;simpa[Region.linearise.go,goOps] using h.2
 | succ fuel ih =>
   intro t listed a w h
   obtain ⟨h₀,h₁⟩:=h
   simp only[Region.linearise.go]
   change goOps P ops Q (match (Region.ready md ops listed)[t % (Region.ready md ops listed).length]? with
    | some i=>Region.linearise.go md ops fuel (t / (Region.ready md ops listed).length) (listed.setIfInBounds i true) [i]
    | none=>[].reverse) a w
   cases hi:(Region.ready md ops listed)[t % (Region.ready md ops listed).length]? with
   | none =>
     have hnil:Region.ready md ops listed=[]:=by
      cases hr:Region.ready md ops listed with
      | nil=>rfl
      | cons x xs =>
        rw[hr] at hi
        have hlt:t % (x::xs).length<(x::xs).length:=Nat.mod_lt _ (by simp)
        simp at hi
        simp at hlt
        omega
     simpa[goOps] using h₀ hnil
   | some i =>
     simp only[]
     rw[linearise_go_acc,List.reverse_singleton,List.singleton_append]
     simp only[goOps]
     exact Step1.mono (fun a w=>ih _ _ a w) (h₁ i (List.mem_of_getElem? hi))
theorem goOps_steps {Q:Act→World→Prop}:∀ (l:List Nat) (a:Act) (w:World),goOps P ops Q l a w→∀ (b:Frame) (k:List Item) (cs:List Frame),
  ∃ a' w',Q a' w'∧Steps P (lone (b.atR a (.inRegion ops l::k)) cs w) (lone (b.atR a' k) cs w')
 | [],a,w,h,b,k,cs=>⟨a,w,h,.one stepR_region_end⟩
 | i::r,a,w,h,b,k,cs=>by
   obtain ⟨a1,w1,h1,h2⟩:=h b r k cs
   obtain ⟨a2,w2,h3,h4⟩:=goOps_steps r a1 w1 h1 b k cs
   exact ⟨a2,w2,h3,Steps.trans h2 h4⟩
theorem region_go {id:Nat} {Q:Act→World→Prop} (h:goOps P ops Q (List.range ops.size) a w) (b:Frame) (k:List Item) (cs:List Frame) :
  ∃ a' w',Q a' w'∧Steps P (lone (b.atR a (.code (.region id ops false)::k)) cs w) (lone (b.atR a' k) cs w'):=by
 obtain ⟨a',w',h1,h2⟩:=goOps_steps _ a w h b k cs
 exact ⟨a',w',h1,.head stepR_region h2⟩
theorem region_go_any {id:Nat} {Q:Act→World→Prop} (hm:P.follows .mixedOrders=true) (h:goAny P .any ops Q ops.size (Array.replicate ops.size false) a { w with drawn:=w.drawn+1 })
  (b:Frame) (k:List Item) (cs:List Frame) :
  ∃ a' w',Q a' w'∧Steps P (lone (b.atR a (.code (.region id ops true)::k)) cs w) (lone (b.atR a' k) cs w'):=by
 have h1:=goAny_sound (Q:=Q) ops.size (w.tape w.drawn (.order b.fn id)) _ a _ h
 obtain ⟨a',w',h2,h3⟩:=goOps_steps _ a _ h1 b k cs
 refine ⟨a',w',h2,.head stepR_region_draw ?_⟩
 simp only[Region.schedule,hm,Bool.true_or,if_true]
 exact h3
end
end Go.Ev

/- Callbacks: what a call of one asks and gives; the caller's state behind it. -/
namespace Go.Ev
open Go Go.RowKit
def plainB (w:World) (b:Nat):Prop:=(∃ c t f,w.heap[b]?=some (.cells c t f))∨∃ es k,w.heap[b]?=some (.map es k)
theorem plain_of_cell {w:World} {b o:Nat} {u:Value} (h:w.cell? ⟨b,o,none⟩=some u):plainB w b:=by
 unfold World.cell? at h
 split at h
 ·rename_i c t f hb
  exact .inl ⟨c,t,f,hb⟩
 ·cases h
theorem plainB.lt {w:World} {b:Nat} (h:plainB w b):b<w.heap.size:=by
 rcases h with ⟨c,t,f,h⟩ | ⟨es,k,h⟩<;>exact (Array.getElem?_eq_some_iff.1 h).1
theorem RepI.plain {ok:Nat→Prop} {w:World} {x:IV} {v:Value} (h:RepI ok w x v):RepI (fun b=>ok b∧plainB w b) w x v:=by
 induction h with
 | any v=>exact .any v
 | bool b=>exact .bool b
 | int k n=>exact .int k n
 | str s=>exact .str s
 | nilp=>exact .nilp
 | nils sz=>exact .nils sz
 | nilz sz a=>exact .nilz sz a
 | sl sz es b off cap u hl hc hs hu _ ih =>
   refine .sl sz es b off cap u hl hc hs (fun k hk=>?_) (fun i j c x h1 h2=>ih i j c x h1 h2)
   obtain ⟨h1,h2,h3⟩:=hu k hk
   exact ⟨⟨h1,plain_of_cell h2⟩,h2,h3⟩
 | ptr cs b off u hu _ ih =>
   refine .ptr cs b off u (fun k hk=>?_) (fun k x h1=>ih k x h1)
   obtain ⟨h1,h2,h3⟩:=hu k hk
   exact ⟨⟨h1,plain_of_cell h2⟩,h2,h3⟩
 | agg cs vs hl h1 _ ih=>exact .agg cs vs hl h1 (fun k x u h1 h2=>ih k x u h1 h2)
 | tup cs vs hl _ ih=>exact .tup cs vs hl (fun k x u h1 h2=>ih k x u h1 h2)
 | fn f=>exact .fn f
 | lit v=>exact .lit v
 | mapn=>exact .mapn
 | map kvs r es clock hr0 hr hm hd _ ih=>exact .map kvs r es clock ⟨hr0,.inr ⟨es,clock,hr⟩⟩ hr hm hd (fun i e p h3 h4=>ih i e p h3 h4)
 | clo g fs cs us vs h1 h2 _ _ ih1 ih2=>exact .clo g fs cs us vs h1 h2 (fun k x u a b=>ih1 k x u a b) (fun k x u a b=>ih2 k x u a b)
structure CbPost (ok:Nat→Prop) (O:Nat→Prop) (w:World) (s':Ext) (y:IV) (O' D':Nat→Prop) (v:Value) (w':World):Prop where
 rep:RepI (fun b=>ok b∧¬ O' b) w' y v
 keep:Keep (fun b=>b<w.heap.size∧¬ O b) w w'
 J:s'.J O' D' w'
 new:∀ b,O' b→O b∨w.heap.size≤b
 sub:∀ b,O' b→D' b
 lt:∀ b,D' b→b<w'.heap.size
 okd:∀ b,D' b→O' b∨ok b
structure CbPre (K:World→Prop) (ok:Nat→Prop) (O D:Nat→Prop) (w:World) (s:Ext) (xs:List IV) (vs:List Value):Prop where
 hK:∀ w',Keep (fun b=>b<w.heap.size∧¬ O b) w w'→K w'
 J:s.J O D w
 sub:∀ b,O b→D b
 lt:∀ b,D b→b<w.heap.size
 okd:∀ b,D b→O b∨ok b
 new:∀ b,w.heap.size≤b→ok b
 own:∀ b,O b→ok b
 len:vs.length=xs.length
 args:∀ (k:Nat) (x:IV) (u:Value),xs[k]?=some x→vs[k]?=some u→RepI (fun b=>ok b∧¬ O b) w x u
def CbGives (P:Program) (K:World→Prop) (s:Ext) (xs:List IV) (y:IV) (s':Ext):Prop :=
 s'.v=s.v∧∀ (ok O D:Nat→Prop) (w:World) (vs:List Value),CbPre K ok O D w s xs vs →
  Ans P s.v vs w (fun v w'=>∃ O' D',CbPost ok O w s' y O' D' v w')
def GoodX (P:Program) (K:World→Prop) (g:FuncId) (pre post:List IV) (s:Ext) (y:IV) (s':Ext):Prop :=
 s'.v=s.v∧∀ (ok O D:Nat→Prop) (w:World) (us vs:List Value),CbPre K ok O D w s (pre++post) (us++vs)→us.length=pre.length →
  Calls P g (us++s.v::vs).toArray w (fun e w'=>∃ v,e=.returned v∧∃ O' D',CbPost ok O w s' y O' D' v w')
inductive Feeds (P:Program) (K:World→Prop):List (List IV)→Ext→Bool→Ext→Prop
 | nil (s:Ext):Feeds P K [] s true s
 | stop (x:List IV) (r:List (List IV)) (s s':Ext) (h:CbGives P K s x (.bool false) s'):Feeds P K (x::r) s false s'
 | next (x:List IV) (r:List (List IV)) (s s' s'':Ext) (b:Bool) (h:CbGives P K s x (.bool true) s') (hr:Feeds P K r s' b s''):Feeds P K (x::r) s b s''
def IterY (P:Program) (K:World→Prop) (g:FuncId) (pre post:List IV) (L:List (List IV)) (y:Bool→IV):Prop:=∀ s b s',Feeds P K L s b s'→GoodX P K g pre post s (y b) s'
def IterX (P:Program) (K:World→Prop) (g:FuncId) (pre post:List IV) (L:List (List IV)):Prop:=IterY P K g pre post L (fun _=>.tup [])
theorem Feeds.v {P:Program} {K:World→Prop} {L:List (List IV)} {s s':Ext} {b:Bool} (h:Feeds P K L s b s'):s'.v=s.v:=by
 induction h with
 | nil=>rfl
 | stop _ _ _ _ h=>exact h.1
 | next _ _ _ _ _ _ h _ ih=>exact ih.trans h.1
theorem Feeds.append {P:Program} {K:World→Prop} {l r:List (List IV)} {s s':Ext} {b:Bool} (h:Feeds P K (l++r) s b s'):(∃ s1,Feeds P K l s true s1∧Feeds P K r s1 b s')∨(b=false∧Feeds P K l s false s'):=by
 induction l generalizing s with
 | nil=>exact .inl ⟨s,.nil s,h⟩
 | cons x l ih =>
   cases h with
   | stop _ _ _ _ h=>exact .inr ⟨rfl,.stop _ _ _ _ h⟩
   | next _ _ _ s1 _ _ h hr =>
     rcases ih hr with ⟨s2,h1,h2⟩ | ⟨h1,h2⟩
     ·exact .inl ⟨s2,.next _ _ _ _ _ _ h h1,h2⟩
     ·exact .inr ⟨h1,.next _ _ _ _ _ _ h h2⟩
structure Base.le (w0 w1:Base):Prop where
 keep:Keep w0.fr w0.w w1.w
 fr:∀ b,w0.fr b→w1.fr b
 pin:w1.pin=w0.pin
theorem Base.le.refl (w0:Base):w0.le w0:=⟨Keep.refl _ _,fun _ h=>h,rfl⟩
theorem Base.le.trans {w0 w1 w2:Base} (h:w0.le w1) (k:w1.le w2):w0.le w2 :=
 ⟨h.keep.trans (k.keep.mono h.fr),fun b hb=>k.fr b (h.fr b hb),k.pin.trans h.pin⟩
theorem Base.le.keeps {w0 w1:Base} {w:World} (h:w0.le w1) (hk:Keep w1.fr w1.w w):Keep w0.fr w0.w w:=h.keep.trans (hk.mono h.fr)
theorem ObjRep.frame {B B':Nat→Prop} {ok:Nat→Prop} {w:World} {lo:Nat→Option AO} {L:Nat→Lay} {o:AO} {l:Lay} (h:ObjRep B ok w lo L o l) (hn:∀ b,l.has b→¬ B' b) (hs:∀ b,B b→B' b):ObjRep B' ok w lo L o l:=by
 cases o with
 | box cs =>
   cases l with
   | box b=>exact ⟨hn b rfl,h.2⟩
   | _=>exact h.elim
 | arr e sz es mv =>
   cases l with
   | arr v xs=>exact ⟨⟨h.1.own,fun b hb=>hn b hb⟩,h.2⟩
   | _=>exact h.elim
 | mapd kvs =>
   cases l with
   | one b=>exact ⟨hn b rfl,h.2⟩
   | _=>exact h.elim
 | mapr e sz kvs pend =>
   cases l with
   | map b vals =>
     obtain ⟨hB,hc,hd,hk,hr,ha⟩:=h
     refine ⟨hn b (.inl rfl),hc,hd,hk,fun i p q hp hq=>?_,ha⟩
     obtain ⟨xs,h1,h2⟩:=hr i p q hp hq
     exact ⟨xs,⟨h1.own,fun b hb=>hn b (.inr ⟨q,List.mem_of_getElem? hq,hb⟩)⟩,h2⟩
   | _=>exact h.elim
 | siter s pos =>
   cases l with
   | one b=>exact ⟨hn b rfl,h.2⟩
   | _=>exact h.elim
 | miter kvs seen =>
   cases l with
   | one b=>exact ⟨hn b rfl,h.2⟩
   | _=>exact h.elim
 | bytes s =>
   cases l with
   | one b=>exact ⟨hn b rfl,h.2⟩
   | _=>exact h.elim
 | ext s =>
   cases l with
   | ext O D=>exact ⟨fun b hb=>⟨hn b hb,(h.1 b hb).2⟩,fun b hb=>(h.2.1 b hb).imp (fun h=>h) (fun ⟨h1,h2⟩=>⟨hs b h1,h2⟩),h.2.2⟩
   | _=>exact h.elim
section
variable {P:Program} {K:World→Prop} {ok0:Nat→Prop} {N:Fm} {w0:Base} {lk:Nat→AV} {lo:Nat→Option AO} {a:Act} {w:World} {L:Nat→Lay}
theorem refs_ext {id:Nat} {s:Ext} {x:AV} {u:Value} {ok:Nat→Prop} (hid:lo id=some (.ext s)) (hx:AV.refs id x=true) (hr:RepA ok w lo L x u):x=.cb id∧u=s.v:=by
 cases hr with
 | iv _ _ r=>simp[AV.refs] at hx
 | agg=>simp[AV.refs] at hx
 | clo=>simp[AV.refs] at hx
 | tup=>simp[AV.refs] at hx
 | nilr=>simp[AV.refs] at hx
 | cb i s2 O2 D2 ho' hL' =>
   have:i=id:=by simpa[AV.refs] using hx
   subst this
   rw[hid] at ho'
   injection ho' with ho'
   injection ho' with ho'
   subst ho'
   exact ⟨rfl,rfl⟩
 | loc i off cs b2 ho' hL' =>
   have:i=id:=by simpa[AV.refs] using hx
   subst this
   rw[hid] at ho';cases ho'
 | aref i e sz es mv v xs ho' hL' =>
   have:i=id:=by simpa[AV.refs] using hx
   subst this
   rw[hid] at ho';cases ho'
 | old i n2 e sz es mv v v' xs ho' hL' =>
   have:i=id:=by simpa[AV.refs] using hx
   subst this
   rw[hid] at ho';cases ho'
 | eloc i n2 k off e sz es mv v xs b2 ho' hL' =>
   have:i=id:=by simpa[AV.refs] using hx
   subst this
   rw[hid] at ho';cases ho'
 | mref i k n2 e sz kvs2 pend b2 vals v ho' hL' =>
   have:i=id:=by simpa[AV.refs] using hx
   subst this
   rw[hid] at ho';cases ho'
 | oref i b2 ob ho' hn hL' =>
   have:i=id:=by simpa[AV.refs] using hx
   subst this
   rw[hid] at ho'
   injection ho' with ho'
   subst ho'
   simp[AO.isIter] at hn
 | omap i b2 kvs2 ho' hL' =>
   have:i=id:=by simpa[AV.refs] using hx
   subst this
   rw[hid] at ho';cases ho'
 | orow i b2 e sz kvs2 pend vals ho' hL' =>
   have:i=id:=by simpa[AV.refs] using hx
   subst this
   rw[hid] at ho';cases ho'
 | obytes i b2 cap s2 ho' hL' =>
   have:i=id:=by simpa[AV.refs] using hx
   subst this
   rw[hid] at ho';cases ho'
 | belem i k b2 s2 ho' hL' =>
   have:i=id:=by simpa[AV.refs] using hx
   subst this
   rw[hid] at ho';cases ho'
def okC (ok:Nat→Prop) (D:Nat→Prop) (w:World) (b:Nat):Prop:=D b∨(ok b∧plainB w b)∨w.heap.size≤b
theorem cb_turn {id:Nat} {s s':Ext} {O D O' D':Nat→Prop} {y:IV} {v:Value} {w':World} (hok0:∀ b,¬ w0.fr b→ok0 b) (h:Rel ok0 N w0 lk lo a w L) (hid:lo id=some (.ext s)) (hL:L id=.ext O D)
  (hv:s'.v=s.v) (hp:CbPost (okC (okL ok0 lo L) D w) O w s' y O' D' v w') :
  ∃ w1,w0.le w1∧Rel ok0 N w1 lk (setO lo id (.ext s')) a w' (setL L id (.ext O' D')):=by
 have hob:=h.objs id _ hid
 rw[hL] at hob
 obtain ⟨hO,hD,hJ⟩:=hob
 have hLO:∀ b,(L id).has b↔O b:=fun b=>by rw[hL];exact Iff.rfl
 -- the new base
 have hfrO:∀ b,w0.fr b→b<w.heap.size∧¬ O b:=fun b hb=>⟨h.frl b hb,fun ho=>(hO b ho).1 hb⟩
 have hkw:Keep w0.fr w w':=hp.keep.mono hfrO
 have hk0:Keep w0.fr w0.w w':=h.below.trans hkw
 let w1:Base:={ w:=w',fr:=fun b=>w0.fr b∨(D' b∧¬ O' b),lt:=fun b hb=>hb.elim (fun hb=>Nat.lt_of_lt_of_le (h.frl b hb) hp.keep.size) (fun hb=>hp.lt b hb.1),pin:=w0.pin }
 have hle:w0.le w1:=⟨hk0,fun b hb=>.inl hb,rfl⟩
 have hlo:∀ i,i≠id→setO lo id (.ext s') i=lo i∧setL L id (.ext O' D') i=L i:=fun i hi=>by simp[setO,setL,hi]
 have hsame:∀ b,b<w.heap.size→¬ O b→w'.heap[b]?=w.heap[b]?:=fun b h1 h2=>hp.keep.block b ⟨h1,h2⟩
 -- which other object a block of the callback's may lie in: none
 have hoth:∀ b,D' b→¬ O' b→∀ i oi,i≠id→lo i=some oi→¬ (L i).has b:=by
  intro b hb hnb i oi hi hoi hbad
  rcases hp.okd b hb with h1 | h1 | ⟨h1,_⟩ | h1
  ·exact hnb h1
  ·rcases hD b h1 with h2 | ⟨h2,h3⟩
   ·exact h.apart i id oi _ b hi hoi hid hbad ((hLO b).2 h2)
   ·exact h3.2 i oi hoi hbad
  ·exact h1.2 i oi hoi hbad
  ·have:=((h.objs i oi hoi).lt hbad).2
   omega
 have hok:∀ b,okL ok0 lo L b→b<w.heap.size→okL ok0 (setO lo id (.ext s')) (setL L id (.ext O' D')) b:=by
  intro b hb hlt
  refine ⟨hb.1,fun i oi hi he=>?_⟩
  by_cases hii:i=id
  ·subst hii
   simp only[setL,if_true,Lay.has] at he
   rcases hp.new b he with h1 | h1
   ·exact hb.2 _ _ hid ((hLO b).2 h1)
   ·omega
  ·simp only[setO,hii,if_false] at hi
   simp only[setL,hii,if_false] at he
   exact hb.2 i oi hi he
 have all:∀ x v,RepA (okL ok0 lo L) w lo L x v→RepA (okL ok0 (setO lo id (.ext s')) (setL L id (.ext O' D'))) w' (setO lo id (.ext s')) (setL L id (.ext O' D')) x v:=by
  intro x v hx
  refine hx.turn ⟨_,hid⟩ hlo h.apart (fun b h1 h2=>hsame b h1 (fun ho=>h2 ((hLO b).2 ho))) hok (fun x v hr hx=>?_)
  obtain ⟨rfl,rfl⟩:=refs_ext hid hr hx
  rw[← hv]
  exact .cb id s' O' D' (by simp[setO]) (by simp[setL])
 refine ⟨w1,hle,Keep.refl _ _,?_,h.size,fun t=>all _ _ (h.env t),fun i oi hi=>?_,fun i j oi oj b hij hi hj h1 h2=>?_,h.pin⟩
 ·obtain ⟨rs,e1,e2,e3⟩:=h.defers
  refine ⟨rs,e1,e2,fun r hr=>?_⟩
  obtain ⟨g1,g2,g3⟩:=e3 r hr
  have hlt:=(Array.getElem?_eq_some_iff.1 g1).1
  have hnO:¬ O r:=fun ho=>g3 id _ hid ((hLO r).2 ho)
  refine ⟨(hsame r hlt hnO).trans g1,?_,fun i oi hi he=>?_⟩
  ·rintro (hf | ⟨hf,hnf⟩)
   ·exact g2 hf
   ·rcases hp.okd r hf with h1 | h1 | ⟨_,h1⟩ | h1
    ·exact hnf h1
    ·rcases hD r h1 with h2 | ⟨h2,_⟩
     ·exact hnO h2
     ·exact g2 h2
    ·rcases h1 with ⟨c,t,f,h1⟩ | ⟨es,k,h1⟩<;>rw[g1] at h1<;>cases h1
    ·omega
  ·by_cases hii:i=id
   ·subst hii
    simp only[setL,if_true,Lay.has] at he
    rcases hp.new r he with h1 | h1
    ·exact hnO h1
    ·omega
   ·simp only[setO,hii,if_false] at hi
    simp only[setL,hii,if_false] at he
    exact g3 i oi hi he
 ·by_cases hii:i=id
  ·subst hii
   simp only[setO,if_true,Option.some.injEq] at hi
   subst hi
   simp only[setL,if_true]
   refine ⟨fun b hb=>⟨?_,hp.lt b (hp.sub b hb),hp.sub b hb⟩,fun b hb=>?_,hp.J⟩
   ·rintro (hf | ⟨_,hf⟩)
    ·rcases hp.new b hb with h1 | h1
     ·exact (hO b h1).1 hf
     ·exact h.frlt h1 hf
    ·exact hf hb
   ·by_cases hbo:O' b
    ·exact .inl hbo
    ·refine .inr ⟨.inr ⟨hb,hbo⟩,?_,fun j oj hj he=>?_⟩
     ·rcases hp.okd b hb with h1 | h1 | ⟨h1,_⟩ | h1
      ·exact absurd h1 hbo
      ·rcases hD b h1 with h2 | ⟨_,h2⟩
       ·exact hok0 b (hO b h2).1
       ·exact h2.1
      ·exact h1.1
      ·exact hok0 b (h.frlt h1)
     ·by_cases hjj:j=i
      ·subst hjj
       simp only[setL,if_true,Lay.has] at he
       exact hbo he
      ·simp only[setO,hjj,if_false] at hj
       simp only[setL,hjj,if_false] at he
       exact hoth b hb hbo j oj hjj hj he
  ·simp only[setO,hii,if_false] at hi
   simp only[setL,hii,if_false]
   have hne:∀ b,(L i).has b→¬ O b:=fun b hb ho=>h.apart i id oi _ b hii hi hid hb ((hLO b).2 ho)
   refine ((h.objs i oi hi).stay hkw h.frl (fun b hb hlt=>hsame b hlt (hne b hb)) (fun b hb hlt=>⟨hok b hb hlt,hsame b hlt (fun ho=>hb.2 id _ hid ((hLO b).2 ho))⟩) (fun _=>all)).frame (fun b hb=>?_) (fun b hb=>.inl hb)
   rintro (hf | ⟨hf,hnf⟩)
   ·exact ((h.objs i oi hi).lt hb).1 hf
   ·exact hoth b hf hnf i oi hii hi hb
 ·by_cases hii:i=id
  ·have hjj:j≠id:=fun e=>hij (hii.trans e.symm)
   simp only[setL,hii,if_true,Lay.has] at h1
   simp only[setO,hjj,if_false] at hj
   simp only[setL,hjj,if_false] at h2
   rcases hp.new b h1 with h3 | h3
   ·exact h.apart id j _ oj b (fun e=>hjj e.symm) hid hj ((hLO b).2 h3) h2
   ·have:=((h.objs j oj hj).lt h2).2;omega
  ·simp only[setO,hii,if_false] at hi
   simp only[setL,hii,if_false] at h1
   by_cases hjj:j=id
   ·simp only[setL,hjj,if_true,Lay.has] at h2
    rcases hp.new b h2 with h3 | h3
    ·exact h.apart i id oi _ b hii hi hid h1 ((hLO b).2 h3)
    ·have:=((h.objs i oi hi).lt h1).2;omega
   ·simp only[setO,hjj,if_false] at hj
    simp only[setL,hjj,if_false] at h2
    exact h.apart i j oi oj b hij hi hj h1 h2
end
end Go.Ev

/- The state of a run, read in another world, over another base, with other allowed blocks. -/
namespace Go.Ev
open Go Go.RowKit
theorem RepI.move {ok ok':Nat→Prop} {w w':World} {x:IV} {v:Value} (h:RepI ok w x v) (hok:∀ b,ok b→plainB w b→ok' b∧w'.heap[b]?=w.heap[b]?):RepI ok' w' x v :=
 h.plain.mono fun b hb _=>hok b hb.1 hb.2
theorem RepA.move {ok ok':Nat→Prop} {w w':World} {lo:Nat→Option AO} {L:Nat→Lay} {x:AV} {v:Value} (h:RepA ok w lo L x v)
  (hok:∀ b,ok b→plainB w b→ok' b∧w'.heap[b]?=w.heap[b]?) (hown:∀ id o b,lo id=some o→(L id).has b→w'.heap[b]?=w.heap[b]?):RepA ok' w' lo L x v:=by
 have cells:∀ (id b n sz:Nat) (v:Value) (xs:List Value) (o:AO),lo id=some o→L id=.arr v xs→(∀ k,k<n*sz→(ok b∨v.ownBlock=some b)∧∃ u,w.cell? ⟨b,k,none⟩=some u∧xs[k]?=some u) →
   (∀ k,k<n*sz→(ok' b∨v.ownBlock=some b)∧∃ u,w'.cell? ⟨b,k,none⟩=some u∧xs[k]?=some u):=by
  intro id b n sz v xs o ho hL h k hk
  obtain ⟨h1,u,h2,h3⟩:=h k hk
  rcases h1 with h1 | h1
  ·obtain ⟨h4,h5⟩:=hok b h1 (plain_of_cell h2)
   exact ⟨.inl h4,u,(World.cell?_of_block (a:=⟨b,k,none⟩) h5).trans h2,h3⟩
  ·exact ⟨.inr h1,u,(World.cell?_of_block (a:=⟨b,k,none⟩) (hown id o b ho (by rw[hL];exact h1))).trans h2,h3⟩
 induction h with
 | iv x v h=>exact .iv x v (h.move hok)
 | agg cs vs hl h1 _ ih=>exact .agg cs vs hl h1 ih
 | loc id off cs b ho hL=>exact .loc id off cs b ho hL
 | aref id e sz es mv v xs ho hL h1=>exact .aref id e sz es mv v xs ho hL h1
 | old id n e sz es mv v v' xs ho hL h1 hn hv =>
   refine .old id n e sz es mv v v' xs ho hL h1 hn fun hm=>?_
   rcases hv hm with h | ⟨b,cap,h1,h2,h3,h4⟩
   ·exact .inl h
   ·exact .inr ⟨b,cap,h1,h2,h3,cells id b n sz v xs _ ho hL h4⟩
 | eloc id n i off e sz es mv v xs b ho hL hn hv =>
   refine .eloc id n i off e sz es mv v xs b ho hL hn fun hm=>?_
   obtain ⟨h0,h2,h3⟩:=hv hm
   exact ⟨h0,h2,cells id b n sz v xs _ ho hL h3⟩
 | nilr sz=>exact .nilr sz
 | mref id k n e sz kvs pend b vals v ho hL h1 hn hv=>exact .mref id k n e sz kvs pend b vals v ho hL h1 hn hv
 | oref id b o ho hn hL=>exact .oref id b o ho hn hL
 | omap id b kvs ho hL=>exact .omap id b kvs ho hL
 | orow id b e sz kvs pend vals ho hL=>exact .orow id b e sz kvs pend vals ho hL
 | obytes id b cap s ho hL=>exact .obytes id b cap s ho hL
 | belem id i b s ho hL hi=>exact .belem id i b s ho hL hi
 | clo g fs cs us vs h1 h2 _ _ ih1 ih2=>exact .clo g fs cs us vs h1 h2 ih1 ih2
 | tup cs vs hl _ ih=>exact .tup cs vs hl ih
 | cb id s O D ho hL=>exact .cb id s O D ho hL
structure Beside (w w':World):Prop where
 os:w'.os=w.os
 tape:w'.tape=w.tape
 output:w'.output=w.output
 size:w.heap.size≤w'.heap.size
theorem ObjRep.move {B B':Nat→Prop} {ok ok':Nat→Prop} {w w':World} {lo:Nat→Option AO} {L:Nat→Lay} {o:AO} {l:Lay} (h:ObjRep B ok w lo L o l) (hw:Beside w w')
  (hok:∀ b,ok b→plainB w b→ok' b∧w'.heap[b]?=w.heap[b]?) (hl:∀ b,l.has b→¬ B' b∧w'.heap[b]?=w.heap[b]?)
  (hfr:∀ b,B b→ok b→B' b∧ok' b∧w'.heap[b]?=w.heap[b]?)
  (all:∀ x v,RepA ok w lo L x v→RepA ok' w' lo L x v):ObjRep B' ok' w' lo L o l:=by
 have row:∀ {e:TypeId} {sz n:Nat} {v:Value} {xs:List Value},ownsF B w e sz v n xs→(∀ b,v.ownBlock=some b→l.has b)→ownsF B' w' e sz v n xs:=fun h1 h2 =>
  ⟨(ownsF.stay (Fr:=B) h1 fun b hb=>(hl b (h2 b hb)).2).own,fun b hb=>(hl b (h2 b hb)).1⟩
 cases o with
 | box cs =>
   cases l with
   | box b =>
     obtain ⟨hB,t,vs,hb,hl',h1,hx⟩:=h
     exact ⟨(hl b rfl).1,t,vs,(hl b rfl).2.trans hb,hl',h1,fun k x u h2 h3=>all _ _ (hx k x u h2 h3)⟩
   | _=>exact h.elim
 | arr e sz es mv =>
   cases l with
   | arr v xs =>
     obtain ⟨ho,hm,hz,h1,hx⟩:=h
     exact ⟨row ho fun b hb=>hb,hm,hz,h1,fun i j c x u h2 h3 h4=>all _ _ (hx i j c x u h2 h3 h4)⟩
   | _=>exact h.elim
 | mapd kvs =>
   cases l with
   | one b =>
     obtain ⟨hB,es,clock,hb,hm,hd,hx⟩:=h
     exact ⟨(hl b rfl).1,es,clock,(hl b rfl).2.trans hb,hm,hd,fun i e p h1 h2=>(hx i e p h1 h2).move hok⟩
   | _=>exact h.elim
 | mapr e sz kvs pend =>
   cases l with
   | map b vals =>
     obtain ⟨hB,⟨es,clock,hb,hm⟩,hd,hk,hr,ha⟩:=h
     refine ⟨(hl b (.inl rfl)).1,⟨es,clock,(hl b (.inl rfl)).2.trans hb,hm⟩,hd,hk,fun i p q hp hq=>?_,ha⟩
     obtain ⟨xs,h1,h2,h3,h4,h5⟩:=hr i p q hp hq
     exact ⟨xs,row h1 fun b' hb'=>.inr ⟨q,List.mem_of_getElem? hq,hb'⟩,h2,h3,h4,fun i j c x u a1 a2 a3=>(h5 i j c x u a1 a2 a3).move hok⟩
   | _=>exact h.elim
 | siter s pos =>
   cases l with
   | one b=>exact ⟨(hl b rfl).1,(hl b rfl).2.trans h.2⟩
   | _=>exact h.elim
 | miter kvs seen =>
   cases l with
   | one b =>
     obtain ⟨hB,r,since,sn,hb,hi⟩:=h
     refine ⟨(hl b rfl).1,r,since,sn,(hl b rfl).2.trans hb,?_⟩
     cases r with
     | none=>exact hi
     | some r =>
       obtain ⟨es,h1,h2,h3,h4,h5,h6⟩:=hi
       obtain ⟨h7,h8⟩:=hok r h1 (.inr ⟨_,_,h2⟩)
       exact ⟨es,h7,h8.trans h2,h3,fun i e p a b=>(h4 i e p a b).move hok,h5,h6⟩
   | _=>exact h.elim
 | bytes s =>
   cases l with
   | one b =>
     obtain ⟨hB,cur,t,hb,hi⟩:=h
     exact ⟨(hl b rfl).1,cur,t,(hl b rfl).2.trans hb,hi⟩
   | _=>exact h.elim
 | ext s =>
   cases l with
   | ext O D =>
     obtain ⟨h1,h2,h3⟩:=h
     refine ⟨fun b hb=>⟨(hl b hb).1,Nat.lt_of_lt_of_le (h1 b hb).2.1 hw.size,(h1 b hb).2.2⟩,fun b hb=>?_,s.stay O D w w' h3 ⟨hw.os,hw.tape,hw.output,hw.size,fun b hb=>?_⟩⟩
     ·rcases h2 b hb with h | ⟨h,h'⟩
      ·exact .inl h
      ·exact .inr ⟨(hfr b h h').1,(hfr b h h').2.1⟩
     ·rcases h2 b hb with h | ⟨h,h'⟩
      ·exact (hl b h).2
      ·exact (hfr b h h').2.2
   | _=>exact h.elim
section
variable {ok0:Nat→Prop} {N:Fm} {w0:Base} {lk:Nat→AV} {lo:Nat→Option AO} {a:Act} {w:World} {L:Nat→Lay}
theorem Rel.move {ok1:Nat→Prop} {N1:Fm} {w1:Base} {lk1:Nat→AV} {a1:Act} {w':World} (h:Rel ok0 N w0 lk lo a w L) (hw:Beside w w') (hk:Keep w1.fr w1.w w')
  (hd:Marks w1.fr lo L w' a1.defers) (hs:a1.tmps.size=N1.n) (ht:∀ t,RepA (okL ok0 lo L) w lo L (lk1 t) (a1.tmps.getD t undef)) (hp:∀ t,N1.pins.contains t=true→a1.tmps.getD t undef=w1.pin t)
  (hok:∀ b,okL ok0 lo L b→plainB w b→ok1 b∧w'.heap[b]?=w.heap[b]?) (hown:∀ id o b,lo id=some o→(L id).has b→¬ w1.fr b∧w'.heap[b]?=w.heap[b]?)
  (hfr:∀ b,w0.fr b→okL ok0 lo L b→w1.fr b∧ok1 b∧w'.heap[b]?=w.heap[b]?):Rel ok1 N1 w1 lk1 lo a1 w' L:=by
 have hok':∀ b,okL ok0 lo L b→plainB w b→okL ok1 lo L b∧w'.heap[b]?=w.heap[b]?:=fun b h1 h2=>⟨⟨(hok b h1 h2).1,h1.2⟩,(hok b h1 h2).2⟩
 have all:∀ x v,RepA (okL ok0 lo L) w lo L x v→RepA (okL ok1 lo L) w' lo L x v:=fun x v hx=>hx.move hok' (fun id o b h1 h2=>(hown id o b h1 h2).2)
 exact ⟨hk,hd,hs,fun t=>all _ _ (ht t),fun id o ho=>(h.objs id o ho).move hw hok' (fun b hb=>hown id o b ho hb) (fun b h1 h2=>⟨(hfr b h1 h2).1,⟨(hfr b h1 h2).2.1,h2.2⟩,(hfr b h1 h2).2.2⟩) all,h.apart,hp⟩
end
end Go.Ev

/- Values without what leads to objects that are given up; objects numbered anew; calls that are handed objects of the caller's own. -/
namespace Go.Ev
open Go Go.RowKit
mutual
def scr (ids:List Nat):AV→AV
 | .iv x=>.iv x
 | .agg cs=>.agg (scrL ids cs)
 | .loc id off=>if ids.contains id then .loc id off else .iv .any
 | .eloc id n i off=>if ids.contains id then .eloc id n i off else .iv .any
 | .mref id k n=>if ids.contains id then .mref id k n else .iv .any
 | .nilr sz=>.nilr sz
 | .oref id=>if ids.contains id then .oref id else .iv .any
 | .belem id i=>if ids.contains id then .belem id i else .iv .any
 | .clo g fs cs=>.clo g (scrL ids fs) (scrL ids cs)
 | .tup cs=>.tup (scrL ids cs)
 | .cb id=>if ids.contains id then .cb id else .iv .any
 | .aref id n=>if ids.contains id then .aref id n else .iv .any
def scrL (ids:List Nat):List AV→List AV
 | []=>[]
 | x::r=>scr ids x::scrL ids r
end
def scrO (ids:List Nat):AO→AO
 | .box cs=>.box (scrL ids cs)
 | .arr e sz es mv=>.arr e sz (es.map (scrL ids)) mv
 | .mapd kvs=>.mapd kvs
 | .mapr e sz kvs pend=>.mapr e sz kvs pend
 | .siter s pos=>.siter s pos
 | .miter kvs seen=>.miter kvs seen
 | .bytes s=>.bytes s
 | .ext s=>.ext s
mutual
def rn (m:Nat→Nat):AV→AV
 | .iv x=>.iv x
 | .agg cs=>.agg (rnL m cs)
 | .loc id off=>.loc (m id) off
 | .eloc id n i off=>.eloc (m id) n i off
 | .aref id n=>.aref (m id) n
 | .mref id k n=>.mref (m id) k n
 | .nilr sz=>.nilr sz
 | .oref id=>.oref (m id)
 | .belem id i=>.belem (m id) i
 | .clo g fs cs=>.clo g (rnL m fs) (rnL m cs)
 | .tup cs=>.tup (rnL m cs)
 | .cb id=>.cb (m id)
def rnL (m:Nat→Nat):List AV→List AV
 | []=>[]
 | x::r=>rn m x::rnL m r
end
def rnO (m:Nat→Nat):AO→AO
 | .box cs=>.box (rnL m cs)
 | .arr e sz es mv=>.arr e sz (es.map (rnL m)) mv
 | o=>o
theorem rnL_map (m:Nat→Nat):∀ cs:List AV,rnL m cs=cs.map (rn m)
 | []=>rfl
 | x::r=>by simp[rnL,rnL_map m r]
theorem rnL_len (m:Nat→Nat) (cs:List AV):(rnL m cs).length=cs.length:=by simp[rnL_map]
theorem rnL_get (m:Nat→Nat) (cs:List AV) (k:Nat):(rnL m cs)[k]?=(cs[k]?).map (rn m):=by simp[rnL_map]
theorem rn_rep {ok ok':Nat→Prop} {w:World} {lo lo':Nat→Option AO} {L L':Nat→Lay} {m:Nat→Nat} (hok:∀ b,ok b→ok' b) (hlo:∀ id o,lo id=some o→lo' (m id)=some (rnO m o)∧L' (m id)=L id) {x:AV} {v:Value}
  (h:RepA ok w lo L x v):RepA ok' w lo' L' (rn m x) v:=by
 have cells:∀ {n sz b:Nat} {v:Value} {xs:List Value},(∀ k,k<n*sz→(ok b∨v.ownBlock=some b)∧∃ u,w.cell? ⟨b,k,none⟩=some u∧xs[k]?=some u)→(∀ k,k<n*sz→(ok' b∨v.ownBlock=some b)∧∃ u,w.cell? ⟨b,k,none⟩=some u∧xs[k]?=some u) :=
  fun h k hk=>⟨(h k hk).1.imp (hok _) (fun h=>h),(h k hk).2⟩
 induction h with
 | iv x v h=>exact .iv x v (h.mono fun b hb _=>⟨hok b hb,rfl⟩)
 | agg cs vs hl h1 _ ih =>
   simp only[rn]
   refine .agg _ vs (by rw[rnL_len];exact hl) h1 fun k x u hx hu=>?_
   rw[rnL_get,Option.map_eq_some_iff] at hx
   obtain ⟨y,hy,rfl⟩:=hx
   exact ih k y u hy hu
 | loc id off cs b ho hL=>exact .loc _ off (rnL m cs) b (hlo id _ ho).1 ((hlo id _ ho).2.trans hL)
 | aref id e sz es mv v xs ho hL h1 =>
   have:=RepA.aref (ok:=ok') (w:=w) (lo:=lo') (L:=L') (m id) e sz (es.map (rnL m)) mv v xs (hlo id _ ho).1 ((hlo id _ ho).2.trans hL) h1
   rwa [List.length_map] at this
 | old id n e sz es mv v v' xs ho hL h1 hn hv =>
   refine .old (m id) n e sz (es.map (rnL m)) mv v v' xs (hlo id _ ho).1 ((hlo id _ ho).2.trans hL) h1 (by rw[List.length_map];exact hn) fun hm=>?_
   rcases hv hm with h | ⟨b,cap,g1,g2,g3,g4⟩
   ·exact .inl h
   ·exact .inr ⟨b,cap,g1,g2,g3,cells g4⟩
 | eloc id n i off e sz es mv v xs b ho hL hn hv =>
   refine .eloc (m id) n i off e sz (es.map (rnL m)) mv v xs b (hlo id _ ho).1 ((hlo id _ ho).2.trans hL) (by rw[List.length_map];exact hn) fun hm=>?_
   obtain ⟨g1,g2,g3⟩:=hv hm
   exact ⟨g1,fun e=>g2 (by rw[List.length_map] at e;exact e),cells g3⟩
 | nilr sz=>exact .nilr sz
 | mref id k n e sz kvs pend b vals v ho hL h1 hn hv=>exact .mref (m id) k n e sz kvs pend b vals v (hlo id _ ho).1 ((hlo id _ ho).2.trans hL) h1 hn hv
 | oref id b o ho hn hL=>exact .oref (m id) b _ (hlo id _ ho).1 (by cases o<;>first | exact hn | cases hn) ((hlo id _ ho).2.trans hL)
 | omap id b kvs ho hL=>exact .omap (m id) b kvs (hlo id _ ho).1 ((hlo id _ ho).2.trans hL)
 | orow id b e sz kvs pend vals ho hL=>exact .orow (m id) b e sz kvs pend vals (hlo id _ ho).1 ((hlo id _ ho).2.trans hL)
 | obytes id b cap s ho hL=>exact .obytes (m id) b cap s (hlo id _ ho).1 ((hlo id _ ho).2.trans hL)
 | belem id i b s ho hL hi=>exact .belem (m id) i b s (hlo id _ ho).1 ((hlo id _ ho).2.trans hL) hi
 | clo g fs cs us vs h1 h2 _ _ ih1 ih2 =>
   simp only[rn]
   refine .clo g _ _ us vs (by rw[rnL_len];exact h1) (by rw[rnL_len];exact h2) (fun k x u hx hu=>?_) (fun k x u hx hu=>?_)
   ·rw[rnL_get,Option.map_eq_some_iff] at hx
    obtain ⟨y,hy,rfl⟩:=hx
    exact ih1 k y u hy hu
   ·rw[rnL_get,Option.map_eq_some_iff] at hx
    obtain ⟨y,hy,rfl⟩:=hx
    exact ih2 k y u hy hu
 | tup cs vs hl _ ih =>
   simp only[rn]
   refine .tup _ vs (by rw[rnL_len];exact hl) fun k x u hx hu=>?_
   rw[rnL_get,Option.map_eq_some_iff] at hx
   obtain ⟨y,hy,rfl⟩:=hx
   exact ih k y u hy hu
 | cb id s O D ho hL=>exact .cb (m id) s O D (hlo id _ ho).1 ((hlo id _ ho).2.trans hL)
theorem rnO_rep {B:Nat→Prop} {ok ok':Nat→Prop} {w:World} {lo lo':Nat→Option AO} {L L':Nat→Lay} {m:Nat→Nat} (hok:∀ b,ok b→ok' b) (hlo:∀ id o,lo id=some o→lo' (m id)=some (rnO m o)∧L' (m id)=L id) {o:AO} {l:Lay}
  (h:ObjRep B ok w lo L o l):ObjRep B ok' w lo' L' (rnO m o) l:=by
 have all:∀ {x v},RepA ok w lo L x v→RepA ok' w lo' L' (rn m x) v:=fun h=>rn_rep hok hlo h
 have mono:∀ {x v},RepI ok w x v→RepI ok' w x v:=fun h=>h.mono fun b hb _=>⟨hok b hb,rfl⟩
 cases o with
 | box cs =>
   cases l with
   | box b =>
     obtain ⟨hB,t,vs,hb,hl,h1,hx⟩:=h
     refine ⟨hB,t,vs,hb,by rw[rnL_len];exact hl,h1,fun k x u h2 h3=>?_⟩
     rw[rnL_get,Option.map_eq_some_iff] at h2
     obtain ⟨y,hy,rfl⟩:=h2
     exact all (hx k y u hy h3)
   | _=>exact h.elim
 | arr e sz es mv =>
   cases l with
   | arr v xs =>
     obtain ⟨ho,hm,hz,h1,hx⟩:=h
     refine ⟨by rw[List.length_map];exact ho,by rw[List.length_map];exact hm,fun c hc=>?_,h1,fun i j c x u h2 h3 h4=>?_⟩
     ·obtain ⟨d,hd,rfl⟩:=List.mem_map.1 hc
      rw[rnL_len];exact hz d hd
     ·rw[List.getElem?_map,Option.map_eq_some_iff] at h2
      obtain ⟨d,hd,rfl⟩:=h2
      rw[rnL_get,Option.map_eq_some_iff] at h3
      obtain ⟨y,hy,rfl⟩:=h3
      exact all (hx i j d y u hd hy h4)
   | _=>exact h.elim
 | mapd kvs =>
   cases l with
   | one b =>
     obtain ⟨hB,es,clock,hb,hm,hd,hx⟩:=h
     exact ⟨hB,es,clock,hb,hm,hd,fun i e p h1 h2=>mono (hx i e p h1 h2)⟩
   | _=>exact h.elim
 | mapr e sz kvs pend =>
   cases l with
   | map b vals =>
     obtain ⟨hB,hc,hd,hk,hr,ha⟩:=h
     refine ⟨hB,hc,hd,hk,fun i p q hp hq=>?_,ha⟩
     obtain ⟨xs,h1,h2,h3,h4,h5⟩:=hr i p q hp hq
     exact ⟨xs,h1,h2,h3,h4,fun i j c x u a1 a2 a3=>mono (h5 i j c x u a1 a2 a3)⟩
   | _=>exact h.elim
 | siter s pos =>
   cases l with
   | one b=>exact h
   | _=>exact h.elim
 | miter kvs seen =>
   cases l with
   | one b =>
     obtain ⟨hB,r,since,sn,hb,hi⟩:=h
     exact ⟨hB,r,since,sn,hb,hi.mono fun b hb _=>⟨hok b hb,rfl⟩⟩
   | _=>exact h.elim
 | bytes s =>
   cases l with
   | one b=>exact h
   | _=>exact h.elim
 | ext s =>
   cases l with
   | ext O D=>exact ⟨h.1,fun b hb=>(h.2.1 b hb).imp (fun h=>h) (fun ⟨h1,h2⟩=>⟨h1,hok b h2⟩),h.2.2⟩
   | _=>exact h.elim
end Go.Ev

/- Calls that are handed objects of the caller's own: what they leave, and the caller's state behind them. -/
namespace Go.Ev
open Go Go.RowKit
theorem scrL_map (ids:List Nat):∀ cs:List AV,scrL ids cs=cs.map (scr ids)
 | []=>rfl
 | x::r=>by simp[scrL,scrL_map ids r]
theorem scrL_get (ids:List Nat) (cs:List AV) (k:Nat):(scrL ids cs)[k]?=(cs[k]?).map (scr ids):=by simp[scrL_map]
theorem scrL_len' (ids:List Nat) (cs:List AV):(scrL ids cs).length=cs.length:=by simp[scrL_map]
def Owned (lo:Nat→Option AO) (L:Nat→Lay) (b:Nat):Prop:=∃ id ob,lo id=some ob∧(L id).has b
structure Laid (Fr ok:Nat→Prop) (w:World) (lo:Nat→Option AO) (L:Nat→Lay):Prop where
 objs:∀ id o,lo id=some o→ObjRep Fr (okL ok lo L) w lo L o (L id)
 apart:∀ i j oi oj b,i≠j→lo i=some oi→lo j=some oj→(L i).has b→¬ (L j).has b
def FrO (w:World) (lo:Nat→Option AO) (L:Nat→Lay) (b:Nat):Prop:=b<w.heap.size∧¬ Owned lo L b
def StayO:AO→AO→Lay→Lay→Prop
 | .box _,.box _,.box b,.box b'=>b'=b
 | .arr e sz es _,.arr e' sz' es' mv',.arr v _,.arr v' _=>v'=v∧e'=e∧sz'=sz∧es'.length=es.length∧mv'=es'.length
 | .mapd _,.mapd _,.one b,.one b'=>b'=b
 | _,_,_,_=>False
def noExt:AO→Bool
 | .ext _=>false
 | _=>true
def GoodHf (P:Program) (K:World→Prop) (f:FuncId) (args:List AV) (lo:Nat→Option AO) (st:List Nat) (y:AV) (lo':Nat→Option AO):Prop :=
 ∀ (w:World) (ok:Nat→Prop) (L:Nat→Lay) (vs:List Value),(∀ w',Keep (FrO w lo L) w w'→K w')→(∀ b,w.heap.size≤b→ok b)→(∀ b,Owned lo L b→ok b) →
  Laid (FrO w lo L) ok w lo L→vs.length=args.length→(∀ (k:Nat) (x:AV) (u:Value),args[k]?=some x→vs[k]?=some u→RepA (okL ok lo L) w lo L x u) →
  Calls P f vs.toArray w (fun e w'=>∃ v L',e=.returned v∧Laid (FrO w lo L) ok w' lo' L'∧RepA (okL ok lo' L') w' lo' L' y v∧Keep (FrO w lo L) w w' ∧
   ∀ i∈st,∀ o,lo i=some o→∃ o',lo' i=some o'∧StayO o o' (L i) (L' i))
mutual
def clA (dom:List Nat):AV→Bool
 | .iv _=>true
 | .agg cs=>clAL dom cs
 | .loc id _=>dom.contains id
 | .eloc id _ _ _=>dom.contains id
 | .aref id _=>dom.contains id
 | .mref id _ _=>dom.contains id
 | .nilr _=>true
 | .oref id=>dom.contains id
 | .belem id _=>dom.contains id
 | .clo _ fs cs=>clAL dom fs&&clAL dom cs
 | .tup cs=>clAL dom cs
 | .cb id=>dom.contains id
def clAL (dom:List Nat):List AV→Bool
 | []=>true
 | x::r=>clA dom x&&clAL dom r
end
theorem clAL_get {dom:List Nat}:∀ {cs:List AV} {k:Nat} {x:AV},clAL dom cs=true→cs[k]?=some x→clA dom x=true
 | [],k,x,_,h=>by simp at h
 | y::r,k,x,h,hx=>by
   simp only[clAL,Bool.and_eq_true] at h
   cases k with
   | zero=>simp at hx;subst hx;exact h.1
   | succ k=>exact clAL_get h.2 (by simpa using hx)
def clO (dom:List Nat):AO→Bool
 | .box cs=>clAL dom cs
 | .arr _ _ es _=>es.all (clAL dom)
 | _=>true
def nth (ids:List Nat) (i:Nat):Nat:=ids.getD i 0
def idxO:List Nat→Nat→Option Nat
 | [],_=>none
 | x::r,i=>if i=x then some 0 else (idxO r i).map (·+1)
theorem idxO_some:∀ {ids:List Nat} {i j:Nat},idxO ids i=some j→j<ids.length∧nth ids j=i
 | [],i,j,h=>by simp[idxO] at h
 | x::r,i,j,h=>by
   simp only[idxO] at h
   split at h
   ·rename_i hx
    injection h with h
    subst h
    exact ⟨by simp,by simp[nth,hx]⟩
   ·rw[Option.map_eq_some_iff] at h
    obtain ⟨k,hk,rfl⟩:=h
    obtain ⟨h1,h2⟩:=idxO_some hk
    exact ⟨by simp;omega,by simpa[nth] using h2⟩
theorem idxO_nth:∀ {ids:List Nat} {j:Nat},ids.Nodup→j<ids.length→idxO ids (nth ids j)=some j
 | [],j,_,h=>by simp at h
 | x::r,j,hn,h=>by
   rw[List.nodup_cons] at hn
   cases j with
   | zero=>simp[nth,idxO]
   | succ j =>
     have hj:j<r.length:=by simpa using h
     have h1:=idxO_nth hn.2 hj
     have hne:nth r j≠x:=fun e=>hn.1 (by rw[← e];simp only[nth,List.getD_eq_getElem?_getD,List.getElem?_eq_getElem hj,Option.getD_some];exact List.getElem_mem hj)
     have e:nth (x::r) (j+1)=nth r j:=by simp[nth]
     rw[e]
     simp[idxO,hne,h1]
structure HG (P:Program) (K:World→Prop) (g:FuncId) (avs:List AV) (ids keep:List Nat) (lo:Nat→Option AO) (y':AV) (lo':Nat→Option AO) (args:List AV) (lo0:Nat→Option AO) (st:List Nat) (y:AV) (lo1:Nat→Option AO) (dom:List Nat):Prop where
 nd:ids.Nodup
 hargs:avs=args.map (rn (nth ids))
 cla:args.all (clA dom)=true
 dom0:∀ i,dom.contains i=true↔(lo0 i).isSome=true
 hlo:∀ i o,lo0 i=some o→i<ids.length∧lo (nth ids i)=some (rnO (nth ids) o)∧clO dom o=true∧noExt o=true
 hall:∀ i,i<ids.length→lo0 i=none→lo (nth ids i)=none
 hg:GoodHf P K g args lo0 st y lo1
 hlt:∀ i o,lo1 i=some o→i<ids.length∧noExt o=true
 hy:y'=rn (nth ids) y
 hlo':∀ i,lo' i=match idxO ids i with
  | some j=>(lo1 j).map (rnO (nth ids))
  | none=>if keep.contains i then (lo i).map (scrO keep) else none
 hkeep:∀ i,keep.contains i=true→∀ j,idxO ids i=some j→j∈st
section
variable {P:Program} {K:World→Prop} {ok0:Nat→Prop} {N:Fm} {w0:Base} {lk:Nat→AV} {lo:Nat→Option AO} {a:Act} {w:World} {L:Nat→Lay}
mutual
theorem rn_back {ok ok':Nat→Prop} {lo0:Nat→Option AO} {L0:Nat→Lay} {m:Nat→Nat} {dom:List Nat} (hok:∀ b,ok b→ok' b) (hd:∀ i,dom.contains i=true→(lo0 i).isSome=true) (hlo:∀ i o,lo0 i=some o→lo (m i)=some (rnO m o)∧L0 i=L (m i)) :
  ∀ {x:AV} {v:Value},clA dom x=true→RepA ok w lo L (rn m x) v→RepA ok' w lo0 L0 x v
 | .iv x,v,_,h=>by
   cases h with
   | iv _ _ r=>exact .iv _ _ (r.mono fun b hb _=>⟨hok b hb,rfl⟩)
 | .agg cs,v,hc,h=>by
   simp only[rn] at h
   cases h with
   | agg _ vs hl h1 hx =>
     simp only[clA] at hc
     exact .agg cs vs (by rw[hl,rnL_len]) h1 (rnL_back hok hd hlo hc (by rw[hl,rnL_len]) hx)
 | .loc id off,v,hc,h=>by
   simp only[clA] at hc
   obtain ⟨o,ho⟩:=Option.isSome_iff_exists.1 (hd id hc)
   obtain ⟨h1,h2⟩:=hlo id o ho
   simp only[rn] at h
   cases h with
   | loc _ _ cs b ho' hL =>
     rw[h1] at ho'
     injection ho' with ho'
     cases o<;>simp only[rnO,reduceCtorEq,AO.box.injEq] at ho'
     exact .loc id off _ b ho (h2.trans hL)
 | .aref id n,v,hc,h=>by
   simp only[clA] at hc
   obtain ⟨o,ho⟩:=Option.isSome_iff_exists.1 (hd id hc)
   obtain ⟨h1,h2⟩:=hlo id o ho
   simp only[rn] at h
   generalize hq:AV.aref (m id) n=q at h
   cases h with
   | iv=>cases hq
   | agg=>cases hq
   | loc=>cases hq
   | eloc=>cases hq
   | nilr=>cases hq
   | mref=>cases hq
   | oref=>cases hq
   | omap=>cases hq
   | orow=>cases hq
   | obytes=>cases hq
   | belem=>cases hq
   | clo=>cases hq
   | tup=>cases hq
   | cb=>cases hq
   | aref i2 e2 sz2 es2 mv2 v2 xs ho' hL hsl =>
     injection hq with hq1 hq2
     subst hq1 hq2
     rw[h1] at ho'
     injection ho' with ho'
     cases o<;>simp only[rnO,reduceCtorEq,AO.arr.injEq] at ho'
     obtain ⟨e1,e2,e3,e4⟩:=ho'
     subst e1 e2 e3 e4
     rw[List.length_map]
     exact .aref id _ _ _ _ v xs ho (h2.trans hL) hsl
   | old i2 n2 e2 sz2 es2 mv2 v2 _ xs ho' hL hsl hn2 hv =>
     injection hq with hq1 hq2
     subst hq1 hq2
     rw[h1] at ho'
     injection ho' with ho'
     cases o<;>simp only[rnO,reduceCtorEq,AO.arr.injEq] at ho'
     obtain ⟨e1,e2,e3,e4⟩:=ho'
     subst e1 e2 e3 e4
     rw[List.length_map] at hn2
     refine .old id n _ _ _ _ v2 v xs ho (h2.trans hL) hsl hn2 fun hm=>?_
     rcases hv hm with h | ⟨b,cap,g1,g2,g3,g4⟩
     ·exact .inl h
     ·exact .inr ⟨b,cap,g1,g2,g3,fun k hk=>⟨(g4 k hk).1.imp (hok b) (fun h=>h),(g4 k hk).2⟩⟩
 | .eloc id n i off,v,hc,h=>by
   simp only[clA] at hc
   obtain ⟨o,ho⟩:=Option.isSome_iff_exists.1 (hd id hc)
   obtain ⟨h1,h2⟩:=hlo id o ho
   simp only[rn] at h
   cases h with
   | eloc _ _ _ _ e2 sz2 es2 mv2 v2 xs b ho' hL hn2 hv =>
     rw[h1] at ho'
     injection ho' with ho'
     cases o<;>simp only[rnO,reduceCtorEq,AO.arr.injEq] at ho'
     obtain ⟨e1,e2,e3,e4⟩:=ho'
     subst e1 e2 e3 e4
     rw[List.length_map] at hn2 hv
     refine .eloc id n i off _ _ _ _ v2 xs b ho (h2.trans hL) hn2 fun hm=>?_
     obtain ⟨g1,g2,g3⟩:=hv hm
     exact ⟨g1,g2,fun k hk=>⟨(g3 k hk).1.imp (hok b) (fun h=>h),(g3 k hk).2⟩⟩
 | .nilr sz,v,_,h=>by
   cases h with
   | nilr=>exact .nilr sz
 | .mref id k n,v,hc,h=>by
   simp only[clA] at hc
   obtain ⟨o,ho⟩:=Option.isSome_iff_exists.1 (hd id hc)
   obtain ⟨h1,h2⟩:=hlo id o ho
   simp only[rn] at h
   cases h with
   | mref _ _ _ e2 sz2 kvs pend b vals _ ho' hL hs hnn hv =>
     rw[h1] at ho'
     injection ho' with ho'
     cases o<;>simp only[rnO,reduceCtorEq,AO.mapr.injEq] at ho'
     obtain ⟨e1,e2,e3,e4⟩:=ho'
     subst e1 e2 e3 e4
     exact .mref id k n _ _ _ _ b vals v ho (h2.trans hL) hs hnn hv
 | .oref id,v,hc,h=>by
   simp only[clA] at hc
   obtain ⟨o,ho⟩:=Option.isSome_iff_exists.1 (hd id hc)
   obtain ⟨h1,h2⟩:=hlo id o ho
   simp only[rn] at h
   cases h with
   | oref _ b ob ho' hn hL =>
     rw[h1] at ho'
     injection ho' with ho'
     exact .oref id b o ho (by subst ho';cases o<;>first | exact hn | cases hn) (h2.trans hL)
   | omap _ b kvs ho' hL =>
     rw[h1] at ho'
     injection ho' with ho'
     cases o<;>simp only[rnO,reduceCtorEq] at ho'
     exact .omap id b _ ho (h2.trans hL)
   | orow _ b e2 sz2 kvs pend vals ho' hL =>
     rw[h1] at ho'
     injection ho' with ho'
     cases o<;>simp only[rnO,reduceCtorEq] at ho'
     exact .orow id b _ _ _ _ vals ho (h2.trans hL)
   | obytes _ b cap s ho' hL =>
     rw[h1] at ho'
     injection ho' with ho'
     cases o<;>simp only[rnO,reduceCtorEq,AO.bytes.injEq] at ho'
     subst ho'
     exact .obytes id b cap _ ho (h2.trans hL)
 | .belem id i,v,hc,h=>by
   simp only[clA] at hc
   obtain ⟨o,ho⟩:=Option.isSome_iff_exists.1 (hd id hc)
   obtain ⟨h1,h2⟩:=hlo id o ho
   simp only[rn] at h
   cases h with
   | belem _ _ b s ho' hL hi =>
     rw[h1] at ho'
     injection ho' with ho'
     cases o<;>simp only[rnO,reduceCtorEq,AO.bytes.injEq] at ho'
     subst ho'
     exact .belem id i b _ ho (h2.trans hL) hi
 | .clo g fs cs,v,hc,h=>by
   simp only[rn] at h
   cases h with
   | clo _ _ _ us vs l1 l2 hf hx =>
     simp only[clA,Bool.and_eq_true] at hc
     exact .clo g fs cs us vs (by rw[l1,rnL_len]) (by rw[l2,rnL_len]) (rnL_back hok hd hlo hc.1 (by rw[l1,rnL_len]) hf) (rnL_back hok hd hlo hc.2 (by rw[l2,rnL_len]) hx)
 | .tup cs,v,hc,h=>by
   simp only[rn] at h
   cases h with
   | tup _ vs hl hx =>
     simp only[clA] at hc
     exact .tup cs vs (by rw[hl,rnL_len]) (rnL_back hok hd hlo hc (by rw[hl,rnL_len]) hx)
 | .cb id,v,hc,h=>by
   simp only[clA] at hc
   obtain ⟨o,ho⟩:=Option.isSome_iff_exists.1 (hd id hc)
   obtain ⟨h1,h2⟩:=hlo id o ho
   simp only[rn] at h
   cases h with
   | cb _ s O D ho' hL =>
     rw[h1] at ho'
     injection ho' with ho'
     cases o<;>simp only[rnO,reduceCtorEq,AO.ext.injEq] at ho'
     subst ho'
     exact .cb id _ O D ho (h2.trans hL)
theorem rnL_back {ok ok':Nat→Prop} {lo0:Nat→Option AO} {L0:Nat→Lay} {m:Nat→Nat} {dom:List Nat} (hok:∀ b,ok b→ok' b) (hd:∀ i,dom.contains i=true→(lo0 i).isSome=true) (hlo:∀ i o,lo0 i=some o→lo (m i)=some (rnO m o)∧L0 i=L (m i)) :
  ∀ {cs:List AV} {vs:List Value},clAL dom cs=true→vs.length=cs.length→(∀ (k:Nat) (x:AV) (u:Value),(rnL m cs)[k]?=some x→vs[k]?=some u→RepA ok w lo L x u) →
   ∀ (k:Nat) (x:AV) (u:Value),cs[k]?=some x→vs[k]?=some u→RepA ok' w lo0 L0 x u
 | [],vs,_,_,_,k,x,u,hx,_=>by simp at hx
 | y::r,[],_,hl,_,_,_,_,_,_=>by simp at hl
 | y::r,v::vs,hc,hl,h,k,x,u,hx,hu=>by
   simp only[clAL,Bool.and_eq_true] at hc
   cases k with
   | zero =>
     simp at hx hu
     subst hx hu
     exact rn_back hok hd hlo hc.1 (h 0 _ _ (by simp[rnL]) (by simp))
   | succ k=>exact rnL_back hok hd hlo hc.2 (by simpa using hl) (fun k y u h1 h2=>h (k+1) y u (by simpa[rnL] using h1) (by simpa using h2)) k x u (by simpa using hx) (by simpa using hu)
end
theorem rnO_back {B B':Nat→Prop} {ok ok':Nat→Prop} {lo0:Nat→Option AO} {L0:Nat→Lay} {m:Nat→Nat} {dom:List Nat} (hok:∀ b,ok b→ok' b) (hd:∀ i,dom.contains i=true→(lo0 i).isSome=true) (hlo:∀ i o,lo0 i=some o→lo (m i)=some (rnO m o)∧L0 i=L (m i))
  {o:AO} {l:Lay} (hc:clO dom o=true) (hne:noExt o=true) (hB:∀ b,l.has b→¬ B' b) (h:ObjRep B ok w lo L (rnO m o) l):ObjRep B' ok' w lo0 L0 o l:=by
 have all:∀ {x v},clA dom x=true→RepA ok w lo L (rn m x) v→RepA ok' w lo0 L0 x v:=fun h1 h2=>rn_back hok hd hlo h1 h2
 have mono:∀ {x v},RepI ok w x v→RepI ok' w x v:=fun h=>h.mono fun b hb _=>⟨hok b hb,rfl⟩
 cases o with
 | box cs =>
   cases l with
   | box b =>
     obtain ⟨_,t,vs,hb,hl,h1,hx⟩:=h
     rw[rnL_len] at hl
     refine ⟨hB b rfl,t,vs,hb,hl,h1,fun k x u h2 h3=>?_⟩
     exact all (clAL_get hc h2) (hx k _ u (by rw[rnL_get,h2];rfl) h3)
   | _=>exact h.elim
 | arr e sz es mv =>
   cases l with
   | arr v xs =>
     obtain ⟨ho,hm,hz,h1,hx⟩:=h
     rw[List.length_map] at ho hm
     refine ⟨⟨ho.own,fun b hb=>hB b hb⟩,hm,fun c hcm=>?_,h1,fun i j c x u h2 h3 h4=>?_⟩
     ·have:=hz (rnL m c) (List.mem_map.2 ⟨c,hcm,rfl⟩)
      rwa [rnL_len] at this
     ·have hcc:clAL dom c=true:=List.all_eq_true.1 hc c (List.mem_of_getElem? h2)
      exact all (clAL_get hcc h3) (hx i j (rnL m c) (rn m x) u (by rw[List.getElem?_map,h2];rfl) (by rw[rnL_get,h3];rfl) h4)
   | _=>exact h.elim
 | mapd kvs =>
   cases l with
   | one b =>
     obtain ⟨_,es,clock,hb,hm,hd',hx⟩:=h
     exact ⟨hB b rfl,es,clock,hb,hm,hd',fun i e p h1 h2=>mono (hx i e p h1 h2)⟩
   | _=>exact h.elim
 | mapr e sz kvs pend =>
   cases l with
   | map b vals =>
     obtain ⟨_,hcm,hd',hk,hr,ha⟩:=h
     refine ⟨hB b (.inl rfl),hcm,hd',hk,fun i p q hp hq=>?_,ha⟩
     obtain ⟨xs,h1,h2,h3,h4,h5⟩:=hr i p q hp hq
     exact ⟨xs,⟨h1.own,fun b' hb'=>hB b' (.inr ⟨q,List.mem_of_getElem? hq,hb'⟩)⟩,h2,h3,h4,fun i j c x u a1 a2 a3=>mono (h5 i j c x u a1 a2 a3)⟩
   | _=>exact h.elim
 | siter s pos =>
   cases l with
   | one b=>exact ⟨hB b rfl,h.2⟩
   | _=>exact h.elim
 | miter kvs seen =>
   cases l with
   | one b =>
     obtain ⟨_,r,since,sn,hb,hi⟩:=h
     refine ⟨hB b rfl,r,since,sn,hb,?_⟩
     cases r with
     | none=>exact hi
     | some r =>
       obtain ⟨es,h1,h2,h3,h4,h5⟩:=hi
       exact ⟨es,hok r h1,h2,h3,fun i e p a b=>mono (h4 i e p a b),h5⟩
   | _=>exact h.elim
 | bytes s =>
   cases l with
   | one b=>exact ⟨hB b rfl,h.2⟩
   | _=>exact h.elim
 | ext s=>cases hne
end
end Go.Ev

/- The caller's state behind a call that was handed objects of its own. -/
namespace Go.Ev
open Go Go.RowKit
theorem ObjRep.frameN' {B B':Nat→Prop} {ok:Nat→Prop} {w:World} {lo:Nat→Option AO} {L:Nat→Lay} {o:AO} {l:Lay} (h:ObjRep B ok w lo L o l) (hx:noExt o=true) (hn:∀ b,l.has b→¬ B' b):ObjRep B' ok w lo L o l:=by
 cases o with
 | ext s=>cases hx
 | mapr e sz kvs pend =>
   cases l with
   | map b vals =>
     obtain ⟨hB,hc,hd,hk,hr,ha⟩:=h
     refine ⟨hn b (.inl rfl),hc,hd,hk,fun i p q hp hq=>?_,ha⟩
     obtain ⟨xs,h1,h2⟩:=hr i p q hp hq
     exact ⟨xs,⟨h1.own,fun b hb=>hn b (.inr ⟨q,List.mem_of_getElem? hq,hb⟩)⟩,h2⟩
   | _=>exact h.elim
 | arr e sz es mv =>
   cases l with
   | arr v xs=>exact ⟨⟨h.1.own,fun b hb=>hn b hb⟩,h.2⟩
   | _=>exact h.elim
 | box cs =>
   cases l with
   | box b=>exact ⟨hn b rfl,h.2⟩
   | _=>exact h.elim
 | _ =>
   cases l with
   | one b=>exact ⟨hn b rfl,h.2⟩
   | _=>exact h.elim
section
variable {P:Program} {K:World→Prop} {ok0:Nat→Prop} {N:Fm} {w0:Base} {lk:Nat→AV} {lo:Nat→Option AO} {a:Act} {w:World} {L:Nat→Lay}
def KeepsO (Fr ok':Nat→Prop) (keep:List Nat) (w w':World) (lo lo':Nat→Option AO) (L L':Nat→Lay) (id:Nat) (o:AO):Prop :=
 (lo' id=some (scrO keep o)∧L' id=L id∧∀ b,(L id).has b→w'.heap[b]?=w.heap[b]?) ∨
 (∃ o',lo' id=some o'∧StayO o o' (L id) (L' id)∧ObjRep Fr ok' w' lo' L' o' (L' id))
theorem scr_turn {Fr ok ok' ok'':Nat→Prop} {w':World} {lo':Nat→Option AO} {L':Nat→Lay} {keep:List Nat} (hok:∀ b,ok b→b<w.heap.size→ok' b∧w'.heap[b]?=w.heap[b]?)
  (hmv:∀ id e sz es mv,lo id=some (.arr e sz es mv)→mv≤es.length)
  (hkeep:∀ id o,keep.contains id=true→lo id=some o→KeepsO Fr ok'' keep w w' lo lo' L L' id o) {x:AV} {v:Value} (h:RepA ok w lo L x v):RepA ok' w' lo' L' (scr keep x) v:=by
 have cell:∀ (b k:Nat) (u:Value),w'.heap[b]?=w.heap[b]?→w.cell? ⟨b,k,none⟩=some u→w'.cell? ⟨b,k,none⟩=some u:=fun b k u hb hc=>(World.cell?_of_block (a:=⟨b,k,none⟩) hb).trans hc
 have cells:∀ (id b n sz:Nat) (v:Value) (xs:List Value),L id=.arr v xs→(∀ b,(L id).has b→w'.heap[b]?=w.heap[b]?)→(∀ k,k<n*sz→(ok b∨v.ownBlock=some b)∧∃ u,w.cell? ⟨b,k,none⟩=some u∧xs[k]?=some u) →
   (∀ k,k<n*sz→(ok' b∨v.ownBlock=some b)∧∃ u,w'.cell? ⟨b,k,none⟩=some u∧xs[k]?=some u):=by
  intro id b n sz v xs hL hs h k hk
  obtain ⟨h1,u,h2,h3⟩:=h k hk
  rcases h1 with h1 | h1
  ·obtain ⟨h4,h5⟩:=hok b h1 (World.block_lt_of_cell? w ⟨b,k,none⟩ h2)
   exact ⟨.inl h4,u,cell b k u h5 h2,h3⟩
  ·exact ⟨.inr h1,u,cell b k u (hs b (by rw[hL];exact h1)) h2,h3⟩
 induction h with
 | iv x v h=>simp only[scr];exact .iv x v (h.mono hok)
 | agg cs vs hl h1 _ ih =>
   simp only[scr]
   refine .agg _ vs (by rw[scrL_len'];exact hl) h1 fun k x u hx hu=>?_
   rw[scrL_get,Option.map_eq_some_iff] at hx
   obtain ⟨y,hy,rfl⟩:=hx
   exact ih k y u hy hu
 | loc id off cs b ho hL =>
   simp only[scr]
   split
   ·rename_i hc
    rcases hkeep id _ hc ho with ⟨h1,h2,_⟩ | ⟨o',h1,h2,_⟩
    ·exact .loc id off _ b h1 (h2.trans hL)
    ·rw[hL] at h2
     generalize hl':L' id=l' at h2
     cases o'<;>cases l'<;>first | exact h2.elim | skip
     cases h2
     exact .loc id off _ _ h1 hl'
   ·exact .iv _ _ (.any _)
 | aref id e sz es mv v xs ho hL hsl =>
   simp only[scr]
   split
   ·rename_i hc
    rcases hkeep id _ hc ho with ⟨h1,h2,_⟩ | ⟨o',h1,h2,_⟩
    ·have:=RepA.aref (ok:=ok') (w:=w') id e sz (es.map (scrL keep)) mv v xs h1 (h2.trans hL) hsl
     rwa [List.length_map] at this
    ·rw[hL] at h2
     generalize hl':L' id=l' at h2
     cases o'<;>cases l'<;>first | exact h2.elim | skip
     obtain ⟨e1,e2,e3,e4,e5⟩:=h2
     subst e1
     rw[← e4]
     exact .aref id _ _ _ _ _ _ h1 hl' hsl
   ·exact .iv _ _ (.any _)
 | old id n e sz es mv v v' xs ho hL hsl hn hv =>
   simp only[scr]
   split
   ·rename_i hc
    rcases hkeep id _ hc ho with ⟨h1,h2,h3⟩ | ⟨o',h1,h2,_⟩
    ·refine .old id n e sz (es.map (scrL keep)) mv v v' xs h1 (h2.trans hL) hsl (by rw[List.length_map];exact hn) fun hm=>?_
     rcases hv hm with h | ⟨b,cap,g1,g2,g3,g4⟩
     ·exact .inl h
     ·exact .inr ⟨b,cap,g1,g2,g3,cells id b n sz v xs hL h3 g4⟩
    ·rw[hL] at h2
     generalize hl':L' id=l' at h2
     cases o'<;>cases l'<;>first | exact h2.elim | skip
     obtain ⟨e1,e2,e3,e4,e5⟩:=h2
     exact .old id n _ _ _ _ _ v' _ h1 hl' hsl (by omega) (fun hm=>by omega)
   ·exact .iv _ _ (.any _)
 | eloc id n i off e sz es mv v xs b ho hL hn hv =>
   simp only[scr]
   split
   ·rename_i hc
    rcases hkeep id _ hc ho with ⟨h1,h2,h3⟩ | ⟨o',h1,h2,h3⟩
    ·refine .eloc id n i off e sz (es.map (scrL keep)) mv v xs b h1 (h2.trans hL) (by rw[List.length_map];exact hn) fun hm=>?_
     obtain ⟨g1,g2,g3⟩:=hv hm
     exact ⟨g1,fun e=>g2 (by rw[List.length_map] at e;exact e),cells id b n sz v xs hL h3 g3⟩
    ·rw[hL] at h2
     generalize hl':L' id=l' at h2 h3
     cases o'<;>cases l'<;>first | exact h2.elim | skip
     obtain ⟨e1,e2,e3,e4,e5⟩:=h2
     subst e1 e2 e3
     refine .eloc id n i off _ _ _ _ _ _ b h1 hl' (by omega) fun hm=>?_
     have hn':n=es.length:=by omega
     obtain ⟨g1,g2,g3⟩:=hv (by have:=hmv id _ _ _ _ ho;omega)
     have hob:=g2 hn'
     refine ⟨g1,fun _=>hob,fun k hk=>⟨.inr hob,?_⟩⟩
     obtain ⟨hown,_⟩:=h3
     have hk':=hk
     rw[hn',← e4,← hown.own.1] at hk'
     refine ⟨_,?_,List.getElem?_eq_getElem hk'⟩
     have:=hown.own.cells (g:=b) hob k _ (List.getElem?_eq_getElem hk')
     rwa [addr_add,Nat.zero_add] at this
   ·exact .iv _ _ (.any _)
 | nilr sz=>simp only[scr];exact .nilr sz
 | mref id k n e sz kvs pend b vals v ho hL h1 hn hv =>
   simp only[scr]
   split
   ·rename_i hc
    rcases hkeep id _ hc ho with ⟨g1,g2,_⟩ | ⟨o',g1,g2,_⟩
    ·exact .mref id k n e sz kvs pend b vals v g1 (g2.trans hL) h1 hn hv
    ·rw[hL] at g2
     generalize hl':L' id=l' at g2
     cases o'<;>cases l'<;>exact g2.elim
   ·exact .iv _ _ (.any _)
 | oref id b o ho hn hL =>
   simp only[scr]
   split
   ·rename_i hc
    rcases hkeep id _ hc ho with ⟨g1,g2,_⟩ | ⟨o',g1,g2,_⟩
    ·exact .oref id b _ g1 (by cases o<;>first | exact hn | cases hn) (g2.trans hL)
    ·rw[hL] at g2
     generalize hl':L' id=l' at g2
     cases o<;>simp only[AO.isIter,Bool.false_eq_true] at hn<;>cases o'<;>cases l'<;>exact g2.elim
   ·exact .iv _ _ (.any _)
 | omap id b kvs ho hL =>
   simp only[scr]
   split
   ·rename_i hc
    rcases hkeep id _ hc ho with ⟨g1,g2,_⟩ | ⟨o',g1,g2,_⟩
    ·exact .omap id b kvs g1 (g2.trans hL)
    ·rw[hL] at g2
     generalize hl':L' id=l' at g2
     cases o'<;>cases l'<;>first | exact g2.elim | skip
     cases g2
     exact .omap id _ _ g1 hl'
   ·exact .iv _ _ (.any _)
 | orow id b e sz kvs pend vals ho hL =>
   simp only[scr]
   split
   ·rename_i hc
    rcases hkeep id _ hc ho with ⟨g1,g2,_⟩ | ⟨o',g1,g2,_⟩
    ·exact .orow id b e sz kvs pend vals g1 (g2.trans hL)
    ·rw[hL] at g2
     generalize hl':L' id=l' at g2
     cases o'<;>cases l'<;>exact g2.elim
   ·exact .iv _ _ (.any _)
 | obytes id b cap s ho hL =>
   simp only[scr]
   split
   ·rename_i hc
    rcases hkeep id _ hc ho with ⟨g1,g2,_⟩ | ⟨o',g1,g2,_⟩
    ·exact .obytes id b cap s g1 (g2.trans hL)
    ·rw[hL] at g2
     generalize hl':L' id=l' at g2
     cases o'<;>cases l'<;>exact g2.elim
   ·exact .iv _ _ (.any _)
 | belem id i b s ho hL hi =>
   simp only[scr]
   split
   ·rename_i hc
    rcases hkeep id _ hc ho with ⟨g1,g2,_⟩ | ⟨o',g1,g2,_⟩
    ·exact .belem id i b s g1 (g2.trans hL) hi
    ·rw[hL] at g2
     generalize hl':L' id=l' at g2
     cases o'<;>cases l'<;>exact g2.elim
   ·exact .iv _ _ (.any _)
 | clo g fs cs us vs h1 h2 _ _ ih1 ih2 =>
   simp only[scr]
   refine .clo g _ _ us vs (by rw[scrL_len'];exact h1) (by rw[scrL_len'];exact h2) (fun k x u hx hu=>?_) (fun k x u hx hu=>?_)
   ·rw[scrL_get,Option.map_eq_some_iff] at hx
    obtain ⟨y,hy,rfl⟩:=hx
    exact ih1 k y u hy hu
   ·rw[scrL_get,Option.map_eq_some_iff] at hx
    obtain ⟨y,hy,rfl⟩:=hx
    exact ih2 k y u hy hu
 | tup cs vs hl _ ih =>
   simp only[scr]
   refine .tup _ vs (by rw[scrL_len'];exact hl) fun k x u hx hu=>?_
   rw[scrL_get,Option.map_eq_some_iff] at hx
   obtain ⟨y,hy,rfl⟩:=hx
   exact ih k y u hy hu
 | cb id s O D ho hL =>
   simp only[scr]
   split
   ·rename_i hc
    rcases hkeep id _ hc ho with ⟨g1,g2,_⟩ | ⟨o',g1,g2,_⟩
    ·exact .cb id s O D g1 (g2.trans hL)
    ·rw[hL] at g2
     generalize hl':L' id=l' at g2
     cases o'<;>cases l'<;>exact g2.elim
   ·exact .iv _ _ (.any _)
theorem scrO_turn {B B' ok ok':Nat→Prop} {w':World} {lo':Nat→Option AO} {L':Nat→Lay} {keep:List Nat} {o:AO} {l:Lay} (hw:Beside w w') (hok:∀ b,ok b→b<w.heap.size→ok' b∧w'.heap[b]?=w.heap[b]?)
  (hl:∀ b,l.has b→¬ B' b∧w'.heap[b]?=w.heap[b]?) (hfr:∀ b,B b→ok b→B' b∧ok' b∧w'.heap[b]?=w.heap[b]?)
  (all:∀ x v,RepA ok w lo L x v→RepA ok' w' lo' L' (scr keep x) v) (h:ObjRep B ok w lo L o l):ObjRep B' ok' w' lo' L' (scrO keep o) l:=by
 have row:∀ {e:TypeId} {sz n:Nat} {v:Value} {xs:List Value},ownsF B w e sz v n xs→(∀ b,v.ownBlock=some b→l.has b)→ownsF B' w' e sz v n xs:=fun h1 h2 =>
  ⟨(ownsF.stay (Fr:=B) h1 fun b hb=>(hl b (h2 b hb)).2).own,fun b hb=>(hl b (h2 b hb)).1⟩
 cases o with
 | box cs =>
   cases l with
   | box b =>
     obtain ⟨hB,t,vs,hb,hl',h1,hx⟩:=h
     refine ⟨(hl b rfl).1,t,vs,(hl b rfl).2.trans hb,by rw[scrL_len'];exact hl',h1,fun k x u h2 h3=>?_⟩
     rw[scrL_get,Option.map_eq_some_iff] at h2
     obtain ⟨y,hy,rfl⟩:=h2
     exact all _ _ (hx k y u hy h3)
   | _=>exact h.elim
 | arr e sz es mv =>
   cases l with
   | arr v xs =>
     obtain ⟨ho,hm,hz,h1,hx⟩:=h
     refine ⟨by rw[List.length_map];exact row ho fun b hb=>hb,by rw[List.length_map];exact hm,fun c hc=>?_,h1,fun i j c x u h2 h3 h4=>?_⟩
     ·obtain ⟨d,hd,rfl⟩:=List.mem_map.1 hc
      rw[scrL_len'];exact hz d hd
     ·rw[List.getElem?_map,Option.map_eq_some_iff] at h2
      obtain ⟨d,hd,rfl⟩:=h2
      rw[scrL_get,Option.map_eq_some_iff] at h3
      obtain ⟨y,hy,rfl⟩:=h3
      exact all _ _ (hx i j d y u hd hy h4)
   | _=>exact h.elim
 | mapd kvs =>
   cases l with
   | one b =>
     obtain ⟨hB,es,clock,hb,hm,hd,hx⟩:=h
     exact ⟨(hl b rfl).1,es,clock,(hl b rfl).2.trans hb,hm,hd,fun i e p h1 h2=>(hx i e p h1 h2).mono hok⟩
   | _=>exact h.elim
 | mapr e sz kvs pend =>
   cases l with
   | map b vals =>
     obtain ⟨hB,⟨es,clock,hb,hm⟩,hd,hk,hr,ha⟩:=h
     refine ⟨(hl b (.inl rfl)).1,⟨es,clock,(hl b (.inl rfl)).2.trans hb,hm⟩,hd,hk,fun i p q hp hq=>?_,ha⟩
     obtain ⟨xs,h1,h2,h3,h4,h5⟩:=hr i p q hp hq
     exact ⟨xs,row h1 fun b' hb'=>.inr ⟨q,List.mem_of_getElem? hq,hb'⟩,h2,h3,h4,fun i j c x u a1 a2 a3=>(h5 i j c x u a1 a2 a3).mono hok⟩
   | _=>exact h.elim
 | siter s pos =>
   cases l with
   | one b=>exact ⟨(hl b rfl).1,(hl b rfl).2.trans h.2⟩
   | _=>exact h.elim
 | miter kvs seen =>
   cases l with
   | one b =>
     obtain ⟨hB,r,since,sn,hb,hi⟩:=h
     refine ⟨(hl b rfl).1,r,since,sn,(hl b rfl).2.trans hb,?_⟩
     cases r with
     | none=>exact hi
     | some r =>
       obtain ⟨es,h1,h2,h3,h4,h5,h6⟩:=hi
       obtain ⟨h7,h8⟩:=hok r h1 (Array.getElem?_eq_some_iff.1 h2).1
       exact ⟨es,h7,h8.trans h2,h3,fun i e p a b=>(h4 i e p a b).mono hok,h5,h6⟩
   | _=>exact h.elim
 | bytes s =>
   cases l with
   | one b =>
     obtain ⟨hB,cur,t,hb,hi⟩:=h
     exact ⟨(hl b rfl).1,cur,t,(hl b rfl).2.trans hb,hi⟩
   | _=>exact h.elim
 | ext s =>
   cases l with
   | ext O D =>
     obtain ⟨h1,h2,h3⟩:=h
     refine ⟨fun b hb=>⟨(hl b hb).1,Nat.lt_of_lt_of_le (h1 b hb).2.1 hw.size,(h1 b hb).2.2⟩,fun b hb=>?_,s.stay O D w w' h3 ⟨hw.os,hw.tape,hw.output,hw.size,fun b hb=>?_⟩⟩
     ·rcases h2 b hb with h | ⟨h,h'⟩
      ·exact .inl h
      ·exact .inr ⟨(hfr b h h').1,(hfr b h h').2.1⟩
     ·rcases h2 b hb with h | ⟨h,h'⟩
      ·exact (hl b h).2
      ·exact (hfr b h h').2.2
   | _=>exact h.elim
theorem hg_calls {g:FuncId} {avs args:List AV} {ids keep st dom:List Nat} {y y':AV} {lo' lo0 lo1:Nat→Option AO} {vs:List Value} (hK:∀ w',Keep w0.fr w0.w w'→K w') (hok0:∀ b,¬ w0.fr b→ok0 b) (h:Rel ok0 N w0 lk lo a w L)
  (hh:HG P K g avs ids keep lo y' lo' args lo0 st y lo1 dom) (hl:vs.length=avs.length) (hx:∀ (k:Nat) (x:AV) (u:Value),avs[k]?=some x→vs[k]?=some u→RepA (okL ok0 lo L) w lo L x u) :
  Calls P g vs.toArray w (fun e w'=>∃ v L',e=.returned v∧Rel ok0 N w0 (fun t=>scr keep (lk t)) lo' a w' L'∧RepA (okL ok0 lo' L') w' lo' L' y' v):=by
 let m:=nth ids
 let L0:Nat→Lay:=fun i=>L (m i)
 have hinj:∀ i j,i<ids.length→j<ids.length→m i=m j→i=j:=fun i j hi hj e=>by
  have h1:=idxO_nth hh.nd hi
  have h2:=idxO_nth hh.nd hj
  have e':nth ids i=nth ids j:=e
  rw[e',h2] at h1
  injection h1 with h1
  exact h1.symm
 have hdom:∀ i,dom.contains i=true→(lo0 i).isSome=true:=fun i hi=>(hh.dom0 i).1 hi
 have hlo0:∀ i o,lo0 i=some o→lo (m i)=some (rnO m o)∧L0 i=L (m i):=fun i o ho=>⟨(hh.hlo i o ho).2.1,rfl⟩
 have hlt0:∀ i o,lo0 i=some o→i<ids.length:=fun i o ho=>(hh.hlo i o ho).1
 have hown:∀ b,Owned lo0 L0 b→∃ i o,lo0 i=some o∧lo (m i)=some (rnO m o)∧(L (m i)).has b:=fun b ⟨i,o,ho,hb⟩=>⟨i,o,ho,(hlo0 i o ho).1,hb⟩
 have hownfr:∀ b,Owned lo0 L0 b→¬ w0.fr b∧b<w.heap.size:=fun b hb=>by
  obtain ⟨i,o,_,h1,h2⟩:=hown b hb
  exact (h.objs _ _ h1).lt h2
 let okc:Nat→Prop:=fun b=>okL ok0 lo L b∨Owned lo0 L0 b
 have hokc:∀ b,okL ok0 lo L b→okL okc lo0 L0 b:=fun b hb=>⟨.inl hb,fun i o ho hbb=>hb.2 _ _ (hlo0 i o ho).1 hbb⟩
 have hlaid:Laid (FrO w lo0 L0) okc w lo0 L0:=by
  refine ⟨fun i o ho=>?_,fun i j oi oj b hij hi hj h1 h2=>?_⟩
  ·obtain ⟨_,h2,h3,h4⟩:=hh.hlo i o ho
   exact rnO_back hokc hdom hlo0 h3 h4 (fun b hb hf=>hf.2 ⟨i,o,ho,hb⟩) (h.objs _ _ h2)
  ·exact h.apart (m i) (m j) _ _ b (fun e=>hij (hinj i j (hlt0 i oi hi) (hlt0 j oj hj) e)) (hlo0 i oi hi).1 (hlo0 j oj hj).1 h1 h2
 have hal:vs.length=args.length:=by rw[hl,hh.hargs,List.length_map]
 have hfrO:∀ b,w0.fr b→FrO w lo0 L0 b:=fun b hb=>⟨h.frl b hb,fun ho=>(hownfr b ho).1 hb⟩
 refine (hh.hg w okc L0 vs (fun w' hk=>hK w' (h.below.trans (hk.mono hfrO))) (fun b hb=>.inl ⟨hok0 b (h.frlt hb),fun i o ho hbb=>by have:=((h.objs i o ho).lt hbb).2;omega⟩) (fun b hb=>.inr hb) hlaid hal (fun k x u hxk hu=>?_)).mono ?_
 ·have hcl:clA dom x=true:=List.all_eq_true.1 hh.cla x (List.mem_of_getElem? hxk)
  exact rn_back hokc hdom hlo0 hcl (hx k (rn m x) u (by rw[hh.hargs,List.getElem?_map,hxk];rfl) hu)
 rintro e w' ⟨v,L1,rfl,hlaid1,hrep,hk,hst⟩
 let L':Nat→Lay:=fun i=>match idxO ids i with
  | some j=>L1 j
  | none=>L i
 have hlom:∀ j,j<ids.length→lo' (m j)=(lo1 j).map (rnO m)∧L' (m j)=L1 j:=fun j hj=>by
  have:=idxO_nth hh.nd hj
  refine ⟨by rw[hh.hlo'];simp only[m,this],by simp only[L',m,this]⟩
 have hsame:∀ b,b<w.heap.size→¬ Owned lo0 L0 b→w'.heap[b]?=w.heap[b]?:=fun b h1 h2=>hk.block b ⟨h1,h2⟩
 -- the blocks of the new objects
 have hnew:∀ j o b,lo1 j=some o→(L1 j).has b→Owned lo0 L0 b∨w.heap.size≤b:=fun j o b ho hb=>by
  have h1:=((hlaid1.objs j o ho).lt hb).1
  by_cases hbs:b<w.heap.size
  ·exact .inl (Classical.byContradiction fun hn=>h1 ⟨hbs,hn⟩)
  ·exact .inr (Nat.not_lt.1 hbs)
 -- an object that was not handed over
 have hother:∀ i o,idxO ids i=none→lo i=some o→∀ b,(L i).has b→¬ Owned lo0 L0 b∧b<w.heap.size∧¬ w0.fr b:=fun i o hi ho b hb=>by
  obtain ⟨h1,h2⟩:=(h.objs i o ho).lt hb
  refine ⟨fun hown'=>?_,h2,h1⟩
  obtain ⟨j,oj,hj,hj',hjb⟩:=hown b hown'
  have hne:i≠m j:=fun e=>by
   have hidx:=idxO_nth hh.nd (hlt0 j oj hj)
   have e':i=nth ids j:=e
   rw[← e',hi] at hidx
   cases hidx
  exact h.apart i (m j) o _ b hne ho hj' hb hjb
 have hkept:∀ i o,idxO ids i=none→lo' i=some o→keep.contains i=true∧∃ o0,lo i=some o0∧o=scrO keep o0:=fun i o hi ho=>by
  rw[hh.hlo',hi] at ho
  simp only at ho
  split at ho
  ·rename_i hc
   rw[Option.map_eq_some_iff] at ho
   obtain ⟨o0,h1,h2⟩:=ho
   exact ⟨hc,o0,h1,h2.symm⟩
  ·cases ho
 have hin:∀ i j o,idxO ids i=some j→lo' i=some o→j<ids.length∧i=m j∧∃ o1,lo1 j=some o1∧o=rnO m o1:=fun i j o hi ho=>by
  obtain ⟨h1,h2⟩:=idxO_some hi
  rw[hh.hlo',hi] at ho
  simp only[Option.map_eq_some_iff] at ho
  obtain ⟨o1,h3,h4⟩:=ho
  exact ⟨h1,h2.symm,o1,h3,h4.symm⟩
 have hLn:∀ i,idxO ids i=none→L' i=L i:=fun i hi=>by simp only[L',hi]
 have hok:∀ b,okL ok0 lo L b→b<w.heap.size→okL ok0 lo' L' b∧w'.heap[b]?=w.heap[b]?:=fun b hb hbs=>by
  have hno:¬ Owned lo0 L0 b:=fun ho=>by
   obtain ⟨i,o,_,h1,h2⟩:=hown b ho
   exact hb.2 _ _ h1 h2
  refine ⟨⟨hb.1,fun i o ho hbb=>?_⟩,hsame b hbs hno⟩
  cases hi:idxO ids i with
  | none =>
    obtain ⟨_,o0,h1,_⟩:=hkept i o hi ho
    rw[hLn i hi] at hbb
    exact hb.2 i o0 h1 hbb
  | some j =>
    obtain ⟨h1,rfl,o1,h2,_⟩:=hin i j o hi ho
    rw[(hlom j h1).2] at hbb
    rcases hnew j o1 b h2 hbb with h3 | h3
    ·exact hno h3
    ·omega
 have hokn:∀ b,okL okc lo1 L1 b→okL ok0 lo' L' b:=fun b hb=>by
  refine ⟨?_,fun i o ho hbb=>?_⟩
  ·rcases hb.1 with h1 | h1
   ·exact h1.1
   ·exact hok0 b (hownfr b h1).1
  ·cases hi:idxO ids i with
   | none =>
     obtain ⟨_,o0,h1,_⟩:=hkept i o hi ho
     rw[hLn i hi] at hbb
     rcases hb.1 with h2 | h2
     ·exact h2.2 i o0 h1 hbb
     ·exact (hother i o0 hi h1 b hbb).1 h2
   | some j =>
     obtain ⟨h1,rfl,o1,h2,_⟩:=hin i j o hi ho
     rw[(hlom j h1).2] at hbb
     exact hb.2 j o1 h2 hbb
 have hrn:∀ j o,lo1 j=some o→lo' (m j)=some (rnO m o)∧L' (m j)=L1 j:=fun j o ho=>by
  obtain ⟨h1,h2⟩:=hlom j (hh.hlt j o ho).1
  exact ⟨by rw[h1,ho];rfl,h2⟩
 have hobj1:∀ j o,lo1 j=some o→ObjRep w0.fr (okL ok0 lo' L') w' lo' L' (rnO m o) (L1 j):=fun j o ho=>by
  have h1:=rnO_rep hokn hrn (hlaid1.objs j o ho)
  have hne:=(hh.hlt j o ho).2
  refine h1.frameN' (by cases o<;>first | rfl | cases hne) fun b hb hf=>?_
  rcases hnew j o b ho hb with h3 | h3
  ·exact (hownfr b h3).1 hf
  ·exact h.frlt h3 hf
 have hkeeps:∀ i o,keep.contains i=true→lo i=some o→KeepsO w0.fr (okL ok0 lo' L') keep w w' lo lo' L L' i o:=fun i o hc ho=>by
  cases hi:idxO ids i with
  | none=>exact .inl ⟨by rw[hh.hlo',hi];simp only[hc,if_true,ho,Option.map_some],hLn i hi,fun b hb=>hsame b (hother i o hi ho b hb).2.1 (hother i o hi ho b hb).1⟩
  | some j =>
    obtain ⟨h1,h2⟩:=idxO_some hi
    have hjs:=hh.hkeep i hc j hi
    cases hlo0j:lo0 j with
    | none =>
      have:=hh.hall j h1 hlo0j
      rw[h2,ho] at this
      cases this
    | some o0 =>
      obtain ⟨o',h3,h4⟩:=hst j hjs o0 hlo0j
      have h5:=(hlo0 j o0 hlo0j).1
      have h5':lo i=some (rnO m o0):=by rw[← h2];exact h5
      rw[ho] at h5'
      injection h5' with h5'
      subst h5'
      obtain ⟨h6,h7⟩:=hrn j o' h3
      have h6':lo' i=some (rnO m o'):=by rw[← h2];exact h6
      have h7':L' i=L1 j:=by rw[← h2];exact h7
      have hLi:L i=L0 j:=by show L i=L (m j);rw[← h2]
      refine .inr ⟨rnO m o',h6',?_,by rw[h7'];exact hobj1 j o' h3⟩
      rw[h7',hLi]
      revert h4
      generalize L0 j=l0
      generalize L1 j=l1
      cases o0<;>cases o'<;>cases l0<;>cases l1<;>simp only[StayO,rnO,List.length_map,imp_self,false_implies]
 have hmvle:∀ id e sz es mv,lo id=some (.arr e sz es mv)→mv≤es.length:=fun id e sz es mv ho=>by
  have hob:=h.objs id _ ho
  cases hL:L id with
  | arr v xs=>rw[hL] at hob;exact hob.2.1
  | _=>rw[hL] at hob;exact hob.elim
 have all:∀ x v,RepA (okL ok0 lo L) w lo L x v→RepA (okL ok0 lo' L') w' lo' L' (scr keep x) v:=fun x v hr=>scr_turn (Fr:=w0.fr) hok hmvle hkeeps hr
 have hkw:Keep w0.fr w w':=hk.mono hfrO
 refine ⟨v,L',rfl,⟨h.below.trans hkw,?_,h.size,fun t=>all _ _ (h.env t),fun i o ho=>?_,fun i j oi oj b hij hi hj h1 h2=>?_,h.pin⟩,?_⟩
 ·refine h.defers.stay (fun r hr hno=>hsame r hr fun ho=>?_) (fun r hr hno i o ho hb=>?_)
  ·obtain ⟨i,o,_,h1,h2⟩:=hown r ho
   exact hno _ _ h1 h2
  ·cases hi:idxO ids i with
   | none =>
     obtain ⟨_,o0,h1,_⟩:=hkept i o hi ho
     rw[hLn i hi] at hb
     exact hno i o0 h1 hb
   | some j =>
     obtain ⟨h1,rfl,o1,h2,_⟩:=hin i j o hi ho
     rw[(hlom j h1).2] at hb
     rcases hnew j o1 r h2 hb with h3 | h3
     ·obtain ⟨i,o,_,h4,h5⟩:=hown r h3
      exact hno _ _ h4 h5
     ·omega
 ·cases hi:idxO ids i with
  | none =>
    obtain ⟨_,o0,h1,rfl⟩:=hkept i o hi ho
    rw[hLn i hi]
    exact scrO_turn ⟨hk.os,hk.tape,hk.output,hk.size⟩ hok (fun b hb=>⟨(hother i o0 hi h1 b hb).2.2,hsame b (hother i o0 hi h1 b hb).2.1 (hother i o0 hi h1 b hb).1⟩)
     (fun b hb hbok=>⟨hb,(hok b hbok (h.frl b hb)).1,(hok b hbok (h.frl b hb)).2⟩) all (h.objs i o0 h1)
  | some j =>
    obtain ⟨h1,rfl,o1,h2,rfl⟩:=hin i j o hi ho
    rw[(hlom j h1).2]
    exact hobj1 j o1 h2
 ·cases hi':idxO ids i with
  | none =>
    obtain ⟨_,oi0,hi1,_⟩:=hkept i oi hi' hi
    rw[hLn i hi'] at h1
    cases hj':idxO ids j with
    | none =>
      obtain ⟨_,oj0,hj1,_⟩:=hkept j oj hj' hj
      rw[hLn j hj'] at h2
      exact h.apart i j oi0 oj0 b hij hi1 hj1 h1 h2
    | some q =>
      obtain ⟨g1,rfl,o1,g2,_⟩:=hin j q oj hj' hj
      rw[(hlom q g1).2] at h2
      obtain ⟨k1,k2,_⟩:=hother i oi0 hi' hi1 b h1
      rcases hnew q o1 b g2 h2 with h3 | h3
      ·exact k1 h3
      ·omega
  | some p =>
    obtain ⟨f1,rfl,p1,f2,_⟩:=hin i p oi hi' hi
    rw[(hlom p f1).2] at h1
    cases hj':idxO ids j with
    | none =>
      obtain ⟨_,oj0,hj1,_⟩:=hkept j oj hj' hj
      rw[hLn j hj'] at h2
      obtain ⟨k1,k2,_⟩:=hother j oj0 hj' hj1 b h2
      rcases hnew p p1 b f2 h1 with h3 | h3
      ·exact k1 h3
      ·omega
    | some q =>
      obtain ⟨g1,rfl,o1,g2,_⟩:=hin j q oj hj' hj
      rw[(hlom q g1).2] at h2
      exact hlaid1.apart p q p1 o1 b (fun e=>hij (by rw[e])) f2 g2 h1 h2
 ·rw[hh.hy]
  exact rn_rep hokn hrn hrep
end
end Go.Ev

/- A region's operations in the text's order serve every order. -/
namespace Go.Ev
open Go Go.RowKit
structure Fs where
 lk:Nat→AV
 lo:Nat→Option AO
def Fs.app (σ:Fs) (d:Option Nat) (v:AV) (up:Option (Nat × AO)):Fs:=⟨setK σ.lk d v,upO σ.lo up⟩
inductive Gives (P:Program) (K:World→Prop):AOp→Fs→AV→Option (Nat × AO)→Prop
 | plain (op:AOp) (σ:Fs) (s f:Prop) (v:AV) (up:Option (Nat × AO)) (he:ev σ.lk σ.lo op=.ok s f v up) (hs:s):Gives P K op σ v up
 | call (g:FuncId) (args:List Opd) (ids:List Nat) (σ:Fs) (xs:List IV) (r:IV) (hp:peek σ.lo ids (args.map (·.av σ.lk))=some xs) (hg:Good P K g xs r) (hr:ids=[]∨scalar r=true):Gives P K (.call g args ids) σ (.iv r) none
 | callo (g:FuncId) (args:List Opd) (id:Nat) (σ:Fs) (xs:List IV) (q:AV) (e:TypeId) (sz:Nat) (rows:List (List IV)) (mv:Nat) (hp:ivs (args.map (·.av σ.lk))=some xs) (hg:GoodO P K g xs q e sz rows mv) (hid:σ.lo id=none) :
   Gives P K (.callo g args [] id) σ (ren id q) (some (id,rowO e sz rows mv))
 | calld (x:Opd) (g:FuncId) (args:List Opd) (ids:List Nat) (σ:Fs) (xs:List IV) (r:IV) (hx:x.av σ.lk=.iv (.fn g)) (hc:callee P g=true) (hp:peek σ.lo ids (args.map (·.av σ.lk))=some xs) (hg:Good P K g xs r) (hr:ids=[]∨scalar r=true) :
   Gives P K (.calld x args ids) σ (.iv r) none
 | callr (g:FuncId) (x:Opd) (args:List Opd) (id:Nat) (σ:Fs) (xs:List IV) (e:TypeId) (sz:Nat) (rows rows':List (List IV)) (mv:Nat) (hx:x.av σ.lk=.aref id rows.length) (hid:σ.lo id=some (rowO e sz rows mv)) (hp:ivs (args.map (·.av σ.lk))=some xs) (hg:GoodR P K g e sz rows xs rows') :
   Gives P K (.callr g x args id) σ (.aref id rows'.length) (some (id,rowO e sz rows' rows'.length))
 | callm (g:FuncId) (x:Opd) (args:List Opd) (id:Nat) (σ:Fs) (xs:List IV) (e:TypeId) (sz:Nat) (kvs:List (MK × List (List IV))) (k:MK) (n:Nat) (rows':List (List IV)) (hx:x.av σ.lk=.mref id k n) (hn:((mfind k kvs).getD []).length=n) (hid:σ.lo id=some (.mapr e sz kvs none))
   (hp:ivs (args.map (·.av σ.lk))=some xs) (hg:GoodR P K g e sz ((mfind k kvs).getD []) xs rows') :
   Gives P K (.callr g x args id) σ (.mref id k rows'.length) (some (id,.mapr e sz (mins k rows' kvs) (some k)))
 | caldc (x:Opd) (g:FuncId) (fs cs:List IV) (args:List Opd) (ids:List Nat) (σ:Fs) (xs:List IV) (r:IV) (hc:callee P g=true) (hp:peek σ.lo ids (x.av σ.lk::args.map (·.av σ.lk))=some (.clo g fs cs::xs)) (hg:Good P K g (fs++xs++cs) r) (hr:ids=[]∨scalar r=true) :
   Gives P K (.calld x args ids) σ (.iv r) none
 | callb (x:Opd) (args:List Opd) (id:Nat) (σ:Fs) (xs:List IV) (s s':Ext) (y:IV) (hx:x.av σ.lk=.cb id) (hid:σ.lo id=some (.ext s)) (hp:ivs (args.map (·.av σ.lk))=some xs) (hg:CbGives P K s xs y s') (hy:scalar y=true) :
   Gives P K (.callb x args id) σ (.iv y) (some (id,.ext s'))
 | callx (g:FuncId) (args:List Opd) (x:Opd) (id:Nat) (σ:Fs) (xs:List IV) (s s':Ext) (y:IV) (hx:x.av σ.lk=.cb id) (hid:σ.lo id=some (.ext s)) (hp:ivs (args.map (·.av σ.lk))=some xs) (hg:GoodX P K g xs [] s y s') (hy:scalar y=true) :
   Gives P K (.callx g (args++[x]) id) σ (.iv y) (some (id,.ext s'))
 | cpy (id:Nat) (x y:Opd) (σ:Fs) (e:TypeId) (rows rows':List (List IV)) (mv:Nat) (hx:x.av σ.lk=.aref id rows.length) (hid:σ.lo id=some (rowO e 1 rows mv)) (hy:y.av σ.lk=.iv (.sl 1 rows')) (hl:rows'.length=rows.length) :
   Gives P K (.cpy id x y) σ (.iv (.int .i64 rows.length)) (some (id,rowO e 1 rows' rows'.length))
def AOp.isCb:AOp→Bool
 | .callb _ _ _ | .callx _ _ _=>true
 | _=>false
def Yields (P:Program) (K:World→Prop) (A:AOper) (σ:Fs) (v:AV) (up:Option (Nat × AO)):Prop :=
 match A.g with
 | none=>Gives P K A.op σ v up
 | some (t,b)=>(σ.lk t=.iv (.bool b)∧Gives P K A.op σ v up)∨((σ.lk t=.iv (.bool (!b))∨σ.lk t=.iv (.tup []))∧v=.iv (.tup [])∧up=none)
def cloAV:AV→Option (FuncId × List AV × List AV)
 | .iv (.fn g)=>some (g,[],[])
 | .iv (.clo g fs cs)=>some (g,fs.map .iv,cs.map .iv)
 | .clo g fs cs=>some (g,fs,cs)
 | _=>none
def AOp.isH:AOp→Bool
 | .callh _ _ _ | .caldh _ _ _=>true
 | _=>false
inductive HGives (P:Program) (K:World→Prop) (d:Option Nat) (σ:Fs):AOp→Fs→Prop
 | callh (g:FuncId) (args:List Opd) (ids keep:List Nat) (y':AV) (lo':Nat→Option AO) (args0:List AV) (lo0:Nat→Option AO) (st:List Nat) (y:AV) (lo1:Nat→Option AO) (dom:List Nat)
   (h:HG P K g (args.map (·.av σ.lk)) ids keep σ.lo y' lo' args0 lo0 st y lo1 dom):HGives P K d σ (.callh g args ids) ⟨setK (fun t=>scr keep (σ.lk t)) d y',lo'⟩
 | caldh (x:Opd) (g:FuncId) (fs cs:List AV) (args:List Opd) (ids keep:List Nat) (y':AV) (lo':Nat→Option AO) (args0:List AV) (lo0:Nat→Option AO) (st:List Nat) (y:AV) (lo1:Nat→Option AO) (dom:List Nat)
   (hx:cloAV (x.av σ.lk)=some (g,fs,cs)) (hc:callee P g=true) (h:HG P K g (fs++args.map (·.av σ.lk)++cs) ids keep σ.lo y' lo' args0 lo0 st y lo1 dom):HGives P K d σ (.caldh x args ids) ⟨setK (fun t=>scr keep (σ.lk t)) d y',lo'⟩
inductive Moves (P:Program) (K:World→Prop) (A:AOper) (σ:Fs):Fs→Prop
 | app (v:AV) (up:Option (Nat × AO)) (hy:Yields P K A σ v up):Moves P K A σ (σ.app A.d v up)
 | h (σ':Fs) (hg:A.g=none∨∃ t b,A.g=some (t,b)∧σ.lk t=.iv (.bool b)) (hh:HGives P K A.d σ A.op σ'):Moves P K A σ σ'
theorem HGives.isH {P:Program} {K:World→Prop} {d:Option Nat} {σ σ':Fs} {op:AOp} (h:HGives P K d σ op σ'):op.isH=true:=by
 cases h<;>rfl
def AOper.tmps (A:AOper):List Nat:=A.op.tmps++(match A.g with | some (t,_)=>[t] | none=>[])
theorem peek_congr {lo lo':Nat→Option AO} {ids:List Nat} {xs:List AV} (h:∀ i∈ids,lo' i=lo i):peek lo' ids xs=peek lo ids xs:=by
 unfold peek
 split
 ·rfl
 ·congr 1
  funext i
  split
  ·rename_i hi
   exact h i (by simpa using hi)
  ·rfl
section
variable {P:Program} {K:World→Prop}
theorem Gives.congr {op:AOp} {σ σ':Fs} {v:AV} {up:Option (Nat × AO)} (h:Gives P K op σ v up) (h1:∀ t∈op.tmps,σ'.lk t=σ.lk t) (h2:∀ i∈op.objs,σ'.lo i=σ.lo i):Gives P K op σ' v up:=by
 cases h with
 | plain op σ s f v up he hs=>exact .plain _ _ s f _ _ (by rw[ev_congr h1 h2];exact he) hs
 | call g args ids _ xs r hp hg hr =>
   refine .call g args ids σ' xs r ?_ hg hr
   rw[map_av_congr (lk:=σ.lk) (lk':=σ'.lk) (by simpa[AOp.tmps] using h1),peek_congr (lo:=σ.lo) (by simpa[AOp.objs] using h2)]
   exact hp
 | callo g args id _ xs q e sz rows mv hp hg hid =>
   refine .callo g args id σ' xs q e sz rows mv ?_ hg ?_
   ·rw[map_av_congr (lk:=σ.lk) (lk':=σ'.lk) (by simpa[AOp.tmps] using h1)]
    exact hp
   ·rw[h2 id (by simp[AOp.objs])]
    exact hid
 | calld x g args ids _ xs r hx hc hp hg hr =>
   refine .calld x g args ids σ' xs r ?_ hc ?_ hg hr
   ·rw[Opd.av_congr (lk:=σ.lk) (fun t ht=>h1 t (by simp[AOp.tmps,ht]))]
    exact hx
   ·rw[map_av_congr (lk:=σ.lk) (lk':=σ'.lk) (fun t ht=>h1 t (by simp only[AOp.tmps,List.mem_append];exact .inr ht)),peek_congr (lo:=σ.lo) (by simpa[AOp.objs] using h2)]
    exact hp
 | callr g x args id _ xs e sz rows rows' mv hx hid hp hg =>
   refine .callr g x args id σ' xs e sz rows rows' mv ?_ ?_ ?_ hg
   ·rw[Opd.av_congr (lk:=σ.lk) (fun t ht=>h1 t (by simp[AOp.tmps,ht]))]
    exact hx
   ·rw[h2 id (by simp[AOp.objs])]
    exact hid
   ·rw[map_av_congr (lk:=σ.lk) (lk':=σ'.lk) (fun t ht=>h1 t (by simp only[AOp.tmps,List.mem_append];exact .inr ht))]
    exact hp
 | callm g x args id _ xs e sz kvs k n rows' hx hn hid hp hg =>
   refine .callm g x args id σ' xs e sz kvs k n rows' ?_ hn ?_ ?_ hg
   ·rw[Opd.av_congr (lk:=σ.lk) (fun t ht=>h1 t (by simp[AOp.tmps,ht]))]
    exact hx
   ·rw[h2 id (by simp[AOp.objs])]
    exact hid
   ·rw[map_av_congr (lk:=σ.lk) (lk':=σ'.lk) (fun t ht=>h1 t (by simp only[AOp.tmps,List.mem_append];exact .inr ht))]
    exact hp
 | caldc x g fs cs args ids _ xs r hc hp hg hr =>
   refine .caldc x g fs cs args ids σ' xs r hc ?_ hg hr
   rw[Opd.av_congr (lk:=σ.lk) (fun t ht=>h1 t (by simp[AOp.tmps,ht])),map_av_congr (lk:=σ.lk) (lk':=σ'.lk) (fun t ht=>h1 t (by simp only[AOp.tmps,List.mem_append];exact .inr ht)),peek_congr (lo:=σ.lo) (by simpa[AOp.objs] using h2)]
   exact hp
 | callb x args id _ xs s s' y hx hid hp hg hy =>
   refine .callb x args id σ' xs s s' y ?_ ?_ ?_ hg hy
   ·rw[Opd.av_congr (lk:=σ.lk) (fun t ht=>h1 t (by simp[AOp.tmps,ht]))]
    exact hx
   ·rw[h2 id (by simp[AOp.objs])]
    exact hid
   ·rw[map_av_congr (lk:=σ.lk) (lk':=σ'.lk) (fun t ht=>h1 t (by simp only[AOp.tmps,List.mem_append];exact .inr ht))]
    exact hp
 | callx g args x id _ xs s s' y hx hid hp hg hy =>
   refine .callx g args x id σ' xs s s' y ?_ ?_ ?_ hg hy
   ·rw[Opd.av_congr (lk:=σ.lk) (fun t ht=>h1 t (by simp only[AOp.tmps,List.flatMap_append,List.mem_append];exact .inr (by simp[ht])))]
    exact hx
   ·rw[h2 id (by simp[AOp.objs])]
    exact hid
   ·rw[map_av_congr (lk:=σ.lk) (lk':=σ'.lk) (fun t ht=>h1 t (by simp only[AOp.tmps,List.flatMap_append,List.mem_append];exact .inl ht))]
    exact hp
 | cpy id x y _ e rows rows' mv hx hid hy hl =>
   refine .cpy id x y σ' e rows rows' mv ?_ ?_ ?_ hl
   ·rw[Opd.av_congr (lk:=σ.lk) (fun t ht=>h1 t (by simp[AOp.tmps,ht]))]
    exact hx
   ·rw[h2 id (by simp[AOp.objs])]
    exact hid
   ·rw[Opd.av_congr (lk:=σ.lk) (fun t ht=>h1 t (by simp[AOp.tmps,ht]))]
    exact hy
theorem Gives.sets {op:AOp} {σ:Fs} {v:AV} {id:Nat} {ob:AO} (h:Gives P K op σ v (some (id,ob))):id∈op.sets:=by
 cases h with
 | plain _ _ s f _ _ he hs=>exact ev_sets he
 | callo=>simp[AOp.sets]
 | callr=>simp[AOp.sets]
 | callm=>simp[AOp.sets]
 | callb=>simp[AOp.sets]
 | callx=>simp[AOp.sets]
 | cpy=>simp[AOp.sets]
theorem Yields.congr {A:AOper} {σ σ':Fs} {v:AV} {up:Option (Nat × AO)} (h:Yields P K A σ v up) (h1:∀ t∈A.tmps,σ'.lk t=σ.lk t) (h2:∀ i∈A.op.objs,σ'.lo i=σ.lo i):Yields P K A σ' v up:=by
 unfold Yields AOper.tmps at *
 cases hg:A.g with
 | none =>
   simp only[hg] at h h1 ⊢
   exact h.congr (fun t ht=>h1 t (by simp[ht])) h2
 | some tb =>
   obtain ⟨t,b⟩:=tb
   simp only[hg] at h h1 ⊢
   have ht:=h1 t (by simp)
   rw[ht]
   exact h.imp (fun ⟨h3,h4⟩=>⟨h3,h4.congr (fun t ht=>h1 t (by simp[ht])) h2⟩) id
theorem Yields.sets {A:AOper} {σ:Fs} {v:AV} {id:Nat} {ob:AO} (h:Yields P K A σ v (some (id,ob))):id∈A.op.sets:=by
 unfold Yields at h
 split at h
 ·exact h.sets
 ·rcases h with ⟨_,h⟩ | ⟨_,_,h⟩
  ·exact h.sets
  ·cases h
def apartA (A B:AOper):Bool :=
 !A.op.isH&&!B.op.isH &&
 (match A.d with | some d=>!B.tmps.contains d&&B.d != some d | none=>true) &&
 (match B.d with | some d=>!A.tmps.contains d | none=>true) &&
 A.op.sets.all (fun i=>!B.op.objs.contains i&&!B.op.sets.contains i) &&
 B.op.sets.all (fun i=>!A.op.objs.contains i)
theorem apartA_spec {A B:AOper} (h:apartA A B=true):A.op.isH=false∧B.op.isH=false∧(∀ d,A.d=some d→d ∉ B.tmps∧B.d≠some d)∧(∀ d,B.d=some d→d ∉ A.tmps) ∧
  (∀ i∈A.op.sets,i ∉ B.op.objs∧i ∉ B.op.sets)∧(∀ i∈B.op.sets,i ∉ A.op.objs):=by
 simp only[apartA,Bool.and_eq_true,List.all_eq_true,Bool.not_eq_true'] at h
 obtain ⟨⟨⟨⟨⟨g1,g2⟩,h1⟩,h2⟩,h3⟩,h4⟩:=h
 refine ⟨g1,g2,fun d hd=>?_,fun d hd=>?_,fun i hi=>?_,fun i hi=>?_⟩
 ·simp[hd] at h1;exact h1
 ·simp[hd] at h2;exact h2
 ·have:=h3 i hi;simp at this;exact this
 ·have:=h4 i hi;simp at this;exact this
theorem setK_keep {lk:Nat→AV} {d:Option Nat} {v:AV} {t:Nat} (h:∀ x,d=some x→x≠t):setK lk d v t=lk t:=by
 cases d with
 | none=>rfl
 | some x=>simp[setK,Ne.symm (h x rfl)]
theorem upO_keep {lo:Nat→Option AO} {up:Option (Nat × AO)} {i:Nat} (h:∀ x o,up=some (x,o)→x≠i):upO lo up i=lo i:=by
 cases up with
 | none=>rfl
 | some p=>obtain ⟨x,o⟩:=p;simp[upO,setO,Ne.symm (h x o rfl)]
theorem app_comm {A B:AOper} (h:apartA A B=true) {σ:Fs} {v u:AV} {up uq:Option (Nat × AO)} (hs:∀ i o,up=some (i,o)→i∈A.op.sets) (hs':∀ i o,uq=some (i,o)→i∈B.op.sets) :
  (σ.app A.d v up).app B.d u uq=(σ.app B.d u uq).app A.d v up:=by
 obtain ⟨_,_,h1,h2,h3,h4⟩:=apartA_spec h
 unfold Fs.app
 congr 1
 ·funext t
  cases hA:A.d with
  | none=>rfl
  | some d =>
    cases hB:B.d with
    | none=>rfl
    | some d' =>
      have hne:d'≠d:=fun e=>(h1 d hA).2 (by rw[hB,e])
      simp only[setK]
      by_cases e1:t=d'<;>by_cases e2:t=d<;>simp_all
 ·funext i
  cases up with
  | none=>rfl
  | some p =>
    cases uq with
    | none=>rfl
    | some q =>
      obtain ⟨x,ox⟩:=p
      obtain ⟨y,oy⟩:=q
      have hx:=hs x ox rfl
      have hy:=hs' y oy rfl
      have hne:y≠x:=fun e=>(h3 x hx).2 (e▸hy)
      simp only[upO,setO]
      by_cases e1:i=y<;>by_cases e2:i=x<;>simp_all
variable {ops:Array Oper} {as:List AOper} {md:Region.Mode}
def aqOp (P:Program) (K:World→Prop) (as:List AOper) (i:Nat) (C:Fs→Prop) (σ:Fs):Prop :=
 match as[i]? with
 | none=>C σ
 | some A=>∃ σ',Moves P K A σ σ'∧C σ'
theorem aqOp_mono {i:Nat} {C C':Fs→Prop} {σ:Fs} (h:∀ σ,C σ→C' σ) (hh:aqOp P K as i C σ):aqOp P K as i C' σ:=by
 unfold aqOp at *
 split at hh
 ·exact h _ hh
 ·obtain ⟨σ',h1,h2⟩:=hh;exact ⟨σ',h1,h _ h2⟩
def wpAnyA (P:Program) (K:World→Prop) (md:Region.Mode) (ops:Array Oper) (as:List AOper) (Q:Fs→Prop):Nat→Array Bool→Fs→Prop
 | 0,listed,σ=>Region.ready md ops listed=[]∧Q σ
 | fuel+1,listed,σ =>
   (Region.ready md ops listed=[]→Q σ) ∧
   ∀ i∈Region.ready md ops listed,aqOp P K as i (wpAnyA P K md ops as Q fuel (listed.setIfInBounds i true)) σ
theorem aqOp_put {j:Nat} {Ai Aj:AOper} (hj:as[j]?=some Aj) (hap:apartA Ai Aj=true) {C:Fs→Prop} {σ σ1:Fs}
  (hy:Moves P K Ai σ σ1) (h:aqOp P K as j C σ1) :
  aqOp P K as j (fun σ'=>∃ σ2,Moves P K Ai σ' σ2∧C σ2) σ:=by
 obtain ⟨g1,g2,h1,h2,h3,h4⟩:=apartA_spec hap
 cases hy with
 | h _ _ hh=>rw[hh.isH] at g1;cases g1
 | app v up hy =>
   have hsi:∀ i o,up=some (i,o)→i∈Ai.op.sets:=fun i o e=>by subst e;exact hy.sets
   unfold aqOp at *
   simp only[hj] at *
   obtain ⟨σ',hm,hc⟩:=h
   cases hm with
   | h _ _ hh=>rw[hh.isH] at g2;cases g2
   | app u uq hu =>
     have hu':Yields P K Aj σ u uq:=by
      refine hu.congr (fun t ht=>?_) (fun i hi=>?_)
      ·simp only[Fs.app]
       exact (setK_keep fun x hx e=>(h1 x hx).1 (e▸ht)).symm
      ·simp only[Fs.app]
       exact (upO_keep fun x o hx e=>(h3 x (hsi x o hx)).1 (e▸hi)).symm
     have hsj:∀ i o,uq=some (i,o)→i∈Aj.op.sets:=fun i o e=>by subst e;exact hu.sets
     refine ⟨_,.app u uq hu',_,.app v up (hy.congr (fun t ht=>?_) (fun i hi=>?_)),?_⟩
     ·simp only[Fs.app]
      exact setK_keep fun x hx e=>h2 x hx (e▸ht)
     ·simp only[Fs.app]
      exact upO_keep fun x o hx e=>h4 x (hsj x o hx) (e▸hi)
     ·rw[← app_comm hap hsi hsj]
      exact hc
def apartH (A B:AOper):Bool :=
 match A.op,B.op with
 | .mov (.t s),.callh _ _ _=>A.g==none&&B.g==none&&(match A.d with | some d=>!B.tmps.contains d&&B.d != some d | none=>true)&&B.d != some s
 | _,_=>false
theorem aqOp_putH {j:Nat} {Ai Aj:AOper} (hj:as[j]?=some Aj) (hap:apartH Ai Aj=true) {C:Fs→Prop} {σ σ1:Fs}
  (hy:Moves P K Ai σ σ1) (h:aqOp P K as j C σ1) :
  aqOp P K as j (fun σ'=>∃ σ2,Moves P K Ai σ' σ2∧C σ2) σ:=by
 obtain ⟨di,gi,opi⟩:=Ai
 obtain ⟨dj,gj,opj⟩:=Aj
 unfold apartH at hap
 simp only at hap
 split at hap
 ·rename_i s g args ids
  simp only[Bool.and_eq_true,beq_iff_eq,bne_iff_ne,ne_eq] at hap
  obtain ⟨⟨⟨rfl,rfl⟩,h1⟩,h2⟩:=hap
  have hd:∀ d,di=some d→d ∉ (args.flatMap (·.tmps))∧dj≠some d:=fun d e=>by
   subst e
   simpa[AOper.tmps,AOp.tmps] using h1
  cases hy with
  | h _ _ hh=>cases hh
  | app v up hy =>
    simp only[Yields] at hy
    cases hy with
    | plain _ _ st ft _ _ he hs =>
      simp only[ev,Opd.av,Res.ok.injEq] at he
      obtain ⟨_,_,rfl,rfl⟩:=he
      unfold aqOp at *
      simp only[hj] at *
      obtain ⟨σ',hm,hc⟩:=h
      cases hm with
      | app u uq hu =>
        simp only[Yields] at hu
        cases hu with
        | plain _ _ _ _ _ _ he _=>simp[ev] at he
      | h _ hg hh =>
        cases hh with
        | callh _ _ _ keep y' lo' args0 lo0 st0 y lo1 dom hhg =>
          have hargs:args.map (·.av (σ.app di (σ.lk s) none).lk)=args.map (·.av σ.lk):=by
           refine List.map_congr_left fun x hx=>Opd.av_congr fun t ht=>?_
           simp only[Fs.app]
           exact setK_keep fun d hdd e=>(hd d hdd).1 (List.mem_flatMap.2 ⟨x,hx,e▸ht⟩)
          rw[hargs] at hhg
          refine ⟨_,.h _ (.inl rfl) (.callh g args ids keep y' lo' args0 lo0 st0 y lo1 dom hhg),_,.app (scr keep (σ.lk s)) none ?_,?_⟩
          ·refine .plain _ _ True True _ _ ?_ trivial
           simp only[ev,Opd.av]
           rw[setK_keep (by intro x hx e;subst e;exact h2 hx)]
          ·have:(Fs.app ⟨setK (fun t=>scr keep (σ.lk t)) dj y',lo'⟩ di (scr keep (σ.lk s)) none)=⟨setK (fun t=>scr keep ((σ.app di (σ.lk s) none).lk t)) dj y',lo'⟩:=by
            unfold Fs.app
            congr 1
            funext t
            cases di with
            | none=>rfl
            | some d =>
              have hne:=(hd d rfl).2
              cases dj with
              | none=>simp only[setK];split<;>rfl
              | some d' =>
                have hne':d'≠d:=fun e=>hne (by rw[e])
                simp only[setK]
                by_cases e1:t=d'<;>by_cases e2:t=d<;>simp_all
           rw[this]
           exact hc
 ·cases hap
def apart2 (A B:AOper):Bool:=apartA A B||apartH A B
theorem aqOp_put2 {j:Nat} {Ai Aj:AOper} (hj:as[j]?=some Aj) (hap:apart2 Ai Aj=true) {C:Fs→Prop} {σ σ1:Fs}
  (hy:Moves P K Ai σ σ1) (h:aqOp P K as j C σ1) :
  aqOp P K as j (fun σ'=>∃ σ2,Moves P K Ai σ' σ2∧C σ2) σ:=by
 simp only[apart2,Bool.or_eq_true] at hap
 rcases hap with hap | hap
 ·exact aqOp_put hj hap hy h
 ·exact aqOp_putH hj hap hy h
def reaches (md:Region.Mode) (ops:Array Oper):Nat→Nat→Nat→Bool
 | 0,_,_=>false
 | n+1,i,j=>match ops[j]? with
   | none=>false
   | some o=>o.after.any (fun e=>Region.binds md e&&e.on==i)||o.after.any (fun e=>Region.binds md e&&decide (i<e.on)&&reaches md ops n i e.on)
def Clo (md:Region.Mode) (ops:Array Oper) (listed:Array Bool):Prop:=∀ j o,ops[j]?=some o→listed.getD j false=true→∀ e∈o.after,Region.binds md e=true→listed.getD e.on false=true
theorem Clo.not_reaches {listed:Array Bool} {i:Nat} (hc:Clo md ops listed) (hi:listed.getD i false=false):∀ (n j:Nat) (o:Oper),ops[j]?=some o→(∀ e∈o.after,Region.binds md e=true→listed.getD e.on false=true)→reaches md ops n i j=false
 | 0,_,_,_,_=>rfl
 | n+1,j,o,hj,hall=>by
   simp only[reaches,hj,Bool.or_eq_false_iff]
   rw[Array.any_eq_false',Array.any_eq_false']
   refine ⟨fun e he hb=>?_,fun e he hb=>?_⟩
   ·simp only[Bool.and_eq_true,beq_iff_eq] at hb
    have hl:=hall e he hb.1
    rw[hb.2,hi] at hl
    cases hl
   ·simp only[Bool.and_eq_true] at hb
    obtain ⟨⟨hb,_⟩,h⟩:=hb
    have hl:=hall e he hb
    cases ho:ops[e.on]? with
    | none =>
      cases n with
      | zero=>simp[reaches] at h
      | succ n=>simp[reaches,ho] at h
    | some o' =>
      rw[hc.not_reaches hi n e.on o' ho (hc e.on o' ho hl)] at h
      cases h
theorem Clo.set {listed:Array Bool} {j:Nat} (hc:Clo md ops listed) (hj:j∈Region.ready md ops listed):Clo md ops (listed.setIfInBounds j true):=by
 intro k o ho hk e he hb
 obtain ⟨_,oj,hoj,hall⟩:=mem_ready.1 hj
 by_cases hjk:j=k
 ·subst hjk
  rw[ho] at hoj
  injection hoj with hoj
  subst hoj
  exact getD_set_true (hall e he hb)
 ·rw[getD_set_ne false hjk] at hk
  exact getD_set_true (hc k o ho hk e he hb)
theorem getD_false {listed:Array Bool} {i:Nat} (h:listed.getD i true=false):listed.getD i false=false:=by
 rcases Nat.lt_or_ge i listed.size with h' | h'
 ·simp[h'] at h ⊢;exact h
 ·simp[Array.getElem?_eq_none h']
theorem wpAnyA_first {Q:Fs→Prop} {i:Nat} {Ai:AOper} (hlen:ops.size=as.length) (hi:as[i]?=some Ai) :
  ∀ (fuel:Nat) (listed:Array Bool) (σ σ1:Fs),
   (∀ j Aj oj,as[j]?=some Aj→ops[j]?=some oj→j≠i→listed.getD j true=false→(∀ n,reaches md ops n i j=false)→apart2 Ai Aj=true) →
   Clo md ops listed→i∈Region.ready md ops listed→Moves P K Ai σ σ1 →
   wpAnyA P K md ops as Q fuel (listed.setIfInBounds i true) σ1→wpAnyA P K md ops as Q (fuel+1) listed σ:=by
 intro fuel
 induction fuel with
 | zero =>
   intro listed σ σ1 _ _ hr hy H
   refine ⟨fun h=>(by rw[h] at hr;cases hr),fun j hj=>?_⟩
   by_cases hji:j=i
   ·subst hji
    unfold aqOp;simp only[hi];exact ⟨σ1,hy,H⟩
   ·have:=ready_mono hj hji
    rw[H.1] at this
    cases this
 | succ fuel ih =>
   intro listed σ σ1 hfree hcl hr hy H
   refine ⟨fun h=>(by rw[h] at hr;cases hr),fun j hj=>?_⟩
   by_cases hji:j=i
   ·subst hji
    unfold aqOp;simp only[hi];exact ⟨σ1,hy,H⟩
   ·have h1:=H.2 j (ready_mono hj hji)
    obtain ⟨hjun,oj,hoj,hall⟩:=mem_ready.1 hj
    have hjlt:j<as.length:=by
     have:=(Array.getElem?_eq_some_iff.1 hoj).1
     omega
    have hAj:as[j]?=some as[j]:=List.getElem?_eq_getElem hjlt
    have hnot:∀ n,reaches md ops n i j=false:=fun n=>hcl.not_reaches (getD_false (mem_ready.1 hr).1) n j oj hoj hall
    have h2:=aqOp_put2 hAj (hfree j _ oj hAj hoj hji hjun hnot) hy h1
    have hfree':∀ k Ak ok,as[k]?=some Ak→ops[k]?=some ok→k≠i→(listed.setIfInBounds j true).getD k true=false →
      (∀ n,reaches md ops n i k=false)→apart2 Ai Ak=true:=fun k Ak ok hAk hok hki hun hno=>by
     refine hfree k Ak ok hAk hok hki ?_ hno
     by_cases hjk:j=k
     ·subst hjk;exact hjun
     ·rw[getD_set_ne true hjk] at hun;exact hun
    refine aqOp_mono (fun σ' ⟨σ2,hm,hw⟩=>ih (listed.setIfInBounds j true) σ' σ2 hfree' (hcl.set hj) (ready_mono hr (Ne.symm hji)) hm ?_) h2
    rw[Array.setIfInBounds_comm _ _ hji]
    exact hw
inductive Path (P:Program) (K:World→Prop):List AOper→Fs→Fs→Prop
 | nil (σ:Fs):Path P K [] σ σ
 | cons (A:AOper) (l:List AOper) (σ σ1 σ':Fs) (hy:Moves P K A σ σ1) (h:Path P K l σ1 σ'):Path P K (A::l) σ σ'
def pairsOk (ops:Array Oper) (as:List AOper):Bool :=
 (List.range as.length).all fun i=>(List.range as.length).all fun j =>
   match as[i]?,as[j]? with
   | some A,some B=>!decide (i<j)||apart2 A B||reaches .any ops as.length i j
   | _,_=>false
theorem pairsOk_spec (h:pairsOk ops as=true) {i j:Nat} {A B:AOper} (hi:as[i]?=some A) (hj:as[j]?=some B) (hij:i<j)
  (hn:∀ n,reaches .any ops n i j=false):apart2 A B=true:=by
 simp only[pairsOk,List.all_eq_true,List.mem_range] at h
 have:=h i (List.getElem?_eq_some_iff.1 hi).1 j (List.getElem?_eq_some_iff.1 hj).1
 simp only[hi,hj,hij,decide_true,Bool.not_true,Bool.false_or,Bool.or_eq_true,hn] at this
 rcases this with h | h
 ·exact h
 ·cases h
theorem wpAnyA_lex {Q:Fs→Prop} (hlen:ops.size=as.length) (hpairs:pairsOk ops as=true):∀ (l:List AOper) (k:Nat) (listed:Array Bool) (σ σ':Fs),(∀ j,l[j]?=as[k+j]?) →
  (∀ j,j<k→listed.getD j true=true)→Clo .any ops listed→Region.lexFrom .any ops l.length k listed=true→Path P K l σ σ'→Q σ'→wpAnyA P K .any ops as Q l.length listed σ
 | [],_,_,σ,σ',_,_,_,hB,hp,h=>by
   cases hp
   exact ⟨by simpa[Region.lexFrom] using hB,h⟩
 | A::l,k,listed,σ,σ',hl,hlist,hcl,hB,hp,h=>by
   have h0:as[k]?=some A:=by simpa using (hl 0).symm
   simp only[List.length_cons,Region.lexFrom,Bool.and_eq_true] at hB
   obtain ⟨⟨hr,hf⟩,hB'⟩:=hB
   have hr':k∈Region.ready .any ops listed:=by simpa using hr
   cases hp with
   | cons _ _ _ σ1 _ hy hp =>
     refine wpAnyA_first hlen h0 l.length listed σ σ1 (fun j Aj oj hAj hoj hji hun hno=>?_) hcl hr' hy
      (wpAnyA_lex hlen hpairs l (k+1) _ _ σ' (fun j=>by have:=hl (j+1);simpa[Nat.add_assoc,Nat.add_comm 1 j] using this) (fun j hj=>?_) (hcl.set hr') hB' hp h)
     ·have hjk:k<j:=by
       rcases Nat.lt_or_ge j k with hlt | hge
       ·rw[hlist j hlt] at hun;cases hun
       ·omega
      exact pairsOk_spec hpairs h0 hAj hjk hno
     ·by_cases hjk:j=k
      ·subst hjk
       by_cases hs:j<listed.size
       ·simp[hs]
       ·simp[Array.getElem?_eq_none (Nat.le_of_not_lt hs)]
      ·rw[getD_set_ne true (Ne.symm hjk)]
       exact hlist j (by omega)
theorem clo_nil (n:Nat):Clo md ops (Array.replicate n false):=by
 intro j o _ hj
 simp[Array.getElem?_replicate] at hj
 split at hj<;>simp at hj
end
end Go.Ev

/- A region's run, from the run of the evaluator. -/
namespace Go.Ev
open Go Go.RowKit
def guardFits (ops:Array Oper):Option (Nat × Bool)→Option (Nat × Bool)→Bool
 | none,none=>true
 | some (t,b),some (j,c)=>b==c&&((ops[j]?).bind (·.dst))==some t
 | _,_=>false
def dstFits (N:Fm):Option Nat→Option Nat→Bool
 | none,none=>true
 | some d,some d'=>d==d'&&N.dst d
 | _,_=>false
def operFits (P:Program) (N:Fm) (ops:Array Oper) (A:AOper) (o:Oper):Bool:=dstFits N A.d o.dst&&guardFits ops A.g o.guard&&A.op.fits P o.op
def opersFit (P:Program) (N:Fm) (ops:Array Oper):List AOper→List Oper→Bool
 | [],[]=>true
 | A::r,o::s=>operFits P N ops A o&&opersFit P N ops r s
 | _,_=>false
theorem opersFit_get {P:Program} {N:Fm} {ops:Array Oper}:∀ {as:List AOper} {l:List Oper},opersFit P N ops as l=true→l.length=as.length ∧
  ∀ (i:Nat) (A:AOper) (o:Oper),as[i]?=some A→l[i]?=some o→operFits P N ops A o=true
 | [],[],_=>by simp
 | A::r,o::s,h=>by
   simp only[opersFit,Bool.and_eq_true] at h
   obtain ⟨h1,h2⟩:=opersFit_get h.2
   refine ⟨by simp[h1],fun i B p hB hp=>?_⟩
   cases i with
   | zero=>simp at hB hp;subst hB hp;exact h.1
   | succ i=>exact h2 i B p (by simpa using hB) (by simpa using hp)
 | [],_::_,h=>by simp[opersFit] at h
 | _::_,[],h=>by simp[opersFit] at h
structure Ctx (P:Program) (K:World→Prop) (ok0:Nat→Prop) (w0:Base):Prop where
 hK:∀ w,Keep w0.fr w0.w w→K w
 ok:∀ b,¬ w0.fr b→ok0 b
section
variable {P:Program} {K:World→Prop} {ok0:Nat→Prop} {N:Fm} {w0:Base} {a:Act} {w:World} {L:Nat→Lay} {o:Oper} {A:AOper} {σ:Fs} {v:AV} {up:Option (Nat × AO)}
theorem dst_spec {x y:Option Nat} (h:dstFits N x y=true):x=y∧∀ t,y=some t→N.dst t=true:=by
 unfold dstFits at h
 split at h
 ·exact ⟨rfl,by simp⟩
 ·simp only[Bool.and_eq_true,beq_iff_eq,decide_eq_true_eq] at h
  obtain ⟨rfl,h⟩:=h
  exact ⟨rfl,fun t ht=>by injection ht with ht;subst ht;exact h⟩
 ·cases h
theorem okL_new {ok0:Nat→Prop} {lk:Nat→AV} {lo:Nat→Option AO} (c:Ctx P K ok0 w0) (h:Rel ok0 N w0 lk lo a w L):∀ b,w.heap.size≤b→okL ok0 lo L b:=fun b hb =>
 ⟨c.ok b (h.frlt hb),fun id ob hob hbad=>by have:=((h.objs id ob hob).lt hbad).2;omega⟩
theorem peek_rep {ids:List Nat} {xs:List AV} {ys:List IV} {us:List Value} {r:IV} {lk:Nat→AV} {lo:Nat→Option AO} (c:Ctx P K ok0 w0) (h:Rel ok0 N w0 lk lo a w L) (hp:peek lo ids xs=some ys) (hl:us.length=xs.length)
  (hx:∀ (k:Nat) (x:AV) (u:Value),xs[k]?=some x→us[k]?=some u→RepA (okL ok0 lo L) w lo L x u) (hr:ids=[]∨scalar r=true) :
  ∃ ok:Nat→Prop,(∀ b,w.heap.size≤b→ok b)∧us.length=ys.length∧(∀ (k:Nat) (y:IV) (u:Value),ys[k]?=some y→us[k]?=some u→RepI ok w y u)∧(∀ w' u,RepI ok w' r u→RepI (okL ok0 lo L) w' r u):=by
 by_cases hids:ids=[]
 ·subst hids
  simp only[peek] at hp
  obtain ⟨h5,h6⟩:=ivs_rep hp hl hx
  exact ⟨okL ok0 lo L,okL_new c h,h5,h6,fun _ _ h=>h⟩
 ·have hsc:scalar r=true:=hr.resolve_left hids
  have hp':imms (fun i=>if ids.contains i then lo i else none) 40 xs=some ys:=by
   unfold peek at hp
   split at hp
   ·exact absurd rfl hids
   ·exact hp
  obtain ⟨h5,h6⟩:=(imm_sound h c.ok (lo':=fun i=>if ids.contains i then lo i else none) (fun id ob hob=>by
   split at hob
   ·exact hob
   ·cases hob) 40).2 _ _ hp'
  refine ⟨ok0,fun b hb=>c.ok b (h.frlt hb),by simp[h5,hl],fun k x u hx' hu=>?_,fun w' u hu=>scalar_rep hsc hu⟩
  have hk:k<xs.length:=by rw[← h5];exact (List.getElem?_eq_some_iff.1 hx').1
  exact h6 k _ x u (List.getElem?_eq_getElem hk) hx' (hx k _ u (List.getElem?_eq_getElem hk) hu)
theorem cpy_row {id:Nat} {x y:Opd} {e:TypeId} {rows rows':List (List IV)} {mv:Nat} (c:Ctx P K ok0 w0) (h:Rel ok0 N w0 σ.lk σ.lo a w L) (hf:fCpy P x y o.op=true)
  (hx:x.av σ.lk=.aref id rows.length) (hid:σ.lo id=some (rowO e 1 rows mv)) (hy:y.av σ.lk=.iv (.sl 1 rows')) (hl:rows'.length=rows.length) :
  ∃ w' v0 xs' ys,L id=.arr v0 ys∧(execOp a.eval o).run P w=.ok (.value (goInt rows.length)) w'∧RowBack w (okL ok0 σ.lo L) e 1 rows v0 rows' v0 xs' w':=by
 unfold fCpy at hf
 split at hf
 ·rename_i as ts ho
  split at hf
  ·rename_i p q t t2 has hts
   simp only[Bool.and_eq_true] at hf
   obtain ⟨⟨hp,hq⟩,hty⟩:=hf
   split at hty
   ·rename_i el hu
    have hsz:(P.info? el).map (·.size)=some 1:=by simpa using hty
    have hob:=h.objs _ _ hid
    cases hL:L id with
    | box b=>rw[hL] at hob;exact hob.elim
    | one b=>rw[hL] at hob;exact hob.elim
    | map b vals=>rw[hL] at hob;exact hob.elim
    | ext O D=>rw[hL] at hob;exact hob.elim
    | arr v0 ys =>
      rw[hL] at hob
      obtain ⟨hown,hmv,hrs,h1,hxx⟩:=hob
      rw[List.length_map] at hown
      have rx:=Opd.rep h hp
      rw[hx] at rx
      have hvp:=inv_aref_all hid hL rx
      have ry:=Opd.rep h hq
      rw[hy] at ry
      have ry:=inv_iv ry
      have hexec:∀ (r:Value) (w':World),(Builtin.copy_ #[t,t2] o.type #[a.eval p,a.eval q]).run P w=.ok r w'→(execOp a.eval o).run P w=.ok (.value r) w':=fun r w' hr=>by
       have has':as=#[p,q]:=by rw[← Array.toArray_toList (xs:=as),has]
       have hts':ts=#[t,t2]:=by rw[← Array.toArray_toList (xs:=ts),hts]
       subst has' hts'
       simp[execOp,ho,resolve,invoke,builtin,hr,Result.andThen]
      have keepw:∀ (xs':List Value),rows=[]→rows'=[]→xs'=ys→RowBack w (okL ok0 σ.lo L) e 1 rows v0 rows' v0 xs' w:=fun xs' e1 e2 e3=>by
       subst e1 e2 e3
       exact ⟨Keep.refl _ _,hown.own,fun b hb=>.inl hb,by simp,h1,by simp,Nat.le_refl _,fun _=>rfl⟩
      by_cases hz:rows.length=0
      ·have e1:rows=[]:=List.eq_nil_of_length_eq_zero hz
       have e2:rows'=[]:=List.eq_nil_of_length_eq_zero (by omega)
       refine ⟨w,v0,ys,ys,rfl,?_,keepw ys e1 e2 rfl⟩
       obtain ⟨d,dl,dc,hv,hdl⟩:∃ d dl dc,v0=.slice d dl dc∧dl=0:=by
        rcases hown.own.2 with ⟨hv,_⟩ | ⟨g,cap,cur,hv,_⟩
        ·exact ⟨none,0,0,hv,rfl⟩
        ·exact ⟨_,_,_,hv,hz⟩
       obtain ⟨s,sl,sc,hs⟩:∃ s sl sc,a.eval q=.slice s sl sc:=by
        generalize a.eval q=u at ry
        cases ry<;>exact ⟨_,_,_,rfl⟩
       have:=run_copy_none (P:=P) w t t2 o.type el d s dl dc sl sc hu hsz (by rw[hdl];exact Nat.min_zero _)
       rw[hz]
       exact hexec _ _ (by rw[hvp,hv,hs];exact this)
      ·rcases hown.own.2 with ⟨_,h00⟩ | ⟨g,cap,cur,hv,_,hg,hnc,hcm,hcs,htake⟩
       ·exact absurd h00 hz
       ·have hgb:v0.ownBlock=some g:=by rw[hv];rfl
        cases hq2:a.eval q with
        | slice sa sn sc =>
          rw[hq2] at ry
          cases ry with
          | nils=>simp at hl;omega
          | nilz=>simp at hl;omega
          | sl _ _ b off _ u hlc hcc hs hu2 hx2 =>
            simp only[Nat.mul_one] at hu2 hx2 hown htake hcs
            let cs:List Value:=(List.range rows'.length).map u
            have hcl:cs.length=rows'.length:=by simp[cs]
            have hcget:∀ (j:Nat) (v:Value),cs[j]?=some v→j<rows'.length∧v=u j:=fun j v hj=>by
             have hlt:j<rows'.length:=by rw[← hcl];exact (List.getElem?_eq_some_iff.1 hj).1
             simp only[cs,List.getElem?_map,List.getElem?_range hlt,Option.map_some,Option.some.injEq] at hj
             exact ⟨hlt,hj.symm⟩
            have hrun:=run_copy_row (P:=P) w t t2 o.type el g 0 rows.length cap ⟨b,off,none⟩ rows'.length sc cur e cs hu hsz hg (by rw[hcl,hl];exact (Nat.min_self _).symm) (fun j v hj=>by
             obtain ⟨h1',rfl⟩:=hcget j v hj
             rw[addr_add]
             exact (hu2 j h1').2.1) (by rw[hcl,hcs];omega) (fun v hv'=>by
             obtain ⟨j,hj⟩:=List.getElem?_of_mem hv'
             obtain ⟨h1',rfl⟩:=hcget j v hj
             exact (hu2 j h1').2.2)
            simp only[hcl,hl] at hrun
            refine ⟨_,v0,cs,ys,rfl,hexec _ _ (by rw[hvp,hv,hq2,hl];exact hrun),?_⟩
            have hset:=setRow_heap w g cur (cur.toList.take 0++cs++cur.toList.drop (0+rows.length)).toArray e (0,0) hg
            refine ⟨⟨rfl,rfl,rfl,by simp[World.setRow],fun k hk=>setRow_other w g k _ (fun e=>hk.2 (by rw[hgb,e]))⟩,⟨by rw[hcl,Nat.mul_one],.inr ⟨g,cap,_,by rw[hv,hl],Nat.zero_le _,hset,by omega,hcm,?_,?_⟩⟩,fun b hb=>.inl hb,hs,fun v hv'=>?_,fun i j c z v hi hj hv'=>?_,by omega,fun _=>rfl⟩
            ·simp[hcl];omega
            ·simp[hcl]
            ·obtain ⟨j,hj⟩:=List.getElem?_of_mem hv'
             obtain ⟨h1',rfl⟩:=hcget j v hj
             exact (hu2 j h1').2.2
            ·have hil:i<rows'.length:=(List.getElem?_eq_some_iff.1 hi).1
             have hj0:j=0:=by
              have:=hs c (List.mem_of_getElem? hi)
              have:=(List.getElem?_eq_some_iff.1 hj).1
              omega
             subst hj0
             rw[Nat.mul_one,Nat.add_zero] at hv'
             obtain ⟨_,rfl⟩:=hcget i v hv'
             have hr:=hx2 i 0 c z hi hj
             rw[Nat.add_zero] at hr
             refine hr.mono fun b' hb' hlt=>?_
             have hne:b'≠g:=fun e=>hb'.2 id _ hid (by rw[hL,e];exact hgb)
             exact ⟨⟨.inl hb',by rw[hgb];exact fun e=>hne (by injection e with e;exact e.symm)⟩,setRow_other w g b' _ hne⟩
        | _=>rw[hq2] at ry;cases ry
   ·cases hty
  ·cases hf
 ·cases hf
theorem gives_wp {C:Act→World→Prop} {Q:Exit→Act→World→Prop} (c:Ctx P K ok0 w0) (h:Rel ok0 N w0 σ.lk σ.lo a w L) (hd:dstFits N A.d o.dst=true) (hf:A.op.fits P o.op=true)
  (hy:Gives P K A.op σ v up) (hncb:A.op.isCb=false) (hC:∀ a' w' L',Rel ok0 N w0 (σ.app A.d v up).lk (σ.app A.d v up).lo a' w' L'→C a' w'):o.wp P a w C Q:=by
 obtain ⟨hde,hdlt⟩:=dst_spec hd
 have fixedV:∀ (g:FuncId) (xs:List IV) (us:List Value) (r:IV),(execOp a.eval o).run P w=.ok (.enter g us.toArray) w→Good P K g xs r →
   (∃ ok:Nat→Prop,(∀ b,w.heap.size≤b→ok b)∧us.length=xs.length∧(∀ (k:Nat) (x:IV) (u:Value),xs[k]?=some x→us[k]?=some u→RepI ok w x u) ∧
     (∀ w' u,RepI ok w' r u→RepI (okL ok0 σ.lo L) w' r u))→v=.iv r→up=none→o.wp P a w C Q:=by
  rintro g xs us r hrun hg ⟨ok,h1,h2,h3,h4⟩ hv hu
  subst hu
  have hkw:K w:=c.hK _ h.below
  unfold Oper.wp
  rw[hrun]
  simp only[Oper.upon]
  refine (hg w ok _ hkw h1 h2 h3).mono fun e w' hew=>?_
  obtain ⟨u,rfl,hu,hb⟩:=hew
  have hrel:=h.ext hb
  have hput:=hrel.put o.dst hdlt (x:=.iv r) (v:=u) (.iv _ _ (h4 w' u hu))
  refine hC _ _ L ?_
  rw[hv,hde]
  exact hput
 have fixed:∀ (g:FuncId) (args:List Opd) (ids:List Nat) (xs:List IV) (r:IV) (bs:List Operand),isAll args bs=true→(execOp a.eval o).run P w=.ok (.enter g (bs.map a.eval).toArray) w→peek σ.lo ids (args.map (·.av σ.lk))=some xs→Good P K g xs r→(ids=[]∨scalar r=true) →
   v=.iv r→up=none→o.wp P a w C Q:=by
  intro g args ids xs r bs hall hrun hp hg hr hv hu
  obtain ⟨hbl,hbx⟩:=isAll_spec h hall
  exact fixedV g xs _ r hrun hg (peek_rep c h hp (by simpa using hbl) hbx hr) hv hu
 have back:∀ (g:FuncId) (x:Opd) (args:List Opd) (id:Nat) (xs:List IV) (e:TypeId) (sz:Nat) (rows rows':List (List IV)) (v0:Value) (ys:List Value),A.op=.callr g x args id→ivs (args.map (·.av σ.lk))=some xs→GoodR P K g e sz rows xs rows' →
   (∀ u,RepA (okL ok0 σ.lo L) w σ.lo L (x.av σ.lk) u→u=v0)→ownsF w0.fr w e sz v0 rows.length ys→(∀ b,v0.ownBlock=some b→(∃ ob,σ.lo id=some ob)∧(L id).has b)→(∀ c∈rows,c.length=sz)→(∀ u∈ys,u.oneCell'=true) →
   (∀ (i j:Nat) (c:List IV) (x:IV) (u:Value),rows[i]?=some c→c[j]?=some x→ys[i*sz+j]?=some u→RepI (okL ok0 σ.lo L) w x u) →
   (∀ v' xs' w',RowBack w (okL ok0 σ.lo L) e sz rows v0 rows' v' xs' w'→∃ L',Rel ok0 N w0 (σ.app A.d v up).lk (σ.app A.d v up).lo (a.put o.dst v') w' L')→o.wp P a w C Q:=by
  intro g x args id xs e sz rows rows' v0 ys hop hp hg hx hown hhas hsz h1 hcx hfin
  rw[hop] at hf
  have hf':AOp.fits P (.call g (x::args) []) o.op=true:=hf
  obtain ⟨bs,hall,hrun⟩:=call_run (a:=a) (w:=w) hf'
  obtain ⟨b0,bs',rfl⟩:∃ b0 bs',bs=b0::bs':=by
   cases bs with
   | nil=>simp[isAll] at hall
   | cons b0 bs'=>exact ⟨b0,bs',rfl⟩
  simp only[isAll,Bool.and_eq_true] at hall
  obtain ⟨hall0,hall⟩:=hall
  obtain ⟨hbl,hbx⟩:=isAll_spec h hall
  obtain ⟨h5,h6⟩:=ivs_rep hp (by simpa using hbl) hbx
  have hv0:=hx _ (Opd.rep h hall0)
  have hnot:∀ b,okL ok0 σ.lo L b→v0.ownBlock≠some b:=fun b hb hbad=>by
   obtain ⟨⟨ob,hob⟩,hh⟩:=hhas b hbad
   exact hb.2 id ob hob hh
  unfold Oper.wp
  rw[hrun]
  simp only[Oper.upon,List.map_cons,hv0]
  refine (hg w (okL ok0 σ.lo L) v0 ys _ (fun w' hk=>c.hK _ (h.below.trans (hk.mono fun k hfr=>⟨Nat.lt_of_lt_of_le (w0.lt k hfr) h.le,fun e=>hown.free k e hfr⟩))) (okL_new c h) hown.own hsz h1
   (fun i j c x u a1 a2 a3=>(hcx i j c x u a1 a2 a3).mono fun b hb _=>⟨⟨hb,hnot b hb⟩,rfl⟩) h5 (fun k x u a1 a2=>(h6 k x u a1 a2).mono fun b hb _=>⟨⟨hb,hnot b hb⟩,rfl⟩)).mono fun y w' hew=>?_
  obtain ⟨v',xs',rfl,hrb⟩:=hew
  obtain ⟨L',hL'⟩:=hfin v' xs' w' hrb
  exact hC _ _ L' hL'
 generalize hop:A.op=op at hy
 cases hy with
 | plain _ _ s f _ _ he hs =>
   rw[hop] at hf
   obtain ⟨_,n,u,w',L',hrun,hn,hrel,hrep⟩:=op_sound h c.ok hf he hs
   have hput:=hrel.put o.dst hdlt hrep
   unfold Oper.wp
   rw[hrun]
   rcases hn with rfl | ⟨rfl,rfl⟩
   ·simp only[Oper.upon]
    exact hC _ _ L' (by rw[hde];exact hput)
   ·simp only[Oper.upon]
    exact hC _ _ L' (by rw[hde];exact hput)
 | callo g args id _ xs q e sz rows mv hp hg hid =>
   rw[hop] at hf
   have hf':AOp.fits P (.call g args []) o.op=true:=hf
   obtain ⟨bs,hall,hrun⟩:=call_run (a:=a) (w:=w) hf'
   obtain ⟨hbl,hbx⟩:=isAll_spec h hall
   have hkw:K w:=c.hK _ h.below
   obtain ⟨h5,h6⟩:=ivs_rep hp (by simpa using hbl) hbx
   unfold Oper.wp
   rw[hrun]
   simp only[Oper.upon]
   refine (hg w (okL ok0 σ.lo L) _ hkw (okL_new c h) h5 h6).mono fun x w' hew=>?_
   obtain ⟨u,l,rfl,hob,hrep,hb⟩:=hew
   have hokk:∀ b,okL (okL ok0 σ.lo L) (one (rowO e sz rows mv)) (fun _=>l) b→okL ok0 (setO σ.lo id (rowO e sz rows mv)) (setL L id l) b:=by
    intro b hb
    refine ⟨hb.1.1,fun i oi hi=>?_⟩
    by_cases hii:i=id
    ·subst hii
     simp only[setL,if_true]
     exact hb.2 0 (rowO e sz rows mv) (by simp[one])
    ·simp only[setO,hii,if_false] at hi
     simp only[setL,hii,if_false]
     exact hb.1.2 i oi hi
   have hrel:=h.new id hid (rowO e sz rows mv) l hb (fun b hbb=>Nat.not_lt.1 (hob.lt hbb).1) (rowO_rep (fun b hb=>h.frlt (Nat.not_lt.1 hb)) hokk hob)
   have hput:=hrel.put o.dst hdlt (x:=ren id q) (v:=u) (ren_rep hokk (i:=0) (ob:=rowO e sz rows mv) (by simp[one]) (by simp[setO]) (by simp[setL]) hrep)
   refine hC _ _ (setL L id l) ?_
   rw[hde]
   exact hput
 | call g args ids _ xs r hp hg hr =>
   rw[hop] at hf
   obtain ⟨bs,hall,hrun⟩:=call_run (a:=a) (w:=w) hf
   exact fixed g args ids xs r bs hall hrun hp hg hr rfl rfl
 | calld x g args ids _ xs r hx hc hp hg hr =>
   rw[hop] at hf
   obtain ⟨bs,hall,hrun⟩:=calld_run h hf hx hc
   exact fixed g args ids xs r bs hall hrun hp hg hr rfl rfl
 | caldc x g fs cs args ids _ xs r hc hp hg hr =>
   rw[hop] at hf
   obtain ⟨m,as,ts,ho,hxm,hall⟩:=calld_shape hf
   obtain ⟨hbl,hbx⟩:=isAll_spec h hall
   obtain ⟨ok,h1,h2,h3,h4⟩:=peek_rep (us:=a.eval (.tmp m)::as.toList.map a.eval) c h hp (by simp[hbl]) (fun k z u hz hu=>by
    cases k with
    | zero =>
      simp at hz hu
      subst hz hu
      exact Opd.rep h (x:=x) (y:=.tmp m) hxm
    | succ k=>exact hbx k z u (by simpa using hz) (by simpa using hu)) hr
   have hclo:=h3 0 _ _ rfl rfl
   generalize hev:a.eval (.tmp m)=xv at hclo
   cases hclo with
   | clo _ _ _ us vs l1 l2 hfx hcx =>
     refine fixedV g (fs++xs++cs) (us++as.toList.map a.eval++vs) r (callv_run ho hev (.clo g us vs _ w hc)) hg ⟨ok,h1,?_,fun k z u hz hu=>?_,h4⟩ rfl rfl
     ·simp only[List.length_cons,Nat.add_right_cancel_iff] at h2
      simp only[List.length_append,l1,l2,h2]
     ·simp only[List.length_cons,Nat.add_right_cancel_iff] at h2
      by_cases k1:k<fs.length
      ·rw[List.append_assoc,List.getElem?_append_left k1] at hz
       rw[List.append_assoc,List.getElem?_append_left (by omega)] at hu
       exact hfx k z u hz hu
      ·rw[List.append_assoc,List.getElem?_append_right (by omega)] at hz
       rw[List.append_assoc,List.getElem?_append_right (by omega),l1] at hu
       by_cases k2:k-fs.length<xs.length
       ·rw[List.getElem?_append_left k2] at hz
        rw[List.getElem?_append_left (by rw[h2];exact k2)] at hu
        exact h3 (k-fs.length+1) z u (by simpa using hz) (by simpa using hu)
       ·rw[List.getElem?_append_right (by omega)] at hz
        rw[List.getElem?_append_right (by rw[h2];omega),h2] at hu
        exact hcx _ z u hz hu
 | cpy id x y _ e rows rows' mv hx hid hy hl =>
   rw[hop] at hf
   obtain ⟨w',v0,xs',ys,hL,hrun,hrb⟩:=cpy_row c h hf hx hid hy hl
   obtain ⟨h5,h6⟩:=back_arr h c.ok hid hL hrb
   unfold Oper.wp
   rw[hrun]
   simp only[Oper.upon]
   refine hC _ _ (setL L id (.arr v0 xs')) ?_
   have:=h5.put o.dst hdlt (x:=.iv (.int .i64 rows.length)) (v:=goInt rows.length) (.iv _ _ (.int .i64 rows.length))
   rw[hde]
   exact this
 | callb=>rw[hop] at hncb;cases hncb
 | callx=>rw[hop] at hncb;cases hncb
 | callr g x args id _ xs e sz rows rows' mv hx hid hp hg =>
   have hob:=h.objs _ _ hid
   cases hL:L id with
   | box b=>rw[hL] at hob;exact hob.elim
   | one b=>rw[hL] at hob;exact hob.elim
   | map b vals=>rw[hL] at hob;exact hob.elim
   | ext O D=>rw[hL] at hob;exact hob.elim
   | arr v0 ys =>
     rw[hL] at hob
     obtain ⟨hown,hmv,hsz,h1,hxx⟩:=hob
     rw[List.length_map] at hown hmv
     refine back g x args id xs e sz rows rows' v0 ys hop hp hg (fun u hu=>?_) hown (fun b hb=>⟨⟨_,hid⟩,by rw[hL];exact hb⟩) (fun c hc=>?_) h1 (fun i j c x u a1 a2 a3=>?_) (fun v' xs' w' hrb=>?_)
     ·rw[hx] at hu
      exact inv_aref_all hid hL hu
     ·have:=hsz (c.map AV.iv) (List.mem_map.2 ⟨c,hc,rfl⟩)
      simpa using this
     ·exact inv_iv (hxx i j (c.map AV.iv) (.iv x) u (by simp[a1]) (by simp[a2]) a3)
     ·obtain ⟨h5,h6⟩:=back_arr h c.ok hid hL hrb
      refine ⟨setL L id (.arr v' xs'),?_⟩
      rw[← hde]
      exact h5.put A.d (by rw[hde];exact hdlt) h6
 | callm g x args id _ xs e sz kvs k n rows' hx hn hid hp hg =>
   have hob:=h.objs _ _ hid
   cases hL:L id with
   | box b=>rw[hL] at hob;exact hob.elim
   | one b=>rw[hL] at hob;exact hob.elim
   | arr v ys=>rw[hL] at hob;exact hob.elim
   | ext O D=>rw[hL] at hob;exact hob.elim
   | map b vals =>
     obtain ⟨ys,g1,g2,g3,g4,g5,g6⟩:=map_row h hid hL k
     refine back g x args id xs e sz _ rows' _ ys hop hp hg (fun u hu=>?_) g1 (fun b hb=>⟨⟨_,hid⟩,(g6 b hb).1⟩) g3 g4 g5 (fun v' xs' w' hrb=>?_)
     ·rw[hx] at hu
      obtain ⟨b2,vals2,hL2,hu⟩:=refs_mapr hid (by simp[AV.refs]) hu
      rw[hL] at hL2
      injection hL2 with q1 q2
      subst q1 q2
      rcases hu with ⟨hu,_⟩ | ⟨k2,n2,hu,_,_,hu2⟩
      ·cases hu
      ·injection hu with q1 q2 q3
       subst q2 q3
       exact hu2 hn
     ·obtain ⟨h5,h6⟩:=back_map h c.ok hid hL hrb
      refine ⟨setL L id (.map b (mins k v' vals)),?_⟩
      rw[← hde]
      exact h5.put A.d (by rw[hde];exact hdlt) (h6 _)
theorem yielded_of {ops:Array Oper} {t j:Nat} {b:Bool} (h:Rel ok0 N w0 σ.lk σ.lo a w L) (ht:σ.lk t=.iv (.bool b)) (hj:((ops[j]?).bind (·.dst))=some t):yielded ops a.tmps j=some b:=by
 have r:=h.env t
 rw[ht] at r
 have hv:=inv_bool r
 unfold yielded
 rw[hj]
 simp only[Option.bind_some]
 cases hg:a.tmps[t]? with
 | none=>simp[Array.getD_eq_getD_getElem?,hg,undef] at hv
 | some u=>simp[Array.getD_eq_getD_getElem?,hg] at hv;subst hv;rfl
theorem rep_undef {ok:Nat→Prop} {w:World}:RepI ok w (.tup []) undef:=.tup [] [] rfl (fun _ _ _ h=>by simp at h)
theorem inv_tup {ok:Nat→Prop} {lo:Nat→Option AO} {u:Value} (r:RepA ok w lo L (.iv (.tup [])) u):u=undef:=by
 cases r with
 | iv _ _ h =>
   cases h with
   | tup _ vs hl _ =>
     have:vs=[]:=by simpa using hl
     subst this
     rfl
theorem yielded_none {ops:Array Oper} {t j:Nat} (h:Rel ok0 N w0 σ.lk σ.lo a w L) (ht:σ.lk t=.iv (.tup [])) (hj:((ops[j]?).bind (·.dst))=some t):yielded ops a.tmps j=none:=by
 have r:=h.env t
 rw[ht] at r
 have hv:=inv_tup r
 unfold yielded
 rw[hj]
 simp only[Option.bind_some]
 cases hg:a.tmps[t]? with
 | none=>rfl
 | some u=>simp[Array.getD_eq_getD_getElem?,hg] at hv;subst hv;rfl
theorem fits_defer (op:AOp) (c:Call):op.fits P (.defer c)=false:=by
 cases op with
 | yy op=>cases op<;>rfl
 | _=>rfl
theorem Ctx.le {w1:Base} (c:Ctx P K ok0 w0) (h:w0.le w1):Ctx P K ok0 w1 :=
 ⟨fun w hw=>c.hK w (h.keeps hw),fun b hb=>c.ok b (fun hf=>hb (h.fr b hf))⟩
theorem cb_pre {id:Nat} {s:Ext} {O D:Nat→Prop} {xs:List IV} {vs:List Value} {lk:Nat→AV} {lo:Nat→Option AO} (c:Ctx P K ok0 w0) (h:Rel ok0 N w0 lk lo a w L) (hid:lo id=some (.ext s)) (hL:L id=.ext O D)
  (hl:vs.length=xs.length) (hx:∀ (k:Nat) (x:IV) (u:Value),xs[k]?=some x→vs[k]?=some u→RepI (okL ok0 lo L) w x u):CbPre K (okC (okL ok0 lo L) D w) O D w s xs vs:=by
 have hob:=h.objs id _ hid
 rw[hL] at hob
 obtain ⟨hO,hD,hJ⟩:=hob
 refine ⟨fun w' hk=>c.hK _ (h.below.trans (hk.mono fun b hb=>⟨h.frl b hb,fun ho=>(hO b ho).1 hb⟩)),hJ,fun b hb=>(hO b hb).2.2,fun b hb=>?_,fun b hb=>.inr (.inl hb),fun b hb=>.inr (.inr hb),fun b hb=>.inl (hO b hb).2.2,hl,fun k x u h1 h2=>(hx k x u h1 h2).plain.mono fun b hb _=>⟨⟨.inr (.inl hb),fun ho=>hb.1.2 id _ hid (by rw[hL];exact ho)⟩,rfl⟩⟩
 rcases hD b hb with h1 | ⟨h1,_⟩
 ·exact (hO b h1).2.1
 ·exact h.frl b h1
theorem gives_go {ops:Array Oper} {i:Nat} {C:Act→World→Prop} (c:Ctx P K ok0 w0) (h:Rel ok0 N w0 σ.lk σ.lo a w L) (ho:ops[i]?=some o) (hw:Region.wanted o (yielded ops a.tmps)=true) (hd:dstFits N A.d o.dst=true) (hf:A.op.fits P o.op=true)
  (hy:Gives P K A.op σ v up) (hC:∀ w1 a' w' L',w0.le w1→Rel ok0 N w1 (σ.app A.d v up).lk (σ.app A.d v up).lo a' w' L'→C a' w'):Step1 P ops i C a w:=by
 have hnd:∀ c,o.op≠.defer c:=fun c e=>by rw[e,fits_defer] at hf;cases hf
 cases hcb:A.op.isCb with
 | false=>exact step1_wp ho hw hnd (gives_wp c h hd hf hy hcb (fun a' w' L' hr=>hC w0 a' w' L' (Base.le.refl w0) hr))
 | true =>
   obtain ⟨hde,hdlt⟩:=dst_spec hd
   generalize hop:A.op=op at hy hcb hf
   have fin:∀ (id:Nat) (s s':Ext) (y:IV) (O D:Nat→Prop) (u:Value) (w':World),σ.lo id=some (.ext s)→L id=.ext O D→s'.v=s.v→scalar y=true→v=.iv y→up=some (id,.ext s') →
     (∃ O' D',CbPost (okC (okL ok0 σ.lo L) D w) O w s' y O' D' u w')→C (a.put o.dst u) w':=by
    rintro id s s' y O D u w' hid hL hv hsy rfl rfl ⟨O',D',hp⟩
    obtain ⟨w1,hle,hrel⟩:=cb_turn c.ok h hid hL hv hp
    refine hC w1 _ w' (setL L id (.ext O' D')) hle ?_
    have:=hrel.put o.dst hdlt (x:=.iv y) (v:=u) (.iv _ _ (scalar_rep hsy hp.rep))
    rw[hde]
    exact this
   cases hy with
   | callb x args id _ xs s s' y hx hid hp hg hsc =>
     obtain ⟨m,as,ts,hoo,hxm,hall⟩:=calld_shape (P:=P) (ids:=[]) hf
     obtain ⟨hbl,hbx⟩:=isAll_spec h hall
     obtain ⟨h5,h6⟩:=ivs_rep hp (by simpa using hbl) hbx
     have hob:=h.objs id _ hid
     cases hL:L id with
     | ext O D =>
       have rx:=Opd.rep h (x:=x) (y:=.tmp m) hxm
       rw[hx] at rx
       obtain ⟨_,hsv⟩:=refs_ext hid (by simp[AV.refs]) rx
       exact step1_call ho hw hoo hsv (hg.2 _ O D w _ (cb_pre c h hid hL h5 h6)) (fun u w' hR=>fin id s s' y O D u w' hid hL hg.1 hsc rfl rfl hR)
     | _=>rw[hL] at hob;exact hob.elim
   | callx g args x id _ xs s s' y hx hid hp hg hsc =>
     have hf':AOp.fits P (.call g (args++[x]) []) o.op=true:=hf
     obtain ⟨bs,hall,hrun⟩:=call_run (a:=a) (w:=w) hf'
     obtain ⟨hbl,hbx⟩:=isAll_spec h hall
     have hbl':(bs.map a.eval).length=args.length+1:=by simp[hbl]
     obtain ⟨vs,u0,hvs⟩:∃ vs u0,bs.map a.eval=vs++[u0]:=by
      refine ⟨(bs.map a.eval).dropLast,(bs.map a.eval).getLast (fun e=>by rw[e] at hbl';simp at hbl'),?_⟩
      exact (List.dropLast_concat_getLast _).symm
     have hvl:vs.length=args.length:=by
      have:=congrArg List.length hvs
      rw[hbl',List.length_append] at this
      simp at this
      omega
     rw[hvs] at hbx
     obtain ⟨h5,h6⟩:=ivs_rep (vs:=vs) hp (by simpa using hvl) (fun k z u h1 h2=>hbx k z u (by rw[List.map_append,List.getElem?_append_left (List.getElem?_eq_some_iff.1 h1).1];exact h1) (by rw[List.getElem?_append_left (List.getElem?_eq_some_iff.1 h2).1];exact h2))
     have hob:=h.objs id _ hid
     cases hL:L id with
     | ext O D =>
       have rx:RepA (okL ok0 σ.lo L) w σ.lo L (.cb id) u0:=by
        have:=hbx args.length (x.av σ.lk) u0 (by simp) (by rw[List.getElem?_append_right (by omega)];simp[hvl])
        rwa [hx] at this
       obtain ⟨_,rfl⟩:=refs_ext hid (by simp[AV.refs]) rx
       refine step1_wp ho hw hnd ?_
       unfold Oper.wp
       rw[hrun,hvs]
       simp only[Oper.upon]
       refine (hg.2 _ O D w vs [] (by rw[List.append_nil,List.append_nil];exact cb_pre c h hid hL h5 h6) h5).mono fun e w' hew=>?_
       obtain ⟨u,rfl,hpost⟩:=hew
       exact fin id s s' y O D u w' hid hL hg.1 hsc rfl rfl hpost
     | _=>rw[hL] at hob;exact hob.elim
   | plain _ _ s f _ _ he hs=>cases op<;>first | (cases hcb;done) | (cases he;done)
   | _=>cases hcb
theorem yields_go {ops:Array Oper} {i:Nat} {C:Act→World→Prop} (c:Ctx P K ok0 w0) (h:Rel ok0 N w0 σ.lk σ.lo a w L) (ho:ops[i]?=some o) (hf:operFits P N ops A o=true)
  (hy:Yields P K A σ v up) (hC:∀ w1 a' w' L',w0.le w1→Rel ok0 N w1 (σ.app A.d v up).lk (σ.app A.d v up).lo a' w' L'→C a' w'):Step1 P ops i C a w:=by
 simp only[operFits,Bool.and_eq_true] at hf
 obtain ⟨⟨hd,hg⟩,hop⟩:=hf
 unfold Yields at hy
 unfold guardFits at hg
 split at hy
 ·rename_i hag
  rw[hag] at hg
  split at hg
  ·rename_i hog
   exact gives_go c h ho (by simp[Region.wanted,hog]) hd hop hy hC
  ·rename_i heq _;cases heq
  ·cases hg
 ·rename_i t b hag
  rw[hag] at hg
  split at hg
  ·rename_i heq _;cases heq
  ·rename_i t' b' j b'' heq hog
   injection heq with heq
   injection heq with e1 e2
   subst e1 e2
   simp only[Bool.and_eq_true,beq_iff_eq] at hg
   obtain ⟨rfl,hj⟩:=hg
   rcases hy with ⟨ht,hgv⟩ | ⟨ht,rfl,rfl⟩
   ·have hyd:=yielded_of h ht hj
    exact gives_go c h ho (by simp[Region.wanted,hog,hyd]) hd hop hgv hC
   ·have hwf:Region.wanted o (yielded ops a.tmps)=false:=by
     rcases ht with ht | ht
     ·have hyd:=yielded_of h ht hj
      simp[Region.wanted,hog,hyd]
     ·have hyd:=yielded_none h ht hj
      simp[Region.wanted,hog,hyd]
    obtain ⟨hde,hdlt⟩:=dst_spec hd
    refine step1_skip ho hwf (hC w0 _ _ L (Base.le.refl w0) ?_)
    have:=h.put o.dst hdlt (x:=.iv (.tup [])) (v:=undef) (.iv _ _ rep_undef)
    rw[← hde] at this
    rw[← hde]
    exact this
  ·cases hg
theorem isAll_cloAV {x:Opd} {v:Value} {ok:Nat→Prop} {lo:Nat→Option AO} {lk:Nat→AV} {g:FuncId} {fs cs:List AV} (hc:callee P g=true) (hx:cloAV (x.av lk)=some (g,fs,cs)) (hr:RepA ok w lo L (x.av lk) v) :
  ∃ us vs:List Value,(∀ args:List Value,Enters P v args w (.enter g (us++args++vs).toArray))∧us.length=fs.length∧vs.length=cs.length∧(∀ (k:Nat) (y:AV) (u:Value),fs[k]?=some y→us[k]?=some u→RepA ok w lo L y u) ∧
   (∀ (k:Nat) (y:AV) (u:Value),cs[k]?=some y→vs[k]?=some u→RepA ok w lo L y u):=by
 generalize x.av lk=xv at hx hr
 unfold cloAV at hx
 split at hx
 ·injection hx with hx
  injection hx with e1 e2
  injection e2 with e2 e3
  subst e1 e2 e3
  cases hr with
  | iv _ _ r =>
    cases r with
    | fn=>exact ⟨[],[],fun args=>.clo _ [] [] _ w hc,rfl,rfl,by simp,by simp⟩
 ·injection hx with hx
  injection hx with e1 e2
  injection e2 with e2 e3
  subst e1 e2 e3
  cases hr with
  | iv _ _ r =>
    cases r with
    | clo _ _ _ us vs l1 l2 hf hcx =>
      refine ⟨us,vs,fun args=>.clo _ us vs _ w hc,by simp[l1],by simp[l2],fun k y u hy hu=>?_,fun k y u hy hu=>?_⟩
      ·rw[List.getElem?_map,Option.map_eq_some_iff] at hy
       obtain ⟨z,hz,rfl⟩:=hy
       exact .iv _ _ (hf k z u hz hu)
      ·rw[List.getElem?_map,Option.map_eq_some_iff] at hy
       obtain ⟨z,hz,rfl⟩:=hy
       exact .iv _ _ (hcx k z u hz hu)
 ·injection hx with hx
  injection hx with e1 e2
  injection e2 with e2 e3
  subst e1 e2 e3
  cases hr with
  | clo _ _ _ us vs l1 l2 hf hcx=>exact ⟨us,vs,fun args=>.clo _ us vs _ w hc,l1,l2,hf,hcx⟩
 ·cases hx
theorem hgives_wp {C:Act→World→Prop} {Q:Exit→Act→World→Prop} {σ':Fs} (c:Ctx P K ok0 w0) (h:Rel ok0 N w0 σ.lk σ.lo a w L) (hd:dstFits N A.d o.dst=true) (hf:A.op.fits P o.op=true)
  (hy:HGives P K A.d σ A.op σ') (hC:∀ a' w' L',Rel ok0 N w0 σ'.lk σ'.lo a' w' L'→C a' w'):o.wp P a w C Q:=by
 obtain ⟨hde,hdlt⟩:=dst_spec hd
 generalize hop:A.op=op at hy
 cases hy with
 | callh g args ids keep y' lo' args0 lo0 st y lo1 dom hh =>
   rw[hop] at hf
   have hf':AOp.fits P (.call g args []) o.op=true:=hf
   obtain ⟨bs,hall,hrun⟩:=call_run (a:=a) (w:=w) hf'
   obtain ⟨hbl,hbx⟩:=isAll_spec h hall
   unfold Oper.wp
   rw[hrun]
   simp only[Oper.upon]
   refine (hg_calls c.hK c.ok h hh (by simpa using hbl) hbx).mono fun x w' hew=>?_
   obtain ⟨u,L',rfl,hrel,hrep⟩:=hew
   have hput:=hrel.put o.dst hdlt (x:=y') (v:=u) hrep
   refine hC _ _ L' ?_
   rw[hde]
   exact hput
 | caldh x g fs cs args ids keep y' lo' args0 lo0 st y lo1 dom hx hc hh =>
   rw[hop] at hf
   obtain ⟨m,as,ts,ho,hxm,hall⟩:=calld_shape (P:=P) (ids:=[]) (x:=x) (args:=args) hf
   obtain ⟨hbl,hbx⟩:=isAll_spec h hall
   obtain ⟨us,vs,hent,l1,l2,hfx,hcx⟩:=isAll_cloAV hc hx (Opd.rep h (x:=x) (y:=.tmp m) hxm)
   have hrun:=callv_run (a:=a) ho rfl (hent (as.toList.map a.eval))
   unfold Oper.wp
   rw[hrun]
   simp only[Oper.upon]
   refine (hg_calls (vs:=us++as.toList.map a.eval++vs) c.hK c.ok h hh (by simp[l1,l2,hbl]) (fun k z u hz hu=>?_)).mono fun x w' hew=>?_
   ·by_cases k1:k<fs.length
    ·rw[List.append_assoc,List.getElem?_append_left k1] at hz
     rw[List.append_assoc,List.getElem?_append_left (by omega)] at hu
     exact hfx k z u hz hu
    ·rw[List.append_assoc,List.getElem?_append_right (by omega)] at hz
     rw[List.append_assoc,List.getElem?_append_right (by omega),l1] at hu
     by_cases k2:k-fs.length<args.length
     ·rw[List.getElem?_append_left (by simpa using k2)] at hz
      rw[List.getElem?_append_left (by rw[List.length_map,hbl];exact k2)] at hu
      exact hbx _ z u hz hu
     ·rw[List.getElem?_append_right (by simpa using k2)] at hz
      rw[List.getElem?_append_right (by rw[List.length_map,hbl];omega)] at hu
      simp only[List.length_map,hbl] at hz hu
      exact hcx _ z u hz hu
   ·obtain ⟨u,L',rfl,hrel,hrep⟩:=hew
    have hput:=hrel.put o.dst hdlt (x:=y') (v:=u) hrep
    refine hC _ _ L' ?_
    rw[hde]
    exact hput
theorem moves_go {ops:Array Oper} {i:Nat} {σ':Fs} {C:Act→World→Prop} (c:Ctx P K ok0 w0) (h:Rel ok0 N w0 σ.lk σ.lo a w L) (ho:ops[i]?=some o) (hf:operFits P N ops A o=true)
  (hy:Moves P K A σ σ') (hC:∀ w1 a' w' L',w0.le w1→Rel ok0 N w1 σ'.lk σ'.lo a' w' L'→C a' w'):Step1 P ops i C a w:=by
 cases hy with
 | app v up hy=>exact yields_go c h ho hf hy hC
 | h _ hag hh =>
   simp only[operFits,Bool.and_eq_true] at hf
   obtain ⟨⟨hd,hg⟩,hop⟩:=hf
   have fin:Region.wanted o (yielded ops a.tmps)=true→Step1 P ops i C a w:=fun hw=>step1_wp ho hw (fun c e=>by rw[e,fits_defer] at hop;cases hop) (hgives_wp c h hd hop hh (fun a' w' L' hr=>hC w0 a' w' L' (Base.le.refl w0) hr))
   unfold guardFits at hg
   rcases hag with hag | ⟨t,b,hag,ht⟩
   ·rw[hag] at hg
    split at hg
    ·rename_i hog
     exact fin (by simp[Region.wanted,hog])
    ·rename_i heq _;cases heq
    ·cases hg
   ·rw[hag] at hg
    split at hg
    ·rename_i heq _;cases heq
    ·rename_i t' b' j b'' heq hog
     injection heq with heq
     injection heq with e1 e2
     subst e1 e2
     simp only[Bool.and_eq_true,beq_iff_eq] at hg
     obtain ⟨rfl,hj⟩:=hg
     have hyd:=yielded_of h ht hj
     exact fin (by simp[Region.wanted,hog,hyd])
    ·cases hg
theorem goAny_of_A {ops:Array Oper} {as:List AOper} {Q:Fs→Prop} {Q':Act→World→Prop} (c:Ctx P K ok0 w0) (hfit:opersFit P N ops as ops.toList=true)
  (hQ:∀ σ a w w1 L,w0.le w1→Rel ok0 N w1 σ.lk σ.lo a w L→Q σ→Q' a w):∀ (fuel:Nat) (listed:Array Bool) (σ:Fs) (a:Act) (w:World) (w1:Base) (L:Nat→Lay),w0.le w1→Rel ok0 N w1 σ.lk σ.lo a w L →
    wpAnyA P K .any ops as Q fuel listed σ→goAny P .any ops Q' fuel listed a w
 | 0,_,_,_,_,_,_,hl,hr,h=>⟨h.1,hQ _ _ _ _ _ hl hr h.2⟩
 | fuel+1,listed,σ,a,w,w1,L,hl,hr,h=>by
   refine ⟨fun h0=>hQ _ _ _ _ _ hl hr (h.1 h0),fun i hi=>?_⟩
   have h2:=h.2 i hi
   obtain ⟨hlen,hget⟩:=opersFit_get hfit
   cases ho:ops[i]? with
   | none =>
     have hA:as[i]?=none:=by
      have:ops.size≤i:=by
       rcases Nat.lt_or_ge i ops.size with hlt | hge
       ·simp[hlt] at ho
       ·exact hge
      rw[List.getElem?_eq_none_iff]
      simp at hlen;omega
     simp only[aqOp,hA] at h2
     exact step1_none ho (goAny_of_A c hfit hQ fuel _ σ a w w1 L hl hr h2)
   | some o =>
     have hlt:i<as.length:=by
      have:=(Array.getElem?_eq_some_iff.1 ho).1
      simp at hlen;omega
     have hA:as[i]?=some as[i]:=List.getElem?_eq_getElem hlt
     simp only[aqOp,hA] at h2
     obtain ⟨σ1,hy,hc⟩:=h2
     exact moves_go (c.le hl) hr ho (hget i _ o hA (by simpa using ho)) hy (fun w2 a' w' L' hl' hr'=>goAny_of_A c hfit hQ fuel _ _ a' w' w2 L' (hl.trans hl') hr' hc)
theorem goOps_of_path {ops:Array Oper} {as:List AOper} {Q':Act→World→Prop} {σ':Fs} (c:Ctx P K ok0 w0) (hfit:opersFit P N ops as ops.toList=true)
  (hQ:∀ a w w1 L,w0.le w1→Rel ok0 N w1 σ'.lk σ'.lo a w L→Q' a w):∀ (l:List AOper) (k:Nat) (σ:Fs) (a:Act) (w:World) (w1:Base) (L:Nat→Lay),(∀ j,l[j]?=as[k+j]?)→w0.le w1→Rel ok0 N w1 σ.lk σ.lo a w L →
    Path P K l σ σ'→goOps P ops Q' (List.range' k l.length) a w
 | [],_,σ,a,w,w1,L,_,hle,hr,hp=>by
   cases hp
   simp only[List.length_nil,List.range'_zero,goOps]
   exact hQ _ _ _ _ hle hr
 | A::l,k,σ,a,w,w1,L,hl,hle,hr,hp=>by
   obtain ⟨hlen,hget⟩:=opersFit_get hfit
   cases hp with
   | cons _ _ _ σ1 _ hy hp =>
     have hA:as[k]?=some A:=by simpa using (hl 0).symm
     have hlt:k<ops.toList.length:=by rw[hlen];exact (List.getElem?_eq_some_iff.1 hA).1
     have ho:ops[k]?=some (ops.toList[k]):=by
      have:=List.getElem?_eq_getElem hlt
      simpa using this
     simp only[List.length_cons,List.range'_succ,goOps]
     exact moves_go (c.le hle) hr ho (hget k A _ hA (List.getElem?_eq_getElem hlt)) hy
      (fun w2 a' w' L' hl' hr'=>goOps_of_path c hfit hQ l (k+1) _ a' w' w2 L' (fun j=>by have:=hl (j+1);simpa[Nat.add_assoc,Nat.add_comm 1 j] using this) (hle.trans hl') hr' hp)
def regionFits (P:Program) (N:Fm) (as:List AOper) (ops:Array Oper) (draw:Bool):Bool :=
 opersFit P N ops as ops.toList&&(!draw||(P.follows .mixedOrders&&Region.lexB .any ops&&pairsOk ops as))
theorem region_steps {ops:Array Oper} {as:List AOper} {id:Nat} {draw:Bool} {σ σ':Fs} (c:Ctx P K ok0 w0) (hfit:regionFits P N as ops draw=true)
  (hr:Rel ok0 N w0 σ.lk σ.lo a w L) (hp:Path P K as σ σ') (b:Frame) (k:List Item) (cs:List Frame) :
  ∃ a' w',(∃ w1 L',w0.le w1∧Rel ok0 N w1 σ'.lk σ'.lo a' w' L')∧Steps P (lone (b.atR a (.code (.region id ops draw)::k)) cs w) (lone (b.atR a' k) cs w'):=by
 simp only[regionFits,Bool.and_eq_true] at hfit
 obtain ⟨hfit,hdraw⟩:=hfit
 obtain ⟨hlen,_⟩:=opersFit_get hfit
 have hlen':ops.size=as.length:=by simpa using hlen
 cases draw with
 | false =>
   refine region_go (Q:=fun a' w'=>∃ w1 L',w0.le w1∧Rel ok0 N w1 σ'.lk σ'.lo a' w' L') ?_ b k cs
   have:=goOps_of_path (Q':=fun a' w'=>∃ w1 L',w0.le w1∧Rel ok0 N w1 σ'.lk σ'.lo a' w' L') c hfit (fun a w w1 L hl hr=>⟨w1,L,hl,hr⟩) as 0 σ a w w0 L (by simp) (Base.le.refl w0) hr hp
   rw[hlen',List.range_eq_range']
   exact this
 | true =>
   simp only[Bool.not_true,Bool.false_or,Bool.and_eq_true] at hdraw
   obtain ⟨⟨hm,hB⟩,hpairs⟩:=hdraw
   simp only[Region.lexB,Bool.and_eq_true] at hB
   refine region_go_any (Q:=fun a' w'=>∃ w1 L',w0.le w1∧Rel ok0 N w1 σ'.lk σ'.lo a' w' L') hm ?_ b k cs
   have hr':Rel ok0 N w0 σ.lk σ.lo a { w with drawn:=w.drawn+1 } L:=hr.ext ⟨rfl,rfl,rfl,Nat.le_refl _,fun _ _=>rfl⟩
   refine goAny_of_A (Q:=fun σ=>σ=σ') c hfit (fun τ a' w' w1 L' hl h1 h2=>by subst h2;exact ⟨w1,L',hl,h1⟩) _ _ σ a _ w0 L (Base.le.refl w0) hr' ?_
   have:=wpAnyA_lex (P:=P) (K:=K) (Q:=fun σ=>σ=σ') hlen' hpairs as 0 (Array.replicate ops.size false) σ σ' (by simp) (by simp) (clo_nil _) (by rw[← hlen'];exact hB.2) hp rfl
   rw[← hlen'] at this
   exact this
end
end Go.Ev

/- The evaluator over a function's body, and that it is sound. -/
namespace Go.Ev
open Go Go.RowKit
abbrev Env:=List (Nat × AV)
abbrev Objs:=List (Nat × AO)
def look:Env→Nat→AV
 | [],_=>.iv .any
 | (k,v)::r,t=>if t=k then v else look r t
def lookO:Objs→Nat→Option AO
 | [],_=>none
 | (k,o)::r,i=>if i=k then some o else lookO r i
def bnd (d:Option Nat) (v:AV) (e:Env):Env :=
 match d with
 | none=>e
 | some d=>(d,v)::e
def setE (t:Nat) (v:AV):Env→Env
 | []=>[]
 | (k,x)::r=>if t=k then (k,v)::r else (k,x)::setE t v r
def setOL (id:Nat) (o:AO):Objs→Objs
 | []=>[(id,o)]
 | (k,x)::r=>if id=k then (k,o)::r else (k,x)::setOL id o r
def upL (up:Option (Nat × AO)) (os:Objs):Objs :=
 match up with
 | none=>os
 | some (id,o)=>setOL id o os
theorem look_bnd (d:Option Nat) (v:AV) (e:Env):look (bnd d v e)=setK (look e) d v:=by
 cases d<;>rfl
theorem lookO_setOL (id:Nat) (o:AO):∀ os:Objs,lookO (setOL id o os)=setO (lookO os) id o
 | []=>by funext i;simp[setOL,lookO,setO]
 | (k,x)::r=>by
   funext i
   simp only[setOL]
   split
   ·rename_i h
    subst h
    simp only[lookO,setO]
    split<;>rfl
   ·rename_i h
    simp only[lookO,lookO_setOL id o r,setO]
    by_cases h1:i=k<;>by_cases h2:i=id<;>simp_all
theorem lookO_upL (up:Option (Nat × AO)) (os:Objs):lookO (upL up os)=upO (lookO os) up:=by
 cases up with
 | none=>rfl
 | some p=>obtain ⟨id,o⟩:=p;exact lookO_setOL id o os
theorem look_setE {t:Nat} {v:AV}:∀ {e:Env},look e t=v→look (setE t v e)=look e
 | [],_=>rfl
 | (k,x)::r,h=>by
   funext u
   simp only[look] at h
   simp only[setE]
   split
   ·rename_i hk
    rw[if_pos hk] at h
    subst h
    rfl
   ·rename_i hk
    rw[if_neg hk] at h
    simp only[look]
    split
    ·rfl
    ·exact congrFun (look_setE h) u
def sig (e:Env) (o:Objs):Fs:=⟨look e,lookO o⟩
theorem sig_app (e:Env) (o:Objs) (d:Option Nat) (v:AV) (up:Option (Nat × AO)):(sig e o).app d v up=sig (bnd d v e) (upL up o):=by
 simp[sig,Fs.app,look_bnd,lookO_upL]
def evK (C:AV→Option (Nat × AO)→Prop):Res→Prop
 | .ok s f v up=>s∧(f→C v up)
 | .no=>False
def rowK (P:Program) (K:World→Prop) (g:FuncId) (id:Nat) (C:AV→Option (Nat × AO)→Prop) (xs:Option (List IV)):AV→Option AO→Prop
 | .aref i n,some (.arr t sz es mv)=>∃ ys rows rows',i=id∧xs=some ys∧ivss es=some rows∧n=es.length∧GoodR P K g t sz rows ys rows'∧C (.aref id rows'.length) (some (id,rowO t sz rows' rows'.length))
 | .mref i k n,some (.mapr t sz kvs none)=>∃ ys rows',i=id∧xs=some ys∧((mfind k kvs).getD []).length=n∧GoodR P K g t sz ((mfind k kvs).getD []) ys rows'∧C (.mref id k rows'.length) (some (id,.mapr t sz (mins k rows' kvs) (some k)))
 | _,_=>False
def cpyK (id:Nat) (C:AV→Option (Nat × AO)→Prop):AV→AV→Option AO→Prop
 | .aref i n,.iv (.sl s ys),some (.arr t sz es _)=>i=id∧n=es.length∧(∃ rows,ivss es=some rows)∧s=1∧sz=1∧ys.length=n∧C (.iv (.int .i64 n)) (some (id,rowO t 1 ys ys.length))
 | _,_,_=>False
def calldK (P:Program) (K:World→Prop) (lo:Nat→Option AO) (ids:List Nat) (args:List AV) (C:AV→Option (Nat × AO)→Prop):AV→Prop
 | .iv (.fn g)=>∃ xs r,callee P g=true∧peek lo ids args=some xs∧Good P K g xs r∧(ids=[]∨scalar r=true)∧C (.iv r) none
 | x=>∃ g fs cs xs r,callee P g=true∧peek lo ids (x::args)=some (.clo g fs cs::xs)∧Good P K g (fs++xs++cs) r∧(ids=[]∨scalar r=true)∧C (.iv r) none
def run1 (P:Program) (K:World→Prop) (op:AOp) (C:AV→Option (Nat × AO)→Prop) (e:Env) (o:Objs):Prop :=
 match op with
 | .call g args ids=>∃ xs r,peek (lookO o) ids (args.map (·.av (look e)))=some xs∧Good P K g xs r∧(ids=[]∨scalar r=true)∧C (.iv r) none
 | .callo g args ids id=>∃ xs q t sz rows mv,ids=[]∧ivs (args.map (·.av (look e)))=some xs∧GoodO P K g xs q t sz rows mv∧lookO o id=none∧C (ren id q) (some (id,rowO t sz rows mv))
 | .calld x args ids=>calldK P K (lookO o) ids (args.map (·.av (look e))) C (x.av (look e))
 | .callb x args id=>∃ xs s s' y,x.av (look e)=.cb id∧lookO o id=some (.ext s)∧ivs (args.map (·.av (look e)))=some xs∧CbGives P K s xs y s'∧scalar y=true∧C (.iv y) (some (id,.ext s'))
 | .callx g args id=>∃ xs s s' y,(args.getLast?).map (·.av (look e))=some (.cb id)∧lookO o id=some (.ext s)∧ivs (args.dropLast.map (·.av (look e)))=some xs∧GoodX P K g xs [] s y s'∧scalar y=true∧C (.iv y) (some (id,.ext s'))
 | .callr g x args id=>rowK P K g id C (ivs (args.map (·.av (look e)))) (x.av (look e)) (lookO o id)
 | .cpy id x y=>cpyK id C (x.av (look e)) (y.av (look e)) (lookO o id)
 | op=>evK C (ev (look e) (lookO o) op)
def GoodH (P:Program) (K:World→Prop) (f:FuncId) (args:List AV) (o:Objs) (st:List Nat) (y:AV) (o':Objs):Prop:=GoodHf P K f args (lookO o) st y (lookO o')
def keepOf (ids st:List Nat) (o:Objs):List Nat:=(o.map (·.1)).filter fun i=>match idxO ids i with
 | some j=>st.contains j
 | none=>true
def scrE (keep:List Nat) (e:Env):Env:=e.map fun p=>(p.1,scr keep p.2)
def restO (ids keep:List Nat):Objs→Objs
 | []=>[]
 | (i,ob)::r=>match idxO ids i with
   | some _=>restO ids keep r
   | none=>(i,scrO keep ob)::restO ids keep r
def newO (ids keep:List Nat) (o o1:Objs):Objs:=restO ids keep o++o1.map fun p=>(nth ids p.1,rnO (nth ids) p.2)
def HOk (ids:List Nat) (args0:List AV) (o o0 o1:Objs):Prop :=
 ids.Nodup∧args0.all (clA (o0.map (·.1)))=true∧(∀ p∈o0,p.1<ids.length∧lookO o (nth ids p.1)=some (rnO (nth ids) p.2)∧clO (o0.map (·.1)) p.2=true∧noExt p.2=true) ∧
 (∀ i∈List.range ids.length,lookO o0 i=none→lookO o (nth ids i)=none)∧(∀ p∈o1,p.1<ids.length∧noExt p.2=true)
def HK (P:Program) (K:World→Prop) (g:FuncId) (ids:List Nat) (d:Option Nat) (C:Env→Objs→Prop) (e:Env) (o:Objs) (avs:List AV):Prop :=
 ∃ args0 o0 st y o1,avs=args0.map (rn (nth ids))∧HOk ids args0 o o0 o1∧GoodH P K g args0 o0 st y o1∧C (bnd d (rn (nth ids) y) (scrE (keepOf ids st o) e)) (newO ids (keepOf ids st o) o o1)
def caldHK (P:Program) (K:World→Prop) (ids:List Nat) (d:Option Nat) (C:Env→Objs→Prop) (e:Env) (o:Objs) (avs:List AV) (x:AV):Prop :=
 ∃ g fs cs,cloAV x=some (g,fs,cs)∧callee P g=true∧HK P K g ids d C e o (fs++avs++cs)
def runH (P:Program) (K:World→Prop) (op:AOp) (d:Option Nat) (C:Env→Objs→Prop) (e:Env) (o:Objs):Prop :=
 match op with
 | .callh g args ids=>HK P K g ids d C e o (args.map (·.av (look e)))
 | .caldh x args ids=>caldHK P K ids d C e o (args.map (·.av (look e))) (x.av (look e))
 | _=>False
def guardK (b:Bool) (C:Bool→AV→Prop):AV→Prop
 | .iv (.bool c)=>(c=b→C true (.iv (.bool b)))∧(c=!b→C false (.iv (.bool (!b))))
 | .iv (.tup [])=>C false (.iv (.tup []))
 | _=>False
def runOps (P:Program) (K:World→Prop) (C:Env→Objs→Prop):List AOper→Env→Objs→Prop
 | [],e,o=>C e o
 | A::l,e,o =>
   match A.g with
   | none=>match A.op.isH with
     | true=>runH P K A.op A.d (runOps P K C l) e o
     | false=>run1 P K A.op (fun v up=>runOps P K C l (bnd A.d v e) (upL up o)) e o
   | some (t,b)=>guardK b (fun w u=>match w with
     | true=>match A.op.isH with
       | true=>runH P K A.op A.d (runOps P K C l) (setE t u e) o
       | false=>run1 P K A.op (fun v up=>runOps P K C l (bnd A.d v (setE t u e)) (upL up o)) (setE t u e) o
     | false=>runOps P K C l (bnd A.d (.iv (.tup [])) (setE t u e)) o) (look e t)
section
variable {P:Program} {K:World→Prop} {ok0:Nat→Prop} {N:Fm} {w0:Base} {a:Act} {w:World} {L:Nat→Lay}
theorem run1_mono {op:AOp} {C C':AV→Option (Nat × AO)→Prop} {e:Env} {o:Objs} (h:∀ v up,C v up→C' v up) (hh:run1 P K op C e o):run1 P K op C' e o:=by
 have plain:∀ r,evK C r→evK C' r:=by
  intro r hr
  cases r with
  | no=>exact hr
  | ok s f v up=>exact ⟨hr.1,fun hf=>h _ _ (hr.2 hf)⟩
 cases op with
 | call g args ids=>obtain ⟨xs,r,h1,h2,h3,h4⟩:=hh;exact ⟨xs,r,h1,h2,h3,h _ _ h4⟩
 | callo g args ids id=>obtain ⟨xs,q,t,sz,rows,mv,h0,h1,h2,h3,h4⟩:=hh;exact ⟨xs,q,t,sz,rows,mv,h0,h1,h2,h3,h _ _ h4⟩
 | calld x args ids =>
   simp only[run1] at hh ⊢
   unfold calldK at hh ⊢
   split at hh
   ·obtain ⟨xs,r,h1,h2,h3,h4,h5⟩:=hh;exact ⟨xs,r,h1,h2,h3,h4,h _ _ h5⟩
   ·obtain ⟨g,fs,cs,xs,r,h1,h2,h3,h4,h5⟩:=hh;exact ⟨g,fs,cs,xs,r,h1,h2,h3,h4,h _ _ h5⟩
 | callb x args id=>obtain ⟨xs,s,s',y,h1,h2,h3,h4,h5,h6⟩:=hh;exact ⟨xs,s,s',y,h1,h2,h3,h4,h5,h _ _ h6⟩
 | callx g args id=>obtain ⟨xs,s,s',y,h1,h2,h3,h4,h5,h6⟩:=hh;exact ⟨xs,s,s',y,h1,h2,h3,h4,h5,h _ _ h6⟩
 | callr g x args id =>
   simp only[run1] at hh ⊢
   unfold rowK at hh ⊢
   split at hh
   ·obtain ⟨ys,rows,rows',h0,h1,h2,h3,h4,h5⟩:=hh
    exact ⟨ys,rows,rows',h0,h1,h2,h3,h4,h _ _ h5⟩
   ·obtain ⟨ys,rows',h0,h1,h2,h3,h4⟩:=hh
    exact ⟨ys,rows',h0,h1,h2,h3,h _ _ h4⟩
   ·exact hh
 | cpy id x y =>
   simp only[run1] at hh ⊢
   unfold cpyK at hh ⊢
   split at hh
   ·obtain ⟨h0,h1,h2,h3,h4,h5,h6⟩:=hh
    exact ⟨h0,h1,h2,h3,h4,h5,h _ _ h6⟩
   ·exact hh
 | _=>simp only[run1] at hh ⊢;exact plain _ hh
theorem HK_mono {C C':Env→Objs→Prop} {g:FuncId} {ids:List Nat} {d:Option Nat} {e:Env} {o:Objs} {avs:List AV} (h:∀ e o,C e o→C' e o) (hh:HK P K g ids d C e o avs):HK P K g ids d C' e o avs:=by
 obtain ⟨args0,o0,st,y,o1,h1,h2,h3,h4⟩:=hh
 exact ⟨args0,o0,st,y,o1,h1,h2,h3,h _ _ h4⟩
theorem runH_mono {op:AOp} {d:Option Nat} {C C':Env→Objs→Prop} {e:Env} {o:Objs} (h:∀ e o,C e o→C' e o) (hh:runH P K op d C e o):runH P K op d C' e o:=by
 unfold runH at hh ⊢
 split at hh
 ·exact HK_mono h hh
 ·obtain ⟨g,fs,cs,h1,h2,h3⟩:=hh
  exact ⟨g,fs,cs,h1,h2,HK_mono h h3⟩
 ·exact hh.elim
theorem look_scrE (keep:List Nat):∀ (e:Env) (t:Nat),look (scrE keep e) t=scr keep (look e t)
 | [],t=>by simp[scrE,look,scr]
 | (k,v)::r,t=>by
   have:=look_scrE keep r t
   simp only[scrE,List.map_cons,look]
   split
   ·rfl
   ·exact this
theorem lookO_some_mem:∀ {o:Objs} {i:Nat} {ob:AO},lookO o i=some ob→(i,ob)∈o
 | [],i,ob,h=>by simp[lookO] at h
 | (k,x)::r,i,ob,h=>by
   simp only[lookO] at h
   split at h
   ·rename_i hk
    injection h with h
    subst h hk
    simp
   ·exact List.mem_cons_of_mem _ (lookO_some_mem h)
theorem lookO_mem_some:∀ {o:Objs} {i:Nat},i∈o.map (·.1)→∃ ob,lookO o i=some ob
 | (k,x)::r,i,h=>by
   simp only[lookO]
   split
   ·exact ⟨x,rfl⟩
   ·rename_i hk
    simp only[List.map_cons,List.mem_cons,hk,false_or] at h
    exact lookO_mem_some h
theorem lookO_append (a b:Objs) (i:Nat):lookO (a++b) i=match lookO a i with | some x=>some x | none=>lookO b i:=by
 induction a with
 | nil=>rfl
 | cons p r ih =>
   obtain ⟨k,x⟩:=p
   simp only[List.cons_append,lookO]
   split
   ·rfl
   ·exact ih
theorem lookO_restO (ids keep:List Nat) (i:Nat):∀ o:Objs,lookO (restO ids keep o) i=match idxO ids i with | some _=>none | none=>(lookO o i).map (scrO keep)
 | []=>by simp[restO,lookO];split<;>rfl
 | (k,x)::r=>by
   have ih:=lookO_restO ids keep i r
   simp only[restO]
   cases hk:idxO ids k with
   | some j =>
     simp only[lookO]
     rw[ih]
     by_cases hik:i=k
     ·subst hik
      simp only[hk]
     ·simp only[hik,if_false]
   | none =>
     simp only[lookO]
     by_cases hik:i=k
     ·subst hik
      simp only[if_true,hk,Option.map_some]
     ·simp only[hik,if_false]
      exact ih
theorem lookO_rnO (ids:List Nat) (i:Nat) (hnd:ids.Nodup):∀ o1:Objs,(∀ p∈o1,p.1<ids.length)→lookO (o1.map fun p=>(nth ids p.1,rnO (nth ids) p.2)) i=match idxO ids i with
  | some j=>(lookO o1 j).map (rnO (nth ids))
  | none=>none
 | [],_=>by simp[lookO];split<;>rfl
 | (k,x)::r,h=>by
   have ih:=lookO_rnO ids i hnd r (fun p hp=>h p (List.mem_cons_of_mem _ hp))
   have hk:k<ids.length:=h (k,x) (by simp)
   simp only[List.map_cons,lookO]
   rw[ih]
   by_cases hik:i=nth ids k
   ·have hx:idxO ids i=some k:=by rw[hik];exact idxO_nth hnd hk
    simp only[hik,if_true]
    rw[← hik,hx]
    simp
   ·simp only[hik,if_false]
    cases hx:idxO ids i with
    | none=>rfl
    | some j =>
      have:=(idxO_some hx).2
      have hjk:j≠k:=fun e=>hik (by rw[← this,e])
      simp only[hjk,if_false]
theorem HK_hg {C:Env→Objs→Prop} {g:FuncId} {ids:List Nat} {d:Option Nat} {e:Env} {o:Objs} {avs:List AV} (hh:HK P K g ids d C e o avs) :
  ∃ keep y' lo' args0 lo0 st y lo1 dom e' o',HG P K g avs ids keep (lookO o) y' lo' args0 lo0 st y lo1 dom∧look e'=setK (fun t=>scr keep (look e t)) d y'∧lookO o'=lo'∧C e' o':=by
 obtain ⟨args0,o0,st,y,o1,h1,⟨k1,k2,k3,k4,k5⟩,h3,h4⟩:=hh
 refine ⟨keepOf ids st o,_,_,args0,lookO o0,st,y,lookO o1,o0.map (·.1),_,_,⟨k1,h1,k2,fun i=>?_,fun i ob hob=>?_,fun i hi hn=>?_,h3,fun i ob hob=>?_,rfl,fun i=>?_,fun i hi j hj=>?_⟩,?_,rfl,h4⟩
 ·constructor
  ·intro hc
   obtain ⟨ob,hob⟩:=lookO_mem_some (o:=o0) (by simpa using hc)
   rw[hob];rfl
  ·intro hs
   obtain ⟨ob,hob⟩:=Option.isSome_iff_exists.1 hs
   have:=lookO_some_mem hob
   simp only[List.contains_eq_mem,decide_eq_true_eq,List.mem_map]
   exact ⟨_,this,rfl⟩
 ·exact k3 (i,ob) (lookO_some_mem hob)
 ·exact k4 i (List.mem_range.2 hi) hn
 ·exact k5 (i,ob) (lookO_some_mem hob)
 ·rw[newO,lookO_append,lookO_restO,lookO_rnO ids i k1 o1 (fun p hp=>(k5 p hp).1)]
  cases hx:idxO ids i with
  | some j=>rfl
  | none =>
    cases ho:lookO o i with
    | none=>simp
    | some ob =>
      have hmem:(keepOf ids st o).contains i=true:=by
       simp only[keepOf,List.contains_eq_mem,decide_eq_true_eq,List.mem_filter,List.mem_map]
       exact ⟨⟨_,lookO_some_mem ho,rfl⟩,by simp[hx]⟩
      have hmem':i∈keepOf ids st o:=by simpa using hmem
      simp[hmem']
 ·simp only[keepOf,List.contains_eq_mem,decide_eq_true_eq,List.mem_filter,hj] at hi
  simpa using hi.2
 ·rw[look_bnd]
  funext t
  cases d with
  | none=>exact look_scrE _ e t
  | some d =>
    simp only[setK]
    split
    ·rfl
    ·exact look_scrE _ e t
theorem runOps_mono {C C':Env→Objs→Prop} (h:∀ e o,C e o→C' e o):∀ (l:List AOper) (e:Env) (o:Objs),runOps P K C l e o→runOps P K C' l e o
 | [],e,o,hh=>h _ _ hh
 | A::l,e,o,hh=>by
   simp only[runOps] at hh ⊢
   split at hh
   ·split at hh
    ·exact runH_mono (fun e o=>runOps_mono h l e o) hh
    ·exact run1_mono (fun v up=>runOps_mono h l _ _) hh
   ·rename_i t b _
    unfold guardK at hh ⊢
    split at hh
    ·refine ⟨fun hc=>?_,fun hc=>runOps_mono h l _ _ (hh.2 hc)⟩
     have hh1:=hh.1 hc
     dsimp only at hh1 ⊢
     split at hh1
     ·exact runH_mono (fun e o=>runOps_mono h l e o) hh1
     ·exact run1_mono (fun v up=>runOps_mono h l _ _) hh1
    ·exact runOps_mono h l _ _ hh
    ·exact hh
theorem run1_gives {A:AOper} {p:Oper} {C:AV→Option (Nat × AO)→Prop} {e:Env} {o:Objs} (c:Ctx P K ok0 w0) (h:Rel ok0 N w0 (look e) (lookO o) a w L) (hf:A.op.fits P p.op=true)
  (hh:run1 P K A.op C e o):∃ v up,Gives P K A.op (sig e o) v up∧C v up:=by
 have plain:evK C (ev (look e) (lookO o) A.op)→∃ v up,Gives P K A.op (sig e o) v up∧C v up:=by
  intro hk
  cases hr:ev (look e) (lookO o) A.op with
  | no=>rw[hr] at hk;exact hk.elim
  | ok s f v up =>
    rw[hr] at hk
    obtain ⟨hf',_⟩:=op_sound h c.ok hf hr hk.1
    exact ⟨v,up,.plain _ _ s f _ _ hr hk.1,hk.2 hf'⟩
 cases hop:A.op with
 | call g args ids =>
   rw[hop] at hh
   obtain ⟨xs,r,h1,h2,h3,h4⟩:=hh
   exact ⟨.iv r,none,.call g args ids _ xs r h1 h2 h3,h4⟩
 | callo g args ids id =>
   rw[hop] at hh
   obtain ⟨xs,q,t,sz,rows,mv,h0,h1,h2,h3,h4⟩:=hh
   subst h0
   exact ⟨_,_,.callo g args id _ xs q t sz rows mv h1 h2 h3,h4⟩
 | calld x args ids =>
   rw[hop] at hh
   simp only[run1] at hh
   generalize hxv:x.av (look e)=xv at hh
   unfold calldK at hh
   split at hh
   ·rename_i g
    obtain ⟨xs,r,h1,h2,h3,h4,h5⟩:=hh
    exact ⟨.iv r,none,.calld x g args ids _ xs r hxv h1 h2 h3 h4,h5⟩
   ·obtain ⟨g,fs,cs,xs,r,h1,h2,h3,h4,h5⟩:=hh
    exact ⟨.iv r,none,.caldc x g fs cs args ids _ xs r h1 (by show peek (lookO o) ids (x.av (look e)::_)=_;rw[hxv];exact h2) h3 h4,h5⟩
 | callb x args id =>
   rw[hop] at hh
   obtain ⟨xs,s,s',y,h1,h2,h3,h4,h5,h6⟩:=hh
   exact ⟨.iv y,some (id,.ext s'),.callb x args id _ xs s s' y h1 h2 h3 h4 h5,h6⟩
 | callx g args id =>
   rw[hop] at hh
   obtain ⟨xs,s,s',y,h1,h2,h3,h4,h5,h6⟩:=hh
   obtain ⟨x,hx,hxv⟩:=Option.map_eq_some_iff.1 h1
   have hargs:args=args.dropLast++[x]:=by
    obtain ⟨hne,hx'⟩:=List.getLast?_eq_some_iff.1 hx
    rw[hx']
    simp
   refine ⟨.iv y,some (id,.ext s'),?_,h6⟩
   have:=Gives.callx (P:=P) (K:=K) g args.dropLast x id (sig e o) xs s s' y hxv h2 h3 h4 h5
   rw[← hargs] at this
   exact this
 | callr g x args id =>
   rw[hop] at hh
   simp only[run1] at hh
   generalize hxv:x.av (look e)=xv at hh
   generalize hov:lookO o id=ov at hh
   unfold rowK at hh
   split at hh
   ·rename_i i n t sz es mv
    obtain ⟨ys,rows,rows',rfl,h1,h2,rfl,h4,h5⟩:=hh
    have hes:=ivss_spec h2
    exact ⟨_,_,.callr g x args i _ ys t sz rows rows' mv (by show x.av (look e)=_;rw[hxv,hes,List.length_map]) (by show lookO o i=_;rw[hov,hes];rfl) h1 h4,h5⟩
   ·rename_i i k n t sz kvs
    obtain ⟨ys,rows',rfl,h1,h2,h3,h4⟩:=hh
    exact ⟨_,_,.callm g x args i _ ys t sz kvs k n rows' hxv h2 hov h1 h3,h4⟩
   ·exact hh.elim
 | cpy id x y =>
   rw[hop] at hh
   simp only[run1] at hh
   generalize hxv:x.av (look e)=xv at hh
   generalize hyv:y.av (look e)=yv at hh
   generalize hov:lookO o id=ov at hh
   unfold cpyK at hh
   split at hh
   ·rename_i i n s ys t sz es mv
    obtain ⟨rfl,rfl,⟨rows,h2⟩,rfl,rfl,h5,h6⟩:=hh
    have hes:=ivss_spec h2
    refine ⟨_,_,?_,h6⟩
    have hlr:es.length=rows.length:=by rw[hes,List.length_map]
    have:=Gives.cpy (P:=P) (K:=K) i x y (sig e o) t rows ys mv (by show x.av (look e)=_;rw[hxv,hlr]) (by show lookO o i=_;rw[hov,hes];rfl) hyv (by rw[h5,hlr])
    rw[← hlr] at this
    exact this
   ·exact hh.elim
 | _ =>
   rw[← hop]
   exact plain (by rw[hop] at hh ⊢;exact hh)
theorem gives_step {A:AOper} {p:Oper} {σ:Fs} {v:AV} {up:Option (Nat × AO)} (c:Ctx P K ok0 w0) (h:Rel ok0 N w0 σ.lk σ.lo a w L) (hd:dstFits N A.d p.dst=true) (hf:A.op.fits P p.op=true)
  (hy:Gives P K A.op σ v up):∃ w1 a' w' L',w0.le w1∧Rel ok0 N w1 (σ.app A.d v up).lk (σ.app A.d v up).lo a' w' L':=by
 have:=gives_go (ops:=#[{ p with guard:=none }]) (i:=0) (o:={ p with guard:=none }) (C:=fun a' w'=>∃ w1 L',w0.le w1∧Rel ok0 N w1 (σ.app A.d v up).lk (σ.app A.d v up).lo a' w' L') c h rfl (by simp[Region.wanted]) hd hf hy
  (fun w1 a' w' L' hl hr=>⟨w1,L',hl,hr⟩)
 obtain ⟨a',w',⟨w1,L',hl,hr⟩,_⟩:=this default [] [] []
 exact ⟨w1,a',w',L',hl,hr⟩
theorem hgives_step {A:AOper} {p:Oper} {σ σ':Fs} (c:Ctx P K ok0 w0) (h:Rel ok0 N w0 σ.lk σ.lo a w L) (hd:dstFits N A.d p.dst=true) (hf:A.op.fits P p.op=true)
  (hy:HGives P K A.d σ A.op σ'):∃ a' w' L',Rel ok0 N w0 σ'.lk σ'.lo a' w' L':=by
 have hnd:∀ c,p.op≠.defer c:=fun c e=>by rw[e,fits_defer] at hf;cases hf
 have:=step1_wp (ops:=#[{ p with guard:=none }]) (i:=0) (o:={ p with guard:=none }) (C:=fun a' w'=>∃ L',Rel ok0 N w0 σ'.lk σ'.lo a' w' L') (a:=a) (w:=w) rfl (by simp[Region.wanted]) hnd (hgives_wp (o:={ p with guard:=none }) c h hd hf hy (fun a' w' L' hr=>⟨L',hr⟩))
 obtain ⟨a',w',⟨L',hr⟩,_⟩:=this default [] [] []
 exact ⟨a',w',L',hr⟩
theorem extract {ops:Array Oper} {C:Env→Objs→Prop}:∀ (l:List AOper) (ps:List Oper) (e:Env) (o:Objs) (w0:Base) (c:Ctx P K ok0 w0) (a:Act) (w:World) (L:Nat→Lay),opersFit P N ops l ps=true →
  Rel ok0 N w0 (look e) (lookO o) a w L→runOps P K C l e o→∃ e' o',Path P K l (sig e o) (sig e' o')∧C e' o'
 | [],ps,e,o,w0,c,a,w,L,_,_,hh=>⟨e,o,.nil _,hh⟩
 | A::l,[],e,o,w0,c,a,w,L,hf,_,_=>by simp[opersFit] at hf
 | A::l,p::ps,e,o,w0,c,a,w,L,hf,hr,hh=>by
   simp only[opersFit,Bool.and_eq_true] at hf
   obtain ⟨hop,hf⟩:=hf
   have hop':=hop
   simp only[operFits,Bool.and_eq_true] at hop'
   obtain ⟨⟨hd,hg⟩,hfit⟩:=hop'
   simp only[runOps] at hh
   have wanted:∀ e1:Env,look e1=look e→run1 P K A.op (fun v up=>runOps P K C l (bnd A.d v e1) (upL up o)) e1 o →
     (∀ v up,Gives P K A.op (sig e o) v up→Yields P K A (sig e o) v up)→∃ e' o',Path P K (A::l) (sig e o) (sig e' o')∧C e' o':=by
    intro e1 he1 h1 hy
    have hr1:Rel ok0 N w0 (look e1) (lookO o) a w L:=by rw[he1];exact hr
    obtain ⟨v,up,hgv,hc⟩:=run1_gives c hr1 hfit h1
    have hs1:sig e1 o=sig e o:=by simp[sig,he1]
    rw[hs1] at hgv
    obtain ⟨w1,a',w',L',hle,hr'⟩:=gives_step (σ:=sig e o) c hr hd hfit hgv
    have hs2:(sig e o).app A.d v up=sig (bnd A.d v e1) (upL up o):=by rw[← hs1,sig_app]
    rw[hs2] at hr'
    obtain ⟨e',o',hp,hc'⟩:=extract l ps _ _ w1 (c.le hle) a' w' L' hf hr' hc
    exact ⟨e',o',.cons A l _ _ _ (.app v up (hy v up hgv)) (by rw[hs2];exact hp),hc'⟩
   have unwanted:∀ (t:Nat) (b:Bool),A.g=some (t,b)→∀ x:AV,look e t=x→(look e t=.iv (.bool (!b))∨look e t=.iv (.tup []))→runOps P K C l (bnd A.d (.iv (.tup [])) (setE t x e)) o →
     ∃ e' o',Path P K (A::l) (sig e o) (sig e' o')∧C e' o':=by
    intro t b hag x hx hor hun
    have hle:=look_setE (e:=e) hx
    have hs:(sig e o).app A.d (.iv (.tup [])) none=sig (bnd A.d (.iv (.tup [])) (setE t x e)) o:=by
     have:sig e o=sig (setE t x e) o:=by simp[sig,hle]
     rw[this,sig_app];rfl
    obtain ⟨hde,hdlt⟩:=dst_spec hd
    have hr':=hr.put p.dst hdlt (x:=.iv (.tup [])) (v:=undef) (.iv _ _ rep_undef)
    rw[← hde] at hr'
    have hr2:Rel ok0 N w0 (look (bnd A.d (.iv (.tup [])) (setE t x e))) (lookO o) (a.put A.d undef) w L:=by
     rw[look_bnd,hle];exact hr'
    obtain ⟨e',o',hp,hc'⟩:=extract l ps _ _ w0 c _ w L hf hr2 hun
    exact ⟨e',o',.cons A l _ _ _ (.app (.iv (.tup [])) none (by unfold Yields;rw[hag];exact .inr ⟨hor,rfl,rfl⟩)) (by rw[hs];exact hp),hc'⟩
   have hwant:∀ e1:Env,look e1=look e→(A.g=none∨∃ t b,A.g=some (t,b)∧(sig e o).lk t=.iv (.bool b))→runH P K A.op A.d (runOps P K C l) e1 o→∃ e' o',Path P K (A::l) (sig e o) (sig e' o')∧C e' o':=by
    intro e1 he1 hag hh
    have hse:sig e1 o=sig e o:=by simp[sig,he1]
    obtain ⟨σ',hgv,e',o',hs,hc⟩:∃ σ',HGives P K A.d (sig e o) A.op σ'∧∃ e' o',sig e' o'=σ'∧runOps P K C l e' o':=by
     rw[← hse]
     unfold runH at hh
     split at hh
     ·obtain ⟨keep,y',lo',args0,lo0,st,y,lo1,dom,e',o',h1,h2,h3,h4⟩:=HK_hg hh
      rename_i hAop
      rw[hAop]
      refine ⟨_,HGives.callh _ _ _ keep y' lo' args0 lo0 st y lo1 dom h1,e',o',?_,h4⟩
      simp[sig,h2,h3]
     ·obtain ⟨g,fs,cs,hx,hcal,hh⟩:=hh
      obtain ⟨keep,y',lo',args0,lo0,st,y,lo1,dom,e',o',h1,h2,h3,h4⟩:=HK_hg hh
      rename_i hAop
      rw[hAop]
      refine ⟨_,HGives.caldh _ g fs cs _ _ keep y' lo' args0 lo0 st y lo1 dom hx hcal h1,e',o',?_,h4⟩
      simp[sig,h2,h3]
     ·exact hh.elim
    obtain ⟨a',w',L',hr'⟩:=hgives_step (σ:=sig e o) c hr hd hfit hgv
    rw[← hs] at hr'
    obtain ⟨e2,o2,hp,hc'⟩:=extract l ps e' o' w0 c a' w' L' hf hr' hc
    exact ⟨e2,o2,.cons A l _ _ _ (.h σ' hag hgv) (by rw[← hs];exact hp),hc'⟩
   split at hh
   ·rename_i hag
    split at hh
    ·exact hwant e rfl (.inl hag) hh
    ·exact wanted e rfl hh (fun v up h=>by unfold Yields;rw[hag];exact h)
   ·rename_i t b hag
    unfold guardK at hh
    split at hh
    ·rename_i cb hcb
     by_cases hbc:cb=b
     ·subst hbc
      have hh1:=hh.1 rfl
      dsimp only at hh1
      split at hh1
      ·exact hwant _ (look_setE hcb) (.inr ⟨_,_,hag,hcb⟩) hh1
      ·exact wanted _ (look_setE hcb) hh1 (fun v up h=>by unfold Yields;rw[hag];exact .inl ⟨hcb,h⟩)
     ·have hcb':cb=!b:=by cases cb<;>cases b<;>simp_all
      subst hcb'
      have hun:=hh.2 rfl
      simp only[] at hun
      exact unwanted t b hag _ hcb (.inl hcb) hun
    ·rename_i hcb
     exact unwanted t b hag _ hcb (.inr hcb) hh
    ·exact hh.elim
end
end Go.Ev

/- A step of a loop over a map's entries; an empty row of a variable that the call has made. -/
namespace Go.Ev
open Go Go.RowKit
def nxtFits (N:Fm) (d dx:Nat) (x:Opd) (ops:Array Oper):Bool :=
 match ops.toList with
 | [p,q]=>p.dst==some d&&q.dst==some dx&&N.dst d&&N.dst dx&&p.guard.isNone&&q.guard.isNone &&
   (match p.op with | .next y s=>x.is y&&!s | _=>false)&&(match q.op with | .extract (.tmp m) j=>m==d&&j==0 | _=>false)
 | _=>false
section
variable {P:Program} {K:World→Prop} {ok0:Nat→Prop} {N:Fm} {w0:Base} {lk:Nat→AV} {lo:Nat→Option AO} {a:Act} {w:World} {L:Nat→Lay}
theorem next_step {p:Oper} {y:Operand} {x:Opd} {d id:Nat} {kvs:List (MK × IV)} {seen:List Nat} (h:Rel ok0 N w0 lk lo a w L) (hd:p.dst=some d) (hdN:N.dst d=true) (ho:p.op=.next y false) (hx:x.is y=true) (hxv:x.av lk=.oref id) (hid:lo id=some (.miter kvs seen)) :
  ∃ u w' L',(execOp a.eval p).run P w=.ok (.value u) w' ∧
   (((∀ i,i<kvs.length→i∈seen)∧Rel ok0 N w0 (setK lk (some d) (.iv (.tup [.bool false]))) lo (a.put p.dst u) w' L') ∨
    ∃ i q,kvs[i]?=some q∧i ∉ seen∧Rel ok0 N w0 (setK lk (some d) (.iv (.tup [.bool true,q.1.iv,q.2]))) (setO lo id (.miter kvs (i::seen))) (a.put p.dst u) w' L'):=by
 have rx:=Opd.rep h hx
 rw[hxv] at rx
 obtain ⟨_,b,hL,hv⟩:=refs_miter hid (refs_oref id) rx
 have hob:=h.objs _ _ hid
 rw[hL] at hob
 obtain ⟨hF,r,since,sn,hb,hit⟩:=hob
 have over:(∀ i,i<kvs.length→i∈seen)→(Instr.next (.pointer (some ⟨b,0,none⟩)) false p.type).run P w=.ok (.tuple #[.bool false]) w →
   ∃ u w' L',(execOp a.eval p).run P w=.ok (.value u) w' ∧
   (((∀ i,i<kvs.length→i∈seen)∧Rel ok0 N w0 (setK lk (some d) (.iv (.tup [.bool false]))) lo (a.put p.dst u) w' L') ∨
    ∃ i q,kvs[i]?=some q∧i ∉ seen∧Rel ok0 N w0 (setK lk (some d) (.iv (.tup [.bool true,q.1.iv,q.2]))) (setO lo id (.miter kvs (i::seen))) (a.put p.dst u) w' L'):=by
  intro hall hrun
  refine ⟨.tuple #[.bool false],w,L,by simp[execOp,ho,hv,hrun],.inl ⟨hall,?_⟩⟩
  rw[hd]
  refine h.put (some d) (fun t ht=>by injection ht with ht;subst ht;exact hdN) (.iv _ _ (.tup _ [_] rfl fun k x u hk hu=>?_))
  match k with
  | 0=>simp at hk hu;subst hk hu;exact .bool _
  | k+1=>simp at hk
 cases r with
 | none =>
   have hk:kvs=[]:=hit
   subst hk
   refine over (fun i hi=>by simp at hi) ?_
   have hb':w.heap[b]?=some (.mapIter none since sn since):=hb
   simp[Instr.next,getObj,Sem.run,hb']
 | some r =>
   obtain ⟨es,h1,h2,h3,h4,h5,h6⟩:=hit
   have hold:∀ x∈es.toList,x.born<since:=fun x hx=>by
    obtain ⟨i,hi⟩:=List.getElem?_of_mem hx
    exact h3.born i x (by simpa using hi)
   have stamp:∀ (i:Nat) (e:MapEntry),es[i]?=some e→(sn.contains e.born=true↔i∈seen):=by
    intro i e he
    constructor
    ·intro hc
     simp only[Array.contains_iff_mem] at hc
     obtain ⟨j,hj⟩:=Array.getElem?_of_mem hc
     have hjl:j<seen.reverse.length:=by rw[List.length_reverse,← h5];exact (Array.getElem?_eq_some_iff.1 hj).1
     obtain ⟨e',h7,h8⟩:=h6 j _ (List.getElem?_eq_getElem hjl)
     rw[hj] at h8
     injection h8 with h8
     have:=h3.apart i _ e e' he h7 h8
     rw[this,← List.mem_reverse]
     exact List.getElem_mem hjl
    ·intro hm
     rw[← List.mem_reverse] at hm
     obtain ⟨j,hj⟩:=List.getElem?_of_mem hm
     obtain ⟨e',h7,h8⟩:=h6 j i hj
     rw[he] at h7
     injection h7 with h7
     subst h7
     simp only[Array.contains_iff_mem]
     exact Array.mem_of_getElem? h8
   rcases run_next_at (P:=P) w p.type b r since since sn es since hb h2 hold (Nat.le_refl _) with ⟨h7,hrun⟩ | ⟨e,he,w1,hw1,hrun⟩
   ·refine over (fun i hi=>?_) hrun
    have hi':i<es.size:=by rw[h3.size];exact hi
    have hel:es[i] ∉ (leftOf es sn).toList:=by
     have:leftOf es sn=#[]:=Array.eq_empty_of_size_eq_zero h7
     rw[this];simp
    simp only[leftOf,Array.mem_toList_iff,Array.mem_filter,Array.getElem_mem,true_and,Bool.not_eq_true',Bool.not_eq_false] at hel
    exact (stamp i _ (Array.getElem?_eq_getElem hi')).1 hel
   ·simp only[leftOf,Array.mem_toList_iff,Array.mem_filter,Bool.not_eq_true'] at he
    obtain ⟨i,hi⟩:=Array.getElem?_of_mem he.1
    have hil:i<kvs.length:=by rw[← h3.size];exact (Array.getElem?_eq_some_iff.1 hi).1
    have hq:=List.getElem?_eq_getElem hil
    have hns:i ∉ seen:=fun hm=>by
     have:=(stamp i e hi).2 hm
     rw[he.2] at this
     cases this
    obtain ⟨k',hk1,hk2⟩:=h3.keys i e hi
    rw[hq] at hk1
    injection hk1 with hk1
    have hw1h:w1.heap=w.heap:=by rcases hw1 with rfl | rfl<;>rfl
    have hblt:b<w.heap.size:=(Array.getElem?_eq_some_iff.1 hb).1
    have hg:Only (fun k=>b=k) w (ChangeMaps.setBlock w1 b (.mapIter (some r) since (sn.push e.born) since)):=by
     refine ⟨?_,?_,?_,by simp[ChangeMaps.setBlock,hw1h],fun k _ hn=>by simp[ChangeMaps.setBlock,hw1h,Array.getElem?_setIfInBounds,hn]⟩<;>rcases hw1 with rfl | rfl<;>rfl
    refine ⟨.tuple #[.bool true,e.key,e.val],_,setL L id (.one b),by simp[execOp,ho,hv,hrun];rfl,.inr ⟨i,kvs[i],hq,hns,?_⟩⟩
    have hrel:=h.turnOne (ob':=.miter kvs (i::seen)) hid hL hg (fun ok lo' L' x' v' a1 a2 hx' hr=>by
     obtain ⟨rfl,b',hL',rfl⟩:=refs_miter hid hx' hr
     rw[hL] at hL'
     injection hL' with hL'
     subst hL'
     exact .oref id b _ a1 rfl a2) (fun ok lo' L' hok _=>by
     have hrne:r≠b:=fun e=>by rw[e,hb] at h2;cases h2
     refine ⟨hF,some r,since,sn.push e.born,by simp[ChangeMaps.setBlock,hw1h,hblt],es,(hok r h1 (Array.getElem?_eq_some_iff.1 h2).1).1,(hok r h1 (Array.getElem?_eq_some_iff.1 h2).1).2.trans h2,h3,fun i e p a1 a2=>(h4 i e p a1 a2).mono fun b' hb' hlt=>hok b' hb' hlt,by simp[h5],fun j x hj=>?_⟩
     rw[List.reverse_cons,List.getElem?_append] at hj
     rw[Array.getElem?_push]
     split at hj
     ·rename_i hjl
      rw[List.length_reverse] at hjl
      rw[if_neg (by omega)]
      exact h6 j x hj
     ·rename_i hjl
      rw[List.length_reverse] at hjl hj
      have:j-seen.length=0:=by
       rcases Nat.eq_zero_or_pos (j-seen.length) with h | h
       ·exact h
       ·rw[List.getElem?_eq_none (by simp;omega)] at hj;cases hj
      rw[this] at hj
      simp at hj
      subst hj
      exact ⟨e,hi,by rw[if_pos (by omega)]⟩)
    rw[hd]
    refine hrel.put (some d) (fun t ht=>by injection ht with ht;subst ht;exact hdN) (.iv _ _ (.tup _ [_,_,_] rfl fun k x u hk hu=>?_))
    match k with
    | 0=>simp at hk hu;subst hk hu;exact .bool _
    | 1=>simp at hk hu;subst hk hu;rw[hk2,← hk1];exact rep_key _ _ _
    | 2 =>
      simp at hk hu
      subst hk hu
      refine (h4 i e kvs[i] hi hq).mono fun b' hb' hlt=>⟨h.okL_turn hid (fun k hk=>.inl (by rw[hL];exact hk)) hb' hlt,hg.block b' hlt fun e=>?_⟩
      subst e
      exact hb'.2 id _ hid (by rw[hL];rfl)
    | k+3=>simp at hk
theorem nxt_steps {ops:Array Oper} {d dx cid id:Nat} {x:Opd} {kvs:List (MK × IV)} {seen:List Nat} {Q:Act→World→Prop} (c:Ctx P K ok0 w0) (h:Rel ok0 N w0 lk lo a w L) (hf:nxtFits N d dx x ops=true) (hxv:x.av lk=.oref id) (hid:lo id=some (.miter kvs seen))
  (hend:(∀ i,i<kvs.length→i∈seen)→∀ a' w' L',Rel ok0 N w0 (setK (setK lk (some d) (.iv (.tup [.bool false]))) (some dx) (.iv (.bool false))) lo a' w' L'→Q a' w')
  (hmore:∀ i q,kvs[i]?=some q→i ∉ seen→∀ a' w' L',Rel ok0 N w0 (setK (setK lk (some d) (.iv (.tup [.bool true,q.1.iv,q.2]))) (some dx) (.iv (.bool true))) (setO lo id (.miter kvs (i::seen))) a' w' L'→Q a' w')
  (b:Frame) (k:List Item) (cs:List Frame):∃ a' w',Q a' w'∧Steps P (lone (b.atR a (.code (.region cid ops false)::k)) cs w) (lone (b.atR a' k) cs w'):=by
 unfold nxtFits at hf
 split at hf
 ·rename_i p q hops
  simp only[Bool.and_eq_true,beq_iff_eq,Option.isNone_iff_eq_none] at hf
  obtain ⟨⟨⟨⟨⟨⟨⟨hpd,hqd⟩,hdN⟩,hdxN⟩,hpg⟩,hqg⟩,hp⟩,hq⟩:=hf
  have hops':ops=#[p,q]:=by rw[← Array.toList_inj];exact hops
  subst hops'
  split at hp
  ·rename_i y s hpo
   simp only[Bool.and_eq_true,Bool.not_eq_true'] at hp
   obtain ⟨hx,rfl⟩:=hp
   split at hq
   ·rename_i m j hqo
    simp only[Bool.and_eq_true,beq_iff_eq] at hq
    obtain ⟨rfl,rfl⟩:=hq
    refine region_go (Q:=Q) ?_ b k cs
    have hr2:List.range (#[p,q]:Array Oper).size=[0,1]:=rfl
    rw[hr2]
    obtain ⟨u,w1,L1,hrun,hor⟩:=next_step (P:=P) h hpd hdN hpo hx hxv hid
    have w1t:Region.wanted p (yielded #[p,q] a.tmps)=true:=by simp[Region.wanted,hpg]
    simp only[goOps]
    refine step1_wp (o:=p) rfl w1t (fun c e=>by rw[hpo] at e;cases e) ?_
    unfold Oper.wp
    rw[hrun]
    simp only[Oper.upon]
    have w2t:Region.wanted q (yielded #[p,q] (a.put p.dst u).tmps)=true:=by simp[Region.wanted,hqg]
    refine step1_wp (o:=q) rfl w2t (fun c e=>by rw[hqo] at e;cases e) ?_
    have ext:∀ (lk1:Nat→AV) (lo1:Nat→Option AO) (cs:List IV) (bv:Bool),Rel ok0 N w0 (setK lk1 (some m) (.iv (.tup (.bool bv::cs)))) lo1 (a.put p.dst u) w1 L1 →
      (∀ a' w' L',Rel ok0 N w0 (setK (setK lk1 (some m) (.iv (.tup (.bool bv::cs)))) (some dx) (.iv (.bool bv))) lo1 a' w' L'→Q a' w') →
      q.wp P (a.put p.dst u) w1 Q (fun _ _ _=>False):=by
     intro lk1 lo1 cs bv hr hQ
     exact gives_wp (A:=⟨some dx,none,.ext (.t m) 0⟩) (σ:=⟨setK lk1 (some m) (.iv (.tup (.bool bv::cs))),lo1⟩) (v:=.iv (.bool bv)) (up:=none) c hr (by simp[dstFits,hqd,hdxN]) (by simp[AOp.fits,hqo,fExt,Opd.is,Opd.isTmp])
      (.plain _ _ True True _ _ (by simp[ev,Opd.av,setK,evExt]) trivial) rfl (fun a' w' L' h=>hQ a' w' L' h)
    rcases hor with ⟨hall,hr⟩ | ⟨i,kv,hi,hns,hr⟩
    ·exact ext _ _ _ _ hr (hend hall)
    ·exact ext _ _ _ _ hr (hmore i kv hi hns)
   ·cases hq
  ·cases hp
 ·cases hf
theorem gh_rel {id bid off:Nat} {e:TypeId} {sz:Nat} {cs:List AV} (h:Rel ok0 N w0 lk lo a w L) (hid:lo id=none) (hb:lo bid=some (.box cs)) (hc:cs[off]?=some (.nilr sz)) :
  ∃ L',Rel ok0 N w0 lk (setO (setO lo id (.arr e sz [] 0)) bid (.box (cs.set off (.aref id 0)))) a w L':=by
 have hne:bid≠id:=fun e=>by rw[e,hid] at hb;cases hb
 have h1:=h.new id hid (.arr e sz [] 0) (.arr (.slice none 0 0) []) (Below.refl _ w) (fun b hb=>by simp[Lay.has,Value.ownBlock] at hb)
  ⟨⟨⟨by simp,.inl ⟨rfl,rfl⟩⟩,fun b hb=>by simp[Value.ownBlock] at hb⟩,Nat.le_refl _,by simp,by simp,by simp⟩
 have hb1:setO lo id (.arr e sz [] 0) bid=some (.box cs):=by simp[setO,hne,hb]
 have hob:=h1.objs _ _ hb1
 have hok:∀ k,okL ok0 (setO lo id (.arr e sz [] 0)) (setL L id (.arr (.slice none 0 0) [])) k→k<w.heap.size→okL ok0 (setO (setO lo id (.arr e sz [] 0)) bid (.box (cs.set off (.aref id 0)))) (setL (setL L id (.arr (.slice none 0 0) [])) bid (setL L id (.arr (.slice none 0 0) []) bid)) k :=
  fun k hk hlt=>h1.okL_turn hb1 (fun b hb=>.inl hb) hk hlt
 refine ⟨_,h1.turn (o':=.box (cs.set off (.aref id 0))) (l':=setL L id (.arr (.slice none 0 0) []) bid) bid hb1 ⟨rfl,rfl,rfl,Nat.le_refl _,fun _ _ _=>rfl⟩ (fun b hb=>.inl hb) (fun z u hz hu=>?_) (fun all=>?_)⟩
 ·cases hu with
  | iv=>simp[AV.refs] at hz
  | agg=>simp[AV.refs] at hz
  | nilr=>simp[AV.refs] at hz
  | clo=>simp[AV.refs] at hz
  | tup=>simp[AV.refs] at hz
  | cb jj s2 O2 D2 ho' hL' =>
    have:jj=bid:=by simpa[AV.refs] using hz
    subst this;rw[hb1] at ho';cases ho'
  | loc jj off cs2 b ho' hL' =>
    have:jj=bid:=by simpa[AV.refs] using hz
    subst this
    exact .loc jj _ _ b (by simp[setO];rfl) (by simp only[setL,if_true];exact hL')
  | aref jj e2 sz2 es2 mv2 v2 xs2 ho' hL' =>
    have:jj=bid:=by simpa[AV.refs] using hz
    subst this;rw[hb1] at ho';cases ho'
  | old jj n' e2 sz2 es2 mv2 v2 v2' xs2 ho' hL' =>
    have:jj=bid:=by simpa[AV.refs] using hz
    subst this;rw[hb1] at ho';cases ho'
  | eloc jj n' i' off' e2 sz2 es2 mv2 v2 xs2 b2 ho' hL' =>
    have:jj=bid:=by simpa[AV.refs] using hz
    subst this;rw[hb1] at ho';cases ho'
  | mref jj k2 n2 e2 sz2 kvs2 pend2 b2 vals2 v2 ho' hL' =>
    have:jj=bid:=by simpa[AV.refs] using hz
    subst this;rw[hb1] at ho';cases ho'
  | oref jj b2 o2 ho' hn' hL' =>
    have:jj=bid:=by simpa[AV.refs] using hz
    subst this;rw[hb1] at ho';injection ho' with ho';subst ho';cases hn'
  | omap jj b2 kvs2 ho' hL' =>
    have:jj=bid:=by simpa[AV.refs] using hz
    subst this;rw[hb1] at ho';cases ho'
  | orow jj b2 e2 sz2 kvs2 pend2 vals2 ho' hL' =>
    have:jj=bid:=by simpa[AV.refs] using hz
    subst this;rw[hb1] at ho';cases ho'
  | obytes jj b2 cap2 s2 ho' hL' =>
    have:jj=bid:=by simpa[AV.refs] using hz
    subst this;rw[hb1] at ho';cases ho'
  | belem jj j2 b2 s2 ho' hL' hi' =>
    have:jj=bid:=by simpa[AV.refs] using hz
    subst this;rw[hb1] at ho';cases ho'
 ·revert hob all
  generalize setL L id (.arr (.slice none 0 0) []) bid=l
  intro hob all
  cases l with
  | box b =>
    obtain ⟨hB,t,vs,hbk,hl,h1',hx⟩:=hob
    refine ⟨hB,t,vs,hbk,by rw[List.length_set];exact hl,h1',fun k x u hk hu=>?_⟩
    rw[List.getElem?_set] at hk
    split at hk
    ·rename_i hko
     subst hko
     have hk':x=.aref id 0:=by
      split at hk
      ·injection hk with hk;exact hk.symm
      ·cases hk
     subst hk'
     have hu':u=.slice none 0 0:=by
      have:=hx off _ u hc hu
      cases this
      rfl
     subst hu'
     exact .aref id e sz [] 0 (.slice none 0 0) [] (by simp[setO,Ne.symm hne]) (by simp[setL,Ne.symm hne]) rfl
    ·exact all _ _ (hx k x u hk hu)
  | _=>exact hob.elim
end
end Go.Ev
