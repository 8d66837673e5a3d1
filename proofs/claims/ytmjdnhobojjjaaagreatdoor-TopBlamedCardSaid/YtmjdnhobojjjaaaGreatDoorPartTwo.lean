/- Each operation of the evaluator does what the translation's operation does: byte rows, strings' runes, maps. -/
import Derived.Test.YtmjdnhobojjjaaaGreatDoorPartOne
import Derived.Laws.Cover4
import Derived.Laws.MakeOwn
import Derived.Lib.ConvBytes
import Derived.Lib.OthersKept
import Derived.MapKept
import Derived.MapFrom
import Derived.Carry
import Derived.Maps.RangeRun
import Derived.Laws.StructEq
import Derived.ChangeKeysEq
import Derived.WideKeyRuns
import Derived.RangeFuncRecord
import Derived.AtR
set_option linter.all false
namespace Go.Ev
open Go Go.RowKit
section
variable {P:Program} {ok0:Nat->Prop} {N:Fm} {w0:ZR} {lk:Nat->AV} {lo:Nat->Option AO} {a:Act} {w:World} {L:Nat->Lay} {o:Oper}
variable {s f:Prop} {v:AV} {up:Option (Nat × AO)}
theorem Rel.newOne {w' id ob} (h:Rel ok0 N w0 lk lo a w L) (hid:lo id=none) (hb:Below w.heap.size w w') (hd:ob.data=true)
  (ho:∀ ok lo' L',¬ w0.fr w.heap.size->(∀ b,okL ok0 lo L b->b<w.heap.size->ok b)->Qt w0.fr ok w' lo' L' ob (.one w.heap.size)) :
  Rel ok0 N w0 lk (QK lo id ob) a w' (QF L id (.one w.heap.size)):=by
 refine h.new id hid ob (.one w.heap.size) hb (fun b hb=>by simp only[Lay.has] at hb;omega) (ho _ _ _ (h.frlt (Qzq _)) fun b hb hlt=>?_)
 grind
theorem Rel.turnOne {w' id b ob ob'} (h:Rel ok0 N w0 lk lo a w L) (hid:lo id=some ob) (hL:L id=.one b) (hg:Qc1 (fun k=>b=k) w w')
  (href:∀ ok lo' L' x v,lo' id=some ob'->L' id=.one b->AV.refs id x=true->Qs (okL ok0 lo L) w lo L x v->Qs ok w' lo' L' x v)
  (ho:∀ ok lo' L',(∀ k,okL ok0 lo L k->k<w.heap.size->ok k/\w'.heap[k]?=w.heap[k]?)->Qt w0.fr (okL ok0 lo L) w lo L ob (.one b)->Qt w0.fr ok w' lo' L' ob' (.one b)) :
  Rel ok0 N w0 lk (QK lo id ob') a w' (QF L id (.one b)):=by
 have hl':∀ k,(Lay.one b).has k->(L id).has k\/w.heap.size<=k:=fun k hk=>.inl (by rw[hL];exact hk)
 have hok:∀ k,okL ok0 lo L k->k<w.heap.size->okL ok0 (QK lo id ob') (QF L id (.one b)) k:=fun k hk hlt=>h.okL_turn hid hl' hk hlt
 refine h.turn id hid ⟨hg.os,hg.tape,hg.output,hg.size,fun k hk hn=>hg.block k hk (fun e=>hn (by rw[hL];exact e))⟩ hl' (fun x v hx hr=>href _ _ _ x v (by simp[QK]) (by simp[QF]) hx hr) (fun _=>?_)
 have:=h.objs id ob hid;rw[hL] at this;refine ho _ _ _ (fun k hk hlt=>⟨hok k hk hlt,hg.block k hlt (fun e=>hk.2 id ob hid (by rw[hL];exact e))⟩) this
theorem XM (w b ob):Qc1 (fun k=>b=k) w { w with heap:=w.heap.setIfInBounds b ob } :=
 ⟨rfl,rfl,rfl,by simp,fun k _ hn=>by simp[Qz2,hn]⟩
theorem Xu {x u} (r:Qs (okL ok0 lo L) w lo L (.iv x) u):Qv (okL ok0 lo L) w x u:=by cases r;assumption
theorem Qll {id x} (h:Rel ok0 N w0 lk lo a w L) (hf:YOp.fits P (.s2b id x) o.op=true) (he:evY lk lo (.s2b id x)=.ok s f v up) (hs:s):f/\Qo P o ok0 N w0 lk lo a w v up:=by
 simp only[YOp.fits] at hf;split at hf
 ·rename_i sT dT y ho
  simp only[Qzm] at hf;obtain ⟨⟨hx,hs1⟩,hd⟩:=hf;have rx:=Opd.rep h hx;simp only[evY] at he;split at he
  ·rename_i st hxv hid
   injection he with e1 e2 e3 e4
   subst e1 e2 e3 e4;rw[hxv] at rx;have hv:=Z9 rx;unfold Q4 at hs1;split at hs1
   ·rename_i hus
    unfold JR at hd;split at hd
    ·rename_i e hud
     have hue:P.underlying e=some (.int .u8):=by
      simp only[beq_iff_eq] at hd;unfold V2 at hd
      grind
     have hrun:=Lib.run_convert_string_bytes (P:=P) w sT dT e ⟨st.toArray⟩ hus hud hue;have hold:∀ k,k<w.heap.size->(Lib.bytesWorld w e ⟨st.toArray⟩).heap[k]?=w.heap[k]?:=fun k hk=>Lib.bytesWorld_at_old w e _ k hk
     have hb:Below w.heap.size w (Lib.bytesWorld w e ⟨st.toArray⟩):=⟨rfl,rfl,rfl,by rw[Lib.bytesWorld_size];omega,hold⟩
     have hsz:(⟨st.toArray⟩:ByteArray).size=st.length:=by simp[ByteArray.size]
     have hge:=grownCap_ge w st.length 0 e;have hnew:=Lib.bytesWorld_at_new w e ⟨st.toArray⟩;refine ⟨trivial,_,.slice (some ⟨w.heap.size,0,none⟩) st.length (grownCap w st.length 0 e),_,_,by simp[execOp,ho,hv,hrun,hsz],.inl rfl,h.newOne hid hb rfl (fun ok lo' L' hF _=>⟨hF,_,_,hnew,?_,fun i c hc=>?_⟩),?_⟩
     ·simp only[Lib.bytesCells,hsz,Array.size_append,Array.size_map,Array.size_replicate]
      simp
     ·have hi:i<st.length:=(Qzl.1 hc).1
      have hc':st[i]=c:=(Qzl.1 hc).2;simp only[Lib.bytesCells]
      grind
     ·exact .obytes id _ _ st (by simp[upO,QK]) (by simp[QF])
    ·cases hd
   ·cases hs1
  ·cases he
 ·cases hf
theorem Qar {ok B st b i c} (h:Qt B ok w lo L (.bytes st) (.one b)) (hc:st[i]?=some c):w.cell? ⟨b,i,none⟩=some (.int .u8 c.toNat):=by
 obtain ⟨_,cur,t,hb,_,hx⟩:=h;simp[World.cell?,hb,hx i c hc]
theorem Qi7 {id x} (h:Rel ok0 N w0 lk lo a w L) (hf:YOp.fits P (.b2so id x) o.op=true) (he:evY lk lo (.b2so id x)=.ok s f v up):f/\Qo P o ok0 N w0 lk lo a w v up:=by
 simp only[YOp.fits] at hf;split at hf
 ·rename_i sT dT y ho
  simp only[Qzm] at hf;obtain ⟨⟨hx,hs1⟩,hd⟩:=hf;have rx:=Opd.rep h hx;simp only[evY] at he;split at he
  ·rename_i i st hxv hid
   split at he
   ·rename_i hii
    subst hii;injection he with e1 e2 e3 e4
    subst e1 e2 e3 e4;rw[hxv] at rx;generalize hey:a.eval y=yv at rx;have hob:=h.objs _ _ hid;cases rx with
    | obytes _ b cap s2 ho' hL =>
      rw[hid] at ho';injection ho' with ho'
      injection ho' with ho'
      subst ho';rw[hL] at hob;unfold Q4 at hd;split at hd
      ·rename_i hud
       unfold JR at hs1;split at hs1
       ·rename_i e hus
        have hue:P.underlying e=some (.int .u8):=by
         simp only[beq_iff_eq] at hs1;unfold V2 at hs1
         grind
        have hrun:=run_convert_bytes_back (P:=P) w sT dT e ⟨b,0,none⟩ cap st hus hue hud (fun j hj=>by
         rw[QM,Qzx];exact Qar hob (Qzk hj))
        exact ⟨trivial,Qo.pure h (u:=.string ⟨st.toArray⟩) (by simp[execOp,ho,hey,hrun]) (Yh st)⟩
       ·cases hs1
      ·cases hd
    | _=>grind
   ·cases he
  ·cases he
 ·cases hf
theorem Qgj {id st u} (hid:lo id=some (.bytes st)) (r:Qs (okL ok0 lo L) w lo L (.oref id) u):∃ b cap,L id=.one b/\u=.slice (some ⟨b,0,none⟩) st.length cap:=by
 grind
theorem Qco {id n st u} (hid:lo id=some (.bytes st)) (r:Qs (okL ok0 lo L) w lo L (.belem id n) u):∃ b,L id=.one b/\u=.pointer (some ⟨b,n,none⟩):=by
 cases r with
 | belem _ _ b s2 ho' hL hi=>exact ⟨b,hL,rfl⟩
theorem QlG {id x i} (h:Rel ok0 N w0 lk lo a w L) (hf:YOp.fits P (.ixb id x i) o.op=true) (he:evY lk lo (.ixb id x i)=.ok s f v up) (hs:s):f/\Qo P o ok0 N w0 lk lo a w v up:=by
 simp only[YOp.fits] at hf;split at hf
 ·rename_i t x' i' ho
  simp only[Qzm] at hf;obtain ⟨⟨hx,hi⟩,hsz⟩:=hf;obtain ⟨e,ti,hu,hti,hts⟩:=Zh hsz;have rx:=Opd.rep h hx;have ri:=Opd.rep h hi;simp only[evY] at he;split at he
  ·rename_i j k n st hxv hiv hid
   split at he
   ·rename_i hji
    subst hji;injection he with e1 e2 e3 e4
    subst e1 e2 e3 e4;rw[hxv] at rx;rw[hiv] at ri;have hei:=QS ri;obtain ⟨b,cap,hL,hv⟩:=Qgj hid rx;refine ⟨trivial,Qo.pure h (u:=.pointer (some ⟨b,0+n.toNat*1,none⟩)) ?_ ?_⟩
    ·simp only[execOp,ho,hv,hei,Sem.run_bind,JL hu hti hts b 0 st.length cap k n hs.1 hs.2]
     rfl
    grind
   ·cases he
  ·cases he
 ·cases hf
theorem QlB {id x} (h:Rel ok0 N w0 lk lo a w L) (hf:YOp.fits P (.ldb id x) o.op=true) (he:evY lk lo (.ldb id x)=.ok s f v up) (hs:s):f/\Qo P o ok0 N w0 lk lo a w v up:=by
 simp only[YOp.fits] at hf;split at hf
 ·rename_i t y ho
  simp only[Qzm,beq_iff_eq] at hf;obtain ⟨⟨hx,hag⟩,hn⟩:=hf;have rx:=Opd.rep h hx;simp only[evY] at he;split at he
  ·rename_i j n st hxv hid
   split at he
   ·rename_i hji
    subst hji;injection he with e1 e2 e3 e4
    subst e1 e2 e3 e4;rw[hxv] at rx;obtain ⟨b,hL,hv⟩:=Qco hid rx;have hob:=h.objs _ _ hid;rw[hL] at hob;have hc:=Qar hob (Qzk hs)
    have hload:=Zn (P:=P) (w:=w) hag hn b n [.int .u8 (st[n]).toNat] rfl (by simp) (fun k u hu=>by
     grind)
    refine ⟨trivial,Qo.pure h (u:=.int .u8 (st[n]).toNat) ?_ ?_⟩
    ·simp[execOp,ho,hv,Instr.loadAt,Instr.sureAddr,hload]
    ·have e:st.getD n 0=st[n]:=by simp[List.getD,hs]
     rw[e];exact QR _ _
   ·cases he
  ·cases he
 ·cases hf
theorem QaM {t b n u cur ty} (hn:Program.sizeIs P t 1=true) (hu:u.oneCell'=true) (hc:u.cells=#[u]) (hb:w.heap[b]?=some (.cells cur ty (cur.size,cur.size+1))) (hlt:n<cur.size) :
  (storeVar t ⟨b,n,none⟩ u).run P w=.ok () (w.setRow b (cur.setIfInBounds n u)):=by
 unfold Program.sizeIs at hn;cases hi:P.info? t with
 | none=>simp[hi] at hn
 | some i =>
   have hs:i.size=1:=by simpa[hi] using hn
   have hcell:w.cell? ⟨b,n,none⟩=some cur[n]:=by simp[World.cell?,hb,hlt]
   have hfro:w.frozen? ⟨b,n,none⟩=false:=by
    simp only[World.frozen?,hb,Bool.and_eq_false_iff,decide_eq_false_iff_not];left;omega
   have hst:(store ((⟨b,n,none⟩:Addr).add 0) u).run P w=.ok () (w.setRow b (cur.setIfInBounds n u)):=by
    rw[QM,QAe,run_store P w _ u _ hu,hcell];simp[hfro,setCell_eq_setRow w b n cur ty _ u hb]
   have hsz:(sizeOf t).run P w=.ok 1 w:=by simp[sizeOf,typeInfo,hi,hs]
   simp[storeVar,hc,hsz,storeCells,hst]
theorem Qlh {id x y} (h:Rel ok0 N w0 lk lo a w L) (hf:YOp.fits P (.stb id x y) o.op=true) (he:evY lk lo (.stb id x y)=.ok s f v up) (hs:s):f/\Qo P o ok0 N w0 lk lo a w v up:=by
 simp only[YOp.fits] at hf;split at hf
 ·rename_i t x' y' ho
  simp only[Qzm] at hf;obtain ⟨⟨hx,hy⟩,hn⟩:=hf;have rx:=Opd.rep h hx;have ry:=Opd.rep h hy;simp only[evY] at he;split at he
  ·rename_i j n m st hxv hyv hid
   split at he
   ·rename_i hji
    subst hji;injection he with e1 e2 e3 e4
    subst e1 e2 e3 e4;rw[hxv] at rx;rw[hyv] at ry;have hey:=QS ry;obtain ⟨b,hL,hv⟩:=Qco hid rx;have hob:=h.objs _ _ hid;rw[hL] at hob;obtain ⟨hF,cur,ty,hb,hlen,hcells⟩:=hob;obtain ⟨hlt,hm0,hm1⟩:=hs;have hltc:n<cur.size:=by omega
    have hst:=QaM (P:=P) (u:=.int .u8 m) hn rfl rfl hb hltc;have hset:=setRow_heap w b cur (cur.setIfInBounds n (.int .u8 m)) ty (cur.size,cur.size+1) hb;have hg:=Qc1.of (S:=fun k=>b=k) (ZF w b (cur.setIfInBounds n (.int .u8 m))) (fun k hk=>by injection hk)
    refine ⟨trivial,.skip,undef,_,QF L j (.one b),?_,.inr ⟨rfl,rfl⟩,h.turnOne (ob':=.bytes (st.set n (UInt8.ofNat m.toNat))) hid hL hg (fun ok lo' L' x v h1 h2 hx hr=>?_) (fun ok lo' L' hok _=>?_),?_⟩
    ·simp[execOp,ho,hv,hey,Instr.storeAt,Instr.sureAddr,hst]
    ·cases hr with
     | _=>grind
    ·refine ⟨hF,cur.setIfInBounds n (.int .u8 m),ty,by simpa using hset,by simpa using hlen,fun i c hc=>?_⟩
     rw[Qz7] at hc;rw[Qz2];split at hc
     ·rename_i hni
      subst hni;rw[if_pos rfl,if_pos hltc];injection hc with hc
      subst hc;have e:(UInt8.ofNat m.toNat).toNat=m.toNat:=by simp;omega
      rw[e,Int.toNat_of_nonneg hm0]
     ·rename_i hni
      rw[if_neg hni];exact hcells i c hc
    ·exact .iv _ _ (.any _)
   ·cases he
  ·cases he
 ·cases hf
theorem Qpe {mn x y} (h:Rel ok0 N w0 lk lo a w L) (hf:YOp.fits P (.mx mn x y) o.op=true) (he:evY lk lo (.mx mn x y)=.ok s f v up):f/\Qo P o ok0 N w0 lk lo a w v up:=by
 simp only[YOp.fits] at hf;split at hf
 ·rename_i b az ts ho
  split at hf
  ·rename_i x' y' has
   simp only[Qzm] at hf;obtain ⟨⟨hb,hx⟩,hy⟩:=hf;have rx:=Opd.rep h hx;have ry:=Opd.rep h hy;simp only[evY] at he;split at he
   ·rename_i k p k' q hxv hyv
    split at he
    ·rename_i hkk
     subst hkk;injection he with e1 e2 e3 e4
     subst e1 e2 e3 e4;rw[hxv] at rx;rw[hyv] at ry;have hex:=QS rx;have hey:=QS ry;have has':az=#[x',y']:=by rw[<- Array.toList_inj];exact has
     cases mn with
     | true =>
       cases b<;>first | (cases hb;done) | skip
       refine ⟨trivial,Qo.pure h (u:=.int k (if q<p then q else p)) ?_ (QR _ _)⟩
       simp[execOp,ho,has',hex,hey,resolve,invoke,builtin,Builtin.min_,Builtin.min2]
     | false =>
       cases b<;>first | (cases hb;done) | skip
       refine ⟨trivial,Qo.pure h (u:=.int k (if p<q then q else p)) ?_ (QR _ _)⟩
       simp[execOp,ho,has',hex,hey,resolve,invoke,builtin,Builtin.max_,Builtin.max2]
    ·cases he
   ·cases he
  ·cases hf
 ·cases hf
theorem QiT {id x} (h:Rel ok0 N w0 lk lo a w L) (hf:YOp.fits P (.rngs id x) o.op=true) (he:evY lk lo (.rngs id x)=.ok s f v up):f/\Qo P o ok0 N w0 lk lo a w v up:=by
 simp only[YOp.fits] at hf;split at hf
 ·rename_i t y ho
  simp only[Qzm] at hf;obtain ⟨hx,hst⟩:=hf;have rx:=Opd.rep h hx;simp only[evY] at he;split at he
  ·rename_i st hxv hid
   injection he with e1 e2 e3 e4
   subst e1 e2 e3 e4;rw[hxv] at rx;have hv:=Z9 rx;unfold Q4 at hst;split at hst
   ·rename_i hu
    have hrun:=run_range_string (P:=P) w t ⟨st.toArray⟩ hu;have hw:w.iter ⟨st.toArray⟩ 0=w.alloc (.stringIter ⟨st.toArray⟩ 0):=rfl;rw[hw] at hrun;refine ⟨trivial,_,.pointer (some ⟨w.heap.size,0,none⟩),_,_,by simp[execOp,ho,hv,hrun],.inl rfl,h.newOne hid (Qq w _) rfl (fun ok lo' L' hF _=>⟨hF,heap_alloc_new w _⟩),?_⟩
    exact .oref id _ (.siter st 0) (by simp[upO,QK]) rfl (by simp[QF])
   ·cases hst
  ·cases he
 ·cases hf
theorem Qlr {id r} (h:Rel ok0 N w0 lk lo a w L) (hf:YOp.fits P (.mkm id r) o.op=true) (he:evY lk lo (.mkm id r)=.ok s f v up):f/\Qo P o ok0 N w0 lk lo a w v up:=by
 simp only[YOp.fits] at hf;split at hf
 ·rename_i t ho
  simp only[evY] at he;split at he
  ·rename_i hid
   injection he with e1 e2 e3 e4
   subst e1 e2 e3 e4;have hrun:=run_makeMap (P:=P) t w;have mr:∀ key,Z5 0 #[] 0 key:=fun key=>⟨rfl,by simp,by simp,by simp⟩
   cases r with
   | none =>
     refine ⟨trivial,_,.map (some w.heap.size),_,_,by simp[execOp,ho,hrun],.inl rfl,h.newOne hid (Qq w _) rfl (fun ok lo' L' hF _=>⟨hF,#[],0,heap_alloc_new w _,mr _,by simp,by simp⟩),?_⟩
     exact .omap id _ [] (by simp[upO,QK]) (by simp[QF])
   | some p =>
     obtain ⟨e,sz⟩:=p;refine ⟨trivial,_,.map (some w.heap.size),w.alloc (.map #[] 0),QF L id (.map w.heap.size []),by simp[execOp,ho,hrun],.inl rfl,?_,?_⟩
     ·refine h.new id hid _ _ (Qq w _) (fun b hb=>by simp[Lay.has] at hb;omega) ⟨h.frlt (Qzq _),⟨#[],0,heap_alloc_new w _,0,Qzq _,mr _,by simp,by simp⟩,by simp,rfl,by simp,by simp⟩
     ·exact .orow id _ e sz [] none [] (by simp[upO,QK]) (by simp[QF])
  ·cases he
 ·cases hf
theorem Qf7 {id st pos x u} (hid:lo id=some (.siter st pos)) (hx:AV.refs id x=true) (hr:Qs (okL ok0 lo L) w lo L x u):x=.oref id/\∃ b,L id=.one b/\u=.pointer (some ⟨b,0,none⟩):=by
 cases hr with
 | _=>grind
theorem qZ {id kvs seen x u} (hid:lo id=some (.miter kvs seen)) (hx:AV.refs id x=true) (hr:Qs (okL ok0 lo L) w lo L x u):x=.oref id/\∃ b,L id=.one b/\u=.pointer (some ⟨b,0,none⟩):=by
 cases hr with
 | _=>grind
theorem Xg {id kvs x u} (hid:lo id=some (.mapd kvs)) (hx:AV.refs id x=true) (hr:Qs (okL ok0 lo L) w lo L x u):x=.oref id/\∃ b,L id=.one b/\u=.map (some b):=by
 cases hr with
 | _=>grind
theorem Jd {id e sz kvs pend x u} (hid:lo id=some (.mapr e sz kvs pend)) (hx:AV.refs id x=true) (hr:Qs (okL ok0 lo L) w lo L x u):∃ b vals,L id=.map b vals/\((x=.oref id/\u=.map (some b))\/∃ k n,x=.mref id k n/\isSl u=true/\n<=((Qh k kvs).getD []).length/\(((Qh k kvs).getD []).length=n->u=(Qh k vals).getD (.slice none 0 0))):=by
 cases hr with
 | _=>grind
theorem ZD (id):AV.refs id (.oref id)=true:=by simp[AV.refs]
theorem QiW {id x} (h:Rel ok0 N w0 lk lo a w L) (hf:YOp.fits P (.nxts id x) o.op=true) (he:evY lk lo (.nxts id x)=.ok s f v up):f/\Qo P o ok0 N w0 lk lo a w v up:=by
 simp only[YOp.fits] at hf;split at hf
 ·rename_i y s2 ho
  simp only[Qzm] at hf;obtain ⟨hx,hs2⟩:=hf;subst hs2;have rx:=Opd.rep h hx;simp only[evY] at he;split at he
  ·rename_i j st pos hxv hid
   split at he
   ·rename_i hji
    subst hji;rw[hxv] at rx;obtain ⟨_,b,hL,hv⟩:=Qf7 hid (ZD j) rx;have hob:=h.objs _ _ hid;rw[hL] at hob;obtain ⟨hF,hb⟩:=hob;have hsz:(⟨st.toArray⟩:ByteArray).size=st.length:=by simp[ByteArray.size]
    split at he
    ·rename_i hpos
     injection he with e1 e2 e3 e4
     subst e1 e2 e3 e4;have hrun:=Lib.run_next_any_at (P:=P) w b ⟨st.toArray⟩ pos o.type hb (by rw[hsz];exact hpos)
     refine ⟨trivial,_,.tuple #[.bool true,.int .i64 pos,.int .i32 (Qri st pos).1],_,QF L j (.one b),by simp[execOp,ho,hv,hrun,Qri];rfl,.inl rfl,h.turnOne (ob':=.siter st (pos+(Qri st pos).2)) hid hL (XM w b _) (fun ok lo' L' x' v' h1 h2 hx' hr=>?_) (fun ok lo' L' hok _=>?_),?_⟩
     ·grind
     ·refine ⟨hF,?_⟩
      have hlt:b<w.heap.size:=(Qzs.1 hb).1;simp[hlt,Qri]
     ·refine .iv _ _ (.tup _ [_,_,_] rfl fun k x u hk hu=>?_)
      match k with
      | 0=>simp at hk hu;subst hk hu;exact .bool _
      | 1=>simp at hk hu;subst hk hu;exact .int _ _
      | 2=>simp at hk hu;subst hk hu;exact .int _ _
      | k+3=>simp at hk
    ·rename_i hpos
     injection he with e1 e2 e3 e4
     subst e1 e2 e3 e4;have hrun:=Lib.run_next_end_at (P:=P) w b ⟨st.toArray⟩ pos o.type hb (by rw[hsz];exact hpos)
     refine ⟨trivial,Qo.pure h (u:=.tuple #[.bool false]) (by simp[execOp,ho,hv,hrun]) (.iv _ _ (.tup _ [_] rfl fun k x u hk hu=>?_))⟩
     match k with
     | 0=>simp at hk hu;subst hk hu;exact .bool _
     | k+1=>simp at hk
   ·cases he
  ·cases he
 ·cases hf
def UU (P:Program) (kt:TypeId) (key:Value) (l:List MapEntry) (res:Option (Nat × Value)):Prop:=∀ w,(Instr.findKey kt key l).run P w=.ok res w
structure Qq5 (P:Program) (kt:TypeId) (key:Value):Prop where
 check:∀ (w:World) (em:Bool),(Instr.checkKey em 10000 kt key).run P w=.ok () w
 stays:∀ w:World,(Instr.keyThatStays key key).run P w=.ok key w
theorem Qgh {a b:KC} (h:a.val=b.val):a=b:=by
 cases a<;>cases b<;>simp only[KC.val] at h<;>grind
theorem JP:∀ {a b:List KC},a.map KC.val=b.map KC.val->a=b
 | [],[],_=>rfl
 | [],_::_,h=>by simp at h
 | _::_,[],h=>by simp at h
 | x::a,y::b,h=>by
   simp only[QzH,List.cons.injEq] at h;rw[Qgh h.1,JP h.2]
theorem Uc {k:Option IntKind} {t:TypeId} (h:JO P k t=true):P.plainKey t=true:=by
 unfold JO at h;unfold Program.plainKey;split at h<;>simp_all
theorem Qpk {k:Option IntKind} {t:TypeId} (h:JO P k t=true) {c c':KC} (hc:c.kind=k) (hc':c'.kind=k) (d:Nat) (w:World):(Op.equalIn (d+1) t c.val c'.val).run P w=.ok (decide (c=c')) w:=by
 unfold JO at h;split at h
 ·rename_i k1 k2 hu
  cases c with
  | bool b=>cases hc
  | int k3 n =>
    cases c' with
    | bool b=>cases hc'
    | int k4 m =>
      simp only[KC.kind,Option.some.injEq] at hc hc';subst hc hc';rw[KC.val,KC.val,run_equalIn_int w d t _ _ _ _ hu];simp;rfl
 ·rename_i hu
  cases c with
  | int k3 n=>cases hc
  | bool b =>
    cases c' with
    | int k4 m=>cases hc'
    | bool b' =>
      rw[KC.val,KC.val,run_equalIn_bool hu];simp;rfl
 ·cases h
theorem QgB {k:Option IntKind} {t:TypeId} (h:JO P k t=true) {c:KC} (hc:c.kind=k) (em:Bool) (n:Nat) (w:World):(Instr.checkKey em (n+1) t c.val).run P w=.ok () w:=by
 unfold JO at h;split at h
 ·rename_i k1 k2 hu
  cases c with
  | bool b=>cases hc
  | int k3 n=>simp[KC.val,Instr.checkKey,run_underlying hu]
 ·rename_i hu
  cases c with
  | int k3 n=>cases hc
  | bool b=>simp[KC.val,Instr.checkKey,run_underlying hu]
 ·cases h
theorem QfB (w:World) (d:Nat) (vs us:Array Value):∀ (fs:List Field) (i:Nat) (ks:List (Option IntKind)) (cs ds:List KC),ZZ P i ks fs=true->cs.map KC.kind=ks->ds.map KC.kind=ks ->
  (∀ (j:Nat) (c:KC),cs[j]?=some c->vs[i+j]?=some c.val)->(∀ (j:Nat) (c:KC),ds[j]?=some c->us[i+j]?=some c.val)->(Op.eqFields (d+1) vs us fs).run P w=.ok (decide (cs=ds)) w
 | [],i,ks,cs,ds,h,hc,hd,_,_=>by
   cases ks with
   | cons k ks=>simp[ZZ] at h
   | nil =>
     simp only[List.map_eq_nil_iff] at hc hd;subst hc hd;simp[Op.eqFields]
 | f::fs,i,ks,cs,ds,h,hc,hd,hv,hu=>by
   cases ks with
   | nil=>simp[ZZ] at h
   | cons k ks =>
     cases cs with
     | nil=>cases hc
     | cons c cs =>
       cases ds with
       | nil=>cases hd
       | cons e ds =>
         simp only[QzH,List.cons.injEq] at hc hd;simp only[ZZ,Qzm,bne_iff_ne,ne_eq,beq_iff_eq] at h;obtain ⟨⟨⟨hn,ho⟩,hk⟩,hr⟩:=h;have p1:(part f.type vs f.offset).run P w=.ok c.val w:=run_part_plain w (Uc hk) (by rw[ho];exact hv 0 c rfl)
         have p2:(part f.type us f.offset).run P w=.ok e.val w:=run_part_plain w (Uc hk) (by rw[ho];exact hu 0 e rfl)
         have q:=Qpk hk hc.1 hd.1 d w;have ih:=QfB w d vs us fs (i+1) ks cs ds hr hc.2 hd.2 (fun j c hj=>by rw[show i+1+j=i+(j+1) by omega];exact hv (j+1) c hj) (fun j c hj=>by rw[show i+1+j=i+(j+1) by omega];exact hu (j+1) c hj)
         simp only[Op.eqFields,hn,not_false_iff,ne_eq,if_true,Sem.run_bind,p1,p2,q,Result.andThen,Sem.run_ite];by_cases hce:c=e
         ·simp[hce,ih]
         ·simp[hce]
theorem qW (w:World) (em:Bool) (n:Nat) (vs:Array Value):∀ (fs:List Field) (i:Nat) (ks:List (Option IntKind)) (cs:List KC),ZZ P i ks fs=true->cs.map KC.kind=ks->(∀ (j:Nat) (c:KC),cs[j]?=some c->vs[i+j]?=some c.val) ->
  (forIn fs PUnit.unit fun f _=>(do
    if f.name ≠ "_" then
     Instr.checkKey em (n+1) f.type (<- part f.type vs f.offset)
     pure (ForInStep.yield PUnit.unit)
    else pure (ForInStep.yield PUnit.unit):Sem (ForInStep PUnit))).run P w=.ok PUnit.unit w
 | [],i,ks,cs,h,hc,_=>by simp
 | f::fs,i,ks,cs,h,hc,hv=>by
   cases ks with
   | nil=>simp[ZZ] at h
   | cons k ks =>
     cases cs with
     | nil=>cases hc
     | cons c cs =>
       simp only[QzH,List.cons.injEq] at hc;simp only[ZZ,Qzm,bne_iff_ne,ne_eq,beq_iff_eq] at h;obtain ⟨⟨⟨hn,ho⟩,hk⟩,hr⟩:=h;have p1:(part f.type vs f.offset).run P w=.ok c.val w:=run_part_plain w (Uc hk) (by rw[ho];exact hv 0 c rfl)
       have q:=QgB hk hc.1 em n w;have ih:=qW w em n vs fs (i+1) ks cs hr hc.2 (fun j c hj=>by rw[show i+1+j=i+(j+1) by omega];exact hv (j+1) c hj)
       simp only[List.forIn_cons,Sem.run_bind,hn,ne_eq,not_false_iff,if_true,p1,q,Result.andThen,Sem.run_pure];simpa using ih
theorem QgF {kt:TypeId} {fs:Array Field} {ks:List (Option IntKind)} {cs:List KC} (hu:P.underlying kt=some (.struct fs)) (h:ZZ P 0 ks fs.toList=true) (hc:cs.map KC.kind=ks) (w:World) (em:Bool) (n:Nat) :
  (Instr.checkKey em (n+2) kt (MK.agg cs).val).run P w=.ok () w:=by
 have:=qW w em n (cs.map KC.val).toArray fs.toList 0 ks cs h hc (fun j c hj=>by simp[hj])
 unfold Instr.checkKey;simp only[MK.val,Sem.run_bind,run_underlying hu,Result.andThen_ok];rw[<- Array.forIn_toList];rw[this];rfl
theorem Qjd (n:Nat) (c:KC):Instr.sameBits n c.val c.val=true:=by
 cases c<;>cases n<;>simp[KC.val,Instr.sameBits]
theorem Qmi (cs:List KC):Instr.sameBits 10000 (MK.agg cs).val (MK.agg cs).val=true:=by
 have h:∀ n,Instr.sameBits (n+1) (MK.agg cs).val (MK.agg cs).val=true:=fun n=>by
  simp only[MK.val,Instr.sameBits,beq_self_eq_true,Bool.true_and,QzX];intro p hp;obtain ⟨x,y⟩:=p;obtain ⟨j,hj⟩:=List.mem_iff_getElem?.1 hp;rw[List.getElem?_zip_eq_some] at hj;obtain ⟨h1,h2⟩:=hj;rw[h1] at h2;injection h2 with h2
  simp only at h1 h2;subst h2;simp only[Qzu,Qzo] at h1;obtain ⟨c,_,rfl⟩:=h1;exact Qjd _ _
 exact h 9999
theorem Jj {kk:KK} {t:TypeId} (ht:UK P kk t=true) {k:MK} (hk:k.kind=kk):Qq5 P t k.val:=by
 unfold UK at ht;split at ht
 ·rename_i k1 k2 hu
  cases k with
  | int k n =>
    simp only[MK.kind,KK.int.injEq,beq_iff_eq] at hk ht;subst hk ht;exact ⟨fun w em=>MapKept.run_checkKey (P:=P) (w:=w) (k:=.int k n) hu rfl em 9999,fun w=>MapKept.run_keyThatStays (P:=P) (w:=w) (d:=.int k) (k:=.int k n) rfl⟩
  | str s=>cases hk
  | agg cs=>cases hk
 ·rename_i hu
  cases k with
  | int k n=>cases hk
  | str s=>exact ⟨fun w em=>MapKept.run_checkKey (P:=P) (w:=w) (k:=.string ⟨s.toArray⟩) hu trivial em 9999,fun w=>MapKept.run_keyThatStays (P:=P) (w:=w) (d:=.string) (k:=.string ⟨s.toArray⟩) trivial⟩
  | agg cs=>cases hk
 ·rename_i ks fs hu
  simp only[Qzm] at ht;cases k with
  | int k n=>cases hk
  | str s=>cases hk
  | agg cs =>
    simp only[MK.kind,KK.agg.injEq] at hk;exact ⟨fun w em=>QgF hu ht.2 hk w em 9998,fun w=>by simp[Instr.keyThatStays,Qmi cs]⟩
 ·cases ht
theorem qr {kt:TypeId} {fs:Array Field} {ks:List (Option IntKind)} {cs:List KC} (hu:P.underlying kt=some (.struct fs)) (hst:P.stoodInHeld kt=false) (h:ZZ P 0 ks fs.toList=true) (hc:cs.map KC.kind=ks) :
  ∀ (l:List MapEntry) (i:Nat),(∀ x∈l,∃ ds:List KC,ds.map KC.kind=ks/\x.key=(MK.agg ds).val) ->
  ((∀ w,(Instr.findAsking kt (MK.agg cs).val l i).run P w=.ok none w)/\∀ x∈l,x.key≠(MK.agg cs).val)\/∃ j e,(∀ w,(Instr.findAsking kt (MK.agg cs).val l i).run P w=.ok (some (i+j,e.val)) w)/\l[j]?=some e/\e.key=(MK.agg cs).val
 | [],_,_=>.inl ⟨fun w=>by simp[Instr.findAsking],by simp⟩
 | e::es,i,hl=>by
   obtain ⟨ds,hd,hk⟩:=hl e (.head _)
   have q:∀ w,(Op.equal kt (MK.agg cs).val e.key).run P w=.ok (decide (cs=ds)) w:=fun w=>by
    have hfo:P.fieldsOf kt=fs:=by simp[Program.fieldsOf,hu]
    have h1:=run_equalIn_struct (P:=P) w 9999 kt (cs.map KC.val).toArray (ds.map KC.val).toArray (by rw[hfo];exact hu) hst
    rw[hfo,QfB w 9998 _ _ fs.toList 0 ks cs ds h hc hd (fun j c hj=>by simp[hj]) (fun j c hj=>by simp[hj])] at h1
    rw[hk];exact h1
   by_cases hcd:cs=ds
   ·subst hcd
    exact .inr ⟨0,e,fun w=>by simp[Instr.findAsking,q],rfl,hk⟩
   ·have hne:e.key≠(MK.agg cs).val:=fun c=>hcd (by
     rw[hk] at c;simp only[MK.val,Value.agg.injEq] at c;exact (JP (by simpa using congrArg Array.toList c)).symm)
    rcases qr hu hst h hc es (i+1) (fun x hx=>hl x (.tail _ hx)) with ⟨h1,h2⟩ | ⟨j,e',h1,h2,h3⟩
    ·exact .inl ⟨fun w=>by simp[Instr.findAsking,q,hcd,h1],fun x hx=>by
      rcases Qz1.1 hx with rfl | hx
      ·exact hne
      ·exact h2 x hx⟩
    ·exact .inr ⟨j+1,e',fun w=>by simp[Instr.findAsking,q,hcd,h1];omega,h2,h3⟩
theorem Qcy {kk:KK} {kt:TypeId} (ht:UK P kk kt=true) {k:MK} (hk:k.kind=kk) (l:List MapEntry) (hl:∀ x∈l,∃ k':MK,k'.kind=kk/\x.key=k'.val) :
  (UU P kt k.val l none/\∀ x∈l,x.key≠k.val)\/∃ j e,UU P kt k.val l (some (j,e.val))/\l[j]?=some e/\e.key=k.val:=by
 have basic:∀ d,P.underlying kt=some d->MapKept.IsKey d k.val->(∀ x∈l,MapKept.IsKey d x.key)->(UU P kt k.val l none/\∀ x∈l,x.key≠k.val)\/∃ j e,UU P kt k.val l (some (j,e.val))/\l[j]?=some e/\e.key=k.val:=fun d hu h1 h2=>by
  rcases MapKept.findNow_spec h1 l 0 h2 with ⟨h3,h4⟩ | ⟨j,e,h3,h4,h5⟩
  ·exact .inl ⟨fun w=>MapKept.run_findKey (P:=P) (w:=w) hu h3,h4⟩
  ·exact .inr ⟨j,e,fun w=>by rw[MapKept.run_findKey (P:=P) (w:=w) hu h3];simp,h4,h5⟩
 unfold UK at ht;split at ht
 ·rename_i k1 k2 hu
  have hik:∀ k':MK,k'.kind=.int k1->MapKept.IsKey (.int k2) k'.val:=fun k' hk'=>by
   cases k' with
   | int k n=>simp only[MK.kind,KK.int.injEq,beq_iff_eq] at hk' ht;subst hk' ht;rfl
   | str s=>cases hk'
   | agg cs=>cases hk'
  exact basic _ hu (hik k hk) fun x hx=>by
   obtain ⟨k',h1,h2⟩:=hl x hx;rw[h2];exact hik k' h1
 ·rename_i hu
  have hik:∀ k':MK,k'.kind=.str->MapKept.IsKey .string k'.val:=fun k' hk'=>by
   cases k' with
   | int k n=>cases hk'
   | str s=>exact trivial
   | agg cs=>cases hk'
  exact basic _ hu (hik k hk) fun x hx=>by
   obtain ⟨k',h1,h2⟩:=hl x hx;rw[h2];exact hik k' h1
 ·rename_i ks fs hu
  simp only[Qzm,QzL] at ht;cases k with
  | int k n=>cases hk
  | str s=>cases hk
  | agg cs =>
    simp only[MK.kind,KK.agg.injEq] at hk;have hf:∀ w,(Instr.findKey kt (MK.agg cs).val l).run P w=(Instr.findAsking kt (MK.agg cs).val l).run P w:=fun w=>run_findKey_eq w (by rw[hu]) _ _
    rcases qr hu ht.1 ht.2 hk l 0 (fun x hx=>by
     obtain ⟨k',h1,h2⟩:=hl x hx;cases k' with
     | int k n=>cases h1
     | str s=>cases h1
     | agg ds=>exact ⟨ds,by simpa[MK.kind] using h1,h2⟩) with ⟨h1,h2⟩ | ⟨j,e,h1,h2,h3⟩
    ·exact .inl ⟨fun w=>by rw[hf,h1],h2⟩
    ·exact .inr ⟨j,e,fun w=>by rw[hf,h1];simp,h2,h3⟩
 ·cases ht
theorem Qcm {α:Type} {kk:KK}:∀ {kvs:List (MK × α)},QP kk kvs->∀ {i:Nat} {p:MK × α},kvs[i]?=some p->p.1.kind=kk
 | [],_,i,p,h=>by simp at h
 | q::r,hk,i,p,h=>by
   cases i with
   | zero=>simp at h;subst h;exact hk.1
   | succ i=>exact Qcm hk.2 (by simpa using h)
theorem Qfh {ok:Nat->Prop}:∀ {cs:List IV} {l:List KC} {vs:List Value},Qdz cs=some l->vs.length=cs.length->(∀ (k:Nat) (x:IV) (u:Value),cs[k]?=some x->vs[k]?=some u->Qv ok w x u)->vs=l.map KC.val
 | [],l,vs,h,hl,_=>by
   simp only[Qdz,Option.some.injEq] at h;subst h;simpa using hl
 | x::cs,l,[],h,hl,_=>by simp at hl
 | x::cs,l,v::vs,h,hl,hx=>by
   simp only[Qdz] at h;split at h
   ·rename_i c l' h1 h2
    injection h with h
    subst h;have r:=hx 0 x v rfl rfl;have ih:=Qfh h2 (by simpa using hl) (fun k y u a b=>hx (k+1) y u (by simpa using a) (by simpa using b))
    have hc:v=c.val:=by
     unfold QuN at h1;split at h1
     ·injection h1 with h1
      subst h1;cases r;rfl
     ·injection h1 with h1
      subst h1;cases r;rfl
     ·cases h1
    rw[ih,hc];rfl
   ·cases h
theorem Z8 {kk x k} (h:keyOf kk x=some k):k.kind=kk/\∀ {ok u},Qs ok w lo L x u->u=k.val:=by
 unfold keyOf at h;split at h
 ·split at h
  ·rename_i hk
   injection h with h
   subst h;exact ⟨hk.symm,fun r=>QS r⟩
  ·cases h
 ·split at h
  ·rename_i hk
   injection h with h
   subst h;exact ⟨hk.symm,fun r=>Z9 r⟩
  ·cases h
 ·split at h
  ·rename_i l hl
   split at h
   ·rename_i hk
    injection h with h
    subst h;refine ⟨hk.symm,fun r=>?_⟩
    cases r with
    | iv _ _ r =>
      cases r with
      | agg _ vs h1 h2 h3=>rw[MK.val,Qfh hl h1 h3]
   ·cases h
  ·cases h
 ·cases h
theorem Qnj {a b:MK} (h:a.val=b.val):a=b:=by
 cases a<;>cases b<;>simp only[MK.val] at h
 case agg.agg cs ds =>
  simp only[Value.agg.injEq] at h;exact congrArg MK.agg (JP (by simpa using congrArg Array.toList h))
 all_goals grind
theorem Zu {α:Type} {k:MK}:∀ {kvs:List (MK × α)} {y:α},Qh k kvs=some y->∃ i:Nat,kvs[i]?=some (k,y)
 | [],y,h=>by simp[Qh] at h
 | p::r,y,h=>by
   unfold Qh at h;split at h
   ·rename_i hk
    injection h with h
    exact ⟨0,by obtain ⟨a,b⟩:=p;simp at hk h;subst hk h;rfl⟩
   ·obtain ⟨i,hi⟩:=Zu h
    exact ⟨i+1,by simpa using hi⟩
theorem YO {α:Type} {k:MK}:∀ {kvs:List (MK × α)},(∀ (i j:Nat) (p q:MK × α),kvs[i]?=some p->kvs[j]?=some q->p.1=q.1->i=j)->∀ {i:Nat} {y:α},kvs[i]?=some (k,y)->Qh k kvs=some y
 | [],_,i,y,h=>by simp at h
 | p::r,hd,i,y,h=>by
   unfold Qh;cases i with
   | zero =>
     simp at h;subst h;simp
   | succ i =>
     have hne:p.1≠k:=fun e=>by
      have:=hd 0 (i+1) p (k,y) rfl h e;omega
     rw[if_neg hne];exact YO (fun i j p q a b c=>by have:=hd (i+1) (j+1) p q (by simpa using a) (by simpa using b) c;omega) (by simpa using h)
theorem VU {α:Type} {k:MK}:∀ {kvs:List (MK × α)},Qh k kvs=none->∀ (i:Nat) (p:MK × α),kvs[i]?=some p->p.1≠k
 | [],_,i,p,h=>by simp at h
 | q::r,hn,i,p,h=>by
   unfold Qh at hn;split at hn
   ·cases hn
   ·rename_i hk
    cases i with
    | zero=>simp at h;subst h;exact hk
    | succ i=>exact VU hn i p (by simpa using h)
theorem Ja {kk:KK} {kt:TypeId} (ht:UK P kk kt=true) (key:Value):(Instr.findKey kt key []).run P w=.ok none w:=by
 unfold UK at ht;split at ht
 all_goals first | (rename_i hu;simp[Instr.findKey,run_underlying hu,Instr.findNow]) | cases ht
theorem Xa {α} {kk:KK} {kt:TypeId} {kvs:List (MK × α)} {n es clock} (hm:Z5 n es clock (fun i=>(kvs[i]?).map (·.1))) (hn:n<=kvs.length)
  (hd:∀ (i j:Nat) (p q:MK × α),kvs[i]?=some p->kvs[j]?=some q->p.1=q.1->i=j) {k:MK} (hkt:UK P kk kt=true) (hk:k.kind=kk) (hks:QP kk kvs) :
  (UU P kt k.val es.toList none/\∀ (i) (p:MK × α),i<n->kvs[i]?=some p->p.1≠k) \/
  ∃ (i:Nat) (e:MapEntry) (p:MK × α),UU P kt k.val es.toList (some (i,e.val))/\i<n/\es[i]?=some e/\kvs[i]?=some p/\p.1=k/\e.key=k.val:=by
 have keyAt:∀ i e,es[i]?=some e->∃ p:MK × α,kvs[i]?=some p/\e.key=p.1.val/\i<n:=by
  intro i e he;obtain ⟨k',h1,h2⟩:=hm.keys i e he;rw[Qzo] at h1;obtain ⟨p,h3,h4⟩:=h1;have:=(Qzs.1 he).1;rw[hm.size] at this;exact ⟨p,h3,by rw[h2,<- h4],this⟩
 rcases Qcy hkt hk es.toList (fun x hx=>by
  obtain ⟨i,hi⟩:=QzS hx;obtain ⟨p,h1,h2,_⟩:=keyAt i x (by simpa using hi)
  exact ⟨p.1,Qcm hks h1,h2⟩) with ⟨h1,h2⟩ | ⟨j,e,h1,h2,h3⟩
 ·refine .inl ⟨h1,fun i p hi hp e=>?_⟩
  have hlt:i<es.size:=by rw[hm.size];exact hi
  have he:=QzF hlt
  grind
 ·have he:es[j]?=some e:=by simpa using h2
  obtain ⟨p,h4,h5,h6⟩:=keyAt j e he;refine .inr ⟨j,e,p,by simpa using h1,h6,he,h4,Qnj (by rw[<- h5,h3]),h3⟩
theorem Js {t kt et} {r es clock key z} {i:TypeInfo} {res} (hm:P.underlying t=some (.map kt et))
  (hb:w.heap[r]?=some (.map es clock)) (hk:Qq5 P kt key) (hi:P.info? et=some i) (hz:i.zero=some z) (hf:UU P kt key es.toList res) :
  (Instr.lookup t (.map (some r)) key false).run P w=.ok ((res.map (·.2)).getD z) w:=by
 have hc:=hk.check w es.isEmpty;have hff:=hf w;have hzz:(zeroValue et).run P w=.ok z w:=by simp[zeroValue,typeInfo,hi,hz]
 cases res with
 | none=>simp[Instr.lookup,run_underlying hm,MapKept.run_getObj_map hb,hc,hff,hzz]
 | some q=>simp[Instr.lookup,run_underlying hm,MapKept.run_getObj_map hb,hc,hff]
theorem Jw {kk t e} (h:qE P kk t=some e):∃ kt,P.underlying t=some (.map kt e)/\UK P kk kt=true:=by
 unfold qE at h
 grind
theorem Vh {kk z t} (h:Qq9 P kk z t=true):∃ kt e i v,P.underlying t=some (.map kt e)/\UK P kk kt=true/\P.info? e=some i/\i.zero=some v/\z.isVal v=true:=by
 unfold Qq9 at h;split at h
 ·rename_i e he
  obtain ⟨kt,h1,h2⟩:=Jw he
  grind
 ·cases h
theorem Qci {kvs:List (MK × IV)} {es:Array MapEntry} {clock r:Nat} {t kt et:TypeId} {kk:KK} {k:MK} {z:Value} {zv:IV} {i:TypeInfo} {ok:Nat->Prop} (hm:P.underlying t=some (.map kt et))
  (hb:w.heap[r]?=some (.map es clock)) (hmr:Z5 kvs.length es clock (fun i=>(kvs[i]?).map (·.1))) (hdd:∀ (i j:Nat) (p q:MK × IV),kvs[i]?=some p->kvs[j]?=some q->p.1=q.1->i=j)
  (hx:∀ (i:Nat) (e:MapEntry) (p:MK × IV),es[i]?=some e->kvs[i]?=some p->Qv ok w p.2 e.val) (hkt:UK P kk kt=true) (hk:k.kind=kk) (hks:QP kk kvs)
  (hi:P.info? et=some i) (hz:i.zero=some z) (hzr:Qv ok w zv z):∃ u,(Instr.lookup t (.map (some r)) k.val false).run P w=.ok u w/\Qv ok w ((Qh k kvs).getD zv) u:=by
 have hik:=Jj hkt hk;rcases Xa hmr (Qzq _) hdd hkt hk hks with ⟨h1,h2⟩ | ⟨j,e,p,h1,_,h3,h4,h5,_⟩
 ·refine ⟨z,Js hm hb hik hi hz h1,?_⟩
  cases hf:Qh k kvs with
  | none=>exact hzr
  | some y =>
    obtain ⟨j,hj⟩:=Zu hf;exact absurd rfl (h2 j _ (Qzl.1 hj).1 hj)
 ·refine ⟨e.val,Js hm hb hik hi hz h1,?_⟩
  obtain ⟨a,y⟩:=p;simp only at h5;subst h5;rw[YO hdd h4];exact hx j e _ h3 h4
theorem Qlv {kk:KK} {z x k:Opd} (h:Rel ok0 N w0 lk lo a w L) (hf:YOp.fits P (.lki kk z x k) o.op=true) (he:evY lk lo (.lki kk z x k)=.ok s f v up) (hs:s):f/\Qo P o ok0 N w0 lk lo a w v up:=by
 simp only[YOp.fits] at hf;split at hf
 ·rename_i t x' k' c ho
  simp only[Qzm,QzL] at hf;obtain ⟨⟨⟨hx,hk⟩,hc⟩,hz⟩:=hf;subst hc;have rx:=Opd.rep h hx;have rk:=Opd.rep h hk;simp only[evY] at he;split at he
  ·rename_i kvs key zv hxv hkv hzv
   injection he with e1 e2 e3 e4
   subst e1 e2 e3 e4;obtain ⟨kt,et,i,zz,hm,hkt,hi,hiz,hzz⟩:=Vh hz;obtain ⟨hkk,hkval⟩:=Z8 (w:=w) (lo:=lo) (L:=L) hkv;have hik:=Jj hkt hkk;have hke:=hkval rk;rw[hxv] at rx
   have hzr:Qv (okL ok0 lo L) w zv zz:=by
    have:=Opd.repVal (ok:=okL ok0 lo L) (w:=w) (lo:=lo) (L:=L) (lk:=lk) hzz;rw[hzv] at this;exact Xu this
   have ri:=Xu rx;generalize hey:a.eval x'=xv at ri;cases ri with
   | mapn =>
     have hc:=hik.check w true;have hff:=Ja (P:=P) (w:=w) hkt key.val;have hzz:(zeroValue et).run P w=.ok zz w:=by simp[zeroValue,typeInfo,hi,hiz]
     exact ⟨trivial,Qo.pure h (u:=zz) (by simp[execOp,ho,hey,hke,Instr.lookup,run_underlying hm,hc,hff,hzz]) (.iv _ _ (by simpa[Qh] using hzr))⟩
   | map _ r es clock hok hr hmr hdd hxx =>
     obtain ⟨u,h1,h2⟩:=Qci (P:=P) hm hr hmr hdd hxx hkt hkk hs hi hiz hzr;exact ⟨trivial,Qo.pure h (u:=u) (by simp[execOp,ho,hey,hke,h1]) (.iv _ _ h2)⟩
  ·cases he
 ·cases hf
theorem Qlw {id:Nat} {kk:KK} {z x k:Opd} (h:Rel ok0 N w0 lk lo a w L) (hf:YOp.fits P (.lkd id kk z x k) o.op=true) (he:evY lk lo (.lkd id kk z x k)=.ok s f v up) (hs:s):f/\Qo P o ok0 N w0 lk lo a w v up:=by
 simp only[YOp.fits] at hf;split at hf
 ·rename_i t x' k' c ho
  simp only[Qzm,QzL] at hf;obtain ⟨⟨⟨hx,hk⟩,hc⟩,hz⟩:=hf;subst hc;have rx:=Opd.rep h hx;have rk:=Opd.rep h hk;simp only[evY] at he;split at he
  ·rename_i j key zv kvs hxv hkv hzv hid
   split at he
   ·rename_i hji
    subst hji;injection he with e1 e2 e3 e4
    subst e1 e2 e3 e4;obtain ⟨kt,et,i,zz,hm,hkt,hi,hiz,hzz⟩:=Vh hz;obtain ⟨hkk,hkval⟩:=Z8 (w:=w) (lo:=lo) (L:=L) hkv;have hik:=Jj hkt hkk;have hke:=hkval rk;rw[hxv] at rx
    have hzr:Qv (okL ok0 lo L) w zv zz:=by
     have:=Opd.repVal (ok:=okL ok0 lo L) (w:=w) (lo:=lo) (L:=L) (lk:=lk) hzz;rw[hzv] at this;exact Xu this
    obtain ⟨_,b,hL,hv⟩:=Xg hid (ZD j) rx;have hob:=h.objs _ _ hid;rw[hL] at hob;obtain ⟨hF,es,clock,hb,hmr,hdd,hxx⟩:=hob;obtain ⟨u,h1,h2⟩:=Qci (P:=P) hm hb hmr hdd hxx hkt hkk hs hi hiz hzr;exact ⟨trivial,Qo.pure h (u:=u) (by simp[execOp,ho,hv,hke,h1]) (.iv _ _ h2)⟩
   ·cases he
  ·cases he
 ·cases hf
theorem Xm.isSl {Fr e sz v n xs} (h:Xm Fr w e sz v n xs):Ev.isSl v=true:=by
 rcases h.own.2 with ⟨hv,_⟩ | ⟨g,cap,cur,hv,_⟩<;>rw[hv]<;>rfl
theorem VL {α β:Type} {kvs:List (MK × α)} {vals:List (MK × β)} (hk:vals.map (·.1)=kvs.map (·.1)) (hd:∀ (i j:Nat) (p q:MK × α),kvs[i]?=some p->kvs[j]?=some q->p.1=q.1->i=j) :
  ∀ (i j:Nat) (p q:MK × β),vals[i]?=some p->vals[j]?=some q->p.1=q.1->i=j:=by
 intro i j p q hp hq hpq;obtain ⟨p',h1,h2⟩:=Uj hk hp;obtain ⟨q',h3,h4⟩:=Uj hk hq;exact hd i j p' q' h1 h3 (by rw[h2,h4,hpq])
theorem QgW {α β:Type} {kvs:List (MK × α)} {vals:List (MK × β)} (hk:vals.map (·.1)=kvs.map (·.1)) {i:Nat} {p:MK × α} (hp:kvs[i]?=some p):∃ q,vals[i]?=some q/\q.1=p.1:=Uj hk.symm hp
theorem Qlu {id:Nat} {kk:KK} {x k:Opd} (h:Rel ok0 N w0 lk lo a w L) (hf:YOp.fits P (.lkr id kk x k) o.op=true) (he:evY lk lo (.lkr id kk x k)=.ok s f v up) (hs:s):f/\Qo P o ok0 N w0 lk lo a w v up:=by
 simp only[YOp.fits] at hf;split at hf
 ·rename_i t x' k' c ho
  simp only[Qzm,QzL] at hf;obtain ⟨⟨⟨hx,hk⟩,hc⟩,hz⟩:=hf;subst hc;have rx:=Opd.rep h hx;have rk:=Opd.rep h hk;simp only[evY] at he;split at he
  ·rename_i j key e sz kvs hxv hkv hid
   split at he
   ·rename_i hji
    subst hji;injection he with e1 e2 e3 e4
    subst e1 e2 e3 e4;obtain ⟨kt,et,i,zz,hm,hkt,hi,hiz,hzz⟩:=Vh hz;obtain ⟨hkk,hkval⟩:=Z8 (w:=w) (lo:=lo) (L:=L) hkv;have hik:=Jj hkt hkk;have hke:=hkval rk;rw[hxv] at rx
    have hzn:zz=.slice none 0 0:=by
     simp only[Opd.isVal] at hzz;unfold isN at hzz
     grind
    subst hzn;obtain ⟨b,vals,hL,hv⟩:=Jd hid (ZD j) rx;rcases hv with ⟨_,hv⟩ | ⟨_,_,hv,_⟩
    ·have hob:=h.objs _ _ hid
     rw[hL] at hob;obtain ⟨hF,⟨es,clock,hb,n,hn,hmr,hnew,hval⟩,hdd,hkv2,hrow,hap⟩:=hob
     have hnk:n=kvs.length:=by
      rcases QAn n kvs.length with hlt | hge
      ·have:=hnew n _ (Qzk hlt) (Qzq _)
       cases this
      ·omega
     have fin:∀ u,(Instr.lookup t (.map (some b)) key.val false).run P w=.ok u w->isSl u=true->u=(Qh key vals).getD (.slice none 0 0)->True/\Qo P o ok0 N w0 lk lo a w (.mref j key ((Qh key kvs).getD []).length) none:=by
      intro u hr h1 h2;exact ⟨trivial,Qo.pure h (u:=u) (by simp[execOp,ho,hv,hke,hr]) (.mref j key _ e sz kvs none b vals u hid hL h1 (Qzq _) fun _=>h2)⟩
     rcases Xa hmr hn hdd hkt hkk hs with ⟨h1,h2⟩ | ⟨i2,e2,p,h1,_,h3,h4,h5,_⟩
     ·refine fin _ (Js hm hb hik hi hiz h1) rfl ?_
      cases hf:Qh key vals with
      | none=>rfl
      | some y =>
        obtain ⟨j2,hj2⟩:=Zu hf;obtain ⟨p,h3,h4⟩:=Uj hkv2 hj2
        grind
     ·obtain ⟨q,h6,h7⟩:=QgW hkv2 h4
      have h8:=hval i2 e2 q h3 h6 (by simp)
      obtain ⟨xs,h9,_⟩:=hrow i2 p q h4 h6;refine fin _ (Js hm hb hik hi hiz h1) (by simp only[QAt,QAd];rw[h8];exact h9.isSl) ?_
      have:vals[i2]?=some (key,q.2):=by rw[h6,<- h5,<- h7]
      rw[YO (VL hkv2 hdd) this];exact h8
    ·cases hv
   ·cases he
  ·cases he
 ·cases hf
theorem YA {α:Type} {k:MK} {y:α}:∀ {kvs:List (MK × α)},(∀ (i:Nat) (p:MK × α),kvs[i]?=some p->p.1≠k)->mins k y kvs=kvs++[(k,y)]
 | [],_=>rfl
 | p::r,h=>by
   unfold mins;rw[if_neg (h 0 p rfl),YA (fun i p hp=>h (i+1) p (by simpa using hp))]
   rfl
theorem Jh {α:Type} {k:MK} {y:α}:∀ {kvs:List (MK × α)},(∀ (i j:Nat) (p q:MK × α),kvs[i]?=some p->kvs[j]?=some q->p.1=q.1->i=j)->∀ {i:Nat} {p:MK × α},kvs[i]?=some p->p.1=k->mins k y kvs=kvs.set i (k,y)
 | [],_,i,p,h,_=>by simp at h
 | q::r,hd,i,p,h,hk=>by
   unfold mins;cases i with
   | zero =>
     simp at h;subst h;rw[if_pos hk];rfl
   | succ i =>
     have hne:q.1≠k:=fun e=>by
      have:=hd 0 (i+1) q p rfl h (by rw[e,hk])
      omega
     rw[if_neg hne,Jh (fun i j p q a b c=>by have:=hd (i+1) (j+1) p q (by simpa using a) (by simpa using b) c;omega) (by simpa using h) hk]
     rfl
theorem Yv {t kt et} {r es clock key value} (hm:P.underlying t=some (.map kt et)) (hb:w.heap[r]?=some (.map es clock))
  (hk:Qq5 P kt key) (hf:UU P kt key es.toList none) :
  (Instr.mapUpdate t (.map (some r)) key value).run P w=.ok () { w with heap:=w.heap.setIfInBounds r (.map (es.push { key,val:=value,born:=clock }) (clock+1)) }:=by
 simp[Instr.mapUpdate,run_underlying hm,MapKept.run_getObj_map hb,hk.check w false,hf w,MapKept.run_setObj_map _ hb]
theorem Yu {t kt et} {r i es clock key value e} (hm:P.underlying t=some (.map kt et)) (hb:w.heap[r]?=some (.map es clock))
  (hk:Qq5 P kt key) (hf:UU P kt key es.toList (some (i,e.val))) (he:es[i]?=some e) (hek:e.key=key) :
  (Instr.mapUpdate t (.map (some r)) key value).run P w=.ok () { w with heap:=w.heap.setIfInBounds r (.map (es.modify i fun e=>{ e with key,val:=value }) clock) }:=by
 simp[Instr.mapUpdate,run_underlying hm,MapKept.run_getObj_map hb,hk.check w false,hf w,he,hek,hk.stays,MapKept.run_setObj_map _ hb]
theorem QaR {n es clock key key' k u} (h:Z5 n es clock key) (hk:∀ i,i<n->key' i=key i) (hn:key' n=some k) :
  Z5 (n+1) (es.push { key:=k.val,val:=u,born:=clock }) (clock+1) key':=by
 refine ⟨by simp[h.size],fun i e he=>?_,fun i e he=>?_,?_⟩
 ·rw[QAz] at he
  split at he
  ·rename_i hi
   injection he with he
   subst he;exact ⟨k,by rw[hi,h.size];exact hn,rfl⟩
  ·have:=(Qzs.1 he).1
   rw[hk i (by rw[<- h.size];exact this)]
   exact h.keys i e he
 ·rw[QAz] at he
  split at he
  ·rename_i hi
   injection he with he
   subst he;rw[hi,h.size];exact h.clk
  ·exact h.stamp i e he
 ·rw[h.clk]
theorem VS {n:Nat} {es:Array MapEntry} {clock:Nat} {key:Nat->Option MK} {k:MK} {u:Value} {i0:Nat} {e0:MapEntry} (h:Z5 n es clock key) (h0:es[i0]?=some e0) (hk:e0.key=k.val) :
  Z5 n (es.modify i0 fun e:MapEntry=>{ e with key:=k.val,val:=u }) clock key/\(∀ (i:Nat) (e:MapEntry),i≠i0->(es.modify i0 fun e:MapEntry=>{ e with key:=k.val,val:=u })[i]?=some e->es[i]?=some e) /\
   ∀ e:MapEntry,(es.modify i0 fun e:MapEntry=>{ e with key:=k.val,val:=u })[i0]?=some e->e.val=u:=by
 have get:∀ (i:Nat) (e:MapEntry),(es.modify i0 fun e:MapEntry=>{ e with key:=k.val,val:=u })[i]?=some e->∃ e':MapEntry,es[i]?=some e'/\e.key=e'.key/\e.born=e'.born:=by
  grind
 refine ⟨⟨by simp[h.size],fun i e he=>?_,fun i e he=>?_,h.clk⟩,fun i e hi he=>?_,fun e he=>?_⟩
 ·obtain ⟨e',h1,h2,_⟩:=get i e he
  rw[h2];exact h.keys i e' h1
 ·obtain ⟨e',h1,_,h3⟩:=get i e he
  rw[h3];exact h.stamp i e' h1
 all_goals grind
theorem Jv {α:Type} {k:MK} {y:α} {kvs:List (MK × α)} (hd:∀ (i j:Nat) (p q:MK × α),kvs[i]?=some p->kvs[j]?=some q->p.1=q.1->i=j) :
  ∀ (i j:Nat) (p q:MK × α),(mins k y kvs)[i]?=some p->(mins k y kvs)[j]?=some q->p.1=q.1->i=j:=by
 cases hf:Qh k kvs with
 | none =>
   have hn:=VU hf;rw[YA hn]
   grind
 | some y0 =>
   obtain ⟨i0,h0⟩:=Zu hf;rw[Jh hd h0 rfl]
   grind
theorem Qfd {α β k} {y:α} {y':β} {kvs:List (MK × α)} {vals:List (MK × β)} (h:vals.map (·.1)=kvs.map (·.1)):(mins k y' vals).map (·.1)=(mins k y kvs).map (·.1):=by
 induction kvs generalizing vals with
 | nil =>
   have:vals=[]:=by simpa using h
   subst this;rfl
 | cons p r ih =>
   cases vals with
   | nil=>simp at h
   | cons q s =>
     simp only[QzH,List.cons.injEq] at h;simp only[mins,h.1];split
     ·simp[h.2]
     ·simp only[QzH,h.1,ih h.2]
theorem ZV {α k} {y:α}:∀ (kvs:List (MK × α)),Qh k (mins k y kvs)=some y
 | []=>by simp[mins,Qh]
 | p::r=>by
   unfold mins;split
   ·simp[Qh]
   ·rename_i h
    simp only[Qh,if_neg h];exact ZV r
theorem YP {α k k'} {y:α} (hk:k'≠k):∀ (kvs:List (MK × α)),Qh k' (mins k y kvs)=Qh k' kvs
 | []=>by simp[mins,Qh,Ne.symm hk]
 | p::r=>by
   unfold mins;split
   ·rename_i h
    simp only[Qh,h,if_neg (Ne.symm hk)]
   ·simp only[Qh,YP hk r]
theorem QhF {id kk x k y} {op:Op} (hf:YOp.fits P (.mupd id kk x k y) op=true):∃ t x' k' v',(op=.mapUpdate t x' k' v'\/op=.insert t x' k' v')/\(x.is x'&&k.is k'&&y.is v'&&(qE P kk t).isSome)=true:=by
 simp only[YOp.fits] at hf
 grind
theorem Qi0 {id:Nat} {kk:KK} {x k y:Opd} (h:Rel ok0 N w0 lk lo a w L) (hf:YOp.fits P (.mupd id kk x k y) o.op=true) (he:evY lk lo (.mupd id kk x k y)=.ok s f v up) (hs:s):f/\Qo P o ok0 N w0 lk lo a w v up:=by
 obtain ⟨t,x',k',v',ho,hf⟩:=QhF hf
 ·simp only[Qzm] at hf
  obtain ⟨⟨⟨hx,hk⟩,hy⟩,hm⟩:=hf;have rx:=Opd.rep h hx;have rk:=Opd.rep h hk;have ry:=Opd.rep h hy;simp only[evY] at he;split at he
  ·rename_i j key yv kvs hxv hkv hyv hid
   split at he
   ·rename_i hji
    subst hji;injection he with e1 e2 e3 e4
    subst e1 e2 e3 e4;cases hmt:qE P kk t with
    | none=>rw[hmt] at hm;cases hm
    | some et =>
    obtain ⟨kt,hmu,hkt⟩:=Jw hmt;obtain ⟨hkk,hkval⟩:=Z8 (w:=w) (lo:=lo) (L:=L) hkv;have hik:=Jj hkt hkk;have hke:=hkval rk;rw[hxv] at rx;rw[hyv] at ry;have ryi:=Xu ry;obtain ⟨_,b,hL,hv⟩:=Xg hid (ZD j) rx;have hob:=h.objs _ _ hid;rw[hL] at hob;obtain ⟨hF,es,clock,hb,hmr,hdd,hxx⟩:=hob
    have fin:∀ (es':Array MapEntry) (clock':Nat),(Instr.mapUpdate t (.map (some b)) key.val (a.eval v')).run P w=.ok () { w with heap:=w.heap.setIfInBounds b (.map es' clock') } ->
      Z5 (mins key yv kvs).length es' clock' (fun i=>((mins key yv kvs)[i]?).map (·.1)) ->
      (∀ (i:Nat) (e:MapEntry) (p:MK × IV),es'[i]?=some e->(mins key yv kvs)[i]?=some p->Qv (okL ok0 lo L) w p.2 e.val)->True/\Qo P o ok0 N w0 lk lo a w (.iv .any) (some (j,.mapd (mins key yv kvs))):=by
     intro es' clock' hrun hmr' hx';refine ⟨trivial,.skip,undef,{ w with heap:=w.heap.setIfInBounds b (.map es' clock') },QF L j (.one b),?_,.inr ⟨rfl,rfl⟩,h.turnOne (ob':=.mapd (mins key yv kvs)) hid hL (XM w b _) (fun ok lo' L' x'' u h1 h2 hx'' hr=>?_) (fun ok lo' L' hok _=>?_),?_⟩
     ·rcases ho with ho | ho<;>simp[execOp,ho,hv,hke,hrun]
     ·obtain ⟨rfl,b',hL',rfl⟩:=Xg hid hx'' hr
      grind
     ·refine ⟨hF,es',clock',?_,hmr',Jv hdd,fun i e p h1 h2=>(hx' i e p h1 h2).mono fun b' hb' hlt=>hok b' hb' hlt⟩
      grind
     ·exact .iv _ _ (.any _)
    rcases Xa hmr (Qzq _) hdd hkt hkk hs with ⟨h1,h2⟩ | ⟨i2,e2,p,h1,hi2,h3,h4,h5,h6⟩
    ·have hn:∀ (i:Nat) (p:MK × IV),kvs[i]?=some p->p.1≠key:=fun i p hp=>h2 i p (Qzl.1 hp).1 hp
     refine fin _ _ (Yv hmu hb hik h1) ?_ ?_
     ·rw[YA hn,Qzp,List.length_singleton]
      exact QaR (key':=fun (i:Nat)=>((kvs++[(key,yv)])[i]?).map (fun p:MK × IV=>p.1)) hmr (fun i hi=>by simp only[QzA hi]) (by simp)
     ·rw[YA hn]
      intro i e p he hp;rw[QAz] at he;have hsz:=hmr.size;split at he
      ·rename_i hi
       injection he with he
       subst he;rw[hi,hsz] at hp;simp at hp;subst hp;exact ryi
      grind
    ·obtain ⟨hr1,hr2,hr3⟩:=VS (u:=a.eval v') hmr h3 h6
     refine fin _ _ (Yu hmu hb hik h1 h3 h6) ?_ ?_
     ·rw[Jh hdd h4 h5,List.length_set]
      have:(fun (i:Nat)=>((kvs.set i2 (key,yv))[i]?).map (fun p:MK × IV=>p.1))=fun (i:Nat)=>(kvs[i]?).map (fun p:MK × IV=>p.1):=by
       funext i
       rw[Qz7]
       grind
      rw[this];exact hr1
     ·rw[Jh hdd h4 h5]
      intro i e p' he hp;rw[Qz7] at hp
      grind
   ·cases he
  ·cases he
theorem QhH {α:Type} {k:MK}:∀ {kvs:List (MK × α)} {i:Nat} {p:MK × α},(∀ (i j:Nat) (p q:MK × α),kvs[i]?=some p->kvs[j]?=some q->p.1=q.1->i=j)->kvs[i]?=some p->p.1=k->QgM k kvs=i
 | [],i,p,_,h,_=>by simp at h
 | q::r,i,p,hd,h,hk=>by
   unfold QgM;split
   ·rename_i hq
    exact hd 0 i q p rfl h (by rw[hq,hk])
   ·rename_i hq
    cases i with
    | zero =>
      simp at h;subst h;exact absurd hk hq
    | succ i =>
      rw[QhH (p:=p) (i:=i) (fun a b c d h1 h2 h3=>by have:=hd (a+1) (b+1) c d (by simpa using h1) (by simpa using h2) h3;omega) (by simpa using h) hk]
theorem Qcg {α:Type} {k:MK}:∀ {kvs:List (MK × α)},(∀ (i:Nat) (p:MK × α),kvs[i]?=some p->p.1≠k)->QgM k kvs=kvs.length
 | [],_=>rfl
 | q::r,h=>by
   unfold QgM;rw[if_neg (h 0 q rfl),Qcg fun i p hp=>h (i+1) p (by simpa using hp)]
   rfl
theorem QhG {α:Type} {y:α}:∀ {kvs:List (MK × α)} {n:Nat} {p:MK × α},kvs[n]?=some p->QnH y n kvs=kvs.set n (p.1,y)
 | [],n,p,h=>by simp at h
 | q::r,0,p,h=>by
   simp at h;subst h;rfl
 | q::r,n+1,p,h=>by
   unfold QnH;rw[QhG (kvs:=r) (by simpa using h)]
   rfl
theorem WQ {α:Type} {k:MK} {y z:α}:∀ kvs:List (MK × α),QnH y (QgM k kvs) (mins k z kvs)=mins k y kvs
 | []=>rfl
 | p::r=>by
   unfold QgM mins;split
   ·rfl
   ·simp only[QnH,WQ r]
theorem Qdq {α:Type} {k:MK} {z:α}:∀ kvs:List (MK × α),QgM k kvs<(mins k z kvs).length
 | []=>by simp[QgM,mins]
 | p::r=>by
   unfold QgM mins;split
   ·simp
   ·have:=Qdq (k:=k) (z:=z) r
    simp only[Qzv];omega
theorem Qgb {es:Array MapEntry} {i:Nat} {e:MapEntry} {k:Value} (he:es[i]?=some e) (hk:e.key=k):(es.modify i fun e=>{ e with key:=k })=es:=by
 apply Array.ext_getElem?;intro j;rw[QAJ];split
 ·rename_i hj
  subst hj hk;rw[he];rfl
 ·rfl
theorem UI {t kt et} {r:Nat} {es:Array MapEntry} {clock:Nat} {key z:Value} {i:TypeInfo} (hm:P.underlying t=some (.map kt et)) (hb:w.heap[r]?=some (.map es clock))
  (hk:Qq5 P kt key) (hi:P.info? et=some i) (hz:i.zero=some z) (hf:UU P kt key es.toList none) :
  (Instr.mapEntry t (.map (some r)) key).run P w=.ok (.tuple #[z,goInt clock]) { w with heap:=w.heap.setIfInBounds r (.map (es.push { key,val:=z,born:=clock }) (clock+1)) }:=by
 have hzz:(zeroValue et).run P w=.ok z w:=by simp[zeroValue,typeInfo,hi,hz]
 simp[Instr.mapEntry,run_underlying hm,MapKept.run_getObj_map hb,hk.check w false,hf w,hzz,MapKept.run_setObj_map _ hb]
theorem UH {t kt et} {r i:Nat} {es:Array MapEntry} {clock:Nat} {key:Value} {e:MapEntry} (hm:P.underlying t=some (.map kt et)) (hb:w.heap[r]?=some (.map es clock))
  (hk:Qq5 P kt key) (hf:UU P kt key es.toList (some (i,e.val))) (he:es[i]?=some e) (hek:e.key=key) :
  (Instr.mapEntry t (.map (some r)) key).run P w=.ok (.tuple #[e.val,goInt e.born]) { w with heap:=w.heap.setIfInBounds r (.map es clock) }:=by
 have:=Qgb he hek;simp[Instr.mapEntry,run_underlying hm,MapKept.run_getObj_map hb,hk.check w false,hf w,he,hek,hk.stays,MapKept.run_setObj_map _ hb,this]
theorem qA {t:TypeId} {r:Nat} {es:Array MapEntry} {clock:Nat} {u:Value} {n:Nat} (hb:w.heap[r]?=some (.map es clock)) (hs:∀ (i:Nat) (e:MapEntry),es[i]?=some e->e.born=i) (hn:n<es.size) :
  (Instr.entryStore t (.map (some r)) (.int .i64 n) u).run P w=.ok () { w with heap:=w.heap.setIfInBounds r (.map (es.modify n fun e=>{ e with val:=u }) clock) }:=by
 have hfi:es.findIdx? (fun e=>(e.born:Int)==(n:Int))=some n:=by
  rw[Array.findIdx?_eq_some_iff_getElem];refine ⟨hn,?_,fun j hj=>?_⟩
  ·have:=hs n es[n] (QzF hn)
   simp[this]
  ·have:=hs j es[j] (QzF (by omega))
   simp[this];omega
 simp[Instr.entryStore,MapKept.run_getObj_map hb,asInt,asIntOf,hfi,MapKept.run_setObj_map _ hb]
theorem Qi1 {id:Nat} {kk:KK} {z x k:Opd} (h:Rel ok0 N w0 lk lo a w L) (hf:YOp.fits P (.ment id kk z x k) o.op=true) (he:evY lk lo (.ment id kk z x k)=.ok s f v up) (hs:s):f/\Qo P o ok0 N w0 lk lo a w v up:=by
 simp only[YOp.fits] at hf;split at hf
 ·rename_i t x' k' ho
  simp only[Qzm] at hf;obtain ⟨⟨hx,hk⟩,hz⟩:=hf;have rx:=Opd.rep h hx;have rk:=Opd.rep h hk;simp only[evY] at he;split at he
  ·rename_i j key zv kvs hxv hkv hzv hid
   split at he
   ·rename_i hji
    subst hji;injection he with e1 e2 e3 e4
    subst e1 e2 e3 e4;obtain ⟨kt,et,i,zz,hmu,hkt,hi,hiz,hzz⟩:=Vh hz;obtain ⟨hkk,hkval⟩:=Z8 (w:=w) (lo:=lo) (L:=L) hkv;have hik:=Jj hkt hkk;have hke:=hkval rk;rw[hxv] at rx
    have hzr:Qv (okL ok0 lo L) w zv zz:=by
     have:=Opd.repVal (ok:=okL ok0 lo L) (w:=w) (lo:=lo) (L:=L) (lk:=lk) hzz;rw[hzv] at this;exact Xu this
    obtain ⟨_,b,hL,hv⟩:=Xg hid (ZD j) rx;have hob:=h.objs _ _ hid;rw[hL] at hob;obtain ⟨hF,es,clock,hb,hmr,hdd,hxx⟩:=hob
    have fin:∀ (es':Array MapEntry) (clock':Nat) (u:Value) (n:Nat) (y:IV),(Instr.mapEntry t (.map (some b)) key.val).run P w=.ok (.tuple #[u,goInt n]) { w with heap:=w.heap.setIfInBounds b (.map es' clock') }->Qv (okL ok0 lo L) w y u ->
      Z5 (mins key y kvs).length es' clock' (fun i=>((mins key y kvs)[i]?).map (·.1)) ->
      (∀ (i:Nat) (e:MapEntry) (p:MK × IV),es'[i]?=some e->(mins key y kvs)[i]?=some p->Qv (okL ok0 lo L) w p.2 e.val)->True/\Qo P o ok0 N w0 lk lo a w (.iv (.tup [y,.int .i64 (n:Nat)])) (some (j,.mapd (mins key y kvs))):=by
     intro es' clock' u n y hrun hyr hmr' hx'
     have hfr:∀ q,(okL ok0 lo L) q->q<w.heap.size->({ w with heap:=w.heap.setIfInBounds b (.map es' clock') }:World).heap[q]?=w.heap[q]?:=fun q hq _=>by
      have hne:b≠q:=fun e=>hq.2 _ _ hid (by rw[hL];simpa[Lay.has] using e)
      simp[Qz2,hne]
     refine ⟨trivial,_,.tuple #[u,goInt n],{ w with heap:=w.heap.setIfInBounds b (.map es' clock') },QF L j (.one b),?_,.inl rfl,h.turnOne (ob':=.mapd (mins key y kvs)) hid hL (XM w b _) (fun ok lo' L' x'' u h1 h2 hx'' hr=>?_) (fun ok lo' L' hok _=>?_),?_⟩
     ·simp[execOp,ho,hv,hke,hrun]
     ·obtain ⟨rfl,b',hL',rfl⟩:=Xg hid hx'' hr
      grind
     ·refine ⟨hF,es',clock',?_,hmr',Jv hdd,fun i e p h1 h2=>(hx' i e p h1 h2).mono fun b' hb' hlt=>hok b' hb' hlt⟩
      grind
     ·refine .iv _ _ (.tup _ [u,goInt n] rfl fun q z v h1 h2=>?_)
      have hmv:∀ {z v},Qv (okL ok0 lo L) w z v->Qv (okL ok0 (QK lo j (.mapd (mins key y kvs))) (QF L j (.one b))) { w with heap:=w.heap.setIfInBounds b (.map es' clock') } z v:=fun hr=>hr.mono fun c hc hlt=>⟨⟨hc.1,fun i ob hi hbad=>by
       simp only[QK,QF] at hi hbad;split at hi
       ·rename_i hij
        subst hij;simp only[if_true] at hbad;exact hc.2 i _ hid (by rw[hL];exact hbad)
       ·rename_i hij
        simp only[hij,if_false] at hbad;exact hc.2 i ob hi hbad⟩,hfr c hc hlt⟩
      match q with
      | 0 =>
        simp at h1 h2;subst h1 h2;exact hmv hyr
      | 1 =>
        simp at h1 h2;subst h1 h2;exact .int _ _
      | q+2=>simp at h1
    rcases Xa hmr (Qzq _) hdd hkt hkk hs with ⟨h1,h2⟩ | ⟨i2,e2,p,h1,hi2,h3,h4,h5,h6⟩
    ·have hn:∀ (i:Nat) (p:MK × IV),kvs[i]?=some p->p.1≠key:=fun i p hp=>h2 i p (Qzl.1 hp).1 hp
     have hmf:Qh key kvs=none:=by
      cases hf:Qh key kvs with
      | none=>rfl
      | some y =>
        obtain ⟨i3,h3⟩:=Zu hf;exact absurd rfl (hn i3 _ h3)
     rw[hmf,Qcg hn];refine fin _ _ zz _ zv (by have:=UI hmu hb hik hi hiz h1;rwa [show goInt clock=goInt kvs.length by rw[hmr.clk]] at this) hzr ?_ ?_
     ·rw[YA hn,Qzp,List.length_singleton]
      exact QaR (key':=fun (i:Nat)=>((kvs++[(key,zv)])[i]?).map (fun p:MK × IV=>p.1)) hmr (fun i hi=>by simp only[QzA hi]) (by simp)
     ·rw[YA hn]
      intro i e p he hp;rw[QAz] at he;have hsz:=hmr.size;split at he
      ·rename_i hi
       injection he with he
       subst he;rw[hi,hsz] at hp;simp at hp;subst hp;exact hzr
      grind
    ·obtain ⟨pk,py⟩:=p
     simp only at h5;subst h5;have hmf:=YO hdd h4
     have hset:mins pk py kvs=kvs:=by
      rw[Jh hdd h4 rfl];exact QAF fun q=>by rw[Qz7];grind
     rw[hmf,QhH hdd h4 rfl];simp only[QAd];refine fin es clock e2.val i2 py (by have:=UH hmu hb hik h1 h3 h6;rwa [hmr.stamp i2 e2 h3] at this) (hxx i2 e2 _ h3 h4) ?_ ?_
     ·rw[hset];exact hmr
     ·rw[hset];exact hxx
   ·cases he
  ·cases he
 ·cases hf
theorem Qi4 {id:Nat} {x k y:Opd} (h:Rel ok0 N w0 lk lo a w L) (hf:YOp.fits P (.ests id x k y) o.op=true) (he:evY lk lo (.ests id x k y)=.ok s f v up) (hs:s):f/\Qo P o ok0 N w0 lk lo a w v up:=by
 simp only[YOp.fits] at hf;split at hf
 ·rename_i t x' k' v' ho
  simp only[Qzm] at hf;obtain ⟨⟨hx,hk⟩,hy⟩:=hf;have rx:=Opd.rep h hx;have rk:=Opd.rep h hk;have ry:=Opd.rep h hy;simp only[evY] at he;split at he
  ·rename_i j n yv kvs hxv hkv hyv hid
   split at he
   ·rename_i hji
    subst hji;injection he with e1 e2 e3 e4
    subst e1 e2 e3 e4;rw[hxv] at rx;rw[hkv] at rk;rw[hyv] at ry;have ryi:=Xu ry;have rki:=Xu rk;obtain ⟨_,b,hL,hv⟩:=Xg hid (ZD j) rx;have hob:=h.objs _ _ hid;rw[hL] at hob;obtain ⟨hF,es,clock,hb,hmr,hdd,hxx⟩:=hob;obtain ⟨m,rfl⟩:∃ m:Nat,n=m:=⟨n.toNat,by omega⟩
    have hm:m<kvs.length:=by omega
    have hme:m<es.size:=by rw[hmr.size];exact hm
    have hrk:a.eval k'=.int .i64 m:=by
     generalize a.eval k'=u at rki;cases rki;rfl
    obtain ⟨q,hq,hqk⟩:=hmr.keys m es[m] (QzF hme)
    have hq':kvs[m].1=q:=by
     rw[Qzk hm] at hq;simpa using hq
    have hmod:(es.modify m fun e:MapEntry=>{ e with val:=a.eval v' })=es.modify m fun e:MapEntry=>{ e with key:=q.val,val:=a.eval v' }:=by
     apply Array.ext_getElem?;intro i;rw[QAJ,QAJ];split
     ·rename_i hi
      subst hi;rw[QzF hme];simp[hqk]
     ·rfl
    obtain ⟨hr1,hr2,hr3⟩:=VS (u:=a.eval v') hmr (QzF hme) hqk;rw[<- hmod] at hr1 hr2 hr3;have hse:=QhG (y:=yv) (Qzk hm);have hrun:=qA (P:=P) (t:=t) (u:=a.eval v') hb hmr.stamp hme
    have hkeys:(fun (i:Nat)=>((kvs.set m (kvs[m].1,yv))[i]?).map (fun p:MK × IV=>p.1))=fun (i:Nat)=>(kvs[i]?).map (fun p:MK × IV=>p.1):=by
     funext i
     rw[Qz7]
     grind
    refine ⟨trivial,.skip,undef,{ w with heap:=w.heap.setIfInBounds b (.map (es.modify m fun e:MapEntry=>{ e with val:=a.eval v' }) clock) },QF L j (.one b),?_,.inr ⟨rfl,rfl⟩,h.turnOne (ob':=.mapd (QnH yv (Int.toNat m) kvs)) hid hL (XM w b _) (fun ok lo' L' x'' u h1 h2 hx'' hr=>?_) (fun ok lo' L' hok _=>?_),?_⟩
    ·simp[execOp,ho,hv,hrk,hrun]
    ·obtain ⟨rfl,b',hL',rfl⟩:=Xg hid hx'' hr
     grind
    ·rw[Int.toNat_natCast,hse]
     refine ⟨hF,es.modify m fun e:MapEntry=>{ e with val:=a.eval v' },clock,by grind,?_,?_,?_⟩
     ·rw[hkeys,List.length_set]
      exact hr1
     ·intro i1 j1 p1 q1 g1 g2 g3
      rw[Qz7] at g1 g2
      grind
     ·intro i e p g1 g2
      refine Qv.mono (ok:=okL ok0 lo L) (w:=w) ?_ fun b' hb' hlt=>hok b' hb' hlt
      rw[Qz7] at g2
      grind
    ·exact .iv _ _ (.any _)
   ·cases he
  ·cases he
 ·cases hf
theorem QiZ {id:Nat} {kk:KK} {x k y:Opd} (h:Rel ok0 N w0 lk lo a w L) (hf:YOp.fits P (.mupr id kk x k y) o.op=true) (he:evY lk lo (.mupr id kk x k y)=.ok s f v up) (hs:s):f/\Qo P o ok0 N w0 lk lo a w v up:=by
 simp only[YOp.fits] at hf;split at hf
 ·rename_i t x' k' v' ho
  simp only[Qzm] at hf;obtain ⟨⟨⟨hx,hk⟩,hy⟩,hm⟩:=hf;have rx:=Opd.rep h hx;have rk:=Opd.rep h hk;have ry:=Opd.rep h hy;simp only[evY] at he;split at he
  ·rename_i j key i0 key0 m e sz kvs pk hxv hkv hyv hid
   split at he
   ·rename_i hji
    obtain ⟨rfl,rfl,rfl,rfl⟩:=hji;injection he with e1 e2 e3 e4
    subst e1 e2 e3 e4;obtain ⟨hks0,hsome,hlen⟩:=hs;cases hmt:qE P kk t with
    | none=>rw[hmt] at hm;cases hm
    | some et =>
    obtain ⟨kt,hmu,hkt⟩:=Jw hmt;obtain ⟨hkk,hkval⟩:=Z8 (w:=w) (lo:=lo) (L:=L) hkv;have hik:=Jj hkt hkk;have hke:=hkval rk;rw[hxv] at rx;rw[hyv] at ry;obtain ⟨b,vals,hL,hv⟩:=Jd hid (ZD _) rx
    have hv:a.eval x'=.map (some b):=by
     grind
    obtain ⟨b2,vals2,hL2,hv2⟩:=Jd hid (by simp[AV.refs]) ry
    rw[hL] at hL2;injection hL2 with g1 g2
    subst g1 g2
    have hu:a.eval v'=(Qh pk vals).getD (.slice none 0 0):=by
     grind
    have hob:=h.objs _ _ hid;rw[hL] at hob;obtain ⟨hF,⟨es,clock,hb,n,hn,hmr,hnew,hval⟩,hdd,hkv2,hrow,hap⟩:=hob;obtain ⟨y0,hy0⟩:=Qz3.1 hsome;obtain ⟨i1,hi1⟩:=Zu hy0;obtain ⟨q1,hq1,hq1k⟩:=QgW hkv2 hi1;have hvd:=VL hkv2 hdd;have hq1':vals[i1]?=some (pk,q1.2):=by rw[hq1];simp only at hq1k;rw[<- hq1k]
    have hu:a.eval v'=q1.2:=by rw[hu,YO hvd hq1'];rfl
    have fin:∀ (es':Array MapEntry) (clock':Nat),(Instr.mapUpdate t (.map (some b)) pk.val (a.eval v')).run P w=.ok () { w with heap:=w.heap.setIfInBounds b (.map es' clock') } ->
      Qj6 kvs none vals es' clock'->True/\Qo P o ok0 N w0 lk lo a w (.iv .any) (some (i0,.mapr e sz kvs none)):=by
     intro es' clock' hrun hrows;have hl':∀ k,(Lay.map b vals).has k->(L i0).has k\/w.heap.size<=k:=fun k hk=>.inl (by rw[hL];exact hk)
     have hg:Qc1 (L i0).has w { w with heap:=w.heap.setIfInBounds b (.map es' clock') }:=by
      obtain ⟨g1,g2,g3,g4,g5⟩:=XM w b (.map es' clock');exact ⟨g1,g2,g3,g4,fun k hk hn=>g5 k hk (fun e=>hn (by rw[hL];exact .inl e))⟩
     have hok:∀ k,okL ok0 lo L k->k<w.heap.size->okL ok0 (QK lo i0 (.mapr e sz kvs none)) (QF L i0 (.map b vals)) k:=fun k hk hlt=>h.okL_turn hid hl' hk hlt
     refine ⟨trivial,.skip,undef,{ w with heap:=w.heap.setIfInBounds b (.map es' clock') },QF L i0 (.map b vals),?_,.inr ⟨rfl,rfl⟩,h.turn (o':=.mapr e sz kvs none) i0 hid hg hl' (fun x'' u hx'' hr=>?_) (fun _=>?_),?_⟩
     ·simp[execOp,ho,hv,hke,hrun]
     ·obtain ⟨b3,vals3,hL3,hr⟩:=Jd hid hx'' hr
      grind
     ·have hlt:b<w.heap.size:=(Qzs.1 hb).1
      refine ⟨hF,⟨es',clock',by simp[hlt],hrows⟩,hdd,hkv2,fun i p q hp hq=>?_,hap⟩
      obtain ⟨xs,h1,h2,h3,h4,h5⟩:=hrow i p q hp hq;refine ⟨xs,h1.stay fun b' hb'=>?_,h2,h3,h4,fun i j c x u a1 a2 a3=>(h5 i j c x u a1 a2 a3).mono fun b' hb' hlt'=>⟨hok b' hb' hlt',hg.block b' hlt' (hb'.2 i0 _ hid)⟩⟩
      have:b≠b':=fun e=>h2 (by rw[hb',e])
      simp[Qz2,this]
     ·exact .iv _ _ (.any _)
    rcases Xa hmr hn hdd hkt hkk hks0 with ⟨h1,h2⟩ | ⟨i2,e2,p,h1,hi2,h3,h4,h5,h6⟩
    ·have hi1n:n<=i1:=by
      grind
     have hi1l:=(Qzl.1 hi1).1
     have only:∀ i,n<=i->i<kvs.length->i=i1:=fun i h3 h4=>by
      grind
     have hni:n=i1:=only n (Qzq _) (by omega)
     have hnl:kvs.length=n+1:=by
      rcases QAn (n+1) kvs.length with hlt | hge
      ·have:=only (n+1) (by omega) hlt;omega
      ·omega
     refine fin _ _ (Yv hmu hb hik h1) ⟨n+1,by omega,QaR (key':=fun (i:Nat)=>(kvs[i]?).map (fun p:MK × List (List IV)=>p.1)) hmr (fun _ _=>rfl) (by simp only[hni,hi1,QAt]),fun i p hp hi=>?_,fun i e q he hq _=>?_⟩
     ·have:=(Qzl.1 hp).1;omega
     ·rw[QAz] at he
      have hsz:=hmr.size
      grind
    ·have hnl:n=kvs.length:=by
      rcases QAn n kvs.length with hlt | hge
      ·have:=hnew n _ (Qzk hlt) (Qzq _)
       injection this with this
       have:=hdd n i2 _ _ (Qzk hlt) h4 (by rw[h5,this])
       omega
      ·omega
     obtain ⟨hr1,hr2,hr3⟩:=VS (u:=a.eval v') hmr h3 h6;refine fin _ _ (Yu hmu hb hik h1 h3 h6) ⟨n,hn,hr1,fun i p hp hi=>?_,fun i e q he hq _=>?_⟩
     ·have:=(Qzl.1 hp).1;omega
     ·by_cases hii:i=i2
      all_goals grind
   ·cases he
  ·cases he
 ·cases hf
theorem Qs4 {α:Type}:∀ {es:List (List α)},(∀ c∈es,c.length=1)->es.flatten.length=es.length/\∀ (k:Nat) (x:α),es.flatten[k]?=some x->∃ c,es[k]?=some c/\c[0]?=some x
 | [],_=>⟨rfl,fun k x h=>by simp at h⟩
 | c::r,h=>by
   obtain ⟨h1,h2⟩:=Qs4 (es:=r) (fun c hc=>h c (List.mem_cons_of_mem _ hc))
   obtain ⟨y,rfl⟩:∃ y,c=[y]:=by
    have:=h c (by simp)
    match c,this with
    | [y],_=>exact ⟨y,rfl⟩
   grind
theorem QlU {zs parts:List Opd} (h:Rel ok0 N w0 lk lo a w L) (hf:YOp.fits P (.bla zs parts) o.op=true) (he:evY lk lo (.bla zs parts)=.ok s f v up):f/\Qo P o ok0 N w0 lk lo a w v up:=by
 simp only[YOp.fits] at hf;split at hf
 ·rename_i t ps ho
  simp only[Qzm] at hf;obtain ⟨ha,hsq⟩:=hf;simp only[evY] at he;split at he
  ·rename_i rows hr
   split at he
   ·rename_i es hes
    injection he with e1 e2 e3 e4
    subst e1 e2 e3 e4;unfold Qum at ha;split at ha
    ·rename_i n e hu
     simp only[Qzm,beq_iff_eq] at ha;obtain ⟨⟨⟨hn,hsz⟩,hz⟩,hzl⟩:=ha;obtain ⟨i,z,hi,hzz,hzs,_⟩:=XF hz;obtain ⟨hl,_⟩:=Zr (w:=w) (lo:=lo) (L:=L) (ok:=okL ok0 lo L) (lk:=lk) hzs;have hzc:z.cells.toList.length=parts.length*1:=by rw[hl,Qzw,hzl,QAp]
     obtain ⟨news,h1,hnw,h2,h3,h4,h5,h6⟩:=UZ h 1 parts ps.toList 0 rows [] z.cells.toList hsq hr rfl hzc;unfold Program.sizeIs at hsz;cases hie:P.info? e with
     | none=>rw[hie] at hsz;cases hsz
     | some ie =>
       have hs1:ie.size=1:=by simpa[hie] using hsz
       have hbuilt:P.built t (ps.toList.map fun (i,x)=>(i,a.eval x))=some news.toArray:=by
        unfold Program.built;simp only[hi,hu,hzz,hie,hs1];simpa using h1
       have hrun:=run_build (P:=P) w t (ps.map fun (i,x)=>(i,a.eval x)) news.toArray (by simpa using hbuilt)
       have hrows:=YB hes
       have hc1:∀ c∈es,c.length=1:=fun c hc=>by
        have:=h5 (c.map AV.iv) (by rw[hrows];exact QzI.2 ⟨c,hc,rfl⟩)
        simpa using this
       obtain ⟨f1,f2⟩:=Qs4 hc1;have hel:es.length=parts.length:=by rw[<- h4,hrows,Qzw]
       refine ⟨trivial,Qo.pure h (u:=.agg news.toArray) (by simp only[execOp,ho,Sem.run_bind,hrun,Result.andThen_ok,Sem.run_pure]) (.iv _ _ (.agg _ news (by rw[h2,f1,hel,QAp]) h3 fun k x u hx hu=>?_))⟩
       obtain ⟨c,hc,hcx⟩:=f2 k x hx;exact Xu (h6 k 0 (c.map AV.iv) (.iv x) u (by rw[hrows];simp[hc]) (by simp[hcx]) (by simpa using hu))
    ·cases ha
   ·cases he
  ·cases he
 ·cases hf
theorem QlF {len x i} (h:Rel ok0 N w0 lk lo a w L) (hf:YOp.fits P (.ixg len x i) o.op=true) (he:evY lk lo (.ixg len x i)=.ok s f v up) (hs:s):f/\Qo P o ok0 N w0 lk lo a w v up:=by
 simp only[YOp.fits] at hf;split at hf
 ·rename_i t x' i' ho
  simp only[Qzm] at hf;obtain ⟨⟨hx,hi⟩,ht⟩:=hf;have rx:=Opd.rep h hx;have ri:=Opd.rep h hi;simp only[evY] at he;split at he
  ·rename_i xs kk n hxv hiv
   split at he
   ·rename_i c hc
    injection he with e1 e2 e3 e4
    subst e1 e2 e3 e4;rw[hxv] at rx;rw[hiv] at ri;have hei:=QS ri;have rx:=Xu rx;generalize hey:a.eval x'=xv at rx;cases rx with
    | agg _ vs hl h1 hxx =>
      unfold QfP at ht;split at ht
      ·rename_i m e hu
       simp only[Qzm,beq_iff_eq] at ht;obtain ⟨⟨rfl,hsz⟩,hag⟩:=ht;unfold Program.sizeIs at hsz;cases hie:P.info? e with
       | none=>rw[hie] at hsz;cases hsz
       | some ie =>
         have hs1:ie.size=1:=by simpa[hie] using hsz
         have hlt:n.toNat<vs.length:=by rw[hl];exact (Qzl.1 hc).1
         have hag':(isAgg e).run P w=.ok false w:=by
          unfold Program.agg at hag;cases hue:P.underlying e with
          | none=>rw[hue] at hag;cases hag
          | some d=>cases d<;>simp[hue] at hag<;>simp[isAgg,run_underlying hue]
         refine ⟨trivial,Qo.pure h (u:=vs[n.toNat]) ?_ (.iv _ _ (hxx n.toNat c _ hc (Qzk hlt)))⟩;have hcond:0<=n/\n<(m:Int):=hs;simp[execOp,ho,hey,hei,Instr.index,asIntOf,run_underlying hu,hcond,part,hag',sizeOf,typeInfo,hie,hs1,hlt]
      ·cases ht
   ·cases he
  ·cases he
 ·cases hf
theorem QlL {off x} (h:Rel ok0 N w0 lk lo a w L) (hf:YOp.fits P (.fgt off x) o.op=true) (he:evY lk lo (.fgt off x)=.ok s f v up):f/\Qo P o ok0 N w0 lk lo a w v up:=by
 simp only[YOp.fits] at hf;split at hf
 ·rename_i t x' i ho
  simp only[Qzm] at hf;obtain ⟨hx,ht⟩:=hf;have rx:=Opd.rep h hx;simp only[evY] at he;split at he
  ·rename_i xs hxv
   split at he
   ·rename_i c hc
    injection he with e1 e2 e3 e4
    subst e1 e2 e3 e4;rw[hxv] at rx;have rx:=Xu rx;generalize hey:a.eval x'=xv at rx;cases rx with
    | agg _ vs hl h1 hxx =>
      unfold Qft at ht;split at ht
      ·rename_i fields hu
       split at ht
       ·rename_i fd hfd
        simp only[Qzm,beq_iff_eq] at ht;obtain ⟨rfl,hag⟩:=ht;have hlt:fd.offset<vs.length:=by rw[hl];exact (Qzl.1 hc).1
        have hag':(isAgg fd.type).run P w=.ok false w:=by
         unfold Program.agg at hag;cases hue:P.underlying fd.type with
         | none=>rw[hue] at hag;cases hag
         | some d=>cases d<;>simp[hue] at hag<;>simp[isAgg,run_underlying hue]
        refine ⟨trivial,Qo.pure h (u:=vs[fd.offset]) ?_ (.iv _ _ (hxx fd.offset c _ hc (Qzk hlt)))⟩;simp[execOp,ho,hey,Instr.field,run_underlying hu,hfd,part,asAgg,hag',hlt]
       ·cases ht
      ·cases ht
   ·cases he
  ·cases he
 ·cases hf
theorem Qlq {id e bytes zs n} (h:Rel ok0 N w0 lk lo a w L) (hf:YOp.fits P (.mks id e bytes zs n) o.op=true) (he:evY lk lo (.mks id e bytes zs n)=.ok s f v up) (hs:s):f/\Qo P o ok0 N w0 lk lo a w v up:=by
 simp only[YOp.fits] at hf;split at hf
 ·rename_i t l c ho
  simp only[Qzm] at hf;obtain ⟨⟨⟨⟨hl,hc⟩,ht⟩,hz⟩,hb⟩:=hf;have rl:=Opd.rep h hl;have rc:=Opd.rep h hc;simp only[evY] at he;split at he
  ·rename_i k m hnv hid
   injection he with e1 e2 e3 e4
   subst e1 e2 e3 e4;rw[hnv] at rl rc;have hel:=QS rl;have hec:=QS rc;obtain ⟨hm0,hby,hm63,hzp⟩:=hs;split at ht
   ·rename_i e' hu
    simp only[beq_iff_eq] at ht;subst ht;obtain ⟨i,z,hi,hzz,hzs,hsize⟩:=XF hz;rw[hi] at hb;simp only[beq_iff_eq] at hb;subst hb;obtain ⟨hzl,hzx⟩:=Zr (w:=w) (lo:=lo) (L:=L) (ok:=okL ok0 lo L) (lk:=lk) hzs;have hzl':z.cells.size=zs.length:=by simpa using hzl
    have hrun:=run_make (P:=P) w t e' i z hu hi hzz k k m m hm0 (Int.le_refl _) (by omega) hm63
    rw[hsize] at hrun
    have hzc:∀ j,j<m.toNat*zs.length->(madeCells z.cells (m.toNat*zs.length)).toList[j]?=z.cells.toList[j % zs.length]?:=by
     intro j hj;have hlt:j % zs.length<z.cells.size:=by rw[hzl'];exact Nat.mod_lt _ hzp
     simp[madeCells,hj,hzl',Nat.mod_lt _ hzp,getElem!_pos,hlt]
    have hone:∀ u∈z.cells.toList,u.oneCell'=true:=by
     intro u hu;obtain ⟨k,hk,rfl⟩:=QzV hu;have hk2:k<(zs.map (·.av lk)).length:=by omega
     exact (hzx k _ _ (Qzk hk2) (Qzk hk)).2
    have hbel:=Qq w (.cells (madeCells z.cells (m.toNat*zs.length)) e')
    have hok:∀ b,okL ok0 lo L b->b<w.heap.size->okL ok0 (QK lo id (.arr e' zs.length (List.replicate m.toNat (zs.map (·.av lk))) 0)) (QF L id (.arr (.slice (some ⟨w.heap.size,0,none⟩) m.toNat m.toNat) (madeCells z.cells (m.toNat*zs.length)).toList)) b:=by
     intro b hb hlt;refine ⟨hb.1,fun i o' hi he=>?_⟩
     by_cases hii:i=id
     ·subst hii
      simp only[QF,if_true,Lay.has,Value.ownBlock,Option.some.injEq] at he;omega
     grind
    refine ⟨trivial,_,.slice (some ⟨w.heap.size,0,none⟩) m.toNat m.toNat,w.alloc (.cells (madeCells z.cells (m.toNat*zs.length)) e'),QF L id (.arr (.slice (some ⟨w.heap.size,0,none⟩) m.toNat m.toNat) (madeCells z.cells (m.toNat*zs.length)).toList),by simp[execOp,ho,hel,hec,hrun],.inl rfl,?_,?_⟩
    ·refine h.new id hid _ _ hbel (fun b hb=>by simp only[Lay.has,Value.ownBlock,Option.some.injEq] at hb;omega) ?_
     refine ⟨⟨⟨by simp[size_madeCells],.inr ⟨w.heap.size,m.toNat,madeCells z.cells (m.toNat*zs.length),by simp,QAu _,heap_alloc_new w _,by simp,by simp only[maxLen];omega,by simp[size_madeCells],?_⟩⟩,fun b hb=>by simp only[Value.ownBlock,Option.some.injEq] at hb;exact h.frlt (by omega)⟩,QAu _,fun c hc=>?_,fun u hu=>?_,fun i2 j c x u h2 h3 h4=>?_⟩
     ·rw[List.length_replicate,Qzt]
      simp[size_madeCells]
     ·rw[List.eq_of_mem_replicate hc,Qzw]
     ·obtain ⟨j,hj,rfl⟩:=QzV hu
      have hj':j<m.toNat*zs.length:=by simpa[size_madeCells] using hj
      grind
     ·rw[List.getElem?_replicate] at h2
      split at h2
      ·rename_i hi2
       injection h2 with h2
       subst h2;have hjl:j<zs.length:=by have:=(Qzl.1 h3).1;simpa using this
       have hjj:=W6 hi2 hjl;rw[hzc _ hjj] at h4;have hmod:(i2*zs.length+j) % zs.length=j:=by rw[Nat.add_comm,Nat.add_mul_mod_self_right,Nat.mod_eq_of_lt hjl]
       rw[hmod] at h4;refine ((hzx j x u h3 h4).1).ext hok hbel.block fun i o' hi=>?_
       grind
      ·cases h2
    ·have:=Qs.aref (ok:=okL ok0 (upO lo (some (id,.arr e' zs.length (List.replicate m.toNat (zs.map (·.av lk))) 0))) (QF L id (.arr (.slice (some ⟨w.heap.size,0,none⟩) m.toNat m.toNat) (madeCells z.cells (m.toNat*zs.length)).toList))) (w:=w.alloc (.cells (madeCells z.cells (m.toNat*zs.length)) e')) (lo:=upO lo (some (id,.arr e' zs.length (List.replicate m.toNat (zs.map (·.av lk))) 0))) (L:=QF L id (.arr (.slice (some ⟨w.heap.size,0,none⟩) m.toNat m.toNat) (madeCells z.cells (m.toNat*zs.length)).toList)) id e' zs.length (List.replicate m.toNat (zs.map (·.av lk))) 0 (.slice (some ⟨w.heap.size,0,none⟩) m.toNat m.toNat) (madeCells z.cells (m.toNat*zs.length)).toList (by simp[upO,QK]) (by simp[QF]) rfl
     rwa [List.length_replicate] at this
   ·cases ht
  ·cases he
 ·cases hf
theorem Ur:∀ {es ns},Wt es=some ns->es=ns.map fun n=>[.int .i32 n]
 | [],ns,h=>by simp[Wt] at h;subst h;rfl
 | c::r,ns,h=>by
   unfold Wt at h;split at h
   ·rename_i heq;cases heq
   ·rename_i n r' heq
    injection heq with h1 h2
    subst h1 h2;rw[Qzo] at h;obtain ⟨ms,h3,rfl⟩:=h;simp[Ur h3]
   ·cases h
theorem UG (ns:List Int) (h:∀ n∈ns,0<=n/\n<128):runesBytes ns=⟨(Yc ns).toArray⟩:=by
 have:∀ (ns:List Int),(∀ n∈ns,0<=n/\n<128)->∀ s:ByteArray,ns.foldl (fun r n=>r++Utf8.encode n) s=s++⟨(Yc ns).toArray⟩:=by
  intro ns
  induction ns with
  | nil =>
    intro _ s;simp only[List.foldl_nil,Yc,List.map_nil];exact (ByteArray.append_empty).symm
  | cons n r ih =>
    intro h s;rw[QAw,ih (fun n hn=>h n (List.mem_cons_of_mem _ hn))]
    have hn:=h n (by simp)
    have he:Utf8.encode n=⟨#[UInt8.ofNat n.toNat]⟩:=by
     have hv:Utf8.valid n=true:=by
      unfold Utf8.valid;simp;omega
     unfold Utf8.encode;simp only[hv,if_true];rw[if_pos (by omega)]
    rw[he];apply ByteArray.ext;simp[Yc]
 unfold runesBytes;rw[this ns h];apply ByteArray.ext;simp
theorem Qlm {x} (h:Rel ok0 N w0 lk lo a w L) (hf:YOp.fits P (.r2s x) o.op=true) (he:evY lk lo (.r2s x)=.ok s f v up) (hs:s):f/\Qo P o ok0 N w0 lk lo a w v up:=by
 simp only[YOp.fits] at hf;split at hf
 ·rename_i sT dT y ho
  simp only[Qzm] at hf;obtain ⟨⟨hx,hd⟩,hsrc⟩:=hf;have rx:=Opd.rep h hx;simp only[evY] at he;split at he
  ·rename_i es hxv
   split at he
   ·rename_i ns hns
    injection he with e1 e2 e3 e4
    subst e1 e2 e3 e4;rw[hxv] at rx;have rx:=Xu rx;have hes:=Ur hns;unfold Q4 at hd;split at hd
    ·rename_i hud
     split at hsrc
     ·rename_i e hus
      have hue:P.underlying e=some (.int .i32):=by
       simp only[beq_iff_eq] at hsrc;unfold V2 at hsrc
       grind
      generalize hey:a.eval y=yv at rx;have hb:=UG ns hs
      have fin:(convert sT dT yv).run P w=.ok (.string (runesBytes ns)) w->True/\Qo P o ok0 N w0 lk lo a w (.iv (.str (Yc ns))) none:=fun hrun =>
       ⟨trivial,Qo.pure h (u:=.string ⟨(Yc ns).toArray⟩) (by rw[<- hb];simp[execOp,ho,hey,hrun]) (Yh _)⟩
      cases rx with
      | nils =>
        have:ns=[]:=by simpa using hes.symm
        subst this;exact fin (run_convert_runes_nil w sT dT e 0 0 hus hue hud)
      | nilz _ ad =>
        have:ns=[]:=by simpa using hes.symm
        subst this;refine fin ?_;rw[run_convert_runes_string w sT dT e _ _ _ hus hue hud];exact run_runesToString w ad 0 0 [] (run_loadCells_list (P:=P) w ad [] (by simp))
      | sl _ _ b off cap u hl hc hsz hu hxx =>
        refine fin ?_;rw[run_convert_runes_string w sT dT e _ _ _ hus hue hud];have hnl:ns.length=es.length:=by rw[hes,Qzw]
        rw[<- hnl];refine run_runesToString w _ ns.length cap ns ?_
        have:=run_loadCells_list (P:=P) w ⟨b,off,none⟩ (ns.map (Value.int .i32)) (fun j v hv=>by
         rw[Qzu,Qzo] at hv;obtain ⟨m,hm,rfl⟩:=hv;have hj:j<es.length:=by rw[<- hnl];exact (Qzl.1 hm).1
         obtain ⟨_,h2,_⟩:=hu j (by omega)
         have h3:=hxx j 0 [.int .i32 m] (.int .i32 m) (by rw[hes];simp[hm]) rfl
         rw[QM,h2];simp only[QAp,QAe] at h3;generalize u j=uj at h3;cases h3;rfl)
        rwa [Qzw] at this
     ·cases hsrc
    ·cases hd
   ·cases he
  ·cases he
 ·cases hf
theorem QiU {id x} (h:Rel ok0 N w0 lk lo a w L) (hf:YOp.fits P (.rngm id x) o.op=true) (he:evY lk lo (.rngm id x)=.ok s f v up):f/\Qo P o ok0 N w0 lk lo a w v up:=by
 simp only[YOp.fits] at hf;split at hf
 ·rename_i t y ho
  simp only[Qzm] at hf;obtain ⟨hx,hst⟩:=hf;have rx:=Opd.rep h hx;simp only[evY] at he;split at he
  ·rename_i kvs hxv hid
   injection he with e1 e2 e3 e4
   subst e1 e2 e3 e4;rw[hxv] at rx;have rx:=Xu rx;split at hst
   ·rename_i kt et hu
    generalize hey:a.eval y=yv at rx;cases rx with
    | mapn =>
      have hrun:(Instr.range t (.map none)).run P w=.ok (.pointer (some ⟨w.heap.size,0,none⟩)) (w.alloc (.mapIter none 0 #[] 0)):=by
       simp[Instr.range,run_underlying hu]
      refine ⟨trivial,_,.pointer (some ⟨w.heap.size,0,none⟩),_,_,by simp[execOp,ho,hey,hrun],.inl rfl,h.newOne hid (Qq w _) rfl (fun ok lo' L' hF _=>⟨hF,none,0,#[],heap_alloc_new w _,rfl⟩),?_⟩
      exact .oref id _ (.miter [] []) (by simp[upO,QK]) rfl (by simp[QF])
    | map _ r es clock hok hr hmr hdd hxx =>
      have hrun:(Instr.range t (.map (some r))).run P w=.ok (.pointer (some ⟨w.heap.size,0,none⟩)) (w.alloc (.mapIter (some r) clock #[] clock)):=by
       simp[Instr.range,run_underlying hu,MapKept.run_getObj_map hr]
      have hlt:=(Qzs.1 hr).1;have hold:∀ b,b<w.heap.size->(w.alloc (.mapIter (some r) clock #[] clock)).heap[b]?=w.heap[b]?:=(Qq w _).block
      refine ⟨trivial,_,.pointer (some ⟨w.heap.size,0,none⟩),_,_,by simp[execOp,ho,hey,hrun],.inl rfl,h.newOne hid (Qq w _) rfl (fun ok lo' L' hF hokk=>⟨hF,some r,clock,#[],heap_alloc_new w _,es,hokk r hok hlt,(hold r hlt).trans hr,hmr,fun i e p h1 h2=>(hxx i e p h1 h2).mono fun b hb hlt=>⟨hokk b hb hlt,hold b hlt⟩,rfl,by simp⟩),?_⟩
      exact .oref id _ (.miter kvs []) (by simp[upO,QK]) rfl (by simp[QF])
   ·cases hst
  ·cases he
 ·cases hf
theorem QgE {n es clock key} (h:Z5 n es clock key):(es.toList.map (·.born)).Nodup:=by
 rw[List.nodup_iff_pairwise_ne,List.pairwise_iff_getElem];intro i j hi hj hij he;simp only[Qzw,QAy] at hi hj;simp only[List.getElem_map,Array.getElem_toList] at he;have:=h.apart i j es[i] es[j] (QzF hi) (QzF hj) he;omega
theorem Qhq (ok:Nat->Prop) (w:World) (k:MK):Qv ok w k.iv k.val:=by
 cases k with
 | int k n=>exact .int k n
 | str s=>exact .str s
 | agg cs =>
   refine .agg _ _ (by simp) (fun u hu=>?_) (fun k x u h1 h2=>?_)
   ·obtain ⟨c,_,rfl⟩:=QzI.1 hu
    cases c<;>rfl
   ·simp only[Qzu,Qzo] at h1 h2
    obtain ⟨c,h1,rfl⟩:=h1;obtain ⟨c',h2,rfl⟩:=h2;rw[h1] at h2;injection h2 with h2
    subst h2;cases c<;>constructor
theorem QlO {id x} (h:Rel ok0 N w0 lk lo a w L) (hf:YOp.fits P (.ent id x) o.op=true) (he:evY lk lo (.ent id x)=.ok s f v up):f/\Qo P o ok0 N w0 lk lo a w v up:=by
 simp only[YOp.fits] at hf;split at hf
 ·rename_i y ho
  have rx:=Opd.rep h hf;simp only[evY] at he;split at he
  ·rename_i j kvs i seen hxv hid
   split at he
   ·rename_i hji
    subst hji;split at he
    ·rename_i p hp
     injection he with e1 e2 e3 e4
     subst e1 e2 e3 e4;rw[hxv] at rx;obtain ⟨_,b,hL,hv⟩:=qZ hid (ZD j) rx;have hob:=h.objs _ _ hid;rw[hL] at hob;obtain ⟨hF,r,since,sn,hb,hit⟩:=hob;cases r with
     | none=>have:kvs=[]:=hit
             subst this;simp at hp
     | some r =>
       obtain ⟨es,h1,h2,h3,h4,h5,h6⟩:=hit;obtain ⟨e,he1,he2⟩:=h6 seen.length i (by simp)
       have hsn:∃ s':Array Nat,sn=s'.push e.born:=by
        refine ⟨sn.pop,?_⟩
        grind
       obtain ⟨s',hs'⟩:=hsn;subst hs';have hrun:=run_entry_at (P:=P) w b r since s' es since e hb h2 (QzB (by simpa using he1)) (QgE h3)
       refine ⟨trivial,Qo.pure h (u:=.tuple #[e.key,e.val]) (by simp[execOp,ho,hv,hrun]) (.iv _ _ (.tup _ [_,_] rfl fun k x u hk hu=>?_))⟩
       obtain ⟨k',hk1,hk2⟩:=h3.keys i e he1;rw[hp] at hk1;injection hk1 with hk1
       match k with
       | 0=>simp at hk hu;subst hk hu;rw[hk2,<- hk1];exact Qhq _ _ _
       | 1=>simp at hk hu;subst hk hu;exact h4 i e p he1 hp
       | k+2=>simp at hk
    ·cases he
   ·cases he
  ·cases he
 ·cases hf
theorem QeO (h:Rel ok0 N w0 lk lo a w L):∀ {xs} {ys:List Operand},YR xs ys=true->(ys.map a.eval).length=(xs.map (·.av lk)).length /\
  ∀ (k:Nat) (x:AV) (u:Value),(xs.map (·.av lk))[k]?=some x->(ys.map a.eval)[k]?=some u->Qs (okL ok0 lo L) w lo L x u
 | [],[],_=>⟨rfl,by simp⟩
 | x::xs,y::ys,hf=>by
   simp only[YR,Qzm] at hf;obtain ⟨h1,h2⟩:=QeO h hf.2;refine ⟨by simpa using h1,fun k z u hz hu=>?_⟩
   cases k with
   | zero =>
     simp at hz hu;subst hz hu;exact Opd.rep h hf.1
   | succ k=>exact h2 k z u (by simpa using hz) (by simpa using hu)
 | [],_::_,hf=>by simp[YR] at hf
 | _::_,[],hf=>by simp[YR] at hf
theorem Qdk {ok:Nat->Prop} {w:World} {lo:Nat->Option AO} {L:Nat->Lay}:∀ {xs:List AV} {ys:List IV},ivs xs=some ys->xs=ys.map .iv
 | [],ys,h=>by simp[ivs] at h;subst h;rfl
 | x::xs,ys,h=>by
   simp only[ivs] at h;split at h
   ·rename_i y zs hy hzs
    injection h with h
    subst h;have:=Qdk (ok:=ok) (w:=w) (lo:=lo) (L:=L) hzs;cases x<;>simp[AV.iv?] at hy;subst hy;simp[this]
   ·cases h
theorem Qls {g:FuncId} {fs cs:List Opd} (h:Rel ok0 N w0 lk lo a w L) (hf:YOp.fits P (.mkf g fs cs) o.op=true) (he:evY lk lo (.mkf g fs cs)=.ok s f v up):f/\Qo P o ok0 N w0 lk lo a w v up:=by
 simp only[YOp.fits] at hf;split at hf
 ·rename_i g' fs' cs' ho
  simp only[Qzm,beq_iff_eq] at hf;obtain ⟨⟨hg,h1⟩,h2⟩:=hf;subst hg;simp only[evY] at he;injection he with e1 e2 e3 e4
  subst e1 e2 e3 e4;obtain ⟨a1,a2⟩:=QeO h h1;obtain ⟨b1,b2⟩:=QeO h h2;refine ⟨trivial,Qo.pure h (u:=.func (.func g) (fs'.toList.map a.eval).toArray (cs'.toList.map a.eval).toArray) ?_ ?_⟩
  ·have q1:fs'.map a.eval=(fs'.toList.map a.eval).toArray:=by apply Array.ext';simp
   have q2:cs'.map a.eval=(cs'.toList.map a.eval).toArray:=by apply Array.ext';simp
   simp[execOp,ho,Instr.makeFunc];exact ⟨q1,q2⟩
  ·unfold QnI
   split
   ·rename_i xs ys hxs hys
    have r1:=Qdk (ok:=okL ok0 lo L) (w:=w) (lo:=lo) (L:=L) hxs;have r2:=Qdk (ok:=okL ok0 lo L) (w:=w) (lo:=lo) (L:=L) hys;rw[r1] at a1 a2;rw[r2] at b1 b2;refine .iv _ _ (.clo g xs ys _ _ (by simpa using a1) (by simpa using b1) (fun k x u hx hu=>?_) (fun k x u hx hu=>?_))
    ·have:=a2 k (.iv x) u (by simp[hx]) hu
     cases this with
     | iv _ _ r=>exact r
    ·have:=b2 k (.iv x) u (by simp[hx]) hu
     cases this with
     | iv _ _ r=>exact r
   ·exact .clo g _ _ _ _ a1 b1 a2 b2
 ·cases hf
theorem Qlo {x} (h:Rel ok0 N w0 lk lo a w L) (hf:YOp.fits P (.neg x) o.op=true) (he:evY lk lo (.neg x)=.ok s f v up) (hs:s):f/\Qo P o ok0 N w0 lk lo a w v up:=by
 simp only[YOp.fits] at hf;split at hf
 ·rename_i t y ho
  have rx:=Opd.rep h hf;simp only[evY] at he;generalize x.av lk=xv at rx he;split at he
  ·rename_i k n
   injection he with e1 e2 e3 e4
   subst e1 e2 e3 e4;have hey:=QS rx;refine ⟨trivial,Qo.pure h (u:=.int k (0-n)) ?_ (QR _ _)⟩;have hw:=QaA hs;simp only[Int.zero_sub] at hw;simp[execOp,ho,hey,Op.unary,Op.intArith,hw]
  ·cases he
 ·cases hf
theorem Qir:∀ (fs:List Field) (k d:Nat) (cs ds:List IV) (vs us:List Value) (b:Bool),Jz P k fs=true->XS cs ds=some b->cs.length=fs.length ->
  (∀ (j:Nat) (x:IV),cs[j]?=some x->∃ u,vs[k+j]?=some u/\Qv ok0 w x u)->(∀ (j:Nat) (x:IV),ds[j]?=some x->∃ u,us[k+j]?=some u/\Qv ok0 w x u)->(Op.eqFields (d+1) vs.toArray us.toArray fs).run P w=.ok b w
 | [],k,d,[],[],vs,us,b,_,he,_,_,_=>by
   simp only[XS,Option.some.injEq] at he;subst he;simp[Op.eqFields]
 | [],k,d,x::cs,ds,vs,us,b,_,_,hl,_,_=>by simp at hl
 | [],k,d,[],y::ds,vs,us,b,_,he,_,_,_=>by simp[XS] at he
 | f::fs,k,d,[],ds,vs,us,b,_,_,hl,_,_=>by simp at hl
 | f::fs,k,d,x::cs,[],vs,us,b,_,he,_,_,_=>by simp[XS] at he
 | f::fs,k,d,x::cs,y::ds,vs,us,b,hf,he,hl,hx,hy=>by
   simp only[Jz,Qzm,bne_iff_ne,ne_eq,beq_iff_eq] at hf;obtain ⟨⟨⟨hn,ho⟩,hp⟩,hr⟩:=hf
   obtain ⟨kk,hu⟩:∃ kk,P.underlying f.type=some (.int kk):=by
    unfold V2 at hp;split at hp
    ·rename_i kk hk;exact ⟨kk,hk⟩
    ·cases hp
   have hpk:P.plainKey f.type=true:=by simp[Program.plainKey,hu]
   simp only[XS] at he;split at he
   ·rename_i b1 b2 h1 h2
    injection he with he
    subst he;obtain ⟨u1,hu1,r1⟩:=hx 0 x rfl;obtain ⟨u2,hu2,r2⟩:=hy 0 y rfl;have p1:(part f.type vs.toArray f.offset).run P w=.ok u1 w:=run_part_plain w hpk (by rw[ho];simpa using hu1)
    have p2:(part f.type us.toArray f.offset).run P w=.ok u2 w:=run_part_plain w hpk (by rw[ho];simpa using hu2)
    have ih:=Qir fs (k+1) d cs ds vs us b2 hr h2 (by simpa using hl) (fun j z hz=>by
     obtain ⟨u,hu,r⟩:=hx (j+1) z (by simpa using hz)
     exact ⟨u,by rw[<- hu];congr 1;omega,r⟩) (fun j z hz=>by
     obtain ⟨u,hu,r⟩:=hy (j+1) z (by simpa using hz)
     exact ⟨u,by rw[<- hu];congr 1;omega,r⟩)
    have q:(Op.equalIn (d+1) f.type u1 u2).run P w=.ok b1 w:=by
     unfold QuS at h1;split at h1
     ·split at h1
      ·rename_i hk
       injection h1 with h1
       subst h1 hk;cases r1;cases r2;rw[run_equalIn_int w d f.type _ _ _ _ hu];rfl
      ·cases h1
     ·cases h1
    simp only[Op.eqFields,hn,not_false_iff,ne_eq,if_true,Sem.run_bind,p1,p2,q,Result.andThen,Sem.run_ite];cases b1
    ·simp
    ·simp[ih]
   ·cases he
theorem Y9 {e} {fs:Array Field} {m} (hu:P.underlying e=some (.struct fs)) (hs:Program.sizeIs P e m=true) (xs off) :
  (part e xs off).run P w=.ok (.agg (xs.extract off (off+m))) w:=by
 unfold Program.sizeIs at hs;cases hi:P.info? e with
 | none=>simp[hi] at hs
 | some i =>
   have hm:i.size=m:=by simpa[hi] using hs
   simp[part,isAgg,run_underlying hu,sizeOf,run_typeInfo w hi,hm]
theorem QcG {cs ds b} (m) (h:XS cs ds=some b) (hm:m<=cs.length):∃ b1 b2,XS (cs.take m) (ds.take m)=some b1/\XS (cs.drop m) (ds.drop m)=some b2/\b=(b1&&b2):=by
 induction m generalizing cs ds b with
 | zero=>exact ⟨true,b,by simp[XS],by simpa using h,by simp⟩
 | succ m ih =>
   cases cs with
   | nil=>simp at hm
   | cons x cs =>
     cases ds with
     | nil=>simp[XS] at h
     | cons y ds =>
       simp only[XS] at h;split at h
       ·rename_i a r h1 h2
        injection h with h
        subst h;obtain ⟨b1,b2,g1,g2,rfl⟩:=ih h2 (by simpa using hm)
        exact ⟨a&&b1,b2,by simp[XS,h1,g1],by simpa using g2,by simp[Bool.and_assoc]⟩
       ·cases h
theorem Vw:∀ {cs ds b},XS cs ds=some b->ds.length=cs.length
 | [],[],_,_=>rfl
 | [],_::_,_,h=>by simp[XS] at h
 | _::_,[],_,h=>by simp[XS] at h
 | x::cs,y::ds,b,h=>by
   simp only[XS] at h;split at h
   ·rename_i a r h1 h2
    simp[Vw h2]
   ·cases h
theorem Qfr:∀ (fs:List Field) (k d n:Nat) (cs ds:List IV) (vs us:List Value) (b:Bool),Zp P k fs=some n->XS cs ds=some b->k+cs.length=n->n<=vs.length->n<=us.length ->
  (∀ (j:Nat) (x:IV),cs[j]?=some x->∃ u,vs[k+j]?=some u/\Qv ok0 w x u)->(∀ (j:Nat) (x:IV),ds[j]?=some x->∃ u,us[k+j]?=some u/\Qv ok0 w x u)->(Op.eqFields (d+2) vs.toArray us.toArray fs).run P w=.ok b w
 | [],k,d,n,cs,ds,vs,us,b,hf,he,hl,_,_,_,_=>by
   simp only[Zp,Option.some.injEq] at hf;have hc:cs=[]:=Qzy (by omega)
   have hd:ds=[]:=Qzy (by rw[Vw he,hc];rfl)
   subst hc hd;simp only[XS,Option.some.injEq] at he;subst he;simp[Op.eqFields]
 | f::fs,k,d,n,cs,ds,vs,us,b,hf,he,hl,hv,hu',hx,hy=>by
   simp only[Zp] at hf;split at hf
   ·rename_i hno
    simp only[Qzm,bne_iff_ne,ne_eq,beq_iff_eq] at hno;obtain ⟨hn,ho⟩:=hno;split at hf
    ·rename_i m hm
     have hge:∀ (l:List Field) (a z:Nat),Zp P a l=some z->a<=z:=by
      intro l
      induction l with
      | nil=>intro a z h;simp[Zp] at h;omega
      | cons g l ih =>
        intro a z h;simp only[Zp] at h
        grind
     have hkm:=hge _ _ _ hf;have hml:m<=cs.length:=by omega
     obtain ⟨b1,b2,e1,e2,rfl⟩:=QcG m he hml;have hdl:=Vw he
     have ih:=Qfr fs (k+m) d n (cs.drop m) (ds.drop m) vs us b2 hf e2 (by simp;omega) hv hu' (fun j z hz=>by
      grind) (fun j z hz=>by
      grind)
     have q:∃ u1 u2,(part f.type vs.toArray f.offset).run P w=.ok u1 w/\(part f.type us.toArray f.offset).run P w=.ok u2 w/\(Op.equalIn (d+2) f.type u1 u2).run P w=.ok b1 w:=by
      unfold Qcx at hm;split at hm
      ·rename_i hp
       injection hm with hm
       subst hm
       obtain ⟨kk,hu⟩:∃ kk,P.underlying f.type=some (.int kk):=by
        unfold V2 at hp
        grind
       have hpk:P.plainKey f.type=true:=by simp[Program.plainKey,hu]
       cases cs with
       | nil=>simp at hml
       | cons x cs =>
         cases ds with
         | nil=>simp[XS] at he
         | cons y ds =>
           obtain ⟨u1,hu1,r1⟩:=hx 0 x rfl;obtain ⟨u2,hu2,r2⟩:=hy 0 y rfl;refine ⟨u1,u2,run_part_plain w hpk (by rw[ho];simpa using hu1),run_part_plain w hpk (by rw[ho];simpa using hu2),?_⟩
           simp only[List.take_succ_cons,List.take_zero,XS] at e1;split at e1
           ·rename_i a r h1 h2
            injection h2 with h2
            subst h2;injection e1 with e1
            subst e1;unfold QuS at h1;split at h1
            ·split at h1
             ·rename_i hk
              injection h1 with h1
              subst h1 hk;cases r1;cases r2;rw[run_equalIn_int w (d+1) f.type _ _ _ _ hu];simp only[Bool.and_true];rfl
             ·cases h1
            ·cases h1
           ·cases e1
      ·split at hm
       ·rename_i gs hu
        split at hm
        ·rename_i hc
         simp only[Qzm,QzL] at hc;obtain ⟨⟨hst,hff⟩,hsz⟩:=hc;injection hm with hm
         subst hm;refine ⟨_,_,Y9 hu hsz _ _,Y9 hu hsz _ _,?_⟩;have hfo:P.fieldsOf f.type=gs:=by simp[Program.fieldsOf,hu]
         have:=run_equalIn_struct (P:=P) w (d+1) f.type (vs.toArray.extract f.offset (f.offset+gs.size)) (us.toArray.extract f.offset (f.offset+gs.size)) (by rw[hfo];exact hu) hst
         rw[hfo] at this;rw[this]
         have hex:∀ l:List Value,l.toArray.extract f.offset (f.offset+gs.size)=((l.drop k).take gs.size).toArray:=fun l=>by
          grind
         rw[hex,hex];refine Qir (ok0:=ok0) gs.toList 0 d _ _ _ _ b1 hff e1 (by simp;omega) (fun j z hz=>?_) (fun j z hz=>?_)
         ·rw[QzR] at hz
          split at hz
          ·rename_i hj
           obtain ⟨u,hu,r⟩:=hx j z hz;exact ⟨u,by grind,r⟩
          ·cases hz
         ·rw[QzR] at hz
          split at hz
          ·rename_i hj
           obtain ⟨u,hu,r⟩:=hy j z hz;exact ⟨u,by grind,r⟩
          ·cases hz
        ·cases hm
       ·cases hm
     obtain ⟨u1,u2,p1,p2,q⟩:=q;simp only[Op.eqFields,hn,not_false_iff,ne_eq,if_true,Sem.run_bind,p1,p2,q,Result.andThen,Sem.run_ite];cases b1
     ·simp
     ·simp[ih]
    ·cases hf
   ·cases hf
theorem QlN {ne:Bool} {n:Nat} {x y:Opd} (h:Rel ok0 N w0 lk lo a w L) (hf:YOp.fits P (.eqs ne n x y) o.op=true) (he:evY lk lo (.eqs ne n x y)=.ok s f v up) (hs:s):f/\Qo P o ok0 N w0 lk lo a w v up:=by
 simp only[YOp.fits] at hf;split at hf
 ·rename_i op t x' y' yt ho
  simp only[Qzm,beq_iff_eq] at hf;obtain ⟨⟨⟨rfl,hx⟩,hy⟩,hfl⟩:=hf;unfold Qah at hfl;split at hfl
  ·rename_i fs hu
   simp only[Qzm,QzL,beq_iff_eq] at hfl;obtain ⟨⟨hst,hg⟩,hff⟩:=hfl;have hfo:P.fieldsOf t=fs:=by simp[Program.fieldsOf,hu]
   have rx:=Opd.rep h hx;have ry:=Opd.rep h hy;simp only[evY] at he;generalize x.av lk=xv at rx he;generalize y.av lk=yv at ry he;split at he
   ·rename_i cs ds
    split at he
    ·rename_i b hb
     injection he with e1 e2 e3 e4
     subst e1 e2 e3 e4;generalize hex:a.eval x'=xe at rx;generalize hey:a.eval y'=ye at ry;cases rx with
     | iv _ _ r =>
       cases r with
       | agg _ vs hl h1 hxs =>
         cases ry with
         | iv _ _ r =>
           cases r with
           | agg _ us hl2 h2 hys =>
             have hq:=Qfr (P:=P) (ok0:=okL ok0 lo L) (w:=w) fs.toList 0 9997 n cs ds vs us b hff hb (by rw[hs,Qzx]) (by rw[hl,hs];exact Qzq _) (by rw[hl2,Vw hb,hs];exact Qzq _) (fun j z hz=>by
              have hlt:j<vs.length:=by rw[hl];exact (Qzl.1 hz).1
              exact ⟨vs[j],by simp[hlt],hxs j z _ hz (Qzk hlt)⟩) (fun j z hz=>by
              have hlt:j<us.length:=by rw[hl2];exact (Qzl.1 hz).1
              exact ⟨us[j],by simp[hlt],hys j z _ hz (Qzk hlt)⟩)
             have hq2:(Op.equalIn 10000 t (.agg vs.toArray) (.agg us.toArray)).run P w=.ok b w:=by
              have:=run_equalIn_struct (P:=P) w 9999 t vs.toArray us.toArray (by rw[hfo];exact hu) hst
              rw[hfo] at this;exact this.trans hq
             cases ne
             ·refine ⟨trivial,Qo.pure h (u:=.bool b) ?_ (ZT _)⟩
              simp[execOp,ho,hex,hey,run_eqGuard_agg w _ _ _ _ _ _ hg,run_eql_struct,hq2,Result.andThen]
             ·refine ⟨trivial,Qo.pure h (u:=.bool !b) ?_ (ZT _)⟩
              simp[execOp,ho,hex,hey,run_eqGuard_agg w _ _ _ _ _ _ hg,run_neq_struct,hq2,Result.andThen]
    ·cases he
   ·cases he
  ·cases hfl
 ·cases hf
theorem Qcl {x} {op:Op} (hf:YOp.fits P (.lenm x) op=true):∃ y t k e,op=.call { callee:=.builtin .len,args:=#[y],argTypes:=#[t] }/\x.is y=true/\P.underlying t=some (.map k e):=by
 simp only[YOp.fits] at hf;split at hf
 ·rename_i az ts
  split at hf
  ·rename_i y t has hts
   simp only[Qzm] at hf;obtain ⟨hx,ht⟩:=hf;have e1:az=#[y]:=by cases az;simp_all
   have e2:ts=#[t]:=by cases ts;simp_all
   unfold QhX at ht
   grind
  ·cases hf
 ·cases hf
theorem Qi3 {x} (h:Rel ok0 N w0 lk lo a w L) (hf:YOp.fits P (.lenm x) o.op=true) (he:evY lk lo (.lenm x)=.ok s f v up):f/\Qo P o ok0 N w0 lk lo a w v up:=by
 obtain ⟨y,t,k,e,ho,hx,hu⟩:=Qcl hf;have rx:=Opd.rep h hx;simp only[evY] at he;generalize x.av lk=xv at rx he;generalize hey:a.eval y=ye at rx;split at he
 ·rename_i kvs
  injection he with e1 e2 e3 e4
  subst e1 e2 e3 e4;cases rx with
  | iv _ _ r =>
    cases r with
    | mapn=>exact ⟨trivial,Qo.pure h (by simp[execOp,ho,resolve,invoke,builtin,hey,Builtin.len_,run_underlying hu,goInt]) (QR _ _)⟩
    | map _ r es clock hok hr hm hd hxx =>
      have hsz:=hm.size;exact ⟨trivial,Qo.pure h (by simp[execOp,ho,resolve,invoke,builtin,hey,Builtin.len_,run_underlying hu,goInt,getObj,Sem.run,hr,hsz]) (QR _ _)⟩
 ·cases he
theorem QgA {id x} (h:Rel ok0 N w0 lk lo a w L) (hf:YOp.fits P (.lenmo id x) o.op=true) (he:evY lk lo (.lenmo id x)=.ok s f v up):f/\Qo P o ok0 N w0 lk lo a w v up:=by
 obtain ⟨y,t,k,e,ho,hx,hu⟩:=Qcl (x:=x) hf;have rx:=Opd.rep h hx;simp only[evY] at he;split at he
 ·rename_i j kvs hxv hid
  split at he
  ·rename_i hji
   subst hji;injection he with e1 e2 e3 e4
   subst e1 e2 e3 e4;rw[hxv] at rx;obtain ⟨_,b,hL,hv⟩:=Xg hid (ZD j) rx;have hob:=h.objs _ _ hid;rw[hL] at hob;obtain ⟨hF,es,clock,hb,hmr,hdd,hxx⟩:=hob;have hsz:=hmr.size;exact ⟨trivial,Qo.pure h (by simp[execOp,ho,resolve,invoke,builtin,hv,Builtin.len_,run_underlying hu,goInt,getObj,Sem.run,hb,hsz]) (QR _ _)⟩
  ·cases he
 ·cases he
theorem Ut {t e:TypeId} {i:TypeInfo} {len sz:Nat} (he:P.underlying t=some (.array len e)) (hi:P.info? e=some i) (hs:i.size=sz)
  (b off:Nat) (k:IntKind) (j:Int) (h0:0<=j) (h1:j<len) :
  (Instr.indexAt t (.pointer (some ⟨b,off,none⟩)) (.int k j)).run P w=.ok (.pointer (some ⟨b,off+j.toNat*sz,none⟩)) w:=by
 simp[Instr.indexAt,asIntOf,run_underlying he,h0,h1,sizeOf,typeInfo,hi,hs,QM,Instr.sureAddr]
theorem QlH {len sz:Nat} {x i:Opd} (h:Rel ok0 N w0 lk lo a w L) (hf:YOp.fits P (.ixa len sz x i) o.op=true) (he:evY lk lo (.ixa len sz x i)=.ok s f v up) (hs:s):f/\Qo P o ok0 N w0 lk lo a w v up:=by
 simp only[YOp.fits] at hf;split at hf
 ·rename_i t x' i' ho
  simp only[Qzm] at hf;obtain ⟨⟨hx,hi⟩,ht⟩:=hf;unfold QfO at ht;split at ht
  ·rename_i n e hu
   simp only[Qzm,beq_iff_eq] at ht;obtain ⟨rfl,hsz⟩:=ht;unfold Program.sizeIs at hsz;split at hsz
   ·rename_i ti hti
    have hts:ti.size=sz:=by simpa using hsz
    have rx:=Opd.rep h hx;have ri:=Opd.rep h hi;simp only[evY] at he;generalize x.av lk=xv at rx he;generalize i.av lk=iv at ri he;generalize hex:a.eval x'=xe at rx;split at he
    ·rename_i id off k j
     injection he with e1 e2 e3 e4
     subst e1 e2 e3 e4;have hei:=QS ri;cases rx with
     | loc _ _ cs b hob hL =>
       refine ⟨trivial,Qo.pure h (u:=.pointer (some ⟨b,off+j.toNat*sz,none⟩)) ?_ (.loc id _ cs b hob hL)⟩;simp only[execOp,ho,hex,hei,Sem.run_bind,Ut hu hti hts b off k j hs.1 hs.2];rfl
    ·rename_i cs k j
     injection he with e1 e2 e3 e4
     subst e1 e2 e3 e4;have hei:=QS ri;cases rx with
     | iv _ _ r =>
       cases r with
       | ptr _ b off u hcell hxx =>
         refine ⟨trivial,Qo.pure h (u:=.pointer (some ⟨b,off+j.toNat*sz,none⟩)) ?_ (.iv _ _ (.ptr _ b _ (fun q=>u (j.toNat*sz+q)) (fun q hq=>?_) (fun q z hz=>?_)))⟩
         ·simp only[execOp,ho,hex,hei,Sem.run_bind,Ut hu hti hts b off k j hs.1 hs.2.1]
          rfl
         all_goals grind
    ·cases he
   ·cases hsz
  ·cases ht
 ·cases hf
theorem Qlk {sz x} (h:Rel ok0 N w0 lk lo a w L) (hf:YOp.fits P (.sl0 sz x) o.op=true) (he:evY lk lo (.sl0 sz x)=.ok s f v up):f/\Qo P o ok0 N w0 lk lo a w v up:=by
 simp only[YOp.fits] at hf;split at hf
 ·rename_i t x' ho
  simp only[Qzm] at hf;obtain ⟨hx,ht⟩:=hf;obtain ⟨e,ti,hu,hti,hts⟩:=Zh ht;have rx:=Opd.rep h hx;simp only[evY] at he;split at he
  ·rename_i s0 es hxv
   injection he with e1 e2 e3 e4
   subst e1 e2 e3 e4;rw[hxv] at rx;generalize hey:a.eval x'=yv at rx;have hec:a.eval (.const (.int .i64 0))=.int .i64 0:=rfl
   have run:∀ ad n cap,yv=.slice ad n cap->∃ ad',(execOp a.eval o).run P w=.ok (.value (.slice ad' 0 0)) w:=by
    intro ad n cap hyv;refine ⟨ad,?_⟩;simp[execOp,ho,hec,hey,hyv,Instr.sliceAt,Instr.slice,run_underlying hu,Instr.sliceBounds,Instr.sliceBound,asIntOf,sizeOf,typeInfo,hti]
   cases rx with
   | iv _ _ r=>cases r with
     | nils=>obtain ⟨ad',hr⟩:=run _ _ _ rfl;exact ⟨trivial,Qo.pure h hr (.zsl _ _ rfl)⟩
     | nilz=>obtain ⟨ad',hr⟩:=run _ _ _ rfl;exact ⟨trivial,Qo.pure h hr (.zsl _ _ rfl)⟩
     | sl=>obtain ⟨ad',hr⟩:=run _ _ _ rfl;exact ⟨trivial,Qo.pure h hr (.zsl _ _ rfl)⟩
  ·cases he
 ·cases hf
theorem Qpc {sz} (h:Rel ok0 N w0 lk lo a w L) (hf:YOp.fits P (.zslv sz) o.op=true) (he:evY lk lo (.zslv sz)=.ok s f v up):f/\Qo P o ok0 N w0 lk lo a w v up:=by
 simp only[evY,Res.ok.injEq] at he;obtain ⟨rfl,rfl,rfl,rfl⟩:=he;simp only[YOp.fits] at hf;unfold Qta at hf;split at hf
 ·rename_i t n ps ho
  simp only[Qzm,beq_iff_eq,decide_eq_true_eq] at hf;obtain ⟨⟨⟨⟨⟨hn,hsq⟩,hsz⟩,hez⟩,hb⟩,hpl⟩:=hf;obtain ⟨e,i,hu,hi,hs⟩:=Zh hsz;obtain ⟨news,hrun,hnl,h1,hrl,hrs,hx⟩:=QeN h ho hn hsq hu hi hs (YV hez hu hi) hb (rows:=[]) rfl;exact ⟨trivial,_,_,_,L,hrun,.inl rfl,h.ext (Qq w (.cells news.toArray e)),.zsl _ _ rfl⟩
 ·cases hf
theorem Wu {t kt et} {r es clock key z} {i:TypeInfo} {res} (hm:P.underlying t=some (.map kt et))
  (hb:w.heap[r]?=some (.map es clock)) (hk:Qq5 P kt key) (hi:P.info? et=some i) (hz:i.zero=some z) (hf:UU P kt key es.toList res) :
  (Instr.lookup t (.map (some r)) key true).run P w=.ok (.tuple #[(res.map (·.2)).getD z,.bool res.isSome]) w:=by
 have hc:=hk.check w es.isEmpty;have hff:=hf w;have hzz:(zeroValue et).run P w=.ok z w:=by simp[zeroValue,typeInfo,hi,hz]
 cases res with
 | none=>simp[Instr.lookup,run_underlying hm,MapKept.run_getObj_map hb,hc,hff,hzz]
 | some q=>simp[Instr.lookup,run_underlying hm,MapKept.run_getObj_map hb,hc,hff]
theorem QaS {ok x u b} (h:Qv ok w x u):Qv ok w (.tup [x,.bool b]) (.tuple #[u,.bool b]):=by
 refine .tup _ [u,.bool b] rfl fun k y v hk hv=>?_
 match k with
 | 0=>simp at hk hv;subst hk hv;exact h
 | 1=>simp at hk hv;subst hk hv;exact .bool b
 | k+2=>simp at hk
theorem Qlx {kk:KK} {zs:List Opd} {x k:Opd} (h:Rel ok0 N w0 lk lo a w L) (hf:YOp.fits P (.lkc kk zs x k) o.op=true) (he:evY lk lo (.lkc kk zs x k)=.ok s f v up) (hs:s):f/\Qo P o ok0 N w0 lk lo a w v up:=by
 simp only[YOp.fits] at hf;split at hf
 ·rename_i t x' k' c ho
  simp only[Qzm] at hf;obtain ⟨⟨⟨hx,hk⟩,hc⟩,hz⟩:=hf;subst hc;have rx:=Opd.rep h hx;have rk:=Opd.rep h hk;simp only[evY] at he;split at he
  ·rename_i kvs key zl hxv hkv hzl
   injection he with e1 e2 e3 e4
   subst e1 e2 e3 e4
   obtain ⟨kt,et,i,zz,hm,hkt,hi,hiz,hzr⟩:∃ kt e i v,P.underlying t=some (.map kt e)/\UK P kk kt=true/\P.info? e=some i/\i.zero=some v/\Qv (okL ok0 lo L) w (.agg zl) v:=by
    unfold Qsa at hz;split at hz
    ·rename_i e he
     obtain ⟨kt,h1,h2⟩:=Jw he;simp only[Qzm] at hz;obtain ⟨i,z,hi,hz0,hzs,_⟩:=XF hz.1;have hag:=hz.2;rw[hi] at hag;simp only[hz0] at hag;split at hag
     ·rename_i cs hcs
      injection hcs with hcs
      obtain ⟨hl,hxx⟩:=Zr (w:=w) (lo:=lo) (L:=L) (ok:=okL ok0 lo L) (lk:=lk) hzs;have hmk:UJ (zs.map (·.av lk))=.iv (.agg zl):=by simp[UJ,hzl]
      have hrep:=Jc (cs:=zs.map (·.av lk)) (vs:=cs.toList) (ok:=okL ok0 lo L) (w:=w) (lo:=lo) (L:=L) (by subst hcs;simpa[Value.cells] using hl) (fun u hu=>by
       subst hcs;obtain ⟨q,hq,rfl⟩:=QzV hu;have hq2:q<(zs.map (·.av lk)).length:=by rw[<- hl];simpa[Value.cells] using hq
       exact (hxx q _ _ (Qzk hq2) (by simpa[Value.cells] using Qzk hq)).2) (fun q y u a b=>by
       subst hcs;exact (hxx q y u a (by simpa[Value.cells] using b)).1)
      rw[hmk] at hrep;refine ⟨kt,e,i,z,h1,h2,hi,hz0,?_⟩;subst hcs;simpa using Xu hrep
     ·cases hag
    ·cases hz
   obtain ⟨hkk,hkval⟩:=Z8 (w:=w) (lo:=lo) (L:=L) hkv;have hik:=Jj hkt hkk;have hke:=hkval rk;rw[hxv] at rx;have ri:=Xu rx;generalize hey:a.eval x'=xv at ri;cases ri with
   | mapn =>
     have hc:=hik.check w true;have hff:=Ja (P:=P) (w:=w) hkt key.val;have hzz:(zeroValue et).run P w=.ok zz w:=by simp[zeroValue,typeInfo,hi,hiz]
     exact ⟨trivial,Qo.pure h (u:=.tuple #[zz,.bool false]) (by simp[execOp,ho,hey,hke,Instr.lookup,run_underlying hm,hc,hff,hzz]) (.iv _ _ (QaS hzr))⟩
   | map _ r es clock hok hr hmr hdd hxx =>
     rcases Xa hmr (Qzq _) hdd hkt hkk hs with ⟨h1,h2⟩ | ⟨j,e,p,h1,_,h3,h4,h5,_⟩
     ·have hr2:=Wu (P:=P) hm hr hik hi hiz h1
      refine ⟨trivial,Qo.pure h (u:=.tuple #[zz,.bool false]) (by simp[execOp,ho,hey,hke,hr2]) (.iv _ _ ?_)⟩
      cases hf:Qh key kvs with
      | none=>exact QaS hzr
      | some y =>
        obtain ⟨j,hj⟩:=Zu hf;exact absurd rfl (h2 j _ (Qzl.1 hj).1 hj)
     ·have hr2:=Wu (P:=P) hm hr hik hi hiz h1
      refine ⟨trivial,Qo.pure h (u:=.tuple #[e.val,.bool true]) (by simp[execOp,ho,hey,hke,hr2]) (.iv _ _ ?_)⟩
      obtain ⟨a,y⟩:=p;simp only at h5;subst h5;rw[YO hdd h4];exact QaS (hxx j e _ h3 h4)
  ·cases he
 ·cases hf
section
variable (P:Program) (w:World) {t:TypeId} {ms:Array (String × TypeId)}
theorem Qda (d) (hu:P.underlying t=some (.interface ms)):(Op.equalIn (d+1) t .nilIface .nilIface).run P w=.ok true w:=by
 simp[Op.equalIn,run_underlying hu]
theorem Qdb (d ty pv) (hu:P.underlying t=some (.interface ms)):(Op.equalIn (d+1) t (.iface ty pv) .nilIface).run P w=.ok false w:=by
 simp[Op.equalIn,run_underlying hu]
theorem Qhl (hu:P.underlying t=some (.interface ms)):(Op.equal t .nilIface .nilIface).run P w=.ok true w:=Qda P w 9999 hu
theorem Qhm (ty pv) (hu:P.underlying t=some (.interface ms)):(Op.equal t (.iface ty pv) .nilIface).run P w=.ok false w:=Qdb P w 9999 ty pv hu
theorem Qhj (ne) (x:Operand) (hu:P.underlying t=some (.interface ms)):(do eqGuard (if ne then .neq else .eql) t x (.const .nilIface) .nilIface .nilIface;binOp (if ne then .neq else .eql) t .nilIface .nilIface:Sem Value).run P w=.ok (.bool !ne) w:=by
 have h1:∀ op,eqGuard op t x (.const .nilIface) .nilIface .nilIface=pure ():=fun op=>by cases op<;>cases x<;>rfl
 rw[h1];cases ne<;>simp[binOp,Qhl P w hu]
theorem Qhk (ne) (x:Operand) (ty pv) (hu:P.underlying t=some (.interface ms)):(do eqGuard (if ne then .neq else .eql) t x (.const .nilIface) (.iface ty pv) .nilIface;binOp (if ne then .neq else .eql) t (.iface ty pv) .nilIface:Sem Value).run P w=.ok (.bool ne) w:=by
 have h1:∀ op,eqGuard op t x (.const .nilIface) (.iface ty pv) .nilIface=pure ():=fun op=>by cases op<;>rfl
 rw[h1];cases ne<;>simp[binOp,Qhm P w ty pv hu]
end
theorem QlI {ne x} (h:Rel ok0 N w0 lk lo a w L) (hf:YOp.fits P (.isn ne x) o.op=true) (he:evY lk lo (.isn ne x)=.ok s f v up):f/\Qo P o ok0 N w0 lk lo a w v up:=by
 simp only[YOp.fits] at hf;split at hf
 ·rename_i op t x' c ho
  simp only[Qzm,beq_iff_eq] at hf;obtain ⟨⟨hop,hx⟩,ht⟩:=hf;subst hop;split at ht
  ·rename_i ms hu
   have rx:=Opd.rep h hx;have hec:a.eval (.const .nilIface)=.nilIface:=rfl;simp only[evY] at he;generalize hey:a.eval x'=xv at rx;split at he
   ·rename_i hxv
    injection he with e1 e2 e3 e4
    subst e1 e2 e3 e4;rw[hxv] at rx;cases rx with
    | iv _ _ r=>cases r with
      | lit =>
        have hr:=Qhj P w ne x' hu;refine ⟨trivial,Qo.pure h (u:=.bool !ne) ?_ ?_⟩
        ·simp only[execOp,ho,hey,hec]
         rw[Sem.run_bind,hr];rfl
        ·cases ne<;>exact ZT _
   ·rename_i hxv
    injection he with e1 e2 e3 e4
    subst e1 e2 e3 e4;rw[hxv] at rx;cases rx with
    | iv _ _ r=>cases r with
      | ifn _ hi =>
        obtain ⟨ty,pv,rfl⟩:∃ ty pv,xv=.iface ty pv:=by
         unfold QwN at hi;split at hi
         ·exact ⟨_,_,rfl⟩
         ·cases hi
        have hr:=Qhk P w ne x' ty pv hu;refine ⟨trivial,Qo.pure h (u:=.bool ne) ?_ ?_⟩
        ·simp only[execOp,ho,hey,hec]
         rw[Sem.run_bind,hr];rfl
        ·cases ne<;>exact ZT _
   ·cases he
  ·cases ht
 ·cases hf
theorem Qpd {op} (h:Rel ok0 N w0 lk lo a w L) (hf:YOp.fits P op o.op=true) (he:evY lk lo op=.ok s f v up) (hs:s):f/\Qo P o ok0 N w0 lk lo a w v up:=by
 cases op with
 | no=>cases he
 | s2b id x=>exact Qll h hf he hs
 | b2so id x=>exact Qi7 h hf he
 | ixb id x i=>exact QlG h hf he hs
 | ldb id x=>exact QlB h hf he hs
 | stb id x y=>exact Qlh h hf he hs
 | mks id e b zs n=>exact Qlq h hf he hs
 | r2s x=>exact Qlm h hf he hs
 | mx mn x y=>exact Qpe h hf he
 | rngs id x=>exact QiT h hf he
 | nxts id x=>exact QiW h hf he
 | mkm id r=>exact Qlr h hf he
 | lki kk z x k=>exact Qlv h hf he hs
 | lkd id kk z x k=>exact Qlw h hf he hs
 | lkr id kk x k=>exact Qlu h hf he hs
 | mupd id kk x k y=>exact Qi0 h hf he hs
 | mupr id kk x k y=>exact QiZ h hf he hs
 | ment id kk z x k=>exact Qi1 h hf he hs
 | ests id x t v=>exact Qi4 h hf he hs
 | bla zs ps=>exact QlU h hf he
 | ixg len x i=>exact QlF h hf he hs
 | fgt off x=>exact QlL h hf he
 | rngm id x=>exact QiU h hf he
 | ent id x=>exact QlO h hf he
 | mkf g fs cs=>exact Qls h hf he
 | neg x=>exact Qlo h hf he hs
 | eqs ne n x y=>exact QlN h hf he hs
 | lenm x=>exact Qi3 h hf he
 | lenmo id x=>exact QgA h hf he
 | ixa len sz x i=>exact QlH h hf he hs
 | sl0 sz x=>exact Qlk h hf he
 | zslv sz=>exact Qpc h hf he
 | lkc kk zs x k=>exact Qlx h hf he hs
 | isn ne x=>exact QlI h hf he
end
def Fr0 (w:World) (v0:Value) (b:Nat):Prop:=b<w.heap.size/\v0.ownBlock≠some b
structure J1 (w:World) (ok:Nat->Prop) (e:TypeId) (sz:Nat) (rows:List (List IV)) (v0:Value) (rows':List (List IV)) (v':Value) (xs':List Value) (w':World):Prop where
 keep:QL (Fr0 w v0) w w'
 own:w'.ownsRow 0 e sz v' rows'.length xs'
 blk:∀ b,v'.ownBlock=some b->v0.ownBlock=some b\/w.heap.size<=b
 size:∀ c∈rows',c.length=sz
 one:∀ u∈xs',u.oneCell'=true
 cells:∀ i j c x u,rows'[i]?=some c->c[j]?=some x->xs'[i*sz+j]?=some u->Qv (fun b=>(ok b\/v0.ownBlock=some b)/\v'.ownBlock≠some b) w' x u
 le:rows.length<=rows'.length
 same:rows'.length=rows.length->v'=v0
section
variable {P:Program} {ok0:Nat->Prop} {N:Fm} {w0:ZR} {lk:Nat->AV} {lo:Nat->Option AO} {a:Act} {w:World} {L:Nat->Lay}
theorem Jg {w:World} {base:Nat} {e:TypeId} {sz:Nat} {v:Value} {n:Nat} {xs:List Value} (h:w.ownsRow base e sz v n xs):isSl v=true:=by
 rcases h.2 with ⟨hv,_⟩ | ⟨g,cap,cur,hv,_⟩<;>rw[hv]<;>rfl
theorem Xm.lt' {Fr w e sz v n xs} (h:Xm Fr w e sz v n xs) {b} (hb:v.ownBlock=some b):b<w.heap.size:=(h.lt b hb).2
theorem Qe9 {id:Nat} {o:AO} {l':Lay} {v0 v':Value} (h:Rel ok0 N w0 lk lo a w L) (hok0:∀ b,¬ w0.fr b->ok0 b) {o0:AO} (hid:lo id=some o0) (h0:∀ b,v0.ownBlock=some b->(L id).has b/\¬ w0.fr b)
  (hl':∀ b,l'.has b->v'.ownBlock=some b\/((L id).has b/\v0.ownBlock≠some b)) {b:Nat} (hb:(okL ok0 lo L b\/v0.ownBlock=some b)/\v'.ownBlock≠some b):okL ok0 (QK lo id o) (QF L id l') b:=by
 obtain ⟨h1,h2⟩:=hb;refine ⟨?_,fun i oi hi he=>?_⟩
 ·rcases h1 with h1 | h1
  ·exact h1.1
  ·exact hok0 b (h0 b h1).2
 ·by_cases hii:i=id
  ·grind
  ·simp only[QK,hii,if_false] at hi
   simp only[QF,hii,if_false] at he;rcases h1 with h1 | h1
   ·exact h1.2 i oi hi he
   ·exact h.apart i id oi o0 b hii hi hid he (h0 b h1).1
theorem Zo {α:Type} {k:MK} {y:α}:∀ {l:List (MK × α)} {i:Nat} {q:MK × α},(mins k y l)[i]?=some q->q.1≠k->l[i]?=some q
 | [],i,q,h,hn=>by
   cases i with
   | zero=>simp[mins] at h;subst h;exact absurd rfl hn
   | succ i=>simp[mins] at h
 | p::r,i,q,h,hn=>by
   unfold mins at h;split at h
   ·grind
   ·cases i with
    | zero=>simpa using h
    | succ i=>exact Zo (l:=r) (by simpa using h) hn
theorem Z7 {α:Type} {k:MK} {y:α}:∀ {l:List (MK × α)},(∀ (i j:Nat) (p q:MK × α),l[i]?=some p->l[j]?=some q->p.1=q.1->i=j)->∀ {i:Nat} {q:MK × α},(mins k y l)[i]?=some q->q.1=k->q=(k,y)
 | [],_,i,q,h,_=>by
   cases i with
   | zero=>simp[mins] at h;exact h.symm
   | succ i=>simp[mins] at h
 | p::r,hd,i,q,h,hk=>by
   unfold mins at h;split at h
   ·rename_i hp
    cases i with
    | zero=>simp at h;exact h.symm
    | succ i =>
      have:=hd 0 (i+1) p q rfl (by simpa using h) (by rw[hp,hk])
      omega
   ·rename_i hp
    cases i with
    | zero=>simp at h;subst h;exact absurd hk hp
    | succ i=>exact Z7 (l:=r) (fun i j p q a b c=>by have:=hd (i+1) (j+1) p q (by simpa using a) (by simpa using b) c;omega) (by simpa using h) hk
theorem WS {α k} {y:α}:∀ {l:List (MK × α)} {i},i<l.length->((mins k y l)[i]?).map (·.1)=(l[i]?).map (·.1)
 | [],i,h=>by simp at h
 | p::r,i,h=>by
   unfold mins;split
   ·grind
   ·cases i with
    | zero=>simp
    | succ i=>simpa using WS (l:=r) (i:=i) (by simpa using h)
theorem WT {α k} {y:α}:∀ {l:List (MK × α)} {i} {p:MK × α},(mins k y l)[i]?=some p->l.length<=i->p.1=k
 | [],i,p,h,_=>by
   cases i with
   | zero=>simp[mins] at h;subst h;rfl
   | succ i=>simp[mins] at h
 | q::r,i,p,h,hi=>by
   unfold mins at h;split at h
   ·grind
   ·cases i with
    | zero=>simp at hi
    | succ i=>exact WT (l:=r) (by simpa using h) (by simpa using hi)
theorem WR {α k} {y:α}:∀ (l:List (MK × α)),l.length<=(mins k y l).length
 | []=>by simp[mins]
 | p::r=>by
   unfold mins;split
   ·simp
   ·have:=WR (k:=k) (y:=y) r
    simp only[Qzv];omega
theorem Qdt {id:Nat} {e:TypeId} {sz:Nat} {kvs:List (MK × List (List IV))} {pend:Option MK} {b:Nat} {vals:List (MK × Value)} (h:Rel ok0 N w0 lk lo a w L) (hid:lo id=some (.mapr e sz kvs pend)) (hL:L id=.map b vals) (k:MK) :
  ∃ xs,Xm w0.fr w e sz ((Qh k vals).getD (.slice none 0 0)) ((Qh k kvs).getD []).length xs/\((Qh k vals).getD (.slice none 0 0)).ownBlock≠some b/\(∀ c∈(Qh k kvs).getD [],c.length=sz)/\(∀ u∈xs,u.oneCell'=true) /\
   (∀ (i j:Nat) (c:List IV) (x:IV) (u:Value),((Qh k kvs).getD [])[i]?=some c->c[j]?=some x->xs[i*sz+j]?=some u->Qv (okL ok0 lo L) w x u) /\
   (∀ g,((Qh k vals).getD (.slice none 0 0)).ownBlock=some g->(L id).has g/\∀ (j:Nat) (q:MK × Value),vals[j]?=some q->q.1≠k->q.2.ownBlock≠some g):=by
 have hob:=h.objs _ _ hid;rw[hL] at hob;obtain ⟨hF,_,hdd,hkv2,hrow,hap⟩:=hob;cases hf:Qh k vals with
 | none =>
   have hkn:Qh k kvs=none:=by
    cases hk:Qh k kvs with
    | none=>rfl
    | some y =>
      obtain ⟨i,hi⟩:=Zu hk;obtain ⟨q,hq,hqk⟩:=QgW hkv2 hi;exact absurd hqk (VU hf i q hq)
   rw[hkn];exact ⟨[],⟨⟨by simp,.inl ⟨rfl,rfl⟩⟩,fun b hb=>by simp[Value.ownBlock] at hb⟩,by simp[Value.ownBlock],by simp,by simp,by simp,fun g hg=>by simp[Value.ownBlock] at hg⟩
 | some v0 =>
   obtain ⟨i,hi⟩:=Zu hf;obtain ⟨p,hp,hpk⟩:=Uj hkv2 hi;simp only at hpk;have hp':kvs[i]?=some (k,p.2):=by rw[hp,<- hpk]
   have hk:Qh k kvs=some p.2:=YO hdd hp'
   grind
theorem QfM {id:Nat} {e:TypeId} {sz:Nat} {kvs:List (MK × List (List IV))} {b:Nat} {vals:List (MK × Value)} {k:MK} {rows':List (List IV)} {v':Value} {xs':List Value} {w':World} (h:Rel ok0 N w0 lk lo a w L) (hok0:∀ b,¬ w0.fr b->ok0 b)
  (hid:lo id=some (.mapr e sz kvs none)) (hL:L id=.map b vals) (hr:J1 w (okL ok0 lo L) e sz ((Qh k kvs).getD []) ((Qh k vals).getD (.slice none 0 0)) rows' v' xs' w') :
  Rel ok0 N w0 lk (QK lo id (.mapr e sz (mins k rows' kvs) (some k))) a w' (QF L id (.map b (mins k v' vals))) /\
  ∀ ok,Qs ok w' (QK lo id (.mapr e sz (mins k rows' kvs) (some k))) (QF L id (.map b (mins k v' vals))) (.mref id k rows'.length) v':=by
 obtain ⟨xs,g1,g2,g3,g4,g5,g6⟩:=Qdt h hid hL k;have hob:=h.objs _ _ hid;rw[hL] at hob;obtain ⟨hF,⟨es,clock,hb,n,hn,hmr,hnew,hval⟩,hdd,hkv2,hrow,hap⟩:=hob;generalize hv0:(Qh k vals).getD (.slice none 0 0)=v0 at hr g1 g2 g6;generalize hrows:(Qh k kvs).getD []=rows at hr g1 g3 g5;have hblt:=(Qzs.1 hb).1;have h0:∀ b,v0.ownBlock=some b->(L id).has b/\¬ w0.fr b:=fun b hb=>⟨(g6 b hb).1,g1.free b hb⟩
 have hvd:=VL hkv2 hdd
 have mem:∀ (p:MK × Value),p∈mins k v' vals->p=(k,v')\/∃ j:Nat,vals[j]?=some p/\p.1≠k:=by
  intro p hp;obtain ⟨j,hj⟩:=QzS hp;by_cases hpk:p.1=k
  ·exact .inl (Z7 hvd hj hpk)
  ·exact .inr ⟨j,Zo hj hpk,hpk⟩
 have hl2:∀ g,(Lay.map b (mins k v' vals)).has g->v'.ownBlock=some g\/((L id).has g/\v0.ownBlock≠some g):=by
  grind
 have hl':∀ g,(Lay.map b (mins k v' vals)).has g->(L id).has g\/w.heap.size<=g:=by
  intro g hg;rcases hl2 g hg with h1 | ⟨h1,_⟩
  ·exact (hr.blk g h1).imp (fun h=>(h0 g h).1) (fun h=>h)
  ·exact .inl h1
 have hg:Qc1 (L id).has w w':=⟨hr.keep.os,hr.keep.tape,hr.keep.output,hr.keep.size,fun k hk hn=>hr.keep.block k ⟨hk,fun e=>hn (h0 k e).1⟩⟩
 have hsl':=Jg hr.own;have hf1:=ZV (k:=k) (y:=rows') kvs;have hf2:=ZV (k:=k) (y:=v') vals;have hok:∀ g,okL ok0 lo L g->g<w.heap.size->okL ok0 (QK lo id (.mapr e sz (mins k rows' kvs) (some k))) (QF L id (.map b (mins k v' vals))) g:=fun g hk hlt=>h.okL_turn hid hl' hk hlt
 have heq:∀ g,okL ok0 lo L g->g<w.heap.size->w'.heap[g]?=w.heap[g]?:=fun g hk hlt=>hg.block g hlt (hk.2 id _ hid)
 refine ⟨h.turn id hid hg hl' (fun z u hz hu=>?_) (fun _=>?_),fun ok=>?_⟩
 ·obtain ⟨b3,vals3,hL3,hu⟩:=Jd hid hz hu
  rw[hL] at hL3;injection hL3 with q1 q2
  subst q1 q2;rcases hu with ⟨rfl,rfl⟩ | ⟨k3,n3,rfl,h3,h3n,h4⟩
  ·grind
  ·by_cases hk3:k3=k
   ·subst hk3
    rw[hrows] at h3n h4;rw[hv0] at h4;have hle:=hr.le;refine .mref id k3 n3 e sz (mins k3 rows' kvs) (some k3) b (mins k3 v' vals) u (by simp[QK]) (by simp[QF]) h3 (by rw[hf1];simp only[QAd];omega) (fun hl=>?_)
    rw[hf1] at hl;rw[hf2];simp only[QAd] at hl |-;have:rows'.length=rows.length:=by omega
    rw[hr.same this];exact h4 (by omega)
   ·have e1:=YP (y:=rows') hk3 kvs
    have e2:=YP (y:=v') hk3 vals
    grind
 ·have hkl:n=kvs.length:=by
   rcases QAn n kvs.length with hlt | hge
   ·have:=hnew n _ (Qzk hlt) (Qzq _)
    cases this
   ·omega
  refine ⟨hF,⟨es,clock,(hr.keep.block b ⟨hblt,g2⟩).trans hb,n,by have:=WR (k:=k) (y:=rows') kvs;omega,⟨hmr.size,fun i e he=>?_,hmr.stamp,hmr.clk⟩,fun i p hp hi=>?_,fun i e q he hq hqk=>?_⟩,Jv hdd,Qfd hkv2,fun i p q hp hq=>?_,fun i j p q g hij hp hq hpg hqg=>?_⟩
  ·have hi:=(Qzs.1 he).1
   rw[hmr.size,hkl] at hi;rw[WS hi];exact hmr.keys i e he
  ·rw[WT hp (by omega)]
  ·have hqk':q.1≠k:=fun e=>hqk (by rw[e])
   exact hval i e q he (Zo hq hqk') (by simp)
  ·have hpq:q.1=p.1:=by
    obtain ⟨p',hp',hpq⟩:=Uj (Qfd (k:=k) (y:=rows') (y':=v') hkv2) hq;rw[hp] at hp';injection hp' with hp'
    rw[hp',hpq]
   by_cases hpk:p.1=k
   ·have e1:=Z7 hdd hp hpk
    have e2:=Z7 hvd hq (by rw[hpq,hpk])
    subst e1 e2;refine ⟨xs',⟨hr.own,fun g hg=>(hr.blk g hg).elim (fun h1=>g1.free g h1) (fun h2=>h.frlt h2)⟩,fun hbad=>?_,hr.size,hr.one,fun i j c x u h1 h2 h3=>(hr.cells i j c x u h1 h2 h3).mono fun g hg _=>⟨Qe9 (l':=.map b (mins k v' vals)) h hok0 hid h0 hl2 hg,rfl⟩⟩
    rcases hr.blk b hbad with h1 | h1
    ·exact g2 h1
    ·omega
   ·have hqk:q.1≠k:=by rw[hpq];exact hpk
    have hp':=Zo hp hpk;have hq':=Zo hq hqk;obtain ⟨ys,h1,h2,h3,h4,h5⟩:=hrow i p q hp' hq';refine ⟨ys,h1.stay fun g hg=>hr.keep.block g ⟨h1.lt' hg,fun hbad=>(g6 g hbad).2 i q hq' hqk hg⟩,h2,h3,h4,fun i j c x u a1 a2 a3=>(h5 i j c x u a1 a2 a3).mono fun g hg hlt=>⟨hok g hg hlt,heq g hg hlt⟩⟩
  ·have clash:∀ (i j:Nat) (q:MK × Value),(mins k v' vals)[j]?=some q->q.1≠k->v'.ownBlock=some g->q.2.ownBlock=some g->False:=by
    intro i j q hq hqk h1 h2;have hq':=Zo hq hqk;rcases hr.blk g h1 with h3 | h3
    ·exact (g6 g h3).2 j q hq' hqk h2
    ·obtain ⟨p',hp',_⟩:=Uj hkv2 hq'
     obtain ⟨ys,h4,_⟩:=hrow j p' q hp' hq';have:=h4.lt' h2;omega
   by_cases hpk:p.1=k
   ·have hqk:q.1≠k:=fun e=>hij (Jv hvd i j p q hp hq (by rw[hpk,e]))
    have e1:=Z7 hvd hp hpk;subst e1;exact clash i j q hq hqk hpg hqg
   ·by_cases hqk:q.1=k
    ·have e1:=Z7 hvd hq hqk
     subst e1;exact clash j i p hp hpk hqg hpg
    ·exact hap i j p q g hij (Zo hp hpk) (Zo hq hqk) hpg hqg
 grind
theorem Qi8 {id:Nat} {e:TypeId} {sz bytes:Nat} {x y:Opd} {o:Oper} {s f:Prop} {v:AV} {up:Option (Nat × AO)} (h:Rel ok0 N w0 lk lo a w L) (hok0:∀ b,¬ w0.fr b->ok0 b) (hf:Qo3 P e sz bytes x y o.op=true) {i:Nat} {k:MK} {n:Nat} (hxv:x.av lk=.mref i k n)
  (he:JY lo id e sz bytes (x.av lk) (y.av lk)=.ok s f v up) (hs:s):f/\Qo P o ok0 N w0 lk lo a w v up:=by
 obtain ⟨x',y',t,ti,z,ho,hx,hy,hu,hi,hsz,hby,hz,hzs,hpos⟩:=Qbv hf;have rx:=Opd.rep h hx;have ry:=Opd.rep h hy;rw[hxv] at rx he;generalize y.av lk=yv at ry he;generalize hex:a.eval x'=vv at rx;generalize hey:a.eval y'=yy at ry
 have run:∀ u w',(Builtin.append_ #[t,t] o.type #[vv,yy]).run P w=.ok u w'->(execOp a.eval o).run P w=.ok (.value u) w':=by
  intro u w' hr;simp[execOp,ho,resolve,invoke,builtin,hex,hey,hr]
 obtain ⟨sy,ys,rfl⟩:∃ sy ys,yv=.iv (.sl sy ys):=by
  cases yv with
  | iv q=>cases q<;>first | exact ⟨_,_,rfl⟩ | simp[JY] at he
  | _=>simp[JY] at he
 obtain ⟨b,vals,hob,hL,hvv⟩:∃ (b:Nat) (vals:List (MK × Value)),(∃ e' sz' kvs pend,lo i=some (.mapr e' sz' kvs pend)/\(((Qh k kvs).getD []).length=n->vv=(Qh k vals).getD (.slice none 0 0)))/\L i=.map b vals/\isSl vv=true:=by
  grind
 obtain ⟨e',sz',kvs,pend,hob,hvn⟩:=hob;simp only[JY] at he;split at he
 ·rename_i hii
  subst hii;rw[hob] at he;cases pend with
  | some pk=>simp at he
  | none =>
    simp only at he;split at he
    ·rename_i hees
     obtain ⟨rfl,rfl⟩:=hees;injection he with e1 e2 e3 e4
     subst e1 e2 e3 e4;obtain ⟨rfl,hlen,hmax,hbytes⟩:=hs;have hv0:=hvn hlen;subst hv0;obtain ⟨xs,g1,g2,g3,g4,g5,g6⟩:=Qdt h hob hL k;generalize hvv0:(Qh k vals).getD (.slice none 0 0)=vv at *;have hfree:∀ b,okL ok0 lo L b->vv.ownBlock≠some b:=fun b hb hbad=>hb.2 i _ hob (g6 b hbad).1
     have hyshape:((∃ a0,yy=.slice a0 0 0)/\ys=[])\/∃ (b off cap:Nat) (u:Nat->Value),yy=.slice (some ⟨b,off,none⟩) ys.length cap/\(∀ c∈ys,c.length=sy) /\
       (∀ k,k<ys.length*sy->okL ok0 lo L b/\w.cell? ⟨b,off+k,none⟩=some (u k)/\(u k).oneCell'=true) /\
       (∀ (i j:Nat) (c:List IV) (x:IV),ys[i]?=some c->c[j]?=some x->Qv (okL ok0 lo L) w x (u (i*sy+j))):=by
      cases ry with
      | iv _ _ r=>cases r with
        | sl _ _ b off cap u hl hc hes hcell hxx=>exact .inr ⟨b,off,cap,u,rfl,hes,hcell,hxx⟩
        | _=>grind
     generalize hrw:(Qh k kvs).getD []=rows at *
     have fin:∀ (v':Value) (w':World) (xs':List Value),(Builtin.append_ #[t,t] o.type #[vv,yy]).run P w=.ok v' w'->J1 w (okL ok0 lo L) e' sy rows vv (rows++ys) v' xs' w' ->
       True/\Qo P o ok0 N w0 lk lo a w (.mref i k (n+ys.length)) (some (i,.mapr e' sy (mins k (rows++ys) kvs) (some k))):=by
      intro v' w' xs' hr hb;obtain ⟨r1,r2⟩:=QfM (k:=k) (rows':=rows++ys) (v':=v') (xs':=xs') h hok0 hob hL (by rw[hrw,hvv0];exact hb)
      have e1:n+ys.length=(rows++ys).length:=by rw[Qzp,hlen]
      rw[e1];exact ⟨trivial,_,v',w',_,run _ _ hr,.inl rfl,r1,r2 _⟩
     have hown:=g1.own;by_cases hm:ys.length=0
     ·have hnil:ys=[]:=Qzy hm
      subst hnil
      have hvshape:∃ base cap,vv=.slice base rows.length cap/\rows.length<=cap:=by
       rcases hown.2 with ⟨hv',h00⟩ | ⟨g,cap,cur,hv',hB,hgg,hnc,hcm,hcs',htake⟩
       all_goals grind
      obtain ⟨base,cap,hvb,hbc⟩:=hvshape
      have hr:=XK (P:=P) (w:=w) (ty:=o.type) hu hi base rows.length cap hbc yy (by
       rcases hyshape with ⟨⟨a0,h1⟩,_⟩ | ⟨b,off,c,u,h1,_⟩
       ·cases a0 with
        | none=>exact .inl h1
        | some a0=>exact .inr ⟨_,_,h1⟩
       ·exact .inr ⟨_,_,h1⟩)
      rw[<- hvb] at hr;refine fin vv w xs hr ⟨QL.refl _ _,by simpa using hown,fun b hb=>.inl hb,by simpa using g3,g4,fun i j c x u h1 h2 h3=>?_,by simp,fun _=>rfl⟩
      rw[QAx] at h1;exact (g5 i j c x u h1 h2 h3).mono fun b hb _=>⟨⟨.inl hb,hfree b hb⟩,rfl⟩
     ·rcases hyshape with ⟨_,h0⟩ | ⟨b,off,c,u,hyy,hyl,hyc,hyx⟩
      ·exact absurd (by rw[h0];rfl) hm
      ·let news:=(List.range (ys.length*sy)).map u
       have hnl:news.length=ys.length*ti.size:=by simp[news,hsz]
       have hnews:∀ j u',news[j]?=some u'->w.cell? ((⟨b,off,none⟩:Addr).add j)=some u':=by
        intro j u' hj;simp only[news,Qzu,Qzo] at hj;obtain ⟨k',hk',rfl⟩:=hj;obtain ⟨h3,h4⟩:=Qzl.1 hk';simp at h3 h4;subst h4;rw[QM];exact (hyc j h3).2.1
       have hn1:∀ u'∈news,u'.oneCell'=true:=by
        grind
       have hnx:∀ (i j:Nat) (c:List IV) (x:IV) (u':Value),ys[i]?=some c->c[j]?=some x->news[i*sy+j]?=some u'->Qv (okL ok0 lo L) w x u':=by
        grind
       have hml:rows.length+ys.length<=9223372036854775807:=by simp only[maxLen] at hmax;omega
       have hxl:xs.length=rows.length*sy:=hown.1;have hall:∀ c∈rows++ys,c.length=sy:=fun c hc=>(QzD.1 hc).elim (g3 c) (hyl c)
       have hone:∀ u∈xs++news,u.oneCell'=true:=fun c hc=>(QzD.1 hc).elim (g4 c) (hn1 c)
       have hcells:∀ (i j:Nat) (c:List IV) (x:IV) (u:Value),(rows++ys)[i]?=some c->c[j]?=some x->(xs++news)[i*sy+j]?=some u->Qv (okL ok0 lo L) w x u:=by
        intro i j c x u' h1 h2 h3;have hcl:c.length=sy:=hall c (QzB h1);have hj:j<sy:=by rw[<- hcl];exact (Qzl.1 h2).1
        rcases QAn i rows.length with hlt | hge
        ·rw[QzA hlt] at h1
         have:(i+1)*sy<=rows.length*sy:=QzN sy hlt
         grind
        ·rw[Qzz hge] at h1
         have:rows.length*sy<=i*sy:=QzN sy hge;rw[Qzz (by omega),hxl,show i*sy+j-rows.length*sy=(i-rows.length)*sy+j by rw[Nat.sub_mul];omega] at h3
         exact hnx _ _ c x u' h1 h2 h3
       have fin2:∀ (v':Value) (w':World),(Builtin.append_ #[t,t] o.type #[vv,yy]).run P w=.ok v' w'->QL (Fr0 w vv) w w'->w'.ownsRow 0 e' sy v' (rows.length+ys.length) (xs++news) ->
         (∀ b,v'.ownBlock=some b->vv.ownBlock=some b\/w.heap.size<=b) ->
         True/\Qo P o ok0 N w0 lk lo a w (.mref i k (n+ys.length)) (some (i,.mapr e' sy (mins k (rows++ys) kvs) (some k))):=by
        intro v' w' hr hk ho hbl;refine fin v' w' (xs++news) hr ⟨hk,by rw[Qzp];exact ho,hbl,hall,hone,fun i j c x u' h1 h2 h3=>?_,by simp,fun h=>absurd h (by rw[Qzp];omega)⟩
        refine (hcells i j c x u' h1 h2 h3).mono fun b hb hlt=>⟨⟨.inl hb,fun hbad=>?_⟩,hk.block b ⟨hlt,hfree b hb⟩⟩
        grind
       have fresh:∀ (cap':Nat) (cells:List Value),rows.length+ys.length<=cap'->cap'<=maxLen->cells.length=cap'*sy->cells.take ((rows.length+ys.length)*sy)=xs++news ->
         (Builtin.append_ #[t,t] o.type #[vv,yy]).run P w=.ok (.slice (some ⟨w.heap.size,0,none⟩) (rows.length+ys.length) cap') (w.drew.alloc (.cells cells.toArray e')) ->
         True/\Qo P o ok0 N w0 lk lo a w (.mref i k (n+ys.length)) (some (i,.mapr e' sy (mins k (rows++ys) kvs) (some k))):=by
        intro cap' cells h1 h2 h3 h4 hr;refine fin2 _ _ hr ⟨rfl,rfl,rfl,by simp,fun k hk=>Ev.alloc_old w.drew _ _ hk.1⟩ ⟨?_,.inr ⟨w.heap.size,cap',cells.toArray,rfl,QAu _,heap_alloc_new w.drew _,h1,h2,by simpa using h3,by simpa using h4⟩⟩ (fun b hb=>?_)
        ·rw[Qzp,hxl,hnl,hsz,QzO]
        ·simp only[Value.ownBlock,Option.some.injEq] at hb
         exact .inr (by omega)
       have hlen':rows.length=n:=hlen;rcases hown.2 with ⟨hv',h00⟩ | ⟨g,cap,cur,hv',hB,hgg,hnc,hcm,hcs',htake⟩
       ·have hxs0:xs=[]:=Qzy (by rw[hxl,h00];simp)
        have hr:=run_append_nil (P:=P) w t o.type e' ti z hu hi hz ⟨b,off,none⟩ ys.length c news hnl hnews (by omega) (by omega) (by rw[hby];rw[<- hlen',h00,Qzx] at hbytes;omega)
        have hge:=grownCap_ge w ys.length 0 e';have hle:=grownCap_le_maxLen w ys.length 0 e' (by omega)
        have hzl:(Builtin.zeroCells z.cells (grownCap w ys.length 0 e'-ys.length)).toList.length=(grownCap w ys.length 0 e'-ys.length)*sy:=by
         rw[QAy,size_zeroCells,hzs]
        refine fresh (grownCap w ys.length 0 e') (news++(Builtin.zeroCells z.cells (grownCap w ys.length 0 e'-ys.length)).toList) (by omega) hle ?_ ?_ ?_
        ·rw[Qzp,hnl,hzl,hsz,<- QzO]
         congr 1
         omega
        ·grind
        ·rw[h00,Qzx,hv',hyy,hr]
         congr 3
         apply Array.ext';simp
       ·have hob':vv.ownBlock=some g:=by rw[hv'];rfl
        by_cases hroom:rows.length+ys.length<=cap
        ·have hfit:rows.length*ti.size+news.length<=cur.size:=by rw[hnl,hcs',hsz,<- QzO];exact QzN _ hroom
         have hr:=run_append_room (P:=P) w t o.type e' ti hu hi g rows.length cap cur hgg ⟨b,off,none⟩ ys.length c news hnl hnews hn1 hroom hfit;rw[hsz] at hr hfit;have hset:=setRow_heap w g cur (cur.toList.take (rows.length*sy)++news++cur.toList.drop (rows.length*sy+news.length)).toArray e' (0,0) hgg;have hlen:=XA cur.toList news (rows.length*sy) (by simpa using hfit)
         have hgb:=ZF w g (cur.toList.take (rows.length*sy)++news++cur.toList.drop (rows.length*sy+news.length)).toArray;refine fin2 _ _ (by rw[hv',hyy];exact hr) ⟨hgb.os,hgb.tape,hgb.output,hgb.size,fun k hk=>hgb.block k hk.1 (fun e=>hk.2 (by rw[hob'];exact e.symm))⟩ ⟨?_,.inr ⟨g,cap,_,rfl,hB,hset,hroom,hcm,?_,?_⟩⟩ (fun b hb=>.inl (by rw[hob'];exact hb))
         ·rw[Qzp,hxl,hnl,hsz,QzO]
         ·simp only[QAk,hlen,QAy];exact hcs'
         ·simp only[]
          rw[htake];have:(rows.length+ys.length)*sy=(xs++news).length:=by rw[Qzp,hxl,hnl,hsz,QzO]
          rw[this];exact List.take_left
        ·have holds:∀ j u,xs[j]?=some u->w.cell? ((⟨g,0,none⟩:Addr).add j)=some u:=hown.cells (g:=g) hob'
         have hr:=run_append_grow (P:=P) w t o.type e' ti z hu hi hz ⟨g,0,none⟩ rows.length cap xs (by rw[hxl,hsz]) holds ⟨b,off,none⟩ ys.length c news hnl hnews (by omega) (by omega)
          (growslice_fits (by omega) (by rw[hby,hlen'];exact hbytes))
         have hge:=grownCap_ge w (rows.length+ys.length) cap e';have hle:=grownCap_le_maxLen w (rows.length+ys.length) cap e' (by omega)
         have hzl:(Builtin.zeroCells z.cells (grownCap w (rows.length+ys.length) cap e'-(rows.length+ys.length))).toList.length=(grownCap w (rows.length+ys.length) cap e'-(rows.length+ys.length))*sy:=by
          rw[QAy,size_zeroCells,hzs]
         have htot:(xs++news).length=(rows.length+ys.length)*sy:=by rw[Qzp,hxl,hnl,hsz,QzO]
         refine fresh (grownCap w (rows.length+ys.length) cap e') (xs++news++(Builtin.zeroCells z.cells (grownCap w (rows.length+ys.length) cap e'-(rows.length+ys.length))).toList) hge hle ?_ ?_ ?_
         ·rw[Qzp,htot,hzl,<- QzO]
          congr 1
          omega
         ·rw[<- htot]
          exact List.take_left
         ·rw[hv',hyy,hr]
          congr 3
          apply Array.ext';simp
    ·cases he
 ·cases he
theorem QlY {id e sz bytes x y o s f v up} (h:Rel ok0 N w0 lk lo a w L) (hok0:∀ b,¬ w0.fr b->ok0 b) (hf:Qo3 P e sz bytes x y o.op=true)
  (he:JY lo id e sz bytes (x.av lk) (y.av lk)=.ok s f v up) (hs:s):f/\Qo P o ok0 N w0 lk lo a w v up:=by
 by_cases hm:∃ i k n,x.av lk=.mref i k n
 ·obtain ⟨i,k,n,hm⟩:=hm
  exact Qi8 h hok0 hf hm he hs
 ·exact Qi9 h hok0 hf (fun i k n hh=>hm ⟨i,k,n,hh⟩) he hs
end
section
variable {P:Program} {ok0:Nat->Prop} {N:Fm} {w0:ZR} {lk:Nat->AV} {lo:Nat->Option AO} {a:Act} {w:World} {L:Nat->Lay} {o:Oper}
variable {s f:Prop} {v:AV} {up:Option (Nat × AO)}
theorem Qe8 {op} (h:Rel ok0 N w0 lk lo a w L) (hok0:∀ b,¬ w0.fr b->ok0 b) (hf:op.fits P o.op=true)
  (he:ev lk lo op=.ok s f v up) (hs:s):f/\Qo P o ok0 N w0 lk lo a w v up:=by
 cases op with
 | mov x =>
   simp only[ev] at he;injection he with e1 e2 e3 e4
   subst e2 e3 e4;exact ⟨trivial,Qlp h hf⟩
 | nilo id e sz =>
   simp only[ev] at he;split at he
   ·rename_i hid
    injection he with e1 e2 e3 e4
    subst e2 e3 e4;exact ⟨trivial,QiX h hid hf⟩
   ·cases he
 | pick c x y=>exact QiV h hf he
 | ext x i=>exact QlM h hf he
 | not x=>exact Qln h hf he
 | bin op x y=>exact QlV h hf he hs
 | beq n x y=>exact QlW h hf he
 | cvi k x=>exact QlQ h hf he
 | cvs x=>exact QlP h hf he
 | b2s x=>exact QlX h hf he hs
 | i2s x=>exact QlJ h hf he hs
 | nilc x=>exact QiY h hf he
 | fld off x=>exact QlK h hf he hs
 | ldi n ag x=>exact QlA h hf he hs
 | ldo id n ag x=>exact Qlz h hf he hs
 | sto id n x y=>exact Qlg h hf he hs
 | ixi sz x i=>exact QlE h hf he hs
 | ixo id sz x i=>exact QlD h hf he hs
 | ixs x i=>exact QlC h hf he hs
 | sli sz x l h'=>exact Qlj h hf he hs
 | sls x l h'=>exact Qli h hf he hs
 | boxi x=>exact Qi6 h hok0 hf he
 | boxo id x=>exact Qi5 h hf he
 | alo id zs =>
   simp only[ev] at he;split at he
   ·rename_i hid
    injection he with e1 e2 e3 e4
    subst e2 e3 e4;exact ⟨trivial,QlZ h hid hf⟩
   ·cases he
 | bld zs parts =>
   simp only[ev] at he;split at he
   ·rename_i cs hcs
    injection he with e1 e2 e3 e4
    subst e2 e3 e4;exact ⟨trivial,QlT h hf hcs⟩
   ·cases he
 | bsl sz parts =>
   simp only[ev] at he;split at he
   ·rename_i rows hr
    split at he
    ·rename_i es hes
     injection he with e1 e2 e3 e4
     subst e2 e3 e4;exact ⟨trivial,QlS h hok0 hf hr hes⟩
    ·cases he
   ·cases he
 | bso id e sz parts =>
   simp only[ev] at he;split at he
   ·rename_i rows hid hr
    injection he with e1 e2 e3 e4
    subst e2 e3 e4;exact ⟨trivial,QlR h hid hf hr⟩
   ·cases he
 | len x=>exact Qly h hf he
 | leno id x=>exact Qi2 h hf he hs
 | lst x=>exact Qlt h hf he
 | app id e sz bytes x y=>exact QlY h hok0 hf he hs
 | call g args ids=>cases he
 | callo g args ids id=>cases he
 | calld x args ids=>cases he
 | callr g x args id=>cases he
 | callb x args id=>cases he
 | callx g args id=>cases he
 | callh g args ids=>cases he
 | cpy id x y=>cases he
 | caldh x args ids=>cases he
 | yy op=>exact Qpd h hf he hs
end
def Opd.tmps:Opd->List Nat
 | .t n=>[n]
 | _=>[]
def QuI:Option Opd->List Nat
 | some x=>x.tmps
 | none=>[]
def YOp.tmps:YOp->List Nat
 | .no | .mkm _ _ | .zslv _=>[]
 | .s2b _ x | .b2so _ x | .ldb _ x | .r2s x | .rngs _ x | .nxts _ x | .rngm _ x | .ent _ x=>x.tmps
 | .ixb _ x y | .stb _ x y | .mx _ x y | .lkr _ _ x y | .ixg _ x y=>x.tmps++y.tmps
 | .mks _ _ _ zs n=>zs.flatMap (·.tmps)++n.tmps
 | .lki _ z x k | .lkd _ _ z x k | .ment _ _ z x k=>z.tmps++x.tmps++k.tmps
 | .mupd _ _ x k v | .mupr _ _ x k v | .ests _ x k v=>x.tmps++k.tmps++v.tmps
 | .bla _ parts=>parts.flatMap (·.tmps)
 | .mkf _ fs cs=>fs.flatMap (·.tmps)++cs.flatMap (·.tmps)
 | .neg x | .lenm x | .lenmo _ x=>x.tmps
 | .eqs _ _ x y | .ixa _ _ x y=>x.tmps++y.tmps
 | .sl0 _ x | .isn _ x | .fgt _ x=>x.tmps
 | .lkc _ zs x k=>zs.flatMap (·.tmps)++x.tmps++k.tmps
def YOp.objs:YOp->List Nat
 | .s2b id _ | .b2so id _ | .ixb id _ _ | .ldb id _ | .stb id _ _ | .mks id _ _ _ _ | .rngs id _ | .nxts id _ | .mkm id _ | .lkd id _ _ _ _ | .lkr id _ _ _ | .mupd id _ _ _ _ | .ment id _ _ _ _ | .ests id _ _ _ | .mupr id _ _ _ _ | .rngm id _ | .ent id _ | .lenmo id _=>[id]
 | _=>[]
def YOp.sets:YOp->List Nat
 | .s2b id _ | .stb id _ _ | .mks id _ _ _ _ | .rngs id _ | .nxts id _ | .mkm id _ | .mupd id _ _ _ _ | .ment id _ _ _ _ | .ests id _ _ _ | .mupr id _ _ _ _ | .rngm id _=>[id]
 | _=>[]
def AOp.tmps:AOp->List Nat
 | .mov x | .ext x _ | .not x | .cvi _ x | .cvs x | .b2s x | .i2s x | .nilc x | .fld _ x | .ldi _ _ x | .ldo _ _ _ x | .boxi x | .boxo _ x | .len x | .leno _ x | .lst x=>x.tmps
 | .nilo _ _ _=>[]
 | .pick c x y=>c.tmps++x.tmps++y.tmps
 | .bin _ x y | .beq _ x y | .sto _ _ x y | .ixi _ x y | .ixo _ _ x y | .ixs x y | .app _ _ _ _ x y | .cpy _ x y=>x.tmps++y.tmps
 | .sli _ x l h | .sls x l h=>x.tmps++QuI l++QuI h
 | .alo _ zs=>zs.flatMap (·.tmps)
 | .bld zs parts=>zs.flatMap (·.tmps)++parts.flatMap (·.2.2.tmps)
 | .bsl _ parts | .bso _ _ _ parts | .call _ parts _ | .callo _ parts _ _ | .callx _ parts _ | .callh _ parts _=>parts.flatMap (·.tmps)
 | .caldh x parts _=>x.tmps++parts.flatMap (·.tmps)
 | .calld x parts _ | .callr _ x parts _ | .callb x parts _=>x.tmps++parts.flatMap (·.tmps)
 | .yy op=>op.tmps
def AOp.objs:AOp->List Nat
 | .nilo id _ _ | .ldo id _ _ _ | .sto id _ _ _ | .ixo id _ _ _ | .boxo id _ | .alo id _ | .bso id _ _ _ | .leno id _ | .app id _ _ _ _ _=>[id]
 | .call _ _ ids=>ids
 | .callo _ _ ids id=>id::ids
 | .calld _ _ ids=>ids
 | .callr _ _ _ id=>[id]
 | .callb _ _ id=>[id]
 | .callx _ _ id=>[id]
 | .callh _ _ ids=>ids
 | .cpy id _ _=>[id]
 | .caldh _ _ ids=>ids
 | .yy op=>op.objs
 | _=>[]
def AOp.sets:AOp->List Nat
 | .nilo id _ _ | .sto id _ _ _ | .boxo id _ | .alo id _ | .bso id _ _ _ | .app id _ _ _ _ _ | .callo _ _ _ id | .callr _ _ _ id | .callb _ _ id | .callx _ _ id | .cpy id _ _=>[id]
 | .yy op=>op.sets
 | _=>[]
theorem Opd.av_congr {lk lk':Nat->AV} {x:Opd} (h:∀ t∈x.tmps,lk' t=lk t):x.av lk'=x.av lk:=by
 cases x<;>first | rfl | exact h _ (by simp[Opd.tmps])
theorem Qcd {lk lk':Nat->AV} {d:Nat} {x:Option Opd} (h:∀ t∈QuI x,lk' t=lk t):XL lk' d x=XL lk d x:=by
 cases x with
 | none=>rfl
 | some x=>simp only[XL,Opd.av_congr (x:=x) h]
theorem QA {lk lk':Nat->AV}:∀ {xs:List Opd},(∀ t∈xs.flatMap (·.tmps),lk' t=lk t)->xs.map (·.av lk')=xs.map (·.av lk)
 | [],_=>rfl
 | x::r,h=>by
   simp only[Qz4,QzD] at h;simp only[QzH,Opd.av_congr (x:=x) (fun t ht=>h t (.inl ht)),QA (xs:=r) (fun t ht=>h t (.inr ht))]
theorem WK {lk lk':Nat->AV}:∀ {xs:List (Nat × Nat × Opd)},(∀ t∈xs.flatMap (·.2.2.tmps),lk' t=lk t) ->
  (xs.map fun (o,s,x)=>(o,s,x.av lk'))=xs.map fun (o,s,x)=>(o,s,x.av lk)
 | [],_=>rfl
 | (o,s,x)::r,h=>by
   simp only[Qz4,QzD] at h;simp only[QzH,Opd.av_congr (x:=x) (fun t ht=>h t (.inl ht)),WK (xs:=r) (fun t ht=>h t (.inr ht))]
theorem QiC {lk lk':Nat->AV} {lo lo':Nat->Option AO} {op:YOp} (h:∀ t∈op.tmps,lk' t=lk t) (h':∀ i∈op.objs,lo' i=lo i):evY lk' lo' op=evY lk lo op:=by
 have one:∀ x:Opd,(∀ t∈x.tmps,t∈op.tmps)->x.av lk'=x.av lk:=fun x hx=>Opd.av_congr fun t ht=>h t (hx t ht)
 have lst:∀ xs:List Opd,(∀ t∈xs.flatMap (·.tmps),t∈op.tmps)->xs.map (·.av lk')=xs.map (·.av lk):=fun xs hx=>QA fun t ht=>h t (hx t ht)
 have obj:∀ i∈op.objs,lo' i=lo i:=h'
 cases op with
 | no=>rfl
 | s2b id x=>simp only[evY,one x (by simp[YOp.tmps]),obj id (by simp[YOp.objs])]
 | b2so id x=>simp only[evY,one x (by simp[YOp.tmps]),obj id (by simp[YOp.objs])]
 | ldb id x=>simp only[evY,one x (by simp[YOp.tmps]),obj id (by simp[YOp.objs])]
 | r2s x=>simp only[evY,one x (by simp[YOp.tmps])]
 | rngs id x=>simp only[evY,one x (by simp[YOp.tmps]),obj id (by simp[YOp.objs])]
 | nxts id x=>simp only[evY,one x (by simp[YOp.tmps]),obj id (by simp[YOp.objs])]
 | rngm id x=>simp only[evY,one x (by simp[YOp.tmps]),obj id (by simp[YOp.objs])]
 | ent id x=>simp only[evY,one x (by simp[YOp.tmps]),obj id (by simp[YOp.objs])]
 | ixb id x y=>simp only[evY,one x (by simp +contextual [YOp.tmps]),one y (by simp +contextual [YOp.tmps]),obj id (by simp[YOp.objs])]
 | stb id x y=>simp only[evY,one x (by simp +contextual [YOp.tmps]),one y (by simp +contextual [YOp.tmps]),obj id (by simp[YOp.objs])]
 | mx mn x y=>simp only[evY,one x (by simp +contextual [YOp.tmps]),one y (by simp +contextual [YOp.tmps])]
 | fgt off x=>simp only[evY,one x (by simp[YOp.tmps])]
 | ixg len x y=>simp only[evY,one x (by simp +contextual [YOp.tmps]),one y (by simp +contextual [YOp.tmps])]
 | lkr id kk x y=>simp only[evY,one x (by simp +contextual [YOp.tmps]),one y (by simp +contextual [YOp.tmps]),obj id (by simp[YOp.objs])]
 | mks id e b zs n=>simp only[evY,lst zs (by simp +contextual [YOp.tmps]),one n (by simp +contextual [YOp.tmps]),obj id (by simp[YOp.objs])]
 | mkm id r=>simp only[evY,obj id (by simp[YOp.objs])]
 | lki kk z x k=>simp only[evY,one z (by simp +contextual [YOp.tmps]),one x (by simp +contextual [YOp.tmps]),one k (by simp +contextual [YOp.tmps])]
 | lkd id kk z x k=>simp only[evY,one z (by simp +contextual [YOp.tmps]),one x (by simp +contextual [YOp.tmps]),one k (by simp +contextual [YOp.tmps]),obj id (by simp[YOp.objs])]
 | mupd id kk x k v=>simp only[evY,one v (by simp +contextual [YOp.tmps]),one x (by simp +contextual [YOp.tmps]),one k (by simp +contextual [YOp.tmps]),obj id (by simp[YOp.objs])]
 | ment id kk z x k=>simp only[evY,one z (by simp +contextual [YOp.tmps]),one x (by simp +contextual [YOp.tmps]),one k (by simp +contextual [YOp.tmps]),obj id (by simp[YOp.objs])]
 | ests id x k v=>simp only[evY,one x (by simp +contextual [YOp.tmps]),one k (by simp +contextual [YOp.tmps]),one v (by simp +contextual [YOp.tmps]),obj id (by simp[YOp.objs])]
 | mupr id kk x k v=>simp only[evY,one v (by simp +contextual [YOp.tmps]),one x (by simp +contextual [YOp.tmps]),one k (by simp +contextual [YOp.tmps]),obj id (by simp[YOp.objs])]
 | bla zs parts=>simp only[evY,lst parts (by simp[YOp.tmps])]
 | neg x=>simp only[evY,one x (by simp[YOp.tmps])]
 | lenm x=>simp only[evY,one x (by simp[YOp.tmps])]
 | lenmo id x=>simp only[evY,one x (by simp[YOp.tmps]),obj id (by simp[YOp.objs])]
 | eqs n m x y=>simp only[evY,one x (by simp +contextual [YOp.tmps]),one y (by simp +contextual [YOp.tmps])]
 | ixa len sz x y=>simp only[evY,one x (by simp +contextual [YOp.tmps]),one y (by simp +contextual [YOp.tmps])]
 | sl0 sz x=>simp only[evY,one x (by simp[YOp.tmps])]
 | zslv sz=>rfl
 | isn ne x=>simp only[evY,one x (by simp[YOp.tmps])]
 | lkc kk zs x y=>simp only[evY,lst zs (by simp +contextual [YOp.tmps]),one x (by simp +contextual [YOp.tmps]),one y (by simp +contextual [YOp.tmps])]
 | mkf g fs cs=>simp only[evY,lst fs (by simp +contextual [YOp.tmps]),lst cs (by simp +contextual [YOp.tmps])]
theorem Qla {lk lk':Nat->AV} {lo lo':Nat->Option AO} {op:AOp} (h:∀ t∈op.tmps,lk' t=lk t) (h':∀ i∈op.objs,lo' i=lo i):ev lk' lo' op=ev lk lo op:=by
 have one:∀ x:Opd,(∀ t∈x.tmps,t∈op.tmps)->x.av lk'=x.av lk:=fun x hx=>Opd.av_congr fun t ht=>h t (hx t ht)
 have opt:∀ d x,(∀ t∈QuI x,t∈op.tmps)->XL lk' d x=XL lk d x:=fun d x hx=>Qcd fun t ht=>h t (hx t ht)
 have lst:∀ xs:List Opd,(∀ t∈xs.flatMap (·.tmps),t∈op.tmps)->xs.map (·.av lk')=xs.map (·.av lk):=fun xs hx=>QA fun t ht=>h t (hx t ht)
 have obj:∀ i∈op.objs,lo' i=lo i:=h'
 cases op with
 | mov x=>simp only[ev,one x (by simp[AOp.tmps])]
 | nilo id e sz=>simp only[ev,obj id (by simp[AOp.objs])]
 | pick c x y=>simp only[ev,one c (by simp +contextual [AOp.tmps]),one x (by simp +contextual [AOp.tmps]),one y (by simp +contextual [AOp.tmps])]
 | ext x i=>simp only[ev,one x (by simp[AOp.tmps])]
 | not x=>simp only[ev,one x (by simp[AOp.tmps])]
 | bin o x y=>simp only[ev,one x (by simp +contextual [AOp.tmps]),one y (by simp +contextual [AOp.tmps])]
 | beq n x y=>simp only[ev,one x (by simp +contextual [AOp.tmps]),one y (by simp +contextual [AOp.tmps])]
 | cvi k x=>simp only[ev,one x (by simp[AOp.tmps])]
 | cvs x=>simp only[ev,one x (by simp[AOp.tmps])]
 | b2s x=>simp only[ev,one x (by simp[AOp.tmps])]
 | i2s x=>simp only[ev,one x (by simp[AOp.tmps])]
 | nilc x=>simp only[ev,one x (by simp[AOp.tmps])]
 | fld o x=>simp only[ev,one x (by simp[AOp.tmps])]
 | ldi n ag x=>simp only[ev,one x (by simp[AOp.tmps])]
 | ldo id n ag x=>simp only[ev,one x (by simp[AOp.tmps]),Qgv,obj id (by simp[AOp.objs])]
 | sto id n x y=>simp only[ev,one x (by simp +contextual [AOp.tmps]),one y (by simp +contextual [AOp.tmps]),Qgs,obj id (by simp[AOp.objs])]
 | ixi sz x i=>simp only[ev,one x (by simp +contextual [AOp.tmps]),one i (by simp +contextual [AOp.tmps])]
 | ixo id sz x i=>simp only[ev,one x (by simp +contextual [AOp.tmps]),one i (by simp +contextual [AOp.tmps]),Qgw,obj id (by simp[AOp.objs])]
 | ixs x i=>simp only[ev,one x (by simp +contextual [AOp.tmps]),one i (by simp +contextual [AOp.tmps])]
 | sli sz x l r=>simp only[ev,one x (by simp +contextual [AOp.tmps]),Qgu,fun d=>opt d l (by simp +contextual [AOp.tmps]),fun d=>opt d r (by simp +contextual [AOp.tmps])]
 | sls x l r=>simp only[ev,one x (by simp +contextual [AOp.tmps]),Qgt,fun d=>opt d l (by simp +contextual [AOp.tmps]),fun d=>opt d r (by simp +contextual [AOp.tmps])]
 | boxi x=>simp only[ev,one x (by simp[AOp.tmps])]
 | boxo id x=>simp only[ev,one x (by simp[AOp.tmps]),Qak,obj id (by simp[AOp.objs])]
 | alo id zs=>simp only[ev,lst zs (by simp[AOp.tmps]),obj id (by simp[AOp.objs])]
 | bld zs parts =>
   have hp:=WK (lk:=lk) (lk':=lk') (xs:=parts) fun t ht=>h t (by simp only[AOp.tmps,QzD];exact .inr ht)
   simp only[ev,lst zs (by simp +contextual [AOp.tmps]),hp]
 | bsl sz parts=>simp only[ev,lst parts (by simp[AOp.tmps])]
 | bso id e sz parts=>simp only[ev,lst parts (by simp[AOp.tmps]),obj id (by simp[AOp.objs])]
 | len x=>simp only[ev,one x (by simp[AOp.tmps])]
 | leno id x=>simp only[ev,one x (by simp[AOp.tmps]),Qaj,obj id (by simp[AOp.objs])]
 | lst x=>simp only[ev,one x (by simp[AOp.tmps])]
 | app id e sz bytes x y=>simp only[ev,one x (by simp +contextual [AOp.tmps]),one y (by simp +contextual [AOp.tmps]),JY,obj id (by simp[AOp.objs])]
 | call f args ids=>simp only[ev]
 | callo f args ids id=>simp only[ev]
 | calld x args ids=>simp only[ev]
 | callr f x args id=>simp only[ev]
 | callb x args id=>simp only[ev]
 | callx f args id=>simp only[ev]
 | callh f args ids=>simp only[ev]
 | cpy id x y=>simp only[ev]
 | caldh x args ids=>simp only[ev]
 | yy op=>simp only[ev,QiC (op:=op) (fun t ht=>h t (by simpa[AOp.tmps] using ht)) (fun i hi=>h' i (by simpa[AOp.objs] using hi))]
def Good (P:Program) (K:World->Prop) (f:FuncId) (args:List IV) (r:IV):Prop :=
 ∀ (w:World) (ok:Nat->Prop) (vs:List Value),K w->(∀ b,w.heap.size<=b->ok b)->vs.length=args.length ->
  (∀ (k:Nat) (x:IV) (u:Value),args[k]?=some x->vs[k]?=some u->Qv ok w x u) ->
  Calls P f vs.toArray w (fun e w'=>∃ v,e=.returned v/\Qv ok w' r v/\Below w.heap.size w w')
mutual
def ren (j:Nat):AV->AV
 | .iv x=>.iv x
 | .agg cs=>.agg (renL j cs)
 | .loc _ off=>.loc j off
 | .eloc _ n i off=>.eloc j n i off
 | .aref _ n=>.aref j n
 | .mref _ k n=>.mref j k n
 | .nilr sz=>.nilr sz
 | .zsl sz=>.zsl sz
 | .oref _=>.oref j
 | .belem _ i=>.belem j i
 | .clo _ _ _=>.iv .any
 | .cb _=>.iv .any
 | .tup _=>.iv .any
def renL (j:Nat):List AV->List AV
 | []=>[]
 | x::r=>ren j x::renL j r
end
def one (ob:AO):Nat->Option AO:=fun i=>if i=0 then some ob else none
def XX (e:TypeId) (sz:Nat) (rows:List (List IV)) (mv:Nat):AO:=.arr e sz (rows.map (List.map AV.iv)) mv
def QcY (P:Program) (K:World->Prop) (f:FuncId) (args:List IV) (q:AV) (e:TypeId) (sz:Nat) (rows:List (List IV)) (mv:Nat):Prop :=
 ∀ (w:World) (ok:Nat->Prop) (vs:List Value),K w->(∀ b,w.heap.size<=b->ok b)->vs.length=args.length ->
  (∀ (k:Nat) (x:IV) (u:Value),args[k]?=some x->vs[k]?=some u->Qv ok w x u) ->
  Calls P f vs.toArray w (fun x w'=>∃ v l,x=.returned v/\Qt (fun b=>b<w.heap.size) (okL ok (one (XX e sz rows mv)) (fun _=>l)) w' (one (XX e sz rows mv)) (fun _=>l) (XX e sz rows mv) l /\
   Qs (okL ok (one (XX e sz rows mv)) (fun _=>l)) w' (one (XX e sz rows mv)) (fun _=>l) (ren 0 q) v/\Below w.heap.size w w')
mutual
theorem Qhr {ok ok' w lo lo' L L' i j ob} (hok:∀ b,ok b->ok' b) (h1:lo i=some ob) (h2:lo' j=some ob) (h3:L' j=L i) :
  ∀ {x v},Qs ok w lo L (ren i x) v->Qs ok' w lo' L' (ren j x) v
 | .iv x,v,h=>by
   cases h with
   | iv _ _ r=>exact .iv _ _ (r.mono fun b hb _=>⟨hok b hb,rfl⟩)
 | .agg cs,v,h=>by
   simp only[ren] at h |-;cases h with
   | agg _ vs hl hc hx =>
     obtain ⟨h4,h5⟩:=renL_rep hok h1 h2 h3 (cs:=cs) hl hx;exact .agg _ vs h4 hc h5
 | .loc id off,v,h=>by
   simp only[ren] at h |-
   grind
 | .aref id n,v,h=>by
   simp only[ren] at h |-
   grind
 | .eloc id n k off,v,h=>by
   simp only[ren] at h |-
   grind
 | .nilr sz,v,h=>by
   simp only[ren] at h |-;cases h with
   | nilr=>exact .nilr sz
 | .zsl sz,v,h=>by
   simp only[ren] at h |-;cases h with
   | zsl _ _ h=>exact .zsl sz v h
 | .mref id k n,v,h=>by
   simp only[ren] at h |-
   grind
 | .oref id,v,h=>by
   simp only[ren] at h |-
   grind
 | .belem id i,v,h=>by
   simp only[ren] at h |-
   grind
 | .clo g fs cs,v,h=>.iv _ _ (.any _)
 | .cb id,v,h=>.iv _ _ (.any _)
 | .tup cs,v,h=>.iv _ _ (.any _)
theorem renL_rep {ok ok' w lo lo' L L' i j ob} (hok:∀ b,ok b->ok' b) (h1:lo i=some ob) (h2:lo' j=some ob) (h3:L' j=L i) :
  ∀ {cs:List AV} {vs:List Value},vs.length=(renL i cs).length->(∀ (k:Nat) (x:AV) (u:Value),(renL i cs)[k]?=some x->vs[k]?=some u->Qs ok w lo L x u) ->
   vs.length=(renL j cs).length/\∀ (k:Nat) (x:AV) (u:Value),(renL j cs)[k]?=some x->vs[k]?=some u->Qs ok' w lo' L' x u
 | [],vs,hl,_=>⟨by simpa[renL] using hl,by simp[renL]⟩
 | x::r,[],hl,_=>by simp[renL] at hl
 | x::r,v::vs,hl,hx=>by
   obtain ⟨h4,h5⟩:=renL_rep hok h1 h2 h3 (cs:=r) (vs:=vs) (by simpa[renL] using hl) (fun k y u hy hu=>hx (k+1) y u (by simpa[renL] using hy) (by simpa using hu))
   refine ⟨by simp[renL,h4],fun k y u hy hu=>?_⟩
   cases k with
   | zero =>
     simp[renL] at hy hu;subst hy hu;exact Qhr hok h1 h2 h3 (hx 0 (ren i x) v (by simp[renL]) (by simp))
   | succ k=>exact h5 k y u (by simpa[renL] using hy) (by simpa using hu)
end
theorem Qkv {B B' ok ok' w lo lo' L L' e sz rows mv l} (hB:∀ b,¬ B b->¬ B' b) (hok:∀ b,ok b->ok' b)
  (h:Qt B ok w lo L (XX e sz rows mv) l):Qt B' ok' w lo' L' (XX e sz rows mv) l:=by
 unfold XX at *;cases l with
 | box b=>exact h
 | one b=>exact h
 | map b vals=>exact h
 | ext O D=>exact h
 | arr v xs =>
   obtain ⟨h1,h2,h3,h4,h5⟩:=h;refine ⟨⟨h1.own,fun b hb=>hB b (h1.free b hb)⟩,h2,h3,h4,fun i j c x u hi hj hu=>?_⟩
   have:=h5 i j c x u hi hj hu;rw[Qzu,Qzo] at hi;obtain ⟨d,_,rfl⟩:=hi;rw[Qzu,Qzo] at hj;obtain ⟨y,_,rfl⟩:=hj;cases this with
   | iv _ _ r=>exact .iv _ _ (r.mono fun b hb _=>⟨hok b hb,rfl⟩)
mutual
def imm (lo:Nat->Option AO):Nat->AV->Option IV
 | 0,_=>none
 | _+1,.iv x=>some x
 | n+1,.agg cs=>(imms lo n cs).map .agg
 | n+1,.loc id off=>match lo id with
   | some (.box cs)=>(imms lo n cs).map fun xs=>.ptr (xs.drop off)
   | _=>none
 | n+1,.aref id m=>match lo id with
   | some (.arr _ sz es mv)=>if mv<=m/\m<=es.length then (immss lo n (es.take m)).map (.sl sz) else none
   | _=>none
 | _+1,.eloc _ _ _ _=>none
 | _+1,.mref _ _ _=>none
 | _+1,.nilr sz=>some (.sl sz [])
 | _+1,.zsl sz=>some (.sl sz [])
 | _+1,.belem _ _=>none
 | _+1,.oref id=>match lo id with
   | some (.mapd kvs)=>some (.map kvs)
   | some (.mapr _ sz kvs pend)=>if pend=none then some (.map (kvs.map fun p=>(p.1,.sl sz p.2))) else none
   | _=>none
 | n+1,.clo g fs cs=>match imms lo n fs,imms lo n cs with
   | some ys,some zs=>some (.clo g ys zs)
   | _,_=>none
 | _+1,.cb _=>none
 | n+1,.tup cs=>(imms lo n cs).map .tup
def imms (lo:Nat->Option AO):Nat->List AV->Option (List IV)
 | 0,_=>none
 | _+1,[]=>some []
 | n+1,x::r=>match imm lo n x,imms lo n r with
   | some y,some ys=>some (y::ys)
   | _,_=>none
def immss (lo:Nat->Option AO):Nat->List (List AV)->Option (List (List IV))
 | 0,_=>none
 | _+1,rows=>Qad rows
end
def QyK:AV->Bool
 | .iv _=>true
 | _=>false
mutual
def QI:IV->Bool
 | .any | .bool _ | .int _ _ | .str _ | .nilp=>true
 | .tup cs=>scalars cs
 | _=>false
def scalars:List IV->Bool
 | []=>true
 | x::r=>QI x&&scalars r
end
def qD (lo:Nat->Option AO) (ids:List Nat) (xs:List AV):Option (List IV) :=
 match ids with
 | []=>ivs xs
 | _=>imms (fun i=>if ids.contains i then lo i else none) 40 xs
section
variable {P:Program} {K:World->Prop} {ok0:Nat->Prop} {N:Fm} {w0:ZR} {lk:Nat->AV} {lo:Nat->Option AO} {a:Act} {w:World} {L:Nat->Lay} {o:Oper}
variable {s f:Prop} {v:AV} {up:Option (Nat × AO)}
theorem Qlb {op id ob} (he:evY lk lo op=.ok s f v (some (id,ob))):id∈op.sets:=by
 cases op<;>simp only[evY] at he<;>simp only[YOp.sets] <;>
  (repeat' (split at he)) <;>
  first
   | (cases he;done)
   | (injection he with _ _ _ e;injection e with e;injection e with e _;simp[e])
theorem Qo9 {op id ob} (he:ev lk lo op=.ok s f v (some (id,ob))):id∈op.sets:=by
 by_cases hy:∃ y,op=.yy y
 ·obtain ⟨y,rfl⟩:=hy
  exact Qlb he
 have hy':∀ y,op≠.yy y:=fun y e=>hy ⟨y,e⟩
 clear hy
 cases op<;>simp only[ev] at he<;>simp only[AOp.sets]<;>(try exact absurd rfl (hy' _)) <;>
  (try simp only[QcC,Qgy,QiD,QiM,Qld,QiN,QiL,QiK,QiO,QiI,QcD,Qgx,Qbe,Qgv,Qgs,QiH,Qgw,QiG,Qgu,Qgt,QcE,Qak,QiF,Qaj,QiE,JY] at he) <;>
  (repeat' (split at he)) <;>
  first
   | (cases he;done)
   | (injection he with _ _ _ e;injection e with e;injection e with e _;simp[e])
theorem QhZ {ok1} (h:Rel ok0 N w0 lk lo a w L) (hsub:∀ b,okL ok0 lo L b->ok1 b) {id n e sz mv es ys vv}
  (hob:lo id=some (.arr e sz es mv)) (hblk:∀ b,(L id).has b->ok1 b) (hmv:mv<=n) (hn:n<=es.length) (hys:es.take n=ys.map (List.map AV.iv)) (hr:Qs (okL ok0 lo L) w lo L (.aref id n) vv):Qv ok1 w (.sl sz ys) vv:=by
 have hor:=h.objs _ _ hob
 have hyl:ys.length=n:=by
  have:=congrArg List.length hys;simp at this;omega
 have fin:∀ b cap v xs,L id=.arr v xs->vv=.slice (some ⟨b,0,none⟩) n cap->n<=cap->cap<=maxLen ->
   (∀ k,k<n*sz->(okL ok0 lo L b\/v.ownBlock=some b)/\∃ u,w.cell? ⟨b,k,none⟩=some u/\xs[k]?=some u)->Qv ok1 w (.sl sz ys) vv:=by
  intro b cap v xs hL hvv hnc hcm hcells;rw[hL] at hor;obtain ⟨hown,hmv2,hsz,h1,hxx⟩:=hor
  have hys2:∀ (i:Nat) (c:List IV),ys[i]?=some c->es[i]?=some (c.map AV.iv):=by
   intro i c hc;have:(es.take n)[i]?=some (c.map AV.iv):=by rw[hys];simp[hc]
   grind
  have hcl:∀ c∈ys,c.length=sz:=by
   intro c hc;obtain ⟨i,hi⟩:=QzS hc;have:=hsz _ (QzB (hys2 i c hi));simpa using this
  rw[hvv,<- hyl];refine .sl sz ys b 0 cap (fun k=>xs.getD k undef) (by omega) hcm hcl (fun k hk=>?_) (fun i j c x hi hj=>?_)
  ·grind
  ·have hil:i<n:=by rw[<- hyl];exact (Qzl.1 hi).1
   have hjl:j<sz:=by grind
   obtain ⟨_,u,_,hx⟩:=hcells (i*sz+j) (W6 hil hjl);have e:xs.getD (i*sz+j) undef=u:=by simp[List.getD,hx]
   rw[e];have:=hxx i j _ (.iv x) u (hys2 i c hi) (by simp[hj]) hx
   cases this with
   | iv _ _ r=>exact r.mono fun b hb _=>⟨hsub b hb,rfl⟩
 have nil:n=0->vv=.slice none 0 0->Qv ok1 w (.sl sz ys) vv:=by
  intro h0 hv;have:ys=[]:=Qzy (by omega)
  rw[this,hv];exact .nils sz
 generalize hq:AV.aref id n=q at hr;cases hr with
 | aref i2 e2 sz2 es2 mv2 v2 xs hob2 hL hsl =>
   injection hq with hq1 hq2
   subst hq1;rw[hob] at hob2;injection hob2 with hob2
   injection hob2 with g1 g2 g3 g4
   subst g1 g2 g3 g4;have hor':=hor;rw[hL] at hor';obtain ⟨hown,_⟩:=hor';rcases hown.own.2 with ⟨hv',h00⟩ | ⟨g,cap,cur,hv',hB,hgg,hnc,hcm,hcs',htake⟩
   ·exact nil (by omega) hv'
   ·refine fin g cap _ xs hL (by rw[hq2];exact hv') (by omega) hcm fun k hk=>⟨.inr (by rw[hv'];rfl),?_⟩
    have hk':k<xs.length:=by rw[hown.own.1,<- hq2];exact hk
    refine ⟨xs[k],?_,Qzk hk'⟩;have:=hown.own.cells (g:=g) (by rw[hv'];rfl) k xs[k] (Qzk hk')
    rwa [QM,Qzx] at this
 | _=>grind
theorem Qku {ok0 Fr w e sz v xs rows} (h:Xm Fr w e sz v rows.length xs) (hok:∀ b,v.ownBlock=some b->ok0 b)
  (hsz:∀ c∈rows,c.length=sz) (h1:∀ u∈xs,u.oneCell'=true)
  (hx:∀ i j c x u,rows[i]?=some c->c[j]?=some x->xs[i*sz+j]?=some u->Qv ok0 w x u):Qv ok0 w (.sl sz rows) v:=by
 rcases h.own.2 with ⟨hv,h0⟩ | ⟨g,cap,cur,hv,_,hg,hn,hc,hcs,htake⟩
 ·have:rows=[]:=Qzy h0
  subst this hv;exact .nils sz
 ·have hgb:v.ownBlock=some g:=by rw[hv];rfl
  have hxl:=h.own.1;rw[hv];refine .sl sz rows g 0 cap (fun k=>xs.getD k undef) hn hc hsz (fun k hk=>?_) (fun i j c x hi hj=>?_)
  ·have hk':k<xs.length:=by omega
   have e:xs.getD k undef=xs[k]:=by simp[List.getD,hk']
   rw[e];refine ⟨hok g hgb,?_,h1 _ (Qzr hk')⟩;have:=h.own.cells hgb k xs[k] (Qzk hk')
   rwa [QM] at this
  ·have hil:i<rows.length:=(Qzl.1 hi).1
   have hjl:j<sz:=by grind
   have hk':i*sz+j<xs.length:=by rw[hxl];exact W6 hil hjl
   grind
theorem XD {ok1} (h:Rel ok0 N w0 lk lo a w L) (hsub:∀ b,okL ok0 lo L b->ok1 b) {lo'} (hlo:∀ id o,lo' id=some o->lo id=some o) (hown:∀ id o b,lo' id=some o->(L id).has b->ok1 b) :
  ∀ n,(∀ x v y,Qs (okL ok0 lo L) w lo L x v->imm lo' n x=some y->Qv ok1 w y v) /\
   (∀ (cs:List AV) (ys:List IV),imms lo' n cs=some ys->ys.length=cs.length/\∀ (k:Nat) (x:AV) (y:IV) (v:Value),cs[k]?=some x->ys[k]?=some y->Qs (okL ok0 lo L) w lo L x v->Qv ok1 w y v):=by
 intro n
 induction n with
 | zero=>exact ⟨fun x v y _ hi=>by simp[imm] at hi,fun cs ys hi=>by simp[imms] at hi⟩
 | succ n ih =>
   refine ⟨fun x v y hr hi=>?_,fun cs ys hi=>?_⟩
   ·cases x with
    | iv z =>
      simp only[imm,Option.some.injEq] at hi;subst hi;cases hr with
      | iv _ _ r=>exact r.mono fun b hb _=>⟨hsub b hb,rfl⟩
    | agg cs =>
      simp only[imm,Qzo] at hi;obtain ⟨ys,hys,rfl⟩:=hi;obtain ⟨hl,hx⟩:=ih.2 cs ys hys;cases hr with
      | agg _ vs hvl h1 hxx =>
        refine .agg ys vs (by omega) h1 fun k y u hy hu=>?_
        have hk:k<cs.length:=by rw[<- hl];exact (Qzl.1 hy).1
        exact hx k cs[k] y u (Qzk hk) hy (hxx k _ u (Qzk hk) hu)
    | loc id off =>
      simp only[imm] at hi;split at hi
      ·rename_i cs hcs
       simp only[Qzo] at hi;obtain ⟨ys,hys,rfl⟩:=hi;obtain ⟨hl,hx⟩:=ih.2 cs ys hys;have hob:=h.objs _ _ (hlo _ _ hcs);cases hr with
       | loc _ _ cs' b hob' hL =>
         rw[hL] at hob;obtain ⟨hB,ty,vs,hb,hvl,h1,hxx⟩:=hob;refine .ptr _ b off (fun k=>vs.getD (off+k) undef) (fun k hk=>?_) (fun k y hy=>?_)
         ·have hk':off+k<vs.length:=by simp at hk;omega
          refine ⟨hown _ _ b hcs (by rw[hL];rfl),?_,h1 _ (QzB (getD_some (d:=undef) hk'))⟩
          rw[cell_of_row _ _ _ _ ty (0,0) hb];simpa using getD_some (d:=undef) hk'
         ·rw[QAb] at hy
          have hk:off+k<cs.length:=by rw[<- hl];exact (Qzl.1 hy).1
          have hk':off+k<vs.length:=by omega
          exact hx _ cs[off+k] y _ (Qzk hk) hy (hxx _ _ _ (Qzk hk) (getD_some hk'))
      ·cases hi
    | eloc=>simp[imm] at hi
    | mref=>simp[imm] at hi
    | nilr sz =>
      simp only[imm,Option.some.injEq] at hi;subst hi;cases hr with
      | nilr=>exact .nils sz
    | zsl sz =>
      simp only[imm,Option.some.injEq] at hi;subst hi;cases hr with
      | zsl _ _ h =>
        obtain ⟨a,rfl⟩:=WP h;cases a with
        | none=>exact .nils sz
        | some a=>exact .nilz sz a
    | belem=>simp[imm] at hi
    | cb=>simp[imm] at hi
    | tup cs =>
      simp only[imm,Qzo] at hi;obtain ⟨ys,hys,rfl⟩:=hi;obtain ⟨hl,hx⟩:=ih.2 cs ys hys;cases hr with
      | tup _ vs hvl hxx =>
        refine .tup ys vs (by omega) fun k y u hy hu=>?_
        have hk:k<cs.length:=by rw[<- hl];exact (Qzl.1 hy).1
        exact hx k cs[k] y u (Qzk hk) hy (hxx k _ u (Qzk hk) hu)
    | clo g fs cs =>
      simp only[imm] at hi;split at hi
      ·rename_i ys zs hys hzs
       injection hi with hi
       subst hi;obtain ⟨hl,hx⟩:=ih.2 fs ys hys;obtain ⟨hl2,hx2⟩:=ih.2 cs zs hzs;cases hr with
       | clo _ _ _ us vs h1 h2 hf hc =>
         refine .clo g ys zs us vs (by omega) (by omega) (fun k y u hy hu=>?_) (fun k y u hy hu=>?_)
         ·have hk:k<fs.length:=by rw[<- hl];exact (Qzl.1 hy).1
          exact hx k fs[k] y u (Qzk hk) hy (hf k _ u (Qzk hk) hu)
         ·have hk:k<cs.length:=by rw[<- hl2];exact (Qzl.1 hy).1
          exact hx2 k cs[k] y u (Qzk hk) hy (hc k _ u (Qzk hk) hu)
      ·cases hi
    | oref id =>
      simp only[imm] at hi;split at hi
      ·rename_i kvs hob
       injection hi with hi
       subst hi;have hob':=hlo _ _ hob;have hor:=h.objs _ _ hob';cases hr with
       | omap _ b kvs2 ho hL =>
         rw[hL] at hor;obtain ⟨hB,es,clock,hb,hm,hd,hx⟩:=hor;exact .map kvs b es clock (hown _ _ b hob (by rw[hL];rfl)) hb hm hd fun i e p h1 h2=>(hx i e p h1 h2).mono fun b hb _=>⟨hsub b hb,rfl⟩
       | _=>grind
      ·rename_i e sz kvs pend hob
       split at hi
       ·rename_i hpn
        subst hpn;injection hi with hi
        subst hi;have hob':=hlo _ _ hob;have hor:=h.objs _ _ hob';cases hr with
        | orow _ b e2 sz2 kvs2 pend2 vals ho hL =>
          rw[hL] at hor;obtain ⟨hB,⟨es,clock,hb,m,hmn,hm,hnew,hval⟩,hd,hk,hrow,ha⟩:=hor
          have hmk:m=kvs.length:=by
           rcases QAn m kvs.length with hlt | hge
           ·have:=hnew m _ (Qzk hlt) (Qzq _)
            cases this
           ·omega
          subst hmk;refine .map _ b es clock (hown _ _ b hob (by rw[hL];exact .inl rfl)) hb ?_ (fun i j p q hp hq hpq=>?_) (fun i e2 p he hp=>?_)
          ·grind
          ·grind
          ·rw[Qzu,Qzo] at hp
           obtain ⟨p',hp',rfl⟩:=hp;have hvl:vals.length=kvs.length:=by have:=congrArg List.length hk;simpa using this
           have hil:i<vals.length:=by rw[hvl];exact (Qzl.1 hp').1
           have hq:=Qzk hil;rw[hval i e2 _ he hq (by simp)]
           obtain ⟨xs,h1,h2,h3,h4,h5⟩:=hrow i p' _ hp' hq;exact Qku h1 (fun b' hb'=>hown _ _ b' hob (by rw[hL];exact .inr ⟨_,QzB hq,hb'⟩)) h3 h4 fun i j c x u a1 a2 a3=>(h5 i j c x u a1 a2 a3).mono fun b hb _=>⟨hsub b hb,rfl⟩
        | _=>grind
       ·cases hi
      ·cases hi
    | aref id m =>
      simp only[imm] at hi;split at hi
      ·rename_i e sz es mv hob
       split at hi
       ·rename_i hm
        simp only[Qzo] at hi;obtain ⟨ys,hys,rfl⟩:=hi;cases n with
        | zero=>simp[immss] at hys
        | succ n =>
          simp only[immss] at hys;exact QhZ h hsub (hlo _ _ hob) (fun b hb=>hown _ _ b hob hb) hm.1 hm.2 (YB hys) hr
       ·cases hi
      ·cases hi
   ·cases cs with
    | nil =>
      simp only[imms,Option.some.injEq] at hi;subst hi;exact ⟨rfl,by simp⟩
    | cons x r =>
      simp only[imms] at hi;split at hi
      ·rename_i y ys' h1 h2
       injection hi with hi
       subst hi;obtain ⟨hl,hx⟩:=ih.2 r ys' h2;refine ⟨by simp[hl],fun k z y' v hz hy hr=>?_⟩
       cases k with
       | _=>grind
      ·cases hi
theorem Qcs (h:Rel ok0 N w0 lk lo a w L) (hok0:∀ b,¬ w0.fr b->ok0 b) {lo'} (hlo:∀ id o,lo' id=some o->lo id=some o) :
  ∀ n,(∀ x v y,Qs (okL ok0 lo L) w lo L x v->imm lo' n x=some y->Qv ok0 w y v) /\
   (∀ (cs:List AV) (ys:List IV),imms lo' n cs=some ys->ys.length=cs.length/\∀ (k:Nat) (x:AV) (y:IV) (v:Value),cs[k]?=some x->ys[k]?=some y->Qs (okL ok0 lo L) w lo L x v->Qv ok0 w y v) :=
 XD h (fun _ h=>h.1) hlo (fun id o b ho hb=>hok0 b ((h.objs id o (hlo id o ho)).lt hb).1)
mutual
theorem XB {ok ok'}:∀ {x v},QI x=true->Qv ok w x v->Qv ok' w x v
 | .any,_,_,h=>by cases h;exact .any _
 | .bool _,_,_,h=>by cases h;exact .bool _
 | .int _ _,_,_,h=>by cases h;exact .int _ _
 | .str _,_,_,h=>by cases h;exact .str _
 | .nilp,_,_,h=>by cases h;exact .nilp
 | .sl _ _,_,hs,_=>by simp[QI] at hs
 | .ptr _,_,hs,_=>by simp[QI] at hs
 | .agg _,_,hs,_=>by simp[QI] at hs
 | .tup cs,_,hs,h=>by
   simp only[QI] at hs;cases h with
   | tup _ vs hl hx=>exact .tup cs vs hl fun k x u h1 h2=>scalars_rep hs k x u h1 (hx k x u h1 h2)
theorem scalars_rep {ok ok':Nat->Prop}:∀ {cs:List IV},scalars cs=true->∀ (k:Nat) (x:IV) (u:Value),cs[k]?=some x->Qv ok w x u->Qv ok' w x u
 | [],_,k,x,u,h,_=>by simp at h
 | y::r,hs,k,x,u,h,hr=>by
   simp only[scalars,Qzm] at hs;cases k with
   | zero=>simp at h;subst h;exact XB hs.1 hr
   | succ k=>exact scalars_rep hs.2 k x u (by simpa using h) hr
end
theorem Zl (h:Rel ok0 N w0 lk lo a w L):∀ {xs} {ys:List Operand},YR xs ys=true->ys.length=xs.length /\
  ∀ (k:Nat) (x:AV) (u:Value),(xs.map (·.av lk))[k]?=some x->(ys.map a.eval)[k]?=some u->Qs (okL ok0 lo L) w lo L x u
 | [],[],_=>by simp
 | x::r,y::t,hi=>by
   simp only[YR,Qzm] at hi;obtain ⟨hl,hx⟩:=Zl h hi.2;refine ⟨by simp[hl],fun k z u hz hu=>?_⟩
   cases k with
   | zero=>simp at hz hu;subst hz hu;exact Opd.rep h hi.1
   | succ k=>exact hx k z u (by simpa using hz) (by simpa using hu)
 | [],_::_,hi=>by simp[YR] at hi
 | _::_,[],hi=>by simp[YR] at hi
theorem Qjf {x g args ids} (h:Rel ok0 N w0 lk lo a w L) (hf:AOp.fits P (.calld x args ids) o.op=true) (hx:x.av lk=.iv (.fn g)) (hc:callee P g=true) :
  ∃ az:List Operand,YR args az=true/\(execOp a.eval o).run P w=.ok (.enter g (az.map a.eval).toArray) w:=by
 simp only[AOp.fits] at hf;unfold QcA at hf;split at hf
 ·rename_i m az ts ho
  simp only[Qzm] at hf;obtain ⟨hxm,ha⟩:=hf;refine ⟨az.toList,ha,?_⟩;have hxm':x.is (.tmp m)=true:=hxm;have rx:=Opd.rep h hxm';rw[hx] at rx;generalize hey:a.eval (.tmp m)=yv at rx
  have hyv:yv=.func (.func g) #[] #[]:=by
   cases rx with
   | iv _ _ r=>cases r;rfl
  subst hyv;unfold callee at hc;split at hc
  ·rename_i fn hfn
   simp only[Qzm,QzL,beq_eq_false_iff_ne,ne_eq] at hc;obtain ⟨hb,hn⟩:=hc;have hb':fn.body≠none:=by cases h:fn.body<;>simp_all
   simp[execOp,ho,resolve,hey,Deferred.ofValue,invoke,callFunc,program,Sem.run,hfn,hn,hb'];apply Array.ext';simp
  ·cases hc
 ·cases hf
theorem J0 {x args} {op:Op} {ids} (hf:AOp.fits P (.calld x args ids) op=true):∃ (m:Nat) (az:Array Operand) (ts:Array TypeId),op=.call { callee:=.value (.tmp m),args:=az,argTypes:=ts }/\x.is (.tmp m)=true/\YR args az.toList=true:=by
 simp only[AOp.fits] at hf;unfold QcA at hf;split at hf
 ·rename_i m az ts
  simp only[Qzm] at hf;exact ⟨m,az,ts,rfl,hf.1,hf.2⟩
 ·cases hf
theorem JB {g args ids} (hf:AOp.fits P (.call g args ids) o.op=true):∃ az:List Operand,YR args az=true/\(execOp a.eval o).run P w=.ok (.enter g (az.map a.eval).toArray) w:=by
 simp only[AOp.fits] at hf;unfold Qgq at hf;split at hf
 ·rename_i f' az ts ho
  simp only[Qzm,beq_iff_eq] at hf;obtain ⟨⟨rfl,ha⟩,hc⟩:=hf;refine ⟨az.toList,ha,?_⟩;unfold callee at hc;split at hc
  ·rename_i fn hfn
   simp only[Qzm,QzL,beq_eq_false_iff_ne,ne_eq] at hc;obtain ⟨hb,hn⟩:=hc;have hb':fn.body≠none:=by cases h:fn.body<;>simp_all
   simp[execOp,ho,resolve,Deferred.ofValue,invoke,callFunc,program,Sem.run,hfn,hn,Act.eval,hb'];apply Array.ext';simp
  ·cases hc
 ·cases hf
end
def Qj9 (P:Program) (K:World->Prop) (f:FuncId) (e:TypeId) (sz:Nat) (rows:List (List IV)) (args:List IV) (rows':List (List IV)):Prop :=
 ∀ (w:World) (ok:Nat->Prop) (v0:Value) (xs vs:List Value),(∀ w',QL (Fr0 w v0) w w'->K w')->(∀ b,w.heap.size<=b->ok b) ->
  w.ownsRow 0 e sz v0 rows.length xs->(∀ c∈rows,c.length=sz)->(∀ u∈xs,u.oneCell'=true) ->
  (∀ (i j:Nat) (c:List IV) (x:IV) (u:Value),rows[i]?=some c->c[j]?=some x->xs[i*sz+j]?=some u->Qv (fun b=>ok b/\v0.ownBlock≠some b) w x u) ->
  vs.length=args.length->(∀ (k:Nat) (x:IV) (u:Value),args[k]?=some x->vs[k]?=some u->Qv (fun b=>ok b/\v0.ownBlock≠some b) w x u) ->
  Calls P f (v0::vs).toArray w (fun x w'=>∃ v' xs',x=.returned v'/\J1 w ok e sz rows v0 rows' v' xs' w')
section
variable {P:Program} {ok0:Nat->Prop} {N:Fm} {w0:ZR} {lk:Nat->AV} {lo:Nat->Option AO} {a:Act} {w:World} {L:Nat->Lay}
theorem UC {id e sz mv rows v0 u xs ok} (hid:lo id=some (XX e sz rows mv)) (hL:L id=.arr v0 xs) (hr:Qs ok w lo L (.aref id rows.length) u):u=v0:=by
 generalize hq:AV.aref id rows.length=q at hr;cases hr with
 | old i2 n2 e2 sz2 es2 mv2 v2 _ xs2 hob2 hL2 hsl hn2 hv =>
   injection hq with hq1 hq2
   subst hq1 hq2;rw[hid] at hob2;injection hob2 with hob2
   injection hob2 with g1 g2 g3 g4
   subst g3;rw[Qzw] at hn2;omega
 | _=>grind
theorem QfN {id mv e sz rows rows' v0 v' xs xs' w'} (h:Rel ok0 N w0 lk lo a w L) (hok0:∀ b,¬ w0.fr b->ok0 b)
  (hid:lo id=some (XX e sz rows mv)) (hL:L id=.arr v0 xs) (hr:J1 w (okL ok0 lo L) e sz rows v0 rows' v' xs' w') :
  Rel ok0 N w0 lk (QK lo id (XX e sz rows' rows'.length)) a w' (QF L id (.arr v' xs')) /\
  Qs (okL ok0 (QK lo id (XX e sz rows' rows'.length)) (QF L id (.arr v' xs'))) w' (QK lo id (XX e sz rows' rows'.length)) (QF L id (.arr v' xs')) (.aref id rows'.length) v':=by
 have hob:=h.objs _ _ hid;rw[hL] at hob;obtain ⟨hown,hmv,hsz,h1,hxx⟩:=hob;rw[Qzw] at hown hmv;have h0:∀ b,v0.ownBlock=some b->(L id).has b/\¬ w0.fr b:=fun b hb=>⟨by rw[hL];exact hb,hown.free b hb⟩
 have hl':∀ b,(Lay.arr v' xs').has b->(L id).has b\/w.heap.size<=b:=fun b hb=>(hr.blk b hb).imp (fun h=>(h0 b h).1) (fun h=>h)
 have hg:Qc1 (L id).has w w':=⟨hr.keep.os,hr.keep.tape,hr.keep.output,hr.keep.size,fun k hk hn=>hr.keep.block k ⟨hk,fun e=>hn (h0 k e).1⟩⟩
 have hlen':(rows'.map (List.map AV.iv)).length=rows'.length:=by simp
 have hlen:(rows.map (List.map AV.iv)).length=rows.length:=by simp
 have hsl':=Jg hr.own
 have res:∀ ok,Qs ok w' (QK lo id (XX e sz rows' rows'.length)) (QF L id (.arr v' xs')) (.aref id rows'.length) v':=fun ok=>by
  have:=Qs.aref (ok:=ok) (w:=w') (lo:=QK lo id (XX e sz rows' rows'.length)) (L:=QF L id (.arr v' xs')) id e sz (rows'.map (List.map AV.iv)) rows'.length v' xs' (by simp[QK,XX]) (by simp[QF]) hsl'
  rwa [hlen'] at this
 refine ⟨h.turn id hid hg hl' (fun z u hz hu=>?_) (fun _=>?_),res _⟩
 ·cases hu with
  | aref jj e2 sz2 es2 mv2 v2 xs2 ho' hL' hsl2 =>
    have:jj=id:=by simpa[AV.refs] using hz
    subst this;rw[hid] at ho';injection ho' with ho'
    injection ho' with g1 g2 g3 g4
    subst g1 g2 g3 g4;rw[hL] at hL';injection hL' with g1 g2
    subst g1 g2;rw[hlen];by_cases hs:rows'.length=rows.length
    ·have:=res (okL ok0 (QK lo jj (XX e sz rows' rows'.length)) (QF L jj (.arr v' xs')))
     rw[hs,hr.same hs] at this;rw[hr.same hs];rw[hs];exact this
    ·have hle:=hr.le
     exact .old jj rows.length e sz (rows'.map (List.map AV.iv)) rows'.length v' v0 xs' (by simp[QK,XX]) (by simp[QF]) hsl2 (by rw[hlen'];omega) (fun hm=>by omega)
  | old jj n' e2 sz2 es2 mv2 v2 v2' xs2 ho' hL' hsl2 hn' hv2 =>
    have:jj=id:=by simpa[AV.refs] using hz
    subst this;rw[hid] at ho';injection ho' with ho'
    injection ho' with g1 g2 g3 g4
    subst g1 g2 g3 g4;rw[hlen] at hn';have hle:=hr.le;exact .old jj n' e sz (rows'.map (List.map AV.iv)) rows'.length v' _ xs' (by simp[QK,XX]) (by simp[QF]) hsl2 (by rw[hlen'];omega) (fun hm=>by omega)
  | eloc jj n' i' off' e2 sz2 es2 mv2 v2 xs2 b2 ho' hL' hn' hv2 =>
    have:jj=id:=by simpa[AV.refs] using hz
    subst this;rw[hid] at ho';injection ho' with ho'
    injection ho' with g1 g2 g3 g4
    subst g1 g2 g3 g4;rw[hL] at hL';injection hL' with g1 g2
    subst g1 g2;rw[hlen] at hn' hv2;have hle:=hr.le;refine .eloc jj n' i' off' e sz (rows'.map (List.map AV.iv)) rows'.length v' xs' b2 (by simp[QK,XX]) (by simp[QF]) (by rw[hlen'];omega) (fun hm=>?_)
    have hs:rows'.length=rows.length:=by omega
    have hnr:n'=rows.length:=by omega
    obtain ⟨k1,k2,k3⟩:=hv2 (by omega)
    have hb2:v'.ownBlock=some b2:=by rw[hr.same hs];exact k2 hnr
    refine ⟨k1,fun _=>hb2,fun k hk=>⟨.inr hb2,?_⟩⟩
    have hk':k<xs'.length:=by rw[hr.own.1,hs,<- hnr];exact hk
    refine ⟨xs'[k],?_,Qzk hk'⟩;have:=hr.own.cells (g:=b2) hb2 k xs'[k] (Qzk hk')
    rwa [QM,Qzx] at this
  | _=>grind
 ·refine ⟨by rw[hlen'];exact ⟨hr.own,fun b hb=>(hr.blk b hb).elim (fun h1=>hown.free b h1) (fun h2=>h.frlt h2)⟩,by rw[hlen'];exact Qzq _,fun c hc=>?_,hr.one,fun i j c x u hi hj hu=>?_⟩
  ·obtain ⟨d,hd,rfl⟩:=QzI.1 hc
   rw[Qzw];exact hr.size d hd
  ·rw[Qzu,Qzo] at hi
   obtain ⟨d,hd,rfl⟩:=hi;rw[Qzu,Qzo] at hj;obtain ⟨y,hy,rfl⟩:=hj;exact .iv _ _ ((hr.cells i j d y u hd hy hu).mono fun b hb _=>⟨Qe9 (l':=.arr v' xs') h hok0 hid h0 (fun b hb=>.inl hb) hb,rfl⟩)
end
inductive Enters (P:Program):Value->List Value->World->Next->Prop
 | clo (g us cs vs w) (hc:callee P g=true):Enters P (.func (.func g) us.toArray cs.toArray) vs w (.enter g (us++vs++cs).toArray)
 | yield (l vs w f tmps az body) (h:(Instr.yield l vs.toArray).run P w=.ok (.round l f tmps az body) w) :
   Enters P (.func (.yield l) #[] #[]) vs w (.round l f tmps az body)
def begun (P:Program) (c:Frame) (cs:List Frame) (w:World):Next->Machine
 | .enter f args=>lone (Frame.enter P f args .normal) (c::cs) w
 | .round l f tmps az body=>lone (Frame.round l f tmps az body .normal) (c::cs) w
 | _=>lone c cs w
def Ans (P:Program) (fv:Value) (vs:List Value) (w:World) (R:Value->World->Prop):Prop :=
 ∃ n,Enters P fv vs w n/\∀ c cs,∃ v w',R v w'/\Steps P (begun P c cs w n) (lone (c.finish v) cs w')
theorem Ans.mono {P fv vs w R R'} (h:Ans P fv vs w R) (hr:∀ v w',R v w'->R' v w'):Ans P fv vs w R':=by
 obtain ⟨n,h1,h2⟩:=h;refine ⟨n,h1,fun c cs=>?_⟩
 obtain ⟨v,w',h3,h4⟩:=h2 c cs;exact ⟨v,w',hr _ _ h3,h4⟩
theorem Ans.of_calls {P g us cs vs w R} (hc:callee P g=true)
  (h:Calls P g (us++vs++cs).toArray w (fun e w'=>∃ v,e=.returned v/\R v w')):Ans P (.func (.func g) us.toArray cs.toArray) vs w R:=by
 refine ⟨_,.clo g us cs vs w hc,fun c fs=>?_⟩
 obtain ⟨e,w',fr,⟨v,rfl,hR⟩,h1,h2,h3⟩:=h (c::fs);exact ⟨v,w',hR,Steps.trans h1 (.one (step_leave_returned h3))⟩
theorem qk {P:Program} {a:Act} {o:Oper} {m:Nat} {az:Array Operand} {ts:Array TypeId} {w:World} {fv:Value} {n:Next} (ho:o.op=.call { callee:=.value (.tmp m),args:=az,argTypes:=ts })
  (hv:a.eval (.tmp m)=fv) (h:Enters P fv (az.toList.map a.eval) w n):(execOp a.eval o).run P w=.ok n w:=by
 cases h with
 | clo g us cs _ _ hc =>
   unfold callee at hc;split at hc
   ·rename_i fn hfn
    simp only[Qzm,QzL,beq_eq_false_iff_ne,ne_eq] at hc;obtain ⟨hb,hn⟩:=hc;have hb':fn.body≠none:=by cases h:fn.body<;>simp_all
    simp[execOp,ho,resolve,hv,Deferred.ofValue,invoke,callFunc,program,Sem.run,hfn,hn,hb']
   ·cases hc
 | yield l _ _ f tmps az' body h =>
   have e:(Array.map a.eval az)=((az.toList.map a.eval).toArray):=by
    apply Array.ext';simp
   simp[execOp,ho,resolve,hv,Deferred.ofValue,invoke];rw[e];exact h
def VH (P:Program) (ops:Array Oper) (i:Nat) (C:Act->World->Prop) (a:Act) (w:World):Prop :=
 ∀ (b:Frame) (rest:List Nat) (k:List Item) (cs:List Frame),∃ a' w',C a' w'/\Steps P (lone (b.atR a (.inRegion ops (i::rest)::k)) cs w) (lone (b.atR a' (.inRegion ops rest::k)) cs w')
section
variable {P:Program} {ops:Array Oper} {C:Act->World->Prop} {a:Act} {w:World} {i:Nat} {o:Oper}
theorem VH.mono {C':Act->World->Prop} (h:∀ a w,C a w->C' a w) (hh:VH P ops i C a w):VH P ops i C' a w:=fun b rest k cs =>
 let ⟨a',w',h1,h2⟩:=hh b rest k cs
 ⟨a',w',h _ _ h1,h2⟩
theorem QfV (ho:ops[i]?=none) (h:C a w):VH P ops i C a w:=fun b rest k cs=>by
 have hs:=stepR_op_skip (P:=P) (b:=b) (a:=a) (k:=k) (cs:=cs) (w:=w) (ops:=ops) (i:=i) (rest:=rest) (by simp[ho])
 simp only[ho,Option.bind_none,Act.put] at hs;exact ⟨a,w,h,.one hs⟩
theorem QfU (ho:ops[i]?=some o) (hw:Region.wanted o (yielded ops a.tmps)=false) (h:C (a.put o.dst undef) w):VH P ops i C a w:=fun b rest k cs=>by
 have hs:=stepR_op_skip (P:=P) (b:=b) (a:=a) (k:=k) (cs:=cs) (w:=w) (ops:=ops) (i:=i) (rest:=rest) (by simp[ho,hw])
 simp only[ho,Option.bind_some] at hs;exact ⟨_,w,h,.one hs⟩
theorem YH (ho:ops[i]?=some o) (hw:Region.wanted o (yielded ops a.tmps)=true) (hnd:∀ c,o.op≠.defer c) (h:o.wp P a w C (fun _ _ _=>False)):VH P ops i C a w:=by
 intro b rest k cs;simp only[Oper.wp,Oper.upon] at h;have hg:=stepGR_op (P:=P) (b:=b) (k:=k) (cs:=cs) (w:=w) (rest:=rest) ho hw;rw[Oper.semAt_eq _ _ _ hnd] at hg
 have hfin:∀ v,(b.atR a (.inRegion ops (i::rest)::k)).finish v=b.atR (a.put o.dst v) (.inRegion ops rest::k):=by
  intro v;rw[Frame.finish_atR,ho];rfl
 split at h
 ·rename_i v w' hr
  refine ⟨_,_,h,.one (step_lone_go ?_)⟩;rw[hg,<- hfin];simp[stepG.apply,hr]
 ·rename_i w' hr
  refine ⟨_,_,h,.one (step_lone_go ?_)⟩;rw[hg,<- hfin];simp[stepG.apply,hr]
 ·rename_i d w' hr
  refine ⟨_,_,h,.one (step_lone_go ?_)⟩
  have:({ b.atR a (.inRegion ops (i::rest)::k) with defers:=d::a.defers }:Frame).finish undef =
    b.atR ({ a with defers:=d::a.defers }.put o.dst undef) (.inRegion ops rest::k):=by
   have:=Frame.finish_atR b { a with defers:=d::a.defers } ops i rest k undef
   rw[ho] at this;exact this
  rw[hg];simp only[stepG.apply,Sem.runT_eq,hr,GStep.bare_after];exact congrArg (fun fr=>GStep.go { frame:=fr,callers:=cs,status:=.running,dying:=none } w') this
 ·rename_i f args w' hr
  obtain ⟨e,w'',fr,hR,hsteps,_,hleave⟩:=h (b.atR a (.inRegion ops (i::rest)::k)::cs)
  have henter:step P (lone (b.atR a (.inRegion ops (i::rest)::k)) cs w) =
    .next (lone (Frame.enter P f args .normal) (b.atR a (.inRegion ops (i::rest)::k)::cs) w') :=
   step_lone_go (by rw[hg];simp[stepG.apply,hr,Frame.atR])
  cases e with
  | returned v =>
    refine ⟨_,_,hR,.head henter (Steps.trans hsteps (.one ?_))⟩;rw[<- hfin];exact step_leave_returned hleave
  | panicked chain=>exact hR.elim
  | outgrown =>
    obtain ⟨_,_,hq⟩:=hR;exact hq.elim
 ·rename_i row args w' hr
  obtain ⟨v,w'',hR,hsteps⟩:=h (b.atR a (.inRegion ops (i::rest)::k)) cs
  have henter:step P (lone (b.atR a (.inRegion ops (i::rest)::k)) cs w) =
    .next (lone (Frame.ofRow P row args .normal) (b.atR a (.inRegion ops (i::rest)::k)::cs) w') :=
   step_lone_go (by rw[hg];simp[stepG.apply,hr,Frame.atR])
  refine ⟨_,_,hR,.head henter ?_⟩;rw[<- hfin];exact hsteps
 ·exact h.elim
 ·exact h.elim
theorem QfW {m:Nat} {az:Array Operand} {ts:Array TypeId} {fv:Value} {R:Value->World->Prop} (ho:ops[i]?=some o) (hw:Region.wanted o (yielded ops a.tmps)=true)
  (hop:o.op=.call { callee:=.value (.tmp m),args:=az,argTypes:=ts }) (hv:a.eval (.tmp m)=fv) (h:Ans P fv (az.toList.map a.eval) w R) (hC:∀ v w',R v w'->C (a.put o.dst v) w'):VH P ops i C a w:=by
 intro b rest k cs;obtain ⟨n,hen,hans⟩:=h;have hr:=qk hop hv hen;have hg:=stepGR_op (P:=P) (b:=b) (k:=k) (cs:=cs) (w:=w) (rest:=rest) ho hw;rw[Oper.semAt_eq _ _ _ (fun c=>by rw[hop];simp)] at hg
 have hfin:∀ v,(b.atR a (.inRegion ops (i::rest)::k)).finish v=b.atR (a.put o.dst v) (.inRegion ops rest::k):=by
  intro v;rw[Frame.finish_atR,ho];rfl
 obtain ⟨v,w',hR,hst⟩:=hans (b.atR a (.inRegion ops (i::rest)::k)) cs;refine ⟨_,w',hC v w' hR,?_⟩;rw[hfin] at hst;refine .head ?_ hst;cases hen with
 | clo g us cs' _ _ hc=>exact step_lone_go (by rw[hg];simp[stepG.apply,hr,Frame.atR])
 | yield l _ _ f tmps az' body h=>exact step_lone_go (by rw[hg];simp[stepG.apply,hr])
def UL (P:Program) (ops:Array Oper) (Q:Act->World->Prop):List Nat->Act->World->Prop
 | []=>Q
 | i::r=>VH P ops i (UL P ops Q r)
def Qk2 (P:Program) (md:Region.Mode) (ops:Array Oper) (Q:Act->World->Prop):Nat->Array Bool->Act->World->Prop
 | 0,listed,a,w=>Region.ready md ops listed=[]/\Q a w
 | fuel+1,listed,a,w =>
   (Region.ready md ops listed=[]->Q a w) /\
   ∀ i∈Region.ready md ops listed,VH P ops i (Qk2 P md ops Q fuel (listed.setIfInBounds i true)) a w
theorem QdU {md:Region.Mode} {Q}:∀ fuel t listed a w,Qk2 P md ops Q fuel listed a w ->
  UL P ops Q (Region.linearise.go md ops fuel t listed []) a w:=by
 intro fuel
 induction fuel with
 | zero=>intro t listed a w h;simpa[Region.linearise.go,UL] using h.2
 | succ fuel ih =>
   intro t listed a w h;obtain ⟨h₀,h₁⟩:=h;simp only[Region.linearise.go]
   change UL P ops Q (match (Region.ready md ops listed)[t % (Region.ready md ops listed).length]? with
    | some i=>Region.linearise.go md ops fuel (t / (Region.ready md ops listed).length) (listed.setIfInBounds i true) [i]
    | none=>[].reverse) a w
   cases hi:(Region.ready md ops listed)[t % (Region.ready md ops listed).length]? with
   | none =>
     have hnil:Region.ready md ops listed=[]:=by
      cases hr:Region.ready md ops listed with
      | nil=>rfl
      | cons x xs =>
        rw[hr] at hi;have hlt:t % (x::xs).length<(x::xs).length:=Nat.mod_lt _ (by simp)
        simp at hi;simp at hlt;omega
     simpa[UL] using h₀ hnil
   | some i =>
     simp only[];rw[linearise_go_acc,List.reverse_singleton,List.singleton_append];simp only[UL];exact VH.mono (fun a w=>ih _ _ a w) (h₁ i (QzB hi))
theorem JU {Q:Act->World->Prop}:∀ (l:List Nat) (a:Act) (w:World),UL P ops Q l a w->∀ (b:Frame) (k:List Item) (cs:List Frame),
  ∃ a' w',Q a' w'/\Steps P (lone (b.atR a (.inRegion ops l::k)) cs w) (lone (b.atR a' k) cs w')
 | [],a,w,h,b,k,cs=>⟨a,w,h,.one stepR_region_end⟩
 | i::r,a,w,h,b,k,cs=>by
   obtain ⟨a1,w1,h1,h2⟩:=h b r k cs;obtain ⟨a2,w2,h3,h4⟩:=JU r a1 w1 h1 b k cs;exact ⟨a2,w2,h3,Steps.trans h2 h4⟩
theorem Qb5 {id:Nat} {Q:Act->World->Prop} (h:UL P ops Q (List.range ops.size) a w) (b:Frame) (k:List Item) (cs:List Frame) :
  ∃ a' w',Q a' w'/\Steps P (lone (b.atR a (.code (.region id ops false)::k)) cs w) (lone (b.atR a' k) cs w'):=by
 obtain ⟨a',w',h1,h2⟩:=JU _ a w h b k cs;exact ⟨a',w',h1,.head stepR_region h2⟩
theorem QaT {id:Nat} {Q:Act->World->Prop} (hm:P.follows .mixedOrders=true) (h:Qk2 P .any ops Q ops.size (Array.replicate ops.size false) a { w with drawn:=w.drawn+1 })
  (b:Frame) (k:List Item) (cs:List Frame) :
  ∃ a' w',Q a' w'/\Steps P (lone (b.atR a (.code (.region id ops true)::k)) cs w) (lone (b.atR a' k) cs w'):=by
 have h1:=QdU (Q:=Q) ops.size (w.tape w.drawn (.order b.fn id)) _ a _ h;obtain ⟨a',w',h2,h3⟩:=JU _ a _ h1 b k cs;refine ⟨a',w',h2,.head stepR_region_draw ?_⟩;simp only[Region.schedule,hm,Bool.true_or,if_true];exact h3
end
def Yy (w:World) (b:Nat):Prop:=(∃ c t f,w.heap[b]?=some (.cells c t f))\/∃ es k,w.heap[b]?=some (.map es k)
theorem YL {w b o u} (h:w.cell? ⟨b,o,none⟩=some u):Yy w b:=by
 unfold World.cell? at h;split at h
 ·rename_i c t f hb
  exact .inl ⟨c,t,f,hb⟩
 ·cases h
theorem Yy.lt {w b} (h:Yy w b):b<w.heap.size:=by
 rcases h with ⟨c,t,f,h⟩ | ⟨es,k,h⟩<;>exact (Qzs.1 h).1
theorem Qv.plain {ok w x v} (h:Qv ok w x v):Qv (fun b=>ok b/\Yy w b) w x v:=by
 induction h with
 | any v=>exact .any v
 | bool b=>exact .bool b
 | int k n=>exact .int k n
 | str s=>exact .str s
 | nilp=>exact .nilp
 | nils sz=>exact .nils sz
 | nilz sz a=>exact .nilz sz a
 | sl sz es b off cap u hl hc hs hu _ ih =>
   refine .sl sz es b off cap u hl hc hs (fun k hk=>?_) (fun i j c x h1 h2=>ih i j c x h1 h2)
   obtain ⟨h1,h2,h3⟩:=hu k hk;exact ⟨⟨h1,YL h2⟩,h2,h3⟩
 | ptr cs b off u hu _ ih =>
   refine .ptr cs b off u (fun k hk=>?_) (fun k x h1=>ih k x h1)
   obtain ⟨h1,h2,h3⟩:=hu k hk;exact ⟨⟨h1,YL h2⟩,h2,h3⟩
 | agg cs vs hl h1 _ ih=>exact .agg cs vs hl h1 (fun k x u h1 h2=>ih k x u h1 h2)
 | tup cs vs hl _ ih=>exact .tup cs vs hl (fun k x u h1 h2=>ih k x u h1 h2)
 | fn f=>exact .fn f
 | lit v=>exact .lit v
 | ifn v h=>exact .ifn v h
 | bag sz es es' v hp _ ih=>exact .bag sz es es' v hp ih
 | mapn=>exact .mapn
 | map kvs r es clock hr0 hr hm hd _ ih=>exact .map kvs r es clock ⟨hr0,.inr ⟨es,clock,hr⟩⟩ hr hm hd (fun i e p h3 h4=>ih i e p h3 h4)
 | clo g fs cs us vs h1 h2 _ _ ih1 ih2=>exact .clo g fs cs us vs h1 h2 (fun k x u a b=>ih1 k x u a b) (fun k x u a b=>ih2 k x u a b)
structure VI (ok:Nat->Prop) (O:Nat->Prop) (w:World) (s':Ext) (y:IV) (O' D':Nat->Prop) (v:Value) (w':World):Prop where
 rep:Qv (fun b=>ok b/\¬ O' b) w' y v
 keep:QL (fun b=>b<w.heap.size/\¬ O b) w w'
 J:s'.J O' D' w'
 new:∀ b,O' b->O b\/w.heap.size<=b
 sub:∀ b,O' b->D' b
 lt:∀ b,D' b->b<w'.heap.size
 okd:∀ b,D' b->O' b\/ok b
structure QeQ (K:World->Prop) (ok:Nat->Prop) (O D:Nat->Prop) (w:World) (s:Ext) (xs:List IV) (vs:List Value):Prop where
 hK:∀ w',QL (fun b=>b<w.heap.size/\¬ O b) w w'->K w'
 J:s.J O D w
 sub:∀ b,O b->D b
 lt:∀ b,D b->b<w.heap.size
 okd:∀ b,D b->O b\/ok b
 new:∀ b,w.heap.size<=b->ok b
 own:∀ b,O b->ok b
 len:vs.length=xs.length
 args:∀ (k:Nat) (x:IV) (u:Value),xs[k]?=some x->vs[k]?=some u->Qv (fun b=>ok b/\¬ O b) w x u
def XV (P:Program) (K:World->Prop) (s:Ext) (xs:List IV) (y:IV) (s':Ext):Prop :=
 s'.v=s.v/\∀ (ok O D:Nat->Prop) (w:World) (vs:List Value),QeQ K ok O D w s xs vs ->
  Ans P s.v vs w (fun v w'=>∃ O' D',VI ok O w s' y O' D' v w')
def QcX (P:Program) (K:World->Prop) (g:FuncId) (pre post:List IV) (s:Ext) (y:IV) (s':Ext):Prop :=
 s'.v=s.v/\∀ (ok O D:Nat->Prop) (w:World) (us vs:List Value),QeQ K ok O D w s (pre++post) (us++vs)->us.length=pre.length ->
  Calls P g (us++s.v::vs).toArray w (fun e w'=>∃ v,e=.returned v/\∃ O' D',VI ok O w s' y O' D' v w')
def UT (P:Program) (K:World->Prop) (g:FuncId) (xs:List IV) (s:Ext) (y:IV) (s':Ext):Prop :=
 s'.v=s.v/\∀ (ok O D:Nat->Prop) (w:World) (vs:List Value),QeQ K ok O D w s xs vs ->
  Calls P g vs.toArray w (fun e w'=>∃ v,e=.returned v/\∃ O' D',VI ok O w s' y O' D' v w')
def Quw (P:Program) (K:World->Prop) (x:AV) (id:Nat) (s:Ext) (xs:List IV) (y:IV) (s':Ext):Prop :=
 (x=.cb id/\XV P K s xs y s')\/(x=.iv (.lit s.v)/\XV P K s xs y s')\/∃ g fs cs,x=.iv (.clo g fs cs)/\callee P g=true/\UT P K g (fs++xs++cs) s y s'
theorem Quw.v {P K x id s xs y s'} (h:Quw P K x id s xs y s'):s'.v=s.v:=by
 rcases h with ⟨_,h⟩ | ⟨_,h⟩ | ⟨_,_,_,_,_,h⟩<;>exact h.1
theorem Qgk {P K g pre post s y s'} (h:UT P K g (pre++[.lit s.v]++post) s y s'):QcX P K g pre post s y s':=by
 refine ⟨h.1,fun ok O D w us vs hp hl=>?_⟩
 have:=h.2 ok O D w (us++[s.v]++vs) ⟨hp.hK,hp.J,hp.sub,hp.lt,hp.okd,hp.new,hp.own,?_,fun k x u hx hu=>?_⟩
 ·simpa using this
 ·have:=hp.len
  simp at this |-;omega
 ·have hlen:=hp.len
  simp at hlen;by_cases k1:k<pre.length
  ·exact hp.args k x u (by rw[QzA k1];simpa[QzC,QzA k1] using hx) (by rw[QzA (by omega)];simpa[QzC,QzA (show k<us.length by omega)] using hu)
  ·by_cases k2:k=pre.length
   ·subst k2
    simp at hx;rw[<- hl] at hu;simp at hu;subst hx hu;exact .lit _
   ·refine hp.args (k-1) x u ?_ ?_
    ·rw[Qzz (by omega)]
     rw[Qzz (by simp;omega)] at hx
     simp only[Qzp,Qzv,QzE] at hx;rw[<- hx]
     congr 1
     omega
    ·rw[Qzz (by omega)]
     rw[Qzz (by simp;omega)] at hu
     simp only[Qzp,Qzv,QzE] at hu;rw[<- hu]
     congr 1
     omega
inductive Zz (P:Program) (K:World->Prop):List (List IV)->Ext->Bool->Ext->Prop
 | nil (s):Zz P K [] s true s
 | stop (x r s s') (h:XV P K s x (.bool false) s'):Zz P K (x::r) s false s'
 | next (x r s s' s'' b) (h:XV P K s x (.bool true) s') (hr:Zz P K r s' b s''):Zz P K (x::r) s b s''
def Qj7 (P:Program) (K:World->Prop) (g:FuncId) (pre post:List IV) (L:List (List IV)) (y:Bool->IV):Prop:=∀ s b s',Zz P K L s b s'->QcX P K g pre post s (y b) s'
def Qbz (P:Program) (K:World->Prop) (g:FuncId) (pre post:List IV) (L:List (List IV)):Prop:=Qj7 P K g pre post L (fun _=>.tup [])
def Quv (P:Program) (K:World->Prop) (g:FuncId) (pre post:List IV) (s:Ext) (Q:Ext->Prop):Prop :=
 (∀ s',Q s'->s'.v=s.v)/\∀ (ok O D:Nat->Prop) (w:World) (us vs:List Value),QeQ K ok O D w s (pre++post) (us++vs)->us.length=pre.length ->
   Calls P g (us++s.v::vs).toArray w (fun e w'=>∃ v,e=.returned v/\∃ s',Q s'/\∃ O' D',VI ok O w s' (.tup []) O' D' v w')
def Beg (S:List (List IV)->Prop) (p:List (List IV)):Prop:=∃ r,S (p++r)
def Qut (P:Program) (K:World->Prop) (g:FuncId) (pre post:List IV) (S:List (List IV)->Prop):Prop :=
 ∀ st:List (List IV)->Ext,(∀ p x,Beg S (p++[x])->XV P K (st p) x (.bool true) (st (p++[x])))->Quv P K g pre post (st []) (fun s'=>∃ L,S L/\s'=st L)
theorem Zz.v {P K L s s' b} (h:Zz P K L s b s'):s'.v=s.v:=by
 induction h with
 | nil=>rfl
 | stop _ _ _ _ h=>exact h.1
 | next _ _ _ _ _ _ h _ ih=>exact ih.trans h.1
theorem Zz.append {P K l r s s' b} (h:Zz P K (l++r) s b s'):(∃ s1,Zz P K l s true s1/\Zz P K r s1 b s')\/(b=false/\Zz P K l s false s'):=by
 induction l generalizing s with
 | nil=>exact .inl ⟨s,.nil s,h⟩
 | cons x l ih =>
   cases h with
   | stop _ _ _ _ h=>exact .inr ⟨rfl,.stop _ _ _ _ h⟩
   | next _ _ _ s1 _ _ h hr =>
     rcases ih hr with ⟨s2,h1,h2⟩ | ⟨h1,h2⟩
     ·exact .inl ⟨s2,.next _ _ _ _ _ _ h h1,h2⟩
     ·exact .inr ⟨h1,.next _ _ _ _ _ _ h h2⟩
structure ZR.le (w0 w1:ZR):Prop where
 keep:QL w0.fr w0.w w1.w
 fr:∀ b,w0.fr b->w1.fr b
 pin:w1.pin=w0.pin
theorem ZR.le.refl (w0:ZR):w0.le w0:=⟨QL.refl _ _,fun _ h=>h,rfl⟩
theorem ZR.le.trans {w0 w1 w2:ZR} (h:w0.le w1) (k:w1.le w2):w0.le w2 :=
 ⟨h.keep.trans (k.keep.mono h.fr),fun b hb=>k.fr b (h.fr b hb),k.pin.trans h.pin⟩
theorem ZR.le.keeps {w0 w1:ZR} {w:World} (h:w0.le w1) (hk:QL w1.fr w1.w w):QL w0.fr w0.w w:=h.keep.trans (hk.mono h.fr)
theorem Qt.frame {B B' ok w lo L o l} (h:Qt B ok w lo L o l) (hn:∀ b,l.has b->¬ B' b) (hs:∀ b,B b->B' b):Qt B' ok w lo L o l:=by
 cases o with
 | box cs =>
   cases l with
   | box b=>exact ⟨hn b rfl,h.2⟩
   | _=>exact h.elim
 | arr e sz es mv =>
   cases l with
   | arr v xs=>exact ⟨⟨h.1.own,fun b hb=>hn b hb⟩,h.2⟩
   | _=>exact h.elim
 | mapd kvs =>
   cases l with
   | one b=>exact ⟨hn b rfl,h.2⟩
   | _=>exact h.elim
 | mapr e sz kvs pend =>
   cases l with
   | map b vals =>
     obtain ⟨hB,hc,hd,hk,hr,ha⟩:=h;refine ⟨hn b (.inl rfl),hc,hd,hk,fun i p q hp hq=>?_,ha⟩
     obtain ⟨xs,h1,h2⟩:=hr i p q hp hq;exact ⟨xs,⟨h1.own,fun b hb=>hn b (.inr ⟨q,QzB hq,hb⟩)⟩,h2⟩
   | _=>exact h.elim
 | siter s pos =>
   cases l with
   | one b=>exact ⟨hn b rfl,h.2⟩
   | _=>exact h.elim
 | miter kvs seen =>
   cases l with
   | one b=>exact ⟨hn b rfl,h.2⟩
   | _=>exact h.elim
 | bytes s =>
   cases l with
   | one b=>exact ⟨hn b rfl,h.2⟩
   | _=>exact h.elim
 | ext s =>
   cases l with
   | ext O D=>exact ⟨fun b hb=>⟨hn b hb,(h.1 b hb).2⟩,fun b hb=>(h.2.1 b hb).imp (fun h=>h) (fun ⟨h1,h2⟩=>⟨hs b h1,h2⟩),h.2.2⟩
   | _=>exact h.elim
section
variable {P:Program} {K:World->Prop} {ok0:Nat->Prop} {N:Fm} {w0:ZR} {lk:Nat->AV} {lo:Nat->Option AO} {a:Act} {w:World} {L:Nat->Lay}
theorem Qe3 {id s x u ok} (hid:lo id=some (.ext s)) (hx:AV.refs id x=true) (hr:Qs ok w lo L x u):x=.cb id/\u=s.v:=by
 cases hr with
 | _=>grind
def okC (ok:Nat->Prop) (D:Nat->Prop) (w:World) (b:Nat):Prop:=D b\/(ok b/\Yy w b)\/w.heap.size<=b
theorem Qpl {id s s' O D O' D' y v w'} (hok0:∀ b,¬ w0.fr b->ok0 b) (h:Rel ok0 N w0 lk lo a w L) (hid:lo id=some (.ext s)) (hL:L id=.ext O D)
  (hv:s'.v=s.v) (hp:VI (okC (okL ok0 lo L) D w) O w s' y O' D' v w') :
  ∃ w1,w0.le w1/\Rel ok0 N w1 lk (QK lo id (.ext s')) a w' (QF L id (.ext O' D')):=by
 have hob:=h.objs id _ hid;rw[hL] at hob;obtain ⟨hO,hD,hJ⟩:=hob;have hLO:∀ b,(L id).has b↔O b:=fun b=>by rw[hL];exact Iff.rfl
 have hfrO:∀ b,w0.fr b->b<w.heap.size/\¬ O b:=fun b hb=>⟨h.frl b hb,fun ho=>(hO b ho).1 hb⟩
 have hkw:QL w0.fr w w':=hp.keep.mono hfrO;have hk0:QL w0.fr w0.w w':=h.below.trans hkw
 let w1:ZR:={ w:=w',fr:=fun b=>w0.fr b\/(D' b/\¬ O' b),lt:=fun b hb=>hb.elim (fun hb=>QzJ (h.frl b hb) hp.keep.size) (fun hb=>hp.lt b hb.1),pin:=w0.pin }
 have hle:w0.le w1:=⟨hk0,fun b hb=>.inl hb,rfl⟩
 have hlo:∀ i,i≠id->QK lo id (.ext s') i=lo i/\QF L id (.ext O' D') i=L i:=fun i hi=>by simp[QK,QF,hi]
 have hsame:∀ b,b<w.heap.size->¬ O b->w'.heap[b]?=w.heap[b]?:=fun b h1 h2=>hp.keep.block b ⟨h1,h2⟩
 have hoth:∀ b,D' b->¬ O' b->∀ i oi,i≠id->lo i=some oi->¬ (L i).has b:=by
  intro b hb hnb i oi hi hoi hbad;rcases hp.okd b hb with h1 | h1 | ⟨h1,_⟩ | h1
  ·exact hnb h1
  ·rcases hD b h1 with h2 | ⟨h2,h3⟩
   ·exact h.apart i id oi _ b hi hoi hid hbad ((hLO b).2 h2)
   ·exact h3.2 i oi hoi hbad
  ·exact h1.2 i oi hoi hbad
  ·have:=((h.objs i oi hoi).lt hbad).2
   omega
 have hok:∀ b,okL ok0 lo L b->b<w.heap.size->okL ok0 (QK lo id (.ext s')) (QF L id (.ext O' D')) b:=by
  intro b hb hlt;refine ⟨hb.1,fun i oi hi he=>?_⟩
  by_cases hii:i=id
  ·subst hii
   simp only[QF,if_true,Lay.has] at he;rcases hp.new b he with h1 | h1
   ·exact hb.2 _ _ hid ((hLO b).2 h1)
   ·omega
  grind
 have all:∀ x v,Qs (okL ok0 lo L) w lo L x v->Qs (okL ok0 (QK lo id (.ext s')) (QF L id (.ext O' D'))) w' (QK lo id (.ext s')) (QF L id (.ext O' D')) x v:=by
  intro x v hx;refine hx.turn ⟨_,hid⟩ hlo h.apart (fun b h1 h2=>hsame b h1 (fun ho=>h2 ((hLO b).2 ho))) hok (fun x v hr hx=>?_)
  grind
 refine ⟨w1,hle,QL.refl _ _,?_,h.size,fun t=>all _ _ (h.env t),fun i oi hi=>?_,fun i j oi oj b hij hi hj h1 h2=>?_,h.pin⟩
 ·obtain ⟨rs,e1,e2,e3⟩:=h.defers
  refine ⟨rs,e1,e2,fun r hr=>?_⟩
  obtain ⟨g1,g2,g3⟩:=e3 r hr;have hlt:=(Qzs.1 g1).1;have hnO:¬ O r:=fun ho=>g3 id _ hid ((hLO r).2 ho)
  refine ⟨(hsame r hlt hnO).trans g1,?_,fun i oi hi he=>?_⟩
  ·rintro (hf | ⟨hf,hnf⟩)
   ·exact g2 hf
   ·rcases hp.okd r hf with h1 | h1 | ⟨_,h1⟩ | h1
    ·exact hnf h1
    ·grind
    ·rcases h1 with ⟨c,t,f,h1⟩ | ⟨es,k,h1⟩<;>rw[g1] at h1<;>cases h1
    ·omega
  grind
 ·by_cases hii:i=id
  ·subst hii
   simp only[QK,if_true,Option.some.injEq] at hi;subst hi;simp only[QF,if_true];refine ⟨fun b hb=>⟨?_,hp.lt b (hp.sub b hb),hp.sub b hb⟩,fun b hb=>?_,hp.J⟩
   ·rintro (hf | ⟨_,hf⟩)
    ·rcases hp.new b hb with h1 | h1
     ·exact (hO b h1).1 hf
     ·exact h.frlt h1 hf
    ·exact hf hb
   ·by_cases hbo:O' b
    ·exact .inl hbo
    ·refine .inr ⟨.inr ⟨hb,hbo⟩,?_,fun j oj hj he=>?_⟩
     ·rcases hp.okd b hb with h1 | h1 | ⟨h1,_⟩ | h1
      all_goals grind
     grind
  ·simp only[QK,hii,if_false] at hi
   simp only[QF,hii,if_false];have hne:∀ b,(L i).has b->¬ O b:=fun b hb ho=>h.apart i id oi _ b hii hi hid hb ((hLO b).2 ho)
   refine ((h.objs i oi hi).stay hkw h.frl (fun b hb hlt=>hsame b hlt (hne b hb)) (fun b hb hlt=>⟨hok b hb hlt,hsame b hlt (fun ho=>hb.2 id _ hid ((hLO b).2 ho))⟩) (fun _=>all)).frame (fun b hb=>?_) (fun b hb=>.inl hb)
   rintro (hf | ⟨hf,hnf⟩)
   ·exact ((h.objs i oi hi).lt hb).1 hf
   ·exact hoth b hf hnf i oi hii hi hb
 ·by_cases hii:i=id
  ·have hjj:j≠id:=fun e=>hij (hii.trans e.symm)
   simp only[QF,hii,if_true,Lay.has] at h1;simp only[QK,hjj,if_false] at hj;simp only[QF,hjj,if_false] at h2;rcases hp.new b h1 with h3 | h3
   ·exact h.apart id j _ oj b (fun e=>hjj e.symm) hid hj ((hLO b).2 h3) h2
   ·have:=((h.objs j oj hj).lt h2).2;omega
  ·simp only[QK,hii,if_false] at hi
   simp only[QF,hii,if_false] at h1;by_cases hjj:j=id
   ·simp only[QF,hjj,if_true,Lay.has] at h2
    rcases hp.new b h2 with h3 | h3
    ·exact h.apart i id oi _ b hii hi hid h1 ((hLO b).2 h3)
    ·have:=((h.objs i oi hi).lt h1).2;omega
   ·simp only[QK,hjj,if_false] at hj
    simp only[QF,hjj,if_false] at h2;exact h.apart i j oi oj b hij hi hj h1 h2
end
theorem Qv.move {ok ok' w w' x v} (h:Qv ok w x v) (hok:∀ b,ok b->Yy w b->ok' b/\w'.heap[b]?=w.heap[b]?):Qv ok' w' x v :=
 h.plain.mono fun b hb _=>hok b hb.1 hb.2
theorem Qs.move {ok ok' w w' lo L x v} (h:Qs ok w lo L x v)
  (hok:∀ b,ok b->Yy w b->ok' b/\w'.heap[b]?=w.heap[b]?) (hown:∀ id o b,lo id=some o->(L id).has b->w'.heap[b]?=w.heap[b]?):Qs ok' w' lo L x v:=by
 have cell:∀ id b k v u (xs:List Value) o,lo id=some o->L id=.arr v xs->(ok b\/v.ownBlock=some b)->w.cell? ⟨b,k,none⟩=some u ->
   (ok' b\/v.ownBlock=some b)/\w'.cell? ⟨b,k,none⟩=some u:=by
  intro id b k v u xs o ho hL h1 h2;have:=hok b;have:=YL h2;have:=@QAq w w' ⟨b,k,none⟩
  grind
 induction h with
 | iv x v h=>exact .iv x v (h.move hok)
 | _=>grind
structure Qka (w w':World):Prop where
 os:w'.os=w.os
 tape:w'.tape=w.tape
 output:w'.output=w.output
 size:w.heap.size<=w'.heap.size
theorem Qt.move {B B' ok ok' w w' lo L o l} (h:Qt B ok w lo L o l) (hw:Qka w w')
  (hok:∀ b,ok b->Yy w b->ok' b/\w'.heap[b]?=w.heap[b]?) (hl:∀ b,l.has b->¬ B' b/\w'.heap[b]?=w.heap[b]?)
  (hfr:∀ b,B b->ok b->B' b/\ok' b/\w'.heap[b]?=w.heap[b]?)
  (all:∀ x v,Qs ok w lo L x v->Qs ok' w' lo L x v):Qt B' ok' w' lo L o l:=by
 have row:∀ {e sz n v xs},Xm B w e sz v n xs->(∀ b,v.ownBlock=some b->l.has b)->Xm B' w' e sz v n xs:=fun h1 h2 =>
  ⟨(Xm.stay (Fr:=B) h1 fun b hb=>(hl b (h2 b hb)).2).own,fun b hb=>(hl b (h2 b hb)).1⟩
 have mv:=fun x v (h:Qv ok w x v)=>h.move hok
 unfold Qt at h;split at h
 case h_2=>exact ⟨row h.1 fun b hb=>hb,h.2.1,h.2.2.1,h.2.2.2.1,by grind⟩
 case h_4 b vals =>
  obtain ⟨hB,⟨es,clock,hb,hm⟩,hd,hk,hr,ha⟩:=h;refine ⟨(hl b (.inl rfl)).1,⟨es,clock,(hl b (.inl rfl)).2.trans hb,hm⟩,hd,hk,fun i p q hp hq=>?_,ha⟩
  obtain ⟨xs,h1,h2,h3,h4,h5⟩:=hr i p q hp hq;exact ⟨xs,row h1 fun b' hb'=>.inr ⟨q,QzB hq,hb'⟩,h2,h3,h4,by grind⟩
 case h_5 =>
  obtain ⟨hB,r,since,sn,hb,hi⟩:=h;refine ⟨(hl _ rfl).1,r,since,sn,(hl _ rfl).2.trans hb,?_⟩;cases r with
  | none=>exact hi
  | some r =>
    obtain ⟨es,h1,h2,h3,h4,h5,h6⟩:=hi;obtain ⟨h7,h8⟩:=hok r h1 (.inr ⟨_,_,h2⟩);exact ⟨es,h7,h8.trans h2,h3,by grind,h5,h6⟩
 case h_6 =>
  obtain ⟨h1,h2,h3⟩:=h;exact ⟨by have:=hw.size;grind,by grind,Ext.stay _ _ _ w w' h3 ⟨hw.os,hw.tape,hw.output,hw.size,by grind⟩⟩
 all_goals grind [Qt]
section
variable {ok0:Nat->Prop} {N:Fm} {w0:ZR} {lk:Nat->AV} {lo:Nat->Option AO} {a:Act} {w:World} {L:Nat->Lay}
theorem Rel.move {ok1 N1 w1 lk1 a1 w'} (h:Rel ok0 N w0 lk lo a w L) (hw:Qka w w') (hk:QL w1.fr w1.w w')
  (hd:US w1.fr lo L w' a1.defers) (hs:a1.tmps.size=N1.n) (ht:∀ t,Qs (okL ok0 lo L) w lo L (lk1 t) (a1.tmps.getD t undef)) (hp:∀ t,N1.pins.contains t=true->a1.tmps.getD t undef=w1.pin t)
  (hok:∀ b,okL ok0 lo L b->Yy w b->ok1 b/\w'.heap[b]?=w.heap[b]?) (hown:∀ id o b,lo id=some o->(L id).has b->¬ w1.fr b/\w'.heap[b]?=w.heap[b]?)
  (hfr:∀ b,w0.fr b->okL ok0 lo L b->w1.fr b/\ok1 b/\w'.heap[b]?=w.heap[b]?):Rel ok1 N1 w1 lk1 lo a1 w' L:=by
 have hok':∀ b,okL ok0 lo L b->Yy w b->okL ok1 lo L b/\w'.heap[b]?=w.heap[b]?:=fun b h1 h2=>⟨⟨(hok b h1 h2).1,h1.2⟩,(hok b h1 h2).2⟩
 have all:∀ x v,Qs (okL ok0 lo L) w lo L x v->Qs (okL ok1 lo L) w' lo L x v:=fun x v hx=>hx.move hok' (fun id o b h1 h2=>(hown id o b h1 h2).2)
 exact ⟨hk,hd,hs,fun t=>all _ _ (ht t),fun id o ho=>(h.objs id o ho).move hw hok' (fun b hb=>hown id o b ho hb) (fun b h1 h2=>⟨(hfr b h1 h2).1,⟨(hfr b h1 h2).2.1,h2.2⟩,(hfr b h1 h2).2.2⟩) all,h.apart,hp⟩
end
mutual
def scr (ids:List Nat):AV->AV
 | .iv x=>.iv x
 | .agg cs=>.agg (scrL ids cs)
 | .loc id off=>if ids.contains id then .loc id off else .iv .any
 | .eloc id n i off=>if ids.contains id then .eloc id n i off else .iv .any
 | .mref id k n=>if ids.contains id then .mref id k n else .iv .any
 | .nilr sz=>.nilr sz
 | .zsl sz=>.zsl sz
 | .oref id=>if ids.contains id then .oref id else .iv .any
 | .belem id i=>if ids.contains id then .belem id i else .iv .any
 | .clo g fs cs=>.clo g (scrL ids fs) (scrL ids cs)
 | .tup cs=>.tup (scrL ids cs)
 | .cb id=>if ids.contains id then .cb id else .iv .any
 | .aref id n=>if ids.contains id then .aref id n else .iv .any
def scrL (ids:List Nat):List AV->List AV
 | []=>[]
 | x::r=>scr ids x::scrL ids r
end
def qV (ids:List Nat):AO->AO
 | .box cs=>.box (scrL ids cs)
 | .arr e sz es mv=>.arr e sz (es.map (scrL ids)) mv
 | .mapd kvs=>.mapd kvs
 | .mapr e sz kvs pend=>.mapr e sz kvs pend
 | .siter s pos=>.siter s pos
 | .miter kvs seen=>.miter kvs seen
 | .bytes s=>.bytes s
 | .ext s=>.ext s
mutual
def rn (m:Nat->Nat):AV->AV
 | .iv x=>.iv x
 | .agg cs=>.agg (rnL m cs)
 | .loc id off=>.loc (m id) off
 | .eloc id n i off=>.eloc (m id) n i off
 | .aref id n=>.aref (m id) n
 | .mref id k n=>.mref (m id) k n
 | .nilr sz=>.nilr sz
 | .zsl sz=>.zsl sz
 | .oref id=>.oref (m id)
 | .belem id i=>.belem (m id) i
 | .clo g fs cs=>.clo g (rnL m fs) (rnL m cs)
 | .tup cs=>.tup (rnL m cs)
 | .cb id=>.cb (m id)
def rnL (m:Nat->Nat):List AV->List AV
 | []=>[]
 | x::r=>rn m x::rnL m r
end
def rnO (m:Nat->Nat):AO->AO
 | .box cs=>.box (rnL m cs)
 | .arr e sz es mv=>.arr e sz (es.map (rnL m)) mv
 | o=>o
theorem Qdg (m):∀ cs,rnL m cs=cs.map (rn m)
 | []=>rfl
 | x::r=>by simp[rnL,Qdg m r]
theorem WB (m cs):(rnL m cs).length=cs.length:=by simp[Qdg]
theorem WC (m:Nat->Nat) (cs:List AV) (k:Nat):(rnL m cs)[k]?=(cs[k]?).map (rn m):=by simp[Qdg]
theorem QmG {ok ok' w lo lo' L L' m} (hok:∀ b,ok b->ok' b) (hlo:∀ id o,lo id=some o->lo' (m id)=some (rnO m o)/\L' (m id)=L id) {x v}
  (h:Qs ok w lo L x v):Qs ok' w lo' L' (rn m x) v:=by
 induction h with
 | iv x v h=>exact .iv x v (h.mono fun b hb _=>⟨hok b hb,rfl⟩)
 | aref id e sz es mv v xs ho hL h1 =>
   have:=Qs.aref (ok:=ok') (w:=w) (lo:=lo') (L:=L') (m id) e sz (es.map (rnL m)) mv v xs (hlo id _ ho).1 ((hlo id _ ho).2.trans hL) h1
   rwa [Qzw] at this
 | oref id b o ho hn hL=>exact .oref (m id) b _ (hlo id _ ho).1 (by cases o<;>first | exact hn | cases hn) ((hlo id _ ho).2.trans hL)
 | _=>grind [rn,rnO,WB,WC]
theorem QnB {B ok ok' w lo lo' L L' m} (hok:∀ b,ok b->ok' b) (hlo:∀ id o,lo id=some o->lo' (m id)=some (rnO m o)/\L' (m id)=L id) {o l}
  (h:Qt B ok w lo L o l):Qt B ok' w lo' L' (rnO m o) l:=by
 have all:=fun x v=>QmG (w:=w) (x:=x) (v:=v) hok hlo
 have mono:∀ x v,Qv ok w x v->Qv ok' w x v:=fun _ _ h=>h.mono fun b hb _=>⟨hok b hb,rfl⟩
 have it:∀ kvs seen r since sn,Yo ok w kvs seen r since sn->Yo ok' w kvs seen r since sn:=fun _ _ _ _ _ h=>h.mono fun b hb _=>⟨hok b hb,rfl⟩
 unfold Qt at h;split at h<;>grind [Qt,rnO,WB,WC]
theorem QaK (ids):∀ cs,scrL ids cs=cs.map (scr ids)
 | []=>rfl
 | x::r=>by simp[scrL,QaK ids r]
theorem Vd (ids:List Nat) (cs:List AV) (k:Nat):(scrL ids cs)[k]?=(cs[k]?).map (scr ids):=by simp[QaK]
theorem Y8 (ids cs):(scrL ids cs).length=cs.length:=by simp[QaK]
def qv (lo:Nat->Option AO) (L:Nat->Lay) (b:Nat):Prop:=∃ id ob,lo id=some ob/\(L id).has b
structure QgQ (Fr ok:Nat->Prop) (w:World) (lo:Nat->Option AO) (L:Nat->Lay):Prop where
 objs:∀ id o,lo id=some o->Qt Fr (okL ok lo L) w lo L o (L id)
 apart:∀ i j oi oj b,i≠j->lo i=some oi->lo j=some oj->(L i).has b->¬ (L j).has b
def FrO (w:World) (lo:Nat->Option AO) (L:Nat->Lay) (b:Nat):Prop:=b<w.heap.size/\¬ qv lo L b
def Yn:AO->AO->Lay->Lay->Prop
 | .box _,.box _,.box b,.box b'=>b'=b
 | .arr e sz es _,.arr e' sz' es' mv',.arr v _,.arr v' _=>v'=v/\e'=e/\sz'=sz/\es'.length=es.length/\mv'=es'.length
 | .mapd _,.mapd _,.one b,.one b'=>b'=b
 | _,_,_,_=>False
def Y3:AO->Bool
 | .ext _=>false
 | _=>true
def Qnb (P:Program) (K:World->Prop) (f:FuncId) (args:List AV) (lo:Nat->Option AO) (st:List Nat) (y:AV) (lo':Nat->Option AO):Prop :=
 ∀ (w:World) (ok:Nat->Prop) (L:Nat->Lay) (vs:List Value),(∀ w',QL (FrO w lo L) w w'->K w')->(∀ b,w.heap.size<=b->ok b)->(∀ b,qv lo L b->ok b) ->
  QgQ (FrO w lo L) ok w lo L->vs.length=args.length->(∀ (k:Nat) (x:AV) (u:Value),args[k]?=some x->vs[k]?=some u->Qs (okL ok lo L) w lo L x u) ->
  Calls P f vs.toArray w (fun e w'=>∃ v L',e=.returned v/\QgQ (FrO w lo L) ok w' lo' L'/\Qs (okL ok lo' L') w' lo' L' y v/\QL (FrO w lo L) w w' /\
   ∀ i∈st,∀ o,lo i=some o->∃ o',lo' i=some o'/\Yn o o' (L i) (L' i))
mutual
def clA (dom:List Nat):AV->Bool
 | .iv _=>true
 | .agg cs=>clAL dom cs
 | .loc id _=>dom.contains id
 | .eloc id _ _ _=>dom.contains id
 | .aref id _=>dom.contains id
 | .mref id _ _=>dom.contains id
 | .nilr _=>true
 | .zsl _=>true
 | .oref id=>dom.contains id
 | .belem id _=>dom.contains id
 | .clo _ fs cs=>clAL dom fs&&clAL dom cs
 | .tup cs=>clAL dom cs
 | .cb id=>dom.contains id
def clAL (dom:List Nat):List AV->Bool
 | []=>true
 | x::r=>clA dom x&&clAL dom r
end
theorem Qbk {dom:List Nat}:∀ {cs:List AV} {k:Nat} {x:AV},clAL dom cs=true->cs[k]?=some x->clA dom x=true
 | [],k,x,_,h=>by simp at h
 | y::r,k,x,h,hx=>by
   simp only[clAL,Qzm] at h;cases k with
   | zero=>simp at hx;subst hx;exact h.1
   | succ k=>exact Qbk h.2 (by simpa using hx)
def clO (dom:List Nat):AO->Bool
 | .box cs=>clAL dom cs
 | .arr _ _ es _=>es.all (clAL dom)
 | _=>true
def nth (ids:List Nat) (i:Nat):Nat:=ids.getD i 0
def JH:List Nat->Nat->Option Nat
 | [],_=>none
 | x::r,i=>if i=x then some 0 else (JH r i).map (·+1)
theorem Vq:∀ {ids i j},JH ids i=some j->j<ids.length/\nth ids j=i
 | [],i,j,h=>by simp[JH] at h
 | x::r,i,j,h=>by
   have:=@Vq r i;cases h:JH r i<;>grind [JH,nth]
theorem Yb:∀ {ids j},ids.Nodup->j<ids.length->JH ids (nth ids j)=some j
 | [],j,_,h=>by simp at h
 | x::r,j,hn,h=>by
   cases j with
   | zero=>simp[nth,JH]
   | succ j =>
     have:=@Yb r j;have:j<r.length->r[j]!∈r:=fun h=>by simp[h]
     grind [JH,nth]
structure HG (P:Program) (K:World->Prop) (g:FuncId) (avs:List AV) (ids keep:List Nat) (lo:Nat->Option AO) (y':AV) (lo':Nat->Option AO) (args:List AV) (lo0:Nat->Option AO) (st:List Nat) (y:AV) (lo1:Nat->Option AO) (dom:List Nat):Prop where
 nd:ids.Nodup
 hargs:avs=args.map (rn (nth ids))
 cla:args.all (clA dom)=true
 dom0:∀ i,dom.contains i=true↔(lo0 i).isSome=true
 hlo:∀ i o,lo0 i=some o->i<ids.length/\lo (nth ids i)=some (rnO (nth ids) o)/\clO dom o=true/\Y3 o=true
 hall:∀ i,i<ids.length->lo0 i=none->lo (nth ids i)=none
 hg:Qnb P K g args lo0 st y lo1
 hlt:∀ i o,lo1 i=some o->i<ids.length/\Y3 o=true
 hy:y'=rn (nth ids) y
 hlo':∀ i,lo' i=match JH ids i with
  | some j=>(lo1 j).map (rnO (nth ids))
  | none=>if keep.contains i then (lo i).map (qV keep) else none
 hkeep:∀ i,keep.contains i=true->∀ j,JH ids i=some j->j∈st
section
variable {P:Program} {K:World->Prop} {ok0:Nat->Prop} {N:Fm} {w0:ZR} {lk:Nat->AV} {lo:Nat->Option AO} {a:Act} {w:World} {L:Nat->Lay}
theorem Qdf {ok ok' lo0 L0 m dom} (hok:∀ b,ok b->ok' b) (hd:∀ i,dom.contains i=true->(lo0 i).isSome=true) (hlo:∀ i o,lo0 i=some o->lo (m i)=some (rnO m o)/\L0 i=L (m i))
  {x v} (hc:clA dom x=true) (h:Qs ok w lo L (rn m x) v):Qs ok' w lo0 L0 x v:=by
 have ex:∀ i,dom.contains i=true->∃ o,lo0 i=some o/\lo (m i)=some (rnO m o)/\L0 i=L (m i):=fun i hi=>by
  obtain ⟨o,ho⟩:=Qz3.1 (hd i hi);exact ⟨o,ho,hlo i o ho⟩
 have gl:=@Qbk dom;generalize hq:rn m x=y at h
 induction h generalizing x with
 | iv z v h=>cases x<;>simp only[rn,reduceCtorEq,AV.iv.injEq] at hq;subst hq;exact .iv _ _ (h.mono fun b hb _=>⟨hok b hb,rfl⟩)
 | _=>cases x<;>simp only[rn,reduceCtorEq] at hq<;>first | grind [clA,WC,WB] | (obtain ⟨o,_,_,_⟩:=ex _ hc;cases o<;>grind [rnO])
theorem Qe1 {B B' ok ok' lo0 L0 m dom} (hok:∀ b,ok b->ok' b) (hd:∀ i,dom.contains i=true->(lo0 i).isSome=true) (hlo:∀ i o,lo0 i=some o->lo (m i)=some (rnO m o)/\L0 i=L (m i))
  {o l} (hc:clO dom o=true) (hne:Y3 o=true) (hB:∀ b,l.has b->¬ B' b) (h:Qt B ok w lo L (rnO m o) l):Qt B' ok' w lo0 L0 o l:=by
 have all:=fun x v=>Qdf (w:=w) (x:=x) (v:=v) hok hd hlo
 have mono:∀ x v,Qv ok w x v->Qv ok' w x v:=fun _ _ h=>h.mono fun b hb _=>⟨hok b hb,rfl⟩
 have it:∀ kvs seen r since sn,Yo ok w kvs seen r since sn->Yo ok' w kvs seen r since sn:=fun _ _ _ _ _ h=>h.mono fun b hb _=>⟨hok b hb,rfl⟩
 have gl:=@Qbk dom;cases o with
 | arr e sz es mv =>
   cases l with
   | arr v xs =>
     obtain ⟨ho,hm,hz,h1,hx⟩:=h;rw[Qzw] at ho hm;refine ⟨⟨ho.own,fun b hb=>hB b hb⟩,hm,fun c hcm=>?_,h1,fun i j c x u h2 h3 h4=>?_⟩
     ·have:=hz (rnL m c) (QzI.2 ⟨c,hcm,rfl⟩)
      rwa [WB] at this
     ·exact all _ _ (gl (QzX.1 hc c (QzB h2)) h3) (hx i j (rnL m c) (rn m x) u (by simp[h2]) (by simp[WC,h3]) h4)
   | _=>exact h.elim
 | mapr e sz kvs pend =>
   cases l with
   | map b vals =>
     obtain ⟨_,hcm,hd',hk,hr,ha⟩:=h;refine ⟨hB b (.inl rfl),hcm,hd',hk,fun i p q hp hq=>?_,ha⟩
     obtain ⟨xs,h1,h2,h3,h4,h5⟩:=hr i p q hp hq;exact ⟨xs,⟨h1.own,fun b' hb'=>hB b' (.inr ⟨q,QzB hq,hb'⟩)⟩,h2,h3,h4,by grind⟩
   | _=>exact h.elim
 | mapd kvs =>
   cases l with
   | one b =>
     obtain ⟨_,es,clock,hb,hm,hd',hx⟩:=h;exact ⟨hB b rfl,es,clock,hb,hm,hd',by grind⟩
   | _=>exact h.elim
 | _=>cases l<;>simp only[Qt,rnO] at h |-<;>first | exact h.elim | grind [clO,WC,WB,Y3]
end
theorem Qt.frameN' {B B' ok w lo L o l} (h:Qt B ok w lo L o l) (hx:Y3 o=true) (hn:∀ b,l.has b->¬ B' b):Qt B' ok w lo L o l:=by
 cases o with
 | mapr e sz kvs pend =>
   cases l with
   | map b vals =>
     obtain ⟨hB,hc,hd,hk,hr,ha⟩:=h;refine ⟨hn b (.inl rfl),hc,hd,hk,fun i p q hp hq=>?_,ha⟩
     obtain ⟨xs,h1,h2⟩:=hr i p q hp hq;exact ⟨xs,⟨h1.own,fun b hb=>hn b (.inr ⟨q,QzB hq,hb⟩)⟩,h2⟩
   | _=>exact h.elim
 | arr e sz es mv =>
   cases l with
   | arr v xs=>exact ⟨⟨h.1.own,fun b hb=>hn b hb⟩,h.2⟩
   | _=>exact h.elim
 | _=>cases l<;>grind [Qt,Y3]
section
variable {P:Program} {K:World->Prop} {ok0:Nat->Prop} {N:Fm} {w0:ZR} {lk:Nat->AV} {lo:Nat->Option AO} {a:Act} {w:World} {L:Nat->Lay}
def Qna (Fr ok':Nat->Prop) (keep:List Nat) (w w':World) (lo lo':Nat->Option AO) (L L':Nat->Lay) (id:Nat) (o:AO):Prop :=
 (lo' id=some (qV keep o)/\L' id=L id/\∀ b,(L id).has b->w'.heap[b]?=w.heap[b]?) \/
 (∃ o',lo' id=some o'/\Yn o o' (L id) (L' id)/\Qt Fr ok' w' lo' L' o' (L' id))
theorem QaH {o o' l l'} (h:Yn o o' l l'):(∃ c c' b,o=.box c/\o'=.box c'/\l=.box b/\l'=.box b)\/(∃ e sz es m es' v x x',o=.arr e sz es m/\o'=.arr e sz es' es'.length/\l=.arr v x/\l'=.arr v x'/\es'.length=es.length)\/(∃ k k' b,o=.mapd k/\o'=.mapd k'/\l=.one b/\l'=.one b):=by
 unfold Yn at h;split at h
 ·exact .inl ⟨_,_,_,rfl,rfl,rfl,by rw[h]⟩
 ·obtain ⟨rfl,rfl,rfl,e,rfl⟩:=h
  exact .inr (.inl ⟨_,_,_,_,_,_,_,_,rfl,rfl,rfl,rfl,e⟩)
 ·exact .inr (.inr ⟨_,_,_,rfl,rfl,rfl,by rw[h]⟩)
 ·cases h
theorem Qkr {Fr ok ok' ok'' w' lo' L' keep} (hok:∀ b,ok b->b<w.heap.size->ok' b/\w'.heap[b]?=w.heap[b]?)
  (hmv:∀ id e sz es mv,lo id=some (.arr e sz es mv)->mv<=es.length)
  (hkeep:∀ id o,keep.contains id=true->lo id=some o->Qna Fr ok'' keep w w' lo lo' L L' id o) {x v} (h:Qs ok w lo L x v):Qs ok' w' lo' L' (scr keep x) v:=by
 have cell:∀ id b k v u (xs:List Value),L id=.arr v xs->(∀ b,(L id).has b->w'.heap[b]?=w.heap[b]?)->(ok b\/v.ownBlock=some b)->w.cell? ⟨b,k,none⟩=some u ->
   ((ok' b\/v.ownBlock=some b)/\w'.cell? ⟨b,k,none⟩=some u):=by
  intro id b k v u xs hL hs h1 h2;have:=hok b;have:=Qz9 w ⟨b,k,none⟩ h2;have:=@QAq w w' ⟨b,k,none⟩
  grind
 induction h with
 | iv x v h=>simp only[scr];exact .iv x v (h.mono hok)
 | eloc id n i off e sz es mv v xs b ho hL hn hv =>
   simp only[scr];split
   ·rename_i hc
    rcases hkeep id _ hc ho with ⟨h1,h2,h3⟩ | ⟨o',h1,h2,h3⟩
    ·grind [qV]
    ·have:=QaH h2
     obtain ⟨es',x',rfl,hl',e4⟩:∃ es' x',o'=.arr e sz es' es'.length/\L' id=.arr v x'/\es'.length=es.length:=by grind
     refine .eloc id n i off _ _ _ _ _ _ b h1 hl' (by omega) fun hm=>?_
     have hn':n=es.length:=by omega
     obtain ⟨g1,g2,g3⟩:=hv (by have:=hmv id _ _ _ _ ho;omega)
     have hob:=g2 hn';refine ⟨g1,fun _=>hob,fun k hk=>⟨.inr hob,?_⟩⟩
     rw[hl'] at h3;obtain ⟨hown,_⟩:=h3;have hk':=hk;rw[hn',<- e4,<- hown.own.1] at hk';refine ⟨_,?_,Qzk hk'⟩;have:=hown.own.cells (g:=b) hob k _ (Qzk hk')
     rwa [QM,Qzx] at this
   ·exact .iv _ _ (.any _)
 | oref id b o ho hn hL =>
   simp only[scr];split
   ·rename_i hc
    have:=hkeep id _ hc ho;cases o<;>cases hn<;>rcases this with ⟨g1,g2,_⟩ | ⟨o',g1,g2,_⟩<;>first | (have:=QaH g2;grind) | grind [qV]
   ·exact .iv _ _ (.any _)
 | _ =>
   simp only[scr]
   try split
   all_goals first | exact .iv _ _ (.any _) | grind [Vd,Y8] | (rename_i hc;rcases hkeep _ _ hc ‹_› with ⟨h1,h2,h3⟩ | ⟨o',h1,h2,_⟩;grind [qV];have:=QaH h2;grind)
theorem QbQ {B B' ok ok' w' lo' L' keep o l} (hw:Qka w w') (hok:∀ b,ok b->b<w.heap.size->ok' b/\w'.heap[b]?=w.heap[b]?)
  (hl:∀ b,l.has b->¬ B' b/\w'.heap[b]?=w.heap[b]?) (hfr:∀ b,B b->ok b->B' b/\ok' b/\w'.heap[b]?=w.heap[b]?)
  (all:∀ x v,Qs ok w lo L x v->Qs ok' w' lo' L' (scr keep x) v) (h:Qt B ok w lo L o l):Qt B' ok' w' lo' L' (qV keep o) l:=by
 have row:∀ {e sz n v xs},Xm B w e sz v n xs->(∀ b,v.ownBlock=some b->l.has b)->Xm B' w' e sz v n xs:=fun h1 h2 =>
  ⟨(Xm.stay (Fr:=B) h1 fun b hb=>(hl b (h2 b hb)).2).own,fun b hb=>(hl b (h2 b hb)).1⟩
 have mv:=fun x v (h:Qv ok w x v)=>h.mono hok
 have it:=fun kvs seen r since sn (h:Yo ok w kvs seen r since sn)=>h.mono hok
 cases o with
 | arr e sz es mv =>
   cases l with
   | arr v xs =>
     obtain ⟨ho,hm,hz,h1,hx⟩:=h;refine ⟨by rw[Qzw];exact row ho fun b hb=>hb,by rw[Qzw];exact hm,?_,h1,?_⟩<;>grind [Vd,Y8]
   | _=>exact h.elim
 | mapr e sz kvs pend =>
   cases l with
   | map b vals =>
     obtain ⟨hB,⟨es,clock,hb,hm⟩,hd,hk,hr,ha⟩:=h;refine ⟨(hl b (.inl rfl)).1,⟨es,clock,(hl b (.inl rfl)).2.trans hb,hm⟩,hd,hk,fun i p q hp hq=>?_,ha⟩
     obtain ⟨xs,h1,h2,h3,h4,h5⟩:=hr i p q hp hq;exact ⟨xs,row h1 fun b' hb'=>.inr ⟨q,QzB hq,hb'⟩,h2,h3,h4,by grind⟩
   | _=>exact h.elim
 | ext s =>
   cases l with
   | ext O D =>
     obtain ⟨h1,h2,h3⟩:=h;exact ⟨by have:=hw.size;grind,by grind,s.stay O D w w' h3 ⟨hw.os,hw.tape,hw.output,hw.size,by grind⟩⟩
   | _=>exact h.elim
 | mapd kvs =>
   cases l with
   | one b =>
     obtain ⟨_,es,clock,hb,hm,hd',hx⟩:=h;exact ⟨(hl b rfl).1,es,clock,(hl b rfl).2.trans hb,hm,hd',by grind⟩
   | _=>exact h.elim
 | _=>cases l<;>simp only[Qt,qV] at h |-<;>first | exact h.elim | grind [Vd,Y8]
theorem Qfm {g:FuncId} {avs args:List AV} {ids keep st dom:List Nat} {y y':AV} {lo' lo0 lo1:Nat->Option AO} {vs:List Value} (hK:∀ w',QL w0.fr w0.w w'->K w') (hok0:∀ b,¬ w0.fr b->ok0 b) (h:Rel ok0 N w0 lk lo a w L)
  (hh:HG P K g avs ids keep lo y' lo' args lo0 st y lo1 dom) (hl:vs.length=avs.length) (hx:∀ (k:Nat) (x:AV) (u:Value),avs[k]?=some x->vs[k]?=some u->Qs (okL ok0 lo L) w lo L x u) :
  Calls P g vs.toArray w (fun e w'=>∃ v L',e=.returned v/\Rel ok0 N w0 (fun t=>scr keep (lk t)) lo' a w' L'/\Qs (okL ok0 lo' L') w' lo' L' y' v):=by
 let m:=nth ids
 let L0:Nat->Lay:=fun i=>L (m i)
 have hinj:∀ i j,i<ids.length->j<ids.length->m i=m j->i=j:=fun i j hi hj e=>by
  have h1:=Yb hh.nd hi;have h2:=Yb hh.nd hj
  grind
 have hdom:∀ i,dom.contains i=true->(lo0 i).isSome=true:=fun i hi=>(hh.dom0 i).1 hi
 have hlo0:∀ i o,lo0 i=some o->lo (m i)=some (rnO m o)/\L0 i=L (m i):=fun i o ho=>⟨(hh.hlo i o ho).2.1,rfl⟩
 have hlt0:∀ i o,lo0 i=some o->i<ids.length:=fun i o ho=>(hh.hlo i o ho).1
 have hown:∀ b,qv lo0 L0 b->∃ i o,lo0 i=some o/\lo (m i)=some (rnO m o)/\(L (m i)).has b:=fun b ⟨i,o,ho,hb⟩=>⟨i,o,ho,(hlo0 i o ho).1,hb⟩
 have hownfr:∀ b,qv lo0 L0 b->¬ w0.fr b/\b<w.heap.size:=fun b hb=>by
  obtain ⟨i,o,_,h1,h2⟩:=hown b hb;exact (h.objs _ _ h1).lt h2
 let okc:Nat->Prop:=fun b=>okL ok0 lo L b\/qv lo0 L0 b
 have hokc:∀ b,okL ok0 lo L b->okL okc lo0 L0 b:=fun b hb=>⟨.inl hb,fun i o ho hbb=>hb.2 _ _ (hlo0 i o ho).1 hbb⟩
 have hlaid:QgQ (FrO w lo0 L0) okc w lo0 L0:=by
  refine ⟨fun i o ho=>?_,fun i j oi oj b hij hi hj h1 h2=>?_⟩
  ·obtain ⟨_,h2,h3,h4⟩:=hh.hlo i o ho
   exact Qe1 hokc hdom hlo0 h3 h4 (fun b hb hf=>hf.2 ⟨i,o,ho,hb⟩) (h.objs _ _ h2)
  ·exact h.apart (m i) (m j) _ _ b (fun e=>hij (hinj i j (hlt0 i oi hi) (hlt0 j oj hj) e)) (hlo0 i oi hi).1 (hlo0 j oj hj).1 h1 h2
 have hal:vs.length=args.length:=by rw[hl,hh.hargs,Qzw]
 have hfrO:∀ b,w0.fr b->FrO w lo0 L0 b:=fun b hb=>⟨h.frl b hb,fun ho=>(hownfr b ho).1 hb⟩
 refine (hh.hg w okc L0 vs (fun w' hk=>hK w' (h.below.trans (hk.mono hfrO))) (fun b hb=>.inl ⟨hok0 b (h.frlt hb),fun i o ho hbb=>by have:=((h.objs i o ho).lt hbb).2;omega⟩) (fun b hb=>.inr hb) hlaid hal (fun k x u hxk hu=>?_)).mono ?_
 ·have hcl:clA dom x=true:=QzX.1 hh.cla x (QzB hxk)
  exact Qdf hokc hdom hlo0 hcl (hx k (rn m x) u (by rw[hh.hargs,Qzu,hxk];rfl) hu)
 rintro e w' ⟨v,L1,rfl,hlaid1,hrep,hk,hst⟩
 let L':Nat->Lay:=fun i=>match JH ids i with
  | some j=>L1 j
  | none=>L i
 have hlom:∀ j,j<ids.length->lo' (m j)=(lo1 j).map (rnO m)/\L' (m j)=L1 j:=fun j hj=>by
  have:=Yb hh.nd hj;refine ⟨by rw[hh.hlo'];simp only[m,this],by simp only[L',m,this]⟩
 have hsame:∀ b,b<w.heap.size->¬ qv lo0 L0 b->w'.heap[b]?=w.heap[b]?:=fun b h1 h2=>hk.block b ⟨h1,h2⟩
 have hnew:∀ j o b,lo1 j=some o->(L1 j).has b->qv lo0 L0 b\/w.heap.size<=b:=fun j o b ho hb=>by
  have h1:=((hlaid1.objs j o ho).lt hb).1;by_cases hbs:b<w.heap.size
  ·exact .inl (Classical.byContradiction fun hn=>h1 ⟨hbs,hn⟩)
  ·exact .inr (QAA.1 hbs)
 have hother:∀ i o,JH ids i=none->lo i=some o->∀ b,(L i).has b->¬ qv lo0 L0 b/\b<w.heap.size/\¬ w0.fr b:=fun i o hi ho b hb=>by
  obtain ⟨h1,h2⟩:=(h.objs i o ho).lt hb;refine ⟨fun hown'=>?_,h2,h1⟩
  obtain ⟨j,oj,hj,hj',hjb⟩:=hown b hown'
  have hne:i≠m j:=fun e=>by
   have hidx:=Yb hh.nd (hlt0 j oj hj);have e':i=nth ids j:=e;rw[<- e',hi] at hidx;cases hidx
  exact h.apart i (m j) o _ b hne ho hj' hb hjb
 have hkept:∀ i o,JH ids i=none->lo' i=some o->keep.contains i=true/\∃ o0,lo i=some o0/\o=qV keep o0:=fun i o hi ho=>by
  rw[hh.hlo',hi] at ho;simp only at ho;split at ho
  ·rename_i hc
   rw[Qzo] at ho;obtain ⟨o0,h1,h2⟩:=ho;exact ⟨hc,o0,h1,h2.symm⟩
  ·cases ho
 have hin:∀ i j o,JH ids i=some j->lo' i=some o->j<ids.length/\i=m j/\∃ o1,lo1 j=some o1/\o=rnO m o1:=fun i j o hi ho=>by
  obtain ⟨h1,h2⟩:=Vq hi;rw[hh.hlo',hi] at ho;simp only[Qzo] at ho;obtain ⟨o1,h3,h4⟩:=ho;exact ⟨h1,h2.symm,o1,h3,h4.symm⟩
 have hLn:∀ i,JH ids i=none->L' i=L i:=fun i hi=>by simp only[L',hi]
 have hok:∀ b,okL ok0 lo L b->b<w.heap.size->okL ok0 lo' L' b/\w'.heap[b]?=w.heap[b]?:=fun b hb hbs=>by
  have hno:¬ qv lo0 L0 b:=fun ho=>by
   obtain ⟨i,o,_,h1,h2⟩:=hown b ho;exact hb.2 _ _ h1 h2
  refine ⟨⟨hb.1,fun i o ho hbb=>?_⟩,hsame b hbs hno⟩
  cases hi:JH ids i with
  | none =>
    obtain ⟨_,o0,h1,_⟩:=hkept i o hi ho;rw[hLn i hi] at hbb;exact hb.2 i o0 h1 hbb
  | some j =>
    obtain ⟨h1,rfl,o1,h2,_⟩:=hin i j o hi ho
    grind
 have hokn:∀ b,okL okc lo1 L1 b->okL ok0 lo' L' b:=fun b hb=>by
  refine ⟨?_,fun i o ho hbb=>?_⟩
  ·grind
  ·cases hi:JH ids i with
   | none =>
     obtain ⟨_,o0,h1,_⟩:=hkept i o hi ho
     grind
   | some j =>
     obtain ⟨h1,rfl,o1,h2,_⟩:=hin i j o hi ho;rw[(hlom j h1).2] at hbb;exact hb.2 j o1 h2 hbb
 have hrn:∀ j o,lo1 j=some o->lo' (m j)=some (rnO m o)/\L' (m j)=L1 j:=fun j o ho=>by
  obtain ⟨h1,h2⟩:=hlom j (hh.hlt j o ho).1;exact ⟨by rw[h1,ho];rfl,h2⟩
 have hobj1:∀ j o,lo1 j=some o->Qt w0.fr (okL ok0 lo' L') w' lo' L' (rnO m o) (L1 j):=fun j o ho=>by
  have h1:=QnB hokn hrn (hlaid1.objs j o ho);have hne:=(hh.hlt j o ho).2;refine h1.frameN' (by cases o<;>first | rfl | cases hne) fun b hb hf=>?_
  rcases hnew j o b ho hb with h3 | h3
  ·exact (hownfr b h3).1 hf
  ·exact h.frlt h3 hf
 have hkeeps:∀ i o,keep.contains i=true->lo i=some o->Qna w0.fr (okL ok0 lo' L') keep w w' lo lo' L L' i o:=fun i o hc ho=>by
  cases hi:JH ids i with
  | none=>exact .inl ⟨by rw[hh.hlo',hi];simp only[hc,if_true,ho,QAt],hLn i hi,fun b hb=>hsame b (hother i o hi ho b hb).2.1 (hother i o hi ho b hb).1⟩
  | some j =>
    obtain ⟨h1,h2⟩:=Vq hi;have hjs:=hh.hkeep i hc j hi;cases hlo0j:lo0 j with
    | none =>
      have:=hh.hall j h1 hlo0j;rw[h2,ho] at this;cases this
    | some o0 =>
      obtain ⟨o',h3,h4⟩:=hst j hjs o0 hlo0j;have h5:=(hlo0 j o0 hlo0j).1;have h5':lo i=some (rnO m o0):=by rw[<- h2];exact h5
      rw[ho] at h5';injection h5' with h5'
      subst h5';obtain ⟨h6,h7⟩:=hrn j o' h3;have h6':lo' i=some (rnO m o'):=by rw[<- h2];exact h6
      have h7':L' i=L1 j:=by rw[<- h2];exact h7
      have hLi:L i=L0 j:=by show L i=L (m j);rw[<- h2]
      refine .inr ⟨rnO m o',h6',?_,by rw[h7'];exact hobj1 j o' h3⟩
      rw[h7',hLi]
      revert h4
      generalize L0 j=l0;generalize L1 j=l1;cases o0<;>cases o'<;>cases l0<;>cases l1<;>simp only[Yn,rnO,Qzw,imp_self,false_implies]
 have hmvle:∀ id e sz es mv,lo id=some (.arr e sz es mv)->mv<=es.length:=fun id e sz es mv ho=>by
  have hob:=h.objs id _ ho;cases hL:L id with
  | arr v xs=>rw[hL] at hob;exact hob.2.1
  | _=>rw[hL] at hob;exact hob.elim
 have all:∀ x v,Qs (okL ok0 lo L) w lo L x v->Qs (okL ok0 lo' L') w' lo' L' (scr keep x) v:=fun x v hr=>Qkr (Fr:=w0.fr) hok hmvle hkeeps hr
 have hkw:QL w0.fr w w':=hk.mono hfrO;refine ⟨v,L',rfl,⟨h.below.trans hkw,?_,h.size,fun t=>all _ _ (h.env t),fun i o ho=>?_,fun i j oi oj b hij hi hj h1 h2=>?_,h.pin⟩,?_⟩
 ·refine h.defers.stay (fun r hr hno=>hsame r hr fun ho=>?_) (fun r hr hno i o ho hb=>?_)
  ·obtain ⟨i,o,_,h1,h2⟩:=hown r ho
   exact hno _ _ h1 h2
  ·cases hi:JH ids i with
   | none =>
     obtain ⟨_,o0,h1,_⟩:=hkept i o hi ho;rw[hLn i hi] at hb;exact hno i o0 h1 hb
   | some j =>
     obtain ⟨h1,rfl,o1,h2,_⟩:=hin i j o hi ho
     grind
 ·cases hi:JH ids i with
  | none =>
    obtain ⟨_,o0,h1,rfl⟩:=hkept i o hi ho;rw[hLn i hi]
    exact QbQ ⟨hk.os,hk.tape,hk.output,hk.size⟩ hok (fun b hb=>⟨(hother i o0 hi h1 b hb).2.2,hsame b (hother i o0 hi h1 b hb).2.1 (hother i o0 hi h1 b hb).1⟩)
     (fun b hb hbok=>⟨hb,(hok b hbok (h.frl b hb)).1,(hok b hbok (h.frl b hb)).2⟩) all (h.objs i o0 h1)
  | some j =>
    obtain ⟨h1,rfl,o1,h2,rfl⟩:=hin i j o hi ho;rw[(hlom j h1).2];exact hobj1 j o1 h2
 ·cases hi':JH ids i with
  | none =>
    obtain ⟨_,oi0,hi1,_⟩:=hkept i oi hi' hi;rw[hLn i hi'] at h1;cases hj':JH ids j with
    | none =>
      obtain ⟨_,oj0,hj1,_⟩:=hkept j oj hj' hj;rw[hLn j hj'] at h2;exact h.apart i j oi0 oj0 b hij hi1 hj1 h1 h2
    | some q =>
      obtain ⟨g1,rfl,o1,g2,_⟩:=hin j q oj hj' hj
      grind
  | some p =>
    obtain ⟨f1,rfl,p1,f2,_⟩:=hin i p oi hi' hi;rw[(hlom p f1).2] at h1;cases hj':JH ids j with
    | none =>
      obtain ⟨_,oj0,hj1,_⟩:=hkept j oj hj' hj
      grind
    | some q =>
      obtain ⟨g1,rfl,o1,g2,_⟩:=hin j q oj hj' hj;rw[(hlom q g1).2] at h2;exact hlaid1.apart p q p1 o1 b (fun e=>hij (by rw[e])) f2 g2 h1 h2
 ·rw[hh.hy]
  exact QmG hokn hrn hrep
end
structure Fs where
 lk:Nat->AV
 lo:Nat->Option AO
def Fs.app (σ:Fs) (d:Option Nat) (v:AV) (up:Option (Nat × AO)):Fs:=⟨Yg σ.lk d v,upO σ.lo up⟩
inductive Xj (P:Program) (K:World->Prop):AOp->Fs->AV->Option (Nat × AO)->Prop
 | plain (op σ s f v up) (he:ev σ.lk σ.lo op=.ok s f v up) (hs:s):Xj P K op σ v up
 | call (g args ids σ xs r) (hp:qD σ.lo ids (args.map (·.av σ.lk))=some xs) (hg:Good P K g xs r) (hr:ids=[]\/QI r=true):Xj P K (.call g args ids) σ (.iv r) none
 | callo (g args id σ xs q e sz rows mv) (hp:ivs (args.map (·.av σ.lk))=some xs) (hg:QcY P K g xs q e sz rows mv) (hid:σ.lo id=none) :
   Xj P K (.callo g args [] id) σ (ren id q) (some (id,XX e sz rows mv))
 | calld (x g args ids σ xs r) (hx:x.av σ.lk=.iv (.fn g)) (hc:callee P g=true) (hp:qD σ.lo ids (args.map (·.av σ.lk))=some xs) (hg:Good P K g xs r) (hr:ids=[]\/QI r=true) :
   Xj P K (.calld x args ids) σ (.iv r) none
 | callr (g:FuncId) (x:Opd) (args:List Opd) (id:Nat) (σ:Fs) (xs:List IV) (e:TypeId) (sz:Nat) (rows rows':List (List IV)) (mv:Nat) (hx:x.av σ.lk=.aref id rows.length) (hid:σ.lo id=some (XX e sz rows mv)) (hp:ivs (args.map (·.av σ.lk))=some xs) (hg:Qj9 P K g e sz rows xs rows') :
   Xj P K (.callr g x args id) σ (.aref id rows'.length) (some (id,XX e sz rows' rows'.length))
 | callm (g:FuncId) (x:Opd) (args:List Opd) (id:Nat) (σ:Fs) (xs:List IV) (e:TypeId) (sz:Nat) (kvs:List (MK × List (List IV))) (k:MK) (n:Nat) (rows':List (List IV)) (hx:x.av σ.lk=.mref id k n) (hn:((Qh k kvs).getD []).length=n) (hid:σ.lo id=some (.mapr e sz kvs none))
   (hp:ivs (args.map (·.av σ.lk))=some xs) (hg:Qj9 P K g e sz ((Qh k kvs).getD []) xs rows') :
   Xj P K (.callr g x args id) σ (.mref id k rows'.length) (some (id,.mapr e sz (mins k rows' kvs) (some k)))
 | caldc (x:Opd) (g:FuncId) (fs cs:List IV) (args:List Opd) (ids:List Nat) (σ:Fs) (xs:List IV) (r:IV) (hc:callee P g=true) (hp:qD σ.lo ids (x.av σ.lk::args.map (·.av σ.lk))=some (.clo g fs cs::xs)) (hg:Good P K g (fs++xs++cs) r) (hr:ids=[]\/QI r=true) :
   Xj P K (.calld x args ids) σ (.iv r) none
 | callb (x:Opd) (args:List Opd) (id:Nat) (σ:Fs) (xs:List IV) (s s':Ext) (y:IV) (hid:σ.lo id=some (.ext s)) (hp:ivs (args.map (·.av σ.lk))=some xs) (hg:Quw P K (x.av σ.lk) id s xs y s') (hy:QI y=true) :
   Xj P K (.callb x args id) σ (.iv y) (some (id,.ext s'))
 | callx (g:FuncId) (args:List Opd) (x:Opd) (id:Nat) (σ:Fs) (xs:List IV) (s s':Ext) (y:IV) (hx:x.av σ.lk=.cb id) (hid:σ.lo id=some (.ext s)) (hp:ivs (args.map (·.av σ.lk))=some xs) (hg:QcX P K g xs [] s y s') (hy:QI y=true) :
   Xj P K (.callx g (args++[x]) id) σ (.iv y) (some (id,.ext s'))
 | callz (g:FuncId) (args:List Opd) (id:Nat) (σ:Fs) (xs:List IV) (s s':Ext) (y:IV) (hid:σ.lo id=some (.ext s)) (hp:ivs (args.map (·.av σ.lk))=some xs) (hg:UT P K g xs s y s') (hy:QI y=true) :
   Xj P K (.callx g args id) σ (.iv y) (some (id,.ext s'))
 | cpy (id:Nat) (x y:Opd) (σ:Fs) (e:TypeId) (rows rows':List (List IV)) (mv:Nat) (hx:x.av σ.lk=.aref id rows.length) (hid:σ.lo id=some (XX e 1 rows mv)) (hy:y.av σ.lk=.iv (.sl 1 rows')) (hl:rows'.length=rows.length) :
   Xj P K (.cpy id x y) σ (.iv (.int .i64 rows.length)) (some (id,XX e 1 rows' rows'.length))
def AOp.isCb:AOp->Bool
 | .callb _ _ _ | .callx _ _ _=>true
 | _=>false
def Yields (P:Program) (K:World->Prop) (A:QN) (σ:Fs) (v:AV) (up:Option (Nat × AO)):Prop :=
 match A.g with
 | none=>Xj P K A.op σ v up
 | some (t,b)=>(σ.lk t=.iv (.bool b)/\Xj P K A.op σ v up)\/((σ.lk t=.iv (.bool (!b))\/σ.lk t=.iv (.tup []))/\v=.iv (.tup [])/\up=none)
def Qjb:AV->Option (FuncId × List AV × List AV)
 | .iv (.fn g)=>some (g,[],[])
 | .iv (.clo g fs cs)=>some (g,fs.map .iv,cs.map .iv)
 | .clo g fs cs=>some (g,fs,cs)
 | _=>none
def AOp.isH:AOp->Bool
 | .callh _ _ _ | .caldh _ _ _=>true
 | _=>false
inductive JJ (P:Program) (K:World->Prop) (d:Option Nat) (σ:Fs):AOp->Fs->Prop
 | callh (g args ids keep y' lo' args0 lo0 st y lo1 dom)
   (h:HG P K g (args.map (·.av σ.lk)) ids keep σ.lo y' lo' args0 lo0 st y lo1 dom):JJ P K d σ (.callh g args ids) ⟨Yg (fun t=>scr keep (σ.lk t)) d y',lo'⟩
 | caldh (x g fs cs args ids keep y' lo' args0 lo0 st y lo1 dom)
   (hx:Qjb (x.av σ.lk)=some (g,fs,cs)) (hc:callee P g=true) (h:HG P K g (fs++args.map (·.av σ.lk)++cs) ids keep σ.lo y' lo' args0 lo0 st y lo1 dom):JJ P K d σ (.caldh x args ids) ⟨Yg (fun t=>scr keep (σ.lk t)) d y',lo'⟩
inductive Jq (P:Program) (K:World->Prop) (A:QN) (σ:Fs):Fs->Prop
 | app (v up) (hy:Yields P K A σ v up):Jq P K A σ (σ.app A.d v up)
 | h (σ') (hg:A.g=none\/∃ t b,A.g=some (t,b)/\σ.lk t=.iv (.bool b)) (hh:JJ P K A.d σ A.op σ'):Jq P K A σ σ'
theorem JJ.isH {P K d σ σ' op} (h:JJ P K d σ op σ'):op.isH=true:=by
 cases h<;>rfl
def QN.tmps (A:QN):List Nat:=A.op.tmps++(match A.g with | some (t,_)=>[t] | none=>[])
theorem VT {lo lo' ids xs} (h:∀ i∈ids,lo' i=lo i):qD lo' ids xs=qD lo ids xs:=by
 unfold qD
 grind
section
variable {P:Program} {K:World->Prop}
theorem Xj.congr {op σ σ' v up} (h:Xj P K op σ v up) (h1:∀ t∈op.tmps,σ'.lk t=σ.lk t) (h2:∀ i∈op.objs,σ'.lo i=σ.lo i):Xj P K op σ' v up:=by
 cases h with
 | plain op σ s f v up he hs=>exact .plain _ _ s f _ _ (by rw[Qla h1 h2];exact he) hs
 | call g args ids _ xs r hp hg hr =>
   refine .call g args ids σ' xs r ?_ hg hr;rw[QA (lk:=σ.lk) (lk':=σ'.lk) (by simpa[AOp.tmps] using h1),VT (lo:=σ.lo) (by simpa[AOp.objs] using h2)]
   exact hp
 | callo g args id _ xs q e sz rows mv hp hg hid =>
   refine .callo g args id σ' xs q e sz rows mv ?_ hg ?_
   ·rw[QA (lk:=σ.lk) (lk':=σ'.lk) (by simpa[AOp.tmps] using h1)]
    exact hp
   ·rw[h2 id (by simp[AOp.objs])]
    exact hid
 | calld x g args ids _ xs r hx hc hp hg hr =>
   refine .calld x g args ids σ' xs r ?_ hc ?_ hg hr
   ·rw[Opd.av_congr (lk:=σ.lk) (fun t ht=>h1 t (by simp[AOp.tmps,ht]))]
    exact hx
   ·rw[QA (lk:=σ.lk) (lk':=σ'.lk) (fun t ht=>h1 t (by simp only[AOp.tmps,QzD];exact .inr ht)),VT (lo:=σ.lo) (by simpa[AOp.objs] using h2)]
    exact hp
 | callr g x args id _ xs e sz rows rows' mv hx hid hp hg =>
   refine .callr g x args id σ' xs e sz rows rows' mv ?_ ?_ ?_ hg
   ·rw[Opd.av_congr (lk:=σ.lk) (fun t ht=>h1 t (by simp[AOp.tmps,ht]))]
    exact hx
   ·rw[h2 id (by simp[AOp.objs])]
    exact hid
   ·rw[QA (lk:=σ.lk) (lk':=σ'.lk) (fun t ht=>h1 t (by simp only[AOp.tmps,QzD];exact .inr ht))]
    exact hp
 | callm g x args id _ xs e sz kvs k n rows' hx hn hid hp hg =>
   refine .callm g x args id σ' xs e sz kvs k n rows' ?_ hn ?_ ?_ hg
   ·rw[Opd.av_congr (lk:=σ.lk) (fun t ht=>h1 t (by simp[AOp.tmps,ht]))]
    exact hx
   ·rw[h2 id (by simp[AOp.objs])]
    exact hid
   ·rw[QA (lk:=σ.lk) (lk':=σ'.lk) (fun t ht=>h1 t (by simp only[AOp.tmps,QzD];exact .inr ht))]
    exact hp
 | caldc x g fs cs args ids _ xs r hc hp hg hr =>
   refine .caldc x g fs cs args ids σ' xs r hc ?_ hg hr;rw[Opd.av_congr (lk:=σ.lk) (fun t ht=>h1 t (by simp[AOp.tmps,ht])),QA (lk:=σ.lk) (lk':=σ'.lk) (fun t ht=>h1 t (by simp only[AOp.tmps,QzD];exact .inr ht)),VT (lo:=σ.lo) (by simpa[AOp.objs] using h2)]
   exact hp
 | callb x args id _ xs s s' y hid hp hg hy =>
   refine .callb x args id σ' xs s s' y ?_ ?_ ?_ hy
   ·rw[h2 id (by simp[AOp.objs])]
    exact hid
   ·rw[QA (lk:=σ.lk) (lk':=σ'.lk) (fun t ht=>h1 t (by simp only[AOp.tmps,QzD];exact .inr ht))]
    exact hp
   ·rw[Opd.av_congr (lk:=σ.lk) (fun t ht=>h1 t (by simp[AOp.tmps,ht]))]
    exact hg
 | callz g args id _ xs s s' y hid hp hg hy =>
   refine .callz g args id σ' xs s s' y ?_ ?_ hg hy
   ·rw[h2 id (by simp[AOp.objs])]
    exact hid
   ·rw[QA (lk:=σ.lk) (lk':=σ'.lk) (fun t ht=>h1 t (by simpa only[AOp.tmps] using ht))]
    exact hp
 | callx g args x id _ xs s s' y hx hid hp hg hy =>
   refine .callx g args x id σ' xs s s' y ?_ ?_ ?_ hg hy
   ·rw[Opd.av_congr (lk:=σ.lk) (fun t ht=>h1 t (by simp only[AOp.tmps,QAl,QzD];exact .inr (by simp[ht])))]
    exact hx
   ·rw[h2 id (by simp[AOp.objs])]
    exact hid
   ·rw[QA (lk:=σ.lk) (lk':=σ'.lk) (fun t ht=>h1 t (by simp only[AOp.tmps,QAl,QzD];exact .inl ht))]
    exact hp
 | cpy id x y _ e rows rows' mv hx hid hy hl =>
   refine .cpy id x y σ' e rows rows' mv ?_ ?_ ?_ hl
   ·rw[Opd.av_congr (lk:=σ.lk) (fun t ht=>h1 t (by simp[AOp.tmps,ht]))]
    exact hx
   ·rw[h2 id (by simp[AOp.objs])]
    exact hid
   ·rw[Opd.av_congr (lk:=σ.lk) (fun t ht=>h1 t (by simp[AOp.tmps,ht]))]
    exact hy
theorem Xj.sets {op σ v id ob} (h:Xj P K op σ v (some (id,ob))):id∈op.sets:=by
 cases h with
 | plain _ _ s f _ _ he hs=>exact Qo9 he
 | callo=>simp[AOp.sets]
 | callr=>simp[AOp.sets]
 | callm=>simp[AOp.sets]
 | callb=>simp[AOp.sets]
 | callx=>simp[AOp.sets]
 | callz=>simp[AOp.sets]
 | cpy=>simp[AOp.sets]
theorem Yields.congr {A σ σ' v up} (h:Yields P K A σ v up) (h1:∀ t∈A.tmps,σ'.lk t=σ.lk t) (h2:∀ i∈A.op.objs,σ'.lo i=σ.lo i):Yields P K A σ' v up:=by
 unfold Yields QN.tmps at *;cases hg:A.g with
 | none =>
   simp only[hg] at h h1 |-;exact h.congr (fun t ht=>h1 t (by simp[ht])) h2
 | some tb =>
   obtain ⟨t,b⟩:=tb;simp only[hg] at h h1 |-;have ht:=h1 t (by simp)
   rw[ht];exact h.imp (fun ⟨h3,h4⟩=>⟨h3,h4.congr (fun t ht=>h1 t (by simp[ht])) h2⟩) id
theorem Yields.sets {A σ v id ob} (h:Yields P K A σ v (some (id,ob))):id∈A.op.sets:=by
 unfold Yields at h;split at h
 ·exact h.sets
 ·rcases h with ⟨_,h⟩ | ⟨_,_,h⟩
  ·exact h.sets
  ·cases h
def QcV (A B:QN):Bool :=
 !A.op.isH&&!B.op.isH &&
 (match A.d with | some d=>!B.tmps.contains d&&B.d != some d | none=>true) &&
 (match B.d with | some d=>!A.tmps.contains d | none=>true) &&
 A.op.sets.all (fun i=>!B.op.objs.contains i&&!B.op.sets.contains i) &&
 B.op.sets.all (fun i=>!A.op.objs.contains i)
theorem qs {A B} (h:QcV A B=true):A.op.isH=false/\B.op.isH=false/\(∀ d,A.d=some d->d ∉ B.tmps/\B.d≠some d)/\(∀ d,B.d=some d->d ∉ A.tmps) /\
  (∀ i∈A.op.sets,i ∉ B.op.objs/\i ∉ B.op.sets)/\(∀ i∈B.op.sets,i ∉ A.op.objs):=by
 simp only[QcV,Qzm,QzX,QzL] at h
 grind
theorem ZC {lk d v t} (h:∀ x,d=some x->x≠t):Yg lk d v t=lk t:=by
 cases d with
 | none=>rfl
 | some x=>simp[Yg,Ne.symm (h x rfl)]
theorem QeS {lo up i} (h:∀ x o,up=some (x,o)->x≠i):upO lo up i=lo i:=by
 cases up with
 | none=>rfl
 | some p=>obtain ⟨x,o⟩:=p;simp[upO,QK,Ne.symm (h x o rfl)]
theorem Qmg {A B:QN} (h:QcV A B=true) {σ:Fs} {v u:AV} {up uq:Option (Nat × AO)} (hs:∀ i o,up=some (i,o)->i∈A.op.sets) (hs':∀ i o,uq=some (i,o)->i∈B.op.sets) :
  (σ.app A.d v up).app B.d u uq=(σ.app B.d u uq).app A.d v up:=by
 obtain ⟨_,_,h1,h2,h3,h4⟩:=qs h;unfold Fs.app
 congr 1
 ·funext t
  cases hA:A.d with
  | none=>rfl
  | some d =>
    cases hB:B.d with
    | none=>rfl
    | some d' =>
      have hne:d'≠d:=fun e=>(h1 d hA).2 (by rw[hB,e])
      simp only[Yg];by_cases e1:t=d'<;>by_cases e2:t=d<;>simp_all
 ·funext i
  cases up with
  | none=>rfl
  | some p =>
    cases uq with
    | none=>rfl
    | some q =>
      obtain ⟨x,ox⟩:=p;obtain ⟨y,oy⟩:=q;have hx:=hs x ox rfl;have hy:=hs' y oy rfl;have hne:y≠x:=fun e=>(h3 x hx).2 (e▸hy)
      simp only[upO,QK];by_cases e1:i=y<;>by_cases e2:i=x<;>simp_all
variable {ops:Array Oper} {az:List QN} {md:Region.Mode}
def qx (P:Program) (K:World->Prop) (az:List QN) (i:Nat) (C:Fs->Prop) (σ:Fs):Prop :=
 match az[i]? with
 | none=>C σ
 | some A=>∃ σ',Jq P K A σ σ'/\C σ'
theorem QjZ {i C C' σ} (h:∀ σ,C σ->C' σ) (hh:qx P K az i C σ):qx P K az i C' σ:=by
 unfold qx at *
 grind
def QbG (P:Program) (K:World->Prop) (md:Region.Mode) (ops:Array Oper) (az:List QN) (Q:Fs->Prop):Nat->Array Bool->Fs->Prop
 | 0,listed,σ=>Region.ready md ops listed=[]/\Q σ
 | fuel+1,listed,σ =>
   (Region.ready md ops listed=[]->Q σ) /\
   ∀ i∈Region.ready md ops listed,qx P K az i (QbG P K md ops az Q fuel (listed.setIfInBounds i true)) σ
theorem Qme {j:Nat} {Ai Aj:QN} (hj:az[j]?=some Aj) (hap:QcV Ai Aj=true) {C:Fs->Prop} {σ σ1:Fs}
  (hy:Jq P K Ai σ σ1) (h:qx P K az j C σ1) :
  qx P K az j (fun σ'=>∃ σ2,Jq P K Ai σ' σ2/\C σ2) σ:=by
 obtain ⟨g1,g2,h1,h2,h3,h4⟩:=qs hap;cases hy with
 | h _ _ hh=>rw[hh.isH] at g1;cases g1
 | app v up hy =>
   have hsi:∀ i o,up=some (i,o)->i∈Ai.op.sets:=fun i o e=>by subst e;exact hy.sets
   unfold qx at *;simp only[hj] at *;obtain ⟨σ',hm,hc⟩:=h;cases hm with
   | h _ _ hh=>rw[hh.isH] at g2;cases g2
   | app u uq hu =>
     have hu':Yields P K Aj σ u uq:=by
      refine hu.congr (fun t ht=>?_) (fun i hi=>?_)
      ·simp only[Fs.app]
       exact (ZC fun x hx e=>(h1 x hx).1 (e▸ht)).symm
      ·simp only[Fs.app]
       exact (QeS fun x o hx e=>(h3 x (hsi x o hx)).1 (e▸hi)).symm
     have hsj:∀ i o,uq=some (i,o)->i∈Aj.op.sets:=fun i o e=>by subst e;exact hu.sets
     refine ⟨_,.app u uq hu',_,.app v up (hy.congr (fun t ht=>?_) (fun i hi=>?_)),?_⟩
     ·simp only[Fs.app]
      exact ZC fun x hx e=>h2 x hx (e▸ht)
     ·simp only[Fs.app]
      exact QeS fun x o hx e=>h4 x (hsj x o hx) (e▸hi)
     ·rw[<- Qmg hap hsi hsj]
      exact hc
def AOp.quiet (d:Option Nat):AOp->Bool
 | .mov (.t s)=>d != some s
 | .ldi _ _ x=>x.tmps.all fun s=>d != some s
 | .yy (.zslv _)=>true
 | .bsl _ ps=>(ps.flatMap (·.tmps)).isEmpty
 | _=>false
theorem QbP {op:AOp} {dj:Option Nat} {keep:List Nat} {y':AV} {lk:Nat->AV} {lo lo':Nat->Option AO} {s f:Prop} {v:AV} {up:Option (Nat × AO)} (hq:op.quiet dj=true) (he:ev lk lo op=.ok s f v up) :
  up=none/\ev (Yg (fun t=>scr keep (lk t)) dj y') lo' op=.ok s f (scr keep v) none:=by
 have hav:∀ x:Opd,(∀ t∈x.tmps,dj≠some t)->x.av (Yg (fun t=>scr keep (lk t)) dj y')=match x with | .t t=>scr keep (lk t) | _=>x.av lk:=by
  intro x hx;cases x with
  | t t=>simp only[Opd.av];exact ZC fun z hz e=>hx t (by simp[Opd.tmps]) (by rw[hz,e])
  | _=>rfl
 cases op with
 | mov x =>
   cases x with
   | t t =>
     simp only[AOp.quiet,bne_iff_ne,ne_eq] at hq;simp only[ev,Opd.av,Res.ok.injEq] at he;obtain ⟨rfl,rfl,rfl,rfl⟩:=he;refine ⟨rfl,?_⟩;simp only[ev,hav (.t t) (by simpa[Opd.tmps] using hq)]
   | _=>simp[AOp.quiet] at hq
 | ldi n ag x =>
   simp only[AOp.quiet,QzX,bne_iff_ne,ne_eq] at hq;have hx:=hav x hq
   have hsame:∀ cs,x.av lk=.iv (.ptr cs)->x.av (Yg (fun t=>scr keep (lk t)) dj y')=.iv (.ptr cs):=by
    intro cs hcs;rw[hx];cases x with
    | t t=>simp only[Opd.av] at hcs;simp only[hcs,scr]
    | _=>exact hcs
   simp only[ev] at he |-;unfold Qbe at he;split at he
   ·rename_i cs hcs
    rw[hsame cs hcs];unfold Qbe;cases ag with
    | true =>
      simp only[Res.ok.injEq] at he;obtain ⟨rfl,rfl,rfl,rfl⟩:=he;exact ⟨rfl,by simp only[scr]⟩
    | false =>
      cases cs with
      | nil=>cases he
      | cons c r =>
        simp only[Res.ok.injEq] at he;obtain ⟨rfl,rfl,rfl,rfl⟩:=he;exact ⟨rfl,by simp only[scr]⟩
   ·cases he
 | bsl sz ps =>
   simp only[AOp.quiet,List.isEmpty_iff] at hq;simp only[ev] at he |-;rw[QA (lk:=lk) (by rw[hq];simp)]
   split at he
   ·rename_i rows h1
    split at he
    ·rename_i es h2
     simp only[Res.ok.injEq] at he;obtain ⟨rfl,rfl,rfl,rfl⟩:=he;exact ⟨rfl,by simp only[scr]⟩
    ·cases he
   ·cases he
 | yy op =>
   cases op with
   | zslv sz =>
     simp only[ev,evY] at he |-;injection he with e1 e2 e3 e4
     subst e1 e2 e3 e4;exact ⟨rfl,by simp only[scr]⟩
   | _=>simp[AOp.quiet] at hq
 | _=>simp[AOp.quiet] at hq
def Qj2 (A B:QN):Bool :=
 match B.op with
 | .callh _ _ _=>A.g==none&&B.g==none&&(match A.d with | some d=>!B.tmps.contains d&&B.d != some d | none=>true)&&A.op.quiet B.d
 | _=>false
theorem QjX {j Ai Aj} (hj:az[j]?=some Aj) (hap:Qj2 Ai Aj=true) {C σ σ1}
  (hy:Jq P K Ai σ σ1) (h:qx P K az j C σ1) :
  qx P K az j (fun σ'=>∃ σ2,Jq P K Ai σ' σ2/\C σ2) σ:=by
 obtain ⟨di,gi,opi⟩:=Ai;obtain ⟨dj,gj,opj⟩:=Aj;unfold Qj2 at hap;simp only at hap;split at hap
 ·rename_i g args ids
  simp only[Qzm,beq_iff_eq] at hap;obtain ⟨⟨⟨rfl,rfl⟩,h1⟩,h2⟩:=hap
  have hd:∀ d,di=some d->d ∉ (args.flatMap (·.tmps))/\dj≠some d:=fun d e=>by
   subst e;simpa[QN.tmps,AOp.tmps] using h1
  cases hy with
  | h _ _ hh=>cases hh<;>simp[AOp.quiet] at h2
  | app v up hy =>
    simp only[Yields] at hy;cases hy with
    | plain _ _ st ft _ _ he hs =>
      obtain ⟨rfl,_⟩:=QbP (keep:=[]) (y':=.nilr 0) (lo':=σ.lo) h2 he;unfold qx at *;simp only[hj] at *;obtain ⟨σ',hm,hc⟩:=h;cases hm with
      | app u uq hu =>
        simp only[Yields] at hu;cases hu with
        | plain _ _ _ _ _ _ he _=>simp[ev] at he
      | h _ hg hh =>
        cases hh with
        | callh _ _ _ keep y' lo' args0 lo0 st0 y lo1 dom hhg =>
          have hargs:args.map (·.av (σ.app di v none).lk)=args.map (·.av σ.lk):=by
           refine QAN fun x hx=>Opd.av_congr fun t ht=>?_
           simp only[Fs.app];exact ZC fun d hdd e=>(hd d hdd).1 (QzP.2 ⟨x,hx,e▸ht⟩)
          rw[hargs] at hhg;refine ⟨_,.h _ (.inl rfl) (.callh g args ids keep y' lo' args0 lo0 st0 y lo1 dom hhg),_,.app (scr keep v) none ?_,?_⟩
          ·exact .plain _ _ st ft _ _ (QbP h2 he).2 hs
          ·have:(Fs.app ⟨Yg (fun t=>scr keep (σ.lk t)) dj y',lo'⟩ di (scr keep v) none)=⟨Yg (fun t=>scr keep ((σ.app di v none).lk t)) dj y',lo'⟩:=by
            unfold Fs.app
            congr 1
            funext t
            cases di with
            | none=>rfl
            | some d =>
              have hne:=(hd d rfl).2;cases dj with
              | none=>simp only[Yg];split<;>rfl
              | some d' =>
                have hne':d'≠d:=fun e=>hne (by rw[e])
                simp only[Yg];by_cases e1:t=d'<;>by_cases e2:t=d<;>simp_all
           rw[this];exact hc
    | _=>simp[AOp.quiet] at h2
 ·cases hap
theorem QmD {keep x y} (h:scr keep x=.iv y) (hy:y≠.any):x=.iv y:=by
 cases x with
 | iv z=>simpa only[scr] using h
 | agg | nilr | zsl | clo | tup=>simp[scr] at h
 | _ =>
   simp only[scr] at h
   grind
def AOp.quietR (d:Option Nat):AOp->Bool
 | .fld _ x=>x.tmps.all fun s=>d != some s
 | op=>op.quiet d
theorem QiB {op:AOp} {dj:Option Nat} {keep:List Nat} {y':AV} {lk:Nat->AV} {lo lo':Nat->Option AO} {s f:Prop} {v:AV} {up:Option (Nat × AO)} (hq:op.quietR dj=true) (he:ev (Yg (fun t=>scr keep (lk t)) dj y') lo' op=.ok s f v up) :
  up=none/\∃ v0,v=scr keep v0/\ev lk lo op=.ok s f v0 none:=by
 have hav:∀ x:Opd,(∀ t∈x.tmps,dj≠some t)->x.av (Yg (fun t=>scr keep (lk t)) dj y')=match x with | .t t=>scr keep (lk t) | _=>x.av lk:=by
  intro x hx;cases x with
  | t t=>simp only[Opd.av];exact ZC fun z hz e=>hx t (by simp[Opd.tmps]) (by rw[hz,e])
  | _=>rfl
 cases op with
 | mov x =>
   cases x with
   | t t =>
     simp only[AOp.quietR,AOp.quiet,bne_iff_ne,ne_eq] at hq;simp only[ev,hav (.t t) (by simpa[Opd.tmps] using hq),Res.ok.injEq] at he
     obtain ⟨rfl,rfl,rfl,rfl⟩:=he;exact ⟨rfl,lk t,rfl,rfl⟩
   | _=>simp[AOp.quietR,AOp.quiet] at hq
 | ldi n ag x =>
   simp only[AOp.quietR,AOp.quiet,QzX,bne_iff_ne,ne_eq] at hq;have hx:=hav x hq
   have hsame:∀ cs,x.av (Yg (fun t=>scr keep (lk t)) dj y')=.iv (.ptr cs)->x.av lk=.iv (.ptr cs):=by
    intro cs hcs;rw[hx] at hcs;cases x with
    | t t=>exact QmD hcs (by simp)
    | _=>exact hcs
   simp only[ev] at he |-;unfold Qbe at he;split at he
   ·rename_i cs hcs
    rw[hsame cs hcs];unfold Qbe;cases ag with
    | true =>
      simp only[Res.ok.injEq] at he;obtain ⟨rfl,rfl,rfl,rfl⟩:=he;exact ⟨rfl,_,by simp only[scr],rfl⟩
    | false =>
      cases cs with
      | nil=>cases he
      | cons c r =>
        simp only[Res.ok.injEq] at he;obtain ⟨rfl,rfl,rfl,rfl⟩:=he;exact ⟨rfl,_,by simp only[scr],rfl⟩
   ·cases he
 | fld off x =>
   simp only[AOp.quietR,QzX,bne_iff_ne,ne_eq] at hq;have hx:=hav x hq;simp only[ev] at he |-;unfold Qgx at he
   have hback:∀ z,x.av (Yg (fun t=>scr keep (lk t)) dj y')=z->z≠.iv .any->(∀ cs,z=.iv (.ptr cs)->x.av lk=z)/\(∀ i o,z=.loc i o->x.av lk=z/\scr keep (.loc i (o+off))=.loc i (o+off))/\(∀ i n j o,z=.eloc i n j o->x.av lk=z/\scr keep (.eloc i n j (o+off))=.eloc i n j (o+off)):=by
    intro z hz _;rw[hx] at hz;cases x with
    | t t =>
      simp only at hz;refine ⟨fun cs e=>by subst e;exact QmD hz (by simp),fun i o e=>?_,fun i n j o e=>?_⟩
      ·subst e
       simp only[Opd.av];generalize lk t=w at hz;cases w with
       | loc i' o' =>
         simp only[scr] at hz |-
         grind
       | iv | agg | nilr | zsl | clo | tup=>simp[scr] at hz
       | _ =>
         simp only[scr] at hz;split at hz<;>cases hz
      ·subst e
       simp only[Opd.av];generalize lk t=w at hz;cases w with
       | eloc i' n' j' o' =>
         simp only[scr] at hz |-
         grind
       | iv | agg | nilr | zsl | clo | tup=>simp[scr] at hz
       | _ =>
         simp only[scr] at hz;split at hz<;>cases hz
    | _ =>
      simp only at hz;refine ⟨fun cs _=>hz,fun i o e=>?_,fun i n j o e=>?_⟩<;>(subst e;simp[Opd.av] at hz)
   split at he
   ·rename_i cs hcs
    rw[(hback _ hcs (by simp)).1 cs rfl]
    simp only[Res.ok.injEq] at he;obtain ⟨rfl,rfl,rfl,rfl⟩:=he;exact ⟨rfl,.iv (.ptr (cs.drop off)),by simp only[scr],rfl⟩
   ·rename_i id o hcs
    obtain ⟨h1,h2⟩:=(hback _ hcs (by simp)).2.1 id o rfl
    rw[h1];simp only[Res.ok.injEq] at he;obtain ⟨rfl,rfl,rfl,rfl⟩:=he;exact ⟨rfl,.loc id (o+off),h2.symm,rfl⟩
   ·rename_i id n i o hcs
    obtain ⟨h1,h2⟩:=(hback _ hcs (by simp)).2.2 id n i o rfl
    rw[h1];simp only[Res.ok.injEq] at he;obtain ⟨rfl,rfl,rfl,rfl⟩:=he;exact ⟨rfl,.eloc id n i (o+off),h2.symm,rfl⟩
   ·cases he
 | bsl sz ps =>
   simp only[AOp.quietR,AOp.quiet,List.isEmpty_iff] at hq;simp only[ev] at he |-;rw[QA (lk:=lk) (by rw[hq];simp)] at he
   split at he
   ·rename_i rows h1
    split at he
    ·rename_i es h2
     simp only[Res.ok.injEq] at he;obtain ⟨rfl,rfl,rfl,rfl⟩:=he;exact ⟨rfl,.iv (.sl sz es),by simp only[scr],rfl⟩
    ·cases he
   ·cases he
 | yy op =>
   cases op with
   | zslv sz =>
     simp only[ev,evY] at he |-;injection he with e1 e2 e3 e4
     subst e1 e2 e3 e4;exact ⟨rfl,.zsl sz,by simp only[scr],rfl⟩
   | _=>simp[AOp.quietR,AOp.quiet] at hq
 | _=>simp[AOp.quietR,AOp.quiet] at hq
def Qj0 (A B:QN):Bool :=
 match A.op with
 | .callh _ _ _=>B.g==none&&A.g==none&&(match B.d with | some d=>!A.tmps.contains d&&A.d != some d | none=>true)&&B.op.quietR A.d
 | _=>false
theorem QjV {j Ai Aj} (hj:az[j]?=some Aj) (hap:Qj0 Ai Aj=true) {C σ σ1}
  (hy:Jq P K Ai σ σ1) (h:qx P K az j C σ1) :
  qx P K az j (fun σ'=>∃ σ2,Jq P K Ai σ' σ2/\C σ2) σ:=by
 obtain ⟨di,gi,opi⟩:=Ai;obtain ⟨dj,gj,opj⟩:=Aj;unfold Qj0 at hap;simp only at hap;split at hap
 ·rename_i g args ids
  simp only[Qzm,beq_iff_eq] at hap;obtain ⟨⟨⟨rfl,rfl⟩,h1⟩,h2⟩:=hap
  have hd:∀ d,dj=some d->d ∉ (args.flatMap (·.tmps))/\di≠some d:=fun d e=>by
   subst e;simpa[QN.tmps,AOp.tmps] using h1
  unfold qx at *;simp only[hj] at *;obtain ⟨σ',hm,hc⟩:=h;cases hy with
  | app v up hy =>
    simp only[Yields] at hy;cases hy with
    | plain _ _ _ _ _ _ he _=>simp[ev] at he
  | h _ hg hh =>
    cases hh with
    | callh _ _ _ keep y' lo' args0 lo0 st0 y lo1 dom hhg =>
      cases hm with
      | h _ _ hh=>cases hh<;>simp[AOp.quietR,AOp.quiet] at h2
      | app v up hu =>
        simp only[Yields] at hu;cases hu with
        | plain _ _ st ft _ _ he hs =>
          obtain ⟨rfl,v0,rfl,he0⟩:=QiB (lo:=σ.lo) h2 he
          have hargs:args.map (·.av (σ.app dj v0 none).lk)=args.map (·.av σ.lk):=by
           refine QAN fun x hx=>Opd.av_congr fun t ht=>?_
           simp only[Fs.app];exact ZC fun d hdd e=>(hd d hdd).1 (QzP.2 ⟨x,hx,e▸ht⟩)
          refine ⟨_,.app v0 none (.plain _ _ st ft _ _ he0 hs),_,.h _ (.inl rfl) (.callh g args ids keep y' lo' args0 lo0 st0 y lo1 dom (by rw[hargs];exact hhg)),?_⟩
          have:(Fs.app ⟨Yg (fun t=>scr keep (σ.lk t)) di y',lo'⟩ dj (scr keep v0) none)=⟨Yg (fun t=>scr keep ((σ.app dj v0 none).lk t)) di y',lo'⟩:=by
           unfold Fs.app
           congr 1
           funext t
           cases dj with
           | none=>rfl
           | some d =>
             have hne:=(hd d rfl).2;cases di with
             | none=>simp only[Yg];split<;>rfl
             | some d' =>
               have hne':d'≠d:=fun e=>hne (by rw[e])
               simp only[Yg];by_cases e1:t=d'<;>by_cases e2:t=d<;>simp_all
          rw[<- this];exact hc
        | _=>simp[AOp.quietR,AOp.quiet] at h2
 ·cases hap
theorem Qgg {kk:KK} {v:AV} {k:MK} (h:keyOf kk v=some k):k.kind=kk:=by
 unfold keyOf at h;split at h
 ·split at h
  ·rename_i hk
   injection h with h
   rw[<- h,hk];rfl
  ·cases h
 ·split at h
  ·rename_i hk
   injection h with h
   rw[<- h,hk];rfl
  ·cases h
 ·split at h
  ·split at h
   ·rename_i hk
    injection h with h
    rw[<- h,hk];rfl
   ·cases h
  ·cases h
 ·cases h
theorem UB {α:Type} {kk:KK} {k:MK} {y:α} (hk:k.kind=kk):∀ kvs:List (MK × α),QP kk kvs->QP kk (mins k y kvs)
 | [],_=>⟨hk,trivial⟩
 | p::r,h=>by
   unfold mins;split
   ·exact ⟨hk,h.2⟩
   ·exact ⟨h.1,UB hk r h.2⟩
def Qj1 (A B:QN):Bool:=match A.op,B.op with
 | .yy (.lkd i kk (.int .i64 0) (.t x) (.t k)),.yy (.ment i' kk' (.int .i64 0) (.t x') (.t k'))=>A.g==none&&B.g==none&&i==i'&&kk==kk'&&x==x'&&k==k' &&
   (match A.d with | some d=>d != x&&d != k&&B.d != some d | none=>true)&&(match B.d with | some d=>d != x&&d != k | none=>true)
 | _,_=>false
theorem QjW {j Ai Aj} (hj:az[j]?=some Aj) (hap:Qj1 Ai Aj=true) {C σ σ1}
  (hy:Jq P K Ai σ σ1) (h:qx P K az j C σ1) :
  qx P K az j (fun σ'=>∃ σ2,Jq P K Ai σ' σ2/\C σ2) σ:=by
 obtain ⟨di,gi,opi⟩:=Ai;obtain ⟨dj,gj,opj⟩:=Aj;unfold Qj1 at hap;simp only at hap;split at hap
 ·rename_i i kk x k i' kk' x' k'
  simp only[Qzm,beq_iff_eq] at hap;obtain ⟨⟨⟨⟨⟨⟨⟨rfl,rfl⟩,rfl⟩,rfl⟩,rfl⟩,rfl⟩,h1⟩,h2⟩:=hap
  have d1:∀ d,di=some d->d≠x/\d≠k/\dj≠some d:=fun d e=>by
   subst e;simp at h1
   grind
  have d2:∀ d,dj=some d->d≠x/\d≠k:=fun d e=>by
   subst e;simp at h2
   grind
  unfold qx at *;simp only[hj] at *;obtain ⟨σ',hm,hc⟩:=h;cases hy with
  | h _ _ hh=>cases hh
  | app v up hy =>
    simp only[Yields] at hy;cases hy with
    | plain _ _ s f _ _ he hs =>
      cases hm with
      | h _ _ hh=>cases hh
      | app u uq hu =>
        simp only[Yields] at hu;cases hu with
        | plain _ _ s2 f2 _ _ he2 hs2 =>
          have ax:(σ.app di v up).lk x=σ.lk x:=by
           simp only[Fs.app];exact ZC fun y hy e=>(d1 y hy).1 e
          have ak:(σ.app di v up).lk k=σ.lk k:=by
           simp only[Fs.app];exact ZC fun y hy e=>(d1 y hy).2.1 e
          simp only[ev,evY,Opd.av] at he he2;rw[ax,ak] at he2;split at he
          ·rename_i q key zv kvs hxv hkv hzv hid
           injection hzv with hzv
           subst hzv;split at he
           ·rename_i hji
            subst hji;injection he with e1 e2 e3 e4
            subst e1 e2 e3 e4;have hid':(σ.app di (.iv ((Qh key kvs).getD (.int .i64 0))) none).lo q=some (.mapd kvs):=hid;rw[hxv,hkv,hid'] at he2;simp only[if_true] at he2;injection he2 with e1 e2 e3 e4
            subst e1 e2 e3 e4
            have hm1:Jq P K ⟨dj,none,.yy (.ment q kk (.int .i64 0) (.t x) (.t k))⟩ σ (σ.app dj (.iv (.tup [(Qh key kvs).getD (.int .i64 0),.int .i64 (QgM key kvs:Nat)])) (some (q,.mapd (mins key ((Qh key kvs).getD (.int .i64 0)) kvs)))) :=
             .app _ _ (.plain _ _ (QP kk kvs) True _ _ (by simp only[ev,evY,Opd.av,hxv,hkv,hid,if_true]) hs)
            refine ⟨_,hm1,_,.app (.iv ((Qh key kvs).getD (.int .i64 0))) none (.plain _ _ (QP kk (mins key ((Qh key kvs).getD (.int .i64 0)) kvs)) True _ _ ?_ (UB (Qgg hkv) _ hs)),?_⟩
            ·have bx:∀ y up,(σ.app dj y up).lk x=σ.lk x:=fun y up=>by
              simp only[Fs.app];exact ZC fun z hz e=>(d2 z hz).1 e
             have bk:∀ y up,(σ.app dj y up).lk k=σ.lk k:=fun y up=>by
              simp only[Fs.app];exact ZC fun z hz e=>(d2 z hz).2 e
             have bo:∀ y ob,(σ.app dj y (some (q,ob))).lo q=some ob:=fun y ob=>by simp[Fs.app,upO,QK]
             simp only[ev,evY,Opd.av,bx,bk,bo,hxv,hkv,if_true,ZV,QAd]
            ·have:∀ (v u:AV) (up:Option (Nat × AO)),(σ.app dj u up).app di v none=(σ.app di v none).app dj u up:=fun v u up=>by
              unfold Fs.app
              congr 1
              funext t
              cases di with
              | none=>rfl
              | some a =>
                cases dj with
                | none=>rfl
                | some b =>
                  have:=(d1 a rfl).2.2;simp only[Yg]
                  grind
             rw[this];exact hc
           ·cases he
          ·cases he
 ·cases hap
def qt (A B:QN):Bool:=QcV A B||Qj2 A B||Qj0 A B||Qj1 A B
theorem QjY {j Ai Aj} (hj:az[j]?=some Aj) (hap:qt Ai Aj=true) {C σ σ1}
  (hy:Jq P K Ai σ σ1) (h:qx P K az j C σ1) :
  qx P K az j (fun σ'=>∃ σ2,Jq P K Ai σ' σ2/\C σ2) σ:=by
 simp only[qt,QAG] at hap;rcases hap with ((hap | hap) | hap) | hap
 ·exact Qme hj hap hy h
 ·exact QjX hj hap hy h
 ·exact QjV hj hap hy h
 ·exact QjW hj hap hy h
def Zx (md:Region.Mode) (ops:Array Oper):Nat->Nat->Nat->Bool
 | 0,_,_=>false
 | n+1,i,j=>match ops[j]? with
   | none=>false
   | some o=>o.after.any (fun e=>Region.binds md e&&e.on==i)||o.after.any (fun e=>Region.binds md e&&decide (i<e.on)&&Zx md ops n i e.on)
def Clo (md:Region.Mode) (ops:Array Oper) (listed:Array Bool):Prop:=∀ j o,ops[j]?=some o->listed.getD j false=true->∀ e∈o.after,Region.binds md e=true->listed.getD e.on false=true
theorem Clo.not_reaches {listed i} (hc:Clo md ops listed) (hi:listed.getD i false=false):∀ n j o,ops[j]?=some o->(∀ e∈o.after,Region.binds md e=true->listed.getD e.on false=true)->Zx md ops n i j=false
 | 0,_,_,_,_=>rfl
 | n+1,j,o,hj,hall=>by
   simp only[Zx,hj,Bool.or_eq_false_iff];rw[Array.any_eq_false',Array.any_eq_false'];refine ⟨fun e he hb=>?_,fun e he hb=>?_⟩
   ·grind
   ·simp only[Qzm] at hb
    obtain ⟨⟨hb,_⟩,h⟩:=hb;have hl:=hall e he hb;cases ho:ops[e.on]? with
    | none =>
      cases n with
      | zero=>simp[Zx] at h
      | succ n=>simp[Zx,ho] at h
    | some o' =>
      rw[hc.not_reaches hi n e.on o' ho (hc e.on o' ho hl)] at h;cases h
theorem Clo.set {listed j} (hc:Clo md ops listed) (hj:j∈Region.ready md ops listed):Clo md ops (listed.setIfInBounds j true):=by
 intro k o ho hk e he hb;obtain ⟨_,oj,hoj,hall⟩:=mem_ready.1 hj;by_cases hjk:j=k
 ·subst hjk
  rw[ho] at hoj;injection hoj with hoj
  subst hoj;exact getD_set_true (hall e he hb)
 ·rw[getD_set_ne false hjk] at hk
  exact getD_set_true (hc k o ho hk e he hb)
theorem Qgm {listed:Array Bool} {i:Nat} (h:listed.getD i true=false):listed.getD i false=false:=by
 grind
theorem QbF {Q:Fs->Prop} {i:Nat} {Ai:QN} (hlen:ops.size=az.length) (hi:az[i]?=some Ai) :
  ∀ (fuel:Nat) (listed:Array Bool) (σ σ1:Fs),
   (∀ j Aj oj,az[j]?=some Aj->ops[j]?=some oj->j≠i->listed.getD j true=false->(∀ n,Zx md ops n i j=false)->qt Ai Aj=true) ->
   Clo md ops listed->i∈Region.ready md ops listed->Jq P K Ai σ σ1 ->
   QbG P K md ops az Q fuel (listed.setIfInBounds i true) σ1->QbG P K md ops az Q (fuel+1) listed σ:=by
 intro fuel
 induction fuel with
 | zero =>
   intro listed σ σ1 _ _ hr hy H;refine ⟨fun h=>(by rw[h] at hr;cases hr),fun j hj=>?_⟩
   by_cases hji:j=i
   ·subst hji
    unfold qx;simp only[hi];exact ⟨σ1,hy,H⟩
   ·have:=ready_mono hj hji
    rw[H.1] at this;cases this
 | succ fuel ih =>
   intro listed σ σ1 hfree hcl hr hy H;refine ⟨fun h=>(by rw[h] at hr;cases hr),fun j hj=>?_⟩
   by_cases hji:j=i
   ·subst hji
    unfold qx;simp only[hi];exact ⟨σ1,hy,H⟩
   ·have h1:=H.2 j (ready_mono hj hji)
    obtain ⟨hjun,oj,hoj,hall⟩:=mem_ready.1 hj
    have hjlt:j<az.length:=by
     have:=(Qzs.1 hoj).1;omega
    have hAj:az[j]?=some az[j]:=Qzk hjlt;have hnot:∀ n,Zx md ops n i j=false:=fun n=>hcl.not_reaches (Qgm (mem_ready.1 hr).1) n j oj hoj hall
    have h2:=QjY hAj (hfree j _ oj hAj hoj hji hjun hnot) hy h1
    have hfree':∀ k Ak ok,az[k]?=some Ak->ops[k]?=some ok->k≠i->(listed.setIfInBounds j true).getD k true=false ->
      (∀ n,Zx md ops n i k=false)->qt Ai Ak=true:=fun k Ak ok hAk hok hki hun hno=>by
     refine hfree k Ak ok hAk hok hki ?_ hno;by_cases hjk:j=k
     ·subst hjk;exact hjun
     ·rw[getD_set_ne true hjk] at hun;exact hun
    refine QjZ (fun σ' ⟨σ2,hm,hw⟩=>ih (listed.setIfInBounds j true) σ' σ2 hfree' (hcl.set hj) (ready_mono hr (Ne.symm hji)) hm ?_) h2
    rw[Array.setIfInBounds_comm _ _ hji];exact hw
inductive Qkf (P:Program) (K:World->Prop):List QN->Fs->Fs->Prop
 | nil (σ):Qkf P K [] σ σ
 | cons (A l σ σ1 σ') (hy:Jq P K A σ σ1) (h:Qkf P K l σ1 σ'):Qkf P K (A::l) σ σ'
def QhJ (j:Nat) (ms:List Nat) (o:Oper):Nat :=
 o.after.toList.foldr (fun e m=>if Region.binds .any e&&decide (e.on<j)&&!m.testBit e.on then m ||| 2 ^ e.on ||| ms.getD e.on 0 else m) 0
def Qdr:Nat->List Nat->List Oper->List Nat
 | _,ms,[]=>ms
 | j,ms,o::r=>Qdr (j+1) (ms++[QhJ j ms o]) r
def Jf:Nat->List QN->List Nat->Bool
 | i,A::r,_::ms=>(r.zip ms).all (fun p=>p.2.testBit i||qt A p.1)&&Jf (i+1) r ms
 | _,[],_=>true
 | _,_::_,[]=>false
def Qdn (ops:Array Oper) (az:List QN):Bool:=Jf 0 az (Qdr 0 [] ops.toList)
theorem Qds {j:Nat} {ms:List Nat} {o:Oper} (hj:ops[j]?=some o) (hms:∀ k i,(ms.getD k 0).testBit i=true->i<k/\∃ n,Zx .any ops n i k=true) :
  ∀ i,(QhJ j ms o).testBit i=true->i<j/\∃ n,Zx .any ops n i j=true:=by
 unfold QhJ
 have key:∀ (l:List Edge),(∀ e∈l,e∈o.after)->∀ i,(l.foldr (fun e m=>if Region.binds .any e&&decide (e.on<j)&&!m.testBit e.on then m ||| 2 ^ e.on ||| ms.getD e.on 0 else m) 0).testBit i=true ->
   i<j/\∃ n,Zx .any ops n i j=true:=fun l=>by
  induction l with
  | nil=>intro _ i h;simp at h
  | cons e l ih =>
    intro hl i h;have ih:=ih (fun e he=>hl e (by simp[he])) i
    simp only[List.foldr_cons] at h;split at h
    ·rename_i hc
     simp only[Qzm,decide_eq_true_eq] at hc;rw[Nat.testBit_or,Nat.testBit_or,QAG,QAG] at h;rcases h with (h | h) | h
     ·exact ih h
     ·rw[Nat.testBit_two_pow] at h
      have h:=of_decide_eq_true h;refine ⟨by omega,1,?_⟩
      simp only[Zx,hj,QAG];exact .inl (Array.any_eq_true'.2 ⟨e,hl e (by simp),by simp[hc.1.1,h]⟩)
     ·obtain ⟨h1,n,h2⟩:=hms _ _ h
      refine ⟨by omega,n+1,?_⟩
      simp only[Zx,hj,QAG];exact .inr (Array.any_eq_true'.2 ⟨e,hl e (by simp),by simp[hc.1.1,h1,h2]⟩)
    ·exact ih h
 exact key _ fun e he=>by simpa using he
theorem Uz:∀ (l:List Oper) (j:Nat) (ms:List Nat),ms.length=j->(∀ k,ops[j+k]?=l[k]?)->(∀ k i,(ms.getD k 0).testBit i=true->i<k/\∃ n,Zx .any ops n i k=true) ->
  ∀ k i,((Qdr j ms l).getD k 0).testBit i=true->i<k/\∃ n,Zx .any ops n i k=true
 | [],_,_,_,_,h=>h
 | o::r,j,ms,hl,ho,h=>by
   have hj:ops[j]?=some o:=by simpa using ho 0
   refine Uz r (j+1) _ (by simp[hl]) (fun k=>by have:=ho (k+1);simpa[Qz6,Nat.add_comm 1 k] using this) fun k i hk=>?_
   rw[List.getD_eq_getElem?_getD] at hk;by_cases h1:k<ms.length
   ·rw[QzA h1,<- List.getD_eq_getElem?_getD] at hk
    exact h k i hk
   ·rw[Qzz (by omega)] at hk
    by_cases h2:k=ms.length
    ·subst h2
     simp at hk;rw[hl];exact Qds hj h i hk
    ·rw[List.getElem?_eq_none (by simp;omega)] at hk
     simp at hk
theorem Uy:∀ (az:List QN) (ms:List Nat) (i0:Nat),Jf i0 az ms=true->∀ (i j:Nat) (A B:QN),az[i]?=some A->az[j]?=some B->i<j->(ms.getD j 0).testBit (i0+i)=true\/qt A B=true
 | [],_,_,_,i,j,A,B,hi,_,_=>by simp at hi
 | _::_,[],_,h,_,_,_,_,_,_,_=>by simp[Jf] at h
 | C::r,m::ms,i0,h,i,j,A,B,hi,hj,hij=>by
   simp only[Jf,Qzm] at h;obtain ⟨j,rfl⟩:∃ k,j=k+1:=⟨j-1,by omega⟩
   simp only[List.getElem?_cons_succ] at hj
   have hlen:∀ (az:List QN) (ms:List Nat) (i0:Nat),Jf i0 az ms=true->az.length<=ms.length:=fun az=>by
    induction az with
    | nil=>intro ms _ _;simp
    | cons a az ih =>
      intro ms i0 h;cases ms with
      | nil=>simp[Jf] at h
      | cons m ms =>
        simp only[Jf,Qzm] at h;have:=ih ms _ h.2;simp;omega
   have hl:=hlen _ _ _ h.2;have hjr:=(Qzl.1 hj).1;cases i with
   | zero =>
     injection hi with hi
     subst hi;have hm:ms[j]?=some ms[j]:=Qzk (by omega)
     have h1:=QzX.1 h.1 (B,ms[j]) (List.mem_iff_getElem?.2 ⟨j,by rw[List.getElem?_zip_eq_some];exact ⟨hj,hm⟩⟩)
     simp only[QAG] at h1;simpa[List.getD_eq_getElem?_getD,hm] using h1
   | succ i =>
     have:=Uy r ms (i0+1) h.2 i j A B (by simpa using hi) hj (by omega)
     simpa[List.getD_eq_getElem?_getD,Qz6,Nat.add_comm 1 i] using this
theorem Qcb (h:Qdn ops az=true) {i j A B} (hi:az[i]?=some A) (hj:az[j]?=some B) (hij:i<j)
  (hn:∀ n,Zx .any ops n i j=false):qt A B=true:=by
 rcases Uy az _ 0 h i j A B hi hj hij with h1 | h1
 ·rw[Qzx] at h1
  obtain ⟨_,n,h2⟩:=Uz (ops:=ops) ops.toList 0 [] rfl (fun k=>by simp) (fun k i h=>by simp at h) j i h1
  rw[hn n] at h2;cases h2
 ·exact h1
def Qmc:Nat->List Oper->Bool
 | _,[]=>true
 | k,o::r=>o.after.all (fun e=>!Region.binds .any e||decide (e.on<k))&&Qmc (k+1) r
theorem Qau:∀ (l:List Oper) (k0:Nat),Qmc k0 l=true->∀ (k:Nat) (o:Oper),l[k]?=some o->∀ e∈o.after,Region.binds .any e=true->e.on<k0+k
 | [],_,_,k,o,h,_,_,_=>by simp at h
 | x::r,k0,hb,k,o,h,e,he,hbi=>by
   simp only[Qmc,Qzm] at hb;cases k with
   | zero =>
     injection h with h
     subst h;have:=Array.all_eq_true_iff_forall_mem.1 hb.1 e he;simpa[hbi] using this
   | succ k =>
     have:=Qau r (k0+1) hb.2 k o (by simpa using h) e he hbi
     omega
theorem qM {Q} (hlen:ops.size=az.length) (hpairs:Qdn ops az=true) (hback:∀ (k:Nat) (o:Oper),ops[k]?=some o->∀ e∈o.after,Region.binds .any e=true->e.on<k):∀ l k listed σ σ',(∀ j,l[j]?=az[k+j]?) ->
  (∀ j,j<k->listed.getD j true=true)->(∀ j,k<=j->j<ops.size->listed.getD j true=false)->listed.size=ops.size->Clo .any ops listed->Qkf P K l σ σ'->Q σ'->QbG P K .any ops az Q l.length listed σ
 | [],k,listed,σ,σ',hl,hlist,hun,hsz,_,hp,h=>by
   cases hp;refine ⟨List.eq_nil_iff_forall_not_mem.2 fun j hj=>?_,h⟩
   obtain ⟨h1,o,h2,_⟩:=mem_ready.1 hj;have h3:=(Qzs.1 h2).1;by_cases h4:j<k
   ·rw[hlist j h4] at h1
    cases h1
   ·have:=hl (j-k)
    rw[show k+(j-k)=j by omega,Qzk (show j<az.length by omega)] at this
    simp at this
 | A::l,k,listed,σ,σ',hl,hlist,hun,hsz,hcl,hp,h=>by
   have h0:az[k]?=some A:=by simpa using (hl 0).symm
   have hk:k<ops.size:=by
    have:=(Qzl.1 h0).1;omega
   have hr':k∈Region.ready .any ops listed:=mem_ready.2 ⟨hun k (Qzq _) hk,ops[k],by simp[hk],fun e he hb=>by
    have h1:=hback k _ (by simp[hk]) e he hb
    have h2:=hlist e.on h1;simp only[Array.getD,show e.on<listed.size by omega,dite_true] at h2 |-
    exact h2⟩
   cases hp with
   | cons _ _ _ σ1 _ hy hp =>
     refine QbF hlen h0 l.length listed σ σ1 (fun j Aj oj hAj hoj hji hun' hno=>?_) hcl hr' hy
      (qM hlen hpairs hback l (k+1) _ _ σ' (fun j=>by have:=hl (j+1);simpa[Qz6,Nat.add_comm 1 j] using this) (fun j hj=>?_) (fun j hj hj2=>?_) (by simpa using hsz) (hcl.set hr') hp h)
     ·have hjk:k<j:=by
       grind
      exact Qcb hpairs h0 hAj hjk hno
     ·by_cases hjk:j=k
      ·subst hjk
       by_cases hs:j<listed.size
       ·simp[hs]
       ·simp[Array.getElem?_eq_none (Nat.le_of_not_lt hs)]
      ·rw[getD_set_ne true (Ne.symm hjk)]
       exact hlist j (by omega)
     ·rw[getD_set_ne true (by omega)]
      exact hun j (by omega) hj2
theorem Qpj (n):Clo md ops (Array.replicate n false):=by
 intro j o _ hj;simp[Array.getElem?_replicate] at hj;split at hj<;>simp at hj
end
end Go.Ev
