/- Abstract values for a value-semantics evaluator of the translated Go code, and how they stand for values in a world. -/
import Derived.Still
import Derived.Below
import Derived.Laws.AppendOwn
import Derived.KernelRfl
import GoSem.ClaimKeys
import Derived.Laws.Strings
import Derived.Laws.IdiomStrings
import Derived.Laws.Cover4
import Derived.Laws.MakeOwn
import Derived.Lib.ConvBytes
import Derived.Lib.OthersKept
import Derived.MapKept
import Derived.MapFrom
import Derived.Carry
import Derived.Maps.RangeRun
import Derived.Laws.StructEq
import Derived.ChangeKeysEq
set_option linter.all false
namespace Go
abbrev QNW:=@List.take_succ_eq_append_getElem
abbrev QNX:=@List.getElem?_eq_getElem
abbrev QNY:=@List.getElem?_eq_some_iff
abbrev QNZ:=@Bool.and_eq_true
abbrev QN0:=@List.getElem_mem
abbrev QN1:=@List.take_of_length_le
abbrev QN2:=@Option.map_eq_some_iff
abbrev QN3:=@Nat.le_refl
abbrev QN4:=@List.eq_nil_of_length_eq_zero
abbrev QN5:=@List.take_length
abbrev QN6:=@List.getElem?_map
abbrev QN7:=@List.mem_cons
abbrev QN8:=@Array.getElem?_eq_some_iff
abbrev QN9:=@List.length_map
abbrev QOa:=@List.cons_append
abbrev QOb:=@List.mem_map
abbrev QOc:=@List.mem_append
abbrev QOd:=@List.map_append
abbrev QOe:=@List.not_mem_nil
abbrev QOf:=@List.length_append
abbrev QOg:=@List.nil_append
abbrev QOh:=@List.mem_of_getElem?
abbrev QOi:=@List.length_cons
abbrev QOj:=@Int.mul_le_mul_of_nonneg_right
abbrev QOk:=@List.map_cons
abbrev QOl:=@List.append_nil
abbrev QOm:=@List.getElem?_append_right
abbrev QOn:=@Nat.zero_add
abbrev QOo:=@Bool.false_eq_true
abbrev QOp:=@List.length_filter_le
abbrev QOq:=@List.drop_eq_getElem_cons
abbrev QOr:=@List.mem_range
abbrev QOs:=@List.getElem?_append_left
abbrev QOt:=@List.all_eq_true
abbrev QOu:=@List.mem_singleton
abbrev QOv:=@List.range_succ
abbrev QOw:=@List.countP_le_length
abbrev QOx:=@List.mem_filter
abbrev QOy:=@Int.tmod_eq_emod_of_nonneg
abbrev QOz:=@Nat.le_trans
abbrev QOA:=@List.drop_eq_nil_of_le
abbrev QOB:=@Int.tdiv_eq_ediv_of_nonneg
abbrev QOC:=@Option.isSome_iff_exists
abbrev QOD:=@Bool.not_eq_true'
abbrev QOE:=@List.length_nil
abbrev QOF:=@List.getElem?_of_mem
abbrev QOG:=@Option.getD_some
abbrev QOH:=@List.countP_append
abbrev QOI:=@Nat.mul_le_mul_right
abbrev QOJ:=@List.mem_of_mem_take
abbrev QOK:=@List.mem_flatMap
abbrev QOL:=@Array.getD_eq_getD_getElem?
abbrev QOM:=@Nat.lt_of_lt_of_le
abbrev QON:=@List.getElem_of_mem
abbrev QOO:=@List.any_eq_true
abbrev QOP:=@List.foldl_cons
abbrev QOQ:=@Int.mul_nonneg
abbrev QOR:=@Array.getElem?_eq_getElem
abbrev QOS:=@List.getElem?_take
abbrev QOT:=@List.filter_append
abbrev QOU:=@Nat.add_mul
abbrev QOV:=@Nat.pow_le_pow_right
abbrev QOW:=@List.mem_of_mem_drop
abbrev QOX:=@Int.mul_le_mul_of_nonneg_left
abbrev QOY:=@Int.mul_le_mul
abbrev QOZ:=@List.foldl_append
abbrev QO0:=@World.block_lt_of_cell?
abbrev QO1:=@List.exists_mem_of_ne_nil
abbrev QO2:=@List.mem_cons_of_mem
abbrev QO3:=@List.map_singleton
abbrev QO4:=@Nat.lt_succ_iff_lt_or_eq
abbrev QO5:=@List.take_append_drop
abbrev QO6:=@List.map_congr_left
abbrev QO7:=@List.length_pos_iff
abbrev QO8:=@Bool.or_eq_true
abbrev QO9:=@Nat.not_lt
abbrev QPa:=@Nat.add_assoc
abbrev QPb:=@List.flatMap_cons
abbrev QPc:=@List.append_assoc
abbrev QPd:=@Nat.add_zero
abbrev QPe:=@Int.tmod_lt_of_pos
abbrev QPf:=@Option.map_some
abbrev QPg:=@Int.toNat_natCast
abbrev QPh:=@List.dropLast_concat_getLast
abbrev QPi:=@Nat.lt_or_ge
abbrev QPj:=@List.length_take
abbrev QPk:=@Nat.zero_le
abbrev QPl:=@List.pairwise_iff_getElem
abbrev QPm:=@Array.mapM_eq_mapM_toList
abbrev QPn:=@List.countP_cons
abbrev QPo:=@World.cell?_of_block
abbrev QPp:=@List.filter_cons_of_pos
abbrev QPq:=@List.filter_cons_of_neg
abbrev QPr:=@Array.getElem?_setIfInBounds
abbrev QPs:=@List.size_toArray
abbrev QPt:=@List.any_eq_false
abbrev QPu:=@Array.length_toList
abbrev QPv:=@Array.getElem?_push
abbrev QPw:=@List.getElem_cons_zero
abbrev QPx:=@List.getElem?_eq_none
abbrev QPy:=@List.getElem?_drop
abbrev QPz:=@List.countP_eq_length
abbrev QPA:=@List.nodup_nil
abbrev QPB:=@Nat.or_lt_two_pow
abbrev QPC:=@List.filter_congr
abbrev QPD:=@List.find?_eq_some_iff_getElem
abbrev QPE:=@Int.le_trans
abbrev QPF:=@Nat.mul_one
abbrev QPG:=@List.countP_eq_zero
abbrev QPH:=@Nat.lt_of_le_of_lt
abbrev QPI:=@Nat.eq_zero_or_pos
abbrev QPJ:=@Int.natCast_nonneg
abbrev QPK:=@Nat.min_eq_left
abbrev QPL:=@List.nodup_cons
abbrev QPM:=@Array.getElem?_append
abbrev QPN:=@Nat.pow_lt_pow_right
abbrev QPO:=@List.map_flatMap
abbrev QPP:=@List.flatMap_append
abbrev QPQ:=@List.map_take
abbrev QPR:=@Bool.eq_iff_iff
end Go
namespace Go.Ev
open Go Go.RowKit
abbrev Kp(K:World->Prop):Prop:=∀w w',K w->Below w.heap.size w w'->K w'
inductive MK where
 |int(k:IntKind)(n:Int)
 |str(s:List UInt8)
 deriving DecidableEq,Inhabited
def MK.val:MK->Value
 | .int k n=>.int k n
 | .str s=>.string ⟨s.toArray⟩
inductive IV where
 |any
 |bool(b:Bool)
 |int(k:IntKind)(n:Int)
 |str(s:List UInt8)
 |nilp
 |sl(sz:Nat)(es:List (List IV))
 |ptr(cs:List IV)
 |agg(cs:List IV)
 |xf(cs:List IV)
 |fn(f:FuncId)
 |lit(v:Value)
 |map(kvs:List (MK×IV))
 |clo(g:FuncId)(first caps:List IV)
 |ifn
 deriving Inhabited
inductive AV where
 |iv(x:IV)
 |agg(cs:List AV)
 |loc(id off:Nat)
 |yj(id n i off:Nat)
 |yl(id n:Nat)
 |yn(id:Nat)(k:MK)(n:Nat)
 |ym(sz:Nat)
 |zsl(sz:Nat)
 |yk(id:Nat)
 |yr(id i:Nat)
 |clo(g:FuncId)(first caps:List AV)
 |cb(id:Nat)
 |xf(cs:List AV)
 deriving Inhabited
structure Zv(Fr:Nat->Prop)(w w':World):Prop where
 os:w'.os=w.os
 tape:w'.tape=w.tape
 output:w'.output=w.output
 size:w.heap.size<=w'.heap.size
 block:∀k,Fr k->w'.heap[k]?=w.heap[k]?
def isFn:Value->Bool
 | .func _ _ _=>true
 |_=>false
structure Ext where
 v:Value
 hv:isFn v=true
 J:(Nat->Prop)->(Nat->Prop)->World->Prop
 stay:∀O D w w',J O D w->Zv D w w'->J O D w'
instance:Inhabited Ext:=⟨⟨.func (.func 0) #[] #[],rfl,λ_ _ _=>True,λ_ _ _ _ _ _=>trivial⟩⟩
inductive AO where
 |box(cs:List AV)
 |arr(e:TypeId)(sz:Nat)(es:List (List AV))(mv:Nat)
 |xh(kvs:List (MK×IV))
 |yo(e:TypeId)(sz:Nat)(kvs:List (MK×List (List IV)))(pend:Option MK)
 |siter(s:List UInt8)(pos:Nat)
 |yq(kvs:List (MK×IV))(seen:List Nat)
 |bytes(s:List UInt8)
 |ext(s:Ext)
 deriving Inhabited
def addr_add(b o k):(⟨b,o,none⟩:Addr).add k=⟨b,o+k,none⟩:=by unfold Addr.add;split<;>simp_all
structure Vf(n:Nat)(es:Array MapEntry)(clock:Nat)(key:Nat->Option MK):Prop where
 size:es.size=n
 keys:∀(i:Nat)(e:MapEntry),es[i]?=some e->∃k,key i=some k/\e.key=k.val
 born:∀(i:Nat)(e:MapEntry),es[i]?=some e->e.born<clock
 apart:∀(i j:Nat)(e f:MapEntry),es[i]?=some e->es[j]?=some f->e.born=f.born->i=j
def QJC:Value->Bool
 | .iface _ _=>true
 |_=>false
inductive QZ(ok:Nat->Prop)(w:World):IV->Value->Prop
 |any(v:Value):QZ ok w .any v
 |bool(b:Bool):QZ ok w (.bool b) (.bool b)
 |int(k:IntKind)(n:Int):QZ ok w (.int k n) (.int k n)
 |str(s:List UInt8):QZ ok w (.str s) (.string ⟨s.toArray⟩)
 |nilp:QZ ok w .nilp (.pointer none)
 |nils(sz:Nat):QZ ok w (.sl sz []) (.slice none 0 0)
 |nilz(sz:Nat)(a:Addr):QZ ok w (.sl sz []) (.slice (some a) 0 0)
 |sl(sz:Nat)(es:List (List IV))(b off cap:Nat)(u:Nat->Value)(hl:es.length<=cap)(hc:cap<=maxLen)
  (hs:∀c∈es,c.length=sz)
  (hu:∀k,k<es.length*sz->ok b/\w.cell? ⟨b,off+k,none⟩=some (u k)/\(u k).oneCell'=true)
  (hx:∀(i j:Nat)(c:List IV)(x:IV),es[i]?=some c->c[j]?=some x->QZ ok w x (u (i*sz+j))):
  QZ ok w (.sl sz es) (.slice (some ⟨b,off,none⟩) es.length cap)
 |ptr(cs:List IV)(b off:Nat)(u:Nat->Value)
  (hu:∀k,k<cs.length->ok b/\w.cell? ⟨b,off+k,none⟩=some (u k)/\(u k).oneCell'=true)
  (hx:∀(k:Nat)(x:IV),cs[k]?=some x->QZ ok w x (u k)):
  QZ ok w (.ptr cs) (.pointer (some ⟨b,off,none⟩))
 |agg(cs:List IV)(vs:List Value)(hl:vs.length=cs.length)(h1:∀u∈vs,u.oneCell'=true)
  (hx:∀(k:Nat)x u,cs[k]?=some x->vs[k]?=some u->QZ ok w x u):
  QZ ok w (.agg cs) (.agg vs.toArray)
 |xf(cs:List IV)(vs:List Value)(hl:vs.length=cs.length)
  (hx:∀(k:Nat)x u,cs[k]?=some x->vs[k]?=some u->QZ ok w x u):
  QZ ok w (.xf cs) (.tuple vs.toArray)
 |fn(f:FuncId):QZ ok w (.fn f) (.func (.func f) #[] #[])
 |lit(v:Value):QZ ok w (.lit v) v
 |ifn(v:Value)(h:QJC v=true):QZ ok w .ifn v
 |mapn:QZ ok w (.map []) (.map none)
 |map(kvs:List (MK×IV))(r:Nat)(es:Array MapEntry)(clock:Nat)(hok:ok r)(hr:w.heap[r]?=some (.map es clock))(hm:Vf kvs.length es clock (λi=>(kvs[i]?).map (·.1)))
  (hd:∀(i j:Nat)(p q:MK×IV),kvs[i]?=some p->kvs[j]?=some q->p.1=q.1->i=j)
  (hx:∀(i:Nat)(e:MapEntry)(p:MK×IV),es[i]?=some e->kvs[i]?=some p->QZ ok w p.2 e.val):QZ ok w (.map kvs) (.map (some r))
 |clo(g:FuncId)(fs cs:List IV)(us vs:List Value)(h1:us.length=fs.length)(h2:vs.length=cs.length)
  (hf:∀(k:Nat)x u,fs[k]?=some x->us[k]?=some u->QZ ok w x u)
  (hc:∀(k:Nat)x u,cs[k]?=some x->vs[k]?=some u->QZ ok w x u):QZ ok w (.clo g fs cs) (.func (.func g) us.toArray vs.toArray)
theorem QZ.mono{ok ok':Nat->Prop}{w w':World}{x:IV}{v:Value}(h:QZ ok w x v)
  (hok:∀b,ok b->b<w.heap.size->ok' b/\w'.heap[b]?=w.heap[b]?):QZ ok' w' x v:=by
 have cell:∀(b o:Nat)(u:Value),ok b->w.cell? ⟨b,o,none⟩=some u->ok' b/\w'.cell? ⟨b,o,none⟩=some u:=by intro b o u hb hc;have y9:=QO0 w ⟨b,o,none⟩ hc;have⟨h1,h2⟩:=hok b hb y9;exact⟨h1,(QPo (a:=⟨b,o,none⟩) h2).trans hc⟩
 induction h with
 |any v=>exact .any v
 |bool b=>exact .bool b
 |int k n=>exact .int k n
 |str s=>exact .str s
 |nilp=>exact .nilp
 |nils sz=>exact .nils sz
 |nilz sz a=>exact .nilz sz a
 |sl sz es b off cap u hl hc hs hu _ ih=>refine .sl sz es b off cap u hl hc hs (λk hk=>?_) (λi j c x h1 h2=>ih i j c x h1 h2);have⟨h1,h2,h3⟩:=hu k hk;exact⟨(cell _ _ _ h1 h2).1,(cell _ _ _ h1 h2).2,h3⟩
 |ptr cs b off u hu _ ih=>refine .ptr cs b off u (λk hk=>?_) (λk x h1=>ih k x h1);have⟨h1,h2,h3⟩:=hu k hk;exact⟨(cell _ _ _ h1 h2).1,(cell _ _ _ h1 h2).2,h3⟩
 |agg cs vs hl h1 _ ih=>exact .agg cs vs hl h1 (λk x u h1 h2=>ih k x u h1 h2)
 |xf cs vs hl _ ih=>exact .xf cs vs hl (λk x u h1 h2=>ih k x u h1 h2)
 |fn f=>exact .fn f
 |lit v=>exact .lit v
 |ifn v h=>exact .ifn v h
 |mapn=>exact .mapn
 |map kvs r es clock hr0 hr hm hd _ ih=>have y9:r<w.heap.size:=(QN8.1 hr).1;have⟨h1,h2⟩:=hok r hr0 y9;exact .map kvs r es clock h1 (h2.trans hr) hm hd (λi e p h3 h4=>ih i e p h3 h4)
 |clo g fs cs us vs h1 h2 _ _ ih1 ih2=>exact .clo g fs cs us vs h1 h2 (λk x u a b=>ih1 k x u a b) (λk x u a b=>ih2 k x u a b)
inductive Lay where
 |box(b:Nat)
 |arr(v:Value)(xs:List Value)
 |one(b:Nat)
 |map(b:Nat)(vals:List (MK×Value))
 |ext(O D:Nat->Prop)
def Lay.has:Lay->Nat->Prop
 | .box b,k=>b=k
 | .arr v _,k=>v.ownBlock=some k
 | .one b,k=>b=k
 | .map b vals,k=>b=k\/∃p∈vals,p.2.ownBlock=some k
 | .ext O _,k=>O k
def Qv{α:Type}(k:MK):List (MK×α)->Option α
 |[]=>none
 |p::r=>if p.1=k then some p.2 else Qv k r
def AO.isIter:AO->Bool
 | .siter _ _| .yq _ _=>true
 | .box _| .arr _ _ _ _| .xh _| .yo _ _ _ _| .bytes _| .ext _=>false
def isSl:Value->Bool
 | .slice _ _ _=>true
 |_=>false
def QpM:Value->Bool
 | .slice _ 0 0=>true
 |_=>false
def Qcv{v}(h:QpM v=true):∃a,v=.slice a 0 0:=by
 unfold QpM at h;split at h
 .exact⟨_,rfl⟩
 .cases h
inductive QG(ok:Nat->Prop)(w:World)(lo:Nat->Option AO)(L:Nat->Lay):AV->Value->Prop
 |iv(x:IV)(v:Value)(h:QZ ok w x v):QG ok w lo L (.iv x) v
 |agg(cs:List AV)(vs:List Value)(hl:vs.length=cs.length)(h1:∀u∈vs,u.oneCell'=true)
  (hx:∀(k:Nat)x u,cs[k]?=some x->vs[k]?=some u->QG ok w lo L x u):QG ok w lo L (.agg cs) (.agg vs.toArray)
 |loc(id off:Nat)(cs:List AV)(b:Nat)(ho:lo id=some (.box cs))(hL:L id=.box b):QG ok w lo L (.loc id off) (.pointer (some ⟨b,off,none⟩))
 |yl(id:Nat)(e:TypeId)(sz:Nat)(es:List (List AV))(mv:Nat)(v:Value)(xs:List Value)
  (ho:lo id=some (.arr e sz es mv))(hL:L id=.arr v xs)(h1:isSl v=true):QG ok w lo L (.yl id es.length) v
 |old(id n:Nat)(e:TypeId)(sz:Nat)(es:List (List AV))(mv:Nat)(v v':Value)(xs:List Value)
  (ho:lo id=some (.arr e sz es mv))(hL:L id=.arr v xs)(h1:isSl v'=true)(hn:n<es.length)
  (hv:mv<=n->(v'=.slice none 0 0/\n=0)\/∃b cap,v'=.slice (some ⟨b,0,none⟩) n cap/\n<=cap/\cap<=maxLen /\(∀k,k<n*sz->(ok b\/v.ownBlock=some b)/\∃u,w.cell? ⟨b,k,none⟩=some u/\xs[k]?=some u)):QG ok w lo L (.yl id n) v'
 |yj(id n i off:Nat)(e:TypeId)(sz:Nat)(es:List (List AV))(mv:Nat)(v:Value)(xs:List Value)(b:Nat)
  (ho:lo id=some (.arr e sz es mv))(hL:L id=.arr v xs)(hn:n<=es.length)
  (hv:mv<=n->i<n/\(n=es.length->v.ownBlock=some b) /\(∀k,k<n*sz->(ok b\/v.ownBlock=some b)/\∃u,w.cell? ⟨b,k,none⟩=some u/\xs[k]?=some u)):
  QG ok w lo L (.yj id n i off) (.pointer (some ⟨b,i*sz+off,none⟩))
 |yn(id:Nat)(k:MK)(n:Nat)(e:TypeId)(sz:Nat)(kvs:List (MK×List (List IV)))(pend:Option MK)(b:Nat)(vals:List (MK×Value))(v:Value)
  (ho:lo id=some (.yo e sz kvs pend))(hL:L id=.map b vals)(h1:isSl v=true)(hn:n<=((Qv k kvs).getD []).length)(hv:((Qv k kvs).getD []).length=n->v=(Qv k vals).getD (.slice none 0 0)):QG ok w lo L (.yn id k n) v
 |ym(sz:Nat):QG ok w lo L (.ym sz) (.slice none 0 0)
 |zsl(sz:Nat)(v:Value)(h:QpM v=true):QG ok w lo L (.zsl sz) v
 |yk(id b:Nat)(o:AO)(ho:lo id=some o)(hn:o.isIter=true)(hL:L id=.one b):QG ok w lo L (.yk id) (.pointer (some ⟨b,0,none⟩))
 |omap(id b:Nat)(kvs:List (MK×IV))(ho:lo id=some (.xh kvs))(hL:L id=.one b):QG ok w lo L (.yk id) (.map (some b))
 |orow(id b:Nat)(e:TypeId)(sz:Nat)(kvs:List (MK×List (List IV)))(pend:Option MK)(vals:List (MK×Value))(ho:lo id=some (.yo e sz kvs pend))(hL:L id=.map b vals):QG ok w lo L (.yk id) (.map (some b))
 |obytes(id b cap:Nat)(s:List UInt8)(ho:lo id=some (.bytes s))(hL:L id=.one b):QG ok w lo L (.yk id) (.slice (some ⟨b,0,none⟩) s.length cap)
 |yr(id i b:Nat)(s:List UInt8)(ho:lo id=some (.bytes s))(hL:L id=.one b)(hi:i<s.length):QG ok w lo L (.yr id i) (.pointer (some ⟨b,i,none⟩))
 |clo(g:FuncId)(fs cs:List AV)(us vs:List Value)(h1:us.length=fs.length)(h2:vs.length=cs.length)
  (hf:∀(k:Nat)x u,fs[k]?=some x->us[k]?=some u->QG ok w lo L x u)
  (hc:∀(k:Nat)x u,cs[k]?=some x->vs[k]?=some u->QG ok w lo L x u):QG ok w lo L (.clo g fs cs) (.func (.func g) us.toArray vs.toArray)
 |cb(id:Nat)(s:Ext)(O D:Nat->Prop)(ho:lo id=some (.ext s))(hL:L id=.ext O D):QG ok w lo L (.cb id) s.v
 |xf(cs:List AV)(vs:List Value)(hl:vs.length=cs.length)
  (hx:∀(k:Nat)x u,cs[k]?=some x->vs[k]?=some u->QG ok w lo L x u):QG ok w lo L (.xf cs) (.tuple vs.toArray)
def Qtb(kvs:List (MK×List (List IV)))(pend:Option MK)(vals:List (MK×Value))(es:Array MapEntry)(clock:Nat):Prop:=
 ∃n,n<=kvs.length/\Vf n es clock (λi=>(kvs[i]?).map (·.1))/\(∀i p,kvs[i]?=some p->n<=i->pend=some p.1) /\
  ∀(i:Nat)(e:MapEntry)(q:MK×Value),es[i]?=some e->vals[i]?=some q->pend≠some q.1->e.val=q.2
def JV(ok:Nat->Prop)(w:World)(kvs:List (MK×IV))(seen:List Nat)(r:Option Nat)(since:Nat)(sn:Array Nat):Prop:=
 match r with
 |none=>kvs=[]
 |some r=>∃es,ok r/\w.heap[r]?=some (.map es since)/\Vf kvs.length es since (λi=>(kvs[i]?).map (·.1)) /\
  (∀(i:Nat)(e:MapEntry)(p:MK×IV),es[i]?=some e->kvs[i]?=some p->QZ ok w p.2 e.val) /\
  sn.size=seen.length/\∀(i:Nat)(x:Nat),(seen.reverse)[i]?=some x->∃e,es[x]?=some e/\sn[i]?=some e.born
structure XS where
 w:World
 fr:Nat->Prop
 lt:∀b,fr b->b<w.heap.size
 pin:Nat->Value:=λ_=>undef
structure YK(Fr:Nat->Prop)(w:World)(e:TypeId)(sz:Nat)(v:Value)(n:Nat)(xs:List Value):Prop where
 own:w.ownsRow 0 e sz v n xs
 free:∀b,v.ownBlock=some b->¬Fr b
def QK(Fr:Nat->Prop)(ok:Nat->Prop)(w:World)(lo:Nat->Option AO)(L:Nat->Lay):AO->Lay->Prop
 | .box cs,.box b=>¬Fr b/\∃t vs,w.heap[b]?=some (.cells (List.toArray vs) t (0,0))/\vs.length=cs.length/\(∀u∈vs,u.oneCell'=true) /\
   ∀(k:Nat)x u,cs[k]?=some x->vs[k]?=some u->QG ok w lo L x u
 | .arr e sz es mv,.arr v xs=>YK Fr w e sz v es.length xs/\mv<=es.length/\(∀c∈es,c.length=sz)/\(∀u∈xs,u.oneCell'=true) /\
   ∀(i j:Nat)(c:List AV)(x:AV)(u:Value),es[i]?=some c->c[j]?=some x->xs[i*sz+j]?=some u->QG ok w lo L x u
 | .xh kvs,.one b=>¬Fr b/\∃es clock,w.heap[b]?=some (.map es clock)/\Vf kvs.length es clock (λi=>(kvs[i]?).map (·.1)) /\
   (∀(i j:Nat)(p q:MK×IV),kvs[i]?=some p->kvs[j]?=some q->p.1=q.1->i=j)/\∀(i:Nat)(e:MapEntry)(p:MK×IV),es[i]?=some e->kvs[i]?=some p->QZ ok w p.2 e.val
 | .yo e sz kvs pend,.map b vals=>¬Fr b/\(∃es clock,w.heap[b]?=some (.map es clock)/\Qtb kvs pend vals es clock) /\
   (∀(i j:Nat)(p q:MK×List (List IV)),kvs[i]?=some p->kvs[j]?=some q->p.1=q.1->i=j)/\vals.map (·.1)=kvs.map (·.1) /\
   (∀(i:Nat)(p:MK×List (List IV))(q:MK×Value),kvs[i]?=some p->vals[i]?=some q->∃xs,YK Fr w e sz q.2 p.2.length xs/\q.2.ownBlock≠some b/\(∀c∈p.2,c.length=sz)/\(∀u∈xs,u.oneCell'=true) /\∀(i j:Nat)c x u,p.2[i]?=some c->c[j]?=some x->xs[i*sz+j]?=some u->QZ ok w x u) /\
   (∀(i j:Nat)(p q:MK×Value)(g:Nat),i≠j->vals[i]?=some p->vals[j]?=some q->p.2.ownBlock=some g->q.2.ownBlock≠some g)
 | .yq kvs seen,.one b=>¬Fr b/\∃(r:Option Nat)(since:Nat)(sn:Array Nat),w.heap[b]?=some (.mapIter r since sn since)/\JV ok w kvs seen r since sn
 | .ext s,.ext O D=>(∀b,O b->¬Fr b/\b<w.heap.size/\D b)/\(∀b,D b->O b\/(Fr b/\ok b))/\s.J O D w
 | .siter s pos,.one b=>¬Fr b/\w.heap[b]?=some (.stringIter ⟨s.toArray⟩ pos)
 | .bytes s,.one b=>¬Fr b/\∃(cur:Array Value)(t:TypeId),w.heap[b]?=some (.cells cur t (cur.size,cur.size+1))/\s.length<=cur.size/\∀(i:Nat)(c:UInt8),s[i]?=some c->cur[i]?=some (.int .u8 c.toNat)
 |_,_=>False
def okL(ok0:Nat->Prop)(lo:Nat->Option AO)(L:Nat->Lay)(b:Nat):Prop:=ok0 b/\∀id o,lo id=some o->¬(L id).has b
structure Fm where
 n:Nat
 pins:List Nat
def Fm.dst(N:Fm)(d:Nat):Bool:=decide (d<N.n)&&!N.pins.contains d
def mark(r:Nat):Deferred:={ target:=.collected r,args:=#[] }
def Qbq(fr:Nat->Prop)(lo:Nat->Option AO)(L:Nat->Lay)(w:World)(ds:List Deferred):Prop:=∃rs:List Nat,ds=rs.map mark/\rs.Nodup/\∀r∈rs,w.heap[r]?=some (.deferred (some []))/\¬fr r/\∀id o,lo id=some o->¬(L id).has r
structure Rel(ok0:Nat->Prop)(N:Fm)(w0:XS)(lk:Nat->AV)(lo:Nat->Option AO)(a:Act)(w:World)(L:Nat->Lay):Prop where
 below:Zv w0.fr w0.w w
 defers:Qbq w0.fr lo L w a.defers
 size:a.tmps.size=N.n
 env:∀t,QG (okL ok0 lo L) w lo L (lk t) (a.tmps.getD t undef)
 y8:∀id o,lo id=some o->QK w0.fr (okL ok0 lo L) w lo L o (L id)
 apart:∀i j oi oj b,i≠j->lo i=some oi->lo j=some oj->(L i).has b->¬(L j).has b
 pin:∀t,N.pins.contains t=true->a.tmps.getD t undef=w0.pin t
attribute [grind] QG
def alloc_old(w:World)(o:Obj)(i:Nat)(h:i<w.heap.size):(w.alloc o).heap[i]?=w.heap[i]?:=by show(w.heap.push o)[i]?=_;rw[QPv,if_neg (Nat.ne_of_lt h)]
def QG.ext{ok ok' w w' lo lo' L L' x v}
  (h:QG ok w lo L x v)(hok:∀b,ok b->b<w.heap.size->ok' b)(hw:∀b,b<w.heap.size->w'.heap[b]?=w.heap[b]?)
  (xc:∀id o,lo id=some o->lo' id=some o/\L' id=L id):QG ok' w' lo' L' x v:=by
 have cell:∀b o u,w.cell? ⟨b,o,none⟩=some u->b<w.heap.size/\w'.cell? ⟨b,o,none⟩=some u:=λb o _ hc=>
  have y9:=QO0 w ⟨b,o,none⟩ hc
  ⟨y9,(QPo (a:=⟨b,o,none⟩) (hw b y9)).trans hc⟩
 induction h with
 |iv x v h=>exact .iv x v (h.mono λb hb y9=>⟨hok b hb y9,hw b y9⟩)
 |_=>grind [QG]
def Zv.refl(Fr w):Zv Fr w w:=⟨rfl,rfl,rfl,QN3 _,λ_ _=>rfl⟩
theorem Zv.trans{Fr a b c}(h:Zv Fr a b)(k:Zv Fr b c):Zv Fr a c:=⟨k.os.trans h.os,k.tape.trans h.tape,k.output.trans h.output,QOz h.size k.size,λi hi=>(k.block i hi).trans (h.block i hi)⟩
def Zv.mono{Fr Fr' a b}(h:Zv Fr a b)(hs:∀k,Fr' k->Fr k):Zv Fr' a b:=⟨h.os,h.tape,h.output,h.size,λk hk=>h.block k (hs k hk)⟩
def Zv.ext{Fr a w w'}(h:Zv Fr a w)(hb:Below w.heap.size w w')(y9:∀b,Fr b->b<a.heap.size):Zv Fr a w':=h.trans ⟨hb.os,hb.tape,hb.output,hb.size,λk hk=>hb.block k (QOM (y9 k hk) h.size)⟩
def Zv.grown{Fr a w w' row}(h:Zv Fr a w)(hg:w.grownBy w' row)(y9:∀b,Fr b->b<a.heap.size)(hr:∀k,row=some k->¬Fr k):Zv Fr a w':=h.trans ⟨hg.os,hg.tape,hg.output,hg.size,λk hk=>hg.block k (QOM (y9 k hk) h.size) (λe=>hr k e.symm hk)⟩
def Zv.below{w w'}(h:Zv (λb=>b<w.heap.size) w w'):Below w.heap.size w w':=⟨h.os,h.tape,h.output,h.size,h.block⟩
theorem YK.kept{Fr w w' e sz v n xs row}(h:YK Fr w e sz v n xs)(hg:w.grownBy w' row)(hne:v.ownBlock=none\/v.ownBlock≠row):YK Fr w' e sz v n xs:=⟨h.own.kept hg hne,h.free⟩
theorem YK.lt{Fr w e sz v n xs}(h:YK Fr w e sz v n xs):∀k,v.ownBlock=some k->¬Fr k/\k<w.heap.size:=λk hk=>⟨h.free k hk,(h.own.lt k hk).2⟩
def YK.stay{Fr w w' e sz v n xs}(h:YK Fr w e sz v n xs)(hs:∀b,v.ownBlock=some b->w'.heap[b]?=w.heap[b]?):YK Fr w' e sz v n xs:=by refine⟨⟨h.own.1,h.own.2.imp id ?_⟩,h.free⟩;rintro⟨g,cap,cur,h1,h2,h3,h4⟩;exact⟨g,cap,cur,h1,h2,(hs g (by rw[h1];rfl)).trans h3,h4⟩
theorem JV.mono{ok ok' w w' kvs seen r since sn}(h:JV ok w kvs seen r since sn)
  (hok:∀b,ok b->b<w.heap.size->ok' b/\w'.heap[b]?=w.heap[b]?):JV ok' w' kvs seen r since sn:=by
 cases r with
 |none=>exact h
 |some r=>have⟨es,h1,h2,h3,h4,h5,h6⟩:=h;have⟨h7,h8⟩:=hok r h1 (QN8.1 h2).1;exact⟨es,h7,h8.trans h2,h3,λi e p a b=>(h4 i e p a b).mono hok,h5,h6⟩
def QaK{α β:Type}{kvs:List (MK×α)}{vals:List (MK×β)}(h:vals.map (·.1)=kvs.map (·.1)){i:Nat}{q:MK×β}(hq:vals[i]?=some q):∃p,kvs[i]?=some p/\p.1=q.1:=by
 have h1:(vals.map (·.1))[i]?=some q.1:=by simp[hq]
 rw[h,QN6,QN2] at h1;exact h1
theorem QK.lt{B ok w lo L o l b}(h:QK B ok w lo L o l)(hb:l.has b):¬B b/\b<w.heap.size:=by
 unfold QK at h;split at h
 case h_2=>exact h.1.lt b hb
 case h_4=>
  have⟨hB,⟨es,clock,hb',_⟩,hd,hk,hr,ha⟩:=h;rcases hb with hb|⟨q,hq,hb⟩
  .grind
  have⟨i,hi⟩:=QOF hq;have⟨p,hp,_⟩:=QaK hk hi;have⟨xs,h1,_⟩:=hr i p q hp hi;exact h1.lt b hb
 all_goals grind [Lay.has]
def AO.data:AO->Bool
 | .box _| .arr _ _ _ _=>false
 |_=>true
theorem QK.stay{B ok ok' w w' lo lo' L L' o l}
  (h:QK B ok w lo L o l)(hk:Zv B w w')(hBl:∀b,B b->b<w.heap.size)(hs:∀b,l.has b->b<w.heap.size->w'.heap[b]?=w.heap[b]?)(hok:∀b,ok b->b<w.heap.size->ok' b/\w'.heap[b]?=w.heap[b]?)
  (all:o.data=false->∀x v,QG ok w lo L x v->QG ok' w' lo' L' x v):QK B ok' w' lo' L' o l:=by
 have y9:∀b,l.has b->b<w.heap.size:=λb hb=>(h.lt hb).2;have hc:∀b,l.has b->w'.heap[b]?=w.heap[b]?:=λb hb=>hs b hb (y9 b hb);unfold QK at h;split at h
 case h_2=>exact⟨h.1.stay hc,h.2.1,h.2.2.1,h.2.2.2.1,λi j c x u h2 h3 h4=>all rfl _ _ (h.2.2.2.2 i j c x u h2 h3 h4)⟩
 case h_4 b vals=>have⟨hB,⟨es,clock,hb,hm⟩,hd,hk,hr,ha⟩:=h;refine⟨hB,⟨es,clock,(hc b (.inl rfl)).trans hb,hm⟩,hd,hk,λi p q hp hq=>?_,ha⟩;have⟨xs,h1,h2,h3,h4,h5⟩:=hr i p q hp hq;exact⟨xs,h1.stay λb' hb'=>hc b' (.inr ⟨q,QOh hq,hb'⟩),h2,h3,h4,λi j c x u a1 a2 a3=>(h5 i j c x u a1 a2 a3).mono hok⟩
 case h_6=>have⟨h1,h2,h3⟩:=h;exact⟨λb hb=>⟨(h1 b hb).1,QOM (h1 b hb).2.1 hk.size,(h1 b hb).2.2⟩,by grind,Ext.stay _ _ _ w w' h3 ⟨hk.os,hk.tape,hk.output,hk.size,λb hb=>by have:=hk.block b;grind [Lay.has]⟩⟩
 all_goals grind [Lay.has,QK,AO.data,QZ.mono,JV.mono]
theorem QK.ext{B ok ok' w w' lo lo' L L' o l}
  (h:QK B ok w lo L o l)(hk:Zv B w w')(hBl:∀b,B b->b<w.heap.size)(hok:∀b,ok b->b<w.heap.size->ok' b)(hw:∀b,b<w.heap.size->w'.heap[b]?=w.heap[b]?)
  (xc:∀id o,lo id=some o->lo' id=some o/\L' id=L id):QK B ok' w' lo' L' o l:=
 h.stay hk hBl (λb _ y9=>hw b y9) (λb hb y9=>⟨hok b hb y9,hw b y9⟩) (λ_ _ _ r=>r.ext hok hw xc)
structure Qix(S:Nat->Prop)(w w':World):Prop where
 os:w'.os=w.os
 tape:w'.tape=w.tape
 output:w'.output=w.output
 size:w.heap.size<=w'.heap.size
 block:∀k,k<w.heap.size->¬S k->w'.heap[k]?=w.heap[k]?
def Qix.of{S w w' row}(hg:w.grownBy w' row)(hr:∀k,row=some k->S k):Qix S w w':=⟨hg.os,hg.tape,hg.output,hg.size,λk hk hn=>hg.block k hk (λe=>hn (hr k e.symm))⟩
def Qix.below{S w w'}(hb:Below w.heap.size w w'):Qix S w w':=⟨hb.os,hb.tape,hb.output,hb.size,λk hk _=>hb.block k hk⟩
def Zv.only{Fr S a w w'}(h:Zv Fr a w)(hg:Qix S w w')(y9:∀b,Fr b->b<a.heap.size)(hr:∀k,S k->¬Fr k):Zv Fr a w':=h.trans ⟨hg.os,hg.tape,hg.output,hg.size,λk hk=>hg.block k (QOM (y9 k hk) h.size) (λe=>hr k e hk)⟩
section
variable{ok0:Nat->Prop}{N:Fm}{w0:XS}{lk:Nat->AV}{lo:Nat->Option AO}{a:Act}{w:World}{L:Nat->Lay}
def Rel.le(h:Rel ok0 N w0 lk lo a w L):w0.w.heap.size<=w.heap.size:=h.below.size
def Rel.frlt(h:Rel ok0 N w0 lk lo a w L){b}(hb:w.heap.size<=b):¬w0.fr b:=λhf=>by have:=w0.lt b hf;have:=h.le;omega
def Rel.frl(h:Rel ok0 N w0 lk lo a w L):∀b,w0.fr b->b<w.heap.size:=λb hb=>QOM (w0.lt b hb) h.le
def Below.keep{w w' B}(hb:Below w.heap.size w w')(hB:∀b,B b->b<w.heap.size):Zv B w w':=⟨hb.os,hb.tape,hb.output,hb.size,λk hk=>hb.block k (hB k hk)⟩
def Qbq.lt{fr:Nat->Prop}{lo:Nat->Option AO}{L:Nat->Lay}{w:World}{r:Nat}(h:w.heap[r]?=some (.deferred (some []))):r<w.heap.size:=(QN8.1 h).1
def Qbq.stay{fr lo lo' L L' w w' ds}(h:Qbq fr lo L w ds)
  (hw:∀r,r<w.heap.size->(∀id o,lo id=some o->¬(L id).has r)->w'.heap[r]?=w.heap[r]?)
  (hL:∀r,r<w.heap.size->(∀id o,lo id=some o->¬(L id).has r)->∀id o,lo' id=some o->¬(L' id).has r):Qbq fr lo' L' w' ds:=by
 have⟨rs,h1,h2,h3⟩:=h;refine⟨rs,h1,h2,λr hr=>?_⟩;have⟨h4,h5,h6⟩:=h3 r hr;have y9:=(QN8.1 h4).1;exact⟨(hw r y9 h6).trans h4,h5,hL r y9 h6⟩
theorem Rel.ext{w'}(h:Rel ok0 N w0 lk lo a w L)(hb:Below w.heap.size w w'):Rel ok0 N w0 lk lo a w' L:=⟨h.below.ext hb w0.lt,h.defers.stay (λr hr _=>hb.block r hr) (λ_ _ h=>h),h.size,
  λt=>(h.env t).ext (λ_ h _=>h) hb.block (λ_ _ h=>⟨h,rfl⟩),
  λid o ho=>(h.y8 id o ho).ext (Below.keep hb h.frl) h.frl (λ_ h _=>h) hb.block (λ_ _ h=>⟨h,rfl⟩),h.apart,h.pin⟩
def JW(lk:Nat->AV)(d:Option Nat)(x:AV):Nat->AV:=
 match d with
 |none=>lk
 |some d=>λt=>if t=d then x else lk t
theorem Rel.put(h:Rel ok0 N w0 lk lo a w L)(d)(hd:∀t,d=some t->N.dst t=true){x v}(hx:QG (okL ok0 lo L) w lo L x v):Rel ok0 N w0 (JW lk d x) lo (a.put d v) w L:=by
 cases d with
 |none=>exact h
 |some d=>
  have hdd:=hd d rfl;simp only[Fm.dst,QNZ,decide_eq_true_eq,QOD] at hdd;have y9:d<a.tmps.size:=by rw[h.size];exact hdd.1
  refine⟨h.below,h.defers,by simp[Act.put,h.size],λt=>?_,h.y8,h.apart,λt ht=>?_⟩;by_cases ht:t=d
  .subst ht;simp only[JW,if_true,Act.put];simpa[y9] using hx
  .have:=h.env t;simp only[JW,ht,if_false,Act.put];simpa[QPr,Ne.symm ht] using this
  .have hne:d≠t:=λe=>by subst e;rw[hdd.2] at ht;cases ht
   have:=h.pin t ht;simp only[Act.put];simpa[QPr,hne] using this
def Zn(lo:Nat->Option AO)(id:Nat)(o:AO):Nat->Option AO:=λi=>if i=id then some o else lo i
def Q7(L:Nat->Lay)(id:Nat)(l:Lay):Nat->Lay:=λi=>if i=id then l else L i
def Rel.new{w'}(h:Rel ok0 N w0 lk lo a w L)(id)(hid:lo id=none)(o l)(hb:Below w.heap.size w w')
  (hl:∀b,l.has b->w.heap.size<=b)
  (ho:QK w0.fr (okL ok0 (Zn lo id o) (Q7 L id l)) w' (Zn lo id o) (Q7 L id l) o l):
  Rel ok0 N w0 lk (Zn lo id o) a w' (Q7 L id l):=by
 have hok:∀b,okL ok0 lo L b->b<w.heap.size->okL ok0 (Zn lo id o) (Q7 L id l) b:=by grind [okL,Zn,Q7]
 have xc:∀i o',lo i=some o'->Zn lo id o i=some o'/\Q7 L id l i=L i:=by grind [Zn,Q7]
 have old:∀b i o',lo i=some o'->(L i).has b->b<w.heap.size:=λb i o' hi hbl=>((h.y8 i o' hi).lt hbl).2;refine⟨h.below.ext hb w0.lt,h.defers.stay (λr hr _=>hb.block r hr) (by grind [Zn,Q7]),h.size,λt=>(h.env t).ext hok hb.block xc,λi o' hi=>?_,?_,h.pin⟩
 .have:=λhi=>(h.y8 i o' hi).ext (Below.keep hb h.frl) h.frl hok hb.block xc;grind [Zn,Q7]
 .have:=h.apart;grind [Zn,Q7]
def AV.refs(id:Nat):AV->Bool
 | .loc i _| .yl i _| .yj i _ _ _| .yn i _ _| .yk i| .yr i _| .cb i=>i==id
 | .iv _| .agg _| .ym _| .zsl _| .clo _ _ _| .xf _=>false
def QG.turn{lo' w' L' id x v}(h:QG (okL ok0 lo L) w lo L x v)
  (hid:∃o,lo id=some o)
  (xc:∀i,i≠id->lo' i=lo i/\L' i=L i)
  (hap:∀i j oi oj b,i≠j->lo i=some oi->lo j=some oj->(L i).has b->¬(L j).has b)
  (hw:∀b,b<w.heap.size->¬(L id).has b->w'.heap[b]?=w.heap[b]?)
  (hok:∀b,okL ok0 lo L b->b<w.heap.size->okL ok0 lo' L' b)
  (href:∀x v,AV.refs id x=true->QG (okL ok0 lo L) w lo L x v->QG (okL ok0 lo' L') w' lo' L' x v):QG (okL ok0 lo' L') w' lo' L' x v:=by
 have⟨oid,hoid⟩:=hid
 have cells:∀i b k v xs oi,i≠id->lo i=some oi->L i=.arr v xs->((okL ok0 lo L b\/v.ownBlock=some b)/\∃u,w.cell? ⟨b,k,none⟩=some u/\xs[k]?=some u) ->
   (okL ok0 lo' L' b\/v.ownBlock=some b)/\∃u,w'.cell? ⟨b,k,none⟩=some u/\xs[k]?=some u:=by
  intro i b k v xs oi hii hoi hL ⟨h1,u,h2,h3⟩;have y9:=QO0 w ⟨b,k,none⟩ h2;have:=@QPo w w' ⟨b,k,none⟩;have:=hap i id oi oid b hii hoi hoid;grind [okL,Lay.has]
 cases hr:AV.refs id x
 .induction h with
  |iv x v h=>exact .iv x v (h.mono λb hb y9=>⟨hok b hb y9,hw b y9 (hb.2 id _ hoid)⟩)
  |old i n e sz es mv v v' xs ho hL h1 hn hv=>refine .old i n e sz es mv v v' xs ((xc i ?_).1.trans ho) ((xc i ?_).2.trans hL) h1 hn λhm=>(hv hm).imp_right λ⟨b,cap,h1,h2,h3,h4⟩=>⟨b,cap,h1,h2,h3,λk hk=>cells i b k v xs _ ?_ ho hL (h4 k hk)⟩<;>grind [AV.refs]
  |yj i n j off e sz es mv v xs b ho hL hn hv=>refine .yj i n j off e sz es mv v xs b ((xc i ?_).1.trans ho) ((xc i ?_).2.trans hL) hn λhm=>(hv hm).imp_right λ⟨h2,h3⟩=>⟨h2,λk hk=>cells i b k v xs _ ?_ ho hL (h3 k hk)⟩<;>grind [AV.refs]
  |_=>grind [QG,AV.refs]
 .exact href _ _ hr h
theorem Rel.turn{o o' l' w'}(id)(h:Rel ok0 N w0 lk lo a w L)(hid:lo id=some o)
  (hg:Qix (L id).has w w')
  (hl':∀b,l'.has b->(L id).has b\/w.heap.size<=b)
  (href:∀x v,AV.refs id x=true->QG (okL ok0 lo L) w lo L x v->QG (okL ok0 (Zn lo id o') (Q7 L id l')) w' (Zn lo id o') (Q7 L id l') x v)
  (ho:(∀x v,QG (okL ok0 lo L) w lo L x v->QG (okL ok0 (Zn lo id o') (Q7 L id l')) w' (Zn lo id o') (Q7 L id l') x v) ->QK w0.fr (okL ok0 (Zn lo id o') (Q7 L id l')) w' (Zn lo id o') (Q7 L id l') o' l'):
  Rel ok0 N w0 lk (Zn lo id o') a w' (Q7 L id l'):=by
 have hw:=hg.block;have xc:∀i,i≠id->Zn lo id o' i=lo i/\Q7 L id l' i=L i:=by grind [Zn,Q7]
 have hok:∀b,okL ok0 lo L b->b<w.heap.size->okL ok0 (Zn lo id o') (Q7 L id l') b:=by grind [okL,Zn,Q7]
 have all:=λx v(hx:QG (okL ok0 lo L) w lo L x v)=>hx.turn ⟨o,hid⟩ xc h.apart hw hok href;have own:∀b,(L id).has b->¬w0.fr b:=λb hb=>((h.y8 id o hid).lt hb).1;have lt:=λi oi hi b hb=>((h.y8 i oi hi).lt (b:=b) hb).2;have ap:=h.apart;refine⟨h.below.only hg w0.lt own,h.defers.stay (λr hr hn=>hw r hr (hn id o hid)) (by grind [Zn,Q7]),h.size,λt=>all _ _ (h.env t),λi oi hi=>?_,by grind [Zn,Q7],h.pin⟩;by_cases hii:i=id
 .grind [Zn,Q7]
 .rw[(xc i hii).1] at hi;rw[(xc i hii).2];exact(h.y8 i oi hi).stay ⟨hg.os,hg.tape,hg.output,hg.size,λk hk=>hg.block k (h.frl k hk) (λe=>own k e hk)⟩ h.frl (λb hb y9=>hw b y9 (ap i id oi o b hii hi hid hb)) (λb hb y9=>⟨hok b hb y9,hw b y9 (hb.2 id _ hid)⟩) (λ_=>all)
end
attribute [grind] Zn Q7 okL Lay.has AV.refs AO.isIter
inductive Opd where
 |t(n:Nat)
 |int(k:IntKind)(n:Int)
 |bool(b:Bool)
 |str(s:List UInt8)
 |nil(sz:Nat)
 |nilp
 |fn(f:FuncId)
 |nilv(sz:Nat)
 |nilm
 |nilf
 deriving Inhabited
def Opd.av(lk:Nat->AV):Opd->AV
 | .t n=>lk n
 | .int k n=>.iv (.int k n)
 | .bool b=>.iv (.bool b)
 | .str s=>.iv (.str s)
 | .nil sz=>.iv (.sl sz [])
 | .nilp=>.iv .nilp
 | .fn f=>.iv (.fn f)
 | .nilv sz=>.ym sz
 | .nilm=>.iv (.map [])
 | .nilf=>.iv (.lit .nilFunc)
def isI(k:IntKind)(n:Int):Value->Bool
 | .int k' m=>k==k'&&n==m
 |_=>false
def isB(b:Bool):Value->Bool
 | .bool c=>b==c
 |_=>false
def isS(s:List UInt8):Value->Bool
 | .string u=>s==u.data.toList
 |_=>false
def isN:Value->Bool
 | .slice none n m=>n==0&&m==0
 |_=>false
def isP:Value->Bool
 | .pointer none=>true
 |_=>false
def isM:Value->Bool
 | .map none=>true
 |_=>false
def QIF:Value->Bool
 | .nilFunc=>true
 |_=>false
def Opd.isVal(x:Opd)(v:Value):Bool:=
 match x with
 | .t _=>false
 | .int k n=>isI k n v
 | .bool b=>isB b v
 | .str s=>isS s v
 | .nil _=>isN v
 | .nilp=>isP v
 | .nilv _=>isN v
 | .nilm=>isM v
 | .nilf=>QIF v
 | .fn _=>false
def Opd.isTmp(m:Nat):Opd->Bool
 | .t n=>n==m
 |_=>false
def Opd.isFn(g:FuncId):Opd->Bool
 | .fn f=>f==g
 |_=>false
def Opd.is(x:Opd):Operand->Bool
 | .tmp m=>x.isTmp m
 | .const v=>x.isVal v
 | .func g=>x.isFn g
 |_=>false
inductive YOp where
 |no
 |s2b(id:Nat)(x:Opd)
 |b2so(id:Nat)(x:Opd)
 |ixb(id:Nat)(x i:Opd)
 |ldb(id:Nat)(x:Opd)
 |stb(id:Nat)(x y:Opd)
 |mks(id:Nat)(e:TypeId)(bytes:Nat)(zs:List Opd)(n:Opd)
 |r2s(x:Opd)
 |mx(mn:Bool)(x y:Opd)
 |rngs(id:Nat)(x:Opd)
 |nxts(id:Nat)(x:Opd)
 |mkm(id:Nat)(r:Option (TypeId×Nat))
 |lki(kk:Option IntKind)(z x k:Opd)
 |lkd(id:Nat)(kk:Option IntKind)(z x k:Opd)
 |lkr(id:Nat)(kk:Option IntKind)(x k:Opd)
 |mupd(id:Nat)(kk:Option IntKind)(x k v:Opd)
 |mupr(id:Nat)(kk:Option IntKind)(x k v:Opd)
 |ixg(len:Nat)(x i:Opd)
 |rngm(id:Nat)(x:Opd)
 |ent(id:Nat)(x:Opd)
 |mkf(g:FuncId)(fs cs:List Opd)
 |neg(x:Opd)
 |eqs(ne:Bool)(n:Nat)(x y:Opd)
 |lenm(x:Opd)
 |lenmo(id:Nat)(x:Opd)
 |ixa(len sz:Nat)(x i:Opd)
 |zslv(sz:Nat)
 |lkc(kk:Option IntKind)(zs:List Opd)(x k:Opd)
 |isn(ne:Bool)(x:Opd)
 deriving Inhabited
inductive AOp where
 |xg(x:Opd)
 |nilo(id:Nat)(e:TypeId)(sz:Nat)
 |pick(c x y:Opd)
 |ext(x:Opd)(i:Nat)
 |not(x:Opd)
 |bin(op:BinOp)(x y:Opd)
 |cvi(k:IntKind)(x:Opd)
 |b2s(x:Opd)
 |i2s(x:Opd)
 |nilc(x:Opd)
 |fld(off:Nat)(x:Opd)
 |ldi(n:Nat)(ag:Bool)(x:Opd)
 |ldo(id n:Nat)(ag:Bool)(x:Opd)
 |sto(id n:Nat)(x y:Opd)
 |ixi(sz:Nat)(x i:Opd)
 |ixo(id sz:Nat)(x i:Opd)
 |ixs(x i:Opd)
 |sli(sz:Nat)(x:Opd)(lo hi:Option Opd)
 |sls(x:Opd)(lo hi:Option Opd)
 |boxi(x:Opd)
 |boxo(id:Nat)(x:Opd)
 |alo(id:Nat)(zs:List Opd)
 |bld(zs:List Opd)(parts:List (Nat×Nat×Opd))
 |bsl(sz:Nat)(parts:List Opd)
 |bso(id:Nat)(e:TypeId)(sz:Nat)(parts:List Opd)
 |len(x:Opd)
 |leno(id:Nat)(x:Opd)
 |lst(x:Opd)
 |app(id:Nat)(e:TypeId)(sz bytes:Nat)(x y:Opd)
 |call(f:FuncId)(args:List Opd)(ids:List Nat)
 |y2(f:FuncId)(args:List Opd)(ids:List Nat)(id:Nat)
 |y1(x:Opd)(args:List Opd)(ids:List Nat)
 |yx(f:FuncId)(x:Opd)(args:List Opd)(id:Nat)
 |yw(x:Opd)(args:List Opd)(id:Nat)
 |yu(f:FuncId)(args:List Opd)(id:Nat)
 |yz(f:FuncId)(args:List Opd)(ids:List Nat)
 |cpy(id:Nat)(x y:Opd)
 |y3(x:Opd)(args:List Opd)(ids:List Nat)
 |yy(op:YOp)
 deriving Inhabited
structure Zi where
 d:Option Nat
 g:Option (Nat×Bool)
 op:AOp
 deriving Inhabited
inductive Res where
 |no
 |ok(side fact:Prop)(v:AV)(up:Option (Nat×AO))
def IntKind.inR(k:IntKind)(n:Int):Prop:=k.min<=n/\n<=k.max
def QaC(op:BinOp)(k:IntKind)(x y:Int):Int:=
 let a:=BitVec.ofInt k.bits x
 let b:=BitVec.ofInt k.bits y
 match op with
 | .and=>k.wrap (a &&& b).toNat
 | .or=>k.wrap (a ||| b).toNat
 | .xor=>k.wrap (a ^^^ b).toNat
 |_=>k.wrap (a &&& ~~~b).toNat
def QuS(op:BinOp)(k:IntKind)(a b:Int):Res:=
 match op with
 | .add=>.ok (IntKind.inR k (a+b)) True (.iv (.int k (a+b))) none
 | .sub=>.ok (IntKind.inR k (a-b)) True (.iv (.int k (a-b))) none
 | .mul=>.ok (IntKind.inR k (a*b)) True (.iv (.int k (a*b))) none
 | .quo=>.ok (b≠0/\IntKind.inR k (a.tdiv b)) True (.iv (.int k (a.tdiv b))) none
 | .rem=>.ok (b≠0) True (.iv (.int k (a.tmod b))) none
 | .and=>.ok True True (.iv (.int k (QaC .and k a b))) none
 | .or=>.ok True True (.iv (.int k (QaC .or k a b))) none
 | .xor=>.ok True True (.iv (.int k (QaC .xor k a b))) none
 | .andNot=>.ok True True (.iv (.int k (QaC .andNot k a b))) none
 | .eql=>.ok True True (.iv (.bool (decide (a=b)))) none
 | .neq=>.ok True True (.iv (.bool (!decide (a=b)))) none
 | .lss=>.ok True True (.iv (.bool (decide (a<b)))) none
 | .leq=>.ok True True (.iv (.bool (decide (a<=b)))) none
 | .gtr=>.ok True True (.iv (.bool (decide (b<a)))) none
 | .geq=>.ok True True (.iv (.bool (decide (b<=a)))) none
 |_=>.no
def QxP(k:IntKind)(a b:Int):Int:=k.wrap (a*2 ^ (min b.toNat k.bits))
def QwA(k:IntKind)(a b:Int):Int:=a.fdiv (2 ^ (min b.toNat k.bits))
def Qry:BinOp->AV->AV->Res
 | .shl,.iv (.int k a),.iv (.int _ b)=>.ok (0<=b) True (.iv (.int k (QxP k a b))) none
 | .shr,.iv (.int k a),.iv (.int _ b)=>.ok (0<=b) True (.iv (.int k (QwA k a b))) none
 |op,.iv (.int k a),.iv (.int k' b)=>if k=k' then QuS op k a b else .no
 | .add,.iv (.str a),.iv (.str b)=>.ok (((a.length+b.length:Nat):Int)<=9223372036854775807) True (.iv (.str (a++b))) none
 | .eql,.iv (.str a),.iv (.str b)=>.ok True True (.iv (.bool (decide (a=b)))) none
 | .neq,.iv (.str a),.iv (.str b)=>.ok True True (.iv (.bool (!decide (a=b)))) none
 |_,_,_=>.no
def QGr(neg:Bool):AV->AV->Res
 | .iv (.bool a),.iv (.bool b)=>.ok True True (.iv (.bool (match neg with|true=>!decide (a=b)|false=>decide (a=b)))) none
 |_,_=>.no
def AV.iv?:AV->Option IV
 | .iv x=>some x
 |_=>none
def ivs:List AV->Option (List IV)
 |[]=>some []
 |x::r=>match x.iv?,ivs r with
  |some y,some ys=>some (y::ys)
  |_,_=>none
def Qcx(cs:List AV):AV:=
 match ivs cs with
 |some xs=>.iv (.agg xs)
 |none=>.agg cs
def AV.cells:AV->Option (List AV)
 | .iv (.agg cs)=>some (cs.map .iv)
 | .iv .any=>none
 | .iv (.xf _)=>none
 | .iv (.lit _)=>none
 | .iv .ifn=>none
 | .xf _=>none
 | .iv x=>some [.iv x]
 | .agg cs=>some cs
 |x=>some [x]
def Qx5(g:FuncId)(fs cs:List AV):AV:=
 match ivs fs,ivs cs with
 |some xs,some ys=>.iv (.clo g xs ys)
 |_,_=>.clo g fs cs
def Qj6:List AV->List (Nat×Nat×AV)->Option (List AV)
 |cs,[]=>some cs
 |cs,(off,sz,v)::r=>
  match v.cells with
  |some vs=>if vs.length=sz/\off+sz<=cs.length then Qj6 (cs.take off++vs++cs.drop (off+sz)) r else none
  |none=>none
def XE(sz:Nat):List AV->Option (List (List AV))
 |[]=>some []
 |v::r=>
  match v.cells,XE sz r with
  |some c,some cs=>if c.length=sz then some (c::cs) else none
  |_,_=>none
def Qhx:List (List AV)->Option (List (List IV))
 |[]=>some []
 |x::r=>match ivs x,Qhx r with
  |some y,some ys=>some (y::ys)
  |_,_=>none
def byteOf:List IV->Option Int
 |[.int .u8 n]=>some n
 |_=>none
def bytesOf:List (List IV)->Option (List Int)
 |[]=>some []
 |c::r=>match byteOf c,bytesOf r with
  |some n,some ns=>some (n::ns)
  |_,_=>none
def YV(ns:List Int):List UInt8:=ns.map λn=>UInt8.ofNat n.toNat
def Jf(lk:Nat->AV)(d:Nat):Option Opd->Option Int
 |none=>some d
 |some x=>match x.av lk with
  | .iv (.int _ n)=>some n
  |_=>none
def Qrt:AV->Res
 | .iv (.sl _ es)=>.ok True (es.length<=maxLen) (.iv (.int .i64 es.length)) none
 |_=>.no
def QeG(lo:Nat->Option AO)(id:Nat):AV->Res
 | .yl i n=>if i=id then match lo id with
   |some (.arr _ _ es mv)=>.ok (mv<=n/\n<=es.length) (n<=maxLen) (.iv (.int .i64 n)) none
   |_=>.no
   else .no
 |_=>.no
def Qrs:AV->Res
 | .iv (.str s)=>.ok True True (.iv (.int .i64 s.length)) none
 |_=>.no
def QoB(i:Nat):AV->Res
 | .iv (.xf cs)=>match cs[i]? with
   |some x=>.ok True True (.iv x) none
   |none=>.no
 | .xf cs=>match cs[i]? with
   |some x=>.ok True True x none
   |none=>.no
 |_=>.no
def Qh4(x y:AV):AV->Res
 | .iv (.bool b)=>.ok True True (match b with|true=>x|false=>y) none
 |_=>.no
def Qrr:AV->Res
 | .iv (.bool b)=>.ok True True (.iv (.bool (!b))) none
 |_=>.no
def Qrx(k:IntKind):AV->Res
 | .iv (.int _ n)=>.ok True True (.iv (.int k (k.wrap n))) none
 |_=>.no
def QGq:AV->Res
 | .iv (.str s)=>.ok True True (.iv (.str s)) none
 |_=>.no
def Qrz:AV->Res
 | .iv (.sl _ es)=>match bytesOf es with
   |some ns=>.ok (∀n∈ns,0<=n/\n<=255) True (.iv (.str (YV ns))) none
   |none=>.no
 |_=>.no
def Qrw:AV->Res
 | .iv (.int _ n)=>.ok (0<=n/\n<128) True (.iv (.str [UInt8.ofNat n.toNat])) none
 |_=>.no
def Qh5:AV->Res
 | .iv (.ptr cs)=>.ok True True (.iv (.ptr cs)) none
 | .loc id off=>.ok True True (.loc id off) none
 |_=>.no
def QoA(off:Nat):AV->Res
 | .iv (.ptr cs)=>.ok (off<=cs.length) True (.iv (.ptr (cs.drop off))) none
 | .loc id o=>.ok True True (.loc id (o+off)) none
 | .yj id n i o=>.ok True True (.yj id n i (o+off)) none
 |_=>.no
def Qf0(n:Nat)(ag:Bool):AV->Res
 | .iv (.ptr cs)=>match ag with
   |true=>.ok (n<=cs.length) True (.iv (.agg (cs.take n))) none
   |false=>match cs with
    |c::_=>.ok (n=1) True (.iv c) none
    |[]=>.no
 |_=>.no
def Qoy(lo:Nat->Option AO)(id n:Nat)(ag:Bool):AV->Res
 | .loc i off=>if i=id then
   match lo id with
   |some (.box cs)=>match ag with
    |true=>.ok (off+n<=cs.length) True (Qcx ((cs.drop off).take n)) none
    |false=>match cs[off]? with
     |some c=>.ok (n=1) True c none
     |none=>.no
   |_=>.no
   else .no
 | .yj i m j off=>if i=id then
   match lo id with
   |some (.arr _ _ es mv)=>match ag with
    |true=>.ok (mv<=m/\off+n<=(es.getD j []).length) True (Qcx (((es.getD j []).drop off).take n)) none
    |false=>match(es.getD j [])[off]? with
     |some c=>.ok (mv<=m/\n=1) True c none
     |none=>.no
   |_=>.no
   else .no
 |_=>.no
def Qov(lo:Nat->Option AO)(id n:Nat)(y:AV):AV->Res
 | .loc i off=>if i=id then
   match lo id,y.cells with
   |some (.box cs),some vs=>.ok (vs.length=n/\off+n<=cs.length) True (.iv .any) (some (id,.box (cs.take off++vs++cs.drop (off+n))))
   |_,_=>.no
   else .no
 | .yj i m j off=>if i=id then
   match lo id,y.cells with
   |some (.arr e sz es mv),some vs=>
    .ok (vs.length=n/\m=es.length/\mv<=m/\off+n<=sz) True (.iv .any)
     (some (id,.arr e sz (es.set j ((es.getD j []).take off++vs++(es.getD j []).drop (off+n))) es.length))
   |_,_=>.no
   else .no
 |_=>.no
def Qrv(sz:Nat):AV->AV->Res
 | .iv (.sl s es),.iv (.int _ i)=>.ok (s=sz/\0<=i/\i.toNat<es.length) True (.iv (.ptr (es.getD i.toNat []))) none
 |_,_=>.no
def Qoz(lo:Nat->Option AO)(id sz:Nat):AV->AV->Res
 | .yl i n,.iv (.int _ j)=>if i=id then
   match lo id with
   |some (.arr _ s es mv)=>.ok (s=sz/\0<=j/\j.toNat<n/\mv<=n/\n<=es.length) True (.yj id n j.toNat 0) none
   |_=>.no
   else .no
 |_,_=>.no
def Qru:AV->AV->Res
 | .iv (.str s),.iv (.int _ i)=>.ok (0<=i/\i.toNat<s.length) True (.iv (.int .u8 (s.getD i.toNat 0).toNat)) none
 |_,_=>.no
def Qox(sz:Nat)(lk:Nat->AV)(lo hi:Option Opd):AV->Res
 | .iv (.sl s es)=>match Jf lk 0 lo,Jf lk es.length hi with
   |some l,some h=>.ok (s=sz/\0<=l/\l<=h/\h<=es.length) (es.length<=maxLen) (.iv (.sl sz ((es.take h.toNat).drop l.toNat))) none
   |_,_=>.no
 |_=>.no
def Qow(lk:Nat->AV)(lo hi:Option Opd):AV->Res
 | .iv (.str s)=>match Jf lk 0 lo,Jf lk s.length hi with
   |some l,some h=>.ok (0<=l/\l<=h/\h<=s.length) True (.iv (.str ((s.take h.toNat).drop l.toNat))) none
   |_,_=>.no
 |_=>.no
def Qh6(x:AV):Res:=
 match x.cells with
 |some cs=>match ivs cs with
  |some xs=>.ok True True (.iv (.ptr xs)) none
  |none=>.no
 |none=>.no
def QeH(lo:Nat->Option AO)(id:Nat)(x:AV):Res:=
 match x.cells,lo id with
 |some cs,none=>.ok True True (.loc id 0) (some (id,.box cs))
 |_,_=>.no
def zn{α:Type}(k:MK)(y:α):List (MK×α)->List (MK×α)
 |[]=>[(k,y)]
 |p::r=>if p.1=k then(k,y)::r else p::zn k y r
def WG(lo:Nat->Option AO)(id:Nat)(e:TypeId)(sz bytes:Nat):AV->AV->Res
 | .yl i n,.iv (.sl s ys)=>if i=id then
   match lo id with
   |some (.arr e' sz' es mv)=>
    if e'=e/\sz'=sz then
    .ok (s=sz/\n=es.length/\mv<=n/\es.length+ys.length<=maxLen/\(es.length+ys.length)*bytes<=140737488355328) True (.yl id (n+ys.length))
     (some (id,.arr e sz (es++ys.map (List.map AV.iv)) mv))
    else .no
   |_=>.no
   else .no
 | .zsl s0,.iv (.sl s ys)=>match ys,lo id with
   |[],_=>.ok (s=s0) True (.zsl s0) none
   |y::r,none=>.ok (s=sz/\s0=sz/\(y::r).length<=maxLen/\(y::r).length*bytes<=140737488355328) True (.yl id (y::r).length) (some (id,.arr e sz ((y::r).map (List.map AV.iv)) 0))
   |_,_=>.no
 | .yn i k n,.iv (.sl s ys)=>if i=id then
   match lo id with
   |some (.yo e' sz' kvs none)=>
    if e'=e/\sz'=sz then
    .ok (s=sz/\((Qv k kvs).getD []).length=n/\n+ys.length<=maxLen/\(n+ys.length)*bytes<=140737488355328) True (.yn id k (n+ys.length))
     (some (id,.yo e sz (zn k ((Qv k kvs).getD []++ys) kvs) (some k)))
    else .no
   |_=>.no
   else .no
 |_,_=>.no
def MK.kind:MK->Option IntKind
 | .int k _=>some k
 | .str _=>none
def keyOf(kk:Option IntKind):AV->Option MK
 | .iv (.int k n)=>if kk=some k then some (.int k n) else none
 | .iv (.str s)=>if kk=none then some (.str s) else none
 |_=>none
def ZC{α:Type}(kk:Option IntKind):List (MK×α)->Prop
 |[]=>True
 |p::r=>p.1.kind=kk/\ZC kk r
def qW:List (List IV)->Option (List Int)
 |[]=>some []
 |[.int .i32 n]::r=>(qW r).map (n::·)
 |_::_=>none
def Qtk(s:List UInt8)(pos:Nat):Nat×Nat:=Utf8.decode ⟨s.toArray⟩ pos
def MK.iv:MK->IV
 | .int k n=>.int k n
 | .str s=>.str s
def QHK:IV->IV->Option Bool
 | .int k a,.int k' b=>if k=k' then some (decide (a=b)) else none
 |_,_=>none
def Jy:List IV->List IV->Option Bool
 |[],[]=>some true
 |x::r,y::s=>match QHK x y,Jy r s with
  |some a,some b=>some (a&&b)
  |_,_=>none
 |_,_=>none
def evY(lk:Nat->AV)(lo:Nat->Option AO):YOp->Res
 | .no=>.no
 | .s2b id x=>match x.av lk,lo id with
   | .iv (.str s),none=>.ok (s.length<=1099511627776) True (.yk id) (some (id,.bytes s))
   |_,_=>.no
 | .b2so id x=>match x.av lk,lo id with
   | .yk i,some (.bytes s)=>if i=id then .ok True True (.iv (.str s)) none else .no
   |_,_=>.no
 | .ixb id x i=>match x.av lk,i.av lk,lo id with
   | .yk j,.iv (.int _ n),some (.bytes s)=>if j=id then .ok (0<=n/\n.toNat<s.length) True (.yr id n.toNat) none else .no
   |_,_,_=>.no
 | .ldb id x=>match x.av lk,lo id with
   | .yr j n,some (.bytes s)=>if j=id then .ok (n<s.length) True (.iv (.int .u8 (s.getD n 0).toNat)) none else .no
   |_,_=>.no
 | .stb id x y=>match x.av lk,y.av lk,lo id with
   | .yr j n,.iv (.int .u8 m),some (.bytes s)=>if j=id then .ok (n<s.length/\0<=m/\m<=255) True (.iv .any) (some (id,.bytes (s.set n (UInt8.ofNat m.toNat)))) else .no
   |_,_,_=>.no
 | .mks id e bytes zs n=>match n.av lk,lo id with
   | .iv (.int _ m),none=>.ok (0<=m/\(bytes:Int)*m<=140737488355328/\m<=9223372036854775807/\0<zs.length) True (.yl id m.toNat) (some (id,.arr e zs.length (List.replicate m.toNat (zs.map (·.av lk))) 0))
   |_,_=>.no
 | .r2s x=>match x.av lk with
   | .iv (.sl 1 es)=>match qW es with
     |some ns=>.ok (∀n∈ns,0<=n/\n<128) True (.iv (.str (YV ns))) none
     |none=>.no
   |_=>.no
 | .mx mn x y=>match x.av lk,y.av lk with
   | .iv (.int k a),.iv (.int k' b)=>if k=k' then .ok True True (.iv (.int k (match mn with|true=>if b<a then b else a|false=>if a<b then b else a))) none else .no
   |_,_=>.no
 | .rngs id x=>match x.av lk,lo id with
   | .iv (.str s),none=>.ok True True (.yk id) (some (id,.siter s 0))
   |_,_=>.no
 | .nxts id x=>match x.av lk,lo id with
   | .yk j,some (.siter s pos)=>if j=id then
     (if pos<s.length then .ok True True (.iv (.xf [.bool true,.int .i64 pos,.int .i32 (Qtk s pos).1])) (some (id,.siter s (pos+(Qtk s pos).2)))
     else .ok True True (.iv (.xf [.bool false])) none)
     else .no
   |_,_=>.no
 | .mkm id r=>match lo id with
   |none=>.ok True True (.yk id) (some (id,match r with|none=>.xh []|some (e,sz)=>.yo e sz [] none))
   |some _=>.no
 | .lki kk z x k=>match x.av lk,keyOf kk (k.av lk),z.av lk with
   | .iv (.map kvs),some key,.iv zv=>.ok (ZC kk kvs) True (.iv ((Qv key kvs).getD zv)) none
   |_,_,_=>.no
 | .lkd id kk z x k=>match x.av lk,keyOf kk (k.av lk),z.av lk,lo id with
   | .yk j,some key,.iv zv,some (.xh kvs)=>if j=id then .ok (ZC kk kvs) True (.iv ((Qv key kvs).getD zv)) none else .no
   |_,_,_,_=>.no
 | .lkr id kk x k=>match x.av lk,keyOf kk (k.av lk),lo id with
   | .yk j,some key,some (.yo _ _ kvs none)=>if j=id then .ok (ZC kk kvs) True (.yn id key ((Qv key kvs).getD []).length) none else .no
   |_,_,_=>.no
 | .mupd id kk x k v=>match x.av lk,keyOf kk (k.av lk),v.av lk,lo id with
   | .yk j,some key,.iv y,some (.xh kvs)=>if j=id then .ok (ZC kk kvs) True (.iv .any) (some (id,.xh (zn key y kvs))) else .no
   |_,_,_,_=>.no
 | .mupr id kk x k v=>match x.av lk,keyOf kk (k.av lk),v.av lk,lo id with
   | .yk j,some key,.yn i key' m,some (.yo e sz kvs (some pk))=>if j=id/\i=id/\key'=key/\pk=key then .ok (ZC kk kvs/\(Qv key kvs).isSome=true/\((Qv key kvs).getD []).length=m) True (.iv .any) (some (id,.yo e sz kvs none)) else .no
   |_,_,_,_=>.no
 | .ixg len x i=>match x.av lk,i.av lk with
   | .iv (.agg xs),.iv (.int _ n)=>match xs[n.toNat]? with
     |some c=>.ok (0<=n/\n<len) True (.iv c) none
     |none=>.no
   |_,_=>.no
 | .rngm id x=>match x.av lk,lo id with
   | .iv (.map kvs),none=>.ok True True (.yk id) (some (id,.yq kvs []))
   |_,_=>.no
 | .ent id x=>match x.av lk,lo id with
   | .yk j,some (.yq kvs (i::_))=>if j=id then match kvs[i]? with
     |some p=>.ok True True (.iv (.xf [p.1.iv,p.2])) none
     |none=>.no
     else .no
   |_,_=>.no
 | .mkf g fs cs=>.ok True True (Qx5 g (fs.map (·.av lk)) (cs.map (·.av lk))) none
 | .neg x=>match x.av lk with
   | .iv (.int k n)=>.ok (IntKind.inR k (0-n)) True (.iv (.int k (0-n))) none
   |_=>.no
 | .eqs ne n x y=>match x.av lk,y.av lk with
   | .iv (.agg cs),.iv (.agg ds)=>match Jy cs ds with
     |some b=>.ok (cs.length=n) True (.iv (.bool (match ne with|true=>!b|false=>b))) none
     |none=>.no
   |_,_=>.no
 | .lenm x=>match x.av lk with
   | .iv (.map kvs)=>.ok True True (.iv (.int .i64 kvs.length)) none
   |_=>.no
 | .lenmo id x=>match x.av lk,lo id with
   | .yk j,some (.xh kvs)=>if j=id then .ok True True (.iv (.int .i64 kvs.length)) none else .no
   |_,_=>.no
 | .ixa len sz x i=>match x.av lk,i.av lk with
   | .loc id off,.iv (.int _ n)=>.ok (0<=n/\n<len) True (.loc id (off+n.toNat*sz)) none
   | .iv (.ptr cs),.iv (.int _ n)=>.ok (0<=n/\n<len/\n.toNat*sz<=cs.length) True (.iv (.ptr (cs.drop (n.toNat*sz)))) none
   |_,_=>.no
 | .zslv sz=>.ok True True (.zsl sz) none
 | .lkc kk zs x k=>match x.av lk,keyOf kk (k.av lk),ivs (zs.map (·.av lk)) with
   | .iv (.map kvs),some key,some zl=>.ok (ZC kk kvs) True (.iv (.xf [(Qv key kvs).getD (.agg zl),.bool (Qv key kvs).isSome])) none
   |_,_,_=>.no
 | .isn ne x=>match x.av lk with
   | .iv (.lit .nilIface)=>.ok True True (.iv (.bool (match ne with|true=>false|false=>true))) none
   | .iv .ifn=>.ok True True (.iv (.bool (match ne with|true=>true|false=>false))) none
   |_=>.no
def ev(lk:Nat->AV)(lo:Nat->Option AO):AOp->Res
 | .xg x=>.ok True True (x.av lk) none
 | .nilo id e sz=>match lo id with
   |none=>.ok True True (.yl id 0) (some (id,.arr e sz [] 0))
   |some _=>.no
 | .pick c x y=>Qh4 (x.av lk) (y.av lk) (c.av lk)
 | .ext x i=>QoB i (x.av lk)
 | .not x=>Qrr (x.av lk)
 | .bin op x y=>Qry op (x.av lk) (y.av lk)
 | .cvi k x=>Qrx k (x.av lk)
 | .b2s x=>Qrz (x.av lk)
 | .i2s x=>Qrw (x.av lk)
 | .nilc x=>Qh5 (x.av lk)
 | .fld off x=>QoA off (x.av lk)
 | .ldi n ag x=>Qf0 n ag (x.av lk)
 | .ldo id n ag x=>Qoy lo id n ag (x.av lk)
 | .sto id n x y=>Qov lo id n (y.av lk) (x.av lk)
 | .ixi sz x i=>Qrv sz (x.av lk) (i.av lk)
 | .ixo id sz x i=>Qoz lo id sz (x.av lk) (i.av lk)
 | .ixs x i=>Qru (x.av lk) (i.av lk)
 | .sli sz x l h=>Qox sz lk l h (x.av lk)
 | .sls x l h=>Qow lk l h (x.av lk)
 | .boxi x=>Qh6 (x.av lk)
 | .boxo id x=>QeH lo id (x.av lk)
 | .alo id zs=>match lo id with
   |none=>.ok True True (.loc id 0) (some (id,.box (zs.map (·.av lk))))
   |some _=>.no
 | .bld zs parts=>match Qj6 (zs.map (·.av lk)) (parts.map λ(o,s,x)=>(o,s,x.av lk)) with
   |some cs=>.ok True True (Qcx cs) none
   |none=>.no
 | .bsl sz parts=>match XE sz (parts.map (·.av lk)) with
   |some rows=>match Qhx rows with
    |some es=>.ok True True (.iv (.sl sz es)) none
    |none=>.no
   |none=>.no
 | .bso id e sz parts=>match lo id,XE sz (parts.map (·.av lk)) with
   |none,some rows=>.ok True True (.yl id parts.length) (some (id,.arr e sz rows 0))
   |_,_=>.no
 | .len x=>Qrt (x.av lk)
 | .leno id x=>QeG lo id (x.av lk)
 | .lst x=>Qrs (x.av lk)
 | .app id e sz bytes x y=>WG lo id e sz bytes (x.av lk) (y.av lk)
 | .call _ _ _=>.no
 | .y2 _ _ _ _=>.no
 | .y1 _ _ _=>.no
 | .yx _ _ _ _=>.no
 | .yw _ _ _=>.no
 | .yu _ _ _=>.no
 | .yz _ _ _=>.no
 | .cpy _ _ _=>.no
 | .y3 _ _ _=>.no
 | .yy op=>evY lk lo op
def VA:List Opd->List Operand->Bool
 |[],[]=>true
 |x::r,y::s=>x.is y&&VA r s
 |_,_=>false
def QdE:Option Opd->Option Operand->Bool
 |none,none=>true
 |some x,some y=>x.is y
 |_,_=>false
def Vi:List Opd->List Value->Bool
 |[],[]=>true
 |x::r,v::s=>x.isVal v&&Vi r s
 |_,_=>false
def Program.agg(P:Program)(t:TypeId):Option Bool:=
 match P.underlying t with
 |some (.struct _)|some (.array _ _)=>some true
 |some _=>some false
 |none=>none
def Program.sizeIs(P:Program)(t:TypeId)(n:Nat):Bool:=match P.info? t with|some i=>i.size==n|none=>false
def Program.sliceOf(P:Program)(t e:TypeId)(sz:Nat):Bool:=
 match P.underlying t with
 |some (.slice e')=>e'==e&&Program.sizeIs P e sz
 |_=>false
def Program.elemSize(P:Program)(t:TypeId)(sz:Nat):Bool:=
 match P.underlying t with
 |some (.slice e)=>Program.sizeIs P e sz
 |_=>false
def Program.zeroIs(P:Program)(t:TypeId)(zs:List Opd):Bool:=
 match P.info? t with
 |some i=>match i.zero with
  |some z=>Vi zs z.cells.toList&&i.size==zs.length
  |none=>false
 |none=>false
def Vr(places:Nat->Option (Nat×Nat)):List (Nat×Nat×Opd)->List (Nat×Operand)->Bool
 |[],[]=>true
 |(off,sz,x)::r,(i,y)::s=>(match places i with|some (o,z)=>o==off&&z==sz|none=>false)&&x.is y&&Vr places r s
 |_,_=>false
def QaS(k:Nat):List Opd->List (Nat×Operand)->Bool
 |[],[]=>true
 |x::r,(i,y)::s=>i==k&&x.is y&&QaS (k+1) r s
 |_,_=>false
section
variable(P:Program)
def Qaq(t:TypeId):Option IntKind:=match P.underlying t with|some (.int k)=>some k|_=>none
def ZP(t:TypeId):Bool:=match P.underlying t with|some .string=>true|_=>false
def Wz(t:TypeId):Bool:=match P.underlying t with|some (.slice e)=>Qaq P e==some .u8|_=>false
def Qqn(st:Bool)(t:TypeId):Bool:=match P.underlying t with|some .string=>st|some (.slice _)=>!st|_=>false
def Qqm(t:TypeId):Bool:=match P.info? t with|some i=>i.zero.isSome|none=>false
def QbM(t:TypeId):Bool:=match P.underlying t with|some (.slice e)=>Qqm P e|_=>false
def Qnt(e:TypeId)(sz bytes:Nat):Bool:=match P.info? e with
 |some i=>i.bytes==bytes&&(match i.zero with|some z=>z.cells.size==sz|none=>false)
 |none=>false
def Qj8(s:TypeId)(f off:Nat):Bool:=match P.underlying s with
 |some (.struct fields)=>(match fields[f]? with
  |some fd=>fd.offset==off&&(match P.info? fd.type with|some i=>i.size != 0|none=>false)
  |none=>false)
 |_=>false
def QmA(t:TypeId):Option (List (Nat×Nat)):=match P.underlying t with
 |some (.struct fields)=>fields.toList.mapM λf=>(P.info? f.type).map λi=>(f.offset,i.size)
 |_=>none
def QsS(t:TypeId)(parts:List (Nat×Nat×Opd))(ps:List (Nat×Operand)):Bool:=match QmA P t with
 |some places=>Vr (places[·]?) parts ps
 |none=>match P.underlying t with
  |some (.array _ e)=>match P.info? e with
   |some i=>Vr (λk=>some (k*i.size,i.size)) parts ps
   |none=>false
  |_=>false
def callee(f: FuncId): Bool:=match P.funcs[f]? with|some fn=>fn.body.isSome && !(fn.name == "runtime.NumGoroutine")|none=>false
def QI2(x:Opd):Op->Bool| .move y=>x.is y| .assign y=>x.is y|_=>false
def QI1:Op->Bool| .assign y=>Opd.is (.nil 0) y| .move y=>Opd.is (.nil 0) y|_=>false
def QAJ(c x y:Opd):Op->Bool| .pick c' x' y'=>c.is c'&&x.is x'&&y.is y'|_=>false
def QHJ(x:Opd)(i:Nat):Op->Bool| .extract y j=>x.is y&&i==j|_=>false
def QI0(x:Opd):Op->Bool| .unOp .not _ y=>x.is y|_=>false
def QJa(op:BinOp)(x y:Opd):Op->Bool| .binOp op' _ x' y' _=>op==op'&&x.is x'&&y.is y'|_=>false
def QI6(k:IntKind)(x:Opd):Op->Bool| .convert s d y=>x.is y&&(P.underlying s).isSome&&Qaq P d==some k|_=>false
def QI5(x:Opd):Op->Bool| .convert s d y=>x.is y&&(P.underlying s).isSome&&ZP P d|_=>false
def QJb(x:Opd):Op->Bool| .convert s d y=>x.is y&&Wz P s&&ZP P d|_=>false
def QAK(x:Opd):Op->Bool| .nilCheck y=>x.is y|_=>false
def QI4(off:Nat)(x:Opd):Op->Bool| .fieldAddr s y f=>x.is y&&Qj8 P s f off|_=>false
def fLd(n:Nat)(ag:Bool)(x:Opd):Op->Bool| .load t y=>x.is y&&Program.agg P t==some ag&&Program.sizeIs P t n|_=>false
def QIX(n:Nat)(x y:Opd):Op->Bool| .store t x' y'=>x.is x'&&y.is y'&&Program.sizeIs P t n|_=>false
def QEH(sz:Nat)(x i:Opd):Op->Bool| .indexAddr t x' i'=>x.is x'&&i.is i'&&Program.elemSize P t sz|_=>false
def QI3(x i:Opd):Op->Bool| .index t x' i'=>x.is x'&&i.is i'&&ZP P t|_=>false
def QIZ(sz:Nat)(x:Opd)(l h:Option Opd):Op->Bool| .slice t x' l' h' none=>x.is x'&&QdE l l'&&QdE h h'&&Program.elemSize P t sz|_=>false
def QIY(x:Opd)(l h:Option Opd):Op->Bool| .slice t x' l' h' none=>x.is x'&&QdE l l'&&QdE h h'&&ZP P t|_=>false
def QEI(x:Opd):Op->Bool| .box _ y=>x.is y|_=>false
def QJc(zs:List Opd):Op->Bool| .alloc t=>Program.zeroIs P t zs|_=>false
def QI9(zs:List Opd)(parts:List (Nat×Nat×Opd)):Op->Bool| .build t ps=>Program.zeroIs P t zs&&QsS P t parts ps.toList|_=>false
def QGp(sz:Nat)(parts:List Opd):Op->Bool| .buildSlice t n ps=>n==parts.length&&QaS 0 parts ps.toList&&Program.elemSize P t sz&&QbM P t&&parts.length*sz<=65536&&parts.length<=65536|_=>false
def QI8(e:TypeId)(sz:Nat)(parts:List Opd):Op->Bool| .buildSlice t n ps=>n==parts.length&&QaS 0 parts ps.toList&&Program.sliceOf P t e sz&&QbM P t&&parts.length*sz<=65536&&parts.length<=65536|_=>false
def Qw6(st:Bool)(x:Opd):Op->Bool
 | .call { callee:=.builtin .len,args:=az,argTypes:=ts }=>(match az.toList,ts.toList with|[y],[t]=>x.is y&&Qqn P st t|_,_=>false)
 |_=>false
def QAL(e:TypeId)(sz bytes:Nat)(x y:Opd):Op->Bool
 | .call { callee:=.builtin .append,args:=az,argTypes:=ts }=>(match az.toList,ts.toList with
   |[x',y'],[t,t']=>x.is x'&&y.is y'&&t==t'&&Program.sliceOf P t e sz&&0<sz&&Qnt P e sz bytes
   |_,_=>false)
 |_=>false
def Qot(f:FuncId)(args:List Opd):Op->Bool
 | .call { callee:=.value (.func f'),args:=az,.. }=>f==f'&&VA args az.toList&&callee P f
 |_=>false
def QI7(x y:Opd):Op->Bool
 | .call { callee:=.builtin .copy,args:=az,argTypes:=ts }=>(match az.toList,ts.toList with
   |[a,b],[t,_]=>x.is a&&y.is b&&(match P.underlying t with|some (.slice e)=>(P.info? e).map (·.size)==some 1|_=>false)
   |_,_=>false)
 |_=>false
def Qh3(x:Opd)(args:List Opd):Op->Bool
 | .call { callee:=.value (.tmp m),args:=az,.. }=>x.isTmp m&&VA args az.toList
 |_=>false
def Qjl(kk:Option IntKind)(t:TypeId):Bool:=match kk,P.underlying t with
 |some k,some (.int k')=>k==k'
 |none,some .string=>true
 |_,_=>false
def QdC(kk:Option IntKind)(t:TypeId):Option TypeId:=match P.underlying t with
 |some (.map k e)=>if Qjl P kk k then some e else none
 |_=>none
def QFv(kk:Option IntKind)(z:Opd)(t:TypeId):Bool:=match QdC P kk t with
 |some e=>(match P.info? e with|some i=>(match i.zero with|some v=>z.isVal v|none=>false)|none=>false)
 |none=>false
def QFw(kk:Option IntKind)(zs:List Opd)(t:TypeId):Bool:=match QdC P kk t with
 |some e=>Program.zeroIs P e zs&&(match P.info? e with|some i=>(match i.zero with|some (.agg _)=>true|_=>false)|none=>false)
 |none=>false
def QnB(len:Nat)(t:TypeId):Bool:=match P.underlying t with
 |some (.array n e)=>n==len&&Program.sizeIs P e 1&&Program.agg P e==some false
 |_=>false
def US:Nat->List Field->Bool
 |_,[]=>true
 |k, f :: r=>f.name != "_" && f.offset == k && (Qaq P f.type).isSome && US (k + 1) r
def Qh0(f:Field):Option Nat:=if(Qaq P f.type).isSome then some 1 else match P.underlying f.type with
 |some (.struct fs)=>if !P.stoodInHeld f.type&&US P 0 fs.toList&&Program.sizeIs P f.type fs.size then some fs.size else none
 |_=>none
def Xf:Nat->List Field->Option Nat
 |k,[]=>some k
 |k, f :: r=>if f.name != "_" && f.offset == k then(match Qh0 P f with|some m=>Xf (k + m) r|none=>none) else none
def QeB(n:Nat)(t:TypeId):Bool:=match P.underlying t with
 |some (.struct fs)=>!P.stoodInHeld t&&!P.eqGuardType P.depth t&&Xf P 0 fs.toList==some n
 |_=>false
def Qqg(t:TypeId):Bool:=match P.underlying t with|some (.map _ _)=>true|_=>false
def QnA(len sz:Nat)(t:TypeId):Bool:=match P.underlying t with
 |some (.array n e)=>n==len&&Program.sizeIs P e sz
 |_=>false
def YOp.fits:YOp->Op->Bool
 | .no=>fun| .defer _=>false|_=>true
 | .s2b _ x=>fun| .convert s d y=>x.is y&&ZP P s&&Wz P d|_=>false
 | .b2so _ x=>fun| .convert s d y=>x.is y&&Wz P s&&ZP P d|_=>false
 | .ixb _ x i=>fun| .indexAddr t x' i'=>x.is x'&&i.is i'&&Program.elemSize P t 1|_=>false
 | .ldb _ x=>fun| .load t y=>x.is y&&Program.agg P t==some false&&Program.sizeIs P t 1|_=>false
 | .stb _ x y=>fun| .store t x' y'=>x.is x'&&y.is y'&&Program.sizeIs P t 1|_=>false
 | .mks _ e bytes zs n=>fun| .makeSlice t l c=>n.is l&&n.is c&&(match P.underlying t with|some (.slice e')=>e'==e|_=>false)&&Program.zeroIs P e zs&&(match P.info? e with|some i=>i.bytes==bytes|none=>false)|_=>false
 | .r2s x=>fun| .convert s d y=>x.is y&&ZP P d&&(match P.underlying s with|some (.slice e)=>Qaq P e==some .i32|_=>false)|_=>false
 | .mx mn x y=>fun
   | .call { callee:=.builtin b,args:=az,.. }=>(match az.toList with|[x',y']=>(match mn,b with|true,.min=>true|false,.max=>true|_,_=>false)&&x.is x'&&y.is y'|_=>false)
   |_=>false
 | .rngs _ x=>fun| .range t y=>x.is y&&ZP P t|_=>false
 | .nxts _ x=>fun| .next y s=>x.is y&&s|_=>false
 | .mkm _ _=>fun| .makeMap _ none=>true|_=>false
 | .lki kk z x k=>fun| .lookup t x' k' c=>x.is x'&&k.is k'&&!c&&QFv P kk z t|_=>false
 | .lkd _ kk z x k=>fun| .lookup t x' k' c=>x.is x'&&k.is k'&&!c&&QFv P kk z t|_=>false
 | .lkr _ kk x k=>fun| .lookup t x' k' c=>x.is x'&&k.is k'&&!c&&QFv P kk (.nil 0) t|_=>false
 | .mupd _ kk x k v=>fun| .mapUpdate t x' k' v'=>x.is x'&&k.is k'&&v.is v'&&(QdC P kk t).isSome| .insert t x' k' v'=>x.is x'&&k.is k'&&v.is v'&&(QdC P kk t).isSome|_=>false
 | .mupr _ kk x k v=>fun| .mapUpdate t x' k' v'=>x.is x'&&k.is k'&&v.is v'&&(QdC P kk t).isSome|_=>false
 | .ixg len x i=>fun| .index t x' i'=>x.is x'&&i.is i'&&QnB P len t|_=>false
 | .rngm _ x=>fun| .range t y=>x.is y&&(match P.underlying t with|some (.map _ _)=>true|_=>false)|_=>false
 | .ent _ x=>fun| .entry y=>x.is y|_=>false
 | .neg x=>fun| .unOp .neg _ y=>x.is y|_=>false
 | .eqs ne n x y=>fun| .binOp op t x' y' _=>op==(if ne then .neq else .eql)&&x.is x'&&y.is y'&&QeB P n t|_=>false
 | .lenm x=>fun
   | .call { callee:=.builtin .len,args:=az,argTypes:=ts }=>(match az.toList,ts.toList with|[y],[t]=>x.is y&&Qqg P t|_,_=>false)
   |_=>false
 | .lenmo _ x=>fun
   | .call { callee:=.builtin .len,args:=az,argTypes:=ts }=>(match az.toList,ts.toList with|[y],[t]=>x.is y&&Qqg P t|_,_=>false)
   |_=>false
 | .ixa len sz x i=>fun| .indexAddr t x' i'=>x.is x'&&i.is i'&&QnA P len sz t|_=>false
 | .zslv sz=>QGp P sz []
 | .lkc kk zs x k=>fun| .lookup t x' k' c=>x.is x'&&k.is k'&&c&&QFw P kk zs t|_=>false
 | .isn ne x=>fun| .binOp op t x' (.const .nilIface) _=>op==(if ne then .neq else .eql)&&x.is x'&&(match P.underlying t with|some (.interface _)=>true|_=>false)|_=>false
 | .mkf g fs cs=>fun| .makeFunc (.func g') fs' cs'=>g==g'&&VA fs fs'.toList&&VA cs cs'.toList|_=>false
def AOp.fits:AOp->Op->Bool
 | .xg x=>QI2 x
 | .nilo _ _ _=>QI1
 | .pick c x y=>QAJ c x y
 | .ext x i=>QHJ x i
 | .not x=>QI0 x
 | .bin op x y=>QJa op x y
 | .cvi k x=>QI6 P k x
 | .b2s x=>QJb P x
 | .i2s x=>QI5 P x
 | .nilc x=>QAK x
 | .fld off x=>QI4 P off x
 | .ldi n ag x=>fLd P n ag x
 | .ldo _ n ag x=>fLd P n ag x
 | .sto _ n x y=>QIX P n x y
 | .ixi sz x i=>QEH P sz x i
 | .ixo _ sz x i=>QEH P sz x i
 | .ixs x i=>QI3 P x i
 | .sli sz x l h=>QIZ P sz x l h
 | .sls x l h=>QIY P x l h
 | .boxi x=>QEI x
 | .boxo _ x=>QEI x
 | .alo _ zs=>QJc P zs
 | .bld zs parts=>QI9 P zs parts
 | .bsl sz parts=>QGp P sz parts
 | .bso _ e sz parts=>QI8 P e sz parts
 | .len x=>Qw6 P false x
 | .leno _ x=>Qw6 P false x
 | .lst x=>Qw6 P true x
 | .app _ e sz bytes x y=>QAL P e sz bytes x y
 | .call f args _=>Qot P f args
 | .y2 f args _ _=>Qot P f args
 | .y1 x args _=>Qh3 x args
 | .yx f x args _=>Qot P f (x::args)
 | .yw x args _=>Qh3 x args
 | .yu f args _=>Qot P f args
 | .yz f args _=>Qot P f args
 | .cpy _ x y=>QI7 P x y
 | .y3 x args _=>Qh3 x args
 | .yy op=>YOp.fits P op
end
section
variable{P:Program}{ok:Nat->Prop}{w:World}{lo:Nat->Option AO}{L:Nat->Lay}{v:Value}
def Zw{k n}(h:QG ok w lo L (.iv (.int k n)) v):v=.int k n:=by cases h with|iv _ _ h=>cases h;rfl
def QbF{b}(h:QG ok w lo L (.iv (.bool b)) v):v=.bool b:=by cases h with|iv _ _ h=>cases h;rfl
def YM{s}(h:QG ok w lo L (.iv (.str s)) v):v=.string ⟨s.toArray⟩:=by cases h with|iv _ _ h=>cases h;rfl
def ZH(k n):QG ok w lo L (.iv (.int k n)) (.int k n):=.iv _ _ (.int k n)
def YX(b):QG ok w lo L (.iv (.bool b)) (.bool b):=.iv _ _ (.bool b)
def Vp(s):QG ok w lo L (.iv (.str s)) (.string ⟨s.toArray⟩):=.iv _ _ (.str s)
def Y7{v}(h:isSl v=true):(∀z,v≠.agg z)/\v.oneCell'=true:=by cases v<;>simp[isSl] at h<;>exact⟨by simp,rfl⟩
def Qet{v}(h:isFn v=true):(∀z,v≠.agg z)/\v.oneCell'=true:=by cases v<;>simp[isFn] at h<;>exact⟨by simp,rfl⟩
theorem qk:∀{cs xs},ivs cs=some xs->cs=xs.map .iv
 |[],xs,h=>by simp[ivs] at h;subst h;rfl
 |x::r,xs,h=>by
  simp only[ivs] at h;cases x with
  |iv y=>
   cases hr:ivs r with
   |none=>simp[AV.iv?,hr] at h
   |some ys=>simp only[AV.iv?,hr,Option.some.injEq] at h;subst h;simp[qk hr]
  |_=>simp[AV.iv?] at h
def Ue{cs:List AV}{vs:List Value}(hl:vs.length=cs.length)(h1:∀u∈vs,u.oneCell'=true)
  (hx:∀(k:Nat)x u,cs[k]?=some x->vs[k]?=some u->QG ok w lo L x u):QG ok w lo L (Qcx cs) (.agg vs.toArray):=by
 unfold Qcx;split
 .rename_i xs he;have:=qk he;subst this;refine .iv _ _ (.agg xs vs (by simpa using hl) h1 λk x u h2 h3=>?_);have:=hx k (.iv x) u (by simp[h2]) h3;cases this;assumption
 .exact .agg cs vs hl h1 hx
def Qcl{x cs}(h:QG ok w lo L x v)(hc:x.cells=some cs):∃vs:List Value,v.cells=vs.toArray/\vs.length=cs.length/\(∀u∈vs,u.oneCell'=true)/\∀(k:Nat)x u,cs[k]?=some x->vs[k]?=some u->QG ok w lo L x u:=by
 have one:∀{x v},QG ok w lo L x v->(∀z,v≠.agg z)->(v.oneCell'=true)->cs=[x] ->
   ∃vs:List Value,v.cells=vs.toArray/\vs.length=cs.length/\(∀u∈vs,u.oneCell'=true)/\∀(k:Nat)x u,cs[k]?=some x->vs[k]?=some u->QG ok w lo L x u:=by
  intro x v hr hna h1 hcs;subst hcs;refine⟨[v],?_,rfl,by simpa using h1,λk y u h2 h3=>?_⟩
  .cases v<;>first|rfl|exact absurd rfl (hna _)
  cases k with
  |zero=>simp at h2 h3;subst h2;subst h3;exact hr
  |succ k=>simp at h2
 have h0:=h;cases h with
 |iv y v hy=>
  cases hy with
  |any v=>simp[AV.cells] at hc
  |xf cs vs hl hx=>simp[AV.cells] at hc
  |lit v=>simp[AV.cells] at hc
  |ifn v h=>simp[AV.cells] at hc
  |agg xs vs hl h1 hx=>simp only[AV.cells,Option.some.injEq] at hc;subst hc;refine⟨vs,rfl,by simpa using hl,h1,λk y u h2 h3=>?_⟩;grind
  |bool b=>exact one h0 (by simp) rfl (by simpa[AV.cells] using hc.symm)
  |int k n=>exact one h0 (by simp) rfl (by simpa[AV.cells] using hc.symm)
  |str s=>exact one h0 (by simp) rfl (by simpa[AV.cells] using hc.symm)
  |nilp=>exact one h0 (by simp) rfl (by simpa[AV.cells] using hc.symm)
  |nils sz=>exact one h0 (by simp) rfl (by simpa[AV.cells] using hc.symm)
  |nilz sz a=>exact one h0 (by simp) rfl (by simpa[AV.cells] using hc.symm)
  |sl=>exact one h0 (by simp) rfl (by simpa[AV.cells] using hc.symm)
  |ptr=>exact one h0 (by simp) rfl (by simpa[AV.cells] using hc.symm)
  |fn f=>exact one h0 (by simp) rfl (by simpa[AV.cells] using hc.symm)
  |mapn=>exact one h0 (by simp) rfl (by simpa[AV.cells] using hc.symm)
  |map=>exact one h0 (by simp) rfl (by simpa[AV.cells] using hc.symm)
  |clo=>exact one h0 (by simp) rfl (by simpa[AV.cells] using hc.symm)
 |agg xs vs hl h1 hx=>simp only[AV.cells,Option.some.injEq] at hc;subst hc;exact⟨vs,rfl,hl,h1,hx⟩
 |loc id off cs b ho hL=>exact one h0 (by simp) rfl (by simpa[AV.cells] using hc.symm)
 |yl id e sz es mv v xs ho hL hs=>exact one h0 (Y7 hs).1 (Y7 hs).2 (by simpa[AV.cells] using hc.symm)
 |old id n e sz es mv v' v xs ho hL hs hn hv=>exact one h0 (Y7 hs).1 (Y7 hs).2 (by simpa[AV.cells] using hc.symm)
 |yj id n i off e sz es mv v xs b ho hL hn hv=>exact one h0 (by simp) rfl (by simpa[AV.cells] using hc.symm)
 |ym sz=>exact one h0 (by simp) rfl (by simpa[AV.cells] using hc.symm)
 |zsl sz v h=>obtain⟨a,rfl⟩:=Qcv h;exact one h0 (by simp) rfl (by simpa[AV.cells] using hc.symm)
 |yn id k n e sz kvs pend b vals v ho hL h1 hn hv=>exact one h0 (Y7 h1).1 (Y7 h1).2 (by simpa[AV.cells] using hc.symm)
 |yk id b o ho hn hL=>exact one h0 (by simp) rfl (by simpa[AV.cells] using hc.symm)
 |omap id b kvs ho hL=>exact one h0 (by simp) rfl (by simpa[AV.cells] using hc.symm)
 |orow id b e sz kvs pend vals ho hL=>exact one h0 (by simp) rfl (by simpa[AV.cells] using hc.symm)
 |obytes=>exact one h0 (by simp) rfl (by simpa[AV.cells] using hc.symm)
 |yr=>exact one h0 (by simp) rfl (by simpa[AV.cells] using hc.symm)
 |clo=>exact one h0 (by simp) rfl (by simpa[AV.cells] using hc.symm)
 |xf=>simp[AV.cells] at hc
 |cb id s O D ho hL=>exact one h0 (Qet s.hv).1 (Qet s.hv).2 (by simpa[AV.cells] using hc.symm)
def Opd.repVal{lk:Nat->AV}{x:Opd}{v:Value}(hx:x.isVal v=true):QG ok w lo L (x.av lk) v:=by
 cases x with
 |t n=>simp[Opd.isVal] at hx
 |fn f=>simp[Opd.isVal] at hx
 |int k n=>
  simp only[Opd.isVal] at hx;unfold isI at hx;split at hx
  .simp only[QNZ,beq_iff_eq] at hx;rw[<- hx.1,<- hx.2];exact ZH _ _
  cases hx
 |bool b=>
  simp only[Opd.isVal] at hx;unfold isB at hx;split at hx
  .rw[<- beq_iff_eq.1 hx]
   exact YX _
  cases hx
 |str s=>
  simp only[Opd.isVal] at hx;unfold isS at hx;split at hx
  .rename_i u;have e:s=u.data.toList:=by simpa using hx
   have e2:u=⟨s.toArray⟩:=by rw[e]
   rw[e2];exact Vp _
  cases hx
 |nil sz=>
  simp only[Opd.isVal] at hx;unfold isN at hx;split at hx
  .simp only[QNZ,beq_iff_eq] at hx;rw[hx.1,hx.2];exact .iv _ _ (.nils sz)
  cases hx
 |nilv sz=>
  simp only[Opd.isVal] at hx;unfold isN at hx;split at hx
  .simp only[QNZ,beq_iff_eq] at hx;rw[hx.1,hx.2];exact .ym sz
  cases hx
 |nilm=>
  simp only[Opd.isVal] at hx;unfold isM at hx;split at hx
  .exact .iv _ _ .mapn
  cases hx
 |nilf=>
  simp only[Opd.isVal] at hx;unfold QIF at hx;split at hx
  .exact .iv _ _ (.lit _)
  cases hx
 |nilp=>
  simp only[Opd.isVal] at hx;unfold isP at hx;split at hx
  .exact .iv _ _ .nilp
  .cases hx
def Opd.rep{ok0:Nat->Prop}{N:Fm}{w0:XS}{lk:Nat->AV}{a:Act}(h:Rel ok0 N w0 lk lo a w L){x:Opd}{y:Operand}(hx:x.is y=true):QG (okL ok0 lo L) w lo L (x.av lk) (a.eval y):=by
 cases y with
 |tmp m=>cases x<;>simp only[Opd.is,Opd.isTmp,QOo,beq_iff_eq] at hx;rw[hx];exact h.env m
 |const v=>exact Opd.repVal hx
 |global g=>simp[Opd.is] at hx
 |func f=>cases x<;>simp only[Opd.is,Opd.isFn,QOo,beq_iff_eq] at hx;subst hx;exact .iv _ _ (.fn _)
def Xd{t:TypeId}{n:Nat}{ag:Bool}(hag:Program.agg P t=some ag)(hn:Program.sizeIs P t n=true)(b o:Nat)(vs:List Value)
  (hl:vs.length=n)(h0:ag=false->n=1)(hc:∀(k:Nat)(u:Value),vs[k]?=some u->w.cell? ⟨b,o+k,none⟩=some u):
  (loadVar t ⟨b,o,none⟩).run P w=.ok (if ag then .agg vs.toArray else vs.getD 0 undef) w:=by
 unfold Program.agg at hag;unfold Program.sizeIs at hn;cases hi:P.info? t with
 |none=>simp[hi] at hn
 |some i=>
  have hs:i.size=n:=by simpa[hi] using hn
  have hload:(loadCells ⟨b,o,none⟩ n).run P w=.ok vs.toArray w:=by rw[<- hl];exact run_loadCells_list (P:=P) w ⟨b,o,none⟩ vs (λj v hv=>by rw[addr_add];exact hc j v hv)
  cases hu:P.underlying t with
  |none=>simp[hu] at hag
  |some d=>
   have hu':=run_underlying hu w;cases ag with
   |true=>
    have hda:(match d with| .struct _=>true| .array _ _=>true|_=>false)=true:=by cases d<;>simp_all
    cases d<;>simp at hda<;>simp[loadVar,isAgg,hu',sizeOf,typeInfo,hi,hs,hload]
   |false=>
    have h1:=h0 rfl;subst h1;obtain⟨u,rfl⟩:∃u,vs=[u]:=by
     cases vs with
     |_=>grind
    have hc0:=hc 0 u (by simp);simp only[QPd] at hc0;cases d<;>simp[hu] at hag<;>simp[loadVar,isAgg,hu',hc0]
def QaU{t ty:TypeId}{n:Nat}(hn:Program.sizeIs P t n=true)(b o:Nat)(v:Value)(vs cur:List Value)(hv:v.cells=vs.toArray)(hl:vs.length=n)
  (hg:w.heap[b]?=some (.cells cur.toArray ty (0,0)))(hfit:o+n<=cur.length)(h1:∀u∈vs,u.oneCell'=true):
  (storeVar t ⟨b,o,none⟩ v).run P w=.ok () (w.setRow b (cur.take o++vs++cur.drop (o+n)).toArray):=by
 unfold Program.sizeIs at hn;cases hi:P.info? t with
 |none=>simp[hi] at hn
 |some i=>
  have hs:i.size=n:=by simpa[hi] using hn
  have:=run_storeCells_at P b o ty vs 0 cur.toArray w hg (by simp;omega) h1;simp only[QPd,hl] at this;simp[storeVar,sizeOf,typeInfo,hi,hs,hv,hl,this]
end
def upO(lo:Nat->Option AO):Option (Nat×AO)->Nat->Option AO
 |none=>lo
 |some (id,o)=>Zn lo id o
def Q6(P:Program)(o:Oper)(ok0:Nat->Prop)(N:Fm)(w0:XS)(lk:Nat->AV)(lo:Nat->Option AO)(a:Act)(w:World)(v:AV)(up:Option (Nat×AO)):Prop:=
 ∃n u w' L',(execOp a.eval o).run P w=.ok n w'/\(n=.value u\/(n=.skip/\u=undef)) /\
  Rel ok0 N w0 lk (upO lo up) a w' L'/\QG (okL ok0 (upO lo up) L') w' (upO lo up) L' v u
section
variable{P:Program}{ok0:Nat->Prop}{N:Fm}{w0:XS}{lk:Nat->AV}{lo:Nat->Option AO}{a:Act}{w:World}{L:Nat->Lay}{o:Oper}
def Q6.pure{v u}(h:Rel ok0 N w0 lk lo a w L)(hr:(execOp a.eval o).run P w=.ok (.value u) w)(hv:QG (okL ok0 lo L) w lo L v u):Q6 P o ok0 N w0 lk lo a w v none:=⟨_,u,w,L,hr,.inl rfl,h,hv⟩
def Qu4{x}(h:Rel ok0 N w0 lk lo a w L)(hf:QI2 x o.op=true):Q6 P o ok0 N w0 lk lo a w (x.av lk) none:=by
 unfold QI2 at hf;split at hf
 .rename_i y ho;exact Q6.pure h (u:=a.eval y) (by simp[execOp,ho]) (Opd.rep h hf)
 .rename_i y ho;exact Q6.pure h (u:=a.eval y) (by simp[execOp,ho]) (Opd.rep h hf)
 .cases hf
def QrI{c x y}(h:Rel ok0 N w0 lk lo a w L)(hf:QAJ c x y o.op=true){s f v up}
  (he:Qh4 (x.av lk) (y.av lk) (c.av lk)=.ok s f v up):f/\Q6 P o ok0 N w0 lk lo a w v up:=by
 unfold QAJ at hf;split at hf
 .rename_i c' x' y' ho;simp only[QNZ] at hf;have⟨⟨hc,hx⟩,hy⟩:=hf;have rc:=Opd.rep h hc;generalize c.av lk=cv at rc he;unfold Qh4 at he;split at he
  .rename_i b;injection he with e1 e2 e3 e4;subst e2 e3 e4;have:=QbF rc;refine⟨trivial,Q6.pure h (u:=if b then a.eval x' else a.eval y') (by simp[execOp,ho,this,asBool]) ?_⟩;cases b
   .exact Opd.rep h hy
   exact Opd.rep h hx
  cases he
 .cases hf
def Qvq{x i}(h:Rel ok0 N w0 lk lo a w L)(hf:QHJ x i o.op=true){s f v up}
  (he:QoB i (x.av lk)=.ok s f v up):f/\Q6 P o ok0 N w0 lk lo a w v up:=by
 unfold QHJ at hf;split at hf
 .rename_i y j ho;simp only[QNZ,beq_iff_eq] at hf;obtain⟨hx,rfl⟩:=hf;have rx:=Opd.rep h hx;generalize x.av lk=xv at rx he;unfold QoB at he;split at he
  .rename_i cs;split at he
   .rename_i z hz;injection he with e1 e2 e3 e4;subst e2 e3 e4;cases rx with
    |iv _ _ r=>
     generalize hey:a.eval y=yv at r;cases r with
     |xf _ vs hl hxs=>
      have y9:i<vs.length:=by rw[hl];exact(QNY.1 hz).1
      have hu:vs[i]?=some vs[i]:=QNX y9;refine⟨trivial,Q6.pure h (u:=vs[i]) (by simp[execOp,ho,hey,Instr.extract,y9]) (.iv _ _ (hxs i z _ hz hu))⟩
   cases he
  .rename_i cs;split at he
   .rename_i z hz;injection he with e1 e2 e3 e4;subst e2 e3 e4;generalize hey:a.eval y=yv at rx;cases rx with
    |xf _ vs hl hxs=>
     have y9:i<vs.length:=by rw[hl];exact(QNY.1 hz).1
     have hu:vs[i]?=some vs[i]:=QNX y9;refine⟨trivial,Q6.pure h (u:=vs[i]) (by simp[execOp,ho,hey,Instr.extract,y9]) (hxs i z _ hz hu)⟩
   cases he
  cases he
 .cases hf
def Qu2{x}(h:Rel ok0 N w0 lk lo a w L)(hf:QI0 x o.op=true){s f v up}
  (he:Qrr (x.av lk)=.ok s f v up):f/\Q6 P o ok0 N w0 lk lo a w v up:=by
 unfold QI0 at hf;split at hf
 .rename_i t y ho;have rx:=Opd.rep h hf;generalize x.av lk=xv at rx he;unfold Qrr at he;split at he
  .rename_i b;injection he with e1 e2 e3 e4;subst e2 e3 e4;have:=QbF rx;exact⟨trivial,Q6.pure h (u:=.bool !b) (by simp[execOp,ho,this,Op.unary]) (YX _)⟩
  cases he
 .cases hf
def Qvt{k x}(h:Rel ok0 N w0 lk lo a w L)(hf:QI6 P k x o.op=true){s f v up}
  (he:Qrx k (x.av lk)=.ok s f v up):f/\Q6 P o ok0 N w0 lk lo a w v up:=by
 unfold QI6 at hf;split at hf
 .rename_i sT d y ho;simp only[QNZ,beq_iff_eq] at hf;have⟨⟨hx,hs⟩,hd⟩:=hf;have hd':P.underlying d=some (.int k):=by
   unfold Qaq at hd;grind
  have rx:=Opd.rep h hx;generalize x.av lk=xv at rx he;unfold Qrx at he;split at he
  .rename_i k' n;injection he with e1 e2 e3 e4;subst e2 e3 e4;have:=Zw rx;refine⟨trivial,Q6.pure h (u:=.int k (k.wrap n)) ?_ (ZH _ _)⟩;have⟨ds,hds⟩:=QOC.1 hs;simp[execOp,ho,this,convert,run_underlying hds,run_underlying hd',Conv.intToInt]
  cases he
 .cases hf
def WQ{k n}(h:IntKind.inR k n):k.wrap n=n:=by unfold IntKind.inR IntKind.min IntKind.max at h;unfold IntKind.wrap;cases k<;>simp[IntKind.signed,IntKind.bits] at h |-<;>omega
def plain:Value->Bool
 | .int _ _=>true
 | .bool _=>true
 | .string _=>true
 |_=>false
def Qf1(op t)(x y:Operand)(p q)(hp:plain p=true):eqGuard op t x y p q=pure ():=by unfold eqGuard;cases p<;>simp[plain] at hp<;>(split<;>rfl)
def qX{op t yt}{x' y':Operand}(ho:o.op=.binOp op t x' y' yt){p q u}(hx:a.eval x'=p)(hy:a.eval y'=q)(hp:plain p=true)
  (hu:(binOp op t p q).run P w=.ok u w):(execOp a.eval o).run P w=.ok (.value u) w:=by
 simp[execOp,ho,hx,hy,Qf1 op t x' y' p q hp,hu]
def Qns(s u:List UInt8):((⟨s.toArray⟩:ByteArray).toList==(⟨u.toArray⟩:ByteArray).toList)=decide (s=u):=by
 have e:∀l,(⟨l.toArray⟩:ByteArray).toList=l:=by intro l;simp
 rw[e,e];by_cases h:s=u<;>simp[h]
def Qvx{op:BinOp}{x y:Opd}(h:Rel ok0 N w0 lk lo a w L)(hf:QJa op x y o.op=true){s f:Prop}{v:AV}{up:Option (Nat×AO)}
  (he:Qry op (x.av lk) (y.av lk)=.ok s f v up)(hs:s):f/\Q6 P o ok0 N w0 lk lo a w v up:=by
 unfold QJa at hf;split at hf
 .rename_i op' t x' y' yt ho;simp only[QNZ,beq_iff_eq] at hf;obtain⟨⟨rfl,hx⟩,hy⟩:=hf;have rx:=Opd.rep h hx;have ry:=Opd.rep h hy;generalize x.av lk=xv at rx he;generalize y.av lk=yv at ry he;unfold Qry at he;split at he
  .cases he;refine⟨trivial,Q6.pure h (qX ho (Zw rx) (Zw ry) rfl ?_) (ZH _ _)⟩;have:¬(_<(0:Int)):=Int.not_lt.2 hs;simp[binOp,Op.shift,this,QxP]
  .cases he;refine⟨trivial,Q6.pure h (qX ho (Zw rx) (Zw ry) rfl ?_) (ZH _ _)⟩;have:¬(_<(0:Int)):=Int.not_lt.2 hs;simp[binOp,Op.shift,this,QwA]
  .rename_i k m k' n h1 h2;split at he
   .rename_i hk;subst hk;have rx:=Zw rx;have ry:=Zw ry;unfold QuS at he;split at he
    all_goals first
     |(injection he with e1 e2 e3 e4
       subst e1 e2 e3 e4;refine⟨trivial,Q6.pure h (qX ho rx ry rfl ?_) (by first|exact ZH _ _|exact YX _)⟩
       first
        |(simp[binOp,Op.intArith,WQ hs];done)
        |(simp[binOp,Op.intDiv,hs.1,WQ hs.2];done)
        |(have hs':¬(n=0):=hs;simp[binOp,Op.intDiv,hs'];done)
        |(simp[binOp,Op.intBits,QaC];done)
        |(simp[binOp,Op.intCmp,bne];done)
        |(simp[binOp,Op.intCmp];rfl))
     |cases he
   cases he
  .rename_i s1 s2;cases he;refine⟨trivial,Q6.pure h (qX ho (YM rx) (YM ry) rfl (u:=.string ⟨(s1++s2).toArray⟩) ?_) (Vp _)⟩;have h2:¬(((s1.length+s2.length:Nat):Int)>IntKind.i64.max):=by
    have:IntKind.i64.max=9223372036854775807:=by decide
    omega
   have h3:(⟨s1.toArray⟩:ByteArray)++⟨s2.toArray⟩=⟨(s1++s2).toArray⟩:=by
    ext1
    simp
   simp only[binOp,Op.stringOp];have e1:(⟨s1.toArray⟩:ByteArray).size=s1.length:=rfl;have e2:(⟨s2.toArray⟩:ByteArray).size=s2.length:=rfl;rw[e1,e2,if_neg h2,h3];rfl
  .cases he;exact⟨trivial,Q6.pure h (qX ho (YM rx) (YM ry) rfl (by simp only[binOp,Op.stringOp,Qns];rfl)) (YX _)⟩
  .cases he;exact⟨trivial,Q6.pure h (qX ho (YM rx) (YM ry) rfl (by simp only[binOp,Op.stringOp,Qns];rfl)) (YX _)⟩
  cases he
 .cases hf
end
section
variable{P:Program}{ok0:Nat->Prop}{N:Fm}{w0:XS}{lk:Nat->AV}{lo:Nat->Option AO}{a:Act}{w:World}{L:Nat->Lay}{o:Oper}
variable{s f:Prop}{v:AV}{up:Option (Nat×AO)}
def QrL{x}(h:Rel ok0 N w0 lk lo a w L)(hf:QAK x o.op=true)
  (he:Qh5 (x.av lk)=.ok s f v up):f/\Q6 P o ok0 N w0 lk lo a w v up:=by
 unfold QAK at hf;split at hf
 .rename_i y ho;have rx:=Opd.rep h hf;generalize x.av lk=xv at rx he;generalize hey:a.eval y=yv at rx;have run:∀ad,yv=.pointer (some ad)->(execOp a.eval o).run P w=.ok (.value (.pointer (some ad))) w:=by
   intro ad had;simp[execOp,ho,hey,had]
  unfold Qh5 at he;split at he
  .injection he with e1 e2 e3 e4;subst e2 e3 e4;have rx0:=rx;cases rx with
   |iv _ _ r=>cases r with
    |ptr cs b off u hu hx=>exact⟨trivial,Q6.pure h (run _ rfl) rx0⟩
  .injection he with e1 e2 e3 e4;subst e2 e3 e4;have rx0:=rx;cases rx with
   |loc id off cs b hob hL=>exact⟨trivial,Q6.pure h (run _ rfl) rx0⟩
  cases he
 .cases hf
def Qj7{sT fi off}(hf:Qj8 P sT fi off=true)(b p):(Instr.fieldAt sT (.pointer (some ⟨b,p,none⟩)) fi).run P w=.ok (.pointer (some ⟨b,p+off,none⟩)) w:=by
 unfold Qj8 at hf;split at hf
 .rename_i fields hu;split at hf
  .rename_i fd hfd;simp only[QNZ,beq_iff_eq] at hf;have⟨h1,h2⟩:=hf;split at h2
   .rename_i i hi;have h3:i.size≠0:=by simpa using h2
    subst h1;simp[Instr.fieldAt,run_underlying hu,hfd,Instr.sureAddr,fieldPlace,sizeOf,typeInfo,hi,h3,addr_add]
   cases h2
  cases hf
 .cases hf
def Qvp{off x}(h:Rel ok0 N w0 lk lo a w L)(hf:QI4 P off x o.op=true)
  (he:QoA off (x.av lk)=.ok s f v up)(hs:s):f/\Q6 P o ok0 N w0 lk lo a w v up:=by
 unfold QI4 at hf;split at hf
 .rename_i sT y fi ho;simp only[QNZ] at hf;have⟨hx,hfi⟩:=hf;have rx:=Opd.rep h hx;generalize x.av lk=xv at rx he;generalize hey:a.eval y=yv at rx;have run:∀b p,yv=.pointer (some ⟨b,p,none⟩)->(execOp a.eval o).run P w=.ok (.value (.pointer (some ⟨b,p+off,none⟩))) w:=by
   intro b p had;simp[execOp,ho,hey,had,Qj7 hfi b p]
  unfold QoA at he;split at he
  .cases he;cases rx with
   |iv _ _ r=>cases r with
    |ptr cs b p u hu hxs=>
     refine⟨trivial,Q6.pure h (run b p rfl) (.iv _ _ (.ptr _ b (p+off) (λk=>u (off+k)) (λk hk=>?_) (λk z hz=>?_)))⟩
     all_goals grind
  .rename_i id off';cases he;cases rx with
   |loc _ _ cs b hob hL=>exact⟨trivial,Q6.pure h (run b off' rfl) (.loc id (off'+off) cs b hob hL)⟩
  .rename_i id n i o';cases he;cases rx with
   |yj _ _ _ _ e sz es mv v xs b ho hL hn hv=>have:=run b _ rfl;rw[QPa] at this;exact⟨trivial,Q6.pure h this (.yj id n i (o'+off) e sz es mv v xs b ho hL hn hv)⟩
  cases he
 .cases hf
def Qvf{n ag x}(h:Rel ok0 N w0 lk lo a w L)(hf:fLd P n ag x o.op=true)
  (he:Qf0 n ag (x.av lk)=.ok s f v up)(hs:s):f/\Q6 P o ok0 N w0 lk lo a w v up:=by
 unfold fLd at hf;split at hf
 .rename_i t y ho;simp only[QNZ,beq_iff_eq] at hf;have⟨⟨hx,hag⟩,hn⟩:=hf;have rx:=Opd.rep h hx;generalize x.av lk=xv at rx he;generalize hey:a.eval y=yv at rx;unfold Qf0 at he;split at he
  .rename_i cs;cases rx with
   |iv _ _ r=>cases r with
    |ptr _ b p u hu hxs=>
     split at he
     .cases he
      have hl:=Xd (w:=w) hag hn b p ((List.range n).map u) (by simp) (by simp) (λk z hz=>by grind)
      refine⟨trivial,Q6.pure h (u:=.agg ((List.range n).map u).toArray) (by simp[execOp,ho,hey,Instr.loadAt,Instr.sureAddr,hl]) (.iv _ _ (.agg _ _ ?_ ?_ ?_))⟩
      all_goals grind
     split at he
     .rename_i c r;cases he;subst hs
      have hl:=Xd (w:=w) hag hn b p [u 0] (by simp) (by simp) (λk z hz=>by grind)
      refine⟨trivial,Q6.pure h (u:=u 0) (by simp[execOp,ho,hey,Instr.loadAt,Instr.sureAddr,hl]) (.iv _ _ (hxs 0 _ (by simp)))⟩
     cases he
  cases he
 .cases hf
end
section
variable{P:Program}{ok0:Nat->Prop}{N:Fm}{w0:XS}{lk:Nat->AV}{lo:Nat->Option AO}{a:Act}{w:World}{L:Nat->Lay}{o:Oper}
variable{s f:Prop}{v:AV}{up:Option (Nat×AO)}
def UP{n:Nat}{ag:Bool}{t:TypeId}{y:Operand}(h:Rel ok0 N w0 lk lo a w L)(ho:o.op=.load t y)(hag:Program.agg P t=some ag)(hn:Program.sizeIs P t n=true)
  {b p:Nat}(hy:a.eval y=.pointer (some ⟨b,p,none⟩))(cs:List AV)(vs:List Value)(hl:vs.length=cs.length)(h1:∀u∈vs,u.oneCell'=true)
  (hcs:cs.length=n)(hag1:ag=false->n=1)
  (hc:∀(k:Nat)(u:Value),vs[k]?=some u->w.cell? ⟨b,p+k,none⟩=some u)
  (hx:∀(k:Nat)x u,cs[k]?=some x->vs[k]?=some u->QG (okL ok0 lo L) w lo L x u):
  (ag=true->Q6 P o ok0 N w0 lk lo a w (Qcx cs) none)/\(ag=false->∀c,cs[0]?=some c->Q6 P o ok0 N w0 lk lo a w c none):=by
 have hload:=Xd (w:=w) hag hn b p vs (by omega) hag1 hc;refine⟨λe=>?_,λe c hc0=>?_⟩
 .subst e;exact Q6.pure h (u:=.agg vs.toArray) (by simp[execOp,ho,hy,Instr.loadAt,Instr.sureAddr,hload]) (Ue hl h1 hx)
 .subst e;have y9:0<vs.length:=by rw[hl];exact(QNY.1 hc0).1
  have hv0:vs[0]?=some vs[0]:=QNX y9;apply Q6.pure h (u:=vs.getD 0 undef) (by simp[execOp,ho,hy,Instr.loadAt,Instr.sureAddr,hload]);grind
def QfY{es:List (List AV)}{sz:Nat}(hs:∀c∈es,c.length=sz){i:Nat}(hi:i<es.length):(es.getD i []).length=sz:=by grind
def QcQ{i n j sz:Nat}(hi:i<n)(hj:j<sz):i*sz+j<n*sz:=by have:(i+1)*sz<=n*sz:=QOI sz hi;rw[QOU] at this;omega
def Qve{id n:Nat}{ag:Bool}{x:Opd}(h:Rel ok0 N w0 lk lo a w L)(hf:fLd P n ag x o.op=true)
  (he:Qoy lo id n ag (x.av lk)=.ok s f v up)(hs:s):f/\Q6 P o ok0 N w0 lk lo a w v up:=by
 unfold fLd at hf;split at hf
 .rename_i t y ho;simp only[QNZ,beq_iff_eq] at hf;have⟨⟨hx,hag⟩,hn⟩:=hf;have rx:=Opd.rep h hx;generalize x.av lk=xv at rx he;generalize hey:a.eval y=yv at rx;unfold Qoy at he;split at he
  .rename_i i off;split at he
   .rename_i hii;subst hii;split at he
    .rename_i cs hcs;have hob:=h.y8 _ _ hcs;cases rx with
     |loc _ _ cs' b hob' hL=>
      rw[hcs] at hob';injection hob' with hob';injection hob' with hob';subst hob';rw[hL] at hob;have⟨hB,ty,vs,hb,hl,h1,hxx⟩:=hob;have cell:∀k u,(vs.drop off)[k]?=some u->w.cell? ⟨b,off+k,none⟩=some u:=by intro k u hu;rw[cell_of_row w b (off+k) _ ty (0,0) hb];simpa[QPy] using hu
      split at he
      .injection he with e1 e2 e3 e4;subst e1 e2 e3 e4
       have:=(UP h ho hag hn hey ((cs.drop off).take n) ((vs.drop off).take n) (by simp[hl]) (λu hu=>h1 u (QOW (QOJ hu))) (by simp;omega) (by simp)
        (λk u hu=>cell k u (by rw[QOS] at hu;split at hu<;>first|exact hu|cases hu))
        (λk z u hz hu=>by grind)).1 rfl
       exact⟨trivial,this⟩
      split at he
      .rename_i c hc;injection he with e1 e2 e3 e4;subst e1 e2 e3 e4;subst hs;have y9:off<vs.length:=by rw[hl];exact(QNY.1 hc).1
       have:=(UP h ho hag hn hey [c] [vs[off]] rfl (λu hu=>h1 u (by simp at hu;subst hu;exact QN0 y9)) rfl (by simp)
        (λk u hu=>by
          cases k with
          |zero=>simp at hu;subst hu;exact cell 0 _ (by simp[QPy,y9])
          |succ k=>simp at hu)
        (λk z u hz hu=>by grind)).2 rfl c rfl
       exact⟨trivial,this⟩
      cases he
    cases he
   cases he
  .rename_i i m j off;split at he
   .rename_i hii;subst hii;split at he
    .rename_i e sz es mv hcs;have hob:=h.y8 _ _ hcs;cases rx with
     |yj _ _ _ _ e' sz' es' mv' v' xs b hob' hL hm hv=>
      rw[hcs] at hob';injection hob' with hob';injection hob' with g1 g2 g3 g4;subst g1 g2 g3 g4;rw[hL] at hob;have⟨hown,hmv,hsz,h1,hxx⟩:=hob;have hxl:=hown.own.1;have get:mv<=m->j<m/\∀k,k<sz->∃u,w.cell? ⟨b,j*sz+k,none⟩=some u/\xs[j*sz+k]?=some u:=by intro hmm;have⟨hj,_,hcells⟩:=hv hmm;exact⟨hj,λk hk=>(hcells (j*sz+k) (QcQ hj hk)).2⟩
      split at he
      .injection he with e1 e2 e3 e4;subst e1 e2 e3 e4;have⟨hmm,hfit⟩:=hs;have⟨hj,hcell⟩:=get hmm;have hlen:=QfY hsz (i:=j) (by omega);have hjs:es[j]?=some (es.getD j []):=by
        have:j<es.length:=by omega
        simp[List.getD,this]
       rw[hlen] at hfit;have hbig:j*sz+sz<=xs.length:=by rw[hxl];have:(j+1)*sz<=es.length*sz:=QOI sz (by omega);rw[QOU] at this;omega
       have:=(UP h ho hag hn hey (((es.getD j []).drop off).take n) ((xs.drop (j*sz+off)).take n) (by simp[-List.getD_eq_getElem?_getD,hlen];omega)
        (λu hu=>h1 u (QOW (QOJ hu))) (by simp[-List.getD_eq_getElem?_getD,hlen];omega) (by simp)
        (λk u hu=>by
          rw[QOS] at hu;split at hu
          .rename_i hk;rw[QPy] at hu;obtain⟨u',h2,h3⟩:=hcell (off+k) (by omega);grind
          cases hu)
        (λk z u hz hu=>by grind)).1 rfl
       exact⟨trivial,this⟩
      split at he
      .rename_i c hc;injection he with e1 e2 e3 e4;subst e1 e2 e3 e4;obtain⟨hmm,rfl⟩:=hs;have⟨hj,hcell⟩:=get hmm;have hlen:=QfY hsz (i:=j) (by omega);have hjs:es[j]?=some (es.getD j []):=by
        have:j<es.length:=by omega
        simp[List.getD,this]
       have hoff:off<sz:=by rw[<- hlen];exact(QNY.1 hc).1
       have⟨u,h2,h3⟩:=hcell off hoff
       have:=(UP h ho hag hn hey [c] [u] rfl (λu' hu=>h1 u' (by simp at hu;subst hu;exact QOh h3)) rfl (by simp)
        (λk u' hu=>by
          cases k with
          |zero=>simp at hu;subst hu;exact h2
          |succ k=>simp at hu)
        (λk z u' hz hu=>by grind)).2 rfl c rfl
       exact⟨trivial,this⟩
      cases he
    cases he
   cases he
  cases he
 .cases hf
end
section
variable{P:Program}{ok0:Nat->Prop}{N:Fm}{w0:XS}{lk:Nat->AV}{lo:Nat->Option AO}{a:Act}{w:World}{L:Nat->Lay}{o:Oper}
variable{s f:Prop}{v:AV}{up:Option (Nat×AO)}
def Xn{t sz}(h:Program.elemSize P t sz=true):∃e i,P.underlying t=some (.slice e)/\P.info? e=some i/\i.size=sz:=by unfold Program.elemSize Program.sizeIs at h;grind
def Wq{t e}{i:TypeInfo}{sz}(he:P.underlying t=some (.slice e))(hi:P.info? e=some i)(hs:i.size=sz)
  (b off len cap k j)(h0:0<=j)(h1:j.toNat<len):
  (Instr.indexAt t (.slice (some ⟨b,off,none⟩) len cap) (.int k j)).run P w=.ok (.pointer (some ⟨b,off+j.toNat*sz,none⟩)) w:=by
 have h2:0<=j/\j<(len:Int):=⟨h0,by omega⟩;simp[Instr.indexAt,asIntOf,run_underlying he,h2,sizeOf,typeInfo,hi,hs,addr_add]
def getD_some{α}{l:List α}{i}{d:α}(h:i<l.length):l[i]?=some (l.getD i d):=by simp[List.getD,h]
def Qvj{sz x i}(h:Rel ok0 N w0 lk lo a w L)(hf:QEH P sz x i o.op=true)
  (he:Qrv sz (x.av lk) (i.av lk)=.ok s f v up)(hs:s):f/\Q6 P o ok0 N w0 lk lo a w v up:=by
 unfold QEH at hf;split at hf
 .rename_i t x' i' ho;simp only[QNZ] at hf;have⟨⟨hx,hi⟩,hsz⟩:=hf;have⟨e,ti,hu,hti,hts⟩:=Xn hsz;have rx:=Opd.rep h hx;have ri:=Opd.rep h hi;generalize x.av lk=xv at rx he;generalize i.av lk=iv at ri he;generalize hey:a.eval x'=yv at rx;unfold Qrv at he;split at he
  .rename_i sz' es k j;cases he;obtain⟨rfl,h0,y9⟩:=hs;have hei:=Zw ri;cases rx with
   |iv _ _ r=>cases r with
    |nils=>simp at y9
    |nilz=>simp at y9
    |sl _ _ b off cap u hl hc hes hcell hxx=>
     refine⟨trivial,Q6.pure h (u:=.pointer (some ⟨b,off+j.toNat*sz',none⟩)) ?_ ?_⟩
     .simp only[execOp,ho,hey,hei,Sem.run_bind,Wq hu hti hts b off es.length cap k j h0 y9];rfl
     have hj:=getD_some (d:=[]) y9;have hlen:(es.getD j.toNat []).length=sz':=hes _ (QOh hj);refine .iv _ _ (.ptr _ b (off+j.toNat*sz') (λk=>u (j.toNat*sz'+k)) (λk hk=>?_) (λk z hz=>hxx _ _ _ _ hj hz));have:=hcell (j.toNat*sz'+k) (QcQ y9 (by omega));grind
  cases he
 .cases hf
def Qvi{id sz x i}(h:Rel ok0 N w0 lk lo a w L)(hf:QEH P sz x i o.op=true)
  (he:Qoz lo id sz (x.av lk) (i.av lk)=.ok s f v up)(hs:s):f/\Q6 P o ok0 N w0 lk lo a w v up:=by
 unfold QEH at hf;split at hf
 .rename_i t x' i' ho;simp only[QNZ] at hf;have⟨⟨hx,hi⟩,hsz⟩:=hf;have⟨e,ti,hu,hti,hts⟩:=Xn hsz;have rx:=Opd.rep h hx;have ri:=Opd.rep h hi;generalize x.av lk=xv at rx he;generalize i.av lk=iv at ri he;generalize hey:a.eval x'=yv at rx;unfold Qoz at he;split at he
  .rename_i i n k j;split at he
   .rename_i hid;subst hid;split at he
    .rename_i e' sz' es mv hob;cases he;obtain⟨rfl,h0,y9,hmv,hn⟩:=hs;have hei:=Zw ri
     have fin:∀b cap v xs,yv=.slice (some ⟨b,0,none⟩) n cap->L i=.arr v xs->(n=es.length->v.ownBlock=some b) ->(∀k,k<n*sz'->(okL ok0 lo L b\/v.ownBlock=some b)/\∃u,w.cell? ⟨b,k,none⟩=some u/\xs[k]?=some u) ->
       True/\Q6 P o ok0 N w0 lk lo a w (.yj i n j.toNat 0) none:=by
      intro b cap v xs hyv hL hown hcells;subst hyv;refine⟨trivial,Q6.pure h (u:=.pointer (some ⟨b,0+j.toNat*sz',none⟩)) ?_ ?_⟩
      .simp only[execOp,ho,hey,hei,Sem.run_bind,Wq hu hti hts b 0 n cap k j h0 y9];rfl
      rw[QOn];exact .yj i n j.toNat 0 e' sz' es mv v xs b hob hL hn λ_=>⟨y9,hown,hcells⟩
     have hor:=h.y8 _ _ hob;cases rx with
     |yl _ e2 sz2 es2 mv2 v2 xs hob2 hL hsl=>
      rw[hob] at hob2;injection hob2 with hob2;injection hob2 with g1 g2 g3 g4;subst g1 g2 g3 g4;rw[hL] at hor;have⟨hown,_,_,_,_⟩:=hor;rcases hown.own.2 with ⟨_,h00⟩|⟨g,cap,cur,hv,hB,hg,hnc,hcm,hcs,htake⟩
      .rw[h00] at y9;omega
      refine fin g cap yv xs hv hL (λ_=>by rw[hv];rfl) (λk hk=>⟨.inr (by rw[hv];rfl),?_⟩);have hk':k<xs.length:=by rw[hown.own.1];exact hk
      refine⟨xs[k],?_,QNX hk'⟩;have:=hown.own.cells (g:=g) (by rw[hv];rfl) k xs[k] (QNX hk')
      rwa [addr_add,QOn] at this
     |old _ _ e2 sz2 es2 mv2 v2 _ xs hob2 hL hsl hn2 hv=>rw[hob] at hob2;injection hob2 with hob2;injection hob2 with g1 g2 g3 g4;subst g1 g2 g3 g4;grind
    cases he
   cases he
  cases he
 .cases hf
def Qvh{x i}(h:Rel ok0 N w0 lk lo a w L)(hf:QI3 P x i o.op=true)
  (he:Qru (x.av lk) (i.av lk)=.ok s f v up)(hs:s):f/\Q6 P o ok0 N w0 lk lo a w v up:=by
 unfold QI3 at hf;split at hf
 .rename_i t x' i' ho;simp only[QNZ] at hf;have⟨⟨hx,hi⟩,ht⟩:=hf;have ht':P.underlying t=some .string:=by
   unfold ZP at ht;split at ht
   .rename_i e;exact e
   cases ht
  have rx:=Opd.rep h hx;have ri:=Opd.rep h hi;generalize x.av lk=xv at rx he;generalize i.av lk=iv at ri he;unfold Qru at he;split at he
  .rename_i st k j;cases he;have⟨h0,y9⟩:=hs;have hxs:=YM rx;have hei:=Zw ri;have hget:(⟨st.toArray⟩:ByteArray)[(j.toNat:Nat)]?=some (st.getD j.toNat 0):=by
    have hlt':j.toNat<(⟨st.toArray⟩:ByteArray).size:=y9;rw[getElem?_pos (⟨st.toArray⟩:ByteArray) j.toNat hlt'];congr 1;show st.toArray[j.toNat]=_;simp[List.getD,y9]
   refine⟨trivial,Q6.pure h (u:=.int .u8 (st.getD j.toNat 0).toNat) ?_ (ZH _ _)⟩;simp only[execOp,ho,hxs,hei,Instr.index,asIntOf,Sem.run_bind,Sem.run_pure,Result.andThen_ok,run_underlying ht',if_pos h0,hget]
  cases he
 .cases hf
def Qfy{st x}(hf:Qw6 P st x o.op=true):∃y t,o.op=.call { callee:=.builtin .len,args:=#[y],argTypes:=#[t] }/\x.is y=true /\(st=true->P.underlying t=some .string)/\(st=false->∃e,P.underlying t=some (.slice e)):=by
 unfold Qw6 at hf;split at hf
 .rename_i az ts ho;split at hf
  .rename_i y t has hts;simp only[QNZ] at hf;have⟨hx,ht⟩:=hf;have e1:az=#[y]:=by cases az;simp_all
   have e2:ts=#[t]:=by cases ts;simp_all
   refine⟨y,t,by rw[ho,e1,e2],hx,λe=>?_,λe=>?_⟩
   .subst e;unfold Qqn at ht;grind
   subst e;unfold Qqn at ht;grind
  cases hf
 .cases hf
def Qu8{x}(h:Rel ok0 N w0 lk lo a w L)(hf:Qw6 P true x o.op=true)
  (he:Qrs (x.av lk)=.ok s f v up):f/\Q6 P o ok0 N w0 lk lo a w v up:=by
 have⟨y,t,ho,hx,ht,_⟩:=Qfy hf;have rx:=Opd.rep h hx;generalize x.av lk=xv at rx he;unfold Qrs at he;split at he
 .rename_i l;cases he;have hey:=YM rx;have hsz:(⟨l.toArray⟩:ByteArray).size=l.length:=rfl;refine⟨trivial,Q6.pure h (u:=goInt l.length) ?_ (ZH _ _)⟩;simp[execOp,ho,resolve,invoke,builtin,hey,Builtin.len_,run_underlying (ht rfl),hsz]
 .cases he
def Qfz{y:Operand}{t e}(ho:o.op=.call { callee:=.builtin .len,args:=#[y],argTypes:=#[t] })(hu:P.underlying t=some (.slice e)){ad n c}
  (hy:a.eval y=.slice ad n c):(execOp a.eval o).run P w=.ok (.value (.int .i64 n)) w:=by
 simp[execOp,ho,resolve,invoke,builtin,hy,Builtin.len_,run_underlying hu,goInt]
def Qvd{x}(h:Rel ok0 N w0 lk lo a w L)(hf:Qw6 P false x o.op=true)
  (he:Qrt (x.av lk)=.ok s f v up):f/\Q6 P o ok0 N w0 lk lo a w v up:=by
 have⟨y,t,ho,hx,_,ht⟩:=Qfy hf;have⟨e,hu⟩:=ht rfl;have rx:=Opd.rep h hx;generalize x.av lk=xv at rx he;generalize hey:a.eval y=yv at rx;unfold Qrt at he;split at he
 .cases he;cases rx with
  |iv _ _ r=>cases r with
   |nils=>exact⟨by simp[maxLen],Q6.pure h (Qfz ho hu hey) (ZH _ _)⟩
   |nilz=>exact⟨by simp[maxLen],Q6.pure h (Qfz ho hu hey) (ZH _ _)⟩
   |sl _ _ b off cap u hl hc hes hcell hxx=>exact⟨by omega,Q6.pure h (Qfz ho hu hey) (ZH _ _)⟩
 .cases he
def QrO{id x}(h:Rel ok0 N w0 lk lo a w L)(hf:Qw6 P false x o.op=true)
  (he:QeG lo id (x.av lk)=.ok s f v up)(hs:s):f/\Q6 P o ok0 N w0 lk lo a w v up:=by
 have⟨y,t,ho,hx,_,ht⟩:=Qfy hf;have⟨e,hu⟩:=ht rfl;have rx:=Opd.rep h hx;generalize x.av lk=xv at rx he;generalize hey:a.eval y=yv at rx;have run:∀ad n c,yv=.slice ad n c->(execOp a.eval o).run P w=.ok (.value (.int .i64 n)) w:=λad n c hyv=>Qfz ho hu (hey.trans hyv);unfold QeG at he;split at he
 .rename_i i n;split at he
  .rename_i hii;subst hii;split at he
   .rename_i e' sz' es mv hob;cases he;have⟨hmv,hn⟩:=hs;have hor:=h.y8 _ _ hob;cases rx with
    |yl _ e2 sz2 es2 mv2 v2 xs hob2 hL hsl=>
     rw[hob] at hob2;injection hob2 with hob2;injection hob2 with g1 g2 g3 g4;subst g1 g2 g3 g4;rw[hL] at hor;have⟨hown,_,_,_,_⟩:=hor;rcases hown.own.2 with ⟨hv,h00⟩|⟨g,cap,cur,hv,hB,hg,hnc,hcm,hcs,htake⟩
     .refine⟨by rw[h00];simp[maxLen],Q6.pure h (run none es.length 0 (hv.trans (by rw[h00]))) (ZH _ _)⟩
     exact⟨by omega,Q6.pure h (run _ _ _ hv) (ZH _ _)⟩
    |old _ _ e2 sz2 es2 mv2 v2 _ xs hob2 hL hsl hn2 hv=>
     rw[hob] at hob2;injection hob2 with hob2;injection hob2 with g1 g2 g3 g4;subst g1 g2 g3 g4;rcases hv hmv with ⟨hv,h00⟩|⟨b,cap,hv',hnc,hcm,hcells⟩
     .exact⟨by rw[h00];simp[maxLen],Q6.pure h (run none n 0 (hv.trans (by rw[h00]))) (ZH _ _)⟩
     exact⟨by omega,Q6.pure h (run _ _ _ hv') (ZH _ _)⟩
   cases he
  cases he
 .cases he
def qK{n:Int}{m:Nat}{c:BoundsCode}{v:Value}{k:IntKind}(hv:v=.int k n)(h0:0<=n)(h1:n<=(m:Int)):(Instr.sliceBound v m c).run P w=.ok n.toNat w:=by subst hv;simp[Instr.sliceBound,asIntOf,h0,h1]
end
section
variable{P:Program}{ok0:Nat->Prop}{N:Fm}{w0:XS}{lk:Nat->AV}{lo:Nat->Option AO}{a:Act}{w:World}{L:Nat->Lay}{o:Oper}
variable{s f:Prop}{v:AV}{up:Option (Nat×AO)}
def Qhf{d x}{y:Option Operand}{n}(h:Rel ok0 N w0 lk lo a w L)(hxy:QdE x y=true)(e:Jf lk d x=some n):(y=none/\n=d)\/∃z k,y=some z/\a.eval z=.int k n:=by
 cases x with
 |none=>
  cases y with
  |none=>simp only[Jf,Option.some.injEq] at e;exact .inl ⟨rfl,e.symm⟩
  |some z=>simp[QdE] at hxy
 |some x=>
  cases y with
  |none=>simp[QdE] at hxy
  |some z=>
   simp only[QdE] at hxy;have r:=Opd.rep h hxy;simp only[Jf] at e;generalize x.av lk=xv at r e;split at e
   .rename_i k m;injection e with e;subst e;exact .inr ⟨z,k,rfl,Zw r⟩
   .cases e
def QeO{isS len cap lo' hi'}{low high:Option Operand}{l h'}(h:Rel ok0 N w0 lk lo a w L)
  (hl:QdE lo' low=true)(hh:QdE hi' high=true)(el:Jf lk 0 lo'=some l)(eh:Jf lk len hi'=some h')
  (h0:0<=l)(h1:l<=h')(h2:h'<=(len:Int))(hlc:len<=cap):
  (Instr.sliceBounds isS len cap (low.map a.eval) (high.map a.eval) none).run P w=.ok (l.toNat,h'.toNat,cap) w:=by
 have hc:h'<=(cap:Int):=by omega
 have hlh:l<=(h'.toNat:Int):=by omega
 rcases Qhf h hl el with ⟨rfl,rfl⟩|⟨z,k,rfl,hz⟩<;>rcases Qhf h hh eh with ⟨rfl,rfl⟩|⟨z',k',rfl,hz'⟩
 .simp[Instr.sliceBounds]
 .simp[Instr.sliceBounds,hz',qK (P:=P) (w:=w) (k:=k') rfl (by omega) hc]
 .have hll:l<=((len:Nat):Int):=h1;simp[Instr.sliceBounds,hz,qK (P:=P) (w:=w) (k:=k) rfl h0 hll]
 .simp[Instr.sliceBounds,hz,hz',qK (P:=P) (w:=w) (k:=k') rfl (by omega) hc,qK (P:=P) (w:=w) (k:=k) rfl h0 hlh]
def QuY{x l h'}(h:Rel ok0 N w0 lk lo a w L)(hf:QIY P x l h' o.op=true)
  (he:Qow lk l h' (x.av lk)=.ok s f v up)(hs:s):f/\Q6 P o ok0 N w0 lk lo a w v up:=by
 unfold QIY at hf;split at hf
 .rename_i t x' low high ho;simp only[QNZ] at hf;have⟨⟨⟨hx,hl⟩,hh⟩,ht⟩:=hf;have ht':P.underlying t=some .string:=by
   unfold ZP at ht;split at ht
   .rename_i e;exact e
   cases ht
  have rx:=Opd.rep h hx;generalize x.av lk=xv at rx he;unfold Qow at he;split at he
  .rename_i st;split at he
   .rename_i ln hn el eh;cases he;have⟨h0,h1,h2⟩:=hs;have hxs:=YM rx;have hb:=QeO (P:=P) (isS:=false) (cap:=st.length) h hl hh el eh h0 h1 h2 (QN3 _);have hsz:(⟨st.toArray⟩:ByteArray).size=st.length:=rfl;have hex:(⟨st.toArray⟩:ByteArray).extract ln.toNat hn.toNat=⟨((st.take hn.toNat).drop ln.toNat).toArray⟩:=by
     apply ByteArray.ext;rw[ByteArray.data_extract];apply Array.ext';simp[List.drop_take]
    refine⟨trivial,Q6.pure h (u:=.string ⟨((st.take hn.toNat).drop ln.toNat).toArray⟩) ?_ (Vp _)⟩;simp only[execOp,ho,Instr.sliceAt,Sem.run_bind,run_underlying ht',Result.andThen_ok,hxs,Instr.slice,hsz,Option.map_none,Option.isSome_none,QOo,if_false,Sem.run_pure,hb,hex]
   cases he
  cases he
 .cases hf
def QuZ{sz x l h'}(h:Rel ok0 N w0 lk lo a w L)(hf:QIZ P sz x l h' o.op=true)
  (he:Qox sz lk l h' (x.av lk)=.ok s f v up)(hs:s):f/\Q6 P o ok0 N w0 lk lo a w v up:=by
 unfold QIZ at hf;split at hf
 .rename_i t x' low high ho;simp only[QNZ] at hf;have⟨⟨⟨hx,hl⟩,hh⟩,ht⟩:=hf;have⟨e,ti,hu,hti,hts⟩:=Xn ht;have rx:=Opd.rep h hx;generalize x.av lk=xv at rx he;generalize hey:a.eval x'=yv at rx;unfold Qox at he;split at he
  .rename_i sz' es;split at he
   .rename_i ln hn el eh;cases he;obtain⟨rfl,h0,h1,h2⟩:=hs
    have run:∀ad cap,es.length<=cap->yv=.slice ad es.length cap->(execOp a.eval o).run P w =
      .ok (.value (.slice (if cap=ln.toNat then ad else ad.map (·.add (ln.toNat*sz'))) (hn.toNat-ln.toNat) (cap-ln.toNat))) w:=by
     intro ad cap hc hyv;have hb:=QeO (P:=P) (isS:=true) (cap:=cap) h hl hh el eh h0 h1 h2 hc;simp only[execOp,ho,Instr.sliceAt,Sem.run_bind,run_underlying hu,Result.andThen_ok,hey,hyv,Instr.slice,Option.map_none,hb,sizeOf,typeInfo,program,Sem.run,hti,Sem.run_pure,hts]
    have hlen:((es.take hn.toNat).drop ln.toNat).length=hn.toNat-ln.toNat:=by simp;omega
    cases rx with
    |iv _ _ r=>cases r with
     |nils=>
      simp only[QOE] at h2;have e1:ln.toNat=0:=by omega
      have e2:hn.toNat=0:=by omega
      have:=run none 0 (by simp) rfl;rw[e1,e2] at this;refine⟨by simp[maxLen],Q6.pure h (u:=.slice none 0 0) (by simpa using this) ?_⟩;rw[e1,e2];exact .iv _ _ (.nils sz')
     |nilz _ a0=>
      simp only[QOE] at h2;have e1:ln.toNat=0:=by omega
      have e2:hn.toNat=0:=by omega
      have:=run (some a0) 0 (by simp) rfl;rw[e1,e2] at this;refine⟨by simp[maxLen],Q6.pure h (u:=.slice (some a0) 0 0) (by simpa using this) ?_⟩;rw[e1,e2];exact .iv _ _ (.nilz sz' a0)
     |sl _ _ b off cap u hlc hcm hes hcell hxx=>
      refine⟨by omega,?_⟩;have hr:=run _ cap hlc rfl;by_cases hcl:cap=ln.toNat
      .rw[if_pos hcl] at hr;have he0:(es.take hn.toNat).drop ln.toNat=[]:=QN4 (by rw[hlen];omega);have hn0:hn.toNat-ln.toNat=0:=by omega
       rw[hn0] at hr;apply Q6.pure h hr;rw[he0];exact .iv _ _ (.sl sz' [] b off _ u (by simp) (by omega) (by simp) (by simp) (by simp))
      rw[if_neg hcl] at hr;rw[QPf,addr_add] at hr;rw[<- hlen] at hr;refine Q6.pure h hr (.iv _ _ (.sl sz' _ b (off+ln.toNat*sz') _ (λk=>u (ln.toNat*sz'+k)) ?_ (by omega) (λc hc=>hes c (QOJ (QOW hc))) (λk hk=>?_) (λi j c z hi hj=>?_)))
      .rw[hlen];omega
      .rw[hlen] at hk;have hb:ln.toNat*sz'+k<es.length*sz':=by
        have h3:(ln.toNat+(hn.toNat-ln.toNat))*sz'<=es.length*sz':=QOI sz' (by omega);rw[QOU] at h3;omega
       grind
      grind
   cases he
  cases he
 .cases hf
end
section
variable{P:Program}{ok0:Nat->Prop}{N:Fm}{w0:XS}{lk:Nat->AV}{lo:Nat->Option AO}{a:Act}{w:World}{L:Nat->Lay}{o:Oper}
variable{s f:Prop}{v:AV}{up:Option (Nat×AO)}
def QhC{t}(h:Wz P t=true):∃e,P.underlying t=some (.slice e)/\P.underlying e=some (.int .u8):=by
 unfold Wz at h;split at h
 .rename_i e he;refine⟨e,he,?_⟩;have:Qaq P e=some .u8:=by simpa using h
  unfold Qaq at this;grind
 .cases h
def QlY{c n}(h:byteOf c=some n):c=[.int .u8 n]:=by
 unfold byteOf at h;split at h
 .injection h with h;rw[h]
 .cases h
theorem Qa9:∀{es:List (List IV)}{ns:List Int},bytesOf es=some ns->es.length=ns.length/\∀(k:Nat)(c:List IV),es[k]?=some c->∃n:Int,c=[.int .u8 n]/\ns[k]?=some n
 |[],ns,h=>by simp[bytesOf] at h;subst h;simp
 |c::r,ns,h=>by
  unfold bytesOf at h;split at h
  .rename_i n ns' h1 h2;injection h with h;subst h;have⟨h3,h4⟩:=Qa9 h2;refine⟨by simp[h3],λk d hd=>?_⟩;cases k with
   |zero=>simp at hd;subst hd;exact⟨n,QlY h1,by simp⟩
   |succ k=>simpa using h4 k d (by simpa using hd)
  .cases h
def Qvy{x:Opd}(h:Rel ok0 N w0 lk lo a w L)(hf:QJb P x o.op=true)
  (he:Qrz (x.av lk)=.ok s f v up)(hs:s):f/\Q6 P o ok0 N w0 lk lo a w v up:=by
 unfold QJb at hf;split at hf
 .rename_i sT d y ho;simp only[QNZ] at hf;have⟨⟨hx,hsb⟩,hd⟩:=hf;have⟨e,hse,hee⟩:=QhC hsb;have hd':P.underlying d=some .string:=by
   unfold ZP at hd;split at hd
   .rename_i hk;exact hk
   cases hd
  have rx:=Opd.rep h hx;generalize x.av lk=xv at rx he;generalize hey:a.eval y=yv at rx;unfold Qrz at he;split at he
  .rename_i sz es;split at he
   .rename_i ns hns;cases he;have⟨hlen,hel⟩:=Qa9 hns;cases rx with
    |iv _ _ r=>cases r with
     |nils=>have:ns=[]:=QN4 (by simpa using hlen.symm);subst this;refine⟨trivial,Q6.pure h (u:=.string ⟨[].toArray⟩) ?_ (Vp _)⟩;have hc:=run_convert_bytes_string (P:=P) w sT d e none 0 0 hse hee hd';simp only[execOp,ho,hey,Sem.run_bind,hc];simp[Conv.bytesToString];rfl
     |nilz _ a0=>have:ns=[]:=QN4 (by simpa using hlen.symm);subst this;refine⟨trivial,Q6.pure h (u:=.string ⟨[].toArray⟩) ?_ (Vp _)⟩;have hc:=run_convert_bytes_back (P:=P) w sT d e a0 0 [] hse hee hd' (λj hj=>by simp at hj);simp only[QOE] at hc;simp only[execOp,ho,hey,Sem.run_bind,hc];rfl
     |sl _ _ b off cap u hl hc hes hcell hxx=>
      refine⟨trivial,Q6.pure h (u:=.string ⟨(YV ns).toArray⟩) ?_ (Vp _)⟩;have hszz:∀i,i<es.length->sz=1:=by intro i hi;have⟨n,hn,_⟩:=hel i es[i] (QNX hi);have:=hes es[i] (QN0 hi);rw[hn] at this;exact this.symm
      have hbl:(YV ns).length=es.length:=by simp[YV,hlen]
      have hback:=run_convert_bytes_back (P:=P) w sT d e ⟨b,off,none⟩ cap (YV ns) hse hee hd' (λj hj=>by
       rw[hbl] at hj;have⟨n,hn,hb⟩:=hel j es[j] (QNX hj);have hsz1:=hszz j hj;have hr:=hxx j 0 es[j] (.int .u8 n) (QNX hj) (by rw[hn];rfl);rw[hsz1,QPF,QPd] at hr;have huj:u j=.int .u8 n:=Zw (lo:=lo) (L:=L) (.iv _ _ hr);have hcj:=(hcell j (by rw[hsz1];omega)).2.1;rw[addr_add,hcj,huj]
       have hnj:ns[j]'(by omega)=n:=by have:=QNY.1 hb;exact this.2
       have hin:=hs n (QOh hb);have:(YV ns)[j]=UInt8.ofNat n.toNat:=by simp[YV,hnj]
       rw[this]
       congr 2;have:n.toNat<256:=by omega
       simp[Nat.mod_eq_of_lt this];omega)
      rw[hbl] at hback;simp only[execOp,ho,hey,Sem.run_bind,hback];rfl
   cases he
  cases he
 .cases hf
def Qvo{x}(h:Rel ok0 N w0 lk lo a w L)(hf:QI5 P x o.op=true)
  (he:Qrw (x.av lk)=.ok s f v up)(hs:s):f/\Q6 P o ok0 N w0 lk lo a w v up:=by
 unfold QI5 at hf;split at hf
 .rename_i sT d y ho;simp only[QNZ] at hf;have⟨⟨hx,hsm⟩,hd⟩:=hf;have hd':P.underlying d=some .string:=by
   unfold ZP at hd;split at hd
   .rename_i hk;exact hk
   cases hd
  have rx:=Opd.rep h hx;generalize x.av lk=xv at rx he;unfold Qrw at he;split at he
  .rename_i k n;cases he;have hx:=Zw rx;refine⟨trivial,Q6.pure h (u:=.string ⟨[UInt8.ofNat n.toNat].toArray⟩) ?_ (Vp _)⟩;have⟨ds,hds⟩:=QOC.1 hsm;have hval:Utf8.valid n=true:=by simp[Utf8.valid];omega
   have y9:n.toNat<0x80:=by omega
   have henc:Utf8.encode n=⟨#[UInt8.ofNat n.toNat]⟩:=by simp[Utf8.encode,hval,y9]
   simp[execOp,ho,hx,convert,run_underlying hds,run_underlying hd',Conv.intToString,henc]
  cases he
 .cases hf
def QF(w ob):Below w.heap.size w (w.alloc ob):=(Below.refl _ _).alloc (QN3 _) ob
def Ys(w:World)(vs:List Value)(t:TypeId)(k:Nat)(u:Value)(h:vs[k]?=some u):(w.alloc (.cells vs.toArray t)).cell? ⟨w.heap.size,k,none⟩=some u:=by rw[cell_of_row _ _ _ _ t (0,0) (heap_alloc_new w _)];simpa using h
def Qan{ok:Nat->Prop}{lo:Nat->Option AO}{L:Nat->Lay}{cs:List AV}{xs:List IV}{vs:List Value}(hc:ivs cs=some xs)(hl:vs.length=cs.length)
  (hx:∀(k:Nat)x u,cs[k]?=some x->vs[k]?=some u->QG ok w lo L x u):
  vs.length=xs.length/\∀(k:Nat)x u,xs[k]?=some x->vs[k]?=some u->QZ ok w x u:=by
 have:=qk hc;subst this;refine⟨by simpa using hl,λk x u h1 h2=>?_⟩;have:=hx k (.iv x) u (by simp[h1]) h2;cases this;assumption
def QrR{x:Opd}(h:Rel ok0 N w0 lk lo a w L)(hok0:∀b,¬w0.fr b->ok0 b)(hf:QEI x o.op=true)
  (he:Qh6 (x.av lk)=.ok s f v up):f/\Q6 P o ok0 N w0 lk lo a w v up:=by
 unfold QEI at hf;split at hf
 .rename_i t y ho;have rx:=Opd.rep h hf;generalize x.av lk=xv at rx he;generalize hey:a.eval y=yv at rx;unfold Qh6 at he;split at he
  .rename_i cs hcs;split at he
   .rename_i xs hxs;cases he;have⟨vs,hv,hl,h1,hx⟩:=Qcl rx hcs;have⟨hl2,hx2⟩:=Qan hxs hl hx;have hrel:=h.ext (QF w (.cells vs.toArray t));refine⟨trivial,_,.pointer (some ⟨w.heap.size,0,none⟩),_,L,?_,.inl rfl,hrel,?_⟩
    .simp only[execOp,ho,hey,Instr.box,newVar,newRow,newObj,Sem.run_bind,hv,Sem.run,Result.andThen_ok,Sem.run_pure];rfl
    have hnew:okL ok0 lo L w.heap.size:=⟨hok0 _ (h.frlt (QN3 _)),λid ob hob hb=>by have:=((h.y8 id ob hob).lt hb).2;omega⟩
    refine .iv _ _ (.ptr xs w.heap.size 0 (λk=>vs.getD k undef) (λk hk=>?_) (λk z hz=>?_))
    .have hk':k<vs.length:=by omega
     refine⟨hnew,?_,h1 _ ?_⟩
     .rw[QOn]
      exact Ys w vs t k _ (getD_some hk')
     exact QOh (getD_some (d:=undef) hk')
    have hk:k<vs.length:=by rw[hl2];exact(QNY.1 hz).1
    refine(hx2 k z _ hz (getD_some hk)).mono λb hb y9=>⟨hb,(QF w _).block b y9⟩
   cases he
  cases he
 .cases hf
def Rel.newBox{id:Nat}{cs:List AV}{vs:List Value}{t:TypeId}(h:Rel ok0 N w0 lk lo a w L)(hid:lo id=none)(hl:vs.length=cs.length)(h1:∀u∈vs,u.oneCell'=true)
  (hx:∀(k:Nat)x u,cs[k]?=some x->vs[k]?=some u->QG (okL ok0 lo L) w lo L x u):
  Rel ok0 N w0 lk (Zn lo id (.box cs)) a (w.alloc (.cells vs.toArray t)) (Q7 L id (.box w.heap.size)):=by
 have hb:=QF w (.cells vs.toArray t);have hok:∀b,okL ok0 lo L b->b<w.heap.size->okL ok0 (Zn lo id (.box cs)) (Q7 L id (.box w.heap.size)) b:=by grind
 refine h.new id hid _ _ hb (λb hb=>by simp only[Lay.has] at hb;omega) ?_;refine⟨h.frlt (QN3 _),t,vs,heap_alloc_new w _,hl,h1,λk x u h2 h3=>(hx k x u h2 h3).ext hok hb.block λi o' hi=>?_⟩;grind
def QrQ{id:Nat}{x:Opd}(h:Rel ok0 N w0 lk lo a w L)(hf:QEI x o.op=true)
  (he:QeH lo id (x.av lk)=.ok s f v up):f/\Q6 P o ok0 N w0 lk lo a w v up:=by
 unfold QEI at hf;split at hf
 .rename_i t y ho;have rx:=Opd.rep h hf;generalize x.av lk=xv at rx he;generalize hey:a.eval y=yv at rx;unfold QeH at he;split at he
  .rename_i cs hcs hid;cases he;have⟨vs,hv,hl,h1,hx⟩:=Qcl rx hcs;refine⟨trivial,_,.pointer (some ⟨w.heap.size,0,none⟩),_,_,?_,.inl rfl,h.newBox (t:=t) hid hl h1 hx,?_⟩
   .simp only[execOp,ho,hey,Instr.box,newVar,newRow,newObj,Sem.run_bind,hv,Sem.run,Result.andThen_ok,Sem.run_pure];rfl
   exact .loc id 0 cs w.heap.size (by simp[upO,Zn]) (by simp[Q7])
  cases he
 .cases hf
theorem XV{ok lk}:∀{zs vs},Vi zs vs=true->vs.length=(zs.map (·.av lk)).length /\
  ∀(k:Nat)x u,(zs.map (·.av lk))[k]?=some x->vs[k]?=some u->QG ok w lo L x u/\u.oneCell'=true
 |[],[],_=>by simp
 |x::r,v::s,h=>by
  simp only[Vi,QNZ] at h;have⟨h1,h2⟩:=XV (ok:=ok) (lk:=lk) h.2;refine⟨by simpa using h1,λk y u hy hu=>?_⟩;cases k with
  |zero=>simp at hy hu;subst hy hu;refine⟨Opd.repVal h.1,?_⟩;have:=h.1;unfold Opd.isVal at this;cases v<;>first|rfl|(cases x<;>simp[isI,isB,isS,isN,isP,isM,QIF] at this)
  |succ k=>exact h2 k y u (by simpa using hy) (by simpa using hu)
 |[],_::_,h=>by simp[Vi] at h
 |_::_,[],h=>by simp[Vi] at h
def Vj{t zs}(h:Program.zeroIs P t zs=true):∃i z,P.info? t=some i/\i.zero=some z/\Vi zs z.cells.toList=true/\i.size=zs.length:=by unfold Program.zeroIs at h;grind
def QvA{id:Nat}{zs:List Opd}(h:Rel ok0 N w0 lk lo a w L)(hid:lo id=none)(hf:QJc P zs o.op=true):
  Q6 P o ok0 N w0 lk lo a w (.loc id 0) (some (id,.box (zs.map (·.av lk)))):=by
 unfold QJc at hf;split at hf
 .rename_i t ho;have⟨i,z,hi,hz,hzs,_⟩:=Vj hf;have⟨hl,hx⟩:=XV (w:=w) (lo:=lo) (L:=L) (ok:=okL ok0 lo L) (lk:=lk) hzs;have h1:∀u∈z.cells.toList,u.oneCell'=true:=by
   intro u hu;obtain⟨k,hk,rfl⟩:=QON hu;have hk2:k<(zs.map (·.av lk)).length:=by omega
   exact(hx k _ _ (QNX hk2) (QNX hk)).2
  refine⟨_,.pointer (some ⟨w.heap.size,0,none⟩),_,_,?_,.inl rfl,h.newBox (t:=t) hid hl h1 (λk x u h2 h3=>(hx k x u h2 h3).1),?_⟩
  .simp only[execOp,ho,Instr.alloc,zeroValue,typeInfo,program,Sem.run_bind,Sem.run,hi,hz,Result.andThen_ok,Sem.run_pure,newVar,newRow,newObj,Array.toArray_toList];rfl
  exact .loc id 0 (zs.map (·.av lk)) w.heap.size (by simp[upO,Zn]) (by simp[Q7])
 .cases hf
def QrK{id e sz}(h:Rel ok0 N w0 lk lo a w L)(hid:lo id=none)(hf:QI1 o.op=true):Q6 P o ok0 N w0 lk lo a w (.yl id 0) (some (id,.arr e sz [] 0)):=by
 have fin:∀y,Opd.is (.nil 0) y=true->(execOp a.eval o).run P w=.ok (.value (a.eval y)) w->Q6 P o ok0 N w0 lk lo a w (.yl id 0) (some (id,.arr e sz [] 0)):=by
  intro y hy hr;have hv:a.eval y=.slice none 0 0:=by
   cases y with
   |tmp m=>simp[Opd.is,Opd.isTmp] at hy
   |const c=>
    simp only[Opd.is,Opd.isVal] at hy;unfold isN at hy;split at hy
    .simp only[QNZ,beq_iff_eq] at hy;rw[hy.1,hy.2];rfl
    cases hy
   |global g=>simp[Opd.is] at hy
   |func g=>simp[Opd.is,Opd.isFn] at hy
  refine⟨_,.slice none 0 0,w,Q7 L id (.arr (.slice none 0 0) []),(hv▸hr),.inl rfl,?_,?_⟩
  .exact h.new id hid _ _ (Below.refl _ _) (by simp[Lay.has,Value.ownBlock]) ⟨⟨World.ownsRow_nil w _ e sz,by simp[Value.ownBlock]⟩,QPk _,by simp,by simp,by simp⟩
  exact .yl id e sz [] 0 _ [] (by simp[upO,Zn]) (by simp[Q7]) rfl
 unfold QI1 at hf;split at hf
 .rename_i y ho;exact fin y hf (by simp[execOp,ho])
 .rename_i y ho;exact fin y hf (by simp[execOp,ho])
 .cases hf
end
def J1{α}(l vs:List α)(o k)(h:o+vs.length<=l.length):
  (l.take o++vs++l.drop (o+vs.length))[k]?=if k<o then l[k]? else if k<o+vs.length then vs[k-o]? else l[k]?:=by
 grind
def Y2{α}(l vs:List α)(o)(h:o+vs.length<=l.length):(l.take o++vs++l.drop (o+vs.length)).length=l.length:=by simp;omega
theorem Qc1(off:Nat):∀(vs:List Value)(i:Nat)(cur:Array Value),off+i+vs.length<=cur.size ->
  ((vs.zipIdx i).foldl (λcs p=>cs.setIfInBounds (off+p.2) p.1) cur)=(cur.toList.take (off+i)++vs++cur.toList.drop (off+i+vs.length)).toArray
 |[],i,cur,_=>by simp
 |v::r,i,cur,h=>by simp only[List.zipIdx_cons,QOP];rw[Qc1 off r (i+1) (cur.setIfInBounds (off+i) v) (by simp at h |-;omega)];congr 1;have e:=list_seg_step cur.toList (off+i) v r (by simp at h |-;omega);simpa[Array.toList_setIfInBounds,QPa] using e
section
variable{P:Program}{ok0:Nat->Prop}{N:Fm}{w0:XS}{lk:Nat->AV}{lo:Nat->Option AO}{a:Act}{w:World}{L:Nat->Lay}{o:Oper}
variable{s f:Prop}{v:AV}{up:Option (Nat×AO)}
def Qxl(ok:Nat->Prop)(w:World)(lo:Nat->Option AO)(L:Nat->Lay)(cs:List AV)(vs:List Value):Prop:=vs.length=cs.length/\(∀u∈vs,u.oneCell'=true)/\∀(k:Nat)x u,cs[k]?=some x->vs[k]?=some u->QG ok w lo L x u
def Qxl.splice{ok cs ds vs us}(h:Qxl ok w lo L cs vs)(h':Qxl ok w lo L ds us){o}(ho:o+ds.length<=cs.length):Qxl ok w lo L (cs.take o++ds++cs.drop (o+ds.length)) (vs.take o++us++vs.drop (o+us.length)):=by
 have⟨h1,h2,h3⟩:=h;have⟨h4,h5,h6⟩:=h';refine⟨?_,?_,λk x u hx hu=>?_⟩
 all_goals grind
def UJ{ok x v cs}(h:QG ok w lo L x v)(hc:x.cells=some cs):∃vs,v.cells=vs.toArray/\Qxl ok w lo L cs vs:=by have⟨vs,h1,h2,h3,h4⟩:=Qcl h hc;exact⟨vs,h1,h2,h3,h4⟩
theorem Qc4(h:Rel ok0 N w0 lk lo a w L)(place:Nat->Option (Nat×Nat)):∀(parts:List (Nat×Nat×Opd))(ps:List (Nat×Operand))(cs cs':List AV)(cur:List Value),Vr place parts ps=true->Qj6 cs (parts.map λ(o,s,x)=>(o,s,x.av lk))=some cs'->Qxl (okL ok0 lo L) w lo L cs cur ->
  ∃cur',Instr.fill place cur.toArray (ps.map λ(i,x)=>(i,a.eval x))=some (List.toArray cur')/\Qxl (okL ok0 lo L) w lo L cs' cur'
 |[],[],cs,cs',cur,_,hf,hr=>by simp[Qj6] at hf;subst hf;exact⟨cur,by simp[Instr.fill],hr⟩
 |(off,sz,x)::r,(i,y)::t,cs,cs',cur,hp,hf,hr=>by
  simp only[Vr,QNZ] at hp;obtain⟨⟨hpl,hx⟩,hp⟩:=hp;split at hpl
  .rename_i o z hpi;simp only[QNZ,beq_iff_eq] at hpl;obtain⟨rfl,rfl⟩:=hpl;simp only[QOk,Qj6] at hf;split at hf
   .rename_i vs hvs;split at hf
    .rename_i hc;obtain⟨rfl,hfit⟩:=hc;have⟨us,hus,hru⟩:=UJ (Opd.rep h hx) hvs;have⟨cur',h1,h2⟩:=Qc4 h place r t _ cs' _ hp hf (hr.splice hru hfit);refine⟨cur',?_,h2⟩;have hsz:us.length=vs.length:=hru.1;have hcl:cur.length=cs.length:=hr.1;simp only[QOk,Instr.fill,hpi,hus,QPs,hsz,ne_eq,not_true_eq_false,decide_false,Bool.false_or,gt_iff_lt,decide_eq_true_eq];rw[if_neg (by omega),<- h1];congr 1;have:=Qc1 o us 0 cur.toArray (by simp;omega);simp only[QPd] at this;rw[<- this];simp
    cases hf
   cases hf
  cases hpl
 |[],_::_,_,_,_,hp,_,_=>by simp[Vr] at hp
 |_::_,[],_,_,_,hp,_,_=>by simp[Vr] at hp
def Qvw{zs parts cs}(h:Rel ok0 N w0 lk lo a w L)(hf:QI9 P zs parts o.op=true)
  (he:Qj6 (zs.map (·.av lk)) (parts.map λ(o,s,x)=>(o,s,x.av lk))=some cs):Q6 P o ok0 N w0 lk lo a w (Qcx cs) none:=by
 unfold QI9 at hf;split at hf
 .rename_i t ps ho;simp only[QNZ] at hf;have⟨hz,hb⟩:=hf;have⟨i,z,hi,hzz,hzs,_⟩:=Vj hz;have⟨hl,hx⟩:=XV (w:=w) (lo:=lo) (L:=L) (ok:=okL ok0 lo L) (lk:=lk) hzs;have h1:∀u∈z.cells.toList,u.oneCell'=true:=by
   intro u hu;obtain⟨k,hk,rfl⟩:=QON hu;have hk2:k<(zs.map (·.av lk)).length:=by omega
   exact(hx k _ _ (QNX hk2) (QNX hk)).2
  unfold QsS QmA at hb;split at hb
  .rename_i places hpl;split at hpl
   .rename_i fields hu;have⟨cur',h2,h3⟩:=Qc4 h _ parts ps.toList _ cs z.cells.toList hb he ⟨hl,h1,λk x u a b=>(hx k x u a b).1⟩;have hbuilt:P.built t (ps.toList.map λ(i,x)=>(i,a.eval x))=some cur'.toArray:=by
     unfold Program.built;simp only[hi,hu,hzz,hpl];simpa using h2
    have hrun:=run_build (P:=P) w t (ps.map λ(i,x)=>(i,a.eval x)) cur'.toArray (by simpa using hbuilt);exact Q6.pure h (u:=.agg cur'.toArray) (by simp only[execOp,ho,Sem.run_bind,hrun,Result.andThen_ok,Sem.run_pure]) (Ue h3.1 h3.2.1 h3.2.2)
   cases hpl
  split at hb
  .rename_i n e hu;split at hb
   .rename_i ie hie;have⟨cur',h2,h3⟩:=Qc4 h _ parts ps.toList _ cs z.cells.toList hb he ⟨hl,h1,λk x u a b=>(hx k x u a b).1⟩;have hbuilt:P.built t (ps.toList.map λ(i,x)=>(i,a.eval x))=some cur'.toArray:=by
     unfold Program.built;simp only[hi,hu,hzz,hie];simpa using h2
    have hrun:=run_build (P:=P) w t (ps.map λ(i,x)=>(i,a.eval x)) cur'.toArray (by simpa using hbuilt);exact Q6.pure h (u:=.agg cur'.toArray) (by simp only[execOp,ho,Sem.run_bind,hrun,Result.andThen_ok,Sem.run_pure]) (Ue h3.1 h3.2.1 h3.2.2)
   cases hb
  cases hb
 .cases hf
theorem Qfd(h:Rel ok0 N w0 lk lo a w L)(sz:Nat):∀(parts:List Opd)(ps:List (Nat×Operand))(k:Nat)(rows:List (List AV))(done rest:List Value),
  QaS k parts ps=true->XE sz (parts.map (·.av lk))=some rows->done.length=k*sz->rest.length=parts.length*sz ->
  ∃news,Instr.fill (λi=>some (i*sz,sz)) (done++rest).toArray (ps.map λ(i,x)=>(i,a.eval x))=some (List.toArray (done++news))/\news=(ps.map λp=>(a.eval p.2).cells.toList).flatten/\news.length=parts.length*sz /\
   (∀u∈news,u.oneCell'=true)/\rows.length=parts.length/\(∀c∈rows,c.length=sz) /\
   ∀(i j:Nat)(c:List AV)(x:AV)(u:Value),rows[i]?=some c->c[j]?=some x->news[i*sz+j]?=some u->QG (okL ok0 lo L) w lo L x u
 |[],[],k,rows,done,rest,_,hr,_,hl=>by simp[XE] at hr;subst hr;have:rest=[]:=QN4 (by simpa using hl);subst this;exact⟨[],by simp[Instr.fill],by simp,by simp,by simp,rfl,by simp,by simp⟩
 |x::r,(i,y)::t,k,rows,done,rest,hs,hr,hd,hl=>by
  simp only[QaS,QNZ,beq_iff_eq] at hs;obtain⟨⟨rfl,hx⟩,hs⟩:=hs;simp only[QOk,XE] at hr;split at hr
  .rename_i c cs hc hcs;split at hr
   .rename_i hcl;injection hr with hr;subst hr;have⟨us,hus,hru⟩:=UJ (Opd.rep h hx) hc;have hul:us.length=sz:=hru.1.trans hcl;have hrl:rest.length=sz+r.length*sz:=by rw[hl,QOi,QOU];omega
    have hdu:(done++us).length=(i+1)*sz:=by simp[hd,hul,QOU]
    obtain⟨news,h1,hn,h2,h3,h4,h5,h6⟩:=Qfd h sz r t (i+1) cs (done++us) (rest.drop sz) hs hcs hdu (by simp[hrl]);refine⟨us++news,?_,by simp[hus,hn],by rw[QOf,h2,hul,QOi,QOU];omega,?_,by simp[h4],?_,?_⟩
    .simp only[QOk,Instr.fill,hus,QPs,hul,ne_eq,not_true_eq_false,decide_false,Bool.false_or,gt_iff_lt,decide_eq_true_eq];rw[if_neg (by simp[hd,hrl];try omega)]
     rw[<- QPc,<- h1]
     congr 1;have:=Qc1 (i*sz) us 0 (done++rest).toArray (by simp[hd,hrl,hul]);simp only[QPd] at this;have e1:(done++rest).toArray.toList.take (i*sz)=done:=by simp[<- hd]
     have e2:(done++rest).toArray.toList.drop (i*sz+us.length)=rest.drop sz:=by rw[hul,<- hd,List.drop_append];simp
     rw[e1,e2] at this;rw[<- this];simp
    .intro u hu;rcases QOc.1 hu with hu|hu
     .exact hru.2.1 u hu
     exact h3 u hu
    .grind
    intro i' j c' z u hi hj hu;cases i' with
    |zero=>
     simp only[List.getElem?_cons_zero,Option.some.injEq] at hi;subst hi;have hjl:j<us.length:=by rw[hul,<- hcl];exact(QNY.1 hj).1
     rw[Nat.zero_mul,QOn,QOs hjl] at hu;exact hru.2.2 j z u hj hu
    |succ i'=>simp only[List.getElem?_cons_succ] at hi;rw[QOm (by rw[hul,QOU];omega)] at hu;refine h6 i' j c' z u hi hj ?_;grind
   cases hr
  cases hr
 |[],_::_,_,_,_,_,hs,_,_,_=>by simp[QaS] at hs
 |_::_,[],_,_,_,_,hs,_,_,_=>by simp[QaS] at hs
def Qdz{t e:TypeId}{i:TypeInfo}{sz:Nat}(hu:P.underlying t=some (.slice e))(hi:P.info? e=some i)(hs:i.size=sz)(hz:i.zero.isSome=true)
  (n:Nat)(hn:n*sz<=65536)(parts:Array (Nat×Value))(cells:Array Value)
  (hfill:∀zs:List Value,zs.length=n*sz->Instr.fill (λi=>some (i*sz,sz)) zs.toArray parts.toList=some cells):
  (Instr.buildSlice t n parts).run P w=.ok (.slice (some ⟨w.heap.size,0,none⟩) n n) (w.alloc (.cells cells e)):=by
 obtain⟨z,hz⟩:=QOC.1 hz;have hbig:¬(n*sz>2 ^ 24):=by omega
 have key:∀zero:Array Value,Instr.fill (λi=>some (i*sz,sz)) ((Array.range (n*sz)).map (zero[· % zero.size]!)) parts.toList=some cells:=by
  intro zero;have:=hfill ((Array.range (n*sz)).map (zero[· % zero.size]!)).toList (by simp)
  rwa [Array.toArray_toList] at this
 simp only[Instr.buildSlice,Sem.run_bind,run_underlying hu,Result.andThen_ok,sizeOf,typeInfo,program,Sem.run,hi,Sem.run_pure,hs,if_neg hbig,zeroValue];by_cases h0:n*sz=0
 .simp only[if_pos h0,Sem.run_bind,Sem.run_pure,Result.andThen_ok,key,newRow,newObj,Sem.run];rfl
 .simp only[if_neg h0,Sem.run_bind,Sem.run_pure,Result.andThen_ok,key,newRow,newObj,Sem.run,hi,hz];rfl
end
section
variable{P:Program}{ok0:Nat->Prop}{N:Fm}{w0:XS}{lk:Nat->AV}{lo:Nat->Option AO}{a:Act}{w:World}{L:Nat->Lay}{o:Oper}
variable{s f:Prop}{v:AV}{up:Option (Nat×AO)}
theorem Uk:∀{rows es},Qhx rows=some es->rows=es.map (·.map .iv)
 |[],es,h=>by simp[Qhx] at h;subst h;rfl
 |x::r,es,h=>by
  simp only[Qhx] at h;split at h
  .rename_i y ys h1 h2;injection h with h;subst h;simp[qk h1,Uk h2]
  .cases h
def VI{t e}(h:QbM P t=true)(hu:P.underlying t=some (.slice e)){i:TypeInfo}(hi:P.info? e=some i):i.zero.isSome=true:=by unfold QbM at h;rw[hu] at h;simp only[Qqm,hi] at h;exact h
def QlZ{sz:Nat}{parts:List Opd}{t e:TypeId}{i:TypeInfo}{n:Nat}{ps:Array (Nat×Operand)}{rows:List (List AV)}(h:Rel ok0 N w0 lk lo a w L)
  (ho:o.op=.buildSlice t n ps)(hn:n=parts.length)(hsq:QaS 0 parts ps.toList=true)(hu:P.underlying t=some (.slice e))(hi:P.info? e=some i)(hs:i.size=sz)
  (hz:i.zero.isSome=true)(hb:parts.length*sz<=65536)(hr:XE sz (parts.map (·.av lk))=some rows):
  ∃news:List Value,(execOp a.eval o).run P w=.ok (.value (.slice (some ⟨w.heap.size,0,none⟩) parts.length parts.length)) (w.alloc (.cells news.toArray e))/\news.length=parts.length*sz /\(∀u∈news,u.oneCell'=true)/\rows.length=parts.length/\(∀c∈rows,c.length=sz) /\∀(i j:Nat)(c:List AV)(x:AV)(u:Value),rows[i]?=some c->c[j]?=some x->news[i*sz+j]?=some u->QG (okL ok0 lo L) w lo L x u:=by
 subst hn;obtain⟨news,_,h1,h2,h3,h4,h5,h6⟩:=Qfd h sz parts ps.toList 0 rows [] (List.replicate (parts.length*sz) undef) hsq hr (by simp) (by simp);refine⟨news,?_,h2,h3,h4,h5,h6⟩
 have:=Qdz (w:=w) hu hi hs hz parts.length hb (ps.map λ(i,x)=>(i,a.eval x)) news.toArray (λzs hzs=>by obtain⟨news',h1',h2',_⟩:=Qfd h sz parts ps.toList 0 rows [] zs hsq hr (by simp) hzs;rw[QOg] at h1';have e:news'=news:=h2'.trans h1.symm;rw[QOg,e] at h1';simpa using h1')
 simp only[execOp,ho,Sem.run_bind,this,Result.andThen_ok,Sem.run_pure]
def Qvv{sz parts rows es}(h:Rel ok0 N w0 lk lo a w L)(hok0:∀b,¬w0.fr b->ok0 b)(hf:QGp P sz parts o.op=true)
  (hr:XE sz (parts.map (·.av lk))=some rows)(hes:Qhx rows=some es):Q6 P o ok0 N w0 lk lo a w (.iv (.sl sz es)) none:=by
 unfold QGp at hf;split at hf
 .rename_i t n ps ho;simp only[QNZ,beq_iff_eq,decide_eq_true_eq] at hf;have⟨⟨⟨⟨⟨hn,hsq⟩,hsz⟩,hez⟩,hb⟩,hpl⟩:=hf;have⟨e,i,hu,hi,hs⟩:=Xn hsz;have⟨news,hrun,hnl,h1,hrl,hrs,hx⟩:=QlZ h ho hn hsq hu hi hs (VI hez hu hi) hb hr;have hrel:=h.ext (QF w (.cells news.toArray e));have hrows:=Uk hes;have hel:es.length=parts.length:=by rw[<- hrl,hrows];simp
  refine⟨_,_,_,L,hrun,.inl rfl,hrel,?_⟩
  have hnew:okL ok0 lo L w.heap.size:=⟨hok0 _ (h.frlt (QN3 _)),λid ob hob hb=>by have:=((h.y8 id ob hob).lt hb).2;omega⟩
  rw[<- hel];refine .iv _ _ (.sl sz es w.heap.size 0 es.length (λk=>news.getD k undef) (QN3 _) (by simp only[maxLen];omega) (λc hc=>?_) (λk hk=>?_) (λi j c z hi hj=>?_))
  .have:=hrs (c.map .iv) (by rw[hrows];exact List.mem_map_of_mem hc);simpa using this
  .have hk':k<news.length:=by rw[hnl,<- hel];exact hk
   refine⟨hnew,?_,h1 _ (QOh (getD_some (d:=undef) hk'))⟩;rw[QOn];exact Ys w news e k _ (getD_some hk')
  have hil:i<es.length:=(QNY.1 hi).1;have hcl:c.length=sz:=by have:=hrs (c.map .iv) (by rw[hrows];exact List.mem_map_of_mem (QOh hi));simpa using this
  have hjl:j<sz:=by rw[<- hcl];exact(QNY.1 hj).1
  have hk':i*sz+j<news.length:=by rw[hnl,<- hel];exact QcQ hil hjl
  have:=hx i j (c.map .iv) (.iv z) _ (by rw[hrows];simp[hi]) (by simp[hj]) (getD_some (d:=undef) hk');cases this with
  |iv _ _ r=>exact r.mono λb hb y9=>⟨hb,(QF w _).block b y9⟩
 .cases hf
def QaQ{t e sz}(h:Program.sliceOf P t e sz=true):∃i,P.underlying t=some (.slice e)/\P.info? e=some i/\i.size=sz:=by unfold Program.sliceOf Program.sizeIs at h;grind
def Qvu{id:Nat}{e:TypeId}{sz:Nat}{parts:List Opd}{rows:List (List AV)}(h:Rel ok0 N w0 lk lo a w L)(hid:lo id=none)(hf:QI8 P e sz parts o.op=true)
  (hr:XE sz (parts.map (·.av lk))=some rows):Q6 P o ok0 N w0 lk lo a w (.yl id parts.length) (some (id,.arr e sz rows 0)):=by
 unfold QI8 at hf;split at hf
 .rename_i t n ps ho;simp only[QNZ,beq_iff_eq,decide_eq_true_eq] at hf;have⟨⟨⟨⟨⟨hn,hsq⟩,hsz⟩,hez⟩,hb⟩,hpl⟩:=hf;have⟨i,hu,hi,hs⟩:=QaQ hsz;have⟨news,hrun,hnl,h1,hrl,hrs,hx⟩:=QlZ h ho hn hsq hu hi hs (VI hez hu hi) hb hr;have hbel:=QF w (.cells news.toArray e);have hok:∀b,okL ok0 lo L b->b<w.heap.size->okL ok0 (Zn lo id (.arr e sz rows 0)) (Q7 L id (.arr (.slice (some ⟨w.heap.size,0,none⟩) parts.length parts.length) news)) b:=by
   intro b hb y9;refine⟨hb.1,λi o' hi he=>?_⟩;by_cases hii:i=id
   .subst hii;simp only[Q7,if_true,Lay.has,Value.ownBlock,Option.some.injEq] at he;omega
   grind
  refine⟨_,_,_,Q7 L id (.arr (.slice (some ⟨w.heap.size,0,none⟩) parts.length parts.length) news),hrun,.inl rfl,?_,?_⟩
  .refine h.new id hid _ _ hbel (λb hb=>by simp only[Lay.has,Value.ownBlock,Option.some.injEq] at hb;omega) ?_;refine⟨⟨⟨by rw[hrl];exact hnl,.inr ⟨w.heap.size,parts.length,news.toArray,by rw[hrl],QPk _,heap_alloc_new w _,by omega,by simp only[maxLen];omega,by simpa using hnl,?_⟩⟩,λb hb=>by simp only[Value.ownBlock,Option.some.injEq] at hb;exact h.frlt (by omega)⟩,QPk _,hrs,h1,λi j c x u h2 h3 h4=>?_⟩
   .rw[hrl,<- hnl]
    simp
   refine(hx i j c x u h2 h3 h4).ext hok hbel.block λi o' hi=>?_;grind
  rw[<- hrl];exact .yl id e sz rows 0 _ news (by simp[upO,Zn]) (by simp[Q7]) rfl
 .cases hf
end
def Qb7(lo id o):Zn lo id o id=some o:=by simp[Zn]
def Qb8(L id l):Q7 L id l id=l:=by simp[Q7]
def Xx(w:World)(b:Nat)(cs:Array Value):w.grownBy (w.setRow b cs) (some b):=⟨rfl,rfl,rfl,by simp[World.setRow],λk _ hne=>setRow_other w b k cs (by simpa using hne)⟩
section
variable{P:Program}{ok0:Nat->Prop}{N:Fm}{w0:XS}{lk:Nat->AV}{lo:Nat->Option AO}{a:Act}{w:World}{L:Nat->Lay}{o:Oper}
variable{s f:Prop}{v:AV}{up:Option (Nat×AO)}
def QuW{id n:Nat}{x y:Opd}(h:Rel ok0 N w0 lk lo a w L)(hf:QIX P n x y o.op=true)
  (he:Qov lo id n (y.av lk) (x.av lk)=.ok s f v up)(hs:s):f/\Q6 P o ok0 N w0 lk lo a w v up:=by
 unfold QIX at hf;split at hf
 .rename_i t x' y' ho;simp only[QNZ] at hf;have⟨⟨hx,hy⟩,hn⟩:=hf;have rx:=Opd.rep h hx;have ry:=Opd.rep h hy;generalize x.av lk=xv at rx he;generalize y.av lk=yv at ry he;generalize hey:a.eval x'=pv at rx;unfold Qov at he;split at he
  .rename_i i off;split at he
   .rename_i hii;subst hii;split at he
    .rename_i cs vs hcs hvs;cases he;have⟨hvl,hfit⟩:=hs;have⟨us,hus,hru⟩:=UJ ry hvs;have hob:=h.y8 _ _ hcs;cases rx with
     |loc _ _ cs' b hob' hL=>
      rw[hcs] at hob';injection hob' with hob';injection hob' with hob';subst hob';rw[hL] at hob;have⟨hB,ty,cur,hb,hl,h1,hxx⟩:=hob;have hul:us.length=n:=by rw[hru.1];exact hvl
      have hst:=QaU (w:=w) hn b off (a.eval y') us cur hus hul hb (by omega) hru.2.1;have hLb:(L i).has b:=by rw[hL];rfl
      have hg:=Xx w b (cur.take off++us++cur.drop (off+n)).toArray;have hset:=setRow_heap w b cur.toArray (cur.take off++us++cur.drop (off+n)).toArray ty (0,0) hb;have hLL:Q7 L i (.box b)=L:=by grind
      have key:Rel ok0 N w0 lk (Zn lo i (.box (cs.take off++vs++cs.drop (off+n)))) a (w.setRow b (cur.take off++us++cur.drop (off+n)).toArray) (Q7 L i (.box b)):=by
       refine h.turn i hcs (Qix.of hg (λk hk=>by injection hk with hk;subst hk;exact hLb)) (λb' hb'=>.inl (by rw[hL];exact hb')) (λz u hz hr=>?_) (λall=>?_)
       .cases hr with
        |_=>grind
       have hsp:=Qxl.splice (cs:=cs) (ds:=vs) (vs:=cur) (us:=us) (o:=off) ⟨hl,h1,hxx⟩ hru (by omega);rw[hvl,hul] at hsp;have⟨g1,g2,g3⟩:=hsp;exact⟨hB,ty,_,hset,g1,g2,λk z u hk hu=>all _ _ (g3 k z u hk hu)⟩
      refine⟨trivial,_,undef,_,_,?_,.inr ⟨rfl,rfl⟩,key,.iv _ _ (.any _)⟩;simp only[execOp,ho,hey,Instr.storeAt,Instr.sureAddr,Sem.run_bind,Sem.run_pure,Result.andThen_ok,hst]
    cases he
   cases he
  .rename_i i m j off;split at he
   .rename_i hii;subst hii;split at he
    .rename_i e sz es mv vs hcs hvs;cases he;obtain⟨hvl,rfl,hmv,hfit⟩:=hs;have⟨us,hus,hru⟩:=UJ ry hvs;have hob:=h.y8 _ _ hcs;cases rx with
     |yj _ _ _ _ e' sz' es' mv' v' xs b hob' hL hm hv=>
      rw[hcs] at hob';injection hob' with hob';injection hob' with g1 g2 g3 g4;subst g1 g2 g3 g4;rw[hL] at hob;have⟨hown,hmv2,hsz,h1,hxx⟩:=hob;have⟨hj,hbl,hcells⟩:=hv hmv;have hbl:=hbl rfl;rcases hown.own.2 with ⟨hv',_⟩|⟨g,cap,cur,hv',hB,hg,hnc,hcm,hcs',htake⟩
      .rw[hv'] at hbl;simp[Value.ownBlock] at hbl
      have hgb:g=b:=by rw[hv'] at hbl;simpa[Value.ownBlock] using hbl
      subst hgb;have hul:us.length=n:=by rw[hru.1];exact hvl
      have hcurl:cur.size=cap*sz:=hcs';have hbig:j*sz+sz<=es.length*sz:=by have:(j+1)*sz<=es.length*sz:=QOI sz (by omega);rw[QOU] at this;omega
      have hcapb:es.length*sz<=cap*sz:=QOI sz hnc;have hst:=QaU (w:=w) hn g (j*sz+off) (a.eval y') us cur.toList hus hul (by simpa using hg) (by simp;omega) hru.2.1;have hLb:(L i).has g:=by rw[hL];exact hbl
      have hgr:=Xx w g (cur.toList.take (j*sz+off)++us++cur.toList.drop (j*sz+off+n)).toArray;have hset:=setRow_heap w g cur (cur.toList.take (j*sz+off)++us++cur.toList.drop (j*sz+off+n)).toArray e (0,0) hg;have hxl:xs.length=es.length*sz:=hown.own.1;have hlenj:=QfY hsz hj;have hvl2:vs.length=us.length:=by omega
      have hxs':(cur.toList.take (j*sz+off)++us++cur.toList.drop (j*sz+off+n)).take (es.length*sz)=xs.take (j*sz+off)++us++xs.drop (j*sz+off+us.length):=by
       apply List.ext_getElem?;intro k;rw[QOS,J1 xs us _ _ (by omega),<- hul,J1 cur.toList us _ _ (by simp;omega),<- htake];by_cases hk:k<es.length*sz
       .rw[if_pos hk]
        simp only[QOS,if_pos hk]
       grind
      have hesl:(es.set j ((es.getD j []).take off++vs++(es.getD j []).drop (off+n))).length=es.length:=by simp
      have key:Rel ok0 N w0 lk (Zn lo i (.arr e sz (es.set j ((es.getD j []).take off++vs++(es.getD j []).drop (off+n))) es.length)) a
        (w.setRow g (cur.toList.take (j*sz+off)++us++cur.toList.drop (j*sz+off+n)).toArray) (Q7 L i (.arr v' (xs.take (j*sz+off)++us++xs.drop (j*sz+off+us.length)))):=by
       refine h.turn i hcs (Qix.of hgr (λk hk=>by injection hk with hk;subst hk;exact hLb)) (λb' hb'=>.inl (by rw[hL];simp only[Lay.has] at hb' |-;exact hb')) (λz u hz hr=>?_) (λall=>?_)
       .cases hr with
        |yj jj n' i' off' e2 sz2 es2 mv2 v2 xs2 b2 ho' hL' hn' hv2=>
         have:jj=i:=by simpa[AV.refs] using hz
         subst this;rw[hcs] at ho';injection ho' with ho';injection ho' with g1 g2 g3 g4;subst g1 g2 g3 g4;rw[hL] at hL';injection hL' with hL' hL2;subst hL' hL2;refine .yj jj n' i' off' e sz _ es.length v' _ b2 (Qb7 _ _ _) (Qb8 _ _ _) (by rw[hesl];exact hn') (λhbad=>?_);have hn'':n'=es.length:=by omega
         subst hn'';have⟨k1,k2,k3⟩:=hv2 hmv;have hb2:=k2 rfl;have:b2=g:=by rw[hbl] at hb2;injection hb2 with hb2;exact hb2.symm
         subst this;refine⟨k1,λ_=>hbl,λk hk=>⟨.inr hbl,?_⟩⟩;have hk':k<(xs.take (j*sz+off)++us++xs.drop (j*sz+off+us.length)).length:=by rw[Y2 xs us _ (by omega),hxl];exact hk
         obtain⟨u,hu⟩:∃u,(xs.take (j*sz+off)++us++xs.drop (j*sz+off+us.length))[k]?=some u:=⟨_,QNX hk'⟩;refine⟨u,?_,hu⟩;rw[cell_of_row _ _ _ _ e (0,0) hset];grind
        |_=>grind
       refine⟨⟨⟨?_,.inr ⟨g,cap,_,?_,hB,hset,?_,hcm,?_,?_⟩⟩,hown.free⟩,?_,?_,?_,?_⟩
       .rw[Y2 xs us _ (by omega),hesl,hxl]
       .rw[hesl];exact hv'
       .rw[hesl];exact hnc
       .have:=Y2 cur.toList us (j*sz+off) (by simp;omega);grind
       .rw[hesl]
        simpa using hxs'
       .rw[hesl];exact QN3 _
       .intro c hc;rcases List.mem_or_eq_of_mem_set hc with hc|rfl
        .exact hsz c hc
        have:=Y2 (es.getD j []) vs off (by omega);rw[hvl] at this;rw[this,hlenj]
       .intro u hu;simp only[QOc] at hu;rcases hu with (hu|hu)|hu
        .exact h1 u (QOJ hu)
        .exact hru.2.1 u hu
        exact h1 u (QOW hu)
       intro ii jj c z u hi hjj hu;refine all _ _ ?_;rw[J1 xs us _ _ (by omega)] at hu;rw[List.getElem?_set] at hi;simp only[if_pos hj] at hi;split at hi
       .rename_i hij;subst hij;injection hi with hi;subst hi;have hsplit:=J1 (es.getD j []) vs off jj (by omega);rw[hvl] at hsplit;rw[hsplit] at hjj;by_cases g1:jj<off
        .grind
        rw[if_neg g1] at hjj;rw[if_neg (by omega)] at hu;by_cases g2:jj<off+n
        .rw[if_pos g2] at hjj;rw[if_pos (by omega)] at hu;rw[show j*sz+jj-(j*sz+off)=jj-off by omega] at hu;exact hru.2.2 _ z u hjj hu
        grind
       rename_i hij;have hjlt:jj<sz:=by grind
       have hne:ii*sz+jj<j*sz+off\/j*sz+off+us.length<=ii*sz+jj:=by
        rcases Nat.lt_or_gt_of_ne hij with y9|hgt
        .right;have:(j+1)*sz<=ii*sz:=QOI sz y9;rw[QOU] at this;omega
        left;have:(ii+1)*sz<=j*sz:=QOI sz hgt;rw[QOU] at this;omega
       grind
      refine⟨trivial,_,undef,_,_,?_,.inr ⟨rfl,rfl⟩,key,.iv _ _ (.any _)⟩;simp only[execOp,ho,hey,Instr.storeAt,Instr.sureAddr,Sem.run_bind,Sem.run_pure,Result.andThen_ok,hst]
    cases he
   cases he
  cases he
 .cases hf
end
section
variable{P:Program}{ok0:Nat->Prop}{N:Fm}{w0:XS}{lk:Nat->AV}{lo:Nat->Option AO}{a:Act}{w:World}{L:Nat->Lay}{o:Oper}
variable{s f:Prop}{v:AV}{up:Option (Nat×AO)}
def Rel.okL_turn{id o o' l'}(h:Rel ok0 N w0 lk lo a w L)(hid:lo id=some o)
  (hl':∀b,l'.has b->(L id).has b\/w.heap.size<=b){b}(hb:okL ok0 lo L b)(y9:b<w.heap.size):okL ok0 (Zn lo id o') (Q7 L id l') b:=by
 grind
def Qwh{id:Nat}{e:TypeId}{sz mv:Nat}{es:List (List AV)}{ys:List (List IV)}{vv vv':Value}{xs news:List Value}{w':World}(h:Rel ok0 N w0 lk lo a w L)
  (hob:lo id=some (.arr e sz es mv))(hL:L id=.arr vv xs)(hm:0<ys.length)
  (hg:w.grownBy w' vv.ownBlock)(hown':w'.ownsRow 0 e sz vv' (es.length+ys.length) (xs++news))
  (hblk:∀b,vv'.ownBlock=some b->vv.ownBlock=some b\/w.heap.size<=b)
  (hpre:∀b k u,(okL ok0 lo L b\/vv.ownBlock=some b)->k<es.length*sz->w.cell? ⟨b,k,none⟩=some u ->(okL ok0 (Zn lo id (.arr e sz (es++ys.map (List.map AV.iv)) mv)) (Q7 L id (.arr vv' (xs++news))) b\/vv'.ownBlock=some b)/\w'.cell? ⟨b,k,none⟩=some u)
  (hsl:isSl vv'=true)
  (hys:∀c∈ys,c.length=sz)(h1:∀u∈news,u.oneCell'=true)
  (hx:∀(i j:Nat)c x u,ys[i]?=some c->c[j]?=some x->news[i*sz+j]?=some u->QZ (okL ok0 lo L) w x u):
  Rel ok0 N w0 lk (Zn lo id (.arr e sz (es++ys.map (List.map AV.iv)) mv)) a w' (Q7 L id (.arr vv' (xs++news))) /\
  QG (okL ok0 (Zn lo id (.arr e sz (es++ys.map (List.map AV.iv)) mv)) (Q7 L id (.arr vv' (xs++news)))) w' (Zn lo id (.arr e sz (es++ys.map (List.map AV.iv)) mv)) (Q7 L id (.arr vv' (xs++news))) (.yl id (es.length+ys.length)) vv':=by
 have hor:=h.y8 _ _ hob;rw[hL] at hor;have⟨hown,hmv,hsz,h1x,hxx⟩:=hor;have hxl:xs.length=es.length*sz:=hown.own.1;have hesl:(es++ys.map (List.map AV.iv)).length=es.length+ys.length:=by simp
 have cells:∀b n,n<=es.length->(∀k,k<n*sz->(okL ok0 lo L b\/vv.ownBlock=some b)/\∃u,w.cell? ⟨b,k,none⟩=some u/\xs[k]?=some u) ->
   (∀k,k<n*sz->(okL ok0 (Zn lo id (.arr e sz (es++ys.map (List.map AV.iv)) mv)) (Q7 L id (.arr vv' (xs++news))) b\/vv'.ownBlock=some b)/\∃u,w'.cell? ⟨b,k,none⟩=some u/\(xs++news)[k]?=some u):=by
  grind
 refine⟨h.turn id hob (Qix.of hg (λk hk=>by rw[hL];exact hk)) (λb hb=>by rw[hL];exact hblk b hb) (λz u hz hr=>?_) (λall=>?_),?_⟩
 .cases hr with
  |yl jj e2 sz2 es2 mv2 v2 xs2 ho' hL' hsl2=>
   have:jj=id:=by simpa[AV.refs] using hz
   subst this;rw[hob] at ho';injection ho' with ho';injection ho' with g1 g2 g3 g4;subst g1 g2 g3 g4;rw[hL] at hL';injection hL' with hL' hL2;subst hL' hL2;refine .old jj es.length e sz _ mv vv' _ _ (Qb7 _ _ _) (Qb8 _ _ _) hsl2 (by rw[hesl];omega) (λ_=>?_);rcases hown.own.2 with ⟨hv',h00⟩|⟨g,cap,cur,hv',hB,hgg,hnc,hcm,hcs',htake⟩
   .exact .inl ⟨hv',h00⟩
   refine .inr ⟨g,cap,hv',hnc,hcm,cells g es.length (QN3 _) λk hk=>⟨.inr (by rw[hv'];rfl),?_⟩⟩;have hk':k<xs.length:=by omega
   refine⟨xs[k],?_,QNX hk'⟩;have:=hown.own.cells (g:=g) (by rw[hv'];rfl) k xs[k] (QNX hk')
   rwa [addr_add,QOn] at this
  |_=>grind
 .refine⟨by rw[hesl];exact⟨hown',λb hb=>(hblk b hb).elim (λh1=>hown.free b h1) (λh2=>h.frlt h2)⟩,by rw[hesl];omega,?_,?_,?_⟩
  .grind
  .grind
  intro i j c z u hi hj hu;rw[List.getElem?_append] at hi;split at hi
  .rename_i y9;have hjl:j<sz:=by
    grind
   have hidx:=QcQ y9 hjl;grind
  rw[QN6,QN2] at hi;obtain⟨d,hd,rfl⟩:=hi;rw[QN6,QN2] at hj;obtain⟨y,hy,rfl⟩:=hj;have hle:es.length*sz<=i*sz:=QOI sz (by omega);rw[QOm (by omega),hxl] at hu;have:i*sz+j-es.length*sz=(i-es.length)*sz+j:=by rw[Nat.sub_mul];omega
  rw[this] at hu;exact all _ _ (.iv _ _ (hx _ j d y u hd hy hu))
 .rw[<- hesl]
  exact .yl id e sz _ mv vv' _ (Qb7 _ _ _) (Qb8 _ _ _) hsl
def Qgo{e sz bytes x y}(hf:QAL P e sz bytes x y o.op=true):∃x' y' t i z,o.op=.call { callee:=.builtin .append,args:=#[x',y'],argTypes:=#[t,t] } /\x.is x'=true/\y.is y'=true/\P.underlying t=some (.slice e)/\P.info? e=some i/\i.size=sz/\i.bytes=bytes/\i.zero=some z/\z.cells.size=sz/\0<sz:=by
 unfold QAL at hf;split at hf
 .rename_i az ts ho;split at hf
  .rename_i x' y' t t' has hts;simp[QNZ,beq_iff_eq,decide_eq_true_eq] at hf;obtain⟨⟨⟨⟨⟨hx,hy⟩,rfl⟩,hs⟩,hpos⟩,hb⟩:=hf;have⟨i,hu,hi,hsz⟩:=QaQ hs;unfold Qnt at hb;rw[hi] at hb;simp[QNZ,beq_iff_eq] at hb;have⟨hb1,hb2⟩:=hb;split at hb2
   .have e1:az=#[x',y']:=by cases az;simp_all
    have e2:ts=#[t,t]:=by cases ts;simp_all
    grind
   cases hb2
  cases hf
 .cases hf
def Jb{t ty e}{i:TypeInfo}(hu:P.underlying t=some (.slice e))(hi:P.info? e=some i)(base n cap)(hnc:n<=cap)(y)
  (hy:y=.slice none 0 0\/∃ad c,y=.slice (some ad) 0 c):(Builtin.append_ #[t,t] ty #[.slice base n cap,y]).run P w=.ok (.slice base n cap) w:=by
 rcases hy with rfl|⟨ad,c,rfl⟩<;>cases base <;>
  simp[Builtin.append_,run_underlying hu,sizeOf,typeInfo,hi,Builtin.lenOf,Builtin.firstCells,hnc,loadCells,loadCellsFrom,storeCells]
def QuV{id e sz bytes s0 sy ys x y}(h:Rel ok0 N w0 lk lo a w L)(hf:QAL P e sz bytes x y o.op=true)
  (hxv:x.av lk=.zsl s0)(hyv:y.av lk=.iv (.sl sy ys))(he:WG lo id e sz bytes (.zsl s0) (.iv (.sl sy ys))=.ok s f v up)(hs:s):f/\Q6 P o ok0 N w0 lk lo a w v up:=by
 have⟨x',y',t,ti,z,ho,hx,hy,hu,hi,hsz,hby,hz,hzs,hpos⟩:=Qgo hf;have rx:=Opd.rep h hx;have ry:=Opd.rep h hy;rw[hxv] at rx;rw[hyv] at ry;generalize hex:a.eval x'=vv at rx;generalize hey:a.eval y'=yy at ry;have run:∀u w',(Builtin.append_ #[t,t] o.type #[vv,yy]).run P w=.ok u w'->(execOp a.eval o).run P w=.ok (.value u) w':=by intro u w' hr;simp[execOp,ho,resolve,invoke,builtin,hex,hey,hr]
 obtain⟨a0,rfl⟩:∃a0,vv=.slice a0 0 0:=by
  cases rx with
  |zsl _ _ h=>exact Qcv h
 have hyshape:((∃a1,yy=.slice a1 0 0)/\ys=[])\/∃(b off cap:Nat)(u:Nat->Value),yy=.slice (some ⟨b,off,none⟩) ys.length cap/\(∀c∈ys,c.length=sy) /\(∀k,k<ys.length*sy->okL ok0 lo L b/\w.cell? ⟨b,off+k,none⟩=some (u k)/\(u k).oneCell'=true) /\
   (∀i j c x,ys[i]?=some c->c[j]?=some x->QZ (okL ok0 lo L) w x (u (i*sy+j))):=by
  cases ry with
  |iv _ _ r=>cases r with
   |sl _ _ b off cap u hl hc hes hcell hxx=>exact .inr ⟨b,off,cap,u,rfl,hes,hcell,hxx⟩
   |_=>grind
 simp only[WG] at he
 .split at he
  .cases he
   have hr:=Jb (P:=P) (w:=w) (ty:=o.type) hu hi a0 0 0 (QN3 _) yy (by
    rcases hyshape with ⟨⟨a1,h1⟩,_⟩|⟨b,off,c,u,h1,_⟩
    .cases a1 with
     |none=>exact .inl h1
     |some a1=>exact .inr ⟨_,_,h1⟩
    exact .inr ⟨_,_,h1⟩)
   exact⟨trivial,Q6.pure h (run _ _ hr) (.zsl _ _ rfl)⟩
  .rename_i y0 r xc;cases he;obtain⟨hq3,rfl,hmax,hbytes⟩:=hs;have hs2:sy=s0:=hq3;subst hs2;rcases hyshape with ⟨_,h0⟩|⟨b,off,c,u,hyy,hyl,hyc,hyx⟩
   .cases h0
   generalize hys:y0::r=ys at *;have hpos':0<ys.length:=by rw[<- hys];simp
   obtain⟨news,hnd⟩:∃news,news=(List.range (ys.length*sy)).map u:=⟨_,rfl⟩;have hnl:news.length=ys.length*ti.size:=by simp[hnd,hsz]
   have hnl2:news.length=ys.length*sy:=by simp[hnd]
   have hnews:∀j u',news[j]?=some u'->w.cell? ((⟨b,off,none⟩:Addr).add j)=some u':=by intro j u' hj;simp only[hnd,QN6,QN2] at hj;obtain⟨k',hk',rfl⟩:=hj;have⟨h3,h4⟩:=QNY.1 hk';simp at h3 h4;subst h4;rw[addr_add];exact(hyc j h3).2.1
   have hn1:∀u'∈news,u'.oneCell'=true:=by grind
   have hnx:∀i j c x u',ys[i]?=some c->c[j]?=some x->news[i*sy+j]?=some u'->QZ (okL ok0 lo L) w x u':=by grind
   have hm63:ys.length<=9223372036854775807:=by simp only[maxLen] at hmax;omega
   have hge:=grownCap_ge w ys.length 0 e;have hle:=grownCap_le_maxLen w ys.length 0 e (by omega)
   have hr:(Builtin.append_ #[t,t] o.type #[.slice a0 0 0,yy]).run P w=.ok (.slice (some ⟨w.heap.size,0,none⟩) ys.length (grownCap w ys.length 0 e))
     (w.drew.alloc (.cells (news.toArray++Builtin.zeroCells z.cells (grownCap w ys.length 0 e-ys.length)) e)):=by
    cases a0 with
    |none=>rw[hyy];exact run_append_nil (P:=P) w t o.type e ti z hu hi hz ⟨b,off,none⟩ ys.length c news hnl hnews hpos' (by omega) (by rw[hby];omega)
    |some ad=>
     have:=run_append_grow (P:=P) w t o.type e ti z hu hi hz ad 0 0 [] (by simp) (by simp) ⟨b,off,none⟩ ys.length c news hnl hnews (by omega) (by omega) (by rw[QOn];exact growslice_fits (by omega) (by rw[hby];exact hbytes))
     rw[hyy];simpa using this
   have hheap:∀ob k,k<w.heap.size->(w.drew.alloc ob).heap[k]?=w.heap[k]?:=λob k hk=>Ev.alloc_old w.drew _ k hk;have hzl:(Builtin.zeroCells z.cells (grownCap w ys.length 0 e-ys.length)).size=(grownCap w ys.length 0 e-ys.length)*sy:=by rw[size_zeroCells,hzs]
   have hrel:=h.new (w':=w.drew.alloc (.cells (news.toArray++Builtin.zeroCells z.cells (grownCap w ys.length 0 e-ys.length)) e)) id xc (.arr e sy (ys.map (List.map AV.iv)) 0)
    (.arr (.slice (some ⟨w.heap.size,0,none⟩) ys.length (grownCap w ys.length 0 e)) news) ⟨rfl,rfl,rfl,by simp,λk hk=>hheap _ k hk⟩
    (λb hb=>by simp only[Lay.has,Value.ownBlock,Option.some.injEq] at hb;omega) (by
      refine⟨⟨⟨by rw[QN9];exact hnl2,.inr ⟨w.heap.size,_,_,by rw[QN9],QPk _,heap_alloc_new w.drew _,by rw[QN9];exact hge,hle,?_,?_⟩⟩,λb hb=>?_⟩,QPk _,λc hc=>?_,hn1,λi j c x u' hi' hj hu'=>?_⟩
      .simp only[Array.size_append,QPs,hzl,hnl2,<- QOU];congr 1;omega
      .grind
      .simp only[Value.ownBlock,Option.some.injEq] at hb;subst hb;exact h.frlt (QN3 _)
      .grind
      rw[QN6,QN2] at hi';obtain⟨d,hd,rfl⟩:=hi';rw[QN6,QN2] at hj;obtain⟨y,hy,rfl⟩:=hj;refine .iv _ _ ((hnx i j d y u' hd hy hu').mono λb hb y9=>⟨⟨hb.1,λi' oi hi2 he2=>?_⟩,hheap _ b y9⟩);by_cases hii:i'=id
      .subst hii;simp only[Q7,if_true,Lay.has,Value.ownBlock,Option.some.injEq] at he2;omega
      grind)
   refine⟨trivial,_,_,_,_,run _ _ hr,.inl rfl,hrel,?_⟩
   have:=QG.yl (ok:=okL ok0 (Zn lo id (.arr e sy (ys.map (List.map AV.iv)) 0)) (Q7 L id (.arr (.slice (some ⟨w.heap.size,0,none⟩) ys.length (grownCap w ys.length 0 e)) news)))
    (w:=w.drew.alloc (.cells (news.toArray++Builtin.zeroCells z.cells (grownCap w ys.length 0 e-ys.length)) e)) (lo:=Zn lo id (.arr e sy (ys.map (List.map AV.iv)) 0))
    (L:=Q7 L id (.arr (.slice (some ⟨w.heap.size,0,none⟩) ys.length (grownCap w ys.length 0 e)) news)) id e sy (ys.map (List.map AV.iv)) 0 (.slice (some ⟨w.heap.size,0,none⟩) ys.length (grownCap w ys.length 0 e)) news (by simp[Zn]) (by simp[Q7]) rfl
   rw[QN9] at this;exact this
  .cases he
def QrU{id:Nat}{e:TypeId}{sz bytes:Nat}{x y:Opd}(h:Rel ok0 N w0 lk lo a w L)(hok0:∀b,¬w0.fr b->ok0 b)(hf:QAL P e sz bytes x y o.op=true)(hnm:∀i k n,x.av lk≠.yn i k n)
  (he:WG lo id e sz bytes (x.av lk) (y.av lk)=.ok s f v up)(hs:s):f/\Q6 P o ok0 N w0 lk lo a w v up:=by
 by_cases hzz:∃s0,x.av lk=.zsl s0
 .obtain⟨s0,hz0⟩:=hzz;rw[hz0] at he;cases hyv:y.av lk with
  |iv q=>
   cases q with
   |sl sy ys=>rw[hyv] at he;exact QuV h hf hz0 hyv he hs
   |_=>rw[hyv] at he;simp[WG] at he
  |_=>rw[hyv] at he;simp[WG] at he
 have⟨x',y',t,ti,z,ho,hx,hy,hu,hi,hsz,hby,hz,hzs,hpos⟩:=Qgo hf;have rx:=Opd.rep h hx;have ry:=Opd.rep h hy;generalize x.av lk=xv at rx he hnm hzz;generalize y.av lk=yv at ry he;generalize hex:a.eval x'=vv at rx;generalize hey:a.eval y'=yy at ry;have run:∀u w',(Builtin.append_ #[t,t] o.type #[vv,yy]).run P w=.ok u w'->(execOp a.eval o).run P w=.ok (.value u) w':=by intro u w' hr;simp[execOp,ho,resolve,invoke,builtin,hex,hey,hr]
 unfold WG at he;split at he
 .rename_i i n sy ys;split at he
  .rename_i hii;subst hii;split at he
   .rename_i e' sz' es mv hob;split at he
    .rename_i hees;obtain⟨rfl,rfl⟩:=hees;cases he;obtain⟨rfl,rfl,hmv,hmax,hbytes⟩:=hs;have hor:=h.y8 _ _ hob;have hcur:∃xs,L i=.arr vv xs/\isSl vv=true:=by
      grind
     have⟨xs,hL,hsl⟩:=hcur;have hor':=hor;rw[hL] at hor';have⟨hown,hmv2,hszs,h1x,hxx⟩:=hor'
     have hyshape:((∃a0,yy=.slice a0 0 0)/\ys=[])\/∃(b off cap:Nat)(u:Nat->Value),yy=.slice (some ⟨b,off,none⟩) ys.length cap/\(∀c∈ys,c.length=sy) /\(∀k,k<ys.length*sy->okL ok0 lo L b/\w.cell? ⟨b,off+k,none⟩=some (u k)/\(u k).oneCell'=true) /\
       (∀(i j:Nat)(c:List IV)(x:IV),ys[i]?=some c->c[j]?=some x->QZ (okL ok0 lo L) w x (u (i*sy+j))):=by
      cases ry with
      |iv _ _ r=>cases r with
       |sl _ _ b off cap u hl hc hes hcell hxx=>exact .inr ⟨b,off,cap,u,rfl,hes,hcell,hxx⟩
       |_=>grind
     by_cases hm:ys.length=0
     .have hnil:ys=[]:=QN4 hm;subst hnil;have hvshape:∃base cap,vv=.slice base es.length cap/\es.length<=cap:=by
       rcases hown.own.2 with ⟨hv',h00⟩|⟨g,cap,cur,hv',hB,hgg,hnc,hcm,hcs',htake⟩
       all_goals grind
      have⟨base,cap,hvb,hbc⟩:=hvshape
      have hr:=Jb (P:=P) (w:=w) (ty:=o.type) hu hi base es.length cap hbc yy (by
       rcases hyshape with ⟨⟨a0,h1⟩,_⟩|⟨b,off,c,u,h1,_⟩
       .cases a0 with
        |none=>exact .inl h1
        |some a0=>exact .inr ⟨_,_,h1⟩
       exact .inr ⟨_,_,h1⟩)
      rw[<- hvb] at hr;have xc:Zn lo i (.arr e' sy (es++([]:List (List IV)).map (List.map AV.iv)) mv)=lo:=by grind
      refine⟨trivial,_,vv,w,L,run _ _ hr,.inl rfl,?_,?_⟩
      .simp only[upO];rw[xc];exact h
      simp only[upO];grind
     rcases hyshape with ⟨_,h0⟩|⟨b,off,c,u,hyy,hyl,hyc,hyx⟩
     .exact absurd (by rw[h0];rfl) hm
     let news:=(List.range (ys.length*sy)).map u
     have hnl:news.length=ys.length*ti.size:=by simp[news,hsz]
     have hnews:∀j u',news[j]?=some u'->w.cell? ((⟨b,off,none⟩:Addr).add j)=some u':=by intro j u' hj;simp only[news,QN6,QN2] at hj;obtain⟨k',hk',rfl⟩:=hj;have⟨h3,h4⟩:=QNY.1 hk';simp at h3 h4;subst h4;rw[addr_add];exact(hyc j h3).2.1
     have hn1:∀u'∈news,u'.oneCell'=true:=by grind
     have hnx:∀(i j:Nat)(c:List IV)(x:IV)(u':Value),ys[i]?=some c->c[j]?=some x->news[i*sy+j]?=some u'->QZ (okL ok0 lo L) w x u':=by grind
     have hml:es.length+ys.length<=9223372036854775807:=by simp only[maxLen] at hmax;omega
     have fin:∀vv' w',(Builtin.append_ #[t,t] o.type #[vv,yy]).run P w=.ok vv' w'->w.grownBy w' vv.ownBlock->w'.ownsRow 0 e' sy vv' (es.length+ys.length) (xs++news) ->(∀b,vv'.ownBlock=some b->vv.ownBlock=some b\/w.heap.size<=b)->isSl vv'=true ->(∀b k u,(okL ok0 lo L b\/vv.ownBlock=some b)->k<es.length*sy->w.cell? ⟨b,k,none⟩=some u ->(okL ok0 (Zn lo i (.arr e' sy (es++ys.map (List.map AV.iv)) mv)) (Q7 L i (.arr vv' (xs++news))) b\/vv'.ownBlock=some b)/\w'.cell? ⟨b,k,none⟩=some u) ->
       True/\Q6 P o ok0 N w0 lk lo a w (.yl i (es.length+ys.length)) (some (i,.arr e' sy (es++ys.map (List.map AV.iv)) mv)):=by
      intro vv' w' hr hg hown' hblk hsl' hpre;obtain⟨r1,r2⟩:=Qwh h hob hL (by omega) hg hown' hblk hpre hsl' hyl hn1 hnx;exact⟨trivial,_,vv',w',_,run _ _ hr,.inl rfl,r1,r2⟩
     have fresh:∀(cap':Nat)(cells:List Value),es.length+ys.length<=cap'->cap'<=maxLen->cells.length=cap'*sy->cells.take ((es.length+ys.length)*sy)=xs++news ->(Builtin.append_ #[t,t] o.type #[vv,yy]).run P w=.ok (.slice (some ⟨w.heap.size,0,none⟩) (es.length+ys.length) cap') (w.drew.alloc (.cells cells.toArray e')) ->
       True/\Q6 P o ok0 N w0 lk lo a w (.yl i (es.length+ys.length)) (some (i,.arr e' sy (es++ys.map (List.map AV.iv)) mv)):=by
      intro cap' cells h1 h2 h3 h4 hr;have hheap:∀k,k<w.heap.size->(w.drew.alloc (.cells cells.toArray e')).heap[k]?=w.heap[k]?:=λk hk=>Ev.alloc_old w.drew _ k hk;have hbl:∀b,(Lay.arr (.slice (some ⟨w.heap.size,0,none⟩) (es.length+ys.length) cap') (xs++news)).has b->(L i).has b\/w.heap.size<=b:=by intro b hb;simp only[Lay.has,Value.ownBlock,Option.some.injEq] at hb;exact .inr (by omega)
      refine fin _ _ hr ⟨rfl,rfl,rfl,by simp,λk hk _=>hheap k hk⟩ ⟨?_,.inr ⟨w.heap.size,cap',cells.toArray,rfl,QPk _,heap_alloc_new w.drew _,h1,h2,by simpa using h3,by simpa using h4⟩⟩ (λb hb=>?_) rfl (λb k u hb hk hc=>?_)
      .rw[QOf,hown.own.1,hnl,hsz,QOU]
      .simp only[Value.ownBlock,Option.some.injEq] at hb;exact .inr (by omega)
      have y9:=QO0 w ⟨b,k,none⟩ hc;refine⟨.inl ?_,(QPo (a:=⟨b,k,none⟩) (hheap b y9)).trans hc⟩;rcases hb with hb|hb
      .exact h.okL_turn hob hbl hb y9
      have hge:=(hown.lt b hb).1;refine⟨hok0 b hge,λj oj hj hbad=>?_⟩;by_cases hji:j=i
      .subst hji;simp only[Q7,if_true,Lay.has,Value.ownBlock,Option.some.injEq] at hbad;simp only[] at y9;omega
      simp only[Zn,hji,if_false] at hj;simp only[Q7,hji,if_false] at hbad;exact h.apart j i oj _ b hji hj hob hbad (by rw[hL];exact hb)
     rcases hown.own.2 with ⟨hv',h00⟩|⟨g,cap,cur,hv',hB,hgg,hnc,hcm,hcs',htake⟩
     .have hxs0:xs=[]:=QN4 (by rw[hown.own.1,h00];simp);have hr:=run_append_nil (P:=P) w t o.type e' ti z hu hi hz ⟨b,off,none⟩ ys.length c news hnl hnews (by omega) (by omega) (by rw[hby];rw[h00,QOn] at hbytes;omega);have hge:=grownCap_ge w ys.length 0 e';have hle:=grownCap_le_maxLen w ys.length 0 e' (by omega);have hzl:(Builtin.zeroCells z.cells (grownCap w ys.length 0 e'-ys.length)).toList.length=(grownCap w ys.length 0 e'-ys.length)*sy:=by
       rw[QPu,size_zeroCells,hzs]
      refine fresh (grownCap w ys.length 0 e') (news++(Builtin.zeroCells z.cells (grownCap w ys.length 0 e'-ys.length)).toList) (by omega) hle ?_ ?_ ?_
      .rw[QOf,hnl,hzl,hsz,<- QOU]
       congr 1;omega
      .rw[h00,QOn,hxs0,QOg,<- hsz,<- hnl]
       exact List.take_left
      rw[h00,QOn,hv',hyy,hr]
      congr 3;apply Array.ext';simp
     by_cases hroom:es.length+ys.length<=cap
     .have hfit:es.length*ti.size+news.length<=cur.size:=by rw[hnl,hcs',hsz,<- QOU];exact QOI _ hroom
      have hr:=run_append_room (P:=P) w t o.type e' ti hu hi g es.length cap cur hgg ⟨b,off,none⟩ ys.length c news hnl hnews hn1 hroom hfit;rw[hsz] at hr hfit;have hset:=setRow_heap w g cur (cur.toList.take (es.length*sy)++news++cur.toList.drop (es.length*sy+news.length)).toArray e' (0,0) hgg;have hob':vv.ownBlock=some g:=by rw[hv'];rfl
      have hlen:=Y2 cur.toList news (es.length*sy) (by simpa using hfit);refine fin _ _ (by rw[hv',hyy];exact hr) (by rw[hob'];exact Xx w g _) ⟨?_,.inr ⟨g,cap,_,rfl,hB,hset,hroom,hcm,?_,?_⟩⟩ (λb hb=>.inl (by rw[hob'];exact hb)) rfl (λb' k u hb hk hc=>?_)
      .rw[QOf,hown.own.1,hnl,hsz,QOU]
      .simp only[QPs,hlen,QPu];exact hcs'
      .simp only[];rw[htake];have:(es.length+ys.length)*sy=(xs++news).length:=by rw[QOf,hown.own.1,hnl,hsz,QOU]
       rw[this];exact List.take_left
      have y9:=QO0 w ⟨b',k,none⟩ hc;rcases hb with hb|hb
      .have hne:b'≠g:=λe=>hb.2 i _ hob (by rw[hL];simp only[Lay.has];rw[hob',e]);refine⟨.inl (h.okL_turn hob (λb hb=>.inl ?_) hb y9),(QPo (a:=⟨b',k,none⟩) (setRow_other w g b' _ hne)).trans hc⟩;rw[hL];simp only[Lay.has] at hb |-;rw[hob'];exact hb
      have:b'=g:=by rw[hob'] at hb;injection hb with hb;exact hb.symm
      subst this;refine⟨.inr rfl,?_⟩;rw[cell_of_row _ _ _ _ e' (0,0) hset];rw[cell_of_row _ _ _ _ e' (0,0) hgg] at hc;simp only[List.getElem?_toArray];rw[J1 _ _ _ _ (by simpa using hfit),if_pos hk];simpa using hc
     have holds:∀j u,xs[j]?=some u->w.cell? ((⟨g,0,none⟩:Addr).add j)=some u:=hown.own.cells (g:=g) (by rw[hv'];rfl)
     have hr:=run_append_grow (P:=P) w t o.type e' ti z hu hi hz ⟨g,0,none⟩ es.length cap xs (by rw[hown.own.1,hsz]) holds ⟨b,off,none⟩ ys.length c news hnl hnews (by omega) (by omega)
      (growslice_fits (by omega) (by rw[hby];exact hbytes))
     have hge:=grownCap_ge w (es.length+ys.length) cap e';have hle:=grownCap_le_maxLen w (es.length+ys.length) cap e' (by omega);have hzl:(Builtin.zeroCells z.cells (grownCap w (es.length+ys.length) cap e'-(es.length+ys.length))).toList.length=(grownCap w (es.length+ys.length) cap e'-(es.length+ys.length))*sy:=by rw[QPu,size_zeroCells,hzs]
     have htot:(xs++news).length=(es.length+ys.length)*sy:=by rw[QOf,hown.own.1,hnl,hsz,QOU]
     refine fresh (grownCap w (es.length+ys.length) cap e') (xs++news++(Builtin.zeroCells z.cells (grownCap w (es.length+ys.length) cap e'-(es.length+ys.length))).toList) hge hle ?_ ?_ ?_
     .rw[QOf,htot,hzl,<- QOU]
      congr 1;omega
     .rw[<- htot]
      exact List.take_left
     rw[hv',hyy,hr]
     congr 3;apply Array.ext';simp
    cases he
   cases he
  cases he
 all_goals grind
end
set_option linter.all false
section
variable{P:Program}{ok0:Nat->Prop}{N:Fm}{w0:XS}{lk:Nat->AV}{lo:Nat->Option AO}{a:Act}{w:World}{L:Nat->Lay}{o:Oper}
variable{s f:Prop}{v:AV}{up:Option (Nat×AO)}
def Rel.newOne{w' id ob}(h:Rel ok0 N w0 lk lo a w L)(hid:lo id=none)(hb:Below w.heap.size w w')(hd:ob.data=true)
  (ho:∀ok lo' L',¬w0.fr w.heap.size->(∀b,okL ok0 lo L b->b<w.heap.size->ok b)->QK w0.fr ok w' lo' L' ob (.one w.heap.size)):
  Rel ok0 N w0 lk (Zn lo id ob) a w' (Q7 L id (.one w.heap.size)):=by
 refine h.new _ hid _ _ hb (λb hb=>by grind) (ho _ _ _ (h.frlt (QN3 _)) λb hb y9=>?_);grind
def Rel.turnOne{w' id b ob ob'}(h:Rel ok0 N w0 lk lo a w L)(hid:lo id=some ob)(hL:L id=.one b)(hg:Qix (λk=>b=k) w w')
  (href:∀ok lo' L' x v,lo' id=some ob'->L' id=.one b->AV.refs id x=true->QG (okL ok0 lo L) w lo L x v->QG ok w' lo' L' x v)
  (ho:∀ok lo' L',(∀k,okL ok0 lo L k->k<w.heap.size->ok k/\w'.heap[k]?=w.heap[k]?)->QK w0.fr (okL ok0 lo L) w lo L ob (.one b)->QK w0.fr ok w' lo' L' ob' (.one b)):
  Rel ok0 N w0 lk (Zn lo id ob') a w' (Q7 L id (.one b)):=by
 have hl':∀k,(Lay.one b).has k->(L _).has k\/w.heap.size<=k:=λk hk=>.inl (by rw[hL];exact hk);have hok:∀k,okL _ _ L k->k<w.heap.size->okL _ (Zn _ _ ob') _ k:=λk hk y9=>h.okL_turn hid hl' hk y9;refine h.turn _ hid ⟨hg.os,hg.tape,hg.output,hg.size,λk hk hn=>hg.block k hk (λe=>hn (by rw[hL];exact e))⟩ hl' (λx v hx hr=>href _ _ _ x v (by simp[Zn]) (by simp[Q7]) hx hr) (λ_=>?_);have:=h.y8 _ _ hid;rw[hL] at this;refine ho _ _ _ (λk hk y9=>⟨hok k hk y9,hg.block k y9 (λe=>hk.2 _ _ hid (by rw[hL];exact e))⟩) this
def Wu(w b ob):Qix (λk=>b=k) w { w with heap:=w.heap.setIfInBounds b ob }:=
 ⟨rfl,rfl,rfl,by simp,λk _ hn=>by simp_all⟩
def VZ{x u}(r:QG (okL ok0 lo L) w lo L (.iv x) u):QZ (okL ok0 lo L) w x u:=by cases r;assumption
def DnY(P:Program)(o:Oper)(ok0:Nat->Prop)(N:Fm)(w0:XS)(lk:Nat->AV)(lo:Nat->Option AO)(a:Act)(w:World)(L:Nat->Lay)(op:YOp):Prop:=∀{s f v up},Rel ok0 N w0 lk lo a w L->YOp.fits P op o.op=true->evY lk lo op=.ok s f v up->s->f/\Q6 P o ok0 N w0 lk lo a w v up
def Qu0{id x}:DnY P o ok0 N w0 lk lo a w L (.s2b id x):=by
 intro s f v up h hf he hs;simp only[YOp.fits] at hf;split at hf
 .rename_i sT dT y ho;simp only[QNZ] at hf;have⟨⟨hx,hs1⟩,hd⟩:=hf;have rx:=Opd.rep h hx;simp only[evY] at he;split at he
  .rename_i st hxv hid;cases he;rw[hxv] at rx;have hv:=YM rx;unfold ZP at hs1;split at hs1
   .rename_i hus;unfold Wz at hd;split at hd
    .rename_i e hud;have hue:P.underlying e=some (.int .u8):=by
      simp only[beq_iff_eq] at hd;unfold Qaq at hd;grind
     have hrun:=Lib.run_convert_string_bytes (P:=P) w sT dT e ⟨st.toArray⟩ hus hud hue;have hold:∀k,k<w.heap.size->(Lib.bytesWorld w e ⟨st.toArray⟩).heap[k]?=w.heap[k]?:=λk hk=>Lib.bytesWorld_at_old w e _ k hk;have hb:Below w.heap.size w (Lib.bytesWorld w e ⟨st.toArray⟩):=⟨rfl,rfl,rfl,by rw[Lib.bytesWorld_size];omega,hold⟩;have hsz:(⟨st.toArray⟩:ByteArray).size=st.length:=by simp[ByteArray.size]
     have hge:=grownCap_ge w st.length 0 e;have hnew:=Lib.bytesWorld_at_new w e ⟨st.toArray⟩;refine⟨trivial,_,.slice (some ⟨w.heap.size,0,none⟩) st.length (grownCap w st.length 0 e),_,_,by simp[execOp,ho,hv,hrun,hsz],.inl rfl,h.newOne hid hb rfl (λok lo' L' hF _=>⟨hF,_,_,hnew,?_,λi c hc=>?_⟩),?_⟩
     .simp only[Lib.bytesCells,hsz,Array.size_append,Array.size_map,Array.size_replicate];simp
     .have hi:i<st.length:=(QNY.1 hc).1;have hc':st[i]=c:=(QNY.1 hc).2;simp only[Lib.bytesCells];grind
     exact .obytes id _ _ st (by simp[upO,Zn]) (by simp[Q7])
    cases hd
   cases hs1
  cases he
 .cases hf
def QeN{ok B st b i c}(h:QK B ok w lo L (.bytes st) (.one b))(hc:st[i]?=some c):w.cell? ⟨b,i,none⟩=some (.int .u8 c.toNat):=by have⟨_,cur,t,hb,_,hx⟩:=h;simp[World.cell?,hb,hx i c hc]
def QrS{id x}:DnY P o ok0 N w0 lk lo a w L (.b2so id x):=by
 intro s f v up h hf he hs;simp only[YOp.fits] at hf;split at hf
 .rename_i sT dT y ho;simp only[QNZ] at hf;have⟨⟨hx,hs1⟩,hd⟩:=hf;have rx:=Opd.rep h hx;simp only[evY] at he;split at he
  .rename_i i st hxv hid;split at he
   .rename_i hii;subst hii;cases he;rw[hxv] at rx;generalize hey:a.eval y=yv at rx;have hob:=h.y8 _ _ hid;cases rx with
    |obytes _ b cap s2 ho' hL=>
     rw[hid] at ho';injection ho' with ho';injection ho' with ho';subst ho';rw[hL] at hob;unfold ZP at hd;split at hd
     .rename_i hud;unfold Wz at hs1;split at hs1
      .rename_i e hus;have hue:P.underlying e=some (.int .u8):=by
        simp only[beq_iff_eq] at hs1;unfold Qaq at hs1;grind
       have hrun:=run_convert_bytes_back (P:=P) w sT dT e ⟨b,0,none⟩ cap st hus hue hud (λj hj=>by rw[addr_add,QOn];exact QeN hob (QNX hj))
       exact⟨trivial,Q6.pure h (u:=.string ⟨st.toArray⟩) (by simp[execOp,ho,hey,hrun]) (Vp st)⟩
      cases hs1
     cases hd
    |_=>grind
   cases he
  cases he
 .cases hf
def Qoi{id st u}(hid:lo id=some (.bytes st))(r:QG (okL ok0 lo L) w lo L (.yk id) u):∃b cap,L id=.one b/\u=.slice (some ⟨b,0,none⟩) st.length cap:=by grind
def QhD{id n st u}(hid:lo id=some (.bytes st))(r:QG (okL ok0 lo L) w lo L (.yr id n) u):∃b,L id=.one b/\u=.pointer (some ⟨b,n,none⟩):=by
 cases r with
 |yr _ _ b s2 ho' hL hi=>exact⟨b,hL,rfl⟩
def Qvl{id x i}:DnY P o ok0 N w0 lk lo a w L (.ixb id x i):=by
 intro s f v up h hf he hs;simp only[YOp.fits] at hf;split at hf
 .rename_i t x' i' ho;simp only[QNZ] at hf;have⟨⟨hx,hi⟩,hsz⟩:=hf;have⟨e,ti,hu,hti,hts⟩:=Xn hsz;have rx:=Opd.rep h hx;have ri:=Opd.rep h hi;simp only[evY] at he;split at he
  .rename_i j k n st hxv hiv hid;split at he
   .rename_i hji;subst hji;cases he;rw[hxv] at rx;rw[hiv] at ri;have hei:=Zw ri;have⟨b,cap,hL,hv⟩:=Qoi hid rx;refine⟨trivial,Q6.pure h (u:=.pointer (some ⟨b,0+n.toNat*1,none⟩)) ?_ ?_⟩
    .simp only[execOp,ho,hv,hei,Sem.run_bind,Wq hu hti hts b 0 st.length cap k n hs.1 hs.2];rfl
    grind
   cases he
  cases he
 .cases hf
def Qvg{id x}:DnY P o ok0 N w0 lk lo a w L (.ldb id x):=by
 intro s f v up h hf he hs;simp only[YOp.fits] at hf;split at hf
 .rename_i t y ho;simp only[QNZ,beq_iff_eq] at hf;have⟨⟨hx,hag⟩,hn⟩:=hf;have rx:=Opd.rep h hx;simp only[evY] at he;split at he
  .rename_i j n st hxv hid;split at he
   .rename_i hji;subst hji;cases he;rw[hxv] at rx;have⟨b,hL,hv⟩:=QhD hid rx;have hob:=h.y8 _ _ hid;rw[hL] at hob;have hc:=QeN hob (QNX hs)
    have hload:=Xd (P:=P) (w:=w) hag hn b n [.int .u8 (st[n]).toNat] rfl (by simp) (λk u hu=>by grind)
    refine⟨trivial,Q6.pure h (u:=.int .u8 (st[n]).toNat) ?_ ?_⟩
    .simp[execOp,ho,hv,Instr.loadAt,Instr.sureAddr,hload]
    have e:st.getD n 0=st[n]:=by simp[List.getD,hs]
    rw[e];exact ZH _ _
   cases he
  cases he
 .cases hf
def Qfg{t b n u cur ty}(hn:Program.sizeIs P t 1=true)(hu:u.oneCell'=true)(hc:u.cells=#[u])(hb:w.heap[b]?=some (.cells cur ty (cur.size,cur.size+1)))(y9:n<cur.size):(storeVar t ⟨b,n,none⟩ u).run P w=.ok () (w.setRow b (cur.setIfInBounds n u)):=by
 unfold Program.sizeIs at hn;cases hi:P.info? t with
 |none=>simp[hi] at hn
 |some i=>
  have hs:i.size=1:=by simpa[hi] using hn
  have hcell:w.cell? ⟨b,n,none⟩=some cur[n]:=by simp[World.cell?,hb,y9]
  have hfro:w.frozen? ⟨b,n,none⟩=false:=by simp only[World.frozen?,hb,Bool.and_eq_false_iff,decide_eq_false_iff_not];left;omega
  have hst:(store ((⟨b,n,none⟩:Addr).add 0) u).run P w=.ok () (w.setRow b (cur.setIfInBounds n u)):=by rw[addr_add,QPd,run_store P w _ u _ hu,hcell];simp[hfro,setCell_eq_setRow w b n cur ty _ u hb]
  have hsz:(sizeOf t).run P w=.ok 1 w:=by simp[sizeOf,typeInfo,hi,hs]
  simp[storeVar,hc,hsz,storeCells,hst]
def QuX{id x y}:DnY P o ok0 N w0 lk lo a w L (.stb id x y):=by
 intro s f v up h hf he hs;simp only[YOp.fits] at hf;split at hf
 .rename_i t x' y' ho;simp only[QNZ] at hf;have⟨⟨hx,hy⟩,hn⟩:=hf;have rx:=Opd.rep h hx;have ry:=Opd.rep h hy;simp only[evY] at he;split at he
  .rename_i j n m st hxv hyv hid;split at he
   .rename_i hji;subst hji;cases he;rw[hxv] at rx;rw[hyv] at ry;have hey:=Zw ry;have⟨b,hL,hv⟩:=QhD hid rx;have hob:=h.y8 _ _ hid;rw[hL] at hob;have⟨hF,cur,ty,hb,hlen,hcells⟩:=hob;have⟨y9,hm0,hm1⟩:=hs;have hltc:n<cur.size:=by omega
    have hst:=Qfg (P:=P) (u:=.int .u8 m) hn rfl rfl hb hltc;have hset:=setRow_heap w b cur (cur.setIfInBounds n (.int .u8 m)) ty (cur.size,cur.size+1) hb;have hg:=Qix.of (S:=λk=>b=k) (Xx w b (cur.setIfInBounds n (.int .u8 m))) (λk hk=>by injection hk);refine⟨trivial,.skip,undef,_,Q7 L j (.one b),?_,.inr ⟨rfl,rfl⟩,h.turnOne (ob':=.bytes (st.set n (UInt8.ofNat m.toNat))) hid hL hg (λok lo' L' x v h1 h2 hx hr=>?_) (λok lo' L' hok _=>?_),?_⟩
    .simp[execOp,ho,hv,hey,Instr.storeAt,Instr.sureAddr,hst]
    .cases hr with
     |_=>grind
    .refine⟨hF,cur.setIfInBounds n (.int .u8 m),ty,by simpa using hset,by simpa using hlen,λi c hc=>?_⟩;rw[List.getElem?_set] at hc;rw[QPr];split at hc
     .rename_i hni;subst hni;rw[if_pos rfl,if_pos hltc];injection hc with hc;subst hc;have e:(UInt8.ofNat m.toNat).toNat=m.toNat:=by simp;omega
      rw[e,Int.toNat_of_nonneg hm0]
     rename_i hni;rw[if_neg hni];exact hcells i c hc
    exact .iv _ _ (.any _)
   cases he
  cases he
 .cases hf
def QAS{mn x y}:DnY P o ok0 N w0 lk lo a w L (.mx mn x y):=by
 intro s f v up h hf he hs;simp only[YOp.fits] at hf;split at hf
 .rename_i b az ts ho;split at hf
  .rename_i x' y' has;simp only[QNZ] at hf;have⟨⟨hb,hx⟩,hy⟩:=hf;have rx:=Opd.rep h hx;have ry:=Opd.rep h hy;simp only[evY] at he;split at he
   .rename_i k p k' q hxv hyv;split at he
    .rename_i hkk;subst hkk;cases he;rw[hxv] at rx;rw[hyv] at ry;have hex:=Zw rx;have hey:=Zw ry;have has':az=#[x',y']:=by rw[<- Array.toList_inj];exact has
     cases mn with
     |true=>
      cases b<;>first|(cases hb;done)|skip
      refine⟨trivial,Q6.pure h (u:=.int k (if q<p then q else p)) ?_ (ZH _ _)⟩;simp[execOp,ho,has',hex,hey,resolve,invoke,builtin,Builtin.min_,Builtin.min2]
     |false=>
      cases b<;>first|(cases hb;done)|skip
      refine⟨trivial,Q6.pure h (u:=.int k (if p<q then q else p)) ?_ (ZH _ _)⟩;simp[execOp,ho,has',hex,hey,resolve,invoke,builtin,Builtin.max_,Builtin.max2]
    cases he
   cases he
  cases hf
 .cases hf
def QrG{id x}:DnY P o ok0 N w0 lk lo a w L (.rngs id x):=by
 intro s f v up h hf he hs;simp only[YOp.fits] at hf;split at hf
 .rename_i t y ho;simp only[QNZ] at hf;have⟨hx,hst⟩:=hf;have rx:=Opd.rep h hx;simp only[evY] at he;split at he
  .rename_i st hxv hid;cases he;rw[hxv] at rx;have hv:=YM rx;unfold ZP at hst;split at hst
   .rename_i hu;have hrun:=run_range_string (P:=P) w t ⟨st.toArray⟩ hu;have hw:w.iter ⟨st.toArray⟩ 0=w.alloc (.stringIter ⟨st.toArray⟩ 0):=rfl;rw[hw] at hrun;refine⟨trivial,_,.pointer (some ⟨w.heap.size,0,none⟩),_,_,by simp[execOp,ho,hv,hrun],.inl rfl,h.newOne hid (QF w _) rfl (λok lo' L' hF _=>⟨hF,heap_alloc_new w _⟩),?_⟩;exact .yk id _ (.siter st 0) (by simp[upO,Zn]) rfl (by simp[Q7])
   cases hst
  cases he
 .cases hf
def Qu6{id r}:DnY P o ok0 N w0 lk lo a w L (.mkm id r):=by
 intro s f v up h hf he hs;simp only[YOp.fits] at hf;split at hf
 .rename_i t ho;simp only[evY] at he;split at he
  .rename_i hid;cases he;have hrun:=run_makeMap (P:=P) t w;have mr:∀key,Vf 0 #[] 0 key:=λkey=>⟨rfl,by simp,by simp,by simp⟩;cases r with
   |none=>refine⟨trivial,_,.map (some w.heap.size),_,_,by simp[execOp,ho,hrun],.inl rfl,h.newOne hid (QF w _) rfl (λok lo' L' hF _=>⟨hF,#[],0,heap_alloc_new w _,mr _,by simp,by simp⟩),?_⟩;exact .omap id _ [] (by simp[upO,Zn]) (by simp[Q7])
   |some p=>
    have⟨e,sz⟩:=p;refine⟨trivial,_,.map (some w.heap.size),w.alloc (.map #[] 0),Q7 L id (.map w.heap.size []),by simp[execOp,ho,hrun],.inl rfl,?_,?_⟩
    .refine h.new id hid _ _ (QF w _) (λb hb=>by simp[Lay.has] at hb;omega) ⟨h.frlt (QN3 _),⟨#[],0,heap_alloc_new w _,0,QN3 _,mr _,by simp,by simp⟩,by simp,rfl,by simp,by simp⟩
    exact .orow id _ e sz [] none [] (by simp[upO,Zn]) (by simp[Q7])
  cases he
 cases hf
def Qn6{id st pos x u}(hid:lo id=some (.siter st pos))(hx:AV.refs id x=true)(hr:QG (okL ok0 lo L) w lo L x u):x=.yk id/\∃b,L id=.one b/\u=.pointer (some ⟨b,0,none⟩):=by
 cases hr with
 |_=>grind
def Qed{id kvs seen x u}(hid:lo id=some (.yq kvs seen))(hx:AV.refs id x=true)(hr:QG (okL ok0 lo L) w lo L x u):x=.yk id/\∃b,L id=.one b/\u=.pointer (some ⟨b,0,none⟩):=by
 cases hr with
 |_=>grind
def W2{id kvs x u}(hid:lo id=some (.xh kvs))(hx:AV.refs id x=true)(hr:QG (okL ok0 lo L) w lo L x u):x=.yk id/\∃b,L id=.one b/\u=.map (some b):=by
 cases hr with
 |_=>grind
def Uf{id e sz kvs pend x u}(hid:lo id=some (.yo e sz kvs pend))(hx:AV.refs id x=true)(hr:QG (okL ok0 lo L) w lo L x u):∃b vals,L id=.map b vals/\((x=.yk id/\u=.map (some b))\/∃k n,x=.yn id k n/\isSl u=true/\n<=((Qv k kvs).getD []).length/\(((Qv k kvs).getD []).length=n->u=(Qv k vals).getD (.slice none 0 0))):=by
 cases hr with
 |_=>grind
def Yv(id):AV.refs id (.yk id)=true:=by simp[AV.refs]
def QrJ{id x}:DnY P o ok0 N w0 lk lo a w L (.nxts id x):=by
 intro s f v up h hf he hs;simp only[YOp.fits] at hf;split at hf
 .rename_i y s2 ho;simp only[QNZ] at hf;have⟨hx,hs2⟩:=hf;subst hs2;have rx:=Opd.rep h hx;simp only[evY] at he;split at he
  .rename_i j st pos hxv hid;split at he
   .rename_i hji;subst hji;rw[hxv] at rx;have⟨_,b,hL,hv⟩:=Qn6 hid (Yv j) rx;have hob:=h.y8 _ _ hid;rw[hL] at hob;have⟨hF,hb⟩:=hob;have hsz:(⟨st.toArray⟩:ByteArray).size=st.length:=by simp[ByteArray.size]
    split at he
    .rename_i hpos;cases he;have hrun:=Lib.run_next_any_at (P:=P) w b ⟨st.toArray⟩ pos o.type hb (by rw[hsz];exact hpos);refine⟨trivial,_,.tuple #[.bool true,.int .i64 pos,.int .i32 (Qtk st pos).1],_,Q7 L j (.one b),by simp[execOp,ho,hv,hrun,Qtk];rfl,.inl rfl,h.turnOne (ob':=.siter st (pos+(Qtk st pos).2)) hid hL (Wu w b _) (λok lo' L' x' v' h1 h2 hx' hr=>?_) (λok lo' L' hok _=>?_),?_⟩
     .grind
     .refine⟨hF,?_⟩;have y9:b<w.heap.size:=(QN8.1 hb).1;simp[y9,Qtk]
     refine .iv _ _ (.xf _ [_,_,_] rfl λk x u hk hu=>?_)
     match k with
     |0=>simp at hk hu;subst hk hu;exact .bool _
     |1=>simp at hk hu;subst hk hu;exact .int _ _
     |2=>simp at hk hu;subst hk hu;exact .int _ _
     |k+3=>simp at hk
    rename_i hpos;cases he;have hrun:=Lib.run_next_end_at (P:=P) w b ⟨st.toArray⟩ pos o.type hb (by rw[hsz];exact hpos);refine⟨trivial,Q6.pure h (u:=.tuple #[.bool false]) (by simp[execOp,ho,hv,hrun]) (.iv _ _ (.xf _ [_] rfl λk x u hk hu=>?_))⟩
    match k with
    |0=>simp at hk hu;subst hk hu;exact .bool _
    |k+1=>simp at hk
   cases he
  cases he
 .cases hf
theorem Qhv{α:Type}{kk:Option IntKind}:∀{kvs:List (MK×α)},ZC kk kvs->∀{i:Nat}{p:MK×α},kvs[i]?=some p->p.1.kind=kk
 |[],_,i,p,h=>by simp at h
 |q::r,hk,i,p,h=>by
  cases i with
  |zero=>simp at h;subst h;exact hk.1
  |succ i=>exact Qhv hk.2 h
def Y6{kk x k}(h:keyOf kk x=some k):k.kind=kk/\∀{ok u},QG ok w lo L x u->u=k.val:=by
 unfold keyOf at h;split at h
 .split at h
  .rename_i hk;injection h with h;subst h;exact⟨hk.symm,λr=>Zw r⟩
  cases h
 .split at h
  .rename_i hk;injection h with h;subst h;exact⟨hk.symm,λr=>YM r⟩
  cases h
 .cases h
def Vz{kk:Option IntKind}{t:TypeId}(ht:Qjl P kk t=true){k:MK}(hk:k.kind=kk):∃d,P.underlying t=some d/\MapKept.IsKey d k.val:=by
 unfold Qjl at ht;split at ht
 .rename_i k1 k2 hu;simp only[beq_iff_eq] at ht;subst ht;cases k with
  |int k n=>simp only[MK.kind,Option.some.injEq] at hk;subst hk;exact⟨_,hu,rfl⟩
  |str s=>cases hk
 .rename_i hu;cases k with
  |int k n=>cases hk
  |str s=>exact⟨_,hu,trivial⟩
 .cases ht
def Qxv{a b:MK}(h:a.val=b.val):a=b:=by
 cases a<;>cases b<;>simp only[MK.val] at h
 all_goals grind
theorem XP{α:Type}{k:MK}:∀{kvs:List (MK×α)}{y:α},Qv k kvs=some y->∃i:Nat,kvs[i]?=some (k,y)
 |[],y,h=>by simp[Qv] at h
 |p::r,y,h=>by
  unfold Qv at h;split at h
  .rename_i hk;injection h with h;exact⟨0,by have⟨a,b⟩:=p;simp at hk h;subst hk h;rfl⟩
  .obtain⟨i,hi⟩:=XP h;exact⟨i+1,by simpa using hi⟩
theorem UN{α:Type}{k:MK}:∀{kvs:List (MK×α)},(∀(i j:Nat)(p q:MK×α),kvs[i]?=some p->kvs[j]?=some q->p.1=q.1->i=j)->∀{i:Nat}{y:α},kvs[i]?=some (k,y)->Qv k kvs=some y
 |[],_,i,y,h=>by simp at h
 |p::r,hd,i,y,h=>by
  unfold Qv;cases i with
  |zero=>simp at h;subst h;simp
  |succ i=>
   have hne:p.1≠k:=λe=>by have:=hd 0 (i+1) p (k,y) rfl h e;omega
   rw[if_neg hne];exact UN (λi j p q a b c=>by have:=hd (i+1) (j+1) p q (by simpa using a) (by simpa using b) c;omega) (by simpa using h)
theorem Qaf{α:Type}{k:MK}:∀{kvs:List (MK×α)},Qv k kvs=none->∀(i:Nat)(p:MK×α),kvs[i]?=some p->p.1≠k
 |[],_,i,p,h=>by simp at h
 |q::r,hn,i,p,h=>by
  unfold Qv at hn;split at hn
  .cases hn
  .rename_i hk;cases i with
   |zero=>simp at h;subst h;exact hk
   |succ i=>exact Qaf hn i p h
def Jo{α}{d:TypeDesc}{kvs:List (MK×α)}{n es clock}(hm:Vf n es clock (λi=>(kvs[i]?).map (·.1)))(hn:n<=kvs.length)
  (hd:∀(i j:Nat)(p q:MK×α),kvs[i]?=some p->kvs[j]?=some q->p.1=q.1->i=j){k:MK}(hk:MapKept.IsKey d k.val)(hks:∀(i:Nat)(p:MK×α),kvs[i]?=some p->MapKept.IsKey d p.1.val):
  (Instr.findNow d k.val es.toList 0=some none/\∀(i)(p:MK×α),i<n->kvs[i]?=some p->p.1≠k) \/
  ∃(i:Nat)(e:MapEntry)(p:MK×α),Instr.findNow d k.val es.toList 0=some (some (i,e.val))/\i<n/\es[i]?=some e/\kvs[i]?=some p/\p.1=k/\e.key=k.val:=by
 have keyAt:∀i e,es[i]?=some e->∃p:MK×α,kvs[i]?=some p/\e.key=p.1.val/\i<n:=by intro i e he;have⟨k',h1,h2⟩:=hm.keys i e he;rw[QN2] at h1;have⟨p,h3,h4⟩:=h1;have:=(QN8.1 he).1;rw[hm.size] at this;exact⟨p,h3,by rw[h2,<- h4],this⟩
 rcases MapKept.findNow_spec hk es.toList 0 (λx hx=>by have⟨i,hi⟩:=QOF hx;grind) with ⟨h1,h2⟩|⟨j,e,h1,h2,h3⟩
 .refine .inl ⟨h1,λi p hi hp e=>?_⟩;have y9:i<es.size:=by rw[hm.size];exact hi
  have he:=QOR y9;grind
 .have he:es[j]?=some e:=by simpa using h2
  have⟨p,h4,h5,h6⟩:=keyAt j e he;refine .inr ⟨j,e,p,by simpa using h1,h6,he,h4,Qxv (by rw[<- h5,h3]),h3⟩
def UF{t kt et}{d:TypeDesc}{r es clock key z}{i:TypeInfo}{res}(hm:P.underlying t=some (.map kt et))(hd:P.underlying kt=some d)
  (hb:w.heap[r]?=some (.map es clock))(hk:MapKept.IsKey d key)(hi:P.info? et=some i)(hz:i.zero=some z)(hf:Instr.findNow d key es.toList 0=some res):
  (Instr.lookup t (.map (some r)) key false).run P w=.ok ((res.map (·.2)).getD z) w:=by
 have hc:=MapKept.run_checkKey (P:=P) (w:=w) hd hk es.isEmpty 9999;have hff:=MapKept.run_findKey (P:=P) (w:=w) hd hf;have hzz:(zeroValue et).run P w=.ok z w:=by simp[zeroValue,typeInfo,hi,hz]
 cases res with
 |none=>simp[Instr.lookup,run_underlying hm,MapKept.run_getObj_map hb,hc,hff,hzz]
 |some q=>simp[Instr.lookup,run_underlying hm,MapKept.run_getObj_map hb,hc,hff]
def UO{kk t e}(h:QdC P kk t=some e):∃kt,P.underlying t=some (.map kt e)/\Qjl P kk kt=true:=by unfold QdC at h;grind
def QcD{kk z t}(h:QFv P kk z t=true):∃kt e i v,P.underlying t=some (.map kt e)/\Qjl P kk kt=true/\P.info? e=some i/\i.zero=some v/\z.isVal v=true:=by
 unfold QFv at h;split at h
 .rename_i e he;have⟨kt,h1,h2⟩:=UO he;grind
 .cases h
def Yg{α:Type}{kk:Option IntKind}{kt:TypeId}{d:TypeDesc}{kvs:List (MK×α)}(hk:ZC kk kvs)(ht:Qjl P kk kt=true)(hd:P.underlying kt=some d):∀(i:Nat)(p:MK×α),kvs[i]?=some p->MapKept.IsKey d p.1.val:=by intro i p hp;have⟨d',h1,h2⟩:=Vz ht (Qhv hk hp);rw[hd] at h1;injection h1 with h1;subst h1;exact h2
def Qho{kvs:List (MK×IV)}{es:Array MapEntry}{clock r:Nat}{t kt et:TypeId}{d:TypeDesc}{k:MK}{z:Value}{zv:IV}{i:TypeInfo}{ok:Nat->Prop}(hm:P.underlying t=some (.map kt et))(hd:P.underlying kt=some d)
  (hb:w.heap[r]?=some (.map es clock))(hmr:Vf kvs.length es clock (λi=>(kvs[i]?).map (·.1)))(hdd:∀(i j:Nat)(p q:MK×IV),kvs[i]?=some p->kvs[j]?=some q->p.1=q.1->i=j)
  (hx:∀(i:Nat)(e:MapEntry)(p:MK×IV),es[i]?=some e->kvs[i]?=some p->QZ ok w p.2 e.val)(hk:MapKept.IsKey d k.val)(hks:∀(i:Nat)(p:MK×IV),kvs[i]?=some p->MapKept.IsKey d p.1.val)
  (hi:P.info? et=some i)(hz:i.zero=some z)(hzr:QZ ok w zv z):∃u,(Instr.lookup t (.map (some r)) k.val false).run P w=.ok u w/\QZ ok w ((Qv k kvs).getD zv) u:=by
 rcases Jo hmr (QN3 _) hdd hk hks with ⟨h1,h2⟩|⟨j,e,p,h1,_,h3,h4,h5,_⟩
 .refine⟨z,UF hm hd hb hk hi hz h1,?_⟩;cases hf:Qv k _ with
  |none=>exact hzr
  |some y=>have⟨j,hj⟩:=XP hf;exact absurd rfl (h2 j _ (QNY.1 hj).1 hj)
 .refine⟨e.val,UF hm hd hb hk hi hz h1,?_⟩;subst h5;rw[UN hdd h4];exact hx j e _ h3 h4
def Qva{kk:Option IntKind}{z x k:Opd}:DnY P o ok0 N w0 lk lo a w L (.lki kk z x k):=by
 intro s f v up h hf he hs;simp only[YOp.fits] at hf;split at hf
 .rename_i t x' k' c ho;simp only[QNZ,QOD] at hf;have⟨⟨⟨hx,hk⟩,hc⟩,hz⟩:=hf;subst hc;have rx:=Opd.rep h hx;have rk:=Opd.rep h hk;simp only[evY] at he;split at he
  .rename_i kvs key zv hxv hkv hzv;cases he;have⟨kt,et,i,zz,hm,hkt,hi,hiz,hzz⟩:=QcD hz;have⟨hkk,hkval⟩:=Y6 (w:=w) (lo:=lo) (L:=L) hkv;have⟨d,hd,hik⟩:=Vz hkt hkk;have hke:=hkval rk;rw[hxv] at rx;have hzr:QZ (okL ok0 lo L) w zv zz:=by
    have:=Opd.repVal (ok:=okL ok0 lo L) (w:=w) (lo:=lo) (L:=L) (lk:=lk) hzz;rw[hzv] at this;exact VZ this
   have ri:=VZ rx;generalize hey:a.eval x'=xv at ri;cases ri with
   |mapn=>
    have hc:=MapKept.run_checkKey (P:=P) (w:=w) hd hik true 9999;have hff:=MapKept.run_findKey (P:=P) (w:=w) (k:=key.val) (l:=[]) (a:=none) hd rfl;have hzz:(zeroValue et).run P w=.ok zz w:=by simp[zeroValue,typeInfo,hi,hiz]
    exact⟨trivial,Q6.pure h (u:=zz) (by simp[execOp,ho,hey,hke,Instr.lookup,run_underlying hm,hc,hff,hzz]) (.iv _ _ (by simpa[Qv] using hzr))⟩
   |map _ r es clock hok hr hmr hdd hxx=>have⟨u,h1,h2⟩:=Qho (P:=P) hm hd hr hmr hdd hxx hik (Yg hs hkt hd) hi hiz hzr;exact⟨trivial,Q6.pure h (u:=u) (by simp[execOp,ho,hey,hke,h1]) (.iv _ _ h2)⟩
  cases he
 .cases hf
def Qvb{id:Nat}{kk:Option IntKind}{z x k:Opd}:DnY P o ok0 N w0 lk lo a w L (.lkd id kk z x k):=by
 intro s f v up h hf he hs;simp only[YOp.fits] at hf;split at hf
 .rename_i t x' k' c ho;simp only[QNZ,QOD] at hf;have⟨⟨⟨hx,hk⟩,hc⟩,hz⟩:=hf;subst hc;have rx:=Opd.rep h hx;have rk:=Opd.rep h hk;simp only[evY] at he;split at he
  .rename_i j key zv kvs hxv hkv hzv hid;split at he
   .rename_i hji;subst hji;cases he;have⟨kt,et,i,zz,hm,hkt,hi,hiz,hzz⟩:=QcD hz;have⟨hkk,hkval⟩:=Y6 (w:=w) (lo:=lo) (L:=L) hkv;have⟨d,hd,hik⟩:=Vz hkt hkk;have hke:=hkval rk;rw[hxv] at rx;have hzr:QZ (okL ok0 lo L) w zv zz:=by
     have:=Opd.repVal (ok:=okL ok0 lo L) (w:=w) (lo:=lo) (L:=L) (lk:=lk) hzz;rw[hzv] at this;exact VZ this
    have⟨_,b,hL,hv⟩:=W2 hid (Yv j) rx;have hob:=h.y8 _ _ hid;rw[hL] at hob;have⟨hF,es,clock,hb,hmr,hdd,hxx⟩:=hob;have⟨u,h1,h2⟩:=Qho (P:=P) hm hd hb hmr hdd hxx hik (Yg hs hkt hd) hi hiz hzr;exact⟨trivial,Q6.pure h (u:=u) (by simp[execOp,ho,hv,hke,h1]) (.iv _ _ h2)⟩
   cases he
  cases he
 .cases hf
theorem YK.isSl{Fr e sz v n xs}(h:YK Fr w e sz v n xs):Ev.isSl v=true:=by rcases h.own.2 with ⟨hv,_⟩|⟨g,cap,cur,hv,_⟩<;>rw[hv]<;>rfl
def qT{α β:Type}{kvs:List (MK×α)}{vals:List (MK×β)}(hk:vals.map (·.1)=kvs.map (·.1))(hd:∀(i j:Nat)(p q:MK×α),kvs[i]?=some p->kvs[j]?=some q->p.1=q.1->i=j):
  ∀(i j:Nat)(p q:MK×β),vals[i]?=some p->vals[j]?=some q->p.1=q.1->i=j:=by
 intro i j p q hp hq hpq;have⟨p',h1,h2⟩:=QaK hk hp;have⟨q',h3,h4⟩:=QaK hk hq;exact hd i j _ _ h1 h3 (by rw[h2,h4,hpq])
def Qo1{α β:Type}{kvs:List (MK×α)}{vals:List (MK×β)}(hk:vals.map (·.1)=kvs.map (·.1)){i:Nat}{p:MK×α}(hp:kvs[i]?=some p):∃q,vals[i]?=some q/\q.1=p.1:=QaK hk.symm hp
def Qu9{id:Nat}{kk:Option IntKind}{x k:Opd}:DnY P o ok0 N w0 lk lo a w L (.lkr id kk x k):=by
 intro s f v up h hf he hs;simp only[YOp.fits] at hf;split at hf
 .rename_i t x' k' c ho;simp only[QNZ,QOD] at hf;have⟨⟨⟨hx,hk⟩,hc⟩,hz⟩:=hf;subst hc;have rx:=Opd.rep h hx;have rk:=Opd.rep h hk;simp only[evY] at he;split at he
  .rename_i j key e sz kvs hxv hkv hid;split at he
   .rename_i hji;subst hji;cases he;have⟨kt,et,i,zz,hm,hkt,hi,hiz,hzz⟩:=QcD hz;have⟨hkk,hkval⟩:=Y6 (w:=w) (lo:=lo) (L:=L) hkv;have⟨d,hd,hik⟩:=Vz hkt hkk;have hke:=hkval rk;rw[hxv] at rx;have hzn:zz=.slice none 0 0:=by
     simp only[Opd.isVal] at hzz;unfold isN at hzz;grind
    subst hzn;have⟨b,vals,hL,hv⟩:=Uf hid (Yv j) rx;rcases hv with ⟨_,hv⟩|⟨_,_,hv,_⟩
    .have hob:=h.y8 _ _ hid;rw[hL] at hob;have⟨hF,⟨es,clock,hb,n,hn,hmr,hnew,hval⟩,hdd,hkv2,hrow,hap⟩:=hob;have hnk:n=kvs.length:=by
      rcases QPi n kvs.length with y9|hge
      .have:=hnew n _ (QNX y9) (QN3 _);cases this
      omega
     have fin:∀u,(Instr.lookup t (.map (some b)) key.val false).run P w=.ok u w->isSl u=true->u=(Qv key vals).getD (.slice none 0 0)->True/\Q6 P o ok0 N w0 lk lo a w (.yn j key ((Qv key kvs).getD []).length) none:=by intro u hr h1 h2;exact⟨trivial,Q6.pure h (u:=u) (by simp[execOp,ho,hv,hke,hr]) (.yn j key _ e sz kvs none b vals u hid hL h1 (QN3 _) λ_=>h2)⟩
     rcases Jo hmr hn hdd hik (Yg hs hkt hd) with ⟨h1,h2⟩|⟨i2,e2,p,h1,_,h3,h4,h5,_⟩
     .refine fin _ (UF hm hd hb hik hi hiz h1) rfl ?_;cases hf:Qv key vals with
      |none=>rfl
      |some y=>have⟨j2,hj2⟩:=XP hf;have⟨p,h3,h4⟩:=QaK hkv2 hj2;grind
     have⟨q,h6,h7⟩:=Qo1 hkv2 h4;have h8:=hval i2 e2 q h3 h6 (by simp);have⟨xs,h9,_⟩:=hrow i2 p q h4 h6;refine fin _ (UF hm hd hb hik hi hiz h1) (by simp only[QPf,QOG];rw[h8];exact h9.isSl) ?_;have:vals[i2]?=some (key,q.2):=by rw[h6,<- h5,<- h7]
     rw[UN (qT hkv2 hdd) this];exact h8
    cases hv
   cases he
  cases he
 .cases hf
theorem qa{α:Type}{k:MK}{y:α}:∀{kvs:List (MK×α)},(∀(i:Nat)(p:MK×α),kvs[i]?=some p->p.1≠k)->zn k y kvs=kvs++[(k,y)]
 |[],_=>rfl
 |p::r,h=>by unfold zn;rw[if_neg (h 0 p rfl),qa (λi p hp=>h (i+1) p (by simpa using hp))];rfl
theorem W9{α:Type}{k:MK}{y:α}:∀{kvs:List (MK×α)},(∀(i j:Nat)(p q:MK×α),kvs[i]?=some p->kvs[j]?=some q->p.1=q.1->i=j)->∀{i:Nat}{p:MK×α},kvs[i]?=some p->p.1=k->zn k y kvs=kvs.set i (k,y)
 |[],_,i,p,h,_=>by simp at h
 |q::r,hd,i,p,h,hk=>by
  unfold zn;cases i with
  |zero=>simp at h;subst h;rw[if_pos hk];rfl
  |succ i=>
   have hne:q.1≠k:=λe=>by have:=hd 0 (i+1) q p rfl h (by rw[e,hk]);omega
   rw[if_neg hne,W9 (λi j p q a b c=>by have:=hd (i+1) (j+1) p q (by simpa using a) (by simpa using b) c;omega) (by simpa using h) hk]
   rfl
def J7{t kt et}{d:TypeDesc}{r es clock key value}(hm:P.underlying t=some (.map kt et))(hd:P.underlying kt=some d)(hb:w.heap[r]?=some (.map es clock))
  (hk:MapKept.IsKey d key)(hf:Instr.findNow d key es.toList 0=some none):
  (Instr.mapUpdate t (.map (some r)) key value).run P w=.ok () { w with heap:=w.heap.setIfInBounds r (.map (es.push { key,val:=value,born:=clock }) (clock+1)) }:=by
 simp[Instr.mapUpdate,run_underlying hm,MapKept.run_getObj_map hb,MapKept.run_checkKey (P:=P) (w:=w) hd hk false 9999,MapKept.run_findKey (P:=P) (w:=w) hd hf,MapKept.run_setObj_map _ hb]
def J6{t kt et}{d:TypeDesc}{r i es clock key value e}(hm:P.underlying t=some (.map kt et))(hd:P.underlying kt=some d)(hb:w.heap[r]?=some (.map es clock))
  (hk:MapKept.IsKey d key)(hf:Instr.findNow d key es.toList 0=some (some (i,e.val)))(he:es[i]?=some e)(hek:e.key=key):
  (Instr.mapUpdate t (.map (some r)) key value).run P w=.ok () { w with heap:=w.heap.setIfInBounds r (.map (es.modify i λe=>{ e with key,val:=value }) clock) }:=by
 simp[Instr.mapUpdate,run_underlying hm,MapKept.run_getObj_map hb,MapKept.run_checkKey hd hk _ _,MapKept.run_findKey hd hf,he,hek,MapKept.run_keyThatStays hk,MapKept.run_setObj_map _ hb]
def Qmv{n es clock key key' k u}(h:Vf n es clock key)(hk:∀i,i<n->key' i=key i)(hn:key' n=some k):Vf (n+1) (es.push { key:=k.val,val:=u,born:=clock }) (clock+1) key':=by
 refine⟨by simp[h.size],λi e he=>?_,λi e he=>?_,λi j e f he hf heq=>?_⟩
 .rw[QPv] at he;split at he
  .rename_i hi;injection he with he;subst he;exact⟨k,by rw[hi,h.size];exact hn,rfl⟩
  have:=(QN8.1 he).1;rw[hk i (by rw[<- h.size];exact this)];exact h.keys i e he
 .rw[QPv] at he;split at he
  .injection he with he;subst he;exact Nat.lt_succ_self _
  exact Nat.lt_succ_of_lt (h.born i e he)
 .rw[QPv] at he hf;split at he<;>split at hf
  .omega
  .injection he with he;subst he;have:=h.born j f hf;simp only at heq;omega
  .injection hf with hf;subst hf;have:=h.born i e he;simp only at heq;omega
  .exact h.apart i j e f he hf heq
def Qec{n:Nat}{es:Array MapEntry}{clock:Nat}{key:Nat->Option MK}{k:MK}{u:Value}{i0:Nat}{e0:MapEntry}(h:Vf n es clock key)(h0:es[i0]?=some e0)(hk:e0.key=k.val):Vf n (es.modify i0 λe:MapEntry=>{ e with key:=k.val,val:=u }) clock key/\(∀(i:Nat)(e:MapEntry),i≠i0->(es.modify i0 λe:MapEntry=>{ e with key:=k.val,val:=u })[i]?=some e->es[i]?=some e) /\
   ∀e:MapEntry,(es.modify i0 λe:MapEntry=>{ e with key:=k.val,val:=u })[i0]?=some e->e.val=u:=by
 have get:∀(i:Nat)(e:MapEntry),(es.modify i0 λe:MapEntry=>{ e with key:=k.val,val:=u })[i]?=some e->∃e':MapEntry,es[i]?=some e'/\e.key=e'.key/\e.born=e'.born:=by grind
 refine⟨⟨by simp[h.size],λi e he=>?_,λi e he=>?_,λi j e f he hf heq=>?_⟩,λi e hi he=>?_,λe he=>?_⟩
 .obtain⟨e',h1,h2,_⟩:=get i e he;rw[h2];exact h.keys i e' h1
 .obtain⟨e',h1,_,h3⟩:=get i e he;rw[h3];exact h.born i e' h1
 .obtain⟨e',h1,_,h3⟩:=get i e he;have⟨f',h4,_,h6⟩:=get j f hf;exact h.apart i j e' f' h1 h4 (by rw[<- h3,<- h6,heq])
 all_goals grind
def Qae{α:Type}{k:MK}{y:α}{kvs:List (MK×α)}(hd:∀(i j:Nat)(p q:MK×α),kvs[i]?=some p->kvs[j]?=some q->p.1=q.1->i=j):∀(i j:Nat)(p q:MK×α),(zn k y kvs)[i]?=some p->(zn k y kvs)[j]?=some q->p.1=q.1->i=j:=by
 cases hf:Qv k _ with
 |none=>have hn:=Qaf hf;rw[qa hn];grind
 |some y0=>have⟨i0,h0⟩:=XP hf;rw[W9 hd h0 rfl];grind
def QmI{α β k}{y:α}{y':β}{kvs:List (MK×α)}{vals:List (MK×β)}(h:vals.map (·.1)=kvs.map (·.1)):(zn k y' vals).map (·.1)=(zn k y kvs).map (·.1):=by
 induction kvs generalizing vals with
 |nil=>
  have:vals=[]:=by simpa using h
  subst this;rfl
 |cons p r ih=>
  cases vals with
  |nil=>simp at h
  |cons q s=>
   simp only[QOk,List.cons.injEq] at h;simp only[zn,h.1];split
   .simp[h.2]
   .simp only[QOk,h.1,ih h.2]
theorem Jh{α k}{y:α}:∀(kvs:List (MK×α)),Qv k (zn k y kvs)=some y
 |[]=>by simp[zn,Qv]
 |p::r=>by
  unfold zn;split
  .simp[Qv]
  rename_i h;simp[Qv,if_neg h];exact Jh r
theorem Vw{α k k'}{y:α}(hk:k'≠k):∀(kvs:List (MK×α)),Qv k' (zn k y kvs)=Qv k' kvs
 |[]=>by simp[zn,Qv,Ne.symm hk]
 |p::r=>by
  unfold zn;split
  .rename_i h;simp[Qv,h,if_neg (Ne.symm hk)]
  .simp[Qv,Vw hk r]
def QpO{id kk x k y}{op:Op}(hf:YOp.fits P (.mupd id kk x k y) op=true):∃t x' k' v',(op=.mapUpdate t x' k' v'\/op=.insert t x' k' v')/\(x.is x'&&k.is k'&&y.is v'&&(QdC P kk t).isSome)=true:=by simp only[YOp.fits] at hf;grind
def QrN{id:Nat}{kk:Option IntKind}{x k y:Opd}:DnY P o ok0 N w0 lk lo a w L (.mupd id kk x k y):=by
 intro s f v up h hf he hs;obtain⟨t,x',k',v',ho,hf⟩:=QpO hf
 .simp only[QNZ] at hf;have⟨⟨⟨hx,hk⟩,hy⟩,hm⟩:=hf;have rx:=Opd.rep h hx;have rk:=Opd.rep h hk;have ry:=Opd.rep h hy;simp only[evY] at he;split at he
  .rename_i j key yv kvs hxv hkv hyv hid;split at he
   .rename_i hji;subst hji;cases he;cases hmt:QdC P kk t with
    |none=>rw[hmt] at hm;cases hm
    |some et=>
    have⟨kt,hmu,hkt⟩:=UO hmt;have⟨hkk,hkval⟩:=Y6 (w:=w) (lo:=lo) (L:=L) hkv;have⟨d,hd,hik⟩:=Vz hkt hkk;have hke:=hkval rk;rw[hxv] at rx;rw[hyv] at ry;have ryi:=VZ ry;have⟨_,b,hL,hv⟩:=W2 hid (Yv j) rx;have hob:=h.y8 _ _ hid;rw[hL] at hob;have⟨hF,es,clock,hb,hmr,hdd,hxx⟩:=hob
    have fin:∀(es':Array MapEntry)(clock':Nat),(Instr.mapUpdate t (.map (some b)) key.val (a.eval v')).run P w=.ok () { w with heap:=w.heap.setIfInBounds b (.map es' clock') } ->
      Vf (zn key yv kvs).length es' clock' (λi=>((zn key yv kvs)[i]?).map (·.1)) ->
      (∀(i:Nat)(e:MapEntry)(p:MK×IV),es'[i]?=some e->(zn key yv kvs)[i]?=some p->QZ (okL ok0 lo L) w p.2 e.val)->True/\Q6 P o ok0 N w0 lk lo a w (.iv .any) (some (j,.xh (zn key yv kvs))):=by
     intro es' clock' hrun hmr' hx';refine⟨trivial,.skip,undef,{ w with heap:=w.heap.setIfInBounds b (.map es' clock') },Q7 L j (.one b),?_,.inr ⟨rfl,rfl⟩,h.turnOne (ob':=.xh (zn key yv kvs)) hid hL (Wu w b _) (λok lo' L' x'' u h1 h2 hx'' hr=>?_) (λok lo' L' hok _=>?_),?_⟩
     .rcases ho with ho|ho<;>simp[execOp,ho,hv,hke,hrun]
     .obtain⟨rfl,b',hL',rfl⟩:=W2 hid hx'' hr;grind
     .refine⟨hF,es',clock',?_,hmr',Qae hdd,λi e p h1 h2=>(hx' i e p h1 h2).mono λb' hb' y9=>hok b' hb' y9⟩;grind
     exact .iv _ _ (.any _)
    have hks:=Yg hs hkt hd;rcases Jo hmr (QN3 _) hdd hik hks with ⟨h1,h2⟩|⟨i2,e2,p,h1,hi2,h3,h4,h5,h6⟩
    .have hn:∀(i:Nat)(p:MK×IV),kvs[i]?=some p->p.1≠key:=λi p hp=>h2 i p (QNY.1 hp).1 hp;refine fin _ _ (J7 hmu hd hb hik h1) ?_ ?_
     .rw[qa hn,QOf,List.length_singleton]
      exact Qmv (key':=λ(i:Nat)=>((kvs++[(key,yv)])[i]?).map (λp:MK×IV=>p.1)) hmr (λi hi=>by simp only[QOs hi]) (by simp)
     rw[qa hn];intro i e p he hp;rw[QPv] at he;have hsz:=hmr.size;split at he
     .rename_i hi;injection he with he;subst he;rw[hi,hsz] at hp;simp at hp;subst hp;exact ryi
     grind
    have⟨hr1,hr2,hr3⟩:=Qec (u:=a.eval v') hmr h3 h6;refine fin _ _ (J6 hmu hd hb hik h1 h3 h6) ?_ ?_
    .rw[W9 hdd h4 h5,List.length_set]
     have:(λ(i:Nat)=>((kvs.set i2 (key,yv))[i]?).map (λp:MK×IV=>p.1))=λ(i:Nat)=>(kvs[i]?).map (λp:MK×IV=>p.1):=by
      funext i;rw[List.getElem?_set]
      grind
     rw[this];exact hr1
    rw[W9 hdd h4 h5];intro i e p' he hp;rw[List.getElem?_set] at hp;grind
   cases he
  .cases he
def QrM{id:Nat}{kk:Option IntKind}{x k y:Opd}:DnY P o ok0 N w0 lk lo a w L (.mupr id kk x k y):=by
 intro s f v up h hf he hs;simp only[YOp.fits] at hf;split at hf
 .rename_i t x' k' v' ho;simp only[QNZ] at hf;have⟨⟨⟨hx,hk⟩,hy⟩,hm⟩:=hf;have rx:=Opd.rep h hx;have rk:=Opd.rep h hk;have ry:=Opd.rep h hy;simp only[evY] at he;split at he
  .rename_i j key i0 key0 m e sz kvs pk hxv hkv hyv hid;split at he
   .rename_i hji;obtain⟨rfl,rfl,rfl,rfl⟩:=hji;cases he;have⟨hks0,hsome,hlen⟩:=hs;cases hmt:QdC P kk t with
    |none=>rw[hmt] at hm;cases hm
    |some et=>
    have⟨kt,hmu,hkt⟩:=UO hmt;have⟨hkk,hkval⟩:=Y6 (w:=w) (lo:=lo) (L:=L) hkv;have⟨d,hd,hik⟩:=Vz hkt hkk;have hke:=hkval rk;rw[hxv] at rx;rw[hyv] at ry;have⟨b,vals,hL,hv⟩:=Uf hid (Yv _) rx;have hv:a.eval x'=.map (some b):=by grind
    obtain⟨b2,vals2,hL2,hv2⟩:=Uf hid (by simp[AV.refs]) ry;have hu:a.eval v'=(Qv pk vals).getD (.slice none 0 0):=by grind
    have hob:=h.y8 _ _ hid;rw[hL] at hob;have⟨hF,⟨es,clock,hb,n,hn,hmr,hnew,hval⟩,hdd,hkv2,hrow,hap⟩:=hob;have⟨y0,hy0⟩:=QOC.1 hsome;have⟨i1,hi1⟩:=XP hy0;have⟨q1,hq1,hq1k⟩:=Qo1 hkv2 hi1;have hvd:=qT hkv2 hdd;have hq1':vals[i1]?=some (pk,q1.2):=by rw[hq1];simp only at hq1k;rw[<- hq1k]
    have hu:a.eval v'=q1.2:=by rw[hu,UN hvd hq1'];rfl
    have fin:∀(es':Array MapEntry)(clock':Nat),(Instr.mapUpdate t (.map (some b)) pk.val (a.eval v')).run P w=.ok () { w with heap:=w.heap.setIfInBounds b (.map es' clock') } ->
      Qtb kvs none vals es' clock'->True/\Q6 P o ok0 N w0 lk lo a w (.iv .any) (some (i0,.yo e sz kvs none)):=by
     intro es' clock' hrun hrows;have hl':∀k,(Lay.map b vals).has k->(L i0).has k\/w.heap.size<=k:=λk hk=>.inl (by rw[hL];exact hk);have hg:Qix (L i0).has w { w with heap:=w.heap.setIfInBounds b (.map es' clock') }:=by have⟨g1,g2,g3,g4,g5⟩:=Wu w b (.map es' clock');exact⟨g1,g2,g3,g4,λk hk hn=>g5 k hk (λe=>hn (by rw[hL];exact .inl e))⟩
     have hok:∀k,okL ok0 lo L k->k<w.heap.size->okL ok0 (Zn lo i0 (.yo e sz kvs none)) (Q7 L i0 (.map b vals)) k:=λk hk y9=>h.okL_turn hid hl' hk y9;refine⟨trivial,.skip,undef,{ w with heap:=w.heap.setIfInBounds b (.map es' clock') },Q7 L i0 (.map b vals),?_,.inr ⟨rfl,rfl⟩,h.turn (o':=.yo e sz kvs none) i0 hid hg hl' (λx'' u hx'' hr=>?_) (λ_=>?_),?_⟩
     .simp[execOp,ho,hv,hke,hrun]
     .obtain⟨b3,vals3,hL3,hr⟩:=Uf hid hx'' hr;grind
     .have y9:b<w.heap.size:=(QN8.1 hb).1;refine⟨hF,⟨es',clock',by simp[y9],hrows⟩,hdd,hkv2,λi p q hp hq=>?_,hap⟩;have⟨xs,h1,h2,h3,h4,h5⟩:=hrow i p q hp hq;refine⟨xs,h1.stay λb' hb'=>?_,h2,h3,h4,λi j c x u a1 a2 a3=>(h5 i j c x u a1 a2 a3).mono λb' hb' hlt'=>⟨hok b' hb' hlt',hg.block b' hlt' (hb'.2 i0 _ hid)⟩⟩;have:b≠b':=λe=>h2 (by rw[hb',e]);simp[QPr,this]
     exact .iv _ _ (.any _)
    have hks:=Yg hks0 hkt hd;rcases Jo hmr hn hdd hik hks with ⟨h1,h2⟩|⟨i2,e2,p,h1,hi2,h3,h4,h5,h6⟩
    .have hi1n:n<=i1:=by
      grind
     have hi1l:=(QNY.1 hi1).1;have only:∀i,n<=i->i<kvs.length->i=i1:=λi h3 h4=>by grind
     have hni:n=i1:=only n (QN3 _) (by omega);have hnl:kvs.length=n+1:=by
      rcases QPi (n+1) kvs.length with y9|hge
      .have:=only (n+1) (by omega) y9;omega
      omega
     refine fin _ _ (J7 hmu hd hb hik h1) ⟨n+1,by omega,Qmv (key':=λ(i:Nat)=>(kvs[i]?).map (λp:MK×List (List IV)=>p.1)) hmr (λ_ _=>rfl) (by simp only[hni,hi1,QPf]),λi p hp hi=>?_,λi e q he hq _=>?_⟩
     .have:=(QNY.1 hp).1;omega
     rw[QPv] at he;have hsz:=hmr.size;grind
    have hnl:n=kvs.length:=by
     rcases QPi n kvs.length with y9|hge
     .have:=hnew n _ (QNX y9) (QN3 _);injection this with this;have:=hdd n i2 _ _ (QNX y9) h4 (by rw[h5,this]);omega
     omega
    have⟨hr1,hr2,hr3⟩:=Qec (u:=a.eval v') hmr h3 h6;refine fin _ _ (J6 hmu hd hb hik h1 h3 h6) ⟨n,hn,hr1,λi p hp hi=>?_,λi e q he hq _=>?_⟩
    .have:=(QNY.1 hp).1;omega
    by_cases hii:i=i2
    all_goals grind
   cases he
  cases he
 .cases hf
def Qvk{len x i}:DnY P o ok0 N w0 lk lo a w L (.ixg len x i):=by
 intro s f v up h hf he hs;simp only[YOp.fits] at hf;split at hf
 .rename_i t x' i' ho;simp only[QNZ] at hf;have⟨⟨hx,hi⟩,ht⟩:=hf;have rx:=Opd.rep h hx;have ri:=Opd.rep h hi;simp only[evY] at he;split at he
  .rename_i xs kk n hxv hiv;split at he
   .rename_i c hc;injection he with e1 e2 e3 e4;subst e1 e2 e3 e4;rw[hxv] at rx;rw[hiv] at ri;have hei:=Zw ri;have rx:=VZ rx;generalize hey:a.eval x'=xv at rx;cases rx with
    |agg _ vs hl h1 hxx=>
     unfold QnB at ht;split at ht
     .rename_i m e hu;simp only[QNZ,beq_iff_eq] at ht;obtain⟨⟨rfl,hsz⟩,hag⟩:=ht;unfold Program.sizeIs at hsz;cases hie:P.info? e with
      |none=>rw[hie] at hsz;cases hsz
      |some ie=>
       have hs1:ie.size=1:=by simpa[hie] using hsz
       have y9:n.toNat<vs.length:=by rw[hl];exact(QNY.1 hc).1
       have hag':(isAgg e).run P w=.ok false w:=by
        unfold Program.agg at hag;cases hue:P.underlying e with
        |none=>rw[hue] at hag;cases hag
        |some d=>cases d<;>simp[hue] at hag<;>simp[isAgg,run_underlying hue]
       refine⟨trivial,Q6.pure h (u:=vs[n.toNat]) ?_ (.iv _ _ (hxx n.toNat c _ hc (QNX y9)))⟩;have hcond:0<=n/\n<(m:Int):=hs;simp[execOp,ho,hey,hei,Instr.index,asIntOf,run_underlying hu,hcond,part,hag',sizeOf,typeInfo,hie,hs1,y9]
     cases ht
   cases he
  cases he
 .cases hf
def Qu5{id e bytes zs n}:DnY P o ok0 N w0 lk lo a w L (.mks id e bytes zs n):=by
 intro s f v up h hf he hs;simp only[YOp.fits] at hf;split at hf
 .rename_i t l c ho;simp only[QNZ] at hf;have⟨⟨⟨⟨hl,hc⟩,ht⟩,hz⟩,hb⟩:=hf;have rl:=Opd.rep h hl;have rc:=Opd.rep h hc;simp only[evY] at he;split at he
  .rename_i k m hnv hid;cases he;rw[hnv] at rl rc;have hel:=Zw rl;have hec:=Zw rc;have⟨hm0,hby,hm63,hzp⟩:=hs;split at ht
   .rename_i e' hu;simp only[beq_iff_eq] at ht;subst ht;have⟨i,z,hi,hzz,hzs,hsize⟩:=Vj hz;rw[hi] at hb;simp only[beq_iff_eq] at hb;subst hb;have⟨hzl,hzx⟩:=XV (w:=w) (lo:=lo) (L:=L) (ok:=okL ok0 lo L) (lk:=lk) hzs;have hzl':z.cells.size=zs.length:=by simpa using hzl
    have hrun:=run_make (P:=P) w t e' i z hu hi hzz k k m m hm0 (Int.le_refl _) (by omega) hm63;rw[hsize] at hrun;have hzc:∀j,j<m.toNat*zs.length->(madeCells z.cells (m.toNat*zs.length)).toList[j]?=z.cells.toList[j % zs.length]?:=by
     intro j hj;have y9:j % zs.length<z.cells.size:=by rw[hzl'];exact Nat.mod_lt _ hzp
     simp[madeCells,hj,hzl',Nat.mod_lt _ hzp,getElem!_pos,y9]
    have hbel:=QF w (.cells (madeCells z.cells (m.toNat*zs.length)) e');have hok:∀b,okL ok0 lo L b->b<w.heap.size->okL ok0 (Zn lo id (.arr e' zs.length (List.replicate m.toNat (zs.map (·.av lk))) 0)) (Q7 L id (.arr (.slice (some ⟨w.heap.size,0,none⟩) m.toNat m.toNat) (madeCells z.cells (m.toNat*zs.length)).toList)) b:=by
     intro b hb y9;refine⟨hb.1,λi o' hi he=>?_⟩;by_cases hii:i=id
     .subst hii;simp only[Q7,if_true,Lay.has,Value.ownBlock,Option.some.injEq] at he;omega
     grind
    refine⟨trivial,_,.slice (some ⟨w.heap.size,0,none⟩) m.toNat m.toNat,w.alloc (.cells (madeCells z.cells (m.toNat*zs.length)) e'),Q7 L id (.arr (.slice (some ⟨w.heap.size,0,none⟩) m.toNat m.toNat) (madeCells z.cells (m.toNat*zs.length)).toList),by simp[execOp,ho,hel,hec,hrun],.inl rfl,?_,?_⟩
    .refine h.new id hid _ _ hbel (λb hb=>by simp only[Lay.has,Value.ownBlock,Option.some.injEq] at hb;omega) ?_;refine⟨⟨⟨by simp[size_madeCells],.inr ⟨w.heap.size,m.toNat,madeCells z.cells (m.toNat*zs.length),by simp,QPk _,heap_alloc_new w _,by simp,by simp only[maxLen];omega,by simp[size_madeCells],?_⟩⟩,λb hb=>by simp only[Value.ownBlock,Option.some.injEq] at hb;exact h.frlt (by omega)⟩,QPk _,λc hc=>?_,λu hu=>?_,λi2 j c x u h2 h3 h4=>?_⟩
     .rw[List.length_replicate,QN1]
      simp[size_madeCells]
     .rw[List.eq_of_mem_replicate hc,QN9]
     .obtain⟨j,hj,rfl⟩:=QON hu;have hj':j<m.toNat*zs.length:=by simpa[size_madeCells] using hj
      grind
     rw[List.getElem?_replicate] at h2;split at h2
     .rename_i hi2;injection h2 with h2;subst h2;have hjl:j<zs.length:=by have:=(QNY.1 h3).1;simpa using this
      have hjj:=QcQ hi2 hjl;rw[hzc _ hjj] at h4;have hmod:(i2*zs.length+j) % zs.length=j:=by rw[Nat.add_comm,Nat.add_mul_mod_self_right,Nat.mod_eq_of_lt hjl]
      rw[hmod] at h4;refine((hzx j x u h3 h4).1).ext hok hbel.block λi o' hi=>?_;grind
     cases h2
    have:=QG.yl (ok:=okL ok0 (upO lo (some (id,.arr e' zs.length (List.replicate m.toNat (zs.map (·.av lk))) 0))) (Q7 L id (.arr (.slice (some ⟨w.heap.size,0,none⟩) m.toNat m.toNat) (madeCells z.cells (m.toNat*zs.length)).toList))) (w:=w.alloc (.cells (madeCells z.cells (m.toNat*zs.length)) e')) (lo:=upO lo (some (id,.arr e' zs.length (List.replicate m.toNat (zs.map (·.av lk))) 0))) (L:=Q7 L id (.arr (.slice (some ⟨w.heap.size,0,none⟩) m.toNat m.toNat) (madeCells z.cells (m.toNat*zs.length)).toList)) id e' zs.length (List.replicate m.toNat (zs.map (·.av lk))) 0 (.slice (some ⟨w.heap.size,0,none⟩) m.toNat m.toNat) (madeCells z.cells (m.toNat*zs.length)).toList (by simp[upO,Zn]) (by simp[Q7]) rfl
    rwa [List.length_replicate] at this
   cases ht
  cases he
 .cases hf
theorem QaT:∀{es ns},qW es=some ns->es=ns.map λn=>[.int .i32 n]
 |[],ns,h=>by simp[qW] at h;subst h;rfl
 |c::r,ns,h=>by
  unfold qW at h;split at h
  .rename_i heq;cases heq
  .rename_i n r' heq;injection heq with h1 h2;subst h1 h2;rw[QN2] at h;obtain⟨ms,h3,rfl⟩:=h;simp[QaT h3]
  .cases h
def Qbd(ns:List Int)(h:∀n∈ns,0<=n/\n<128):runesBytes ns=⟨(YV ns).toArray⟩:=by
 have:∀(ns:List Int),(∀n∈ns,0<=n/\n<128)->∀s:ByteArray,ns.foldl (λr n=>r++Utf8.encode n) s=s++⟨(YV ns).toArray⟩:=by
  intro ns;induction ns with
  |nil=>intro _ s;exact(ByteArray.append_empty).symm
  |cons n r ih=>
   intro h s;rw[QOP,ih (λn hn=>h n (QO2 _ hn))];have hn:=h n (by simp);have he:Utf8.encode n=⟨#[UInt8.ofNat n.toNat]⟩:=by
    have hv:Utf8.valid n=true:=by unfold Utf8.valid;simp;omega
    unfold Utf8.encode;simp only[hv,if_true];rw[if_pos (by omega)]
   rw[he];apply ByteArray.ext;simp[YV]
 unfold runesBytes;rw[this ns h];simp
def Qu1{x}:DnY P o ok0 N w0 lk lo a w L (.r2s x):=by
 intro s f v up h hf he hs;simp only[YOp.fits] at hf;split at hf
 .rename_i sT dT y ho;simp only[QNZ] at hf;have⟨⟨hx,hd⟩,hsrc⟩:=hf;have rx:=Opd.rep h hx;simp only[evY] at he;split at he
  .rename_i es hxv;split at he
   .rename_i ns hns;cases he;rw[hxv] at rx;have rx:=VZ rx;have hes:=QaT hns;unfold ZP at hd;split at hd
    .rename_i hud;split at hsrc
     .rename_i e hus;have hue:P.underlying e=some (.int .i32):=by
       simp only[beq_iff_eq] at hsrc;unfold Qaq at hsrc;grind
      generalize hey:a.eval y=yv at rx;have hb:=Qbd ns hs;have fin:(convert sT dT yv).run P w=.ok (.string (runesBytes ns)) w->True/\Q6 P o ok0 N w0 lk lo a w (.iv (.str (YV ns))) none:=λhrun=>⟨trivial,Q6.pure h (u:=.string ⟨(YV ns).toArray⟩) (by rw[<- hb];simp[execOp,ho,hey,hrun]) (Vp _)⟩
      cases rx with
      |nils=>
       have:ns=[]:=by simpa using hes.symm
       subst this;exact fin (run_convert_runes_nil w sT dT e 0 0 hus hue hud)
      |nilz _ ad=>
       have:ns=[]:=by simpa using hes.symm
       subst this;refine fin ?_;rw[run_convert_runes_string w sT dT e _ _ _ hus hue hud];exact run_runesToString w ad 0 0 [] (run_loadCells_list (P:=P) w ad [] (by simp))
      |sl _ _ b off cap u hl hc hsz hu hxx=>
       refine fin ?_;rw[run_convert_runes_string w sT dT e _ _ _ hus hue hud];have hnl:ns.length=es.length:=by rw[hes,QN9]
       rw[<- hnl];refine run_runesToString w _ ns.length cap ns ?_
       have:=run_loadCells_list (P:=P) w ⟨b,off,none⟩ (ns.map (Value.int .i32)) (λj v hv=>by
        rw[QN6,QN2] at hv;obtain⟨m,hm,rfl⟩:=hv;have hj:j<es.length:=by rw[<- hnl];exact(QNY.1 hm).1
        obtain⟨_,h2,_⟩:=hu j (by omega);have h3:=hxx j 0 [.int .i32 m] (.int .i32 m) (by rw[hes];simp[hm]) rfl;rw[addr_add,h2];simp only[QPF,QPd] at h3;generalize u j=uj at h3;cases h3;rfl)
       rwa [QN9] at this
     cases hsrc
    cases hd
   cases he
  cases he
 .cases hf
def QrH{id x}:DnY P o ok0 N w0 lk lo a w L (.rngm id x):=by
 intro s f v up h hf he hs;simp only[YOp.fits] at hf;split at hf
 .rename_i t y ho;simp only[QNZ] at hf;have⟨hx,hst⟩:=hf;have rx:=Opd.rep h hx;simp only[evY] at he;split at he
  .rename_i kvs hxv hid;cases he;rw[hxv] at rx;have rx:=VZ rx;split at hst
   .rename_i kt et hu;generalize hey:a.eval y=yv at rx;cases rx with
    |mapn=>
     have hrun:(Instr.range t (.map none)).run P w=.ok (.pointer (some ⟨w.heap.size,0,none⟩)) (w.alloc (.mapIter none 0 #[] 0)):=by simp[Instr.range,run_underlying hu]
     refine⟨trivial,_,.pointer (some ⟨w.heap.size,0,none⟩),_,_,by simp[execOp,ho,hey,hrun],.inl rfl,h.newOne hid (QF w _) rfl (λok lo' L' hF _=>⟨hF,none,0,#[],heap_alloc_new w _,rfl⟩),?_⟩;exact .yk id _ (.yq [] []) (by simp[upO,Zn]) rfl (by simp[Q7])
    |map _ r es clock hok hr hmr hdd hxx=>
     have hrun:(Instr.range t (.map (some r))).run P w=.ok (.pointer (some ⟨w.heap.size,0,none⟩)) (w.alloc (.mapIter (some r) clock #[] clock)):=by simp[Instr.range,run_underlying hu,MapKept.run_getObj_map hr]
     have y9:=(QN8.1 hr).1;have hold:∀b,b<w.heap.size->(w.alloc (.mapIter (some r) clock #[] clock)).heap[b]?=w.heap[b]?:=(QF w _).block;refine⟨trivial,_,.pointer (some ⟨w.heap.size,0,none⟩),_,_,by simp[execOp,ho,hey,hrun],.inl rfl,h.newOne hid (QF w _) rfl (λok lo' L' hF hokk=>⟨hF,some r,clock,#[],heap_alloc_new w _,es,hokk r hok y9,(hold r y9).trans hr,hmr,λi e p h1 h2=>(hxx i e p h1 h2).mono λb hb y9=>⟨hokk b hb y9,hold b y9⟩,rfl,by simp⟩),?_⟩;exact .yk id _ (.yq kvs []) (by simp[upO,Zn]) rfl (by simp[Q7])
   cases hst
  cases he
 .cases hf
def QoJ{n es clock key}(h:Vf n es clock key):(es.toList.map (·.born)).Nodup:=by rw[List.nodup_iff_pairwise_ne,QPl];intro i j hi hj hij he;simp[QN9,QPu] at hi hj;simp[List.getElem_map,Array.getElem_toList] at he;have:=h.apart i j _ _ (QOR hi) (QOR hj) he;omega
def Qpx(ok:Nat->Prop)(w:World)(k:MK):QZ ok w k.iv k.val:=by
 cases k with
 |int k n=>exact .int k n
 |str s=>exact .str s
def Qvs{id x}:DnY P o ok0 N w0 lk lo a w L (.ent id x):=by
 intro s f v up h hf he hs;simp only[YOp.fits] at hf;split at hf
 .rename_i y ho;have rx:=Opd.rep h hf;simp only[evY] at he;split at he
  .rename_i j kvs i seen hxv hid;split at he
   .rename_i hji;subst hji;split at he
    .rename_i p hp;cases he;rw[hxv] at rx;have⟨_,b,hL,hv⟩:=Qed hid (Yv j) rx;have hob:=h.y8 _ _ hid;rw[hL] at hob;have⟨hF,r,since,sn,hb,hit⟩:=hob;cases r with
     |none=>have:kvs=[]:=hit
            subst this;simp at hp
     |some r=>
      have⟨es,h1,h2,h3,h4,h5,h6⟩:=hit;obtain⟨e,he1,he2⟩:=h6 seen.length i (by simp);have hsn:∃s':Array Nat,sn=s'.push e.born:=by refine⟨sn.pop,?_⟩;grind
      have⟨s',hs'⟩:=hsn;subst hs';have hrun:=run_entry_at (P:=P) w b r since s' es since e hb h2 (QOh (by simpa using he1)) (QoJ h3);refine⟨trivial,Q6.pure h (u:=.tuple #[e.key,e.val]) (by simp[execOp,ho,hv,hrun]) (.iv _ _ (.xf _ [_,_] rfl λk x u hk hu=>?_))⟩;have⟨k',hk1,hk2⟩:=h3.keys i e he1;rw[hp] at hk1;injection hk1 with hk1
      match k with
      |0=>simp at hk hu;subst hk hu;rw[hk2,<- hk1];exact Qpx _ _ _
      |1=>simp at hk hu;subst hk hu;exact h4 i e p he1 hp
      |k+2=>simp at hk
    cases he
   cases he
  cases he
 .cases hf
theorem Ql0(h:Rel ok0 N w0 lk lo a w L):∀{xs}{ys:List Operand},VA xs ys=true->(ys.map a.eval).length=(xs.map (·.av lk)).length /\
  ∀(k:Nat)x u,(xs.map (·.av lk))[k]?=some x->(ys.map a.eval)[k]?=some u->QG (okL ok0 lo L) w lo L x u
 |[],[],_=>⟨rfl,by simp⟩
 |x::xs,y::ys,hf=>by
  simp only[VA,QNZ] at hf;have⟨h1,h2⟩:=Ql0 h hf.2;refine⟨by simpa using h1,λk z u hz hu=>?_⟩;cases k with
  |zero=>simp at hz hu;subst hz hu;exact Opd.rep h hf.1
  |succ k=>exact h2 k z u (by simpa using hz) (by simpa using hu)
 |[],_::_,hf=>by simp[VA] at hf
 |_::_,[],hf=>by simp[VA] at hf
theorem Qi0{ok:Nat->Prop}{w:World}{lo:Nat->Option AO}{L:Nat->Lay}:∀{xs:List AV}{ys:List IV},ivs xs=some ys->xs=ys.map .iv
 |[],ys,h=>by simp[ivs] at h;subst h;rfl
 |x::xs,ys,h=>by
  simp only[ivs] at h;split at h
  .rename_i y zs hy hzs;injection h with h;subst h;have:=Qi0 (ok:=ok) (w:=w) (lo:=lo) (L:=L) hzs;cases x<;>simp[AV.iv?] at hy;subst hy;simp[this]
  .cases h
def Qu7{g:FuncId}{fs cs:List Opd}:DnY P o ok0 N w0 lk lo a w L (.mkf g fs cs):=by
 intro s f v up h hf he hs;simp only[YOp.fits] at hf;split at hf
 .rename_i g' fs' cs' ho;simp only[QNZ,beq_iff_eq] at hf;have⟨⟨hg,h1⟩,h2⟩:=hf;subst hg;simp only[evY] at he;cases he;have⟨a1,a2⟩:=Ql0 h h1;have⟨b1,b2⟩:=Ql0 h h2;refine⟨trivial,Q6.pure h (u:=.func (.func g) (fs'.toList.map a.eval).toArray (cs'.toList.map a.eval).toArray) ?_ ?_⟩
  .have q1:fs'.map a.eval=(fs'.toList.map a.eval).toArray:=by apply Array.ext';simp
   have q2:cs'.map a.eval=(cs'.toList.map a.eval).toArray:=by apply Array.ext';simp
   simp[execOp,ho,Instr.makeFunc];exact⟨q1,q2⟩
  unfold Qx5;split
  .rename_i xs ys hxs hys;have r1:=Qi0 (ok:=okL ok0 lo L) (w:=w) (lo:=lo) (L:=L) hxs;have r2:=Qi0 (ok:=okL ok0 lo L) (w:=w) (lo:=lo) (L:=L) hys;rw[r1] at a1 a2;rw[r2] at b1 b2;refine .iv _ _ (.clo g xs ys _ _ (by simpa using a1) (by simpa using b1) (λk x u hx hu=>?_) (λk x u hx hu=>?_))
   .have:=a2 k (.iv x) u (by simp[hx]) hu;cases this with
    |iv _ _ r=>exact r
   have:=b2 k (.iv x) u (by simp[hx]) hu;cases this with
   |iv _ _ r=>exact r
  exact .clo g _ _ _ _ a1 b1 a2 b2
 .cases hf
def Qu3{x}:DnY P o ok0 N w0 lk lo a w L (.neg x):=by
 intro s f v up h hf he hs;simp only[YOp.fits] at hf;split at hf
 .rename_i t y ho;have rx:=Opd.rep h hf;simp only[evY] at he;generalize x.av lk=xv at rx he;split at he
  .rename_i k n;cases he;have hey:=Zw rx;refine⟨trivial,Q6.pure h (u:=.int k (0-n)) ?_ (ZH _ _)⟩;have hw:=WQ hs;simp only[Int.zero_sub] at hw;simp[execOp,ho,hey,Op.unary,Op.intArith,hw]
  cases he
 .cases hf
theorem Qra:∀(fs:List Field)(k d:Nat)(cs ds:List IV)(vs us:List Value)(b:Bool),US P k fs=true->Jy cs ds=some b->cs.length=fs.length ->
  (∀(j:Nat)(x:IV),cs[j]?=some x->∃u,vs[k+j]?=some u/\QZ ok0 w x u)->(∀(j:Nat)(x:IV),ds[j]?=some x->∃u,us[k+j]?=some u/\QZ ok0 w x u)->(Op.eqFields (d+1) vs.toArray us.toArray fs).run P w=.ok b w
 |[],k,d,[],[],vs,us,b,_,he,_,_,_=>by simp only[Jy,Option.some.injEq] at he;subst he;simp[Op.eqFields]
 |[],k,d,x::cs,ds,vs,us,b,_,_,hl,_,_=>by simp at hl
 |[],k,d,[],y::ds,vs,us,b,_,he,_,_,_=>by simp[Jy] at he
 |f::fs,k,d,[],ds,vs,us,b,_,_,hl,_,_=>by simp at hl
 |f::fs,k,d,x::cs,[],vs,us,b,_,he,_,_,_=>by simp[Jy] at he
 |f::fs,k,d,x::cs,y::ds,vs,us,b,hf,he,hl,hx,hy=>by
  simp only[US,QNZ,bne_iff_ne,ne_eq,beq_iff_eq] at hf;have⟨⟨⟨hn,ho⟩,hp⟩,hr⟩:=hf;obtain⟨kk,hu⟩:∃kk,P.underlying f.type=some (.int kk):=by
   unfold Qaq at hp;split at hp
   .rename_i kk hk;exact⟨kk,hk⟩
   cases hp
  have hpk:P.plainKey f.type=true:=by simp[Program.plainKey,hu]
  simp only[Jy] at he;split at he
  .rename_i b1 b2 h1 h2;injection he with he;subst he;have⟨u1,hu1,r1⟩:=hx 0 x rfl;have⟨u2,hu2,r2⟩:=hy 0 y rfl;have p1:(part f.type vs.toArray f.offset).run P w=.ok u1 w:=run_part_plain w hpk (by rw[ho];simpa using hu1);have p2:(part f.type us.toArray f.offset).run P w=.ok u2 w:=run_part_plain w hpk (by rw[ho];simpa using hu2)
   have ih:=Qra fs (k+1) d cs ds vs us b2 hr h2 (by simpa using hl) (λj z hz=>by
    obtain⟨u,hu,r⟩:=hx (j+1) z (by simpa using hz);exact⟨u,by rw[<- hu];congr 1;omega,r⟩) (λj z hz=>by
    obtain⟨u,hu,r⟩:=hy (j+1) z (by simpa using hz);exact⟨u,by rw[<- hu];congr 1;omega,r⟩)
   have q:(Op.equalIn (d+1) f.type u1 u2).run P w=.ok b1 w:=by
    unfold QHK at h1;split at h1
    .split at h1
     .rename_i hk;injection h1 with h1;subst h1 hk;cases r1;cases r2;rw[run_equalIn_int w d f.type _ _ _ _ hu];rfl
     cases h1
    cases h1
   simp only[Op.eqFields,hn,not_false_iff,ne_eq,if_true,Sem.run_bind,p1,p2,q,Result.andThen,Sem.run_ite];cases b1
   .simp
   simp[ih]
  .cases he
def Ub{e}{fs:Array Field}{m}(hu:P.underlying e=some (.struct fs))(hs:Program.sizeIs P e m=true)(xs off):(part e xs off).run P w=.ok (.agg (xs.extract off (off+m))) w:=by
 unfold Program.sizeIs at hs;cases hi:P.info? e with
 |none=>simp[hi] at hs
 |some i=>
  have hm:=by simpa[hi] using hs
  simp[part,isAgg,run_underlying hu,sizeOf,run_typeInfo w hi,hm]
def Qh7{cs ds b}(m)(h:Jy cs ds=some b)(hm:m<=cs.length):∃b1 b2,Jy (cs.take m) (ds.take m)=some b1/\Jy (cs.drop m) (ds.drop m)=some b2/\b=(b1&&b2):=by
 induction m generalizing cs ds b with
 |zero=>exact⟨true,b,rfl,h,rfl⟩
 |succ m ih=>
  cases cs with
  |nil=>simp at hm
  |cons x cs=>
   cases ds with
   |nil=>simp[Jy] at h
   |cons y ds=>
    simp[Jy] at h;split at h
    .rename_i a r h1 h2;injection h with h;subst h;obtain⟨b1,b2,g1,g2,rfl⟩:=ih h2 (by simpa using hm);exact⟨a&&b1,b2,by simp[Jy,h1,g1],g2,by simp[Bool.and_assoc]⟩
    .cases h
theorem Qc6:∀{cs ds b},Jy cs ds=some b->ds.length=cs.length
 |[],[],_,_=>rfl
 |[],_::_,_,h=>by simp[Jy] at h
 |_::_,[],_,h=>by simp[Jy] at h
 |x::cs,y::ds,b,h=>by
  simp[Jy] at h;split at h
  .rename_i a r h1 h2;simp[Qc6 h2]
  .cases h
theorem Qm5:∀(fs:List Field)(k d n:Nat)(cs ds:List IV)(vs us:List Value)(b:Bool),Xf P k fs=some n->Jy cs ds=some b->k+cs.length=n->n<=vs.length->n<=us.length ->
  (∀(j:Nat)(x:IV),cs[j]?=some x->∃u,vs[k+j]?=some u/\QZ ok0 w x u)->(∀(j:Nat)(x:IV),ds[j]?=some x->∃u,us[k+j]?=some u/\QZ ok0 w x u)->(Op.eqFields (d+2) vs.toArray us.toArray fs).run P w=.ok b w
 |[],k,d,n,cs,ds,vs,us,b,hf,he,hl,_,_,_,_=>by simp only[Xf,Option.some.injEq] at hf;have hc:cs=[]:=QN4 (by omega);have hd:ds=[]:=QN4 (by rw[Qc6 he,hc];rfl);subst hc hd;simp only[Jy,Option.some.injEq] at he;subst he;simp[Op.eqFields]
 |f::fs,k,d,n,cs,ds,vs,us,b,hf,he,hl,hv,hu',hx,hy=>by
  simp only[Xf] at hf;split at hf
  .rename_i hno;simp only[QNZ,bne_iff_ne,ne_eq,beq_iff_eq] at hno;have⟨hn,ho⟩:=hno;split at hf
   .rename_i m hm;have hge:∀(l:List Field)(a z:Nat),Xf P a l=some z->a<=z:=by
     intro l;induction l with
     |nil=>intro a z h;simp[Xf] at h;omega
     |cons g l ih=>intro a z h;simp only[Xf] at h;grind
    have hkm:=hge _ _ _ hf;have hml:m<=cs.length:=by omega
    obtain⟨b1,b2,e1,e2,rfl⟩:=Qh7 m he hml
    have ih:=Qm5 fs (k+m) d n (cs.drop m) (ds.drop m) vs us b2 hf e2 (by simp;omega) hv hu' (λj z hz=>by
     grind) (λj z hz=>by
     grind)
    have q:∃u1 u2,(part f.type vs.toArray f.offset).run P w=.ok u1 w/\(part f.type us.toArray f.offset).run P w=.ok u2 w/\(Op.equalIn (d+2) f.type u1 u2).run P w=.ok b1 w:=by
     unfold Qh0 at hm;split at hm
     .rename_i hp;injection hm with hm;subst hm;obtain⟨kk,hu⟩:∃kk,P.underlying f.type=some (.int kk):=by
       unfold Qaq at hp;grind
      have hpk:P.plainKey f.type=true:=by simp[Program.plainKey,hu]
      cases cs with
      |nil=>simp at hml
      |cons x cs=>
       cases ds with
       |nil=>simp[Jy] at he
       |cons y ds=>
        have⟨u1,hu1,r1⟩:=hx 0 x rfl;have⟨u2,hu2,r2⟩:=hy 0 y rfl;refine⟨u1,u2,run_part_plain w hpk (by rw[ho];simpa using hu1),run_part_plain w hpk (by rw[ho];simpa using hu2),?_⟩;simp only[List.take_succ_cons,List.take_zero,Jy] at e1;split at e1
        .rename_i a r h1 h2;injection h2 with h2;subst h2;injection e1 with e1;subst e1;unfold QHK at h1;split at h1
         .split at h1
          .rename_i hk;injection h1 with h1;subst h1 hk;cases r1;cases r2;rw[run_equalIn_int w (d+1) f.type _ _ _ _ hu];simp only[Bool.and_true];rfl
          cases h1
         cases h1
        cases e1
     split at hm
     .rename_i gs hu;split at hm
      .rename_i hc;simp only[QNZ,QOD] at hc;have⟨⟨hst,hff⟩,hsz⟩:=hc;injection hm with hm;subst hm;refine⟨_,_,Ub hu hsz _ _,Ub hu hsz _ _,?_⟩;have hfo:P.fieldsOf f.type=gs:=by simp[Program.fieldsOf,hu]
       have:=run_equalIn_struct (P:=P) w (d+1) f.type (vs.toArray.extract f.offset (f.offset+gs.size)) (us.toArray.extract f.offset (f.offset+gs.size)) (by rw[hfo];exact hu) hst;rw[hfo] at this;rw[this];have hex:∀l:List Value,l.toArray.extract f.offset (f.offset+gs.size)=((l.drop k).take gs.size).toArray:=λl=>by grind
       rw[hex,hex];refine Qra (ok0:=ok0) gs.toList 0 d _ _ _ _ b1 hff e1 (by simp;omega) (λj z hz=>?_) (λj z hz=>?_)
       .rw[QOS] at hz;split at hz
        .rename_i hj;have⟨u,hu,r⟩:=hx j z hz;exact⟨u,by grind,r⟩
        cases hz
       rw[QOS] at hz;split at hz
       .rename_i hj;have⟨u,hu,r⟩:=hy j z hz;exact⟨u,by grind,r⟩
       cases hz
      cases hm
     cases hm
    obtain⟨u1,u2,p1,p2,q⟩:=q;simp only[Op.eqFields,hn,not_false_iff,ne_eq,if_true,Sem.run_bind,p1,p2,q,Result.andThen,Sem.run_ite];cases b1
    .simp
    simp[ih]
   cases hf
  .cases hf
def Qvr{ne:Bool}{n:Nat}{x y:Opd}:DnY P o ok0 N w0 lk lo a w L (.eqs ne n x y):=by
 intro s f v up h hf he hs;simp only[YOp.fits] at hf;split at hf
 .rename_i op t x' y' yt ho;simp only[QNZ,beq_iff_eq] at hf;obtain⟨⟨⟨rfl,hx⟩,hy⟩,hfl⟩:=hf;unfold QeB at hfl;split at hfl
  .rename_i fs hu;simp only[QNZ,QOD,beq_iff_eq] at hfl;have⟨⟨hst,hg⟩,hff⟩:=hfl;have hfo:P.fieldsOf t=fs:=by simp[Program.fieldsOf,hu]
   have rx:=Opd.rep h hx;have ry:=Opd.rep h hy;simp only[evY] at he;generalize x.av lk=xv at rx he;generalize y.av lk=yv at ry he;split at he
   .rename_i cs ds;split at he
    .rename_i b hb;cases he;generalize hex:a.eval x'=xe at rx;generalize hey:a.eval y'=ye at ry;cases rx with
     |iv _ _ r=>
      cases r with
      |agg _ vs hl h1 hxs=>
       cases ry with
       |iv _ _ r=>
        cases r with
        |agg _ us hl2 h2 hys=>
         have hq:=Qm5 (P:=P) (ok0:=okL ok0 lo L) (w:=w) fs.toList 0 9997 n cs ds vs us b hff hb (by rw[hs,QOn]) (by rw[hl,hs];exact QN3 _) (by rw[hl2,Qc6 hb,hs];exact QN3 _) (λj z hz=>by
          have y9:j<vs.length:=by rw[hl];exact(QNY.1 hz).1
          exact⟨vs[j],by simp[y9],hxs j z _ hz (QNX y9)⟩) (λj z hz=>by
          have y9:j<us.length:=by rw[hl2];exact(QNY.1 hz).1
          exact⟨us[j],by simp[y9],hys j z _ hz (QNX y9)⟩)
         have hq2:(Op.equalIn 10000 t (.agg vs.toArray) (.agg us.toArray)).run P w=.ok b w:=by have:=run_equalIn_struct (P:=P) w 9999 t vs.toArray us.toArray (by rw[hfo];exact hu) hst;rw[hfo] at this;exact this.trans hq
         cases ne
         .refine⟨trivial,Q6.pure h (u:=.bool b) ?_ (YX _)⟩;simp[execOp,ho,hex,hey,run_eqGuard_agg w _ _ _ _ _ _ hg,run_eql_struct,hq2,Result.andThen]
         refine⟨trivial,Q6.pure h (u:=.bool !b) ?_ (YX _)⟩;simp[execOp,ho,hex,hey,run_eqGuard_agg w _ _ _ _ _ _ hg,run_neq_struct,hq2,Result.andThen]
    cases he
   cases he
  cases hfl
 .cases hf
def Qhr{x}{op:Op}(hf:YOp.fits P (.lenm x) op=true):∃y t k e,op=.call { callee:=.builtin .len,args:=#[y],argTypes:=#[t] }/\x.is y=true/\P.underlying t=some (.map k e):=by
 simp only[YOp.fits] at hf;split at hf
 .rename_i az ts;split at hf
  .rename_i y t has hts;simp only[QNZ] at hf;have⟨hx,ht⟩:=hf;have e1:az=#[y]:=by cases az;simp_all
   have e2:ts=#[t]:=by cases ts;simp_all
   unfold Qqg at ht;grind
  cases hf
 .cases hf
def QrP{x}:DnY P o ok0 N w0 lk lo a w L (.lenm x):=by
 intro s f v up h hf he hs;have⟨y,t,k,e,ho,hx,hu⟩:=Qhr hf;have rx:=Opd.rep h hx;simp[evY] at he;generalize x.av _=xv at rx he;generalize hey:a.eval y=ye at rx;split at he
 .cases he;cases rx with
  |iv _ _ r=>
   cases r with
   |mapn=>exact⟨trivial,Q6.pure h (by simp[execOp,ho,resolve,invoke,builtin,hey,Builtin.len_,run_underlying hu,goInt]) (ZH _ _)⟩
   |map _ r es clock hok hr hm hd hxx=>exact⟨trivial,Q6.pure h (by simp[execOp,ho,resolve,invoke,builtin,hey,Builtin.len_,run_underlying hu,goInt,getObj,Sem.run,hr,hm.size]) (ZH _ _)⟩
 .cases he
def QoC{id x}:DnY P o ok0 N w0 lk lo a w L (.lenmo id x):=by
 intro s f v up h hf he hs;have⟨y,t,k,e,ho,hx,hu⟩:=Qhr (x:=x) hf;have rx:=Opd.rep h hx;simp only[evY] at he;split at he
 .rename_i j kvs hxv hid;split at he
  .rename_i hji;subst hji;cases he;rw[hxv] at rx;have⟨_,b,hL,hv⟩:=W2 hid (Yv j) rx;have hob:=h.y8 _ _ hid;rw[hL] at hob;have⟨hF,es,clock,hb,hmr,hdd,hxx⟩:=hob;have hsz:=hmr.size;exact⟨trivial,Q6.pure h (by simp[execOp,ho,resolve,invoke,builtin,hv,Builtin.len_,run_underlying hu,goInt,getObj,Sem.run,hb,hsz]) (ZH _ _)⟩
  cases he
 .cases he
def QaV{t e:TypeId}{i:TypeInfo}{len sz:Nat}(he:P.underlying t=some (.array len e))(hi:P.info? e=some i)(hs:i.size=sz)
  (b off:Nat)(k:IntKind)(j:Int)(h0:0<=j)(h1:j<len):
  (Instr.indexAt t (.pointer (some ⟨b,off,none⟩)) (.int k j)).run P w=.ok (.pointer (some ⟨b,off+j.toNat*sz,none⟩)) w:=by
 simp[Instr.indexAt,asIntOf,run_underlying he,h0,h1,sizeOf,typeInfo,hi,hs,addr_add,Instr.sureAddr]
def Qvm{len sz:Nat}{x i:Opd}:DnY P o ok0 N w0 lk lo a w L (.ixa len sz x i):=by
 intro s f v up h hf he hs;simp only[YOp.fits] at hf;split at hf
 .rename_i t x' i' ho;simp only[QNZ] at hf;have⟨⟨hx,hi⟩,ht⟩:=hf;unfold QnA at ht;split at ht
  .rename_i n e hu;simp only[QNZ,beq_iff_eq] at ht;obtain⟨rfl,hsz⟩:=ht;unfold Program.sizeIs at hsz;split at hsz
   .rename_i ti hti;have hts:ti.size=sz:=by simpa using hsz
    have rx:=Opd.rep h hx;have ri:=Opd.rep h hi;simp only[evY] at he;generalize x.av lk=xv at rx he;generalize i.av lk=iv at ri he;generalize hex:a.eval x'=xe at rx;split at he
    .rename_i id off k j;cases he;have hei:=Zw ri;cases rx with
     |loc _ _ cs b hob hL=>refine⟨trivial,Q6.pure h (u:=.pointer (some ⟨b,off+j.toNat*sz,none⟩)) ?_ (.loc id _ cs b hob hL)⟩;simp only[execOp,ho,hex,hei,Sem.run_bind,QaV hu hti hts b off k j hs.1 hs.2];rfl
    .rename_i cs k j;cases he;have hei:=Zw ri;cases rx with
     |iv _ _ r=>
      cases r with
      |ptr _ b off u hcell hxx=>
       refine⟨trivial,Q6.pure h (u:=.pointer (some ⟨b,off+j.toNat*sz,none⟩)) ?_ (.iv _ _ (.ptr _ b _ (λq=>u (j.toNat*sz+q)) (λq hq=>?_) (λq z hz=>?_)))⟩
       .simp only[execOp,ho,hex,hei,Sem.run_bind,QaV hu hti hts b off k j hs.1 hs.2.1];rfl
       all_goals grind
    cases he
   cases hsz
  cases ht
 .cases hf
def QAQ{sz}:DnY P o ok0 N w0 lk lo a w L (.zslv sz):=by
 intro s f v up h hf he hs;obtain⟨rfl,rfl,rfl,rfl⟩:=he;simp only[YOp.fits] at hf;unfold QGp at hf;split at hf
 .rename_i t n ps ho;simp only[QNZ,beq_iff_eq,decide_eq_true_eq] at hf;have⟨⟨⟨⟨⟨hn,hsq⟩,hsz⟩,hez⟩,hb⟩,hpl⟩:=hf;have⟨e,i,hu,hi,hs⟩:=Xn hsz;have⟨news,hrun,hnl,h1,hrl,hrs,hx⟩:=QlZ h ho hn hsq hu hi hs (VI hez hu hi) hb (rows:=[]) rfl;exact⟨trivial,_,_,_,L,hrun,.inl rfl,h.ext (QF w (.cells news.toArray e)),.zsl _ _ rfl⟩
 .cases hf
def Qb9{t kt et}{d:TypeDesc}{r es clock key z}{i:TypeInfo}{res}(hm:P.underlying t=some (.map kt et))(hd:P.underlying kt=some d)
  (hb:w.heap[r]?=some (.map es clock))(hk:MapKept.IsKey d key)(hi:P.info? et=some i)(hz:i.zero=some z)(hf:Instr.findNow d key es.toList 0=some res):
  (Instr.lookup t (.map (some r)) key true).run P w=.ok (.tuple #[(res.map (·.2)).getD z,.bool res.isSome]) w:=by
 have hc:=MapKept.run_checkKey (w:=w) hd hk es.isEmpty 9999;have hff:=MapKept.run_findKey (w:=w) hd hf;have hzz:(zeroValue et).run P w=.ok z w:=by simp[zeroValue,typeInfo,hi,hz]
 cases res with
 |none=>simp[Instr.lookup,run_underlying hm,MapKept.run_getObj_map hb,hc,hff,hzz]
 |some q=>simp[Instr.lookup,run_underlying hm,MapKept.run_getObj_map hb,hc,hff]
def Qfk{ok x u b}(h:QZ ok w x u):QZ ok w (.xf [x,.bool b]) (.tuple #[u,.bool b]):=by
 refine .xf _ _ rfl λk y v hk hv=>?_
 match k with
 |0=>simp at hk hv;subst hk hv;exact h
 |1=>simp at hk hv;subst hk hv;exact .bool b
 |k+2=>simp at hk
def Qvc{kk:Option IntKind}{zs:List Opd}{x k:Opd}:DnY P o ok0 N w0 lk lo a w L (.lkc kk zs x k):=by
 intro s f v up h hf he hs;simp only[YOp.fits] at hf;split at hf
 .rename_i t x' k' c ho;simp only[QNZ] at hf;have⟨⟨⟨hx,hk⟩,hc⟩,hz⟩:=hf;subst hc;have rx:=Opd.rep h hx;have rk:=Opd.rep h hk;simp only[evY] at he;split at he
  .rename_i kvs key zl hxv hkv hzl;cases he;obtain⟨kt,et,i,zz,hm,hkt,hi,hiz,hzr⟩:∃kt e i v,P.underlying t=some (.map kt e)/\Qjl P kk kt=true/\P.info? e=some i/\i.zero=some v/\QZ (okL ok0 lo L) w (.agg zl) v:=by
    unfold QFw at hz;split at hz
    .rename_i e he;have⟨kt,h1,h2⟩:=UO he;simp only[QNZ] at hz;have⟨i,z,hi,hz0,hzs,_⟩:=Vj hz.1;have hag:=hz.2;rw[hi] at hag;simp only[hz0] at hag;split at hag
     .rename_i cs hcs;injection hcs with hcs;have⟨hl,hxx⟩:=XV (w:=w) (lo:=lo) (L:=L) (ok:=okL ok0 lo L) (lk:=lk) hzs;have hmk:Qcx (zs.map (·.av lk))=.iv (.agg zl):=by simp[Qcx,hzl]
      have hrep:=Ue (cs:=zs.map (·.av lk)) (vs:=cs.toList) (ok:=okL ok0 lo L) (w:=w) (lo:=lo) (L:=L) (by subst hcs;simpa[Value.cells] using hl) (λu hu=>by
       subst hcs;obtain⟨q,hq,rfl⟩:=QON hu;have hq2:q<(zs.map (·.av lk)).length:=by rw[<- hl];simpa[Value.cells] using hq
       exact(hxx q _ _ (QNX hq2) (by simpa[Value.cells] using QNX hq)).2) (λq y u a b=>by
       subst hcs;exact(hxx q y u a (by simpa[Value.cells] using b)).1)
      rw[hmk] at hrep;refine⟨kt,e,i,z,h1,h2,hi,hz0,?_⟩;subst hcs;simpa using VZ hrep
     cases hag
    cases hz
   have⟨hkk,hkval⟩:=Y6 (w:=w) (lo:=lo) (L:=L) hkv;have⟨d,hd,hik⟩:=Vz hkt hkk;have hke:=hkval rk;rw[hxv] at rx;have ri:=VZ rx;generalize hey:a.eval x'=xv at ri;cases ri with
   |mapn=>
    have hc:=MapKept.run_checkKey (P:=P) (w:=w) hd hik true 9999;have hff:=MapKept.run_findKey (P:=P) (w:=w) (k:=key.val) (l:=[]) (a:=none) hd rfl;have hzz:(zeroValue et).run P w=.ok zz w:=by simp[zeroValue,typeInfo,hi,hiz]
    exact⟨trivial,Q6.pure h (u:=.tuple #[zz,.bool false]) (by simp[execOp,ho,hey,hke,Instr.lookup,run_underlying hm,hc,hff,hzz]) (.iv _ _ (Qfk hzr))⟩
   |map _ r es clock hok hr hmr hdd hxx=>
    rcases Jo hmr (QN3 _) hdd hik (Yg hs hkt hd) with ⟨h1,h2⟩|⟨j,e,p,h1,_,h3,h4,h5,_⟩
    .have hr2:=Qb9 (P:=P) hm hd hr hik hi hiz h1;refine⟨trivial,Q6.pure h (u:=.tuple #[zz,.bool false]) (by simp[execOp,ho,hey,hke,hr2]) (.iv _ _ ?_)⟩;cases hf:Qv key kvs with
     |none=>exact Qfk hzr
     |some y=>have⟨j,hj⟩:=XP hf;exact absurd rfl (h2 j _ (QNY.1 hj).1 hj)
    have hr2:=Qb9 (P:=P) hm hd hr hik hi hiz h1;refine⟨trivial,Q6.pure h (u:=.tuple #[e.val,.bool true]) (by simp[execOp,ho,hey,hke,hr2]) (.iv _ _ ?_)⟩;have⟨a,y⟩:=p;simp only at h5;subst h5;rw[UN hdd h4];exact Qfk (hxx j e _ h3 h4)
  cases he
 .cases hf
section
variable(P:Program)(w:World){t:TypeId}{ms:Array (String×TypeId)}
def QiM(d)(hu:P.underlying t=some (.interface ms)):(Op.equalIn (d+1) t .nilIface .nilIface).run P w=.ok true w:=by simp[Op.equalIn,run_underlying hu]
def QiN(d ty pv)(hu:P.underlying t=some (.interface ms)):(Op.equalIn (d+1) t (.iface ty pv) .nilIface).run P w=.ok false w:=by simp[Op.equalIn,run_underlying hu]
def Qpn(hu:P.underlying t=some (.interface ms)):(Op.equal t .nilIface .nilIface).run P w=.ok true w:=QiM P w _ hu
def Qpo(ty pv)(hu:P.underlying t=some (.interface ms)):(Op.equal t (.iface ty pv) .nilIface).run P w=.ok false w:=QiN P w _ _ _ hu
def Qpl(ne)(x:Operand)(hu:P.underlying t=some (.interface ms)):(do eqGuard (if ne then .neq else .eql) t x (.const .nilIface) .nilIface .nilIface;binOp (if ne then .neq else .eql) t .nilIface .nilIface:Sem Value).run P w=.ok (.bool !ne) w:=by
 have h1:∀op,eqGuard op t x (.const .nilIface) .nilIface .nilIface=pure ():=λop=>by cases op<;>cases x<;>rfl
 rw[h1];cases ne<;>simp[binOp,Qpn P w hu]
def Qpm(ne)(x:Operand)(ty pv)(hu:P.underlying t=some (.interface ms)):(do eqGuard (if ne then .neq else .eql) t x (.const .nilIface) (.iface ty pv) .nilIface;binOp (if ne then .neq else .eql) t (.iface ty pv) .nilIface:Sem Value).run P w=.ok (.bool ne) w:=by
 have h1:∀op,eqGuard op t x (.const .nilIface) (.iface ty pv) .nilIface=pure ():=λop=>by cases op<;>rfl
 rw[h1];cases ne<;>simp[binOp,Qpo P w ty pv hu]
end
def Qvn{ne x}:DnY P o ok0 N w0 lk lo a w L (.isn ne x):=by
 intro s f v up h hf he hs;simp only[YOp.fits] at hf;split at hf
 .rename_i op t x' c ho;simp only[QNZ,beq_iff_eq] at hf;have⟨⟨hop,hx⟩,ht⟩:=hf;subst hop;split at ht
  .rename_i ms hu;have rx:=Opd.rep h hx;have hec:a.eval (.const .nilIface)=.nilIface:=rfl;simp only[evY] at he;generalize hey:a.eval x'=xv at rx;split at he
   .rename_i hxv;cases he;rw[hxv] at rx;cases rx with
    |iv _ _ r=>cases r with
     |lit=>
      have hr:=Qpl P w ne x' hu;refine⟨trivial,Q6.pure h (u:=.bool !ne) ?_ ?_⟩
      .simp only[execOp,ho,hey,hec];rw[Sem.run_bind,hr];rfl
      cases ne<;>exact YX _
   .rename_i hxv;cases he;rw[hxv] at rx;cases rx with
    |iv _ _ r=>cases r with
     |ifn _ hi=>
      obtain⟨ty,pv,rfl⟩:∃ty pv,xv=.iface ty pv:=by
       unfold QJC at hi;split at hi
       .exact⟨_,_,rfl⟩
       cases hi
      have hr:=Qpm P w ne x' ty pv hu;refine⟨trivial,Q6.pure h (u:=.bool ne) ?_ ?_⟩
      .simp only[execOp,ho,hey,hec];rw[Sem.run_bind,hr];rfl
      cases ne<;>exact YX _
   cases he
  cases ht
 .cases hf
def QAR{op}(h:Rel ok0 N w0 lk lo a w L)(hf:YOp.fits P op o.op=true)(he:evY lk lo op=.ok s f v up)(hs:s):f/\Q6 P o ok0 N w0 lk lo a w v up:=by
 cases op with
 |no=>cases he
 |s2b id x=>exact Qu0 h hf he hs
 |b2so id x=>exact QrS h hf he hs
 |ixb id x i=>exact Qvl h hf he hs
 |ldb id x=>exact Qvg h hf he hs
 |stb id x y=>exact QuX h hf he hs
 |mks id e b zs n=>exact Qu5 h hf he hs
 |r2s x=>exact Qu1 h hf he hs
 |mx mn x y=>exact QAS h hf he hs
 |rngs id x=>exact QrG h hf he hs
 |nxts id x=>exact QrJ h hf he hs
 |mkm id r=>exact Qu6 h hf he hs
 |lki kk z x k=>exact Qva h hf he hs
 |lkd id kk z x k=>exact Qvb h hf he hs
 |lkr id kk x k=>exact Qu9 h hf he hs
 |mupd id kk x k y=>exact QrN h hf he hs
 |mupr id kk x k y=>exact QrM h hf he hs
 |ixg len x i=>exact Qvk h hf he hs
 |rngm id x=>exact QrH h hf he hs
 |ent id x=>exact Qvs h hf he hs
 |mkf g fs cs=>exact Qu7 h hf he hs
 |neg x=>exact Qu3 h hf he hs
 |eqs ne n x y=>exact Qvr h hf he hs
 |lenm x=>exact QrP h hf he hs
 |lenmo id x=>exact QoC h hf he hs
 |ixa len sz x i=>exact Qvm h hf he hs
 |zslv sz=>exact QAQ h hf he hs
 |lkc kk zs x k=>exact Qvc h hf he hs
 |isn ne x=>exact Qvn h hf he hs
end
def Fr0(w:World)(v0:Value)(b:Nat):Prop:=b<w.heap.size/\v0.ownBlock≠some b
structure UA(w:World)(ok:Nat->Prop)(e:TypeId)(sz:Nat)(rows:List (List IV))(v0:Value)(rows':List (List IV))(v':Value)(xs':List Value)(w':World):Prop where
 keep:Zv (Fr0 w v0) w w'
 own:w'.ownsRow 0 e sz v' rows'.length xs'
 blk:∀b,v'.ownBlock=some b->v0.ownBlock=some b\/w.heap.size<=b
 size:∀c∈rows',c.length=sz
 one:∀u∈xs',u.oneCell'=true
 cells:∀i j c x u,rows'[i]?=some c->c[j]?=some x->xs'[i*sz+j]?=some u->QZ (λb=>(ok b\/v0.ownBlock=some b)/\v'.ownBlock≠some b) w' x u
 le:rows.length<=rows'.length
 same:rows'.length=rows.length->v'=v0
section
variable{P:Program}{ok0:Nat->Prop}{N:Fm}{w0:XS}{lk:Nat->AV}{lo:Nat->Option AO}{a:Act}{w:World}{L:Nat->Lay}
def Yz{w:World}{base:Nat}{e:TypeId}{sz:Nat}{v:Value}{n:Nat}{xs:List Value}(h:w.ownsRow base e sz v n xs):isSl v=true:=by rcases h.2 with ⟨hv,_⟩|⟨g,cap,cur,hv,_⟩<;>rw[hv]<;>rfl
def YK.lt'{Fr w e sz v n xs}(h:YK Fr w e sz v n xs){b}(hb:v.ownBlock=some b):b<w.heap.size:=(h.lt b hb).2
def QmE{id:Nat}{o:AO}{l':Lay}{v0 v':Value}(h:Rel ok0 N w0 lk lo a w L)(hok0:∀b,¬w0.fr b->ok0 b){o0:AO}(hid:lo id=some o0)(h0:∀b,v0.ownBlock=some b->(L id).has b/\¬w0.fr b)
  (hl':∀b,l'.has b->v'.ownBlock=some b\/((L id).has b/\v0.ownBlock≠some b)){b:Nat}(hb:(okL ok0 lo L b\/v0.ownBlock=some b)/\v'.ownBlock≠some b):okL ok0 (Zn lo id o) (Q7 L id l') b:=by
 have⟨h1,h2⟩:=hb;refine⟨?_,λi oi hi he=>?_⟩
 .rcases h1 with h1|h1
  .exact h1.1
  exact hok0 b (h0 b h1).2
 .by_cases hii:i=id
  .grind
  .simp only[Zn,hii,if_false] at hi;simp only[Q7,hii,if_false] at he;rcases h1 with h1|h1
   .exact h1.2 i oi hi he
   .exact h.apart i id oi o0 b hii hi hid he (h0 b h1).1
theorem Xe{α:Type}{k:MK}{y:α}:∀{l:List (MK×α)}{i:Nat}{q:MK×α},(zn k y l)[i]?=some q->q.1≠k->l[i]?=some q
 |[],i,q,h,hn=>by
  cases i with
  |zero=>simp[zn] at h;subst h;exact absurd rfl hn
  |succ i=>simp[zn] at h
 |p::r,i,q,h,hn=>by
  unfold zn at h;split at h
  .grind
  cases i with
  |zero=>simpa using h
  |succ i=>exact Xe (l:=r) (by simpa using h) hn
theorem Yd{α:Type}{k:MK}{y:α}:∀{l:List (MK×α)},(∀(i j:Nat)(p q:MK×α),l[i]?=some p->l[j]?=some q->p.1=q.1->i=j)->∀{i:Nat}{q:MK×α},(zn k y l)[i]?=some q->q.1=k->q=(k,y)
 |[],_,i,q,h,_=>by
  cases i with
  |zero=>simp[zn] at h;exact h.symm
  |succ i=>simp[zn] at h
 |p::r,hd,i,q,h,hk=>by
  unfold zn at h;split at h
  .rename_i hp;cases i with
   |zero=>simp at h;exact h.symm
   |succ i=>have:=hd 0 (i+1) p q rfl (by simpa using h) (by rw[hp,hk]);omega
  rename_i hp;cases i with
  |zero=>simp at h;subst h;exact absurd hk hp
  |succ i=>exact Yd (l:=r) (λi j p q a b c=>by have:=hd (i+1) (j+1) p q (by simpa using a) (by simpa using b) c;omega) (by simpa using h) hk
theorem Qcz{α k}{y:α}:∀{l:List (MK×α)}{i},i<l.length->((zn k y l)[i]?).map (·.1)=(l[i]?).map (·.1)
 |[],i,h=>by simp at h
 |p::r,i,h=>by
  unfold zn;split
  .grind
  cases i with
  |zero=>simp
  |succ i=>simpa using Qcz (l:=r) (i:=i) (by simpa using h)
theorem QcA{α k}{y:α}:∀{l:List (MK×α)}{i}{p:MK×α},(zn k y l)[i]?=some p->l.length<=i->p.1=k
 |[],i,p,h,_=>by
  cases i with
  |zero=>simp[zn] at h;subst h;rfl
  |succ i=>simp[zn] at h
 |q::r,i,p,h,hi=>by
  unfold zn at h;split at h
  .grind
  cases i with
  |zero=>simp at hi
  |succ i=>exact QcA (l:=r) (by simpa using h) (by simpa using hi)
theorem Qcy{α k}{y:α}:∀(l:List (MK×α)),l.length<=(zn k y l).length
 |[]=>by simp[zn]
 |p::r=>by
  unfold zn;split
  .simp
  have:=Qcy (k:=k) (y:=y) r;simp only[QOi];omega
def Qjb{id:Nat}{e:TypeId}{sz:Nat}{kvs:List (MK×List (List IV))}{pend:Option MK}{b:Nat}{vals:List (MK×Value)}(h:Rel ok0 N w0 lk lo a w L)(hid:lo id=some (.yo e sz kvs pend))(hL:L id=.map b vals)(k:MK):∃xs,YK w0.fr w e sz ((Qv k vals).getD (.slice none 0 0)) ((Qv k kvs).getD []).length xs/\((Qv k vals).getD (.slice none 0 0)).ownBlock≠some b/\(∀c∈(Qv k kvs).getD [],c.length=sz)/\(∀u∈xs,u.oneCell'=true) /\(∀(i j:Nat)c x u,((Qv k kvs).getD [])[i]?=some c->c[j]?=some x->xs[i*sz+j]?=some u->QZ (okL ok0 lo L) w x u) /\(∀g,((Qv k vals).getD (.slice none 0 0)).ownBlock=some g->(L id).has g/\∀(j:Nat)(q:MK×Value),vals[j]?=some q->q.1≠k->q.2.ownBlock≠some g):=by
 have hob:=h.y8 _ _ hid;rw[hL] at hob;have⟨hF,_,hdd,hkv2,hrow,hap⟩:=hob;cases hf:Qv k vals with
 |none=>
  have hkn:Qv k kvs=none:=by
   cases hk:Qv k kvs with
   |none=>rfl
   |some y=>have⟨i,hi⟩:=XP hk;have⟨q,hq,hqk⟩:=Qo1 hkv2 hi;exact absurd hqk (Qaf hf i q hq)
  rw[hkn];exact⟨[],⟨⟨by simp,.inl ⟨rfl,rfl⟩⟩,λb hb=>by simp[Value.ownBlock] at hb⟩,by simp[Value.ownBlock],by simp,by simp,by simp,λg hg=>by simp[Value.ownBlock] at hg⟩
 |some v0=>
  have⟨i,hi⟩:=XP hf;have⟨p,hp,hpk⟩:=QaK hkv2 hi;simp only at hpk;have hp':kvs[i]?=some (k,p.2):=by rw[hp,<- hpk]
  have hk:Qv k kvs=some p.2:=UN hdd hp';grind
def Qnx{id:Nat}{e:TypeId}{sz:Nat}{kvs:List (MK×List (List IV))}{b:Nat}{vals:List (MK×Value)}{k:MK}{rows':List (List IV)}{v':Value}{xs':List Value}{w':World}(h:Rel ok0 N w0 lk lo a w L)(hok0:∀b,¬w0.fr b->ok0 b)
  (hid:lo id=some (.yo e sz kvs none))(hL:L id=.map b vals)(hr:UA w (okL ok0 lo L) e sz ((Qv k kvs).getD []) ((Qv k vals).getD (.slice none 0 0)) rows' v' xs' w'):
  Rel ok0 N w0 lk (Zn lo id (.yo e sz (zn k rows' kvs) (some k))) a w' (Q7 L id (.map b (zn k v' vals))) /\
  ∀ok,QG ok w' (Zn lo id (.yo e sz (zn k rows' kvs) (some k))) (Q7 L id (.map b (zn k v' vals))) (.yn id k rows'.length) v':=by
 have⟨xs,g1,g2,g3,g4,g5,g6⟩:=Qjb h hid hL k;have hob:=h.y8 _ _ hid;rw[hL] at hob;have⟨hF,⟨es,clock,hb,n,hn,hmr,hnew,hval⟩,hdd,hkv2,hrow,hap⟩:=hob;generalize hv0:(Qv k vals).getD (.slice none 0 0)=v0 at hr g1 g2 g6;generalize hrows:(Qv k kvs).getD []=rows at hr g1 g3 g5;have hblt:=(QN8.1 hb).1;have h0:∀b,v0.ownBlock=some b->(L id).has b/\¬w0.fr b:=λb hb=>⟨(g6 b hb).1,g1.free b hb⟩;have hvd:=qT hkv2 hdd;have mem:∀(p:MK×Value),p∈zn k v' vals->p=(k,v')\/∃j:Nat,vals[j]?=some p/\p.1≠k:=by
  intro p hp;have⟨j,hj⟩:=QOF hp;by_cases hpk:p.1=k
  .exact .inl (Yd hvd hj hpk)
  exact .inr ⟨j,Xe hj hpk,hpk⟩
 have hl2:∀g,(Lay.map b (zn k v' vals)).has g->v'.ownBlock=some g\/((L id).has g/\v0.ownBlock≠some g):=by grind
 have hl':∀g,(Lay.map b (zn k v' vals)).has g->(L id).has g\/w.heap.size<=g:=by
  intro g hg;rcases hl2 g hg with h1|⟨h1,_⟩
  .exact(hr.blk g h1).imp (λh=>(h0 g h).1) (λh=>h)
  exact .inl h1
 have hg:Qix (L id).has w w':=⟨hr.keep.os,hr.keep.tape,hr.keep.output,hr.keep.size,λk hk hn=>hr.keep.block k ⟨hk,λe=>hn (h0 k e).1⟩⟩;have hsl':=Yz hr.own;have hf1:=Jh (k:=k) (y:=rows') kvs;have hf2:=Jh (k:=k) (y:=v') vals;have hok:∀g,okL ok0 lo L g->g<w.heap.size->okL ok0 (Zn lo id (.yo e sz (zn k rows' kvs) (some k))) (Q7 L id (.map b (zn k v' vals))) g:=λg hk y9=>h.okL_turn hid hl' hk y9;have heq:∀g,okL ok0 lo L g->g<w.heap.size->w'.heap[g]?=w.heap[g]?:=λg hk y9=>hg.block g y9 (hk.2 id _ hid);refine⟨h.turn id hid hg hl' (λz u hz hu=>?_) (λ_=>?_),λok=>?_⟩
 .obtain⟨b3,vals3,hL3,hu⟩:=Uf hid hz hu;rw[hL] at hL3;injection hL3 with q1 q2;subst q1 q2;rcases hu with ⟨rfl,rfl⟩|⟨k3,n3,rfl,h3,h3n,h4⟩
  .grind
  by_cases hk3:k3=k
  .subst hk3;rw[hrows] at h3n h4;rw[hv0] at h4;have hle:=hr.le;refine .yn id k3 n3 e sz (zn k3 rows' kvs) (some k3) b (zn k3 v' vals) u (by simp[Zn]) (by simp[Q7]) h3 (by rw[hf1];simp only[QOG];omega) (λhl=>?_);rw[hf1] at hl;rw[hf2];simp only[QOG] at hl |-;have:rows'.length=rows.length:=by omega
   rw[hr.same this];exact h4 (by omega)
  have e1:=Vw (y:=rows') hk3 kvs;have e2:=Vw (y:=v') hk3 vals;grind
 .have hkl:n=kvs.length:=by
   rcases QPi n kvs.length with y9|hge
   .have:=hnew n _ (QNX y9) (QN3 _);cases this
   omega
  refine⟨hF,⟨es,clock,(hr.keep.block b ⟨hblt,g2⟩).trans hb,n,by have:=Qcy (k:=k) (y:=rows') kvs;omega,⟨hmr.size,λi e he=>?_,hmr.born,hmr.apart⟩,λi p hp hi=>?_,λi e q he hq hqk=>?_⟩,Qae hdd,QmI hkv2,λi p q hp hq=>?_,λi j p q g hij hp hq hpg hqg=>?_⟩
  .have hi:=(QN8.1 he).1;rw[hmr.size,hkl] at hi;rw[Qcz hi];exact hmr.keys i e he
  .rw[QcA hp (by omega)]
  .have hqk':q.1≠k:=λe=>hqk (by rw[e]);exact hval i e q he (Xe hq hqk') (by simp)
  .have hpq:q.1=p.1:=by
    have⟨p',hp',hpq⟩:=QaK (QmI (k:=k) (y:=rows') (y':=v') hkv2) hq;rw[hp] at hp';injection hp' with hp';rw[hp',hpq]
   by_cases hpk:p.1=k
   .have e1:=Yd hdd hp hpk;have e2:=Yd hvd hq (by rw[hpq,hpk]);subst e1 e2;refine⟨xs',⟨hr.own,λg hg=>(hr.blk g hg).elim (λh1=>g1.free g h1) (λh2=>h.frlt h2)⟩,λhbad=>?_,hr.size,hr.one,λi j c x u h1 h2 h3=>(hr.cells i j c x u h1 h2 h3).mono λg hg _=>⟨QmE (l':=.map b (zn k v' vals)) h hok0 hid h0 hl2 hg,rfl⟩⟩;rcases hr.blk b hbad with h1|h1
    .exact g2 h1
    omega
   have hqk:q.1≠k:=by rw[hpq];exact hpk
   have hp':=Xe hp hpk;have hq':=Xe hq hqk;have⟨ys,h1,h2,h3,h4,h5⟩:=hrow i p q hp' hq';refine⟨ys,h1.stay λg hg=>hr.keep.block g ⟨h1.lt' hg,λhbad=>(g6 g hbad).2 i q hq' hqk hg⟩,h2,h3,h4,λi j c x u a1 a2 a3=>(h5 i j c x u a1 a2 a3).mono λg hg y9=>⟨hok g hg y9,heq g hg y9⟩⟩
  have clash:∀(i j:Nat)(q:MK×Value),(zn k v' vals)[j]?=some q->q.1≠k->v'.ownBlock=some g->q.2.ownBlock=some g->False:=by
   intro i j q hq hqk h1 h2;have hq':=Xe hq hqk;rcases hr.blk g h1 with h3|h3
   .exact(g6 g h3).2 j q hq' hqk h2
   have⟨p',hp',_⟩:=QaK hkv2 hq';have⟨ys,h4,_⟩:=hrow j p' q hp' hq';have:=h4.lt' h2;omega
  by_cases hpk:p.1=k
  .have hqk:q.1≠k:=λe=>hij (Qae hvd i j p q hp hq (by rw[hpk,e]));have e1:=Yd hvd hp hpk;subst e1;exact clash i j q hq hqk hpg hqg
  by_cases hqk:q.1=k
  .have e1:=Yd hvd hq hqk;subst e1;exact clash j i p hp hpk hqg hpg
  exact hap i j p q g hij (Xe hp hpk) (Xe hq hqk) hpg hqg
 grind
def QrT{id:Nat}{e:TypeId}{sz bytes:Nat}{x y:Opd}{o:Oper}{s f:Prop}{v:AV}{up:Option (Nat×AO)}(h:Rel ok0 N w0 lk lo a w L)(hok0:∀b,¬w0.fr b->ok0 b)(hf:QAL P e sz bytes x y o.op=true){i:Nat}{k:MK}{n:Nat}(hxv:x.av lk=.yn i k n)
  (he:WG lo id e sz bytes (x.av lk) (y.av lk)=.ok s f v up)(hs:s):f/\Q6 P o ok0 N w0 lk lo a w v up:=by
 have⟨x',y',t,ti,z,ho,hx,hy,hu,hi,hsz,hby,hz,hzs,hpos⟩:=Qgo hf;have rx:=Opd.rep h hx;have ry:=Opd.rep h hy;rw[hxv] at rx he;generalize y.av lk=yv at ry he;generalize hex:a.eval x'=vv at rx;generalize hey:a.eval y'=yy at ry;have run:∀u w',(Builtin.append_ #[t,t] o.type #[vv,yy]).run P w=.ok u w'->(execOp a.eval o).run P w=.ok (.value u) w':=by intro u w' hr;simp[execOp,ho,resolve,invoke,builtin,hex,hey,hr]
 obtain⟨sy,ys,rfl⟩:∃sy ys,yv=.iv (.sl sy ys):=by
  cases yv with
  |iv q=>cases q<;>first|exact⟨_,_,rfl⟩|simp[WG] at he
  |_=>simp[WG] at he
 obtain⟨b,vals,hob,hL,hvv⟩:∃(b:Nat)(vals:List (MK×Value)),(∃e' sz' kvs pend,lo i=some (.yo e' sz' kvs pend)/\(((Qv k kvs).getD []).length=n->vv=(Qv k vals).getD (.slice none 0 0)))/\L i=.map b vals/\isSl vv=true:=by grind
 obtain⟨e',sz',kvs,pend,hob,hvn⟩:=hob;simp only[WG] at he;split at he
 .rename_i hii;subst hii;rw[hob] at he;cases pend with
  |some pk=>simp at he
  |none=>
   simp only at he;split at he
   .rename_i hees;obtain⟨rfl,rfl⟩:=hees;cases he;obtain⟨rfl,hlen,hmax,hbytes⟩:=hs;have hv0:=hvn hlen;subst hv0;have⟨xs,g1,g2,g3,g4,g5,g6⟩:=Qjb h hob hL k;generalize hvv0:(Qv k vals).getD (.slice none 0 0)=vv at *;have hfree:∀b,okL ok0 lo L b->vv.ownBlock≠some b:=λb hb hbad=>hb.2 i _ hob (g6 b hbad).1
    have hyshape:((∃a0,yy=.slice a0 0 0)/\ys=[])\/∃(b off cap:Nat)(u:Nat->Value),yy=.slice (some ⟨b,off,none⟩) ys.length cap/\(∀c∈ys,c.length=sy) /\(∀k,k<ys.length*sy->okL ok0 lo L b/\w.cell? ⟨b,off+k,none⟩=some (u k)/\(u k).oneCell'=true) /\
      (∀(i j:Nat)(c:List IV)(x:IV),ys[i]?=some c->c[j]?=some x->QZ (okL ok0 lo L) w x (u (i*sy+j))):=by
     cases ry with
     |iv _ _ r=>cases r with
      |sl _ _ b off cap u hl hc hes hcell hxx=>exact .inr ⟨b,off,cap,u,rfl,hes,hcell,hxx⟩
      |_=>grind
    generalize hrw:(Qv k kvs).getD []=rows at *
    have fin:∀(v':Value)(w':World)(xs':List Value),(Builtin.append_ #[t,t] o.type #[vv,yy]).run P w=.ok v' w'->UA w (okL ok0 lo L) e' sy rows vv (rows++ys) v' xs' w' ->
      True/\Q6 P o ok0 N w0 lk lo a w (.yn i k (n+ys.length)) (some (i,.yo e' sy (zn k (rows++ys) kvs) (some k))):=by
     intro v' w' xs' hr hb;obtain⟨r1,r2⟩:=Qnx (k:=k) (rows':=rows++ys) (v':=v') (xs':=xs') h hok0 hob hL (by rw[hrw,hvv0];exact hb);have e1:n+ys.length=(rows++ys).length:=by rw[QOf,hlen]
     rw[e1];exact⟨trivial,_,v',w',_,run _ _ hr,.inl rfl,r1,r2 _⟩
    have hown:=g1.own;by_cases hm:ys.length=0
    .have hnil:ys=[]:=QN4 hm;subst hnil;have hvshape:∃base cap,vv=.slice base rows.length cap/\rows.length<=cap:=by
      rcases hown.2 with ⟨hv',h00⟩|⟨g,cap,cur,hv',hB,hgg,hnc,hcm,hcs',htake⟩
      all_goals grind
     have⟨base,cap,hvb,hbc⟩:=hvshape
     have hr:=Jb (P:=P) (w:=w) (ty:=o.type) hu hi base rows.length cap hbc yy (by
      rcases hyshape with ⟨⟨a0,h1⟩,_⟩|⟨b,off,c,u,h1,_⟩
      .cases a0 with
       |none=>exact .inl h1
       |some a0=>exact .inr ⟨_,_,h1⟩
      exact .inr ⟨_,_,h1⟩)
     rw[<- hvb] at hr;refine fin vv w xs hr ⟨Zv.refl _ _,by simpa using hown,λb hb=>.inl hb,by simpa using g3,g4,λi j c x u h1 h2 h3=>?_,by simp,λ_=>rfl⟩;rw[QOl] at h1;exact(g5 i j c x u h1 h2 h3).mono λb hb _=>⟨⟨.inl hb,hfree b hb⟩,rfl⟩
    rcases hyshape with ⟨_,h0⟩|⟨b,off,c,u,hyy,hyl,hyc,hyx⟩
    .exact absurd (by rw[h0];rfl) hm
    let news:=(List.range (ys.length*sy)).map u
    have hnl:news.length=ys.length*ti.size:=by simp[news,hsz]
    have hnews:∀j u',news[j]?=some u'->w.cell? ((⟨b,off,none⟩:Addr).add j)=some u':=by intro j u' hj;simp only[news,QN6,QN2] at hj;obtain⟨k',hk',rfl⟩:=hj;have⟨h3,h4⟩:=QNY.1 hk';simp at h3 h4;subst h4;rw[addr_add];exact(hyc j h3).2.1
    have hn1:∀u'∈news,u'.oneCell'=true:=by grind
    have hnx:∀(i j:Nat)(c:List IV)(x:IV)(u':Value),ys[i]?=some c->c[j]?=some x->news[i*sy+j]?=some u'->QZ (okL ok0 lo L) w x u':=by grind
    have hml:rows.length+ys.length<=9223372036854775807:=by simp only[maxLen] at hmax;omega
    have hxl:xs.length=rows.length*sy:=hown.1;have xd:∀c∈rows++ys,c.length=sy:=λc hc=>(QOc.1 hc).elim (g3 c) (hyl c);have hone:∀u∈xs++news,u.oneCell'=true:=λc hc=>(QOc.1 hc).elim (g4 c) (hn1 c);have hcells:∀(i j:Nat)c x u,(rows++ys)[i]?=some c->c[j]?=some x->(xs++news)[i*sy+j]?=some u->QZ (okL ok0 lo L) w x u:=by
     intro i j c x u' h1 h2 h3;have hcl:c.length=sy:=xd c (QOh h1);have hj:j<sy:=by rw[<- hcl];exact(QNY.1 h2).1
     rcases QPi i rows.length with y9|hge
     .rw[QOs y9] at h1;have:(i+1)*sy<=rows.length*sy:=QOI sy y9;grind
     rw[QOm hge] at h1;have:rows.length*sy<=i*sy:=QOI sy hge;rw[QOm (by omega),hxl,show i*sy+j-rows.length*sy=(i-rows.length)*sy+j by rw[Nat.sub_mul];omega] at h3;exact hnx _ _ c x u' h1 h2 h3
    have fin2:∀(v':Value)(w':World),(Builtin.append_ #[t,t] o.type #[vv,yy]).run P w=.ok v' w'->Zv (Fr0 w vv) w w'->w'.ownsRow 0 e' sy v' (rows.length+ys.length) (xs++news) ->(∀b,v'.ownBlock=some b->vv.ownBlock=some b\/w.heap.size<=b) ->
      True/\Q6 P o ok0 N w0 lk lo a w (.yn i k (n+ys.length)) (some (i,.yo e' sy (zn k (rows++ys) kvs) (some k))):=by
     intro v' w' hr hk ho hbl;refine fin v' w' (xs++news) hr ⟨hk,by rw[QOf];exact ho,hbl,xd,hone,λi j c x u' h1 h2 h3=>?_,by simp,λh=>absurd h (by rw[QOf];omega)⟩;refine(hcells i j c x u' h1 h2 h3).mono λb hb y9=>⟨⟨.inl hb,λhbad=>?_⟩,hk.block b ⟨y9,hfree b hb⟩⟩;grind
    have fresh:∀(cap':Nat)(cells:List Value),rows.length+ys.length<=cap'->cap'<=maxLen->cells.length=cap'*sy->cells.take ((rows.length+ys.length)*sy)=xs++news ->(Builtin.append_ #[t,t] o.type #[vv,yy]).run P w=.ok (.slice (some ⟨w.heap.size,0,none⟩) (rows.length+ys.length) cap') (w.drew.alloc (.cells cells.toArray e')) ->
      True/\Q6 P o ok0 N w0 lk lo a w (.yn i k (n+ys.length)) (some (i,.yo e' sy (zn k (rows++ys) kvs) (some k))):=by
     intro cap' cells h1 h2 h3 h4 hr;refine fin2 _ _ hr ⟨rfl,rfl,rfl,by simp,λk hk=>Ev.alloc_old w.drew _ _ hk.1⟩ ⟨?_,.inr ⟨w.heap.size,cap',cells.toArray,rfl,QPk _,heap_alloc_new w.drew _,h1,h2,by simpa using h3,by simpa using h4⟩⟩ (λb hb=>?_)
     .rw[QOf,hxl,hnl,hsz,QOU]
     simp only[Value.ownBlock,Option.some.injEq] at hb;exact .inr (by omega)
    have hlen':rows.length=n:=hlen;rcases hown.2 with ⟨hv',h00⟩|⟨g,cap,cur,hv',hB,hgg,hnc,hcm,hcs',htake⟩
    .have hxs0:xs=[]:=QN4 (by rw[hxl,h00];simp);have hr:=run_append_nil (P:=P) w t o.type e' ti z hu hi hz ⟨b,off,none⟩ ys.length c news hnl hnews (by omega) (by omega) (by rw[hby];rw[<- hlen',h00,QOn] at hbytes;omega);have hge:=grownCap_ge w ys.length 0 e';have hle:=grownCap_le_maxLen w ys.length 0 e' (by omega);have hzl:(Builtin.zeroCells z.cells (grownCap w ys.length 0 e'-ys.length)).toList.length=(grownCap w ys.length 0 e'-ys.length)*sy:=by
      rw[QPu,size_zeroCells,hzs]
     refine fresh (grownCap w ys.length 0 e') (news++(Builtin.zeroCells z.cells (grownCap w ys.length 0 e'-ys.length)).toList) (by omega) hle ?_ ?_ ?_
     .rw[QOf,hnl,hzl,hsz,<- QOU]
      congr 1;omega
     .grind
     rw[h00,QOn,hv',hyy,hr]
     congr 3;apply Array.ext';simp
    have hob':vv.ownBlock=some g:=by rw[hv'];rfl
    by_cases hroom:rows.length+ys.length<=cap
    .have hfit:rows.length*ti.size+news.length<=cur.size:=by rw[hnl,hcs',hsz,<- QOU];exact QOI _ hroom
     have hr:=run_append_room (P:=P) w t o.type e' ti hu hi g rows.length cap cur hgg ⟨b,off,none⟩ ys.length c news hnl hnews hn1 hroom hfit;rw[hsz] at hr hfit;have hset:=setRow_heap w g cur (cur.toList.take (rows.length*sy)++news++cur.toList.drop (rows.length*sy+news.length)).toArray e' (0,0) hgg;have hlen:=Y2 cur.toList news (rows.length*sy) (by simpa using hfit);have hgb:=Xx w g (cur.toList.take (rows.length*sy)++news++cur.toList.drop (rows.length*sy+news.length)).toArray;refine fin2 _ _ (by rw[hv',hyy];exact hr) ⟨hgb.os,hgb.tape,hgb.output,hgb.size,λk hk=>hgb.block k hk.1 (λe=>hk.2 (by rw[hob'];exact e.symm))⟩ ⟨?_,.inr ⟨g,cap,_,rfl,hB,hset,hroom,hcm,?_,?_⟩⟩ (λb hb=>.inl (by rw[hob'];exact hb))
     .rw[QOf,hxl,hnl,hsz,QOU]
     .simp only[QPs,hlen,QPu];exact hcs'
     simp only[];rw[htake];have:(rows.length+ys.length)*sy=(xs++news).length:=by rw[QOf,hxl,hnl,hsz,QOU]
     rw[this];exact List.take_left
    have holds:∀j u,xs[j]?=some u->w.cell? ((⟨g,0,none⟩:Addr).add j)=some u:=hown.cells (g:=g) hob'
    have hr:=run_append_grow (P:=P) w t o.type e' ti z hu hi hz ⟨g,0,none⟩ rows.length cap xs (by rw[hxl,hsz]) holds ⟨b,off,none⟩ ys.length c news hnl hnews (by omega) (by omega)
     (growslice_fits (by omega) (by rw[hby,hlen'];exact hbytes))
    have hge:=grownCap_ge w (rows.length+ys.length) cap e';have hle:=grownCap_le_maxLen w (rows.length+ys.length) cap e' (by omega);have hzl:(Builtin.zeroCells z.cells (grownCap w (rows.length+ys.length) cap e'-(rows.length+ys.length))).toList.length=(grownCap w (rows.length+ys.length) cap e'-(rows.length+ys.length))*sy:=by rw[QPu,size_zeroCells,hzs]
    have htot:(xs++news).length=(rows.length+ys.length)*sy:=by rw[QOf,hxl,hnl,hsz,QOU]
    refine fresh (grownCap w (rows.length+ys.length) cap e') (xs++news++(Builtin.zeroCells z.cells (grownCap w (rows.length+ys.length) cap e'-(rows.length+ys.length))).toList) hge hle ?_ ?_ ?_
    .rw[QOf,htot,hzl,<- QOU]
     congr 1;omega
    .rw[<- htot]
     exact List.take_left
    rw[hv',hyy,hr]
    congr 3;apply Array.ext';simp
   cases he
 .cases he
def Qvz{id e sz bytes x y o s f v up}(h:Rel ok0 N w0 lk lo a w L)(hok0:∀b,¬w0.fr b->ok0 b)(hf:QAL P e sz bytes x y o.op=true)
  (he:WG lo id e sz bytes (x.av lk) (y.av lk)=.ok s f v up)(hs:s):f/\Q6 P o ok0 N w0 lk lo a w v up:=by
 by_cases hm:∃i k n,x.av lk=.yn i k n
 .obtain⟨i,k,n,hm⟩:=hm;exact QrT h hok0 hf hm he hs
 exact QrU h hok0 hf (λi k n hh=>hm ⟨i,k,n,hh⟩) he hs
end
end Go.Ev
