/- Abstract values for a value-semantics evaluator of the translated Go code, and how they stand for values in a world. -/
import Derived.Still
import Derived.Below
import Derived.Laws.AppendOwn
import Derived.KernelRfl
import GoSem.ClaimKeys
import Derived.Laws.Strings
import Derived.Laws.IdiomStrings
import Derived.Laws.Cover4
import Derived.Laws.MakeOwn
import Derived.Lib.ConvBytes
import Derived.Lib.OthersKept
import Derived.MapKept
import Derived.MapFrom
import Derived.Carry
import Derived.Maps.RangeRun
import Derived.Laws.StructEq
import Derived.ChangeKeysEq
import Derived.WideKeyRuns
set_option linter.all false
namespace Go
abbrev QKF:=@List.getElem?_eq_getElem
abbrev QKG:=@List.getElem?_eq_some_iff
abbrev QKH:=@List.take_succ_eq_append_getElem
abbrev QKI:=@Bool.and_eq_true
abbrev QKJ:=@Nat.le_refl
abbrev QKK:=@Option.map_eq_some_iff
abbrev QKL:=@List.getElem_mem
abbrev QKM:=@List.take_of_length_le
abbrev QKN:=@List.getElem?_map
abbrev QKO:=@List.getElem?_append_right
abbrev QKP:=@List.length_append
abbrev QKQ:=@Array.getElem?_eq_some_iff
abbrev QKR:=@List.eq_nil_of_length_eq_zero
abbrev QKS:=@List.getElem?_append_left
abbrev QKT:=@List.mem_map
abbrev QKU:=@List.mem_cons
abbrev QKV:=@List.length_cons
abbrev QKW:=@List.mem_of_getElem?
abbrev QKX:=@List.length_map
abbrev QKY:=@Nat.zero_add
abbrev QKZ:=@List.map_cons
abbrev QK0:=@List.take_length
abbrev QK1:=@List.not_mem_nil
abbrev QK2:=@List.mem_append
abbrev QK3:=@List.map_append
abbrev QK4:=@List.length_nil
abbrev QK5:=@List.length_filter_le
abbrev QK6:=@List.mem_flatMap
abbrev QK7:=@Array.getElem?_eq_getElem
abbrev QK8:=@List.append_assoc
abbrev QK9:=@List.mem_filter
abbrev QLa:=@List.mem_range
abbrev QLb:=@Bool.not_eq_true'
abbrev QLc:=@Nat.mul_le_mul_right
abbrev QLd:=@List.mem_singleton
abbrev QLe:=@Int.tdiv_eq_ediv_of_nonneg
abbrev QLf:=@Option.isSome_iff_exists
abbrev QLg:=@List.drop_eq_getElem_cons
abbrev QLh:=@List.getElem_of_mem
abbrev QLi:=@Bool.false_eq_true
abbrev QLj:=@List.getElem?_of_mem
abbrev QLk:=@List.all_eq_true
abbrev QLl:=@Nat.add_mul
abbrev QLm:=@List.nil_append
abbrev QLn:=@Nat.lt_of_lt_of_le
abbrev QLo:=@List.length_pos_iff
abbrev QLp:=@List.cons_append
abbrev QLq:=@List.countP_le_length
abbrev QLr:=@List.getElem?_take
abbrev QLs:=@List.range_succ
abbrev QLt:=@Array.getD_eq_getD_getElem?
abbrev QLu:=@List.drop_eq_nil_of_le
abbrev QLv:=@Nat.le_trans
abbrev QLw:=@List.mem_of_mem_take
abbrev QLx:=@List.flatMap_cons
abbrev QLy:=@List.exists_mem_of_ne_nil
abbrev QLz:=@Int.mul_le_mul
abbrev QLA:=@World.block_lt_of_cell?
abbrev QLB:=@Option.getD_some
abbrev QLC:=@Int.mul_nonneg
abbrev QLD:=@List.countP_append
abbrev QLE:=@Int.mul_le_mul_of_nonneg_right
abbrev QLF:=@List.getElem_cons_zero
abbrev QLG:=@List.pairwise_iff_getElem
abbrev QLH:=@List.foldl_cons
abbrev QLI:=@Nat.add_assoc
abbrev QLJ:=@Int.mul_le_mul_of_nonneg_left
abbrev QLK:=@List.size_toArray
abbrev QLL:=@List.getElem?_eq_none
abbrev QLM:=@List.dropLast_concat_getLast
abbrev QLN:=@Array.getElem?_setIfInBounds
abbrev QLO:=@Option.map_some
abbrev QLP:=@List.getElem?_drop
abbrev QLQ:=@List.filter_cons_of_pos
abbrev QLR:=@List.filter_cons_of_neg
abbrev QLS:=@Nat.pow_le_pow_right
abbrev QLT:=@List.mem_of_mem_drop
abbrev QLU:=@Nat.lt_or_ge
abbrev QLV:=@Nat.zero_le
abbrev QLW:=@Nat.not_lt
abbrev QLX:=@Nat.add_zero
abbrev QLY:=@List.append_nil
abbrev QLZ:=@Array.getElem?_append
abbrev QL0:=@List.countP_cons
abbrev QL1:=@World.cell?_of_block
abbrev QL2:=@List.getElem?_set
abbrev QL3:=@List.foldl_append
abbrev QL4:=@Nat.mul_one
abbrev QL5:=@Array.length_toList
abbrev QL6:=@Array.getElem?_push
abbrev QL7:=@Nat.sub_self
abbrev QL8:=@List.map_nil
abbrev QL9:=@Array.getElem?_modify
abbrev QMa:=@List.nodup_nil
abbrev QMb:=@List.nodup_cons
abbrev QMc:=@List.ext_getElem?
abbrev QMd:=@List.mem_map_of_mem
abbrev QMe:=@List.map_congr_left
abbrev QMf:=@List.countP_eq_zero
abbrev QMg:=@List.map_flatMap
abbrev QMh:=@List.length_take
abbrev QMi:=@Nat.lt_of_le_of_lt
abbrev QMj:=@List.map_singleton
abbrev QMk:=@List.getElem?_toArray
abbrev QMl:=@Array.getElem?_toList
abbrev QMm:=@Nat.or_lt_two_pow
abbrev QMn:=@Int.toNat_natCast
abbrev QMo:=@Nat.pow_lt_pow_right
abbrev QMp:=@List.mem_cons_of_mem
abbrev QMq:=@List.mem_or_eq_of_mem_set
abbrev QMr:=@Array.mapM_eq_mapM_toList
abbrev QMs:=@List.flatMap_append
abbrev QMt:=@Nat.lt_succ_iff_lt_or_eq
abbrev QMu:=@List.ne_nil_of_mem
abbrev QMv:=@List.map_take
abbrev QMw:=@List.filter_append
abbrev QMx:=@Bool.or_eq_true
end Go
namespace Go.Ev
open Go Go.RowKit
abbrev Kp (K:World->Prop):Prop:=∀ w w',K w->Below w.heap.size w w'->K w'
inductive KC where
 | int (k:IntKind) (n:Int)
 | bool (b:Bool)
 deriving DecidableEq,Inhabited
def KC.val:KC->Value
 | .int k n=>.int k n
 | .bool b=>.bool b
inductive MK where
 | int (k:IntKind) (n:Int)
 | str (s:List UInt8)
 | agg (cs:List KC)
 deriving DecidableEq,Inhabited
def MK.val:MK->Value
 | .int k n=>.int k n
 | .str s=>.string ⟨s.toArray⟩
 | .agg cs=>.agg (cs.map KC.val).toArray
inductive KK where
 | str
 | int (k:IntKind)
 | agg (ks:List (Option IntKind))
 deriving DecidableEq,Inhabited
def KC.kind:KC->Option IntKind
 | .int k _=>some k
 | .bool _=>none
def MK.kind:MK->KK
 | .int k _=>.int k
 | .str _=>.str
 | .agg cs=>.agg (cs.map KC.kind)
inductive IV where
 | any
 | bool (b:Bool)
 | int (k:IntKind) (n:Int)
 | str (s:List UInt8)
 | nilp
 | sl (sz:Nat) (es:List (List IV))
 | ptr (cs:List IV)
 | agg (cs:List IV)
 | xd (cs:List IV)
 | fn (f:FuncId)
 | lit (v:Value)
 | map (kvs:List (MK × IV))
 | clo (g:FuncId) (first caps:List IV)
 | ifn
 | bag (sz:Nat) (es:List (List IV))
 deriving Inhabited
inductive AV where
 | iv (x:IV)
 | agg (cs:List AV)
 | loc (id off:Nat)
 | yj (id n i off:Nat)
 | yl (id n:Nat)
 | yn (id:Nat) (k:MK) (n:Nat)
 | ym (sz:Nat)
 | zsl (sz:Nat) (rows:List (List IV))
 | yk (id:Nat)
 | clo (g:FuncId) (first caps:List AV)
 | cb (id:Nat)
 | xd (cs:List AV)
 deriving Inhabited
structure Q8 (Fr:Nat->Prop) (w w':World):Prop where
 os:w'.os=w.os
 tape:w'.tape=w.tape
 output:w'.output=w.output
 size:w.heap.size<=w'.heap.size
 block:∀ k,Fr k->w'.heap[k]?=w.heap[k]?
def isFn:Value->Bool
 | .func _ _ _=>true
 | _=>false
structure Ext where
 v:Value
 hv:isFn v=true
 J:(Nat->Prop)->(Nat->Prop)->World->Prop
 stay:∀ O D w w',J O D w->Q8 D w w'->J O D w'
instance:Inhabited Ext:=⟨⟨.func (.func 0) #[] #[],rfl,fun _ _ _=>True,fun _ _ _ _ _ _=>trivial⟩⟩
inductive AO where
 | box (cs:List AV)
 | arr (e:TypeId) (sz:Nat) (es:List (List AV)) (mv:Nat)
 | xg (kvs:List (MK × IV))
 | mapz (kk:KK)
 | yo (e:TypeId) (sz:Nat) (kvs:List (MK × List (List IV))) (pend:Option MK)
 | yq (kvs:List (MK × IV)) (seen:List Nat)
 | ext (s:Ext)
 deriving Inhabited
theorem addr_add (b o k):(⟨b,o,none⟩:Addr).add k=⟨b,o+k,none⟩:=by
 unfold Addr.add;split<;>simp_all
structure X4 (n:Nat) (es:Array MapEntry) (clock:Nat) (key:Nat->Option MK):Prop where
 size:es.size=n
 keys:∀ (i:Nat) (e:MapEntry),es[i]?=some e->∃ k,key i=some k/\e.key=k.val
 stamp:∀ (i:Nat) (e:MapEntry),es[i]?=some e->e.born=i
 clk:clock=n
theorem X4.born {n es clock key} (h:X4 n es clock key) (i:Nat) (e:MapEntry) (he:es[i]?=some e):e.born<clock:=by
 rw[h.stamp i e he,h.clk,<- h.size];exact (QKQ.1 he).1
theorem X4.apart {n es clock key} (h:X4 n es clock key) (i j:Nat) (e f:MapEntry) (he:es[i]?=some e) (hf:es[j]?=some f) (heq:e.born=f.born):i=j:=by
 rw[<- h.stamp i e he,heq,h.stamp j f hf]
def QF5:Value->Bool
 | .iface _ _=>true
 | _=>false
inductive QF (ok:Nat->Prop) (w:World):IV->Value->Prop
 | any (v:Value):QF ok w .any v
 | bool (b:Bool):QF ok w (.bool b) (.bool b)
 | int (k:IntKind) (n:Int):QF ok w (.int k n) (.int k n)
 | str (s:List UInt8):QF ok w (.str s) (.string ⟨s.toArray⟩)
 | nilp:QF ok w .nilp (.pointer none)
 | nils (sz:Nat):QF ok w (.sl sz []) (.slice none 0 0)
 | nilz (sz:Nat) (a:Addr):QF ok w (.sl sz []) (.slice (some a) 0 0)
 | sl (sz:Nat) (es:List (List IV)) (b off cap:Nat) (u:Nat->Value) (hl:es.length<=cap) (hc:cap<=maxLen)
   (hs:∀ c∈es,c.length=sz)
   (hu:∀ k,k<es.length*sz->ok b/\w.cell? ⟨b,off+k,none⟩=some (u k)/\(u k).oneCell'=true)
   (hx:∀ (i j:Nat) (c:List IV) (x:IV),es[i]?=some c->c[j]?=some x->QF ok w x (u (i*sz+j))) :
   QF ok w (.sl sz es) (.slice (some ⟨b,off,none⟩) es.length cap)
 | ptr (cs:List IV) (b off:Nat) (u:Nat->Value)
   (hu:∀ k,k<cs.length->ok b/\w.cell? ⟨b,off+k,none⟩=some (u k)/\(u k).oneCell'=true)
   (hx:∀ (k:Nat) (x:IV),cs[k]?=some x->QF ok w x (u k)) :
   QF ok w (.ptr cs) (.pointer (some ⟨b,off,none⟩))
 | agg (cs:List IV) (vs:List Value) (hl:vs.length=cs.length) (h1:∀ u∈vs,u.oneCell'=true)
   (hx:∀ (k:Nat) (x:IV) (u:Value),cs[k]?=some x->vs[k]?=some u->QF ok w x u) :
   QF ok w (.agg cs) (.agg vs.toArray)
 | xd (cs:List IV) (vs:List Value) (hl:vs.length=cs.length)
   (hx:∀ (k:Nat) (x:IV) (u:Value),cs[k]?=some x->vs[k]?=some u->QF ok w x u) :
   QF ok w (.xd cs) (.tuple vs.toArray)
 | fn (f:FuncId):QF ok w (.fn f) (.func (.func f) #[] #[])
 | lit (v:Value):QF ok w (.lit v) v
 | ifn (v:Value) (h:QF5 v=true):QF ok w .ifn v
 | bag (sz:Nat) (es es':List (List IV)) (v:Value) (hp:es'.Perm es) (h:QF ok w (.sl sz es') v):QF ok w (.bag sz es) v
 | mapn:QF ok w (.map []) (.map none)
 | map (kvs:List (MK × IV)) (r:Nat) (es:Array MapEntry) (clock:Nat) (hok:ok r) (hr:w.heap[r]?=some (.map es clock)) (hm:X4 kvs.length es clock (fun i=>(kvs[i]?).map (·.1)))
   (hd:∀ (i j:Nat) (p q:MK × IV),kvs[i]?=some p->kvs[j]?=some q->p.1=q.1->i=j)
   (hx:∀ (i:Nat) (e:MapEntry) (p:MK × IV),es[i]?=some e->kvs[i]?=some p->QF ok w p.2 e.val):QF ok w (.map kvs) (.map (some r))
 | clo (g:FuncId) (fs cs:List IV) (us vs:List Value) (h1:us.length=fs.length) (h2:vs.length=cs.length)
   (hf:∀ (k:Nat) (x:IV) (u:Value),fs[k]?=some x->us[k]?=some u->QF ok w x u)
   (hc:∀ (k:Nat) (x:IV) (u:Value),cs[k]?=some x->vs[k]?=some u->QF ok w x u):QF ok w (.clo g fs cs) (.func (.func g) us.toArray vs.toArray)
theorem QF.mono {ok ok':Nat->Prop} {w w':World} {x:IV} {v:Value} (h:QF ok w x v)
  (hok:∀ b,ok b->b<w.heap.size->ok' b/\w'.heap[b]?=w.heap[b]?):QF ok' w' x v:=by
 have cell:∀ (b o:Nat) (u:Value),ok b->w.cell? ⟨b,o,none⟩=some u->ok' b/\w'.cell? ⟨b,o,none⟩=some u:=by
  intro b o u hb hc;have xa:=QLA w ⟨b,o,none⟩ hc;obtain ⟨h1,h2⟩:=hok b hb xa;exact ⟨h1,(QL1 (a:=⟨b,o,none⟩) h2).trans hc⟩
 induction h with
 | any v=>exact .any v
 | bool b=>exact .bool b
 | int k n=>exact .int k n
 | str s=>exact .str s
 | nilp=>exact .nilp
 | nils sz=>exact .nils sz
 | nilz sz a=>exact .nilz sz a
 | sl sz es b off cap u hl hc hs hu _ ih =>
   refine .sl sz es b off cap u hl hc hs (fun k hk=>?_) (fun i j c x h1 h2=>ih i j c x h1 h2);obtain ⟨h1,h2,h3⟩:=hu k hk;exact ⟨(cell _ _ _ h1 h2).1,(cell _ _ _ h1 h2).2,h3⟩
 | ptr cs b off u hu _ ih =>
   refine .ptr cs b off u (fun k hk=>?_) (fun k x h1=>ih k x h1);obtain ⟨h1,h2,h3⟩:=hu k hk;exact ⟨(cell _ _ _ h1 h2).1,(cell _ _ _ h1 h2).2,h3⟩
 | agg cs vs hl h1 _ ih=>exact .agg cs vs hl h1 (fun k x u h1 h2=>ih k x u h1 h2)
 | xd cs vs hl _ ih=>exact .xd cs vs hl (fun k x u h1 h2=>ih k x u h1 h2)
 | fn f=>exact .fn f
 | lit v=>exact .lit v
 | ifn v h=>exact .ifn v h
 | bag sz es es' v hp _ ih=>exact .bag sz es es' v hp ih
 | mapn=>exact .mapn
 | map kvs r es clock hr0 hr hm hd _ ih =>
   have xa:r<w.heap.size:=(QKQ.1 hr).1;obtain ⟨h1,h2⟩:=hok r hr0 xa;exact .map kvs r es clock h1 (h2.trans hr) hm hd (fun i e p h3 h4=>ih i e p h3 h4)
 | clo g fs cs us vs h1 h2 _ _ ih1 ih2=>exact .clo g fs cs us vs h1 h2 (fun k x u a b=>ih1 k x u a b) (fun k x u a b=>ih2 k x u a b)
inductive Lay where
 | box (b:Nat)
 | arr (v:Value) (xs:List Value)
 | one (b:Nat)
 | map (b:Nat) (vals:List (MK × Value))
 | ext (O D:Nat->Prop)
def Lay.has:Lay->Nat->Prop
 | .box b,k=>b=k
 | .arr v _,k=>v.ownBlock=some k
 | .one b,k=>b=k
 | .map b vals,k=>b=k\/∃ p∈vals,p.2.ownBlock=some k
 | .ext O _,k=>O k
def Qh {α:Type} (k:MK):List (MK × α)->Option α
 | []=>none
 | p::r=>if p.1=k then some p.2 else Qh k r
def AO.isIter:AO->Bool
 | .yq _ _=>true
 | .box _ | .arr _ _ _ _ | .xg _ | .mapz _ | .yo _ _ _ _ | .ext _=>false
def isSl:Value->Bool
 | .slice _ _ _=>true
 | _=>false
def QKx:Value->Bool
 | .pointer _=>true
 | _=>false
def QaF:Value->Bool
 | .slice _ n m=>decide (n=m)
 | _=>false
theorem Qcg {v} (h:QaF v=true):∃ a n,v=.slice a n n:=by
 unfold QaF at h;split at h
 ·rw[decide_eq_true_eq] at h;exact ⟨_,_,by rw[h]⟩
 ·cases h
inductive QA (ok:Nat->Prop) (w:World) (lo:Nat->Option AO) (L:Nat->Lay):AV->Value->Prop
 | iv (x:IV) (v:Value) (h:QF ok w x v):QA ok w lo L (.iv x) v
 | agg (cs:List AV) (vs:List Value) (hl:vs.length=cs.length) (h1:∀ u∈vs,u.oneCell'=true)
   (hx:∀ (k:Nat) (x:AV) (u:Value),cs[k]?=some x->vs[k]?=some u->QA ok w lo L x u):QA ok w lo L (.agg cs) (.agg vs.toArray)
 | loc (id off:Nat) (cs:List AV) (b:Nat) (ho:lo id=some (.box cs)) (hL:L id=.box b) :
   QA ok w lo L (.loc id off) (.pointer (some ⟨b,off,none⟩))
 | yl (id:Nat) (e:TypeId) (sz:Nat) (es:List (List AV)) (mv:Nat) (v:Value) (xs:List Value)
   (ho:lo id=some (.arr e sz es mv)) (hL:L id=.arr v xs) (h1:isSl v=true):QA ok w lo L (.yl id es.length) v
 | old (id n:Nat) (e:TypeId) (sz:Nat) (es:List (List AV)) (mv:Nat) (v v':Value) (xs:List Value)
   (ho:lo id=some (.arr e sz es mv)) (hL:L id=.arr v xs) (h1:isSl v'=true) (hn:n<es.length)
   (hv:mv<=n->(v'=.slice none 0 0/\n=0)\/∃ b cap,v'=.slice (some ⟨b,0,none⟩) n cap/\n<=cap/\cap<=maxLen /\
     (∀ k,k<n*sz->(ok b\/v.ownBlock=some b)/\∃ u,w.cell? ⟨b,k,none⟩=some u/\xs[k]?=some u)):QA ok w lo L (.yl id n) v'
 | yj (id n i off:Nat) (e:TypeId) (sz:Nat) (es:List (List AV)) (mv:Nat) (v:Value) (xs:List Value) (b:Nat)
   (ho:lo id=some (.arr e sz es mv)) (hL:L id=.arr v xs) (hn:n<=es.length)
   (hv:mv<=n->i<n/\(n=es.length->v.ownBlock=some b) /\
     (∀ k,k<n*sz->(ok b\/v.ownBlock=some b)/\∃ u,w.cell? ⟨b,k,none⟩=some u/\xs[k]?=some u)) :
   QA ok w lo L (.yj id n i off) (.pointer (some ⟨b,i*sz+off,none⟩))
 | yn (id:Nat) (k:MK) (n:Nat) (e:TypeId) (sz:Nat) (kvs:List (MK × List (List IV))) (pend:Option MK) (b:Nat) (vals:List (MK × Value)) (v:Value)
   (ho:lo id=some (.yo e sz kvs pend)) (hL:L id=.map b vals) (h1:isSl v=true) (hn:n<=((Qh k kvs).getD []).length) (hv:((Qh k kvs).getD []).length=n->v=(Qh k vals).getD (.slice none 0 0)):QA ok w lo L (.yn id k n) v
 | ym (sz:Nat):QA ok w lo L (.ym sz) (.slice none 0 0)
 | zsl (sz:Nat) (rows:List (List IV)) (v:Value) (h:QaF v=true) (hr:QF ok w (.sl sz rows) v):QA ok w lo L (.zsl sz rows) v
 | yk (id b:Nat) (o:AO) (ho:lo id=some o) (hn:o.isIter=true) (hL:L id=.one b):QA ok w lo L (.yk id) (.pointer (some ⟨b,0,none⟩))
 | omap (id b:Nat) (kvs:List (MK × IV)) (ho:lo id=some (.xg kvs)) (hL:L id=.one b):QA ok w lo L (.yk id) (.map (some b))
 | omz (id b:Nat) (kk:KK) (ho:lo id=some (.mapz kk)) (hL:L id=.one b):QA ok w lo L (.yk id) (.map (some b))
 | orow (id b:Nat) (e:TypeId) (sz:Nat) (kvs:List (MK × List (List IV))) (pend:Option MK) (vals:List (MK × Value)) (ho:lo id=some (.yo e sz kvs pend)) (hL:L id=.map b vals):QA ok w lo L (.yk id) (.map (some b))
 | clo (g:FuncId) (fs cs:List AV) (us vs:List Value) (h1:us.length=fs.length) (h2:vs.length=cs.length)
   (hf:∀ (k:Nat) (x:AV) (u:Value),fs[k]?=some x->us[k]?=some u->QA ok w lo L x u)
   (hc:∀ (k:Nat) (x:AV) (u:Value),cs[k]?=some x->vs[k]?=some u->QA ok w lo L x u):QA ok w lo L (.clo g fs cs) (.func (.func g) us.toArray vs.toArray)
 | cb (id:Nat) (s:Ext) (O D:Nat->Prop) (ho:lo id=some (.ext s)) (hL:L id=.ext O D):QA ok w lo L (.cb id) s.v
 | xd (cs:List AV) (vs:List Value) (hl:vs.length=cs.length)
   (hx:∀ (k:Nat) (x:AV) (u:Value),cs[k]?=some x->vs[k]?=some u->QA ok w lo L x u):QA ok w lo L (.xd cs) (.tuple vs.toArray)
def QrV (kvs:List (MK × List (List IV))) (pend:Option MK) (vals:List (MK × Value)) (es:Array MapEntry) (clock:Nat):Prop :=
 ∃ n,n<=kvs.length/\X4 n es clock (fun i=>(kvs[i]?).map (·.1))/\(∀ i p,kvs[i]?=some p->n<=i->pend=some p.1) /\
  ∀ (i:Nat) (e:MapEntry) (q:MK × Value),es[i]?=some e->vals[i]?=some q->pend≠some q.1->e.val=q.2
def JJ (ok:Nat->Prop) (w:World) (kvs:List (MK × IV)) (seen:List Nat) (r:Option Nat) (since:Nat) (sn:Array Nat):Prop :=
 match r with
 | none=>kvs=[]
 | some r=>∃ es,ok r/\w.heap[r]?=some (.map es since)/\X4 kvs.length es since (fun i=>(kvs[i]?).map (·.1)) /\
   (∀ (i:Nat) (e:MapEntry) (p:MK × IV),es[i]?=some e->kvs[i]?=some p->QF ok w p.2 e.val) /\
   sn.size=seen.length/\∀ (i:Nat) (x:Nat),(seen.reverse)[i]?=some x->∃ e,es[x]?=some e/\sn[i]?=some e.born
structure XH where
 w:World
 fr:Nat->Prop
 lt:∀ b,fr b->b<w.heap.size
 pin:Nat->Value:=fun _=>undef
structure YH (Fr:Nat->Prop) (w:World) (e:TypeId) (sz:Nat) (v:Value) (n:Nat) (xs:List Value):Prop where
 own:w.ownsRow 0 e sz v n xs
 free:∀ b,v.ownBlock=some b->¬ Fr b
def QG (Fr:Nat->Prop) (ok:Nat->Prop) (w:World) (lo:Nat->Option AO) (L:Nat->Lay):AO->Lay->Prop
 | .box cs,.box b=>¬ Fr b/\∃ t vs,w.heap[b]?=some (.cells (List.toArray vs) t (0,0))/\vs.length=cs.length/\(∀ u∈vs,u.oneCell'=true) /\
   ∀ (k:Nat) (x:AV) (u:Value),cs[k]?=some x->vs[k]?=some u->QA ok w lo L x u
 | .arr e sz es mv,.arr v xs=>YH Fr w e sz v es.length xs/\mv<=es.length/\(∀ c∈es,c.length=sz)/\(∀ u∈xs,u.oneCell'=true) /\
   ∀ (i j:Nat) (c:List AV) (x:AV) (u:Value),es[i]?=some c->c[j]?=some x->xs[i*sz+j]?=some u->QA ok w lo L x u
 | .xg kvs,.one b=>¬ Fr b/\∃ es clock,w.heap[b]?=some (.map es clock)/\X4 kvs.length es clock (fun i=>(kvs[i]?).map (·.1)) /\
   (∀ (i j:Nat) (p q:MK × IV),kvs[i]?=some p->kvs[j]?=some q->p.1=q.1->i=j)/\∀ (i:Nat) (e:MapEntry) (p:MK × IV),es[i]?=some e->kvs[i]?=some p->QF ok w p.2 e.val
 | .yo e sz kvs pend,.map b vals=>¬ Fr b/\(∃ es clock,w.heap[b]?=some (.map es clock)/\QrV kvs pend vals es clock) /\
   (∀ (i j:Nat) (p q:MK × List (List IV)),kvs[i]?=some p->kvs[j]?=some q->p.1=q.1->i=j)/\vals.map (·.1)=kvs.map (·.1) /\
   (∀ (i:Nat) (p:MK × List (List IV)) (q:MK × Value),kvs[i]?=some p->vals[i]?=some q->∃ xs,YH Fr w e sz q.2 p.2.length xs/\q.2.ownBlock≠some b/\(∀ c∈p.2,c.length=sz)/\(∀ u∈xs,u.oneCell'=true) /\
     ∀ (i j:Nat) (c:List IV) (x:IV) (u:Value),p.2[i]?=some c->c[j]?=some x->xs[i*sz+j]?=some u->QF ok w x u) /\
   (∀ (i j:Nat) (p q:MK × Value) (g:Nat),i≠j->vals[i]?=some p->vals[j]?=some q->p.2.ownBlock=some g->q.2.ownBlock≠some g)
 | .yq kvs seen,.one b=>¬ Fr b/\∃ (r:Option Nat) (since:Nat) (sn:Array Nat),w.heap[b]?=some (.mapIter r since sn since)/\JJ ok w kvs seen r since sn
 | .ext s,.ext O D=>(∀ b,O b->¬ Fr b/\b<w.heap.size/\D b)/\(∀ b,D b->O b\/(Fr b/\ok b))/\s.J O D w
 | .mapz kk,.one b=>¬ Fr b/\∃ es clock,w.heap[b]?=some (.map es clock)/\∀ x∈es.toList,∃ k:MK,k.kind=kk/\x.key=k.val
 | _,_=>False
def okL (ok0:Nat->Prop) (lo:Nat->Option AO) (L:Nat->Lay) (b:Nat):Prop:=ok0 b/\∀ id o,lo id=some o->¬ (L id).has b
structure Fm where
 n:Nat
 pins:List Nat
def Fm.dst (N:Fm) (d:Nat):Bool:=decide (d<N.n)&&!N.pins.contains d
def mark (r:Nat):Deferred:={ target:=.collected r,args:=#[] }
def Qa2 (fr:Nat->Prop) (lo:Nat->Option AO) (L:Nat->Lay) (w:World) (ds:List Deferred):Prop :=
 ∃ rs:List Nat,ds=rs.map mark/\rs.Nodup/\∀ r∈rs,w.heap[r]?=some (.deferred (some []))/\¬ fr r/\∀ id o,lo id=some o->¬ (L id).has r
structure Rel (ok0:Nat->Prop) (N:Fm) (w0:XH) (lk:Nat->AV) (lo:Nat->Option AO) (a:Act) (w:World) (L:Nat->Lay):Prop where
 below:Q8 w0.fr w0.w w
 defers:Qa2 w0.fr lo L w a.defers
 size:a.tmps.size=N.n
 env:∀ t,QA (okL ok0 lo L) w lo L (lk t) (a.tmps.getD t undef)
 y9:∀ id o,lo id=some o->QG w0.fr (okL ok0 lo L) w lo L o (L id)
 apart:∀ i j oi oj b,i≠j->lo i=some oi->lo j=some oj->(L i).has b->¬ (L j).has b
 pin:∀ t,N.pins.contains t=true->a.tmps.getD t undef=w0.pin t
attribute [grind] QA
theorem alloc_old (w:World) (o:Obj) (i:Nat) (h:i<w.heap.size):(w.alloc o).heap[i]?=w.heap[i]?:=by show (w.heap.push o)[i]?=_;rw[QL6,if_neg (Nat.ne_of_lt h)]
theorem QA.ext {ok ok' w w' lo lo' L L' x v}
  (h:QA ok w lo L x v) (hok:∀ b,ok b->b<w.heap.size->ok' b) (hw:∀ b,b<w.heap.size->w'.heap[b]?=w.heap[b]?)
  (xb:∀ id o,lo id=some o->lo' id=some o/\L' id=L id):QA ok' w' lo' L' x v:=by
 have cell:∀ b o u,w.cell? ⟨b,o,none⟩=some u->b<w.heap.size/\w'.cell? ⟨b,o,none⟩=some u:=fun b o _ hc =>
  have xa:=QLA w ⟨b,o,none⟩ hc
  ⟨xa,(QL1 (a:=⟨b,o,none⟩) (hw b xa)).trans hc⟩
 induction h with
 | iv x v h=>exact .iv x v (h.mono fun b hb xa=>⟨hok b hb xa,hw b xa⟩)
 | zsl sz rs v h hr=>exact .zsl sz rs v h (hr.mono fun b hb xa=>⟨hok b hb xa,hw b xa⟩)
 | _=>grind [QA]
theorem Q8.refl (Fr w):Q8 Fr w w:=⟨rfl,rfl,rfl,QKJ _,fun _ _=>rfl⟩
theorem Q8.trans {Fr a b c} (h:Q8 Fr a b) (k:Q8 Fr b c):Q8 Fr a c :=
 ⟨k.os.trans h.os,k.tape.trans h.tape,k.output.trans h.output,QLv h.size k.size,fun i hi=>(k.block i hi).trans (h.block i hi)⟩
theorem Q8.mono {Fr Fr' a b} (h:Q8 Fr a b) (hs:∀ k,Fr' k->Fr k):Q8 Fr' a b:=⟨h.os,h.tape,h.output,h.size,fun k hk=>h.block k (hs k hk)⟩
theorem Q8.ext {Fr a w w'} (h:Q8 Fr a w) (hb:Below w.heap.size w w') (xa:∀ b,Fr b->b<a.heap.size):Q8 Fr a w' :=
 h.trans ⟨hb.os,hb.tape,hb.output,hb.size,fun k hk=>hb.block k (QLn (xa k hk) h.size)⟩
theorem Q8.grown {Fr a w w' row} (h:Q8 Fr a w) (hg:w.grownBy w' row) (xa:∀ b,Fr b->b<a.heap.size) (hr:∀ k,row=some k->¬ Fr k):Q8 Fr a w' :=
 h.trans ⟨hg.os,hg.tape,hg.output,hg.size,fun k hk=>hg.block k (QLn (xa k hk) h.size) (fun e=>hr k e.symm hk)⟩
theorem Q8.below {w w'} (h:Q8 (fun b=>b<w.heap.size) w w'):Below w.heap.size w w':=⟨h.os,h.tape,h.output,h.size,h.block⟩
theorem YH.kept {Fr w w' e sz v n xs row} (h:YH Fr w e sz v n xs) (hg:w.grownBy w' row) (hne:v.ownBlock=none\/v.ownBlock≠row):YH Fr w' e sz v n xs :=
 ⟨h.own.kept hg hne,h.free⟩
theorem YH.lt {Fr w e sz v n xs} (h:YH Fr w e sz v n xs):∀ k,v.ownBlock=some k->¬ Fr k/\k<w.heap.size :=
 fun k hk=>⟨h.free k hk,(h.own.lt k hk).2⟩
theorem YH.stay {Fr w w' e sz v n xs} (h:YH Fr w e sz v n xs) (hs:∀ b,v.ownBlock=some b->w'.heap[b]?=w.heap[b]?):YH Fr w' e sz v n xs:=by
 refine ⟨⟨h.own.1,h.own.2.imp id ?_⟩,h.free⟩;rintro ⟨g,cap,cur,h1,h2,h3,h4⟩;exact ⟨g,cap,cur,h1,h2,(hs g (by rw[h1];rfl)).trans h3,h4⟩
theorem JJ.mono {ok ok' w w' kvs seen r since sn} (h:JJ ok w kvs seen r since sn)
  (hok:∀ b,ok b->b<w.heap.size->ok' b/\w'.heap[b]?=w.heap[b]?):JJ ok' w' kvs seen r since sn:=by
 cases r with
 | none=>exact h
 | some r =>
   obtain ⟨es,h1,h2,h3,h4,h5,h6⟩:=h;obtain ⟨h7,h8⟩:=hok r h1 (QKQ.1 h2).1;exact ⟨es,h7,h8.trans h2,h3,fun i e p a b=>(h4 i e p a b).mono hok,h5,h6⟩
theorem Qal {α β:Type} {kvs:List (MK × α)} {vals:List (MK × β)} (h:vals.map (·.1)=kvs.map (·.1)) {i:Nat} {q:MK × β} (hq:vals[i]?=some q):∃ p,kvs[i]?=some p/\p.1=q.1:=by
 have h1:(vals.map (·.1))[i]?=some q.1:=by simp[hq]
 rw[h,QKN,QKK] at h1;exact h1
theorem QG.lt {B ok w lo L o l b} (h:QG B ok w lo L o l) (hb:l.has b):¬ B b/\b<w.heap.size:=by
 unfold QG at h;split at h
 case h_2=>exact h.1.lt b hb
 case h_4 =>
  obtain ⟨hB,⟨es,clock,hb',_⟩,hd,hk,hr,ha⟩:=h;rcases hb with hb | ⟨q,hq,hb⟩
  ·grind
  obtain ⟨i,hi⟩:=QLj hq;obtain ⟨p,hp,_⟩:=Qal hk hi;obtain ⟨xs,h1,_⟩:=hr i p q hp hi;exact h1.lt b hb
 all_goals grind [Lay.has]
def AO.data:AO->Bool
 | .box _ | .arr _ _ _ _=>false
 | _=>true
theorem QG.stay {B ok ok' w w' lo lo' L L' o l}
  (h:QG B ok w lo L o l) (hk:Q8 B w w') (hBl:∀ b,B b->b<w.heap.size) (hs:∀ b,l.has b->b<w.heap.size->w'.heap[b]?=w.heap[b]?) (hok:∀ b,ok b->b<w.heap.size->ok' b/\w'.heap[b]?=w.heap[b]?)
  (all:o.data=false->∀ x v,QA ok w lo L x v->QA ok' w' lo' L' x v):QG B ok' w' lo' L' o l:=by
 have xa:∀ b,l.has b->b<w.heap.size:=fun b hb=>(h.lt hb).2;have hc:∀ b,l.has b->w'.heap[b]?=w.heap[b]?:=fun b hb=>hs b hb (xa b hb);unfold QG at h;split at h
 case h_2=>exact ⟨h.1.stay hc,h.2.1,h.2.2.1,h.2.2.2.1,fun i j c x u h2 h3 h4=>all rfl _ _ (h.2.2.2.2 i j c x u h2 h3 h4)⟩
 case h_4 b vals =>
  obtain ⟨hB,⟨es,clock,hb,hm⟩,hd,hk,hr,ha⟩:=h;refine ⟨hB,⟨es,clock,(hc b (.inl rfl)).trans hb,hm⟩,hd,hk,fun i p q hp hq=>?_,ha⟩;obtain ⟨xs,h1,h2,h3,h4,h5⟩:=hr i p q hp hq;exact ⟨xs,h1.stay fun b' hb'=>hc b' (.inr ⟨q,QKW hq,hb'⟩),h2,h3,h4,fun i j c x u a1 a2 a3=>(h5 i j c x u a1 a2 a3).mono hok⟩
 case h_6 =>
  obtain ⟨h1,h2,h3⟩:=h;exact ⟨fun b hb=>⟨(h1 b hb).1,QLn (h1 b hb).2.1 hk.size,(h1 b hb).2.2⟩,by grind,Ext.stay _ _ _ w w' h3 ⟨hk.os,hk.tape,hk.output,hk.size,fun b hb=>by have:=hk.block b;grind [Lay.has]⟩⟩
 all_goals grind [Lay.has,QG,AO.data,QF.mono,JJ.mono]
theorem QG.ext {B ok ok' w w' lo lo' L L' o l}
  (h:QG B ok w lo L o l) (hk:Q8 B w w') (hBl:∀ b,B b->b<w.heap.size) (hok:∀ b,ok b->b<w.heap.size->ok' b) (hw:∀ b,b<w.heap.size->w'.heap[b]?=w.heap[b]?)
  (xb:∀ id o,lo id=some o->lo' id=some o/\L' id=L id):QG B ok' w' lo' L' o l :=
 h.stay hk hBl (fun b _ xa=>hw b xa) (fun b hb xa=>⟨hok b hb xa,hw b xa⟩) (fun _ _ _ r=>r.ext hok hw xb)
structure Qlj (S:Nat->Prop) (w w':World):Prop where
 os:w'.os=w.os
 tape:w'.tape=w.tape
 output:w'.output=w.output
 size:w.heap.size<=w'.heap.size
 block:∀ k,k<w.heap.size->¬ S k->w'.heap[k]?=w.heap[k]?
theorem Qlj.of {S w w' row} (hg:w.grownBy w' row) (hr:∀ k,row=some k->S k):Qlj S w w' :=
 ⟨hg.os,hg.tape,hg.output,hg.size,fun k hk hn=>hg.block k hk (fun e=>hn (hr k e.symm))⟩
theorem Qlj.below {S w w'} (hb:Below w.heap.size w w'):Qlj S w w':=⟨hb.os,hb.tape,hb.output,hb.size,fun k hk _=>hb.block k hk⟩
theorem Q8.only {Fr S a w w'} (h:Q8 Fr a w) (hg:Qlj S w w') (xa:∀ b,Fr b->b<a.heap.size) (hr:∀ k,S k->¬ Fr k):Q8 Fr a w' :=
 h.trans ⟨hg.os,hg.tape,hg.output,hg.size,fun k hk=>hg.block k (QLn (xa k hk) h.size) (fun e=>hr k e hk)⟩
section
variable {ok0:Nat->Prop} {N:Fm} {w0:XH} {lk:Nat->AV} {lo:Nat->Option AO} {a:Act} {w:World} {L:Nat->Lay}
theorem Rel.le (h:Rel ok0 N w0 lk lo a w L):w0.w.heap.size<=w.heap.size:=h.below.size
theorem Rel.frlt (h:Rel ok0 N w0 lk lo a w L) {b} (hb:w.heap.size<=b):¬ w0.fr b:=fun hf=>by
 have:=w0.lt b hf;have:=h.le;omega
theorem Rel.frl (h:Rel ok0 N w0 lk lo a w L):∀ b,w0.fr b->b<w.heap.size:=fun b hb=>QLn (w0.lt b hb) h.le
theorem Below.keep {w w' B} (hb:Below w.heap.size w w') (hB:∀ b,B b->b<w.heap.size):Q8 B w w':=⟨hb.os,hb.tape,hb.output,hb.size,fun k hk=>hb.block k (hB k hk)⟩
theorem Qa2.lt {fr:Nat->Prop} {lo:Nat->Option AO} {L:Nat->Lay} {w:World} {r:Nat} (h:w.heap[r]?=some (.deferred (some []))):r<w.heap.size:=(QKQ.1 h).1
theorem Qa2.stay {fr lo lo' L L' w w' ds} (h:Qa2 fr lo L w ds)
  (hw:∀ r,r<w.heap.size->(∀ id o,lo id=some o->¬ (L id).has r)->w'.heap[r]?=w.heap[r]?)
  (hL:∀ r,r<w.heap.size->(∀ id o,lo id=some o->¬ (L id).has r)->∀ id o,lo' id=some o->¬ (L' id).has r):Qa2 fr lo' L' w' ds:=by
 obtain ⟨rs,h1,h2,h3⟩:=h;refine ⟨rs,h1,h2,fun r hr=>?_⟩;obtain ⟨h4,h5,h6⟩:=h3 r hr;have xa:=(QKQ.1 h4).1;exact ⟨(hw r xa h6).trans h4,h5,hL r xa h6⟩
theorem Rel.ext {w'} (h:Rel ok0 N w0 lk lo a w L) (hb:Below w.heap.size w w'):Rel ok0 N w0 lk lo a w' L :=
 ⟨h.below.ext hb w0.lt,h.defers.stay (fun r hr _=>hb.block r hr) (fun _ _ h=>h),h.size,
  fun t=>(h.env t).ext (fun _ h _=>h) hb.block (fun _ _ h=>⟨h,rfl⟩),
  fun id o ho=>(h.y9 id o ho).ext (Below.keep hb h.frl) h.frl (fun _ h _=>h) hb.block (fun _ _ h=>⟨h,rfl⟩),h.apart,h.pin⟩
def Jx (lk:Nat->AV) (d:Option Nat) (x:AV):Nat->AV :=
 match d with
 | none=>lk
 | some d=>fun t=>if t=d then x else lk t
theorem Rel.put (h:Rel ok0 N w0 lk lo a w L) (d) (hd:∀ t,d=some t->N.dst t=true) {x v} (hx:QA (okL ok0 lo L) w lo L x v) :
  Rel ok0 N w0 (Jx lk d x) lo (a.put d v) w L:=by
 cases d with
 | none=>exact h
 | some d =>
   have hdd:=hd d rfl;simp only[Fm.dst,QKI,decide_eq_true_eq,QLb] at hdd;have xa:d<a.tmps.size:=by rw[h.size];exact hdd.1
   refine ⟨h.below,h.defers,by simp[Act.put,h.size],fun t=>?_,h.y9,h.apart,fun t ht=>?_⟩;by_cases ht:t=d
   ·subst ht;simp only[Jx,if_true,Act.put];simpa[xa] using hx
   ·have:=h.env t;simp only[Jx,ht,if_false,Act.put];simpa[QLN,Ne.symm ht] using this
   ·have hne:d≠t:=fun e=>by subst e;rw[hdd.2] at ht;cases ht
    have:=h.pin t ht;simp only[Act.put];simpa[QLN,hne] using this
def Za (lo:Nat->Option AO) (id:Nat) (o:AO):Nat->Option AO:=fun i=>if i=id then some o else lo i
def QV (L:Nat->Lay) (id:Nat) (l:Lay):Nat->Lay:=fun i=>if i=id then l else L i
theorem Rel.new {w'} (h:Rel ok0 N w0 lk lo a w L) (id) (hid:lo id=none) (o l) (hb:Below w.heap.size w w')
  (hl:∀ b,l.has b->w.heap.size<=b)
  (ho:QG w0.fr (okL ok0 (Za lo id o) (QV L id l)) w' (Za lo id o) (QV L id l) o l) :
  Rel ok0 N w0 lk (Za lo id o) a w' (QV L id l):=by
 have hok:∀ b,okL ok0 lo L b->b<w.heap.size->okL ok0 (Za lo id o) (QV L id l) b:=by grind [okL,Za,QV]
 have xb:∀ i o',lo i=some o'->Za lo id o i=some o'/\QV L id l i=L i:=by grind [Za,QV]
 have old:∀ b i o',lo i=some o'->(L i).has b->b<w.heap.size:=fun b i o' hi hbl=>((h.y9 i o' hi).lt hbl).2;refine ⟨h.below.ext hb w0.lt,h.defers.stay (fun r hr _=>hb.block r hr) (by grind [Za,QV]),h.size,fun t=>(h.env t).ext hok hb.block xb,fun i o' hi=>?_,?_,h.pin⟩
 ·have:=fun hi=>(h.y9 i o' hi).ext (Below.keep hb h.frl) h.frl hok hb.block xb;grind [Za,QV]
 ·have:=h.apart;grind [Za,QV]
def AV.refs (id:Nat):AV->Bool
 | .loc i _ | .yl i _ | .yj i _ _ _ | .yn i _ _ | .yk i | .cb i=>i==id
 | .iv _ | .agg _ | .ym _ | .zsl _ _ | .clo _ _ _ | .xd _=>false
theorem QA.turn {lo' w' L' id x v} (h:QA (okL ok0 lo L) w lo L x v)
  (hid:∃ o,lo id=some o)
  (xb:∀ i,i≠id->lo' i=lo i/\L' i=L i)
  (hap:∀ i j oi oj b,i≠j->lo i=some oi->lo j=some oj->(L i).has b->¬ (L j).has b)
  (hw:∀ b,b<w.heap.size->¬ (L id).has b->w'.heap[b]?=w.heap[b]?)
  (hok:∀ b,okL ok0 lo L b->b<w.heap.size->okL ok0 lo' L' b)
  (href:∀ x v,AV.refs id x=true->QA (okL ok0 lo L) w lo L x v->QA (okL ok0 lo' L') w' lo' L' x v):QA (okL ok0 lo' L') w' lo' L' x v:=by
 obtain ⟨oid,hoid⟩:=hid
 have cells:∀ i b k v xs oi,i≠id->lo i=some oi->L i=.arr v xs->((okL ok0 lo L b\/v.ownBlock=some b)/\∃ u,w.cell? ⟨b,k,none⟩=some u/\xs[k]?=some u) ->
   (okL ok0 lo' L' b\/v.ownBlock=some b)/\∃ u,w'.cell? ⟨b,k,none⟩=some u/\xs[k]?=some u:=by
  intro i b k v xs oi hii hoi hL ⟨h1,u,h2,h3⟩;have xa:=QLA w ⟨b,k,none⟩ h2;have:=@QL1 w w' ⟨b,k,none⟩;have:=hap i id oi oid b hii hoi hoid;grind [okL,Lay.has]
 cases hr:AV.refs id x
 ·induction h with
  | iv x v h=>exact .iv x v (h.mono fun b hb xa=>⟨hok b hb xa,hw b xa (hb.2 id _ hoid)⟩)
  | zsl sz rs v h hz=>exact .zsl sz rs v h (hz.mono fun b hb xa=>⟨hok b hb xa,hw b xa (hb.2 id _ hoid)⟩)
  | old i n e sz es mv v v' xs ho hL h1 hn hv =>
    refine .old i n e sz es mv v v' xs ((xb i ?_).1.trans ho) ((xb i ?_).2.trans hL) h1 hn fun hm=>(hv hm).imp_right fun ⟨b,cap,h1,h2,h3,h4⟩=>⟨b,cap,h1,h2,h3,fun k hk=>cells i b k v xs _ ?_ ho hL (h4 k hk)⟩<;>grind [AV.refs]
  | yj i n j off e sz es mv v xs b ho hL hn hv =>
    refine .yj i n j off e sz es mv v xs b ((xb i ?_).1.trans ho) ((xb i ?_).2.trans hL) hn fun hm=>(hv hm).imp_right fun ⟨h2,h3⟩=>⟨h2,fun k hk=>cells i b k v xs _ ?_ ho hL (h3 k hk)⟩<;>grind [AV.refs]
  | _=>grind [QA,AV.refs]
 ·exact href _ _ hr h
theorem Rel.turn {o o' l' w'} (id) (h:Rel ok0 N w0 lk lo a w L) (hid:lo id=some o)
  (hg:Qlj (L id).has w w')
  (hl':∀ b,l'.has b->(L id).has b\/w.heap.size<=b)
  (href:∀ x v,AV.refs id x=true->QA (okL ok0 lo L) w lo L x v->QA (okL ok0 (Za lo id o') (QV L id l')) w' (Za lo id o') (QV L id l') x v)
  (ho:(∀ x v,QA (okL ok0 lo L) w lo L x v->QA (okL ok0 (Za lo id o') (QV L id l')) w' (Za lo id o') (QV L id l') x v) ->
    QG w0.fr (okL ok0 (Za lo id o') (QV L id l')) w' (Za lo id o') (QV L id l') o' l') :
  Rel ok0 N w0 lk (Za lo id o') a w' (QV L id l'):=by
 have hw:=hg.block;have xb:∀ i,i≠id->Za lo id o' i=lo i/\QV L id l' i=L i:=by grind [Za,QV]
 have hok:∀ b,okL ok0 lo L b->b<w.heap.size->okL ok0 (Za lo id o') (QV L id l') b:=by grind [okL,Za,QV]
 have all:=fun x v (hx:QA (okL ok0 lo L) w lo L x v)=>hx.turn ⟨o,hid⟩ xb h.apart hw hok href;have own:∀ b,(L id).has b->¬ w0.fr b:=fun b hb=>((h.y9 id o hid).lt hb).1;have lt:=fun i oi hi b hb=>((h.y9 i oi hi).lt (b:=b) hb).2;have ap:=h.apart;refine ⟨h.below.only hg w0.lt own,h.defers.stay (fun r hr hn=>hw r hr (hn id o hid)) (by grind [Za,QV]),h.size,fun t=>all _ _ (h.env t),fun i oi hi=>?_,by grind [Za,QV],h.pin⟩;by_cases hii:i=id
 ·grind [Za,QV]
 ·rw[(xb i hii).1] at hi;rw[(xb i hii).2];exact (h.y9 i oi hi).stay ⟨hg.os,hg.tape,hg.output,hg.size,fun k hk=>hg.block k (h.frl k hk) (fun e=>own k e hk)⟩ h.frl (fun b hb xa=>hw b xa (ap i id oi o b hii hi hid hb)) (fun b hb xa=>⟨hok b hb xa,hw b xa (hb.2 id _ hid)⟩) (fun _=>all)
end
attribute [grind] Za QV okL Lay.has AV.refs AO.isIter
inductive Opd where
 | t (n:Nat)
 | int (k:IntKind) (n:Int)
 | bool (b:Bool)
 | str (s:List UInt8)
 | nil (sz:Nat)
 | nilp
 | fn (f:FuncId)
 | nilv (sz:Nat)
 | nilm
 | nilf
 deriving Inhabited
def Opd.av (lk:Nat->AV):Opd->AV
 | .t n=>lk n
 | .int k n=>.iv (.int k n)
 | .bool b=>.iv (.bool b)
 | .str s=>.iv (.str s)
 | .nil sz=>.iv (.sl sz [])
 | .nilp=>.iv .nilp
 | .fn f=>.iv (.fn f)
 | .nilv sz=>.ym sz
 | .nilm=>.iv (.map [])
 | .nilf=>.iv (.lit .nilFunc)
def isI (k:IntKind) (n:Int):Value->Bool
 | .int k' m=>k==k'&&n==m
 | _=>false
def isB (b:Bool):Value->Bool
 | .bool c=>b==c
 | _=>false
def isS (s:List UInt8):Value->Bool
 | .string u=>s==u.data.toList
 | _=>false
def isN:Value->Bool
 | .slice none n m=>n==0&&m==0
 | _=>false
def isP:Value->Bool
 | .pointer none=>true
 | _=>false
def isM:Value->Bool
 | .map none=>true
 | _=>false
def QEn:Value->Bool
 | .nilFunc=>true
 | _=>false
def Opd.isVal (x:Opd) (v:Value):Bool :=
 match x with
 | .t _=>false
 | .int k n=>isI k n v
 | .bool b=>isB b v
 | .str s=>isS s v
 | .nil _=>isN v
 | .nilp=>isP v
 | .nilv _=>isN v
 | .nilm=>isM v
 | .nilf=>QEn v
 | .fn _=>false
def Opd.isTmp (m:Nat):Opd->Bool
 | .t n=>n==m
 | _=>false
def Opd.isFn (g:FuncId):Opd->Bool
 | .fn f=>f==g
 | _=>false
def Opd.is (x:Opd):Operand->Bool
 | .tmp m=>x.isTmp m
 | .const v=>x.isVal v
 | .func g=>x.isFn g
 | _=>false
inductive YOp where
 | no
 | mks (id:Nat) (e:TypeId) (bytes:Nat) (zs:List Opd) (n:Opd)
 | mx (mn:Bool) (x y:Opd)
 | mkm (id:Nat) (r:Option (TypeId × Nat))
 | lki (kk:KK) (z x k:Opd)
 | lkd (id:Nat) (kk:KK) (z x k:Opd)
 | lkr (id:Nat) (kk:KK) (x k:Opd)
 | mupd (id:Nat) (kk:KK) (x k v:Opd)
 | ment (id:Nat) (kk:KK) (z x k:Opd)
 | ests (id:Nat) (x t v:Opd)
 | mupr (id:Nat) (kk:KK) (x k v:Opd)
 | bla (zs parts:List Opd)
 | ixg (len:Nat) (x i:Opd)
 | fgt (off:Nat) (x:Opd)
 | rngm (id:Nat) (x:Opd)
 | ent (id:Nat) (x:Opd)
 | mkf (g:FuncId) (fs cs:List Opd)
 | neg (x:Opd)
 | eqs (ne:Bool) (n:Nat) (x y:Opd)
 | lenm (x:Opd)
 | lenmo (id:Nat) (x:Opd)
 | ixa (len sz:Nat) (x i:Opd)
 | sl3 (sz:Nat) (x n m:Opd)
 | zslv (sz:Nat)
 | apz (e:TypeId) (sz bytes:Nat) (x y:Opd)
 | mkz (id:Nat) (kk:KK)
 | mupz (id:Nat) (kk:KK) (x k v:Opd)
 | mdlz (id:Nat) (kk:KK) (x k:Opd)
 | lkc (kk:KK) (zs:List Opd) (x k:Opd)
 | isn (ne:Bool) (x:Opd)
 deriving Inhabited
inductive AOp where
 | xf (x:Opd)
 | nilo (id:Nat) (e:TypeId) (sz:Nat)
 | pick (c x y:Opd)
 | ext (x:Opd) (i:Nat)
 | not (x:Opd)
 | bin (op:BinOp) (x y:Opd)
 | beq (neg:Bool) (x y:Opd)
 | cvi (k:IntKind) (x:Opd)
 | i2s (x:Opd)
 | nilc (x:Opd)
 | fld (off:Nat) (x:Opd)
 | ldi (n:Nat) (ag:Bool) (x:Opd)
 | ldo (id n:Nat) (ag:Bool) (x:Opd)
 | sto (id n:Nat) (x y:Opd)
 | ixi (sz:Nat) (x i:Opd)
 | ixo (id sz:Nat) (x i:Opd)
 | ixs (x i:Opd)
 | sli (sz:Nat) (x:Opd) (lo hi:Option Opd)
 | sls (x:Opd) (lo hi:Option Opd)
 | boxi (x:Opd)
 | boxo (id:Nat) (x:Opd)
 | alo (id:Nat) (zs:List Opd)
 | bld (zs:List Opd) (parts:List (Nat × Nat × Opd))
 | bsl (sz:Nat) (parts:List Opd)
 | bso (id:Nat) (e:TypeId) (sz:Nat) (parts:List Opd)
 | len (x:Opd)
 | leno (id:Nat) (x:Opd)
 | lst (x:Opd)
 | app (id:Nat) (e:TypeId) (sz bytes:Nat) (x y:Opd)
 | call (f:FuncId) (args:List Opd) (ids:List Nat)
 | y3 (f:FuncId) (args:List Opd) (ids:List Nat) (id:Nat)
 | yz (x:Opd) (args:List Opd) (ids:List Nat)
 | yw (f:FuncId) (x:Opd) (args:List Opd) (id:Nat)
 | yu (x:Opd) (args:List Opd) (id:Nat)
 | yr (f:FuncId) (args:List Opd) (id:Nat)
 | yx (f:FuncId) (args:List Opd) (ids:List Nat)
 | cpy (id:Nat) (x y:Opd)
 | y4 (x:Opd) (args:List Opd) (ids:List Nat)
 | yy (op:YOp)
 deriving Inhabited
structure Zf where
 d:Option Nat
 g:Option (Nat × Bool)
 op:AOp
 deriving Inhabited
inductive Res where
 | no
 | ok (side fact:Prop) (v:AV) (up:Option (Nat × AO))
def IntKind.inR (k:IntKind) (n:Int):Prop:=k.min<=n/\n<=k.max
def Qad (op:BinOp) (k:IntKind) (x y:Int):Int :=
 let a:=BitVec.ofInt k.bits x
 let b:=BitVec.ofInt k.bits y
 match op with
 | .and=>k.wrap (a &&& b).toNat
 | .or=>k.wrap (a ||| b).toNat
 | .xor=>k.wrap (a ^^^ b).toNat
 | _=>k.wrap (a &&& ~~~b).toNat
def QtA (op:BinOp) (k:IntKind) (a b:Int):Res :=
 match op with
 | .add=>.ok (IntKind.inR k (a+b)) True (.iv (.int k (a+b))) none
 | .sub=>.ok (IntKind.inR k (a-b)) True (.iv (.int k (a-b))) none
 | .mul=>.ok (IntKind.inR k (a*b)) True (.iv (.int k (a*b))) none
 | .quo=>.ok (b≠0/\IntKind.inR k (a.tdiv b)) True (.iv (.int k (a.tdiv b))) none
 | .rem=>.ok (b≠0) True (.iv (.int k (a.tmod b))) none
 | .and=>.ok True True (.iv (.int k (Qad .and k a b))) none
 | .or=>.ok True True (.iv (.int k (Qad .or k a b))) none
 | .xor=>.ok True True (.iv (.int k (Qad .xor k a b))) none
 | .andNot=>.ok True True (.iv (.int k (Qad .andNot k a b))) none
 | .eql=>.ok True True (.iv (.bool (decide (a=b)))) none
 | .neq=>.ok True True (.iv (.bool (!decide (a=b)))) none
 | .lss=>.ok True True (.iv (.bool (decide (a<b)))) none
 | .leq=>.ok True True (.iv (.bool (decide (a<=b)))) none
 | .gtr=>.ok True True (.iv (.bool (decide (b<a)))) none
 | .geq=>.ok True True (.iv (.bool (decide (b<=a)))) none
 | _=>.no
def QwG (k:IntKind) (a b:Int):Int:=k.wrap (a*2 ^ (min b.toNat k.bits))
def Qvq (k:IntKind) (a b:Int):Int:=a.fdiv (2 ^ (min b.toNat k.bits))
def Qql:BinOp->AV->AV->Res
 | .shl,.iv (.int k a),.iv (.int _ b)=>.ok (0<=b) True (.iv (.int k (QwG k a b))) none
 | .shr,.iv (.int k a),.iv (.int _ b)=>.ok (0<=b) True (.iv (.int k (Qvq k a b))) none
 | op,.iv (.int k a),.iv (.int k' b)=>if k=k' then QtA op k a b else .no
 | .add,.iv (.str a),.iv (.str b)=>.ok (((a.length+b.length:Nat):Int)<=9223372036854775807) True (.iv (.str (a++b))) none
 | .eql,.iv (.str a),.iv (.str b)=>.ok True True (.iv (.bool (decide (a=b)))) none
 | .neq,.iv (.str a),.iv (.str b)=>.ok True True (.iv (.bool (!decide (a=b)))) none
 | _,_,_=>.no
def Qqm (neg:Bool):AV->AV->Res
 | .iv (.bool a),.iv (.bool b)=>.ok True True (.iv (.bool (match neg with | true=>!decide (a=b) | false=>decide (a=b)))) none
 | _,_=>.no
def AV.iv?:AV->Option IV
 | .iv x=>some x
 | _=>none
def ivs:List AV->Option (List IV)
 | []=>some []
 | x::r=>match x.iv?,ivs r with
   | some y,some ys=>some (y::ys)
   | _,_=>none
def QaT (cs:List AV):AV :=
 match ivs cs with
 | some xs=>.iv (.agg xs)
 | none=>.agg cs
def AV.cells:AV->Option (List AV)
 | .iv (.agg cs)=>some (cs.map .iv)
 | .iv .any=>none
 | .iv (.xd _)=>none
 | .iv (.lit v)=>if isFn v=true then some [.iv (.lit v)] else none
 | .iv .ifn=>none
 | .xd _=>none
 | .iv x=>some [.iv x]
 | .agg cs=>some cs
 | x=>some [x]
def Qw0 (g:FuncId) (fs cs:List AV):AV :=
 match ivs fs,ivs cs with
 | some xs,some ys=>.iv (.clo g xs ys)
 | _,_=>.clo g fs cs
def QjK:List AV->List (Nat × Nat × AV)->Option (List AV)
 | cs,[]=>some cs
 | cs,(off,sz,v)::r =>
   match v.cells with
   | some vs=>if vs.length=sz/\off+sz<=cs.length then QjK (cs.take off++vs++cs.drop (off+sz)) r else none
   | none=>none
def Xp (sz:Nat):List AV->Option (List (List AV))
 | []=>some []
 | v::r =>
   match v.cells,Xp sz r with
   | some c,some cs=>if c.length=sz then some (c::cs) else none
   | _,_=>none
def Qd5:List (List AV)->Option (List (List IV))
 | []=>some []
 | x::r=>match ivs x,Qd5 r with
   | some y,some ys=>some (y::ys)
   | _,_=>none
def byteOf:List IV->Option Int
 | [.int .u8 n]=>some n
 | _=>none
def bytesOf:List (List IV)->Option (List Int)
 | []=>some []
 | c::r=>match byteOf c,bytesOf r with
   | some n,some ns=>some (n::ns)
   | _,_=>none
def QDa (ns:List Int):List UInt8:=ns.map fun n=>UInt8.ofNat n.toNat
def QFZ (cs:List AV) (off:Nat):Option AV:=cs[off]?
def QKA (ag:Bool) (n off:Nat) (cs:List AV):Res :=
 if ag then .ok (off+n<=cs.length) True (QaT ((cs.drop off).take n)) none
 else match cs[off]? with
  | some x=>.ok (n=1) True x none
  | none=>.no
def QEZ:List AV->Nat->Res
 | [],_=>.no
 | c::_,0=>.ok True True c none
 | _::r,n+1=>QEZ r n
def Y1 (lk:Nat->AV) (d:Nat):Option Opd->Option Int
 | none=>some d
 | some x=>match x.av lk with
   | .iv (.int _ n)=>some n
   | _=>none
def Qqg:AV->Res
 | .iv (.sl _ es)=>.ok True (es.length<=maxLen) (.iv (.int .i64 es.length)) none
 | .iv (.bag _ es)=>.ok True (es.length<=maxLen) (.iv (.int .i64 es.length)) none
 | _=>.no
def Qen (lo:Nat->Option AO) (id:Nat):AV->Res
 | .yl i n=>if i=id then match lo id with
   | some (.arr _ _ es mv)=>.ok (mv<=n/\n<=es.length) (n<=maxLen) (.iv (.int .i64 n)) none
   | _=>.no
   else .no
 | _=>.no
def Qqf:AV->Res
 | .iv (.str s)=>.ok True True (.iv (.int .i64 s.length)) none
 | _=>.no
def QnF (i:Nat):AV->Res
 | .iv (.xd cs)=>match cs[i]? with
   | some x=>.ok True True (.iv x) none
   | none=>.no
 | .xd cs=>match cs[i]? with
   | some x=>.ok True True x none
   | none=>.no
 | _=>.no
def QhF (x y:AV):AV->Res
 | .iv (.bool b)=>.ok True True (match b with | true=>x | false=>y) none
 | _=>.no
def Qqe:AV->Res
 | .iv (.bool b)=>.ok True True (.iv (.bool (!b))) none
 | _=>.no
def Qqk (k:IntKind):AV->Res
 | .iv (.int _ n)=>.ok True True (.iv (.int k (k.wrap n))) none
 | _=>.no
def QCr:AV->Res
 | .iv (.str s)=>.ok True True (.iv (.str s)) none
 | _=>.no
def QCs:AV->Res
 | .iv (.sl _ es)=>match bytesOf es with
   | some ns=>.ok (∀ n∈ns,0<=n/\n<=255) True (.iv (.str (QDa ns))) none
   | none=>.no
 | _=>.no
def Qqj:AV->Res
 | .iv (.int _ n)=>.ok (0<=n/\n<128) True (.iv (.str [UInt8.ofNat n.toNat])) none
 | _=>.no
def QhG:AV->Res
 | .iv (.ptr cs)=>.ok True True (.iv (.ptr cs)) none
 | .loc id off=>.ok True True (.loc id off) none
 | _=>.no
def QnE (off:Nat):AV->Res
 | .iv (.ptr cs)=>.ok (off<=cs.length) True (.iv (.ptr (cs.drop off))) none
 | .loc id o=>.ok True True (.loc id (o+off)) none
 | .yj id n i o=>.ok True True (.yj id n i (o+off)) none
 | _=>.no
def QfB (n:Nat) (ag:Bool):AV->Res
 | .iv (.ptr cs)=>match ag with
   | true=>.ok (n<=cs.length) True (.iv (.agg (cs.take n))) none
   | false=>match cs with
     | c::_=>.ok (n=1) True (.iv c) none
     | []=>.no
 | _=>.no
def QnC (lo:Nat->Option AO) (id n:Nat) (ag:Bool):AV->Res
 | .loc i off=>if i=id then
   match lo id with
   | some (.box cs)=>match ag with
     | true=>.ok (off+n<=cs.length) True (QaT ((cs.drop off).take n)) none
     | false=>match cs[off]? with
       | some c=>.ok (n=1) True c none
       | none=>.no
   | _=>.no
   else .no
 | .yj i m j off=>if i=id then
   match lo id with
   | some (.arr _ _ es mv)=>match ag with
     | true=>.ok (mv<=m/\off+n<=(es.getD j []).length) True (QaT (((es.getD j []).drop off).take n)) none
     | false=>match (es.getD j [])[off]? with
       | some c=>.ok (mv<=m/\n=1) True c none
       | none=>.no
   | _=>.no
   else .no
 | _=>.no
def Qnz (lo:Nat->Option AO) (id n:Nat) (y:AV):AV->Res
 | .loc i off=>if i=id then
   match lo id,y.cells with
   | some (.box cs),some vs=>.ok (vs.length=n/\off+n<=cs.length) True (.iv .any) (some (id,.box (cs.take off++vs++cs.drop (off+n))))
   | _,_=>.no
   else .no
 | .yj i m j off=>if i=id then
   match lo id,y.cells with
   | some (.arr e sz es mv),some vs =>
     .ok (vs.length=n/\m=es.length/\mv<=m/\off+n<=sz) True (.iv .any)
      (some (id,.arr e sz (es.set j ((es.getD j []).take off++vs++(es.getD j []).drop (off+n))) es.length))
   | _,_=>.no
   else .no
 | _=>.no
def Qqi (sz:Nat):AV->AV->Res
 | .iv (.sl s es),.iv (.int _ i)=>.ok (s=sz/\0<=i/\i.toNat<es.length) True (.iv (.ptr (es.getD i.toNat []))) none
 | _,_=>.no
def QnD (lo:Nat->Option AO) (id sz:Nat):AV->AV->Res
 | .yl i n,.iv (.int _ j)=>if i=id then
   match lo id with
   | some (.arr _ s es mv)=>.ok (s=sz/\0<=j/\j.toNat<n/\mv<=n/\n<=es.length) True (.yj id n j.toNat 0) none
   | _=>.no
   else .no
 | _,_=>.no
def Qqh:AV->AV->Res
 | .iv (.str s),.iv (.int _ i)=>.ok (0<=i/\i.toNat<s.length) True (.iv (.int .u8 (s.getD i.toNat 0).toNat)) none
 | _,_=>.no
def QnB (sz:Nat) (lk:Nat->AV) (lo hi:Option Opd):AV->Res
 | .iv (.sl s es)=>match Y1 lk 0 lo,Y1 lk es.length hi with
   | some l,some h=>.ok (s=sz/\0<=l/\l<=h/\h<=es.length) (es.length<=maxLen) (.iv (.sl sz ((es.take h.toNat).drop l.toNat))) none
   | _,_=>.no
 | _=>.no
def QnA (lk:Nat->AV) (lo hi:Option Opd):AV->Res
 | .iv (.str s)=>match Y1 lk 0 lo,Y1 lk s.length hi with
   | some l,some h=>.ok (0<=l/\l<=h/\h<=s.length) True (.iv (.str ((s.take h.toNat).drop l.toNat))) none
   | _,_=>.no
 | _=>.no
def QhH (x:AV):Res :=
 match x.cells with
 | some cs=>match ivs cs with
   | some xs=>.ok True True (.iv (.ptr xs)) none
   | none=>.no
 | none=>.no
def Qeo (lo:Nat->Option AO) (id:Nat) (x:AV):Res :=
 match x.cells,lo id with
 | some cs,none=>.ok True True (.loc id 0) (some (id,.box cs))
 | _,_=>.no
def zn {α:Type} (k:MK) (y:α):List (MK × α)->List (MK × α)
 | []=>[(k,y)]
 | p::r=>if p.1=k then (k,y)::r else p::zn k y r
def QnV {α:Type} (k:MK):List (MK × α)->Nat
 | []=>0
 | p::r=>if p.1=k then 0 else QnV k r+1
def QwZ {α:Type} (y:α):Nat->List (MK × α)->List (MK × α)
 | _,[]=>[]
 | 0,p::r=>(p.1,y)::r
 | n+1,p::r=>p::QwZ y n r
def Wt (lo:Nat->Option AO) (id:Nat) (e:TypeId) (sz bytes:Nat):AV->AV->Res
 | .yl i n,.iv (.sl s ys)=>if i=id then
   match lo id with
   | some (.arr e' sz' es mv) =>
     if e'=e/\sz'=sz then
     .ok (s=sz/\n=es.length/\mv<=n/\es.length+ys.length<=maxLen/\(es.length+ys.length)*bytes<=140737488355328) True (.yl id (n+ys.length))
      (some (id,.arr e sz (es++ys.map (List.map AV.iv)) mv))
     else .no
   | _=>.no
   else .no
 | .zsl s0 rs,.iv (.sl s ys)=>match ys,lo id with
   | [],_=>.ok (s=s0) True (.zsl s0 rs) none
   | y::r,none=>.ok (s=sz/\s0=sz/\(rs++y::r).length<=maxLen/\(rs++y::r).length*bytes<=140737488355328) True (.yl id (rs++y::r).length) (some (id,.arr e sz ((rs++y::r).map (List.map AV.iv)) 0))
   | _,_=>.no
 | .yn i k n,.iv (.sl s ys)=>if i=id then
   match lo id with
   | some (.yo e' sz' kvs none) =>
     if e'=e/\sz'=sz then
     .ok (s=sz/\((Qh k kvs).getD []).length=n/\n+ys.length<=maxLen/\(n+ys.length)*bytes<=140737488355328) True (.yn id k (n+ys.length))
      (some (id,.yo e sz (zn k ((Qh k kvs).getD []++ys) kvs) (some k)))
     else .no
   | _=>.no
   else .no
 | _,_=>.no
def KC.iv:KC->IV
 | .int k n=>.int k n
 | .bool b=>.bool b
def QBs:IV->Option KC
 | .int k n=>some (.int k n)
 | .bool b=>some (.bool b)
 | _=>none
def Qhj:List IV->Option (List KC)
 | []=>some []
 | x::xs=>match QBs x,Qhj xs with
   | some c,some l=>some (c::l)
   | _,_=>none
def keyOf (kk:KK):AV->Option MK
 | .iv (.int k n)=>if kk=.int k then some (.int k n) else none
 | .iv (.str s)=>if kk=.str then some (.str s) else none
 | .iv (.agg cs)=>match Qhj cs with
   | some l=>if kk=.agg (l.map KC.kind) then some (.agg l) else none
   | none=>none
 | _=>none
def QP {α:Type} (kk:KK):List (MK × α)->Prop
 | []=>True
 | p::r=>p.1.kind=kk/\QP kk r
def QwL:List (List IV)->Option (List Int)
 | []=>some []
 | [.int .i32 n]::r=>(QwL r).map (n::·)
 | _::_=>none
def QKB (s:List UInt8) (pos:Nat):Nat × Nat:=Utf8.decode ⟨s.toArray⟩ pos
def MK.iv:MK->IV
 | .int k n=>.int k n
 | .str s=>.str s
 | .agg cs=>.agg (cs.map KC.iv)
def QDJ:IV->IV->Option Bool
 | .int k a,.int k' b=>if k=k' then some (decide (a=b)) else none
 | _,_=>none
def Ja:List IV->List IV->Option Bool
 | [],[]=>some true
 | x::r,y::s=>match QDJ x y,Ja r s with
   | some a,some b=>some (a&&b)
   | _,_=>none
 | _,_=>none
def evY (lk:Nat->AV) (lo:Nat->Option AO):YOp->Res
 | .no=>.no
 | .mks id e bytes zs n=>match n.av lk,lo id with
   | .iv (.int _ m),none=>.ok (0<=m/\(bytes:Int)*m<=140737488355328/\m<=9223372036854775807/\0<zs.length) True (.yl id m.toNat) (some (id,.arr e zs.length (List.replicate m.toNat (zs.map (·.av lk))) 0))
   | _,_=>.no
 | .mx mn x y=>match x.av lk,y.av lk with
   | .iv (.int k a),.iv (.int k' b)=>if k=k' then .ok True True (.iv (.int k (match mn with | true=>if b<a then b else a | false=>if a<b then b else a))) none else .no
   | _,_=>.no
 | .mkm id r=>match lo id with
   | none=>.ok True True (.yk id) (some (id,match r with | none=>.xg [] | some (e,sz)=>.yo e sz [] none))
   | some _=>.no
 | .lki kk z x k=>match x.av lk,keyOf kk (k.av lk),z.av lk with
   | .iv (.map kvs),some key,.iv zv=>.ok (QP kk kvs) True (.iv ((Qh key kvs).getD zv)) none
   | _,_,_=>.no
 | .lkd id kk z x k=>match x.av lk,keyOf kk (k.av lk),z.av lk,lo id with
   | .yk j,some key,.iv zv,some (.xg kvs)=>if j=id then .ok (QP kk kvs) True (.iv ((Qh key kvs).getD zv)) none else .no
   | _,_,_,_=>.no
 | .lkr id kk x k=>match x.av lk,keyOf kk (k.av lk),lo id with
   | .yk j,some key,some (.yo _ _ kvs none)=>if j=id then .ok (QP kk kvs) True (.yn id key ((Qh key kvs).getD []).length) none else .no
   | _,_,_=>.no
 | .mupd id kk x k v=>match x.av lk,keyOf kk (k.av lk),v.av lk,lo id with
   | .yk j,some key,.iv y,some (.xg kvs)=>if j=id then .ok (QP kk kvs) True (.iv .any) (some (id,.xg (zn key y kvs))) else .no
   | _,_,_,_=>.no
 | .ment id kk z x k=>match x.av lk,keyOf kk (k.av lk),z.av lk,lo id with
   | .yk j,some key,.iv zv,some (.xg kvs)=>if j=id then .ok (QP kk kvs) True (.iv (.xd [(Qh key kvs).getD zv,.int .i64 (QnV key kvs:Nat)])) (some (id,.xg (zn key ((Qh key kvs).getD zv) kvs))) else .no
   | _,_,_,_=>.no
 | .ests id x t v=>match x.av lk,t.av lk,v.av lk,lo id with
   | .yk j,.iv (.int .i64 n),.iv y,some (.xg kvs)=>if j=id then .ok (0<=n/\n<kvs.length) True (.iv .any) (some (id,.xg (QwZ y n.toNat kvs))) else .no
   | _,_,_,_=>.no
 | .mupr id kk x k v=>match x.av lk,keyOf kk (k.av lk),v.av lk,lo id with
   | .yk j,some key,.yn i key' m,some (.yo e sz kvs (some pk))=>if j=id/\i=id/\key'=key/\pk=key then .ok (QP kk kvs/\(Qh key kvs).isSome=true/\((Qh key kvs).getD []).length=m) True (.iv .any) (some (id,.yo e sz kvs none)) else .no
   | _,_,_,_=>.no
 | .bla _ parts=>match Xp 1 (parts.map (·.av lk)) with
   | some rows=>match Qd5 rows with
     | some es=>.ok True True (.iv (.agg es.flatten)) none
     | none=>.no
   | none=>.no
 | .fgt off x=>match x.av lk with
   | .iv (.agg xs)=>match xs[off]? with
     | some c=>.ok True True (.iv c) none
     | none=>.no
   | _=>.no
 | .ixg len x i=>match x.av lk,i.av lk with
   | .iv (.agg xs),.iv (.int _ n)=>match xs[n.toNat]? with
     | some c=>.ok (0<=n/\n<len) True (.iv c) none
     | none=>.no
   | _,_=>.no
 | .rngm id x=>match x.av lk,lo id with
   | .iv (.map kvs),none=>.ok True True (.yk id) (some (id,.yq kvs []))
   | _,_=>.no
 | .ent id x=>match x.av lk,lo id with
   | .yk j,some (.yq kvs (i::_))=>if j=id then match kvs[i]? with
     | some p=>.ok True True (.iv (.xd [p.1.iv,p.2])) none
     | none=>.no
     else .no
   | _,_=>.no
 | .mkf g fs cs=>.ok True True (Qw0 g (fs.map (·.av lk)) (cs.map (·.av lk))) none
 | .neg x=>match x.av lk with
   | .iv (.int k n)=>.ok (IntKind.inR k (0-n)) True (.iv (.int k (0-n))) none
   | _=>.no
 | .eqs ne n x y=>match x.av lk,y.av lk with
   | .iv (.agg cs),.iv (.agg ds)=>match Ja cs ds with
     | some b=>.ok (cs.length=n) True (.iv (.bool (match ne with | true=>!b | false=>b))) none
     | none=>.no
   | _,_=>.no
 | .lenm x=>match x.av lk with
   | .iv (.map kvs)=>.ok True True (.iv (.int .i64 kvs.length)) none
   | _=>.no
 | .lenmo id x=>match x.av lk,lo id with
   | .yk j,some (.xg kvs)=>if j=id then .ok True True (.iv (.int .i64 kvs.length)) none else .no
   | _,_=>.no
 | .ixa len sz x i=>match x.av lk,i.av lk with
   | .loc id off,.iv (.int _ n)=>.ok (0<=n/\n<len) True (.loc id (off+n.toNat*sz)) none
   | .iv (.ptr cs),.iv (.int _ n)=>.ok (0<=n/\n<len/\n.toNat*sz<=cs.length) True (.iv (.ptr (cs.drop (n.toNat*sz)))) none
   | _,_=>.no
 | .zslv sz=>.ok True True (.zsl sz []) none
 | .apz _ sz bytes x y=>match x.av lk,y.av lk with
   | .zsl s0 rs,.iv (.sl s ys)=>.ok (s=sz/\s0=sz/\(rs++ys).length<=maxLen/\(rs++ys).length*bytes<=140737488355328) True (.iv (.sl sz (rs++ys))) none
   | _,_=>.no
 | .mkz id kk=>match lo id with
   | none=>.ok True True (.yk id) (some (id,.mapz kk))
   | some _=>.no
 | .mupz id kk x k _=>match x.av lk,keyOf kk (k.av lk),lo id with
   | .yk j,some _,some (.mapz k2)=>if j=id then .ok (k2=kk) True (.iv .any) (some (id,.mapz kk)) else .no
   | _,_,_=>.no
 | .mdlz id kk x k=>match x.av lk,keyOf kk (k.av lk),lo id with
   | .yk j,some _,some (.mapz k2)=>if j=id then .ok (k2=kk) True (.iv (.xd [])) (some (id,.mapz kk)) else .no
   | _,_,_=>.no
 | .sl3 sz x n m=>match x.av lk,n.av lk,m.av lk with
   | .iv (.sl s rows),.iv (.int .i64 k),.iv (.int .i64 l)=>.ok (s=sz/\k=rows.length/\l=rows.length) True (.zsl sz rows) none
   | _,_,_=>.no
 | .lkc kk zs x k=>match x.av lk,keyOf kk (k.av lk),ivs (zs.map (·.av lk)) with
   | .iv (.map kvs),some key,some zl=>.ok (QP kk kvs) True (.iv (.xd [(Qh key kvs).getD (.agg zl),.bool (Qh key kvs).isSome])) none
   | _,_,_=>.no
 | .isn ne x=>match x.av lk with
   | .iv (.lit .nilIface)=>.ok True True (.iv (.bool (match ne with | true=>false | false=>true))) none
   | .iv .ifn=>.ok True True (.iv (.bool (match ne with | true=>true | false=>false))) none
   | _=>.no
def ev (lk:Nat->AV) (lo:Nat->Option AO):AOp->Res
 | .xf x=>.ok True True (x.av lk) none
 | .nilo id e sz=>match lo id with
   | none=>.ok True True (.yl id 0) (some (id,.arr e sz [] 0))
   | some _=>.no
 | .pick c x y=>QhF (x.av lk) (y.av lk) (c.av lk)
 | .ext x i=>QnF i (x.av lk)
 | .not x=>Qqe (x.av lk)
 | .bin op x y=>Qql op (x.av lk) (y.av lk)
 | .beq neg x y=>Qqm neg (x.av lk) (y.av lk)
 | .cvi k x=>Qqk k (x.av lk)
 | .i2s x=>Qqj (x.av lk)
 | .nilc x=>QhG (x.av lk)
 | .fld off x=>QnE off (x.av lk)
 | .ldi n ag x=>QfB n ag (x.av lk)
 | .ldo id n ag x=>QnC lo id n ag (x.av lk)
 | .sto id n x y=>Qnz lo id n (y.av lk) (x.av lk)
 | .ixi sz x i=>Qqi sz (x.av lk) (i.av lk)
 | .ixo id sz x i=>QnD lo id sz (x.av lk) (i.av lk)
 | .ixs x i=>Qqh (x.av lk) (i.av lk)
 | .sli sz x l h=>QnB sz lk l h (x.av lk)
 | .sls x l h=>QnA lk l h (x.av lk)
 | .boxi x=>QhH (x.av lk)
 | .boxo id x=>Qeo lo id (x.av lk)
 | .alo id zs=>match lo id with
   | none=>.ok True True (.loc id 0) (some (id,.box (zs.map (·.av lk))))
   | some _=>.no
 | .bld zs parts=>match QjK (zs.map (·.av lk)) (parts.map fun (o,s,x)=>(o,s,x.av lk)) with
   | some cs=>.ok True True (QaT cs) none
   | none=>.no
 | .bsl sz parts=>match Xp sz (parts.map (·.av lk)) with
   | some rows=>match Qd5 rows with
     | some es=>.ok True True (.iv (.sl sz es)) none
     | none=>.no
   | none=>.no
 | .bso id e sz parts=>match lo id,Xp sz (parts.map (·.av lk)) with
   | none,some rows=>.ok True True (.yl id parts.length) (some (id,.arr e sz rows 0))
   | _,_=>.no
 | .len x=>Qqg (x.av lk)
 | .leno id x=>Qen lo id (x.av lk)
 | .lst x=>Qqf (x.av lk)
 | .app id e sz bytes x y=>Wt lo id e sz bytes (x.av lk) (y.av lk)
 | .call _ _ _=>.no
 | .y3 _ _ _ _=>.no
 | .yz _ _ _=>.no
 | .yw _ _ _ _=>.no
 | .yu _ _ _=>.no
 | .yr _ _ _=>.no
 | .yx _ _ _=>.no
 | .cpy _ _ _=>.no
 | .y4 _ _ _=>.no
 | .yy op=>evY lk lo op
def Vl:List Opd->List Operand->Bool
 | [],[]=>true
 | x::r,y::s=>x.is y&&Vl r s
 | _,_=>false
def Qdf:Option Opd->Option Operand->Bool
 | none,none=>true
 | some x,some y=>x.is y
 | _,_=>false
def J7:List Opd->List Value->Bool
 | [],[]=>true
 | x::r,v::s=>x.isVal v&&J7 r s
 | _,_=>false
def Program.agg (P:Program) (t:TypeId):Option Bool :=
 match P.underlying t with
 | some (.struct _) | some (.array _ _)=>some true
 | some _=>some false
 | none=>none
def Program.sizeIs (P:Program) (t:TypeId) (n:Nat):Bool:=match P.info? t with | some i=>i.size==n | none=>false
def Program.sliceOf (P:Program) (t e:TypeId) (sz:Nat):Bool :=
 match P.underlying t with
 | some (.slice e')=>e'==e&&Program.sizeIs P e sz
 | _=>false
def Program.elemSize (P:Program) (t:TypeId) (sz:Nat):Bool :=
 match P.underlying t with
 | some (.slice e)=>Program.sizeIs P e sz
 | _=>false
def Program.zeroIs (P:Program) (t:TypeId) (zs:List Opd):Bool :=
 match P.info? t with
 | some i=>match i.zero with
   | some z=>J7 zs z.cells.toList&&i.size==zs.length
   | none=>false
 | none=>false
def Vc (places:Nat->Option (Nat × Nat)):List (Nat × Nat × Opd)->List (Nat × Operand)->Bool
 | [],[]=>true
 | (off,sz,x)::r,(i,y)::s=>(match places i with | some (o,z)=>o==off&&z==sz | none=>false)&&x.is y&&Vc places r s
 | _,_=>false
def WJ (k:Nat):List Opd->List (Nat × Operand)->Bool
 | [],[]=>true
 | x::r,(i,y)::s=>i==k&&x.is y&&WJ (k+1) r s
 | _,_=>false
section
variable (P:Program)
def Qjh (t:TypeId):Option IntKind:=match P.underlying t with | some (.int k)=>some k | _=>none
def Vk (t:TypeId):Bool:=match P.underlying t with | some .string=>true | _=>false
def Qpb (t:TypeId):Bool:=match P.underlying t with | some .bool=>true | _=>false
def Qxd (t:TypeId):Bool:=match P.underlying t with | some (.slice e)=>Qjh P e==some .u8 | _=>false
def Qpk (st:Bool) (t:TypeId):Bool:=match P.underlying t with | some .string=>st | some (.slice _)=>!st | _=>false
def Qpj (t:TypeId):Bool:=match P.info? t with | some i=>i.zero.isSome | none=>false
def Qbn (t:TypeId):Bool:=match P.underlying t with | some (.slice e)=>Qpj P e | _=>false
def QmJ (e:TypeId) (sz bytes:Nat):Bool:=match P.info? e with
 | some i=>i.bytes==bytes&&(match i.zero with | some z=>z.cells.size==sz | none=>false)
 | none=>false
def QjM (s:TypeId) (f off:Nat):Bool:=match P.underlying s with
 | some (.struct fields)=>(match fields[f]? with
   | some fd=>fd.offset==off&&(match P.info? fd.type with | some i=>i.size != 0 | none=>false)
   | none=>false)
 | _=>false
def Qmj (s:TypeId) (f off:Nat):Bool:=match P.underlying s with
 | some (.struct fields)=>(match fields[f]? with
   | some fd=>fd.offset==off&&Program.agg P fd.type==some false
   | none=>false)
 | _=>false
def QlK (t:TypeId):Option (List (Nat × Nat)):=match P.underlying t with
 | some (.struct fields)=>fields.toList.mapM fun f=>(P.info? f.type).map fun i=>(f.offset,i.size)
 | _=>none
def QrB (t:TypeId) (parts:List (Nat × Nat × Opd)) (ps:List (Nat × Operand)):Bool:=match QlK P t with
 | some places=>Vc (places[·]?) parts ps
 | none=>match P.underlying t with
   | some (.array _ e)=>match P.info? e with
     | some i=>Vc (fun k=>some (k*i.size,i.size)) parts ps
     | none=>false
   | _=>false
def callee (f : FuncId) : Bool := match P.funcs[f]? with | some fn => fn.body.isSome && !(fn.name == "runtime.NumGoroutine") | none => false
def QEN (x:Opd):Op->Bool | .move y=>x.is y | .assign y=>x.is y | _=>false
def QEM:Op->Bool | .assign y=>Opd.is (.nil 0) y | .move y=>Opd.is (.nil 0) y | _=>false
def Qzv (c x y:Opd):Op->Bool | .pick c' x' y'=>c.is c'&&x.is x'&&y.is y' | _=>false
def QDH (x:Opd) (i:Nat):Op->Bool | .extract y j=>x.is y&&i==j | _=>false
def QEL (x:Opd):Op->Bool | .unOp .not _ y=>x.is y | _=>false
def QEV (op:BinOp) (x y:Opd):Op->Bool | .binOp op' _ x' y' _=>op==op'&&x.is x'&&y.is y' | _=>false
def QEW (neg:Bool) (x y:Opd):Op->Bool | .binOp op t x' y' _=>op==(if neg then .neq else .eql)&&x.is x'&&y.is y'&&Qpb P t | _=>false
def QER (k:IntKind) (x:Opd):Op->Bool | .convert s d y=>x.is y&&(P.underlying s).isSome&&Qjh P d==some k | _=>false
def QEQ (x:Opd):Op->Bool | .convert s d y=>x.is y&&(P.underlying s).isSome&&Vk P d | _=>false
def QKz (x:Opd):Op->Bool | .convert s d y=>x.is y&&Qxd P s&&Vk P d | _=>false
def Qzw (x:Opd):Op->Bool | .nilCheck y=>x.is y | _=>false
def QEP (off:Nat) (x:Opd):Op->Bool | .fieldAddr s y f=>x.is y&&QjM P s f off | _=>false
def fLd (n:Nat) (ag:Bool) (x:Opd):Op->Bool | .load t y=>x.is y&&Program.agg P t==some ag&&Program.sizeIs P t n | _=>false
def QEI (n:Nat) (x y:Opd):Op->Bool | .store t x' y'=>x.is x'&&y.is y'&&Program.sizeIs P t n | _=>false
def QAt (sz:Nat) (x i:Opd):Op->Bool | .indexAddr t x' i'=>x.is x'&&i.is i'&&Program.elemSize P t sz | _=>false
def QEO (x i:Opd):Op->Bool | .index t x' i'=>x.is x'&&i.is i'&&Vk P t | _=>false
def QEK (sz:Nat) (x:Opd) (l h:Option Opd):Op->Bool | .slice t x' l' h' none=>x.is x'&&Qdf l l'&&Qdf h h'&&Program.elemSize P t sz | _=>false
def QEJ (x:Opd) (l h:Option Opd):Op->Bool | .slice t x' l' h' none=>x.is x'&&Qdf l l'&&Qdf h h'&&Vk P t | _=>false
def QAu (x:Opd):Op->Bool | .box _ y=>x.is y | _=>false
def QEX (zs:List Opd):Op->Bool | .alloc t=>Program.zeroIs P t zs | _=>false
def QEU (zs:List Opd) (parts:List (Nat × Nat × Opd)):Op->Bool | .build t ps=>Program.zeroIs P t zs&&QrB P t parts ps.toList | _=>false
def QCm (sz:Nat) (parts:List Opd):Op->Bool | .buildSlice t n ps=>n==parts.length&&WJ 0 parts ps.toList&&Program.elemSize P t sz&&Qbn P t&&parts.length*sz<=65536&&parts.length<=65536 | _=>false
def QET (e:TypeId) (sz:Nat) (parts:List Opd):Op->Bool | .buildSlice t n ps=>n==parts.length&&WJ 0 parts ps.toList&&Program.sliceOf P t e sz&&Qbn P t&&parts.length*sz<=65536&&parts.length<=65536 | _=>false
def QvV (st:Bool) (x:Opd):Op->Bool
 | .call { callee:=.builtin .len,args:=az,argTypes:=ts }=>(match az.toList,ts.toList with | [y],[t]=>x.is y&&Qpk P st t | _,_=>false)
 | _=>false
def QvW (e:TypeId) (sz bytes:Nat) (x y:Opd):Op->Bool
 | .call { callee:=.builtin .append,args:=az,argTypes:=ts }=>(match az.toList,ts.toList with
   | [x',y'],[t,t']=>x.is x'&&y.is y'&&t==t'&&Program.sliceOf P t e sz&&0<sz&&QmJ P e sz bytes
   | _,_=>false)
 | _=>false
def Qnx (f:FuncId) (args:List Opd):Op->Bool
 | .call { callee:=.value (.func f'),args:=az,.. }=>f==f'&&Vl args az.toList&&callee P f
 | _=>false
def QES (x y:Opd):Op->Bool
 | .call { callee:=.builtin .copy,args:=az,argTypes:=ts }=>(match az.toList,ts.toList with
   | [a,b],[t,_]=>x.is a&&y.is b&&(match P.underlying t with | some (.slice e)=>(P.info? e).map (·.size)==some 1 | _=>false)
   | _,_=>false)
 | _=>false
def QhC (x:Opd) (args:List Opd):Op->Bool
 | .call { callee:=.value (.tmp m),args:=az,.. }=>x.isTmp m&&Vl args az.toList
 | _=>false
def Wi (k:Option IntKind) (t:TypeId):Bool:=match k,P.underlying t with
 | some k,some (.int k')=>k==k'
 | none,some .bool=>true
 | _,_=>false
def XW:Nat->List (Option IntKind)->List Field->Bool
 | _,[],[]=>true
 | i, k :: ks, f :: fs => f.name != "_" && f.offset == i && Wi P k f.type && XW (i + 1) ks fs
 | _,_,_=>false
def qP (kk:KK) (t:TypeId):Bool:=match kk,P.underlying t with
 | .int k,some (.int k')=>k==k'
 | .str,some .string=>true
 | .agg ks,some (.struct fs)=>!P.stoodInHeld t&&XW P 0 ks fs.toList
 | _,_=>false
def V3 (kk:KK) (t:TypeId):Option TypeId:=match P.underlying t with
 | some (.map k e)=>if qP P kk k then some e else none
 | _=>none
def QAq (kk:KK) (z:Opd) (t:TypeId):Bool:=match V3 P kk t with
 | some e=>(match P.info? e with | some i=>(match i.zero with | some v=>z.isVal v | none=>false) | none=>false)
 | none=>false
def QBn (kk:KK) (zs:List Opd) (t:TypeId):Bool:=match V3 P kk t with
 | some e=>Program.zeroIs P e zs&&(match P.info? e with | some i=>(match i.zero with | some (.agg _)=>true | _=>false) | none=>false)
 | none=>false
def QDd (t:TypeId) (zs parts:List Opd):Bool:=match P.underlying t with
 | some (.array n e)=>n==parts.length&&Program.sizeIs P e 1&&Program.zeroIs P t zs&&zs.length==parts.length
 | _=>false
def QmQ (len:Nat) (t:TypeId):Bool:=match P.underlying t with
 | some (.array n e)=>n==len&&Program.sizeIs P e 1&&Program.agg P e==some false
 | _=>false
def QJS (t:TypeId):Nat:=match P.underlying t with | some (.array n _)=>n | _=>0
def UJ:Nat->List Field->Bool
 | _,[]=>true
 | k, f :: r => f.name != "_" && f.offset == k && (Qjh P f.type).isSome && UJ (k + 1) r
def QhA (f:Field):Option Nat:=if (Qjh P f.type).isSome then some 1 else match P.underlying f.type with
 | some (.struct fs)=>if !P.stoodInHeld f.type&&UJ P 0 fs.toList&&Program.sizeIs P f.type fs.size then some fs.size else none
 | _=>none
def Z0:Nat->List Field->Option Nat
 | k,[]=>some k
 | k, f :: r => if f.name != "_" && f.offset == k then (match QhA P f with | some m => Z0 (k + m) r | none => none) else none
def Qei (n:Nat) (t:TypeId):Bool:=match P.underlying t with
 | some (.struct fs)=>!P.stoodInHeld t&&!P.eqGuardType P.depth t&&Z0 P 0 fs.toList==some n
 | _=>false
def Qpa (t:TypeId):Bool:=match P.underlying t with | some (.map _ _)=>true | _=>false
def QmP (len sz:Nat) (t:TypeId):Bool:=match P.underlying t with
 | some (.array n e)=>n==len&&Program.sizeIs P e sz
 | _=>false
def YOp.fits:YOp->Op->Bool
 | .no=>fun | .defer _=>false | _=>true
 | .mks _ e bytes zs n=>fun | .makeSlice t l c=>n.is l&&n.is c&&(match P.underlying t with | some (.slice e')=>e'==e | _=>false)&&Program.zeroIs P e zs&&(match P.info? e with | some i=>i.bytes==bytes | none=>false) | _=>false
 | .mx mn x y=>fun
   | .call { callee:=.builtin b,args:=az,.. }=>(match az.toList with | [x',y']=>(match mn,b with | true,.min=>true | false,.max=>true | _,_=>false)&&x.is x'&&y.is y' | _=>false)
   | _=>false
 | .mkm _ _=>fun | .makeMap _ none=>true | _=>false
 | .lki kk z x k=>fun | .lookup t x' k' c=>x.is x'&&k.is k'&&!c&&QAq P kk z t | _=>false
 | .lkd _ kk z x k=>fun | .lookup t x' k' c=>x.is x'&&k.is k'&&!c&&QAq P kk z t | _=>false
 | .lkr _ kk x k=>fun | .lookup t x' k' c=>x.is x'&&k.is k'&&!c&&QAq P kk (.nil 0) t | _=>false
 | .mupd _ kk x k v=>fun | .mapUpdate t x' k' v'=>x.is x'&&k.is k'&&v.is v'&&(V3 P kk t).isSome | .insert t x' k' v'=>x.is x'&&k.is k'&&v.is v'&&(V3 P kk t).isSome | _=>false
 | .ment _ kk z x k=>fun | .mapEntry t x' k'=>x.is x'&&k.is k'&&QAq P kk z t | _=>false
 | .ests _ x t v=>fun | .entryStore _ x' t' v'=>x.is x'&&t.is t'&&v.is v' | _=>false
 | .mupr _ kk x k v=>fun | .mapUpdate t x' k' v'=>x.is x'&&k.is k'&&v.is v'&&(V3 P kk t).isSome | _=>false
 | .bla zs parts=>fun | .build t ps=>QDd P t zs parts&&WJ 0 parts ps.toList | _=>false
 | .fgt off x=>fun | .field t x' i=>x.is x'&&Qmj P t i off | _=>false
 | .ixg len x i=>fun | .index t x' i'=>x.is x'&&i.is i'&&QmQ P len t | _=>false
 | .rngm _ x=>fun | .range t y=>x.is y&&(match P.underlying t with | some (.map _ _)=>true | _=>false) | _=>false
 | .ent _ x=>fun | .entry y=>x.is y | _=>false
 | .neg x=>fun | .unOp .neg _ y=>x.is y | _=>false
 | .eqs ne n x y=>fun | .binOp op t x' y' _=>op==(if ne then .neq else .eql)&&x.is x'&&y.is y'&&Qei P n t | _=>false
 | .lenm x=>fun
   | .call { callee:=.builtin .len,args:=az,argTypes:=ts }=>(match az.toList,ts.toList with | [y],[t]=>x.is y&&Qpa P t | _,_=>false)
   | _=>false
 | .lenmo _ x=>fun
   | .call { callee:=.builtin .len,args:=az,argTypes:=ts }=>(match az.toList,ts.toList with | [y],[t]=>x.is y&&Qpa P t | _,_=>false)
   | _=>false
 | .ixa len sz x i=>fun | .indexAddr t x' i'=>x.is x'&&i.is i'&&QmP P len sz t | _=>false
 | .zslv sz=>QCm P sz []
 | .apz e sz bytes x y=>QvW P e sz bytes x y
 | .mkz _ kk=>fun | .makeMap t none=>(V3 P kk t).isSome | _=>false
 | .mupz _ kk x k v=>fun | .mapUpdate t x' k' v'=>x.is x'&&k.is k'&&v.is v'&&(V3 P kk t).isSome | .insert t x' k' v'=>x.is x'&&k.is k'&&v.is v'&&(V3 P kk t).isSome | _=>false
 | .mdlz _ kk x k=>fun
   | .call { callee:=.builtin .delete,args:=az,argTypes:=ts }=>(match az.toList,ts.toList with | [y,z],[t,_]=>x.is y&&k.is z&&(V3 P kk t).isSome | _,_=>false)
   | _=>false
 | .sl3 sz x n m=>fun | .slice t x' none (some n') (some n2)=>x.is x'&&n.is n'&&m.is n2&&Program.elemSize P t sz | _=>false
 | .lkc kk zs x k=>fun | .lookup t x' k' c=>x.is x'&&k.is k'&&c&&QBn P kk zs t | _=>false
 | .isn ne x=>fun | .binOp op t x' (.const .nilIface) _=>op==(if ne then .neq else .eql)&&x.is x'&&(match P.underlying t with | some (.interface _)=>true | _=>false) | _=>false
 | .mkf g fs cs=>fun | .makeFunc (.func g') fs' cs'=>g==g'&&Vl fs fs'.toList&&Vl cs cs'.toList | _=>false
def AOp.fits:AOp->Op->Bool
 | .xf x=>QEN x
 | .nilo _ _ _=>QEM
 | .pick c x y=>Qzv c x y
 | .ext x i=>QDH x i
 | .not x=>QEL x
 | .bin op x y=>QEV op x y
 | .beq neg x y=>QEW P neg x y
 | .cvi k x=>QER P k x
 | .i2s x=>QEQ P x
 | .nilc x=>Qzw x
 | .fld off x=>QEP P off x
 | .ldi n ag x=>fLd P n ag x
 | .ldo _ n ag x=>fLd P n ag x
 | .sto _ n x y=>QEI P n x y
 | .ixi sz x i=>QAt P sz x i
 | .ixo _ sz x i=>QAt P sz x i
 | .ixs x i=>QEO P x i
 | .sli sz x l h=>QEK P sz x l h
 | .sls x l h=>QEJ P x l h
 | .boxi x=>QAu x
 | .boxo _ x=>QAu x
 | .alo _ zs=>QEX P zs
 | .bld zs parts=>QEU P zs parts
 | .bsl sz parts=>QCm P sz parts
 | .bso _ e sz parts=>QET P e sz parts
 | .len x=>QvV P false x
 | .leno _ x=>QvV P false x
 | .lst x=>QvV P true x
 | .app _ e sz bytes x y=>QvW P e sz bytes x y
 | .call f args _=>Qnx P f args
 | .y3 f args _ _=>Qnx P f args
 | .yz x args _=>QhC x args
 | .yw f x args _=>Qnx P f (x::args)
 | .yu x args _=>QhC x args
 | .yr f args _=>Qnx P f args
 | .yx f args _=>Qnx P f args
 | .cpy _ x y=>QES P x y
 | .y4 x args _=>QhC x args
 | .yy op=>YOp.fits P op
end
section
variable {P:Program} {ok:Nat->Prop} {w:World} {lo:Nat->Option AO} {L:Nat->Lay} {v:Value}
theorem Zy {k n} (h:QA ok w lo L (.iv (.int k n)) v):v=.int k n:=by
 cases h with | iv _ _ h=>cases h;rfl
theorem Jq {b} (h:QA ok w lo L (.iv (.bool b)) v):v=.bool b:=by
 cases h with | iv _ _ h=>cases h;rfl
theorem JE {s} (h:QA ok w lo L (.iv (.str s)) v):v=.string ⟨s.toArray⟩:=by
 cases h with | iv _ _ h=>cases h;rfl
theorem Zn (k n):QA ok w lo L (.iv (.int k n)) (.int k n):=.iv _ _ (.int k n)
theorem XN (b):QA ok w lo L (.iv (.bool b)) (.bool b):=.iv _ _ (.bool b)
theorem QeZ (s):QA ok w lo L (.iv (.str s)) (.string ⟨s.toArray⟩):=.iv _ _ (.str s)
theorem YT {v} (h:isSl v=true):(∀ z,v≠.agg z)/\v.oneCell'=true:=by
 cases v<;>simp[isSl] at h<;>exact ⟨by simp,rfl⟩
theorem Qd6 {v} (h:isFn v=true):(∀ z,v≠.agg z)/\v.oneCell'=true:=by
 cases v<;>simp[isFn] at h<;>exact ⟨by simp,rfl⟩
theorem W2:∀ {cs xs},ivs cs=some xs->cs=xs.map .iv
 | [],xs,h=>by simp[ivs] at h;subst h;rfl
 | x::r,xs,h=>by
   simp only[ivs] at h;cases x with
   | iv y =>
     cases hr:ivs r with
     | none=>simp[AV.iv?,hr] at h
     | some ys =>
       simp only[AV.iv?,hr,Option.some.injEq] at h;subst h;simp[W2 hr]
   | _=>simp[AV.iv?] at h
theorem VW {cs:List AV} {vs:List Value} (hl:vs.length=cs.length) (h1:∀ u∈vs,u.oneCell'=true)
  (hx:∀ (k:Nat) (x:AV) (u:Value),cs[k]?=some x->vs[k]?=some u->QA ok w lo L x u):QA ok w lo L (QaT cs) (.agg vs.toArray):=by
 unfold QaT;split
 ·rename_i xs he;have:=W2 he;subst this;refine .iv _ _ (.agg xs vs (by simpa using hl) h1 fun k x u h2 h3=>?_);have:=hx k (.iv x) u (by simp[h2]) h3;cases this;assumption
 ·exact .agg cs vs hl h1 hx
theorem Qb2 {x cs} (h:QA ok w lo L x v) (hc:x.cells=some cs) :
  ∃ vs:List Value,v.cells=vs.toArray/\vs.length=cs.length/\(∀ u∈vs,u.oneCell'=true)/\∀ (k:Nat) (x:AV) (u:Value),cs[k]?=some x->vs[k]?=some u->QA ok w lo L x u:=by
 have one:∀ {x v},QA ok w lo L x v->(∀ z,v≠.agg z)->(v.oneCell'=true)->cs=[x] ->
   ∃ vs:List Value,v.cells=vs.toArray/\vs.length=cs.length/\(∀ u∈vs,u.oneCell'=true)/\∀ (k:Nat) (x:AV) (u:Value),cs[k]?=some x->vs[k]?=some u->QA ok w lo L x u:=by
  intro x v hr hna h1 hcs;subst hcs;refine ⟨[v],?_,rfl,by simpa using h1,fun k y u h2 h3=>?_⟩
  ·cases v<;>first | rfl | exact absurd rfl (hna _)
  cases k with
  | zero=>simp at h2 h3;subst h2;subst h3;exact hr
  | succ k=>simp at h2
 have h0:=h;cases h with
 | iv y v hy =>
   cases hy with
   | any v=>simp[AV.cells] at hc
   | xd cs vs hl hx=>simp[AV.cells] at hc
   | lit v =>
     simp only[AV.cells] at hc;split at hc
     ·rename_i hfv;cases v<;>simp[isFn] at hfv;exact one h0 (by simp) rfl (by simpa using hc.symm)
     cases hc
   | ifn v h=>simp[AV.cells] at hc
   | agg xs vs hl h1 hx =>
     simp only[AV.cells,Option.some.injEq] at hc;subst hc;refine ⟨vs,rfl,by simpa using hl,h1,fun k y u h2 h3=>?_⟩;grind
   | bool b=>exact one h0 (by simp) rfl (by simpa[AV.cells] using hc.symm)
   | int k n=>exact one h0 (by simp) rfl (by simpa[AV.cells] using hc.symm)
   | str s=>exact one h0 (by simp) rfl (by simpa[AV.cells] using hc.symm)
   | nilp=>exact one h0 (by simp) rfl (by simpa[AV.cells] using hc.symm)
   | nils sz=>exact one h0 (by simp) rfl (by simpa[AV.cells] using hc.symm)
   | nilz sz a=>exact one h0 (by simp) rfl (by simpa[AV.cells] using hc.symm)
   | sl=>exact one h0 (by simp) rfl (by simpa[AV.cells] using hc.symm)
   | ptr=>exact one h0 (by simp) rfl (by simpa[AV.cells] using hc.symm)
   | fn f=>exact one h0 (by simp) rfl (by simpa[AV.cells] using hc.symm)
   | mapn=>exact one h0 (by simp) rfl (by simpa[AV.cells] using hc.symm)
   | map=>exact one h0 (by simp) rfl (by simpa[AV.cells] using hc.symm)
   | clo=>exact one h0 (by simp) rfl (by simpa[AV.cells] using hc.symm)
   | bag _ _ es' _ hp h=>cases h<;>exact one h0 (by simp) rfl (by simpa[AV.cells] using hc.symm)
 | agg xs vs hl h1 hx =>
   simp only[AV.cells,Option.some.injEq] at hc;subst hc;exact ⟨vs,rfl,hl,h1,hx⟩
 | loc id off cs b ho hL=>exact one h0 (by simp) rfl (by simpa[AV.cells] using hc.symm)
 | yl id e sz es mv v xs ho hL hs=>exact one h0 (YT hs).1 (YT hs).2 (by simpa[AV.cells] using hc.symm)
 | old id n e sz es mv v' v xs ho hL hs hn hv=>exact one h0 (YT hs).1 (YT hs).2 (by simpa[AV.cells] using hc.symm)
 | yj id n i off e sz es mv v xs b ho hL hn hv=>exact one h0 (by simp) rfl (by simpa[AV.cells] using hc.symm)
 | ym sz=>exact one h0 (by simp) rfl (by simpa[AV.cells] using hc.symm)
 | zsl sz rows v h hr =>
   obtain ⟨a,n,rfl⟩:=Qcg h;exact one h0 (by simp) rfl (by simpa[AV.cells] using hc.symm)
 | yn id k n e sz kvs pend b vals v ho hL h1 hn hv=>exact one h0 (YT h1).1 (YT h1).2 (by simpa[AV.cells] using hc.symm)
 | yk id b o ho hn hL=>exact one h0 (by simp) rfl (by simpa[AV.cells] using hc.symm)
 | omap id b kvs ho hL=>exact one h0 (by simp) rfl (by simpa[AV.cells] using hc.symm)
 | omz id b kk ho hL=>exact one h0 (by simp) rfl (by simpa[AV.cells] using hc.symm)
 | orow id b e sz kvs pend vals ho hL=>exact one h0 (by simp) rfl (by simpa[AV.cells] using hc.symm)
 | clo=>exact one h0 (by simp) rfl (by simpa[AV.cells] using hc.symm)
 | xd=>simp[AV.cells] at hc
 | cb id s O D ho hL=>exact one h0 (Qd6 s.hv).1 (Qd6 s.hv).2 (by simpa[AV.cells] using hc.symm)
theorem Opd.repVal {lk:Nat->AV} {x:Opd} {v:Value} (hx:x.isVal v=true):QA ok w lo L (x.av lk) v:=by
 cases x with
 | t n=>simp[Opd.isVal] at hx
 | fn f=>simp[Opd.isVal] at hx
 | int k n =>
   simp only[Opd.isVal] at hx;unfold isI at hx;split at hx
   ·simp only[QKI,beq_iff_eq] at hx;rw[<- hx.1,<- hx.2];exact Zn _ _
   cases hx
 | bool b =>
   simp only[Opd.isVal] at hx;unfold isB at hx;split at hx
   ·rw[<- beq_iff_eq.1 hx]
    exact XN _
   cases hx
 | str s =>
   simp only[Opd.isVal] at hx;unfold isS at hx;split at hx
   ·rename_i u;have e:s=u.data.toList:=by simpa using hx
    have e2:u=⟨s.toArray⟩:=by rw[e]
    rw[e2];exact QeZ _
   cases hx
 | nil sz =>
   simp only[Opd.isVal] at hx;unfold isN at hx;split at hx
   ·simp only[QKI,beq_iff_eq] at hx;rw[hx.1,hx.2];exact .iv _ _ (.nils sz)
   cases hx
 | nilv sz =>
   simp only[Opd.isVal] at hx;unfold isN at hx;split at hx
   ·simp only[QKI,beq_iff_eq] at hx;rw[hx.1,hx.2];exact .ym sz
   cases hx
 | nilm =>
   simp only[Opd.isVal] at hx;unfold isM at hx;split at hx
   ·exact .iv _ _ .mapn
   cases hx
 | nilf =>
   simp only[Opd.isVal] at hx;unfold QEn at hx;split at hx
   ·exact .iv _ _ (.lit _)
   cases hx
 | nilp =>
   simp only[Opd.isVal] at hx;unfold isP at hx;split at hx
   ·exact .iv _ _ .nilp
   ·cases hx
theorem Opd.rep {ok0:Nat->Prop} {N:Fm} {w0:XH} {lk:Nat->AV} {a:Act} (h:Rel ok0 N w0 lk lo a w L) {x:Opd} {y:Operand} (hx:x.is y=true) :
  QA (okL ok0 lo L) w lo L (x.av lk) (a.eval y):=by
 cases y with
 | tmp m =>
   cases x<;>simp only[Opd.is,Opd.isTmp,QLi,beq_iff_eq] at hx;rw[hx];exact h.env m
 | const v=>exact Opd.repVal hx
 | global g=>simp[Opd.is] at hx
 | func f =>
   cases x<;>simp only[Opd.is,Opd.isFn,QLi,beq_iff_eq] at hx;subst hx;exact .iv _ _ (.fn _)
theorem Xv {t:TypeId} {n:Nat} {ag:Bool} (hag:Program.agg P t=some ag) (hn:Program.sizeIs P t n=true) (b o:Nat) (vs:List Value)
  (hl:vs.length=n) (h0:ag=false->n=1) (hc:∀ (k:Nat) (u:Value),vs[k]?=some u->w.cell? ⟨b,o+k,none⟩=some u) :
  (loadVar t ⟨b,o,none⟩).run P w=.ok (if ag then .agg vs.toArray else vs.getD 0 undef) w:=by
 unfold Program.agg at hag;unfold Program.sizeIs at hn;cases hi:P.info? t with
 | none=>simp[hi] at hn
 | some i =>
   have hs:i.size=n:=by simpa[hi] using hn
   have hload:(loadCells ⟨b,o,none⟩ n).run P w=.ok vs.toArray w:=by
    rw[<- hl];exact run_loadCells_list (P:=P) w ⟨b,o,none⟩ vs (fun j v hv=>by rw[addr_add];exact hc j v hv)
   cases hu:P.underlying t with
   | none=>simp[hu] at hag
   | some d =>
     have hu':=run_underlying hu w;cases ag with
     | true =>
       have hda:(match d with | .struct _=>true | .array _ _=>true | _=>false)=true:=by
        cases d<;>simp_all
       cases d<;>simp at hda<;>simp[loadVar,isAgg,hu',sizeOf,typeInfo,hi,hs,hload]
     | false =>
       have h1:=h0 rfl;subst h1;obtain ⟨u,rfl⟩:∃ u,vs=[u]:=by
        cases vs with
        | _=>grind
       have hc0:=hc 0 u (by simp);simp only[QLX] at hc0;cases d<;>simp[hu] at hag<;>simp[loadVar,isAgg,hu',hc0]
theorem Qau {t ty:TypeId} {n:Nat} (hn:Program.sizeIs P t n=true) (b o:Nat) (v:Value) (vs cur:List Value) (hv:v.cells=vs.toArray) (hl:vs.length=n)
  (hg:w.heap[b]?=some (.cells cur.toArray ty (0,0))) (hfit:o+n<=cur.length) (h1:∀ u∈vs,u.oneCell'=true) :
  (storeVar t ⟨b,o,none⟩ v).run P w=.ok () (w.setRow b (cur.take o++vs++cur.drop (o+n)).toArray):=by
 unfold Program.sizeIs at hn;cases hi:P.info? t with
 | none=>simp[hi] at hn
 | some i =>
   have hs:i.size=n:=by simpa[hi] using hn
   have:=run_storeCells_at P b o ty vs 0 cur.toArray w hg (by simp;omega) h1;simp only[QLX,hl] at this;simp[storeVar,sizeOf,typeInfo,hi,hs,hv,hl,this]
end
def upO (lo:Nat->Option AO):Option (Nat × AO)->Nat->Option AO
 | none=>lo
 | some (id,o)=>Za lo id o
def QC (P:Program) (o:Oper) (ok0:Nat->Prop) (N:Fm) (w0:XH) (lk:Nat->AV) (lo:Nat->Option AO) (a:Act) (w:World) (v:AV) (up:Option (Nat × AO)):Prop :=
 ∃ n u w' L',(execOp a.eval o).run P w=.ok n w'/\(n=.value u\/(n=.skip/\u=undef)) /\
  Rel ok0 N w0 lk (upO lo up) a w' L'/\QA (okL ok0 (upO lo up) L') w' (upO lo up) L' v u
section
variable {P:Program} {ok0:Nat->Prop} {N:Fm} {w0:XH} {lk:Nat->AV} {lo:Nat->Option AO} {a:Act} {w:World} {L:Nat->Lay} {o:Oper}
theorem QC.pure {v u} (h:Rel ok0 N w0 lk lo a w L) (hr:(execOp a.eval o).run P w=.ok (.value u) w) (hv:QA (okL ok0 lo L) w lo L v u) :
  QC P o ok0 N w0 lk lo a w v none:=⟨_,u,w,L,hr,.inl rfl,h,hv⟩
theorem QtK {x} (h:Rel ok0 N w0 lk lo a w L) (hf:QEN x o.op=true):QC P o ok0 N w0 lk lo a w (x.av lk) none:=by
 unfold QEN at hf;split at hf
 ·rename_i y ho;exact QC.pure h (u:=a.eval y) (by simp[execOp,ho]) (Opd.rep h hf)
 ·rename_i y ho;exact QC.pure h (u:=a.eval y) (by simp[execOp,ho]) (Opd.rep h hf)
 ·cases hf
theorem Qqu {c x y} (h:Rel ok0 N w0 lk lo a w L) (hf:Qzv c x y o.op=true) {s f v up}
  (he:QhF (x.av lk) (y.av lk) (c.av lk)=.ok s f v up):f/\QC P o ok0 N w0 lk lo a w v up:=by
 unfold Qzv at hf;split at hf
 ·rename_i c' x' y' ho;simp only[QKI] at hf;obtain ⟨⟨hc,hx⟩,hy⟩:=hf;have rc:=Opd.rep h hc;generalize c.av lk=cv at rc he;unfold QhF at he;split at he
  ·rename_i b;injection he with e1 e2 e3 e4;subst e2 e3 e4;have:=Jq rc;refine ⟨trivial,QC.pure h (u:=if b then a.eval x' else a.eval y') (by simp[execOp,ho,this,asBool]) ?_⟩;cases b
   ·exact Opd.rep h hy
   exact Opd.rep h hx
  cases he
 ·cases hf
theorem Qt6 {x i} (h:Rel ok0 N w0 lk lo a w L) (hf:QDH x i o.op=true) {s f v up}
  (he:QnF i (x.av lk)=.ok s f v up):f/\QC P o ok0 N w0 lk lo a w v up:=by
 unfold QDH at hf;split at hf
 ·rename_i y j ho;simp only[QKI,beq_iff_eq] at hf;obtain ⟨hx,rfl⟩:=hf;have rx:=Opd.rep h hx;generalize x.av lk=xv at rx he;unfold QnF at he;split at he
  ·rename_i cs;split at he
   ·rename_i z hz;injection he with e1 e2 e3 e4;subst e2 e3 e4;cases rx with
    | iv _ _ r =>
      generalize hey:a.eval y=yv at r;cases r with
      | xd _ vs hl hxs =>
        have xa:i<vs.length:=by rw[hl];exact (QKG.1 hz).1
        have hu:vs[i]?=some vs[i]:=QKF xa;refine ⟨trivial,QC.pure h (u:=vs[i]) (by simp[execOp,ho,hey,Instr.extract,xa]) (.iv _ _ (hxs i z _ hz hu))⟩
   cases he
  ·rename_i cs;split at he
   ·rename_i z hz;injection he with e1 e2 e3 e4;subst e2 e3 e4;generalize hey:a.eval y=yv at rx;cases rx with
    | xd _ vs hl hxs =>
      have xa:i<vs.length:=by rw[hl];exact (QKG.1 hz).1
      have hu:vs[i]?=some vs[i]:=QKF xa;refine ⟨trivial,QC.pure h (u:=vs[i]) (by simp[execOp,ho,hey,Instr.extract,xa]) (hxs i z _ hz hu)⟩
   cases he
  cases he
 ·cases hf
theorem QtI {x} (h:Rel ok0 N w0 lk lo a w L) (hf:QEL x o.op=true) {s f v up}
  (he:Qqe (x.av lk)=.ok s f v up):f/\QC P o ok0 N w0 lk lo a w v up:=by
 unfold QEL at hf;split at hf
 ·rename_i t y ho;have rx:=Opd.rep h hf;generalize x.av lk=xv at rx he;unfold Qqe at he;split at he
  ·rename_i b;injection he with e1 e2 e3 e4;subst e2 e3 e4;have:=Jq rx;exact ⟨trivial,QC.pure h (u:=.bool !b) (by simp[execOp,ho,this,Op.unary]) (XN _)⟩
  cases he
 ·cases hf
theorem Qt9 {k x} (h:Rel ok0 N w0 lk lo a w L) (hf:QER P k x o.op=true) {s f v up}
  (he:Qqk k (x.av lk)=.ok s f v up):f/\QC P o ok0 N w0 lk lo a w v up:=by
 unfold QER at hf;split at hf
 ·rename_i sT d y ho;simp only[QKI,beq_iff_eq] at hf;obtain ⟨⟨hx,hs⟩,hd⟩:=hf;have hd':P.underlying d=some (.int k):=by
   unfold Qjh at hd;grind
  have rx:=Opd.rep h hx;generalize x.av lk=xv at rx he;unfold Qqk at he;split at he
  ·rename_i k' n;injection he with e1 e2 e3 e4;subst e2 e3 e4;have:=Zy rx;refine ⟨trivial,QC.pure h (u:=.int k (k.wrap n)) ?_ (Zn _ _)⟩;obtain ⟨ds,hds⟩:=QLf.1 hs;simp[execOp,ho,this,convert,run_underlying hds,run_underlying hd',Conv.intToInt]
  cases he
 ·cases hf
theorem WB {k n} (h:IntKind.inR k n):k.wrap n=n:=by
 unfold IntKind.inR IntKind.min IntKind.max at h;unfold IntKind.wrap;cases k<;>simp[IntKind.signed,IntKind.bits] at h |-<;>omega
def plain:Value->Bool
 | .int _ _=>true
 | .bool _=>true
 | .string _=>true
 | _=>false
theorem QfC (op t) (x y:Operand) (p q) (hp:plain p=true):eqGuard op t x y p q=pure ():=by
 unfold eqGuard;cases p<;>simp[plain] at hp<;>(split<;>rfl)
theorem VV {op t yt} {x' y':Operand} (ho:o.op=.binOp op t x' y' yt) {p q u} (hx:a.eval x'=p) (hy:a.eval y'=q) (hp:plain p=true)
  (hu:(binOp op t p q).run P w=.ok u w):(execOp a.eval o).run P w=.ok (.value u) w:=by
 simp[execOp,ho,hx,hy,QfC op t x' y' p q hp,hu]
theorem QmI (s u:List UInt8):((⟨s.toArray⟩:ByteArray).toList==(⟨u.toArray⟩:ByteArray).toList)=decide (s=u):=by
 have e:∀ l,(⟨l.toArray⟩:ByteArray).toList=l:=by
  intro l;simp
 rw[e,e];by_cases h:s=u<;>simp[h]
theorem Que {op:BinOp} {x y:Opd} (h:Rel ok0 N w0 lk lo a w L) (hf:QEV op x y o.op=true) {s f:Prop} {v:AV} {up:Option (Nat × AO)}
  (he:Qql op (x.av lk) (y.av lk)=.ok s f v up) (hs:s):f/\QC P o ok0 N w0 lk lo a w v up:=by
 unfold QEV at hf;split at hf
 ·rename_i op' t x' y' yt ho;simp only[QKI,beq_iff_eq] at hf;obtain ⟨⟨rfl,hx⟩,hy⟩:=hf;have rx:=Opd.rep h hx;have ry:=Opd.rep h hy;generalize x.av lk=xv at rx he;generalize y.av lk=yv at ry he;unfold Qql at he;split at he
  ·cases he;refine ⟨trivial,QC.pure h (VV ho (Zy rx) (Zy ry) rfl ?_) (Zn _ _)⟩;have:¬ (_<(0:Int)):=Int.not_lt.2 hs;simp[binOp,Op.shift,this,QwG]
  ·cases he;refine ⟨trivial,QC.pure h (VV ho (Zy rx) (Zy ry) rfl ?_) (Zn _ _)⟩;have:¬ (_<(0:Int)):=Int.not_lt.2 hs;simp[binOp,Op.shift,this,Qvq]
  ·rename_i k m k' n h1 h2;split at he
   ·rename_i hk;subst hk;have rx:=Zy rx;have ry:=Zy ry;unfold QtA at he;split at he
    all_goals first
     | (injection he with e1 e2 e3 e4
        subst e1 e2 e3 e4;refine ⟨trivial,QC.pure h (VV ho rx ry rfl ?_) (by first | exact Zn _ _ | exact XN _)⟩
        first
         | (simp[binOp,Op.intArith,WB hs];done)
         | (simp[binOp,Op.intDiv,hs.1,WB hs.2];done)
         | (have hs':¬ (n=0):=hs;simp[binOp,Op.intDiv,hs'];done)
         | (simp[binOp,Op.intBits,Qad];done)
         | (simp[binOp,Op.intCmp,bne];done)
         | (simp[binOp,Op.intCmp];rfl))
     | cases he
   cases he
  ·rename_i s1 s2;cases he;refine ⟨trivial,QC.pure h (VV ho (JE rx) (JE ry) rfl (u:=.string ⟨(s1++s2).toArray⟩) ?_) (QeZ _)⟩;have h2:¬ (((s1.length+s2.length:Nat):Int)>IntKind.i64.max):=by
    have:IntKind.i64.max=9223372036854775807:=by decide
    omega
   have h3:(⟨s1.toArray⟩:ByteArray)++⟨s2.toArray⟩=⟨(s1++s2).toArray⟩:=by
    ext1
    simp
   simp only[binOp,Op.stringOp];have e1:(⟨s1.toArray⟩:ByteArray).size=s1.length:=rfl;have e2:(⟨s2.toArray⟩:ByteArray).size=s2.length:=rfl;rw[e1,e2,if_neg h2,h3];rfl
  ·cases he;exact ⟨trivial,QC.pure h (VV ho (JE rx) (JE ry) rfl (by simp only[binOp,Op.stringOp,QmI];rfl)) (XN _)⟩
  ·cases he;exact ⟨trivial,QC.pure h (VV ho (JE rx) (JE ry) rfl (by simp only[binOp,Op.stringOp,QmI];rfl)) (XN _)⟩
  cases he
 ·cases hf
theorem run_equalIn_bool {t} (ht:P.underlying t=some .bool) (d b c):(Op.equalIn (d+1) t (.bool b) (.bool c)).run P w=.ok (b==c) w:=by
 simp[Op.equalIn,run_underlying ht]
theorem run_equal_bool {t} (ht:P.underlying t=some .bool) (b c):(Op.equal t (.bool b) (.bool c)).run P w=.ok (b==c) w :=
 run_equalIn_bool ht 9999 b c
theorem Quf {neg x y} (h:Rel ok0 N w0 lk lo a w L) (hf:QEW P neg x y o.op=true) {s f v up}
  (he:Qqm neg (x.av lk) (y.av lk)=.ok s f v up):f/\QC P o ok0 N w0 lk lo a w v up:=by
 unfold QEW at hf;split at hf
 ·rename_i op t x' y' yt ho;simp only[QKI,beq_iff_eq] at hf;obtain ⟨⟨⟨rfl,hx⟩,hy⟩,ht⟩:=hf;have ht':P.underlying t=some .bool:=by
   unfold Qpb at ht;split at ht
   ·rename_i e;exact e
   cases ht
  have rx:=Opd.rep h hx;have ry:=Opd.rep h hy;generalize x.av lk=xv at rx he;generalize y.av lk=yv at ry he;unfold Qqm at he;split at he
  ·rename_i b c;cases he;cases neg
   ·refine ⟨trivial,QC.pure h (VV ho (Jq rx) (Jq ry) rfl (u:=.bool (decide (b=c))) ?_) (XN _)⟩;have e:(b==c)=decide (b=c):=rfl;simp[binOp,run_equal_bool ht',e]
   refine ⟨trivial,QC.pure h (VV ho (Jq rx) (Jq ry) rfl (u:=.bool (!decide (b=c))) ?_) (XN _)⟩;have e:(b==c)=decide (b=c):=rfl;simp[binOp,run_equal_bool ht',e]
  cases he
 cases hf
end
section
variable {P:Program} {ok0:Nat->Prop} {N:Fm} {w0:XH} {lk:Nat->AV} {lo:Nat->Option AO} {a:Act} {w:World} {L:Nat->Lay} {o:Oper}
variable {s f:Prop} {v:AV} {up:Option (Nat × AO)}
theorem Qqw {x} (h:Rel ok0 N w0 lk lo a w L) (hf:Qzw x o.op=true)
  (he:QhG (x.av lk)=.ok s f v up):f/\QC P o ok0 N w0 lk lo a w v up:=by
 unfold Qzw at hf;split at hf
 ·rename_i y ho;have rx:=Opd.rep h hf;generalize x.av lk=xv at rx he;generalize hey:a.eval y=yv at rx;have run:∀ ad,yv=.pointer (some ad)->(execOp a.eval o).run P w=.ok (.value (.pointer (some ad))) w:=by
   intro ad had;simp[execOp,ho,hey,had]
  unfold QhG at he;split at he
  ·injection he with e1 e2 e3 e4;subst e2 e3 e4;have rx0:=rx;cases rx with
   | iv _ _ r=>cases r with
     | ptr cs b off u hu hx=>exact ⟨trivial,QC.pure h (run _ rfl) rx0⟩
  ·injection he with e1 e2 e3 e4;subst e2 e3 e4;have rx0:=rx;cases rx with
   | loc id off cs b hob hL=>exact ⟨trivial,QC.pure h (run _ rfl) rx0⟩
  cases he
 ·cases hf
theorem QjL {sT fi off} (hf:QjM P sT fi off=true) (b p) :
  (Instr.fieldAt sT (.pointer (some ⟨b,p,none⟩)) fi).run P w=.ok (.pointer (some ⟨b,p+off,none⟩)) w:=by
 unfold QjM at hf;split at hf
 ·rename_i fields hu;split at hf
  ·rename_i fd hfd;simp only[QKI,beq_iff_eq] at hf;obtain ⟨h1,h2⟩:=hf;split at h2
   ·rename_i i hi;have h3:i.size≠0:=by simpa using h2
    subst h1;simp[Instr.fieldAt,run_underlying hu,hfd,Instr.sureAddr,fieldPlace,sizeOf,typeInfo,hi,h3,addr_add]
   cases h2
  cases hf
 ·cases hf
theorem Qt4 {off x} (h:Rel ok0 N w0 lk lo a w L) (hf:QEP P off x o.op=true)
  (he:QnE off (x.av lk)=.ok s f v up) (hs:s):f/\QC P o ok0 N w0 lk lo a w v up:=by
 unfold QEP at hf;split at hf
 ·rename_i sT y fi ho;simp only[QKI] at hf;obtain ⟨hx,hfi⟩:=hf;have rx:=Opd.rep h hx;generalize x.av lk=xv at rx he;generalize hey:a.eval y=yv at rx;have run:∀ b p,yv=.pointer (some ⟨b,p,none⟩)->(execOp a.eval o).run P w=.ok (.value (.pointer (some ⟨b,p+off,none⟩))) w:=by
   intro b p had;simp[execOp,ho,hey,had,QjL hfi b p]
  unfold QnE at he;split at he
  ·cases he;cases rx with
   | iv _ _ r=>cases r with
     | ptr cs b p u hu hxs =>
       refine ⟨trivial,QC.pure h (run b p rfl) (.iv _ _ (.ptr _ b (p+off) (fun k=>u (off+k)) (fun k hk=>?_) (fun k z hz=>?_)))⟩
       all_goals grind
  ·rename_i id off';cases he;cases rx with
   | loc _ _ cs b hob hL=>exact ⟨trivial,QC.pure h (run b off' rfl) (.loc id (off'+off) cs b hob hL)⟩
  ·rename_i id n i o';cases he;cases rx with
   | yj _ _ _ _ e sz es mv v xs b ho hL hn hv =>
     have:=run b _ rfl;rw[QLI] at this;exact ⟨trivial,QC.pure h this (.yj id n i (o'+off) e sz es mv v xs b ho hL hn hv)⟩
  cases he
 ·cases hf
theorem QtW {n ag x} (h:Rel ok0 N w0 lk lo a w L) (hf:fLd P n ag x o.op=true)
  (he:QfB n ag (x.av lk)=.ok s f v up) (hs:s):f/\QC P o ok0 N w0 lk lo a w v up:=by
 unfold fLd at hf;split at hf
 ·rename_i t y ho;simp only[QKI,beq_iff_eq] at hf;obtain ⟨⟨hx,hag⟩,hn⟩:=hf;have rx:=Opd.rep h hx;generalize x.av lk=xv at rx he;generalize hey:a.eval y=yv at rx;unfold QfB at he;split at he
  ·rename_i cs;cases rx with
   | iv _ _ r=>cases r with
     | ptr _ b p u hu hxs =>
       split at he
       ·cases he
        have hl:=Xv (w:=w) hag hn b p ((List.range n).map u) (by simp) (by simp) (fun k z hz=>by
         grind)
        refine ⟨trivial,QC.pure h (u:=.agg ((List.range n).map u).toArray) (by simp[execOp,ho,hey,Instr.loadAt,Instr.sureAddr,hl]) (.iv _ _ (.agg _ _ ?_ ?_ ?_))⟩
        all_goals grind
       split at he
       ·rename_i c r;cases he;subst hs
        have hl:=Xv (w:=w) hag hn b p [u 0] (by simp) (by simp) (fun k z hz=>by
         grind)
        refine ⟨trivial,QC.pure h (u:=u 0) (by simp[execOp,ho,hey,Instr.loadAt,Instr.sureAddr,hl]) (.iv _ _ (hxs 0 _ (by simp)))⟩
       cases he
  cases he
 ·cases hf
end
section
variable {P:Program} {ok0:Nat->Prop} {N:Fm} {w0:XH} {lk:Nat->AV} {lo:Nat->Option AO} {a:Act} {w:World} {L:Nat->Lay} {o:Oper}
variable {s f:Prop} {v:AV} {up:Option (Nat × AO)}
theorem UC {n:Nat} {ag:Bool} {t:TypeId} {y:Operand} (h:Rel ok0 N w0 lk lo a w L) (ho:o.op=.load t y) (hag:Program.agg P t=some ag) (hn:Program.sizeIs P t n=true)
  {b p:Nat} (hy:a.eval y=.pointer (some ⟨b,p,none⟩)) (cs:List AV) (vs:List Value) (hl:vs.length=cs.length) (h1:∀ u∈vs,u.oneCell'=true)
  (hcs:cs.length=n) (hag1:ag=false->n=1)
  (hc:∀ (k:Nat) (u:Value),vs[k]?=some u->w.cell? ⟨b,p+k,none⟩=some u)
  (hx:∀ (k:Nat) (x:AV) (u:Value),cs[k]?=some x->vs[k]?=some u->QA (okL ok0 lo L) w lo L x u) :
  (ag=true->QC P o ok0 N w0 lk lo a w (QaT cs) none)/\(ag=false->∀ c,cs[0]?=some c->QC P o ok0 N w0 lk lo a w c none):=by
 have hload:=Xv (w:=w) hag hn b p vs (by omega) hag1 hc;refine ⟨fun e=>?_,fun e c hc0=>?_⟩
 ·subst e;exact QC.pure h (u:=.agg vs.toArray) (by simp[execOp,ho,hy,Instr.loadAt,Instr.sureAddr,hload]) (VW hl h1 hx)
 ·subst e;have xa:0<vs.length:=by rw[hl];exact (QKG.1 hc0).1
  have hv0:vs[0]?=some vs[0]:=QKF xa;refine QC.pure h (u:=vs.getD 0 undef) (by simp[execOp,ho,hy,Instr.loadAt,Instr.sureAddr,hload]) ?_;grind
theorem Qfy {es:List (List AV)} {sz:Nat} (hs:∀ c∈es,c.length=sz) {i:Nat} (hi:i<es.length):(es.getD i []).length=sz:=by
 grind
theorem UX {i n j sz:Nat} (hi:i<n) (hj:j<sz):i*sz+j<n*sz:=by
 have:(i+1)*sz<=n*sz:=QLc sz hi;rw[QLl] at this;omega
theorem QtV {id n:Nat} {ag:Bool} {x:Opd} (h:Rel ok0 N w0 lk lo a w L) (hf:fLd P n ag x o.op=true)
  (he:QnC lo id n ag (x.av lk)=.ok s f v up) (hs:s):f/\QC P o ok0 N w0 lk lo a w v up:=by
 unfold fLd at hf;split at hf
 ·rename_i t y ho;simp only[QKI,beq_iff_eq] at hf;obtain ⟨⟨hx,hag⟩,hn⟩:=hf;have rx:=Opd.rep h hx;generalize x.av lk=xv at rx he;generalize hey:a.eval y=yv at rx;unfold QnC at he;split at he
  ·rename_i i off;split at he
   ·rename_i hii;subst hii;split at he
    ·rename_i cs hcs;have hob:=h.y9 _ _ hcs;cases rx with
     | loc _ _ cs' b hob' hL =>
       rw[hcs] at hob';injection hob' with hob';injection hob' with hob';subst hob';rw[hL] at hob;obtain ⟨hB,ty,vs,hb,hl,h1,hxx⟩:=hob;have cell:∀ k u,(vs.drop off)[k]?=some u->w.cell? ⟨b,off+k,none⟩=some u:=by
        intro k u hu;rw[cell_of_row w b (off+k) _ ty (0,0) hb];simpa[QLP] using hu
       split at he
       ·cases he
        have:=(UC h ho hag hn hey ((cs.drop off).take n) ((vs.drop off).take n) (by simp[hl]) (fun u hu=>h1 u (QLT (QLw hu))) (by simp;omega) (by simp)
         (fun k u hu=>cell k u (by rw[QLr] at hu;split at hu<;>first | exact hu | cases hu))
         (fun k z u hz hu=>by
           grind)).1 rfl
        exact ⟨trivial,this⟩
       split at he
       ·rename_i c hc;injection he with e1 e2 e3 e4;subst e1 e2 e3 e4;subst hs;have xa:off<vs.length:=by rw[hl];exact (QKG.1 hc).1
        have:=(UC h ho hag hn hey [c] [vs[off]] rfl (fun u hu=>h1 u (by simp at hu;subst hu;exact QKL xa)) rfl (by simp)
         (fun k u hu=>by
           cases k with
           | zero=>simp at hu;subst hu;exact cell 0 _ (by simp[QLP,xa])
           | succ k=>simp at hu)
         (fun k z u hz hu=>by
           grind)).2 rfl c rfl
        exact ⟨trivial,this⟩
       cases he
    cases he
   cases he
  ·rename_i i m j off;split at he
   ·rename_i hii;subst hii;split at he
    ·rename_i e sz es mv hcs;have hob:=h.y9 _ _ hcs;cases rx with
     | yj _ _ _ _ e' sz' es' mv' v' xs b hob' hL hm hv =>
       rw[hcs] at hob';injection hob' with hob';injection hob' with g1 g2 g3 g4;subst g1 g2 g3 g4;rw[hL] at hob;obtain ⟨hown,hmv,hsz,h1,hxx⟩:=hob;have hxl:=hown.own.1;have get:mv<=m->j<m/\∀ k,k<sz->∃ u,w.cell? ⟨b,j*sz+k,none⟩=some u/\xs[j*sz+k]?=some u:=by
        intro hmm;obtain ⟨hj,_,hcells⟩:=hv hmm;exact ⟨hj,fun k hk=>(hcells (j*sz+k) (UX hj hk)).2⟩
       split at he
       ·cases he;obtain ⟨hmm,hfit⟩:=hs;obtain ⟨hj,hcell⟩:=get hmm;have hlen:=Qfy hsz (i:=j) (by omega);have hjs:es[j]?=some (es.getD j []):=by
         have:j<es.length:=by omega
         simp[List.getD,this]
        rw[hlen] at hfit;have hbig:j*sz+sz<=xs.length:=by
         rw[hxl];have:(j+1)*sz<=es.length*sz:=QLc sz (by omega);rw[QLl] at this;omega
        have:=(UC h ho hag hn hey (((es.getD j []).drop off).take n) ((xs.drop (j*sz+off)).take n) (by simp[-List.getD_eq_getElem?_getD,hlen];omega)
         (fun u hu=>h1 u (QLT (QLw hu))) (by simp[-List.getD_eq_getElem?_getD,hlen];omega) (by simp)
         (fun k u hu=>by
           rw[QLr] at hu;split at hu
           ·rename_i hk;rw[QLP] at hu;obtain ⟨u',h2,h3⟩:=hcell (off+k) (by omega);grind
           cases hu)
         (fun k z u hz hu=>by
           grind)).1 rfl
        exact ⟨trivial,this⟩
       split at he
       ·rename_i c hc;injection he with e1 e2 e3 e4;subst e1 e2 e3 e4;obtain ⟨hmm,rfl⟩:=hs;obtain ⟨hj,hcell⟩:=get hmm;have hlen:=Qfy hsz (i:=j) (by omega);have hjs:es[j]?=some (es.getD j []):=by
         have:j<es.length:=by omega
         simp[List.getD,this]
        have hoff:off<sz:=by rw[<- hlen];exact (QKG.1 hc).1
        obtain ⟨u,h2,h3⟩:=hcell off hoff
        have:=(UC h ho hag hn hey [c] [u] rfl (fun u' hu=>h1 u' (by simp at hu;subst hu;exact QKW h3)) rfl (by simp)
         (fun k u' hu=>by
           cases k with
           | zero=>simp at hu;subst hu;exact h2
           | succ k=>simp at hu)
         (fun k z u' hz hu=>by
           grind)).2 rfl c rfl
        exact ⟨trivial,this⟩
       cases he
    cases he
   cases he
  cases he
 ·cases hf
end
section
variable {P:Program} {ok0:Nat->Prop} {N:Fm} {w0:XH} {lk:Nat->AV} {lo:Nat->Option AO} {a:Act} {w:World} {L:Nat->Lay} {o:Oper}
variable {s f:Prop} {v:AV} {up:Option (Nat × AO)}
theorem Z8 {t sz} (h:Program.elemSize P t sz=true):∃ e i,P.underlying t=some (.slice e)/\P.info? e=some i/\i.size=sz:=by
 unfold Program.elemSize Program.sizeIs at h;grind
theorem QbS {t e} {i:TypeInfo} {sz} (he:P.underlying t=some (.slice e)) (hi:P.info? e=some i) (hs:i.size=sz)
  (b off len cap k j) (h0:0<=j) (h1:j.toNat<len) :
  (Instr.indexAt t (.slice (some ⟨b,off,none⟩) len cap) (.int k j)).run P w=.ok (.pointer (some ⟨b,off+j.toNat*sz,none⟩)) w:=by
 have h2:0<=j/\j<(len:Int):=⟨h0,by omega⟩;simp[Instr.indexAt,asIntOf,run_underlying he,h2,sizeOf,typeInfo,hi,hs,addr_add]
theorem getD_some {α} {l:List α} {i} {d:α} (h:i<l.length):l[i]?=some (l.getD i d):=by
 simp[List.getD,h]
theorem QtZ {sz x i} (h:Rel ok0 N w0 lk lo a w L) (hf:QAt P sz x i o.op=true)
  (he:Qqi sz (x.av lk) (i.av lk)=.ok s f v up) (hs:s):f/\QC P o ok0 N w0 lk lo a w v up:=by
 unfold QAt at hf;split at hf
 ·rename_i t x' i' ho;simp only[QKI] at hf;obtain ⟨⟨hx,hi⟩,hsz⟩:=hf;obtain ⟨e,ti,hu,hti,hts⟩:=Z8 hsz;have rx:=Opd.rep h hx;have ri:=Opd.rep h hi;generalize x.av lk=xv at rx he;generalize i.av lk=iv at ri he;generalize hey:a.eval x'=yv at rx;unfold Qqi at he;split at he
  ·rename_i sz' es k j;cases he;obtain ⟨rfl,h0,xa⟩:=hs;have hei:=Zy ri;cases rx with
   | iv _ _ r=>cases r with
     | nils=>simp at xa
     | nilz=>simp at xa
     | sl _ _ b off cap u hl hc hes hcell hxx =>
       refine ⟨trivial,QC.pure h (u:=.pointer (some ⟨b,off+j.toNat*sz',none⟩)) ?_ ?_⟩
       ·simp only[execOp,ho,hey,hei,Sem.run_bind,QbS hu hti hts b off es.length cap k j h0 xa];rfl
       have hj:=getD_some (d:=[]) xa;have hlen:(es.getD j.toNat []).length=sz':=hes _ (QKW hj);refine .iv _ _ (.ptr _ b (off+j.toNat*sz') (fun k=>u (j.toNat*sz'+k)) (fun k hk=>?_) (fun k z hz=>hxx _ _ _ _ hj hz));have:=hcell (j.toNat*sz'+k) (UX xa (by omega));grind
  cases he
 ·cases hf
theorem QtY {id sz x i} (h:Rel ok0 N w0 lk lo a w L) (hf:QAt P sz x i o.op=true)
  (he:QnD lo id sz (x.av lk) (i.av lk)=.ok s f v up) (hs:s):f/\QC P o ok0 N w0 lk lo a w v up:=by
 unfold QAt at hf;split at hf
 ·rename_i t x' i' ho;simp only[QKI] at hf;obtain ⟨⟨hx,hi⟩,hsz⟩:=hf;obtain ⟨e,ti,hu,hti,hts⟩:=Z8 hsz;have rx:=Opd.rep h hx;have ri:=Opd.rep h hi;generalize x.av lk=xv at rx he;generalize i.av lk=iv at ri he;generalize hey:a.eval x'=yv at rx;unfold QnD at he;split at he
  ·rename_i i n k j;split at he
   ·rename_i hid;subst hid;split at he
    ·rename_i e' sz' es mv hob;cases he;obtain ⟨rfl,h0,xa,hmv,hn⟩:=hs;have hei:=Zy ri
     have fin:∀ b cap v xs,yv=.slice (some ⟨b,0,none⟩) n cap->L i=.arr v xs->(n=es.length->v.ownBlock=some b) ->
       (∀ k,k<n*sz'->(okL ok0 lo L b\/v.ownBlock=some b)/\∃ u,w.cell? ⟨b,k,none⟩=some u/\xs[k]?=some u) ->
       True/\QC P o ok0 N w0 lk lo a w (.yj i n j.toNat 0) none:=by
      intro b cap v xs hyv hL hown hcells;subst hyv;refine ⟨trivial,QC.pure h (u:=.pointer (some ⟨b,0+j.toNat*sz',none⟩)) ?_ ?_⟩
      ·simp only[execOp,ho,hey,hei,Sem.run_bind,QbS hu hti hts b 0 n cap k j h0 xa];rfl
      rw[QKY];exact .yj i n j.toNat 0 e' sz' es mv v xs b hob hL hn fun _=>⟨xa,hown,hcells⟩
     have hor:=h.y9 _ _ hob;cases rx with
     | yl _ e2 sz2 es2 mv2 v2 xs hob2 hL hsl =>
       rw[hob] at hob2;injection hob2 with hob2;injection hob2 with g1 g2 g3 g4;subst g1 g2 g3 g4;rw[hL] at hor;obtain ⟨hown,_,_,_,_⟩:=hor;rcases hown.own.2 with ⟨_,h00⟩ | ⟨g,cap,cur,hv,hB,hg,hnc,hcm,hcs,htake⟩
       ·rw[h00] at xa;omega
       refine fin g cap yv xs hv hL (fun _=>by rw[hv];rfl) (fun k hk=>⟨.inr (by rw[hv];rfl),?_⟩);have hk':k<xs.length:=by rw[hown.own.1];exact hk
       refine ⟨xs[k],?_,QKF hk'⟩;have:=hown.own.cells (g:=g) (by rw[hv];rfl) k xs[k] (QKF hk')
       rwa [addr_add,QKY] at this
     | old _ _ e2 sz2 es2 mv2 v2 _ xs hob2 hL hsl hn2 hv =>
       rw[hob] at hob2;injection hob2 with hob2;injection hob2 with g1 g2 g3 g4;subst g1 g2 g3 g4;grind
    cases he
   cases he
  cases he
 ·cases hf
theorem QtX {x i} (h:Rel ok0 N w0 lk lo a w L) (hf:QEO P x i o.op=true)
  (he:Qqh (x.av lk) (i.av lk)=.ok s f v up) (hs:s):f/\QC P o ok0 N w0 lk lo a w v up:=by
 unfold QEO at hf;split at hf
 ·rename_i t x' i' ho;simp only[QKI] at hf;obtain ⟨⟨hx,hi⟩,ht⟩:=hf;have ht':P.underlying t=some .string:=by
   unfold Vk at ht;split at ht
   ·rename_i e;exact e
   cases ht
  have rx:=Opd.rep h hx;have ri:=Opd.rep h hi;generalize x.av lk=xv at rx he;generalize i.av lk=iv at ri he;unfold Qqh at he;split at he
  ·rename_i st k j;cases he;obtain ⟨h0,xa⟩:=hs;have hxs:=JE rx;have hei:=Zy ri;have hget:(⟨st.toArray⟩:ByteArray)[(j.toNat:Nat)]?=some (st.getD j.toNat 0):=by
    have hlt':j.toNat<(⟨st.toArray⟩:ByteArray).size:=xa;rw[getElem?_pos (⟨st.toArray⟩:ByteArray) j.toNat hlt'];congr 1;show st.toArray[j.toNat]=_;simp[List.getD,xa]
   refine ⟨trivial,QC.pure h (u:=.int .u8 (st.getD j.toNat 0).toNat) ?_ (Zn _ _)⟩;simp only[execOp,ho,hxs,hei,Instr.index,asIntOf,Sem.run_bind,Sem.run_pure,Result.andThen_ok,run_underlying ht',if_pos h0,hget]
  cases he
 ·cases hf
theorem Qfg {st x} (hf:QvV P st x o.op=true):∃ y t,o.op=.call { callee:=.builtin .len,args:=#[y],argTypes:=#[t] }/\x.is y=true /\
  (st=true->P.underlying t=some .string)/\(st=false->∃ e,P.underlying t=some (.slice e)):=by
 unfold QvV at hf;split at hf
 ·rename_i az ts ho;split at hf
  ·rename_i y t has hts;simp only[QKI] at hf;obtain ⟨hx,ht⟩:=hf;have e1:az=#[y]:=by cases az;simp_all
   have e2:ts=#[t]:=by cases ts;simp_all
   refine ⟨y,t,by rw[ho,e1,e2],hx,fun e=>?_,fun e=>?_⟩
   ·subst e;unfold Qpk at ht;grind
   subst e;unfold Qpk at ht;grind
  cases hf
 ·cases hf
theorem QtP {x} (h:Rel ok0 N w0 lk lo a w L) (hf:QvV P true x o.op=true)
  (he:Qqf (x.av lk)=.ok s f v up):f/\QC P o ok0 N w0 lk lo a w v up:=by
 obtain ⟨y,t,ho,hx,ht,_⟩:=Qfg hf;have rx:=Opd.rep h hx;generalize x.av lk=xv at rx he;unfold Qqf at he;split at he
 ·rename_i l;cases he;have hey:=JE rx;have hsz:(⟨l.toArray⟩:ByteArray).size=l.length:=rfl;refine ⟨trivial,QC.pure h (u:=goInt l.length) ?_ (Zn _ _)⟩;simp[execOp,ho,resolve,invoke,builtin,hey,Builtin.len_,run_underlying (ht rfl),hsz]
 ·cases he
theorem Wg {y:Operand} {t e} (ho:o.op=.call { callee:=.builtin .len,args:=#[y],argTypes:=#[t] }) (hu:P.underlying t=some (.slice e)) {ad n c}
  (hy:a.eval y=.slice ad n c):(execOp a.eval o).run P w=.ok (.value (.int .i64 n)) w:=by
 simp[execOp,ho,resolve,invoke,builtin,hy,Builtin.len_,run_underlying hu,goInt]
theorem QtU {x} (h:Rel ok0 N w0 lk lo a w L) (hf:QvV P false x o.op=true)
  (he:Qqg (x.av lk)=.ok s f v up):f/\QC P o ok0 N w0 lk lo a w v up:=by
 obtain ⟨y,t,ho,hx,_,ht⟩:=Qfg hf;obtain ⟨e,hu⟩:=ht rfl;have rx:=Opd.rep h hx;generalize x.av lk=xv at rx he;generalize hey:a.eval y=yv at rx;unfold Qqg at he;split at he
 ·cases he;cases rx with
  | iv _ _ r=>cases r with
    | nils=>exact ⟨by simp[maxLen],QC.pure h (Wg ho hu hey) (Zn _ _)⟩
    | nilz=>exact ⟨by simp[maxLen],QC.pure h (Wg ho hu hey) (Zn _ _)⟩
    | sl _ _ b off cap u hl hc hes hcell hxx=>exact ⟨by omega,QC.pure h (Wg ho hu hey) (Zn _ _)⟩
 ·cases he;cases rx with
  | iv _ _ r=>cases r with
    | bag _ es es' _ hp r =>
      rw[<- hp.length_eq];cases r with
      | nils=>exact ⟨by simp[maxLen],QC.pure h (Wg ho hu hey) (Zn _ _)⟩
      | nilz=>exact ⟨by simp[maxLen],QC.pure h (Wg ho hu hey) (Zn _ _)⟩
      | sl _ _ b off cap u hl hc hes hcell hxx=>exact ⟨by omega,QC.pure h (Wg ho hu hey) (Zn _ _)⟩
 ·cases he
theorem QqC {id x} (h:Rel ok0 N w0 lk lo a w L) (hf:QvV P false x o.op=true)
  (he:Qen lo id (x.av lk)=.ok s f v up) (hs:s):f/\QC P o ok0 N w0 lk lo a w v up:=by
 obtain ⟨y,t,ho,hx,_,ht⟩:=Qfg hf;obtain ⟨e,hu⟩:=ht rfl;have rx:=Opd.rep h hx;generalize x.av lk=xv at rx he;generalize hey:a.eval y=yv at rx;have run:∀ ad n c,yv=.slice ad n c->(execOp a.eval o).run P w=.ok (.value (.int .i64 n)) w:=fun ad n c hyv=>Wg ho hu (hey.trans hyv);unfold Qen at he;split at he
 ·rename_i i n;split at he
  ·rename_i hii;subst hii;split at he
   ·rename_i e' sz' es mv hob;cases he;obtain ⟨hmv,hn⟩:=hs;have hor:=h.y9 _ _ hob;cases rx with
    | yl _ e2 sz2 es2 mv2 v2 xs hob2 hL hsl =>
      rw[hob] at hob2;injection hob2 with hob2;injection hob2 with g1 g2 g3 g4;subst g1 g2 g3 g4;rw[hL] at hor;obtain ⟨hown,_,_,_,_⟩:=hor;rcases hown.own.2 with ⟨hv,h00⟩ | ⟨g,cap,cur,hv,hB,hg,hnc,hcm,hcs,htake⟩
      ·refine ⟨by rw[h00];simp[maxLen],QC.pure h (run none es.length 0 (hv.trans (by rw[h00]))) (Zn _ _)⟩
      exact ⟨by omega,QC.pure h (run _ _ _ hv) (Zn _ _)⟩
    | old _ _ e2 sz2 es2 mv2 v2 _ xs hob2 hL hsl hn2 hv =>
      rw[hob] at hob2;injection hob2 with hob2;injection hob2 with g1 g2 g3 g4;subst g1 g2 g3 g4;rcases hv hmv with ⟨hv,h00⟩ | ⟨b,cap,hv',hnc,hcm,hcells⟩
      ·exact ⟨by rw[h00];simp[maxLen],QC.pure h (run none n 0 (hv.trans (by rw[h00]))) (Zn _ _)⟩
      exact ⟨by omega,QC.pure h (run _ _ _ hv') (Zn _ _)⟩
   cases he
  cases he
 ·cases he
theorem qq {n:Int} {m:Nat} {c:BoundsCode} {v:Value} {k:IntKind} (hv:v=.int k n) (h0:0<=n) (h1:n<=(m:Int)) :
  (Instr.sliceBound v m c).run P w=.ok n.toNat w:=by
 subst hv;simp[Instr.sliceBound,asIntOf,h0,h1]
end
section
variable {P:Program} {ok0:Nat->Prop} {N:Fm} {w0:XH} {lk:Nat->AV} {lo:Nat->Option AO} {a:Act} {w:World} {L:Nat->Lay} {o:Oper}
variable {s f:Prop} {v:AV} {up:Option (Nat × AO)}
theorem Qg1 {d x} {y:Option Operand} {n} (h:Rel ok0 N w0 lk lo a w L) (hxy:Qdf x y=true) (e:Y1 lk d x=some n) :
  (y=none/\n=d)\/∃ z k,y=some z/\a.eval z=.int k n:=by
 cases x with
 | none =>
   cases y with
   | none=>simp only[Y1,Option.some.injEq] at e;exact .inl ⟨rfl,e.symm⟩
   | some z=>simp[Qdf] at hxy
 | some x =>
   cases y with
   | none=>simp[Qdf] at hxy
   | some z =>
     simp only[Qdf] at hxy;have r:=Opd.rep h hxy;simp only[Y1] at e;generalize x.av lk=xv at r e;split at e
     ·rename_i k m;injection e with e;subst e;exact .inr ⟨z,k,rfl,Zy r⟩
     ·cases e
theorem Qeu {isS len cap lo' hi'} {low high:Option Operand} {l h'} (h:Rel ok0 N w0 lk lo a w L)
  (hl:Qdf lo' low=true) (hh:Qdf hi' high=true) (el:Y1 lk 0 lo'=some l) (eh:Y1 lk len hi'=some h')
  (h0:0<=l) (h1:l<=h') (h2:h'<=(len:Int)) (hlc:len<=cap) :
  (Instr.sliceBounds isS len cap (low.map a.eval) (high.map a.eval) none).run P w=.ok (l.toNat,h'.toNat,cap) w:=by
 have hc:h'<=(cap:Int):=by omega
 have hlh:l<=(h'.toNat:Int):=by omega
 rcases Qg1 h hl el with ⟨rfl,rfl⟩ | ⟨z,k,rfl,hz⟩<;>rcases Qg1 h hh eh with ⟨rfl,rfl⟩ | ⟨z',k',rfl,hz'⟩
 ·simp[Instr.sliceBounds]
 ·simp[Instr.sliceBounds,hz',qq (P:=P) (w:=w) (k:=k') rfl (by omega) hc]
 ·have hll:l<=((len:Nat):Int):=h1;simp[Instr.sliceBounds,hz,qq (P:=P) (w:=w) (k:=k) rfl h0 hll]
 ·simp[Instr.sliceBounds,hz,hz',qq (P:=P) (w:=w) (k:=k') rfl (by omega) hc,qq (P:=P) (w:=w) (k:=k) rfl h0 hlh]
theorem QtF {x l h'} (h:Rel ok0 N w0 lk lo a w L) (hf:QEJ P x l h' o.op=true)
  (he:QnA lk l h' (x.av lk)=.ok s f v up) (hs:s):f/\QC P o ok0 N w0 lk lo a w v up:=by
 unfold QEJ at hf;split at hf
 ·rename_i t x' low high ho;simp only[QKI] at hf;obtain ⟨⟨⟨hx,hl⟩,hh⟩,ht⟩:=hf;have ht':P.underlying t=some .string:=by
   unfold Vk at ht;split at ht
   ·rename_i e;exact e
   cases ht
  have rx:=Opd.rep h hx;generalize x.av lk=xv at rx he;unfold QnA at he;split at he
  ·rename_i st;split at he
   ·rename_i ln hn el eh;cases he;obtain ⟨h0,h1,h2⟩:=hs;have hxs:=JE rx;have hb:=Qeu (P:=P) (isS:=false) (cap:=st.length) h hl hh el eh h0 h1 h2 (QKJ _);have hsz:(⟨st.toArray⟩:ByteArray).size=st.length:=rfl;have hex:(⟨st.toArray⟩:ByteArray).extract ln.toNat hn.toNat=⟨((st.take hn.toNat).drop ln.toNat).toArray⟩:=by
     apply ByteArray.ext;rw[ByteArray.data_extract];apply Array.ext';simp[List.drop_take]
    refine ⟨trivial,QC.pure h (u:=.string ⟨((st.take hn.toNat).drop ln.toNat).toArray⟩) ?_ (QeZ _)⟩;simp only[execOp,ho,Instr.sliceAt,Sem.run_bind,run_underlying ht',Result.andThen_ok,hxs,Instr.slice,hsz,Option.map_none,Option.isSome_none,QLi,if_false,Sem.run_pure,hb,hex]
   cases he
  cases he
 ·cases hf
theorem QtG {sz x l h'} (h:Rel ok0 N w0 lk lo a w L) (hf:QEK P sz x l h' o.op=true)
  (he:QnB sz lk l h' (x.av lk)=.ok s f v up) (hs:s):f/\QC P o ok0 N w0 lk lo a w v up:=by
 unfold QEK at hf;split at hf
 ·rename_i t x' low high ho;simp only[QKI] at hf;obtain ⟨⟨⟨hx,hl⟩,hh⟩,ht⟩:=hf;obtain ⟨e,ti,hu,hti,hts⟩:=Z8 ht;have rx:=Opd.rep h hx;generalize x.av lk=xv at rx he;generalize hey:a.eval x'=yv at rx;unfold QnB at he;split at he
  ·rename_i sz' es;split at he
   ·rename_i ln hn el eh;cases he;obtain ⟨rfl,h0,h1,h2⟩:=hs
    have run:∀ ad cap,es.length<=cap->yv=.slice ad es.length cap->(execOp a.eval o).run P w =
      .ok (.value (.slice (if cap=ln.toNat then ad else ad.map (·.add (ln.toNat*sz'))) (hn.toNat-ln.toNat) (cap-ln.toNat))) w:=by
     intro ad cap hc hyv;have hb:=Qeu (P:=P) (isS:=true) (cap:=cap) h hl hh el eh h0 h1 h2 hc;simp only[execOp,ho,Instr.sliceAt,Sem.run_bind,run_underlying hu,Result.andThen_ok,hey,hyv,Instr.slice,Option.map_none,hb,sizeOf,typeInfo,program,Sem.run,hti,Sem.run_pure,hts]
    have hlen:((es.take hn.toNat).drop ln.toNat).length=hn.toNat-ln.toNat:=by simp;omega
    cases rx with
    | iv _ _ r=>cases r with
      | nils =>
        simp only[QK4] at h2;have e1:ln.toNat=0:=by omega
        have e2:hn.toNat=0:=by omega
        have:=run none 0 (by simp) rfl;rw[e1,e2] at this;refine ⟨by simp[maxLen],QC.pure h (u:=.slice none 0 0) (by simpa using this) ?_⟩;rw[e1,e2];exact .iv _ _ (.nils sz')
      | nilz _ a0 =>
        simp only[QK4] at h2;have e1:ln.toNat=0:=by omega
        have e2:hn.toNat=0:=by omega
        have:=run (some a0) 0 (by simp) rfl;rw[e1,e2] at this;refine ⟨by simp[maxLen],QC.pure h (u:=.slice (some a0) 0 0) (by simpa using this) ?_⟩;rw[e1,e2];exact .iv _ _ (.nilz sz' a0)
      | sl _ _ b off cap u hlc hcm hes hcell hxx =>
        refine ⟨by omega,?_⟩;have hr:=run _ cap hlc rfl;by_cases hcl:cap=ln.toNat
        ·rw[if_pos hcl] at hr;have he0:(es.take hn.toNat).drop ln.toNat=[]:=QKR (by rw[hlen];omega);have hn0:hn.toNat-ln.toNat=0:=by omega
         rw[hn0] at hr;refine QC.pure h hr ?_;rw[he0];exact .iv _ _ (.sl sz' [] b off _ u (by simp) (by omega) (by simp) (by simp) (by simp))
        rw[if_neg hcl] at hr;rw[QLO,addr_add] at hr;rw[<- hlen] at hr;refine QC.pure h hr (.iv _ _ (.sl sz' _ b (off+ln.toNat*sz') _ (fun k=>u (ln.toNat*sz'+k)) ?_ (by omega) (fun c hc=>hes c (QLw (QLT hc))) (fun k hk=>?_) (fun i j c z hi hj=>?_)))
        ·rw[hlen];omega
        ·rw[hlen] at hk;have hb:ln.toNat*sz'+k<es.length*sz':=by
          have h3:(ln.toNat+(hn.toNat-ln.toNat))*sz'<=es.length*sz':=QLc sz' (by omega);rw[QLl] at h3;omega
         grind
        grind
   cases he
  cases he
 ·cases hf
end
section
variable {P:Program} {ok0:Nat->Prop} {N:Fm} {w0:XH} {lk:Nat->AV} {lo:Nat->Option AO} {a:Act} {w:World} {L:Nat->Lay} {o:Oper}
variable {s f:Prop} {v:AV} {up:Option (Nat × AO)}
theorem Qt3 {x} (h:Rel ok0 N w0 lk lo a w L) (hf:QEQ P x o.op=true)
  (he:Qqj (x.av lk)=.ok s f v up) (hs:s):f/\QC P o ok0 N w0 lk lo a w v up:=by
 unfold QEQ at hf;split at hf
 ·rename_i sT d y ho;simp only[QKI] at hf;obtain ⟨⟨hx,hsm⟩,hd⟩:=hf;have hd':P.underlying d=some .string:=by
   unfold Vk at hd;split at hd
   ·rename_i hk;exact hk
   cases hd
  have rx:=Opd.rep h hx;generalize x.av lk=xv at rx he;unfold Qqj at he;split at he
  ·rename_i k n;cases he;have hx:=Zy rx;refine ⟨trivial,QC.pure h (u:=.string ⟨[UInt8.ofNat n.toNat].toArray⟩) ?_ (QeZ _)⟩;obtain ⟨ds,hds⟩:=QLf.1 hsm;have hval:Utf8.valid n=true:=by simp[Utf8.valid];omega
   have xa:n.toNat<0x80:=by omega
   have henc:Utf8.encode n=⟨#[UInt8.ofNat n.toNat]⟩:=by simp[Utf8.encode,hval,xa]
   simp[execOp,ho,hx,convert,run_underlying hds,run_underlying hd',Conv.intToString,henc]
  cases he
 ·cases hf
theorem QB (w ob):Below w.heap.size w (w.alloc ob):=(Below.refl _ _).alloc (QKJ _) ob
theorem Yr (w:World) (vs:List Value) (t:TypeId) (k:Nat) (u:Value) (h:vs[k]?=some u):(w.alloc (.cells vs.toArray t)).cell? ⟨w.heap.size,k,none⟩=some u:=by
 rw[cell_of_row _ _ _ _ t (0,0) (heap_alloc_new w _)];simpa using h
theorem Wk {ok:Nat->Prop} {lo:Nat->Option AO} {L:Nat->Lay} {cs:List AV} {xs:List IV} {vs:List Value} (hc:ivs cs=some xs) (hl:vs.length=cs.length)
  (hx:∀ (k:Nat) (x:AV) (u:Value),cs[k]?=some x->vs[k]?=some u->QA ok w lo L x u) :
  vs.length=xs.length/\∀ (k:Nat) (x:IV) (u:Value),xs[k]?=some x->vs[k]?=some u->QF ok w x u:=by
 have:=W2 hc;subst this;refine ⟨by simpa using hl,fun k x u h1 h2=>?_⟩;have:=hx k (.iv x) u (by simp[h1]) h2;cases this;assumption
theorem QqG {x:Opd} (h:Rel ok0 N w0 lk lo a w L) (hok0:∀ b,¬ w0.fr b->ok0 b) (hf:QAu x o.op=true)
  (he:QhH (x.av lk)=.ok s f v up):f/\QC P o ok0 N w0 lk lo a w v up:=by
 unfold QAu at hf;split at hf
 ·rename_i t y ho;have rx:=Opd.rep h hf;generalize x.av lk=xv at rx he;generalize hey:a.eval y=yv at rx;unfold QhH at he;split at he
  ·rename_i cs hcs;split at he
   ·rename_i xs hxs;cases he;obtain ⟨vs,hv,hl,h1,hx⟩:=Qb2 rx hcs;obtain ⟨hl2,hx2⟩:=Wk hxs hl hx;have hrel:=h.ext (QB w (.cells vs.toArray t));refine ⟨trivial,_,.pointer (some ⟨w.heap.size,0,none⟩),_,L,?_,.inl rfl,hrel,?_⟩
    ·simp only[execOp,ho,hey,Instr.box,newVar,newRow,newObj,Sem.run_bind,hv,Sem.run,Result.andThen_ok,Sem.run_pure];rfl
    have hnew:okL ok0 lo L w.heap.size:=⟨hok0 _ (h.frlt (QKJ _)),fun id ob hob hb=>by
     have:=((h.y9 id ob hob).lt hb).2;omega⟩
    refine .iv _ _ (.ptr xs w.heap.size 0 (fun k=>vs.getD k undef) (fun k hk=>?_) (fun k z hz=>?_))
    ·have hk':k<vs.length:=by omega
     refine ⟨hnew,?_,h1 _ ?_⟩
     ·rw[QKY]
      exact Yr w vs t k _ (getD_some hk')
     exact QKW (getD_some (d:=undef) hk')
    have hk:k<vs.length:=by rw[hl2];exact (QKG.1 hz).1
    refine (hx2 k z _ hz (getD_some hk)).mono fun b hb xa=>⟨hb,(QB w _).block b xa⟩
   cases he
  cases he
 ·cases hf
theorem Rel.newBox {id:Nat} {cs:List AV} {vs:List Value} {t:TypeId} (h:Rel ok0 N w0 lk lo a w L) (hid:lo id=none) (hl:vs.length=cs.length) (h1:∀ u∈vs,u.oneCell'=true)
  (hx:∀ (k:Nat) (x:AV) (u:Value),cs[k]?=some x->vs[k]?=some u->QA (okL ok0 lo L) w lo L x u) :
  Rel ok0 N w0 lk (Za lo id (.box cs)) a (w.alloc (.cells vs.toArray t)) (QV L id (.box w.heap.size)):=by
 have hb:=QB w (.cells vs.toArray t);have hok:∀ b,okL ok0 lo L b->b<w.heap.size->okL ok0 (Za lo id (.box cs)) (QV L id (.box w.heap.size)) b:=by
  grind
 refine h.new id hid _ _ hb (fun b hb=>by simp only[Lay.has] at hb;omega) ?_;refine ⟨h.frlt (QKJ _),t,vs,heap_alloc_new w _,hl,h1,fun k x u h2 h3=>(hx k x u h2 h3).ext hok hb.block fun i o' hi=>?_⟩;grind
theorem QqF {id:Nat} {x:Opd} (h:Rel ok0 N w0 lk lo a w L) (hf:QAu x o.op=true)
  (he:Qeo lo id (x.av lk)=.ok s f v up):f/\QC P o ok0 N w0 lk lo a w v up:=by
 unfold QAu at hf;split at hf
 ·rename_i t y ho;have rx:=Opd.rep h hf;generalize x.av lk=xv at rx he;generalize hey:a.eval y=yv at rx;unfold Qeo at he;split at he
  ·rename_i cs hcs hid;cases he;obtain ⟨vs,hv,hl,h1,hx⟩:=Qb2 rx hcs;refine ⟨trivial,_,.pointer (some ⟨w.heap.size,0,none⟩),_,_,?_,.inl rfl,h.newBox (t:=t) hid hl h1 hx,?_⟩
   ·simp only[execOp,ho,hey,Instr.box,newVar,newRow,newObj,Sem.run_bind,hv,Sem.run,Result.andThen_ok,Sem.run_pure];rfl
   exact .loc id 0 cs w.heap.size (by simp[upO,Za]) (by simp[QV])
  cases he
 ·cases hf
theorem Z3 {ok lk}:∀ {zs vs},J7 zs vs=true->vs.length=(zs.map (·.av lk)).length /\
  ∀ (k:Nat) (x:AV) (u:Value),(zs.map (·.av lk))[k]?=some x->vs[k]?=some u->QA ok w lo L x u/\u.oneCell'=true
 | [],[],_=>by simp
 | x::r,v::s,h=>by
   simp only[J7,QKI] at h;obtain ⟨h1,h2⟩:=Z3 (ok:=ok) (lk:=lk) h.2;refine ⟨by simpa using h1,fun k y u hy hu=>?_⟩;cases k with
   | zero =>
     simp at hy hu;subst hy hu;refine ⟨Opd.repVal h.1,?_⟩;have:=h.1;unfold Opd.isVal at this;cases v<;>first | rfl | (cases x<;>simp[isI,isB,isS,isN,isP,isM,QEn] at this)
   | succ k=>exact h2 k y u (by simpa using hy) (by simpa using hu)
 | [],_::_,h=>by simp[J7] at h
 | _::_,[],h=>by simp[J7] at h
theorem YV {t zs} (h:Program.zeroIs P t zs=true):∃ i z,P.info? t=some i/\i.zero=some z/\J7 zs z.cells.toList=true/\i.size=zs.length:=by
 unfold Program.zeroIs at h;grind
theorem Qui {id:Nat} {zs:List Opd} (h:Rel ok0 N w0 lk lo a w L) (hid:lo id=none) (hf:QEX P zs o.op=true) :
  QC P o ok0 N w0 lk lo a w (.loc id 0) (some (id,.box (zs.map (·.av lk)))):=by
 unfold QEX at hf;split at hf
 ·rename_i t ho;obtain ⟨i,z,hi,hz,hzs,_⟩:=YV hf;obtain ⟨hl,hx⟩:=Z3 (w:=w) (lo:=lo) (L:=L) (ok:=okL ok0 lo L) (lk:=lk) hzs;have h1:∀ u∈z.cells.toList,u.oneCell'=true:=by
   intro u hu;obtain ⟨k,hk,rfl⟩:=QLh hu;have hk2:k<(zs.map (·.av lk)).length:=by omega
   exact (hx k _ _ (QKF hk2) (QKF hk)).2
  refine ⟨_,.pointer (some ⟨w.heap.size,0,none⟩),_,_,?_,.inl rfl,h.newBox (t:=t) hid hl h1 (fun k x u h2 h3=>(hx k x u h2 h3).1),?_⟩
  ·simp only[execOp,ho,Instr.alloc,zeroValue,typeInfo,program,Sem.run_bind,Sem.run,hi,hz,Result.andThen_ok,Sem.run_pure,newVar,newRow,newObj,Array.toArray_toList];rfl
  exact .loc id 0 (zs.map (·.av lk)) w.heap.size (by simp[upO,Za]) (by simp[QV])
 ·cases hf
theorem Qqv {id e sz} (h:Rel ok0 N w0 lk lo a w L) (hid:lo id=none) (hf:QEM o.op=true) :
  QC P o ok0 N w0 lk lo a w (.yl id 0) (some (id,.arr e sz [] 0)):=by
 have fin:∀ y,Opd.is (.nil 0) y=true->(execOp a.eval o).run P w=.ok (.value (a.eval y)) w->QC P o ok0 N w0 lk lo a w (.yl id 0) (some (id,.arr e sz [] 0)):=by
  intro y hy hr;have hv:a.eval y=.slice none 0 0:=by
   cases y with
   | tmp m=>simp[Opd.is,Opd.isTmp] at hy
   | const c =>
     simp only[Opd.is,Opd.isVal] at hy;unfold isN at hy;split at hy
     ·simp only[QKI,beq_iff_eq] at hy;rw[hy.1,hy.2];rfl
     cases hy
   | global g=>simp[Opd.is] at hy
   | func g=>simp[Opd.is,Opd.isFn] at hy
  refine ⟨_,.slice none 0 0,w,QV L id (.arr (.slice none 0 0) []),(hv▸hr),.inl rfl,?_,?_⟩
  ·exact h.new id hid _ _ (Below.refl _ _) (by simp[Lay.has,Value.ownBlock]) ⟨⟨World.ownsRow_nil w _ e sz,by simp[Value.ownBlock]⟩,QLV _,by simp,by simp,by simp⟩
  exact .yl id e sz [] 0 _ [] (by simp[upO,Za]) (by simp[QV]) rfl
 unfold QEM at hf;split at hf
 ·rename_i y ho;exact fin y hf (by simp[execOp,ho])
 ·rename_i y ho;exact fin y hf (by simp[execOp,ho])
 ·cases hf
end
theorem JN {α} (l vs:List α) (o k) (h:o+vs.length<=l.length) :
  (l.take o++vs++l.drop (o+vs.length))[k]?=if k<o then l[k]? else if k<o+vs.length then vs[k-o]? else l[k]?:=by
 grind
theorem YS {α} (l vs:List α) (o) (h:o+vs.length<=l.length):(l.take o++vs++l.drop (o+vs.length)).length=l.length:=by
 simp;omega
theorem QcH (off:Nat):∀ (vs:List Value) (i:Nat) (cur:Array Value),off+i+vs.length<=cur.size ->
  ((vs.zipIdx i).foldl (fun cs p=>cs.setIfInBounds (off+p.2) p.1) cur)=(cur.toList.take (off+i)++vs++cur.toList.drop (off+i+vs.length)).toArray
 | [],i,cur,_=>by simp
 | v::r,i,cur,h=>by
   simp only[List.zipIdx_cons,QLH];rw[QcH off r (i+1) (cur.setIfInBounds (off+i) v) (by simp at h |-;omega)];congr 1;have e:=list_seg_step cur.toList (off+i) v r (by simp at h |-;omega);simpa[Array.toList_setIfInBounds,QLI] using e
section
variable {P:Program} {ok0:Nat->Prop} {N:Fm} {w0:XH} {lk:Nat->AV} {lo:Nat->Option AO} {a:Act} {w:World} {L:Nat->Lay} {o:Oper}
variable {s f:Prop} {v:AV} {up:Option (Nat × AO)}
def Qv9 (ok:Nat->Prop) (w:World) (lo:Nat->Option AO) (L:Nat->Lay) (cs:List AV) (vs:List Value):Prop :=
 vs.length=cs.length/\(∀ u∈vs,u.oneCell'=true)/\∀ (k:Nat) (x:AV) (u:Value),cs[k]?=some x->vs[k]?=some u->QA ok w lo L x u
theorem Qv9.splice {ok cs ds vs us} (h:Qv9 ok w lo L cs vs) (h':Qv9 ok w lo L ds us) {o} (ho:o+ds.length<=cs.length) :
  Qv9 ok w lo L (cs.take o++ds++cs.drop (o+ds.length)) (vs.take o++us++vs.drop (o+us.length)):=by
 obtain ⟨h1,h2,h3⟩:=h;obtain ⟨h4,h5,h6⟩:=h';refine ⟨?_,?_,fun k x u hx hu=>?_⟩
 all_goals grind
theorem Uy {ok x v cs} (h:QA ok w lo L x v) (hc:x.cells=some cs):∃ vs,v.cells=vs.toArray/\Qv9 ok w lo L cs vs:=by
 obtain ⟨vs,h1,h2,h3,h4⟩:=Qb2 h hc;exact ⟨vs,h1,h2,h3,h4⟩
theorem QcI (h:Rel ok0 N w0 lk lo a w L) (place:Nat->Option (Nat × Nat)):∀ (parts:List (Nat × Nat × Opd)) (ps:List (Nat × Operand)) (cs cs':List AV) (cur:List Value),
  Vc place parts ps=true->QjK cs (parts.map fun (o,s,x)=>(o,s,x.av lk))=some cs'->Qv9 (okL ok0 lo L) w lo L cs cur ->
  ∃ cur',Instr.fill place cur.toArray (ps.map fun (i,x)=>(i,a.eval x))=some (List.toArray cur')/\Qv9 (okL ok0 lo L) w lo L cs' cur'
 | [],[],cs,cs',cur,_,hf,hr=>by
   simp[QjK] at hf;subst hf;exact ⟨cur,by simp[Instr.fill],hr⟩
 | (off,sz,x)::r,(i,y)::t,cs,cs',cur,hp,hf,hr=>by
   simp only[Vc,QKI] at hp;obtain ⟨⟨hpl,hx⟩,hp⟩:=hp;split at hpl
   ·rename_i o z hpi;simp only[QKI,beq_iff_eq] at hpl;obtain ⟨rfl,rfl⟩:=hpl;simp only[QKZ,QjK] at hf;split at hf
    ·rename_i vs hvs;split at hf
     ·rename_i hc;obtain ⟨rfl,hfit⟩:=hc;obtain ⟨us,hus,hru⟩:=Uy (Opd.rep h hx) hvs;obtain ⟨cur',h1,h2⟩:=QcI h place r t _ cs' _ hp hf (hr.splice hru hfit);refine ⟨cur',?_,h2⟩;have hsz:us.length=vs.length:=hru.1;have hcl:cur.length=cs.length:=hr.1;simp only[QKZ,Instr.fill,hpi,hus,QLK,hsz,ne_eq,not_true_eq_false,decide_false,Bool.false_or,gt_iff_lt,decide_eq_true_eq];rw[if_neg (by omega),<- h1];congr 1;have:=QcH o us 0 cur.toArray (by simp;omega);simp only[QLX] at this;rw[<- this];simp
     cases hf
    cases hf
   cases hpl
 | [],_::_,_,_,_,hp,_,_=>by simp[Vc] at hp
 | _::_,[],_,_,_,hp,_,_=>by simp[Vc] at hp
theorem Quc {zs parts cs} (h:Rel ok0 N w0 lk lo a w L) (hf:QEU P zs parts o.op=true)
  (he:QjK (zs.map (·.av lk)) (parts.map fun (o,s,x)=>(o,s,x.av lk))=some cs):QC P o ok0 N w0 lk lo a w (QaT cs) none:=by
 unfold QEU at hf;split at hf
 ·rename_i t ps ho;simp only[QKI] at hf;obtain ⟨hz,hb⟩:=hf;obtain ⟨i,z,hi,hzz,hzs,_⟩:=YV hz;obtain ⟨hl,hx⟩:=Z3 (w:=w) (lo:=lo) (L:=L) (ok:=okL ok0 lo L) (lk:=lk) hzs;have h1:∀ u∈z.cells.toList,u.oneCell'=true:=by
   intro u hu;obtain ⟨k,hk,rfl⟩:=QLh hu;have hk2:k<(zs.map (·.av lk)).length:=by omega
   exact (hx k _ _ (QKF hk2) (QKF hk)).2
  unfold QrB QlK at hb;split at hb
  ·rename_i places hpl;split at hpl
   ·rename_i fields hu;obtain ⟨cur',h2,h3⟩:=QcI h _ parts ps.toList _ cs z.cells.toList hb he ⟨hl,h1,fun k x u a b=>(hx k x u a b).1⟩;have hbuilt:P.built t (ps.toList.map fun (i,x)=>(i,a.eval x))=some cur'.toArray:=by
     unfold Program.built;simp only[hi,hu,hzz,hpl];simpa using h2
    have hrun:=run_build (P:=P) w t (ps.map fun (i,x)=>(i,a.eval x)) cur'.toArray (by simpa using hbuilt);exact QC.pure h (u:=.agg cur'.toArray) (by simp only[execOp,ho,Sem.run_bind,hrun,Result.andThen_ok,Sem.run_pure]) (VW h3.1 h3.2.1 h3.2.2)
   cases hpl
  split at hb
  ·rename_i n e hu;split at hb
   ·rename_i ie hie;obtain ⟨cur',h2,h3⟩:=QcI h _ parts ps.toList _ cs z.cells.toList hb he ⟨hl,h1,fun k x u a b=>(hx k x u a b).1⟩;have hbuilt:P.built t (ps.toList.map fun (i,x)=>(i,a.eval x))=some cur'.toArray:=by
     unfold Program.built;simp only[hi,hu,hzz,hie];simpa using h2
    have hrun:=run_build (P:=P) w t (ps.map fun (i,x)=>(i,a.eval x)) cur'.toArray (by simpa using hbuilt);exact QC.pure h (u:=.agg cur'.toArray) (by simp only[execOp,ho,Sem.run_bind,hrun,Result.andThen_ok,Sem.run_pure]) (VW h3.1 h3.2.1 h3.2.2)
   cases hb
  cases hb
 ·cases hf
theorem Qba (h:Rel ok0 N w0 lk lo a w L) (sz:Nat):∀ (parts:List Opd) (ps:List (Nat × Operand)) (k:Nat) (rows:List (List AV)) (done rest:List Value),
  WJ k parts ps=true->Xp sz (parts.map (·.av lk))=some rows->done.length=k*sz->rest.length=parts.length*sz ->
  ∃ news,Instr.fill (fun i=>some (i*sz,sz)) (done++rest).toArray (ps.map fun (i,x)=>(i,a.eval x))=some (List.toArray (done++news))/\news=(ps.map fun p=>(a.eval p.2).cells.toList).flatten/\news.length=parts.length*sz /\
   (∀ u∈news,u.oneCell'=true)/\rows.length=parts.length/\(∀ c∈rows,c.length=sz) /\
   ∀ (i j:Nat) (c:List AV) (x:AV) (u:Value),rows[i]?=some c->c[j]?=some x->news[i*sz+j]?=some u->QA (okL ok0 lo L) w lo L x u
 | [],[],k,rows,done,rest,_,hr,_,hl=>by
   simp[Xp] at hr;subst hr;have:rest=[]:=QKR (by simpa using hl);subst this;exact ⟨[],by simp[Instr.fill],by simp,by simp,by simp,rfl,by simp,by simp⟩
 | x::r,(i,y)::t,k,rows,done,rest,hs,hr,hd,hl=>by
   simp only[WJ,QKI,beq_iff_eq] at hs;obtain ⟨⟨rfl,hx⟩,hs⟩:=hs;simp only[QKZ,Xp] at hr;split at hr
   ·rename_i c cs hc hcs;split at hr
    ·rename_i hcl;injection hr with hr;subst hr;obtain ⟨us,hus,hru⟩:=Uy (Opd.rep h hx) hc;have hul:us.length=sz:=hru.1.trans hcl;have hrl:rest.length=sz+r.length*sz:=by rw[hl,QKV,QLl];omega
     have hdu:(done++us).length=(i+1)*sz:=by simp[hd,hul,QLl]
     obtain ⟨news,h1,hn,h2,h3,h4,h5,h6⟩:=Qba h sz r t (i+1) cs (done++us) (rest.drop sz) hs hcs hdu (by simp[hrl]);refine ⟨us++news,?_,by simp[hus,hn],by rw[QKP,h2,hul,QKV,QLl];omega,?_,by simp[h4],?_,?_⟩
     ·simp only[QKZ,Instr.fill,hus,QLK,hul,ne_eq,not_true_eq_false,decide_false,Bool.false_or,gt_iff_lt,decide_eq_true_eq];rw[if_neg (by simp[hd,hrl];try omega)]
      rw[<- QK8,<- h1]
      congr 1;have:=QcH (i*sz) us 0 (done++rest).toArray (by simp[hd,hrl,hul]);simp only[QLX] at this;have e1:(done++rest).toArray.toList.take (i*sz)=done:=by simp[<- hd]
      have e2:(done++rest).toArray.toList.drop (i*sz+us.length)=rest.drop sz:=by
       rw[hul,<- hd,List.drop_append];simp
      rw[e1,e2] at this;rw[<- this];simp
     ·intro u hu;rcases QK2.1 hu with hu | hu
      ·exact hru.2.1 u hu
      exact h3 u hu
     ·grind
     intro i' j c' z u hi hj hu;cases i' with
     | zero =>
       simp only[List.getElem?_cons_zero,Option.some.injEq] at hi;subst hi;have hjl:j<us.length:=by rw[hul,<- hcl];exact (QKG.1 hj).1
       rw[Nat.zero_mul,QKY,QKS hjl] at hu;exact hru.2.2 j z u hj hu
     | succ i' =>
       simp only[List.getElem?_cons_succ] at hi;rw[QKO (by rw[hul,QLl];omega)] at hu;refine h6 i' j c' z u hi hj ?_;grind
    cases hr
   cases hr
 | [],_::_,_,_,_,_,hs,_,_,_=>by simp[WJ] at hs
 | _::_,[],_,_,_,_,hs,_,_,_=>by simp[WJ] at hs
theorem Qdc {t e:TypeId} {i:TypeInfo} {sz:Nat} (hu:P.underlying t=some (.slice e)) (hi:P.info? e=some i) (hs:i.size=sz) (hz:i.zero.isSome=true)
  (n:Nat) (hn:n*sz<=65536) (parts:Array (Nat × Value)) (cells:Array Value)
  (hfill:∀ zs:List Value,zs.length=n*sz->Instr.fill (fun i=>some (i*sz,sz)) zs.toArray parts.toList=some cells) :
  (Instr.buildSlice t n parts).run P w=.ok (.slice (some ⟨w.heap.size,0,none⟩) n n) (w.alloc (.cells cells e)):=by
 obtain ⟨z,hz⟩:=QLf.1 hz;have hbig:¬ (n*sz>2 ^ 24):=by omega
 have key:∀ zero:Array Value,Instr.fill (fun i=>some (i*sz,sz)) ((Array.range (n*sz)).map (zero[· % zero.size]!)) parts.toList=some cells:=by
  intro zero;have:=hfill ((Array.range (n*sz)).map (zero[· % zero.size]!)).toList (by simp)
  rwa [Array.toArray_toList] at this
 simp only[Instr.buildSlice,Sem.run_bind,run_underlying hu,Result.andThen_ok,sizeOf,typeInfo,program,Sem.run,hi,Sem.run_pure,hs,if_neg hbig,zeroValue];by_cases h0:n*sz=0
 ·simp only[if_pos h0,Sem.run_bind,Sem.run_pure,Result.andThen_ok,key,newRow,newObj,Sem.run];rfl
 ·simp only[if_neg h0,Sem.run_bind,Sem.run_pure,Result.andThen_ok,key,newRow,newObj,Sem.run,hi,hz];rfl
end
section
variable {P:Program} {ok0:Nat->Prop} {N:Fm} {w0:XH} {lk:Nat->AV} {lo:Nat->Option AO} {a:Act} {w:World} {L:Nat->Lay} {o:Oper}
variable {s f:Prop} {v:AV} {up:Option (Nat × AO)}
theorem JY:∀ {rows es},Qd5 rows=some es->rows=es.map (·.map .iv)
 | [],es,h=>by simp[Qd5] at h;subst h;rfl
 | x::r,es,h=>by
   simp only[Qd5] at h;split at h
   ·rename_i y ys h1 h2;injection h with h;subst h;simp[W2 h1,JY h2]
   ·cases h
theorem Vt {t e} (h:Qbn P t=true) (hu:P.underlying t=some (.slice e)) {i:TypeInfo} (hi:P.info? e=some i):i.zero.isSome=true:=by
 unfold Qbn at h;rw[hu] at h;simp only[Qpj,hi] at h;exact h
theorem Qlf {sz:Nat} {parts:List Opd} {t e:TypeId} {i:TypeInfo} {n:Nat} {ps:Array (Nat × Operand)} {rows:List (List AV)} (h:Rel ok0 N w0 lk lo a w L)
  (ho:o.op=.buildSlice t n ps) (hn:n=parts.length) (hsq:WJ 0 parts ps.toList=true) (hu:P.underlying t=some (.slice e)) (hi:P.info? e=some i) (hs:i.size=sz)
  (hz:i.zero.isSome=true) (hb:parts.length*sz<=65536) (hr:Xp sz (parts.map (·.av lk))=some rows) :
  ∃ news:List Value,(execOp a.eval o).run P w=.ok (.value (.slice (some ⟨w.heap.size,0,none⟩) parts.length parts.length)) (w.alloc (.cells news.toArray e))/\news.length=parts.length*sz /\
   (∀ u∈news,u.oneCell'=true)/\rows.length=parts.length/\(∀ c∈rows,c.length=sz) /\
   ∀ (i j:Nat) (c:List AV) (x:AV) (u:Value),rows[i]?=some c->c[j]?=some x->news[i*sz+j]?=some u->QA (okL ok0 lo L) w lo L x u:=by
 subst hn;obtain ⟨news,_,h1,h2,h3,h4,h5,h6⟩:=Qba h sz parts ps.toList 0 rows [] (List.replicate (parts.length*sz) undef) hsq hr (by simp) (by simp);refine ⟨news,?_,h2,h3,h4,h5,h6⟩
 have:=Qdc (w:=w) hu hi hs hz parts.length hb (ps.map fun (i,x)=>(i,a.eval x)) news.toArray (fun zs hzs=>by
  obtain ⟨news',h1',h2',_⟩:=Qba h sz parts ps.toList 0 rows [] zs hsq hr (by simp) hzs;rw[QLm] at h1';have e:news'=news:=h2'.trans h1.symm;rw[QLm,e] at h1';simpa using h1')
 simp only[execOp,ho,Sem.run_bind,this,Result.andThen_ok,Sem.run_pure]
theorem Qub {sz parts rows es} (h:Rel ok0 N w0 lk lo a w L) (hok0:∀ b,¬ w0.fr b->ok0 b) (hf:QCm P sz parts o.op=true)
  (hr:Xp sz (parts.map (·.av lk))=some rows) (hes:Qd5 rows=some es):QC P o ok0 N w0 lk lo a w (.iv (.sl sz es)) none:=by
 unfold QCm at hf;split at hf
 ·rename_i t n ps ho;simp only[QKI,beq_iff_eq,decide_eq_true_eq] at hf;obtain ⟨⟨⟨⟨⟨hn,hsq⟩,hsz⟩,hez⟩,hb⟩,hpl⟩:=hf;obtain ⟨e,i,hu,hi,hs⟩:=Z8 hsz;obtain ⟨news,hrun,hnl,h1,hrl,hrs,hx⟩:=Qlf h ho hn hsq hu hi hs (Vt hez hu hi) hb hr;have hrel:=h.ext (QB w (.cells news.toArray e));have hrows:=JY hes;have hel:es.length=parts.length:=by rw[<- hrl,hrows];simp
  refine ⟨_,_,_,L,hrun,.inl rfl,hrel,?_⟩
  have hnew:okL ok0 lo L w.heap.size:=⟨hok0 _ (h.frlt (QKJ _)),fun id ob hob hb=>by
   have:=((h.y9 id ob hob).lt hb).2;omega⟩
  rw[<- hel];refine .iv _ _ (.sl sz es w.heap.size 0 es.length (fun k=>news.getD k undef) (QKJ _) (by simp only[maxLen];omega) (fun c hc=>?_) (fun k hk=>?_) (fun i j c z hi hj=>?_))
  ·have:=hrs (c.map .iv) (by rw[hrows];exact QMd hc);simpa using this
  ·have hk':k<news.length:=by rw[hnl,<- hel];exact hk
   refine ⟨hnew,?_,h1 _ (QKW (getD_some (d:=undef) hk'))⟩;rw[QKY];exact Yr w news e k _ (getD_some hk')
  have hil:i<es.length:=(QKG.1 hi).1;have hcl:c.length=sz:=by
   have:=hrs (c.map .iv) (by rw[hrows];exact QMd (QKW hi));simpa using this
  have hjl:j<sz:=by rw[<- hcl];exact (QKG.1 hj).1
  have hk':i*sz+j<news.length:=by rw[hnl,<- hel];exact UX hil hjl
  have:=hx i j (c.map .iv) (.iv z) _ (by rw[hrows];simp[hi]) (by simp[hj]) (getD_some (d:=undef) hk');cases this with
  | iv _ _ r=>exact r.mono fun b hb xa=>⟨hb,(QB w _).block b xa⟩
 ·cases hf
theorem Qaq {t e sz} (h:Program.sliceOf P t e sz=true):∃ i,P.underlying t=some (.slice e)/\P.info? e=some i/\i.size=sz:=by
 unfold Program.sliceOf Program.sizeIs at h;grind
theorem Qua {id:Nat} {e:TypeId} {sz:Nat} {parts:List Opd} {rows:List (List AV)} (h:Rel ok0 N w0 lk lo a w L) (hid:lo id=none) (hf:QET P e sz parts o.op=true)
  (hr:Xp sz (parts.map (·.av lk))=some rows):QC P o ok0 N w0 lk lo a w (.yl id parts.length) (some (id,.arr e sz rows 0)):=by
 unfold QET at hf;split at hf
 ·rename_i t n ps ho;simp only[QKI,beq_iff_eq,decide_eq_true_eq] at hf;obtain ⟨⟨⟨⟨⟨hn,hsq⟩,hsz⟩,hez⟩,hb⟩,hpl⟩:=hf;obtain ⟨i,hu,hi,hs⟩:=Qaq hsz;obtain ⟨news,hrun,hnl,h1,hrl,hrs,hx⟩:=Qlf h ho hn hsq hu hi hs (Vt hez hu hi) hb hr;have hbel:=QB w (.cells news.toArray e);have hok:∀ b,okL ok0 lo L b->b<w.heap.size->okL ok0 (Za lo id (.arr e sz rows 0)) (QV L id (.arr (.slice (some ⟨w.heap.size,0,none⟩) parts.length parts.length) news)) b:=by
   intro b hb xa;refine ⟨hb.1,fun i o' hi he=>?_⟩;by_cases hii:i=id
   ·subst hii;simp only[QV,if_true,Lay.has,Value.ownBlock,Option.some.injEq] at he;omega
   grind
  refine ⟨_,_,_,QV L id (.arr (.slice (some ⟨w.heap.size,0,none⟩) parts.length parts.length) news),hrun,.inl rfl,?_,?_⟩
  ·refine h.new id hid _ _ hbel (fun b hb=>by simp only[Lay.has,Value.ownBlock,Option.some.injEq] at hb;omega) ?_;refine ⟨⟨⟨by rw[hrl];exact hnl,.inr ⟨w.heap.size,parts.length,news.toArray,by rw[hrl],QLV _,heap_alloc_new w _,by omega,by simp only[maxLen];omega,by simpa using hnl,?_⟩⟩,fun b hb=>by simp only[Value.ownBlock,Option.some.injEq] at hb;exact h.frlt (by omega)⟩,QLV _,hrs,h1,fun i j c x u h2 h3 h4=>?_⟩
   ·rw[hrl,<- hnl]
    simp
   refine (hx i j c x u h2 h3 h4).ext hok hbel.block fun i o' hi=>?_;grind
  rw[<- hrl];exact .yl id e sz rows 0 _ news (by simp[upO,Za]) (by simp[QV]) rfl
 ·cases hf
end
theorem QbP (lo id o):Za lo id o id=some o:=by simp[Za]
theorem QbQ (L id l):QV L id l id=l:=by simp[QV]
theorem Yp (w:World) (b:Nat) (cs:Array Value):w.grownBy (w.setRow b cs) (some b) :=
 ⟨rfl,rfl,rfl,by simp[World.setRow],fun k _ hne=>setRow_other w b k cs (by simpa using hne)⟩
section
variable {P:Program} {ok0:Nat->Prop} {N:Fm} {w0:XH} {lk:Nat->AV} {lo:Nat->Option AO} {a:Act} {w:World} {L:Nat->Lay} {o:Oper}
variable {s f:Prop} {v:AV} {up:Option (Nat × AO)}
theorem QtE {id n:Nat} {x y:Opd} (h:Rel ok0 N w0 lk lo a w L) (hf:QEI P n x y o.op=true)
  (he:Qnz lo id n (y.av lk) (x.av lk)=.ok s f v up) (hs:s):f/\QC P o ok0 N w0 lk lo a w v up:=by
 unfold QEI at hf;split at hf
 ·rename_i t x' y' ho;simp only[QKI] at hf;obtain ⟨⟨hx,hy⟩,hn⟩:=hf;have rx:=Opd.rep h hx;have ry:=Opd.rep h hy;generalize x.av lk=xv at rx he;generalize y.av lk=yv at ry he;generalize hey:a.eval x'=pv at rx;unfold Qnz at he;split at he
  ·rename_i i off;split at he
   ·rename_i hii;subst hii;split at he
    ·rename_i cs vs hcs hvs;cases he;obtain ⟨hvl,hfit⟩:=hs;obtain ⟨us,hus,hru⟩:=Uy ry hvs;have hob:=h.y9 _ _ hcs;cases rx with
     | loc _ _ cs' b hob' hL =>
       rw[hcs] at hob';injection hob' with hob';injection hob' with hob';subst hob';rw[hL] at hob;obtain ⟨hB,ty,cur,hb,hl,h1,hxx⟩:=hob;have hul:us.length=n:=by rw[hru.1];exact hvl
       have hst:=Qau (w:=w) hn b off (a.eval y') us cur hus hul hb (by omega) hru.2.1;have hLb:(L i).has b:=by rw[hL];rfl
       have hg:=Yp w b (cur.take off++us++cur.drop (off+n)).toArray;have hset:=setRow_heap w b cur.toArray (cur.take off++us++cur.drop (off+n)).toArray ty (0,0) hb;have hLL:QV L i (.box b)=L:=by
        grind
       have key:Rel ok0 N w0 lk (Za lo i (.box (cs.take off++vs++cs.drop (off+n)))) a (w.setRow b (cur.take off++us++cur.drop (off+n)).toArray) (QV L i (.box b)):=by
        refine h.turn i hcs (Qlj.of hg (fun k hk=>by injection hk with hk;subst hk;exact hLb)) (fun b' hb'=>.inl (by rw[hL];exact hb')) (fun z u hz hr=>?_) (fun all=>?_)
        ·cases hr with
         | _=>grind
        have hsp:=Qv9.splice (cs:=cs) (ds:=vs) (vs:=cur) (us:=us) (o:=off) ⟨hl,h1,hxx⟩ hru (by omega);rw[hvl,hul] at hsp;obtain ⟨g1,g2,g3⟩:=hsp;exact ⟨hB,ty,_,hset,g1,g2,fun k z u hk hu=>all _ _ (g3 k z u hk hu)⟩
       refine ⟨trivial,_,undef,_,_,?_,.inr ⟨rfl,rfl⟩,key,.iv _ _ (.any _)⟩;simp only[execOp,ho,hey,Instr.storeAt,Instr.sureAddr,Sem.run_bind,Sem.run_pure,Result.andThen_ok,hst]
    cases he
   cases he
  ·rename_i i m j off;split at he
   ·rename_i hii;subst hii;split at he
    ·rename_i e sz es mv vs hcs hvs;cases he;obtain ⟨hvl,rfl,hmv,hfit⟩:=hs;obtain ⟨us,hus,hru⟩:=Uy ry hvs;have hob:=h.y9 _ _ hcs;cases rx with
     | yj _ _ _ _ e' sz' es' mv' v' xs b hob' hL hm hv =>
       rw[hcs] at hob';injection hob' with hob';injection hob' with g1 g2 g3 g4;subst g1 g2 g3 g4;rw[hL] at hob;obtain ⟨hown,hmv2,hsz,h1,hxx⟩:=hob;obtain ⟨hj,hbl,hcells⟩:=hv hmv;have hbl:=hbl rfl;rcases hown.own.2 with ⟨hv',_⟩ | ⟨g,cap,cur,hv',hB,hg,hnc,hcm,hcs',htake⟩
       ·rw[hv'] at hbl;simp[Value.ownBlock] at hbl
       have hgb:g=b:=by rw[hv'] at hbl;simpa[Value.ownBlock] using hbl
       subst hgb;have hul:us.length=n:=by rw[hru.1];exact hvl
       have hcurl:cur.size=cap*sz:=hcs';have hbig:j*sz+sz<=es.length*sz:=by
        have:(j+1)*sz<=es.length*sz:=QLc sz (by omega);rw[QLl] at this;omega
       have hcapb:es.length*sz<=cap*sz:=QLc sz hnc;have hst:=Qau (w:=w) hn g (j*sz+off) (a.eval y') us cur.toList hus hul (by simpa using hg) (by simp;omega) hru.2.1;have hLb:(L i).has g:=by rw[hL];exact hbl
       have hgr:=Yp w g (cur.toList.take (j*sz+off)++us++cur.toList.drop (j*sz+off+n)).toArray;have hset:=setRow_heap w g cur (cur.toList.take (j*sz+off)++us++cur.toList.drop (j*sz+off+n)).toArray e (0,0) hg;have hxl:xs.length=es.length*sz:=hown.own.1;have hlenj:=Qfy hsz hj;have hvl2:vs.length=us.length:=by omega
       have hxs':(cur.toList.take (j*sz+off)++us++cur.toList.drop (j*sz+off+n)).take (es.length*sz)=xs.take (j*sz+off)++us++xs.drop (j*sz+off+us.length):=by
        apply QMc;intro k;rw[QLr,JN xs us _ _ (by omega),<- hul,JN cur.toList us _ _ (by simp;omega),<- htake];by_cases hk:k<es.length*sz
        ·rw[if_pos hk]
         simp only[QLr,if_pos hk]
        grind
       have hesl:(es.set j ((es.getD j []).take off++vs++(es.getD j []).drop (off+n))).length=es.length:=by simp
       have key:Rel ok0 N w0 lk (Za lo i (.arr e sz (es.set j ((es.getD j []).take off++vs++(es.getD j []).drop (off+n))) es.length)) a
         (w.setRow g (cur.toList.take (j*sz+off)++us++cur.toList.drop (j*sz+off+n)).toArray) (QV L i (.arr v' (xs.take (j*sz+off)++us++xs.drop (j*sz+off+us.length)))):=by
        refine h.turn i hcs (Qlj.of hgr (fun k hk=>by injection hk with hk;subst hk;exact hLb)) (fun b' hb'=>.inl (by rw[hL];simp only[Lay.has] at hb' |-;exact hb')) (fun z u hz hr=>?_) (fun all=>?_)
        ·cases hr with
         | yj jj n' i' off' e2 sz2 es2 mv2 v2 xs2 b2 ho' hL' hn' hv2 =>
           have:jj=i:=by simpa[AV.refs] using hz
           subst this;rw[hcs] at ho';injection ho' with ho';injection ho' with g1 g2 g3 g4;subst g1 g2 g3 g4;rw[hL] at hL';injection hL' with hL' hL2;subst hL' hL2;refine .yj jj n' i' off' e sz _ es.length v' _ b2 (QbP _ _ _) (QbQ _ _ _) (by rw[hesl];exact hn') (fun hbad=>?_);have hn'':n'=es.length:=by omega
           subst hn'';obtain ⟨k1,k2,k3⟩:=hv2 hmv;have hb2:=k2 rfl;have:b2=g:=by rw[hbl] at hb2;injection hb2 with hb2;exact hb2.symm
           subst this;refine ⟨k1,fun _=>hbl,fun k hk=>⟨.inr hbl,?_⟩⟩;have hk':k<(xs.take (j*sz+off)++us++xs.drop (j*sz+off+us.length)).length:=by
            rw[YS xs us _ (by omega),hxl];exact hk
           obtain ⟨u,hu⟩:∃ u,(xs.take (j*sz+off)++us++xs.drop (j*sz+off+us.length))[k]?=some u:=⟨_,QKF hk'⟩;refine ⟨u,?_,hu⟩;rw[cell_of_row _ _ _ _ e (0,0) hset];grind
         | _=>grind
        refine ⟨⟨⟨?_,.inr ⟨g,cap,_,?_,hB,hset,?_,hcm,?_,?_⟩⟩,hown.free⟩,?_,?_,?_,?_⟩
        ·rw[YS xs us _ (by omega),hesl,hxl]
        ·rw[hesl];exact hv'
        ·rw[hesl];exact hnc
        ·have:=YS cur.toList us (j*sz+off) (by simp;omega);grind
        ·rw[hesl]
         simpa using hxs'
        ·rw[hesl];exact QKJ _
        ·intro c hc;rcases QMq hc with hc | rfl
         ·exact hsz c hc
         have:=YS (es.getD j []) vs off (by omega);rw[hvl] at this;rw[this,hlenj]
        ·intro u hu;simp only[QK2] at hu;rcases hu with (hu | hu) | hu
         ·exact h1 u (QLw hu)
         ·exact hru.2.1 u hu
         exact h1 u (QLT hu)
        intro ii jj c z u hi hjj hu;refine all _ _ ?_;rw[JN xs us _ _ (by omega)] at hu;rw[QL2] at hi;simp only[if_pos hj] at hi;split at hi
        ·rename_i hij;subst hij;injection hi with hi;subst hi;have hsplit:=JN (es.getD j []) vs off jj (by omega);rw[hvl] at hsplit;rw[hsplit] at hjj;by_cases g1:jj<off
         ·grind
         rw[if_neg g1] at hjj;rw[if_neg (by omega)] at hu;by_cases g2:jj<off+n
         ·rw[if_pos g2] at hjj;rw[if_pos (by omega)] at hu;rw[show j*sz+jj-(j*sz+off)=jj-off by omega] at hu;exact hru.2.2 _ z u hjj hu
         grind
        rename_i hij;have hjlt:jj<sz:=by
         grind
        have hne:ii*sz+jj<j*sz+off\/j*sz+off+us.length<=ii*sz+jj:=by
         rcases Nat.lt_or_gt_of_ne hij with xa | hgt
         ·right;have:(j+1)*sz<=ii*sz:=QLc sz xa;rw[QLl] at this;omega
         left;have:(ii+1)*sz<=j*sz:=QLc sz hgt;rw[QLl] at this;omega
        grind
       refine ⟨trivial,_,undef,_,_,?_,.inr ⟨rfl,rfl⟩,key,.iv _ _ (.any _)⟩;simp only[execOp,ho,hey,Instr.storeAt,Instr.sureAddr,Sem.run_bind,Sem.run_pure,Result.andThen_ok,hst]
    cases he
   cases he
  cases he
 ·cases hf
end
section
variable {P:Program} {ok0:Nat->Prop} {N:Fm} {w0:XH} {lk:Nat->AV} {lo:Nat->Option AO} {a:Act} {w:World} {L:Nat->Lay} {o:Oper}
variable {s f:Prop} {v:AV} {up:Option (Nat × AO)}
theorem Rel.okL_turn {id o o' l'} (h:Rel ok0 N w0 lk lo a w L) (hid:lo id=some o)
  (hl':∀ b,l'.has b->(L id).has b\/w.heap.size<=b) {b} (hb:okL ok0 lo L b) (xa:b<w.heap.size):okL ok0 (Za lo id o') (QV L id l') b:=by
 grind
theorem Qu1 {id:Nat} {e:TypeId} {sz mv:Nat} {es:List (List AV)} {ys:List (List IV)} {vv vv':Value} {xs news:List Value} {w':World} (h:Rel ok0 N w0 lk lo a w L)
  (hob:lo id=some (.arr e sz es mv)) (hL:L id=.arr vv xs) (hm:0<ys.length)
  (hg:w.grownBy w' vv.ownBlock) (hown':w'.ownsRow 0 e sz vv' (es.length+ys.length) (xs++news))
  (hblk:∀ b,vv'.ownBlock=some b->vv.ownBlock=some b\/w.heap.size<=b)
  (hpre:∀ b k u,(okL ok0 lo L b\/vv.ownBlock=some b)->k<es.length*sz->w.cell? ⟨b,k,none⟩=some u ->
    (okL ok0 (Za lo id (.arr e sz (es++ys.map (List.map AV.iv)) mv)) (QV L id (.arr vv' (xs++news))) b\/vv'.ownBlock=some b)/\w'.cell? ⟨b,k,none⟩=some u)
  (hsl:isSl vv'=true)
  (hys:∀ c∈ys,c.length=sz) (h1:∀ u∈news,u.oneCell'=true)
  (hx:∀ (i j:Nat) (c:List IV) (x:IV) (u:Value),ys[i]?=some c->c[j]?=some x->news[i*sz+j]?=some u->QF (okL ok0 lo L) w x u) :
  Rel ok0 N w0 lk (Za lo id (.arr e sz (es++ys.map (List.map AV.iv)) mv)) a w' (QV L id (.arr vv' (xs++news))) /\
  QA (okL ok0 (Za lo id (.arr e sz (es++ys.map (List.map AV.iv)) mv)) (QV L id (.arr vv' (xs++news)))) w' (Za lo id (.arr e sz (es++ys.map (List.map AV.iv)) mv)) (QV L id (.arr vv' (xs++news))) (.yl id (es.length+ys.length)) vv':=by
 have hor:=h.y9 _ _ hob;rw[hL] at hor;obtain ⟨hown,hmv,hsz,h1x,hxx⟩:=hor;have hxl:xs.length=es.length*sz:=hown.own.1;have hesl:(es++ys.map (List.map AV.iv)).length=es.length+ys.length:=by simp
 have cells:∀ b n,n<=es.length->(∀ k,k<n*sz->(okL ok0 lo L b\/vv.ownBlock=some b)/\∃ u,w.cell? ⟨b,k,none⟩=some u/\xs[k]?=some u) ->
   (∀ k,k<n*sz->(okL ok0 (Za lo id (.arr e sz (es++ys.map (List.map AV.iv)) mv)) (QV L id (.arr vv' (xs++news))) b\/vv'.ownBlock=some b)/\∃ u,w'.cell? ⟨b,k,none⟩=some u/\(xs++news)[k]?=some u):=by
  grind
 refine ⟨h.turn id hob (Qlj.of hg (fun k hk=>by rw[hL];exact hk)) (fun b hb=>by rw[hL];exact hblk b hb) (fun z u hz hr=>?_) (fun all=>?_),?_⟩
 ·cases hr with
  | yl jj e2 sz2 es2 mv2 v2 xs2 ho' hL' hsl2 =>
    have:jj=id:=by simpa[AV.refs] using hz
    subst this;rw[hob] at ho';injection ho' with ho';injection ho' with g1 g2 g3 g4;subst g1 g2 g3 g4;rw[hL] at hL';injection hL' with hL' hL2;subst hL' hL2;refine .old jj es.length e sz _ mv vv' _ _ (QbP _ _ _) (QbQ _ _ _) hsl2 (by rw[hesl];omega) (fun _=>?_);rcases hown.own.2 with ⟨hv',h00⟩ | ⟨g,cap,cur,hv',hB,hgg,hnc,hcm,hcs',htake⟩
    ·exact .inl ⟨hv',h00⟩
    refine .inr ⟨g,cap,hv',hnc,hcm,cells g es.length (QKJ _) fun k hk=>⟨.inr (by rw[hv'];rfl),?_⟩⟩;have hk':k<xs.length:=by omega
    refine ⟨xs[k],?_,QKF hk'⟩;have:=hown.own.cells (g:=g) (by rw[hv'];rfl) k xs[k] (QKF hk')
    rwa [addr_add,QKY] at this
  | _=>grind
 ·refine ⟨by rw[hesl];exact ⟨hown',fun b hb=>(hblk b hb).elim (fun h1=>hown.free b h1) (fun h2=>h.frlt h2)⟩,by rw[hesl];omega,?_,?_,?_⟩
  ·grind
  ·grind
  intro i j c z u hi hj hu;rw[List.getElem?_append] at hi;split at hi
  ·rename_i xa;have hjl:j<sz:=by
    grind
   have hidx:=UX xa hjl;grind
  rename_i hge;rw[QKN,QKK] at hi;obtain ⟨d,hd,rfl⟩:=hi;rw[QKN,QKK] at hj;obtain ⟨y,hy,rfl⟩:=hj;have hle:es.length*sz<=i*sz:=QLc sz (by omega);rw[QKO (by omega),hxl] at hu;have:i*sz+j-es.length*sz=(i-es.length)*sz+j:=by
   rw[Nat.sub_mul];omega
  rw[this] at hu;exact all _ _ (.iv _ _ (hx _ j d y u hd hy hu))
 ·rw[<- hesl]
  exact .yl id e sz _ mv vv' _ (QbP _ _ _) (QbQ _ _ _) hsl
theorem Qbu {e sz bytes x y} (hf:QvW P e sz bytes x y o.op=true):∃ x' y' t i z,o.op=.call { callee:=.builtin .append,args:=#[x',y'],argTypes:=#[t,t] } /\
  x.is x'=true/\y.is y'=true/\P.underlying t=some (.slice e)/\P.info? e=some i/\i.size=sz/\i.bytes=bytes/\i.zero=some z/\z.cells.size=sz/\0<sz:=by
 unfold QvW at hf;split at hf
 ·rename_i az ts ho;split at hf
  ·rename_i x' y' t t' has hts;simp only[QKI,beq_iff_eq,decide_eq_true_eq] at hf;obtain ⟨⟨⟨⟨⟨hx,hy⟩,rfl⟩,hs⟩,hpos⟩,hb⟩:=hf;obtain ⟨i,hu,hi,hsz⟩:=Qaq hs;unfold QmJ at hb;rw[hi] at hb;simp only[QKI,beq_iff_eq] at hb;obtain ⟨hb1,hb2⟩:=hb;split at hb2
   ·rename_i z hz;have e1:az=#[x',y']:=by cases az;simp_all
    have e2:ts=#[t,t]:=by cases ts;simp_all
    grind
   cases hb2
  cases hf
 ·cases hf
theorem XM {t ty e} {i:TypeInfo} (hu:P.underlying t=some (.slice e)) (hi:P.info? e=some i) (base n cap) (hnc:n<=cap) (y)
  (hy:y=.slice none 0 0\/∃ ad c,y=.slice (some ad) 0 c):(Builtin.append_ #[t,t] ty #[.slice base n cap,y]).run P w=.ok (.slice base n cap) w:=by
 rcases hy with rfl | ⟨ad,c,rfl⟩<;>cases base <;>
  simp[Builtin.append_,run_underlying hu,sizeOf,typeInfo,hi,Builtin.lenOf,Builtin.firstCells,hnc,loadCells,loadCellsFrom,storeCells]
theorem Qf6 {id:Nat} {e:TypeId} {sz:Nat} {z:Value} (h:Rel ok0 N w0 lk lo a w L) (xb:lo id=none) (zs:List (List IV)) (cells:List Value) (C:Nat) (hge:zs.length<=C) (hle:C<=maxLen) (hzs:z.cells.size=sz)
  (hcl:cells.length=zs.length*sz) (hn1:∀ u∈cells,u.oneCell'=true) (hrow:∀ c∈zs,c.length=sz)
  (hnx:∀ (i j:Nat) (c:List IV) (x:IV) (u:Value),zs[i]?=some c->c[j]?=some x->cells[i*sz+j]?=some u->QF (okL ok0 lo L) w x u)
  (hr:(execOp a.eval o).run P w=.ok (.value (.slice (some ⟨w.heap.size,0,none⟩) zs.length C)) (w.drew.alloc (.cells (cells.toArray++Builtin.zeroCells z.cells (C-zs.length)) e))) :
  True/\QC P o ok0 N w0 lk lo a w (.yl id zs.length) (some (id,.arr e sz (zs.map (List.map AV.iv)) 0)):=by
 have hheap:∀ ob k,k<w.heap.size->(w.drew.alloc ob).heap[k]?=w.heap[k]?:=fun ob k hk=>Ev.alloc_old w.drew _ k hk;have hzl:(Builtin.zeroCells z.cells (C-zs.length)).size=(C-zs.length)*sz:=by
  rw[size_zeroCells,hzs]
 have hrel:=h.new (w':=w.drew.alloc (.cells (cells.toArray++Builtin.zeroCells z.cells (C-zs.length)) e)) id xb (.arr e sz (zs.map (List.map AV.iv)) 0)
  (.arr (.slice (some ⟨w.heap.size,0,none⟩) zs.length C) cells) ⟨rfl,rfl,rfl,by simp,fun k hk=>hheap _ k hk⟩
  (fun b hb=>by simp only[Lay.has,Value.ownBlock,Option.some.injEq] at hb;omega) (by
    refine ⟨⟨⟨by rw[QKX];exact hcl,.inr ⟨w.heap.size,_,_,by rw[QKX],QLV _,heap_alloc_new w.drew _,by rw[QKX];exact hge,hle,?_,?_⟩⟩,fun b hb=>?_⟩,QLV _,fun c hc=>?_,hn1,fun i j c x u' hi' hj hu'=>?_⟩
    ·simp only[Array.size_append,QLK,hzl,hcl,<- QLl];congr 1;omega
    ·grind
    ·simp only[Value.ownBlock,Option.some.injEq] at hb;subst hb;exact h.frlt (QKJ _)
    ·grind
    rw[QKN,QKK] at hi';obtain ⟨d,hd,rfl⟩:=hi';rw[QKN,QKK] at hj;obtain ⟨y,hy,rfl⟩:=hj;refine .iv _ _ ((hnx i j d y u' hd hy hu').mono fun b hb xa=>⟨⟨hb.1,fun i' oi hi2 he2=>?_⟩,hheap _ b xa⟩);by_cases hii:i'=id
    ·subst hii;simp only[QV,if_true,Lay.has,Value.ownBlock,Option.some.injEq] at he2;omega
    grind)
 refine ⟨trivial,_,_,_,_,hr,.inl rfl,hrel,?_⟩
 have:=QA.yl (ok:=okL ok0 (Za lo id (.arr e sz (zs.map (List.map AV.iv)) 0)) (QV L id (.arr (.slice (some ⟨w.heap.size,0,none⟩) zs.length C) cells)))
  (w:=w.drew.alloc (.cells (cells.toArray++Builtin.zeroCells z.cells (C-zs.length)) e)) (lo:=Za lo id (.arr e sz (zs.map (List.map AV.iv)) 0))
  (L:=QV L id (.arr (.slice (some ⟨w.heap.size,0,none⟩) zs.length C) cells)) id e sz (zs.map (List.map AV.iv)) 0 (.slice (some ⟨w.heap.size,0,none⟩) zs.length C) cells (by simp[Za]) (by simp[QV]) rfl
 rw[QKX] at this;exact this
theorem Qa8 {ok:Nat->Prop} {sy:Nat} {ys:List (List IV)} {yy:Value} (r:QF ok w (.sl sy ys) yy) :
  ((∃ a1,yy=.slice a1 0 0)/\ys=[])\/∃ (b off cap:Nat) (olds:List Value),yy=.slice (some ⟨b,off,none⟩) ys.length cap/\(∀ c∈ys,c.length=sy)/\olds.length=ys.length*sy /\
    (∀ j u,olds[j]?=some u->w.cell? ((⟨b,off,none⟩:Addr).add j)=some u)/\(∀ u∈olds,u.oneCell'=true) /\
    (∀ (i j:Nat) (c:List IV) (x:IV) (u:Value),ys[i]?=some c->c[j]?=some x->olds[i*sy+j]?=some u->QF ok w x u):=by
 cases r with
 | sl _ _ b off cap u hl hc hes hcell hxx =>
   refine .inr ⟨b,off,cap,(List.range (ys.length*sy)).map u,rfl,hes,by simp,?_,?_,?_⟩
   ·intro j u' hj;simp only[QKN,QKK] at hj;obtain ⟨k',hk',rfl⟩:=hj;obtain ⟨h3,h4⟩:=QKG.1 hk';simp at h3 h4;subst h4;rw[addr_add];exact (hcell j h3).2.1
   ·grind
   intro i j c x u' h1 h2 h3;simp only[QKN,QKK] at h3;obtain ⟨k',hk',rfl⟩:=h3;obtain ⟨h3,h4⟩:=QKG.1 hk';simp at h3 h4;subst h4;exact hxx i j c x h1 h2
 | _=>grind
theorem QtD {id e sz bytes s0 rs sy ys x y} (h:Rel ok0 N w0 lk lo a w L) (hf:QvW P e sz bytes x y o.op=true)
  (hxv:x.av lk=.zsl s0 rs) (hyv:y.av lk=.iv (.sl sy ys)) (he:Wt lo id e sz bytes (.zsl s0 rs) (.iv (.sl sy ys))=.ok s f v up) (hs:s):f/\QC P o ok0 N w0 lk lo a w v up:=by
 obtain ⟨x',y',t,ti,z,ho,hx,hy,hu,hi,hsz,hby,hz,hzs,hpos⟩:=Qbu hf;have rx:=Opd.rep h hx;have ry:=Opd.rep h hy;rw[hxv] at rx;rw[hyv] at ry;generalize hex:a.eval x'=vv at rx;generalize hey:a.eval y'=yy at ry;have run:∀ u w',(Builtin.append_ #[t,t] o.type #[vv,yy]).run P w=.ok u w'->(execOp a.eval o).run P w=.ok (.value u) w':=by
  intro u w' hr;simp[execOp,ho,resolve,invoke,builtin,hex,hey,hr]
 obtain ⟨hfull,hrx⟩:QaF vv=true/\QF (okL ok0 lo L) w (.sl s0 rs) vv:=by
  cases rx with
  | zsl _ _ _ h hr=>exact ⟨h,hr⟩
 have hry:QF (okL ok0 lo L) w (.sl sy ys) yy:=by
  cases ry with
  | iv _ _ r=>exact r
 have hyshape:=Qa8 hry;have hxshape:=Qa8 hrx;simp only[Wt] at he
 ·split at he
  ·cases he;obtain ⟨a0,n0,rfl⟩:=Qcg hfull
   have hr:=XM (P:=P) (w:=w) (ty:=o.type) hu hi a0 n0 n0 (QKJ _) yy (by
    rcases hyshape with ⟨⟨a1,h1⟩,_⟩ | ⟨b,off,c,u,h1,_⟩
    ·cases a1 with
     | none=>exact .inl h1
     | some a1=>exact .inr ⟨_,_,h1⟩
    exact .inr ⟨_,_,h1⟩)
   exact ⟨trivial,QC.pure h (run _ _ hr) (.zsl _ _ _ hfull hrx)⟩
  ·rename_i y0 r xb;cases he;obtain ⟨hq3,rfl,hmax,hbytes⟩:=hs;have hs2:sy=s0:=hq3;subst hs2;rcases hyshape with ⟨_,h0⟩ | ⟨b,off,c,news,hyy,hyl,hnl,hnews,hn1,hnx⟩
   ·cases h0
   generalize hys:y0::r=ys at *;have hpos':0<ys.length:=by rw[<- hys];simp
   rw[QKP] at hmax hbytes;have hm63:rs.length+ys.length<=9223372036854775807:=by simp only[maxLen] at hmax;omega
   rcases hxshape with ⟨⟨a1,hvv⟩,hrs⟩ | ⟨b2,off2,c2,olds,hvv,hol,holn,holds,ho1,hox⟩
   ·subst hrs;simp only[QK4,QKY,QLm] at *;have hge:=grownCap_ge w ys.length 0 e;have hle:=grownCap_le_maxLen w ys.length 0 e (by omega);refine Qf6 (z:=z) h xb ys news _ hge hle hzs hnl hn1 hyl hnx (run _ _ ?_);rw[hvv];cases a1 with
    | none =>
      rw[hyy];exact run_append_nil (P:=P) w t o.type e ti z hu hi hz ⟨b,off,none⟩ ys.length c news (by rw[hnl,hsz]) hnews hpos' (by omega) (by rw[hby];omega)
    | some ad =>
      have:=run_append_grow (P:=P) w t o.type e ti z hu hi hz ad 0 0 [] (by simp) (by simp) ⟨b,off,none⟩ ys.length c news (by rw[hnl,hsz]) hnews (by omega) (by omega) (by
       rw[QKY];exact growslice_fits (by omega) (by rw[hby];exact hbytes))
      rw[hyy];simpa using this
   have hcc:rs.length=c2:=by
    rw[hvv] at hfull;simpa[QaF] using hfull
   subst hcc;have hge:=grownCap_ge w (rs.length+ys.length) rs.length e;have hle:=grownCap_le_maxLen w (rs.length+ys.length) rs.length e (by omega);refine Qf6 (z:=z) h xb (rs++ys) (olds++news) (grownCap w (rs.length+ys.length) rs.length e) (by rw[QKP];exact hge) hle hzs (by rw[QKP,QKP,holn,hnl,QLl]) ?_ ?_ ?_ (run _ _ ?_)
   ·intro u hu';rcases QK2.1 hu' with h1 | h1
    ·exact ho1 u h1
    exact hn1 u h1
   ·intro c hc;rcases QK2.1 hc with h1 | h1
    ·exact hol c h1
    exact hyl c h1
   ·intro i j c x u h1 h2 h3;by_cases xa:i<rs.length
    ·rw[QKS xa] at h1;have hjl:j<sy:=by
      have:=hol c (QKW h1);have:=(QKG.1 h2).1;omega
     have hidx:=UX xa hjl;rw[QKS (by omega)] at h3;exact hox i j c x u h1 h2 h3
    rw[QKO (by omega)] at h1;have hle2:rs.length*sy<=i*sy:=QLc sy (by omega);rw[QKO (by omega),holn] at h3;have e3:i*sy+j-rs.length*sy=(i-rs.length)*sy+j:=by
     rw[Nat.sub_mul];omega
    rw[e3] at h3;exact hnx _ j c x u h1 h2 h3
   have:=run_append_grow (P:=P) w t o.type e ti z hu hi hz ⟨b2,off2,none⟩ rs.length rs.length olds (by rw[holn,hsz]) holds ⟨b,off,none⟩ ys.length c news (by rw[hnl,hsz]) hnews (by omega) (by omega)
    (growslice_fits (by omega) (by rw[hby];exact hbytes))
   rw[hyy,hvv];simpa using this
  ·cases he
theorem QqI {id:Nat} {e:TypeId} {sz bytes:Nat} {x y:Opd} (h:Rel ok0 N w0 lk lo a w L) (hok0:∀ b,¬ w0.fr b->ok0 b) (hf:QvW P e sz bytes x y o.op=true) (hnm:∀ i k n,x.av lk≠.yn i k n)
  (he:Wt lo id e sz bytes (x.av lk) (y.av lk)=.ok s f v up) (hs:s):f/\QC P o ok0 N w0 lk lo a w v up:=by
 by_cases hzz:∃ s0 rs,x.av lk=.zsl s0 rs
 ·obtain ⟨s0,rs,hz0⟩:=hzz;rw[hz0] at he;cases hyv:y.av lk with
  | iv q =>
    cases q with
    | sl sy ys=>rw[hyv] at he;exact QtD h hf hz0 hyv he hs
    | _=>rw[hyv] at he;simp[Wt] at he
  | _=>rw[hyv] at he;simp[Wt] at he
 obtain ⟨x',y',t,ti,z,ho,hx,hy,hu,hi,hsz,hby,hz,hzs,hpos⟩:=Qbu hf;have rx:=Opd.rep h hx;have ry:=Opd.rep h hy;generalize x.av lk=xv at rx he hnm hzz;generalize y.av lk=yv at ry he;generalize hex:a.eval x'=vv at rx;generalize hey:a.eval y'=yy at ry;have run:∀ u w',(Builtin.append_ #[t,t] o.type #[vv,yy]).run P w=.ok u w'->(execOp a.eval o).run P w=.ok (.value u) w':=by
  intro u w' hr;simp[execOp,ho,resolve,invoke,builtin,hex,hey,hr]
 unfold Wt at he;split at he
 ·rename_i i n sy ys;split at he
  ·rename_i hii;subst hii;split at he
   ·rename_i e' sz' es mv hob;split at he
    ·rename_i hees;obtain ⟨rfl,rfl⟩:=hees;cases he;obtain ⟨rfl,rfl,hmv,hmax,hbytes⟩:=hs;have hor:=h.y9 _ _ hob;have hcur:∃ xs,L i=.arr vv xs/\isSl vv=true:=by
      grind
     obtain ⟨xs,hL,hsl⟩:=hcur;have hor':=hor;rw[hL] at hor';obtain ⟨hown,hmv2,hszs,h1x,hxx⟩:=hor'
     have hyshape:((∃ a0,yy=.slice a0 0 0)/\ys=[])\/∃ (b off cap:Nat) (u:Nat->Value),yy=.slice (some ⟨b,off,none⟩) ys.length cap/\(∀ c∈ys,c.length=sy) /\
       (∀ k,k<ys.length*sy->okL ok0 lo L b/\w.cell? ⟨b,off+k,none⟩=some (u k)/\(u k).oneCell'=true) /\
       (∀ (i j:Nat) (c:List IV) (x:IV),ys[i]?=some c->c[j]?=some x->QF (okL ok0 lo L) w x (u (i*sy+j))):=by
      cases ry with
      | iv _ _ r=>cases r with
        | sl _ _ b off cap u hl hc hes hcell hxx=>exact .inr ⟨b,off,cap,u,rfl,hes,hcell,hxx⟩
        | _=>grind
     by_cases hm:ys.length=0
     ·have hnil:ys=[]:=QKR hm;subst hnil;have hvshape:∃ base cap,vv=.slice base es.length cap/\es.length<=cap:=by
       rcases hown.own.2 with ⟨hv',h00⟩ | ⟨g,cap,cur,hv',hB,hgg,hnc,hcm,hcs',htake⟩
       all_goals grind
      obtain ⟨base,cap,hvb,hbc⟩:=hvshape
      have hr:=XM (P:=P) (w:=w) (ty:=o.type) hu hi base es.length cap hbc yy (by
       rcases hyshape with ⟨⟨a0,h1⟩,_⟩ | ⟨b,off,c,u,h1,_⟩
       ·cases a0 with
        | none=>exact .inl h1
        | some a0=>exact .inr ⟨_,_,h1⟩
       exact .inr ⟨_,_,h1⟩)
      rw[<- hvb] at hr;have xb:Za lo i (.arr e' sy (es++([]:List (List IV)).map (List.map AV.iv)) mv)=lo:=by
       grind
      refine ⟨trivial,_,vv,w,L,run _ _ hr,.inl rfl,?_,?_⟩
      ·simp only[upO];rw[xb];exact h
      simp only[upO];grind
     rcases hyshape with ⟨_,h0⟩ | ⟨b,off,c,u,hyy,hyl,hyc,hyx⟩
     ·exact absurd (by rw[h0];rfl) hm
     let news:=(List.range (ys.length*sy)).map u
     have hnl:news.length=ys.length*ti.size:=by simp[news,hsz]
     have hnews:∀ j u',news[j]?=some u'->w.cell? ((⟨b,off,none⟩:Addr).add j)=some u':=by
      intro j u' hj;simp only[news,QKN,QKK] at hj;obtain ⟨k',hk',rfl⟩:=hj;obtain ⟨h3,h4⟩:=QKG.1 hk';simp at h3 h4;subst h4;rw[addr_add];exact (hyc j h3).2.1
     have hn1:∀ u'∈news,u'.oneCell'=true:=by
      grind
     have hnx:∀ (i j:Nat) (c:List IV) (x:IV) (u':Value),ys[i]?=some c->c[j]?=some x->news[i*sy+j]?=some u'->QF (okL ok0 lo L) w x u':=by
      grind
     have hml:es.length+ys.length<=9223372036854775807:=by simp only[maxLen] at hmax;omega
     have fin:∀ vv' w',(Builtin.append_ #[t,t] o.type #[vv,yy]).run P w=.ok vv' w'->w.grownBy w' vv.ownBlock->w'.ownsRow 0 e' sy vv' (es.length+ys.length) (xs++news) ->
       (∀ b,vv'.ownBlock=some b->vv.ownBlock=some b\/w.heap.size<=b)->isSl vv'=true ->
       (∀ b k u,(okL ok0 lo L b\/vv.ownBlock=some b)->k<es.length*sy->w.cell? ⟨b,k,none⟩=some u ->
         (okL ok0 (Za lo i (.arr e' sy (es++ys.map (List.map AV.iv)) mv)) (QV L i (.arr vv' (xs++news))) b\/vv'.ownBlock=some b)/\w'.cell? ⟨b,k,none⟩=some u) ->
       True/\QC P o ok0 N w0 lk lo a w (.yl i (es.length+ys.length)) (some (i,.arr e' sy (es++ys.map (List.map AV.iv)) mv)):=by
      intro vv' w' hr hg hown' hblk hsl' hpre;obtain ⟨r1,r2⟩:=Qu1 h hob hL (by omega) hg hown' hblk hpre hsl' hyl hn1 hnx;exact ⟨trivial,_,vv',w',_,run _ _ hr,.inl rfl,r1,r2⟩
     have fresh:∀ (cap':Nat) (cells:List Value),es.length+ys.length<=cap'->cap'<=maxLen->cells.length=cap'*sy->cells.take ((es.length+ys.length)*sy)=xs++news ->
       (Builtin.append_ #[t,t] o.type #[vv,yy]).run P w=.ok (.slice (some ⟨w.heap.size,0,none⟩) (es.length+ys.length) cap') (w.drew.alloc (.cells cells.toArray e')) ->
       True/\QC P o ok0 N w0 lk lo a w (.yl i (es.length+ys.length)) (some (i,.arr e' sy (es++ys.map (List.map AV.iv)) mv)):=by
      intro cap' cells h1 h2 h3 h4 hr;have hheap:∀ k,k<w.heap.size->(w.drew.alloc (.cells cells.toArray e')).heap[k]?=w.heap[k]?:=fun k hk=>Ev.alloc_old w.drew _ k hk;have hbl:∀ b,(Lay.arr (.slice (some ⟨w.heap.size,0,none⟩) (es.length+ys.length) cap') (xs++news)).has b->(L i).has b\/w.heap.size<=b:=by
       intro b hb;simp only[Lay.has,Value.ownBlock,Option.some.injEq] at hb;exact .inr (by omega)
      refine fin _ _ hr ⟨rfl,rfl,rfl,by simp,fun k hk _=>hheap k hk⟩ ⟨?_,.inr ⟨w.heap.size,cap',cells.toArray,rfl,QLV _,heap_alloc_new w.drew _,h1,h2,by simpa using h3,by simpa using h4⟩⟩ (fun b hb=>?_) rfl (fun b k u hb hk hc=>?_)
      ·rw[QKP,hown.own.1,hnl,hsz,QLl]
      ·simp only[Value.ownBlock,Option.some.injEq] at hb;exact .inr (by omega)
      have xa:=QLA w ⟨b,k,none⟩ hc;refine ⟨.inl ?_,(QL1 (a:=⟨b,k,none⟩) (hheap b xa)).trans hc⟩;rcases hb with hb | hb
      ·exact h.okL_turn hob hbl hb xa
      have hge:=(hown.lt b hb).1;refine ⟨hok0 b hge,fun j oj hj hbad=>?_⟩;by_cases hji:j=i
      ·subst hji;simp only[QV,if_true,Lay.has,Value.ownBlock,Option.some.injEq] at hbad;simp only[] at xa;omega
      simp only[Za,hji,if_false] at hj;simp only[QV,hji,if_false] at hbad;exact h.apart j i oj _ b hji hj hob hbad (by rw[hL];exact hb)
     rcases hown.own.2 with ⟨hv',h00⟩ | ⟨g,cap,cur,hv',hB,hgg,hnc,hcm,hcs',htake⟩
     ·have hxs0:xs=[]:=QKR (by rw[hown.own.1,h00];simp);have hr:=run_append_nil (P:=P) w t o.type e' ti z hu hi hz ⟨b,off,none⟩ ys.length c news hnl hnews (by omega) (by omega) (by rw[hby];rw[h00,QKY] at hbytes;omega);have hge:=grownCap_ge w ys.length 0 e';have hle:=grownCap_le_maxLen w ys.length 0 e' (by omega);have hzl:(Builtin.zeroCells z.cells (grownCap w ys.length 0 e'-ys.length)).toList.length=(grownCap w ys.length 0 e'-ys.length)*sy:=by
       rw[QL5,size_zeroCells,hzs]
      refine fresh (grownCap w ys.length 0 e') (news++(Builtin.zeroCells z.cells (grownCap w ys.length 0 e'-ys.length)).toList) (by omega) hle ?_ ?_ ?_
      ·rw[QKP,hnl,hzl,hsz,<- QLl]
       congr 1;omega
      ·rw[h00,QKY,hxs0,QLm,<- hsz,<- hnl]
       exact List.take_left
      rw[h00,QKY,hv',hyy,hr]
      congr 3;apply Array.ext';simp
     by_cases hroom:es.length+ys.length<=cap
     ·have hfit:es.length*ti.size+news.length<=cur.size:=by rw[hnl,hcs',hsz,<- QLl];exact QLc _ hroom
      have hr:=run_append_room (P:=P) w t o.type e' ti hu hi g es.length cap cur hgg ⟨b,off,none⟩ ys.length c news hnl hnews hn1 hroom hfit;rw[hsz] at hr hfit;have hset:=setRow_heap w g cur (cur.toList.take (es.length*sy)++news++cur.toList.drop (es.length*sy+news.length)).toArray e' (0,0) hgg;have hob':vv.ownBlock=some g:=by rw[hv'];rfl
      have hlen:=YS cur.toList news (es.length*sy) (by simpa using hfit);refine fin _ _ (by rw[hv',hyy];exact hr) (by rw[hob'];exact Yp w g _) ⟨?_,.inr ⟨g,cap,_,rfl,hB,hset,hroom,hcm,?_,?_⟩⟩ (fun b hb=>.inl (by rw[hob'];exact hb)) rfl (fun b' k u hb hk hc=>?_)
      ·rw[QKP,hown.own.1,hnl,hsz,QLl]
      ·simp only[QLK,hlen,QL5];exact hcs'
      ·simp only[];rw[htake];have:(es.length+ys.length)*sy=(xs++news).length:=by rw[QKP,hown.own.1,hnl,hsz,QLl]
       rw[this];exact List.take_left
      have xa:=QLA w ⟨b',k,none⟩ hc;rcases hb with hb | hb
      ·have hne:b'≠g:=fun e=>hb.2 i _ hob (by rw[hL];simp only[Lay.has];rw[hob',e]);refine ⟨.inl (h.okL_turn hob (fun b hb=>.inl ?_) hb xa),(QL1 (a:=⟨b',k,none⟩) (setRow_other w g b' _ hne)).trans hc⟩;rw[hL];simp only[Lay.has] at hb |-;rw[hob'];exact hb
      have:b'=g:=by rw[hob'] at hb;injection hb with hb;exact hb.symm
      subst this;refine ⟨.inr rfl,?_⟩;rw[cell_of_row _ _ _ _ e' (0,0) hset];rw[cell_of_row _ _ _ _ e' (0,0) hgg] at hc;simp only[QMk];rw[JN _ _ _ _ (by simpa using hfit),if_pos hk];simpa using hc
     have holds:∀ j u,xs[j]?=some u->w.cell? ((⟨g,0,none⟩:Addr).add j)=some u:=hown.own.cells (g:=g) (by rw[hv'];rfl)
     have hr:=run_append_grow (P:=P) w t o.type e' ti z hu hi hz ⟨g,0,none⟩ es.length cap xs (by rw[hown.own.1,hsz]) holds ⟨b,off,none⟩ ys.length c news hnl hnews (by omega) (by omega)
      (growslice_fits (by omega) (by rw[hby];exact hbytes))
     have hge:=grownCap_ge w (es.length+ys.length) cap e';have hle:=grownCap_le_maxLen w (es.length+ys.length) cap e' (by omega);have hzl:(Builtin.zeroCells z.cells (grownCap w (es.length+ys.length) cap e'-(es.length+ys.length))).toList.length=(grownCap w (es.length+ys.length) cap e'-(es.length+ys.length))*sy:=by
      rw[QL5,size_zeroCells,hzs]
     have htot:(xs++news).length=(es.length+ys.length)*sy:=by rw[QKP,hown.own.1,hnl,hsz,QLl]
     refine fresh (grownCap w (es.length+ys.length) cap e') (xs++news++(Builtin.zeroCells z.cells (grownCap w (es.length+ys.length) cap e'-(es.length+ys.length))).toList) hge hle ?_ ?_ ?_
     ·rw[QKP,htot,hzl,<- QLl]
      congr 1;omega
     ·rw[<- htot]
      exact List.take_left
     rw[hv',hyy,hr]
     congr 3;apply Array.ext';simp
    cases he
   cases he
  cases he
 all_goals grind
end
set_option linter.all false
section
variable {P:Program} {ok0:Nat->Prop} {N:Fm} {w0:XH} {lk:Nat->AV} {lo:Nat->Option AO} {a:Act} {w:World} {L:Nat->Lay} {o:Oper}
variable {s f:Prop} {v:AV} {up:Option (Nat × AO)}
theorem Rel.newOne {w' id ob} (h:Rel ok0 N w0 lk lo a w L) (hid:lo id=none) (hb:Below w.heap.size w w') (hd:ob.data=true)
  (ho:∀ ok lo' L',¬ w0.fr w.heap.size->(∀ b,okL ok0 lo L b->b<w.heap.size->ok b)->QG w0.fr ok w' lo' L' ob (.one w.heap.size)) :
  Rel ok0 N w0 lk (Za lo id ob) a w' (QV L id (.one w.heap.size)):=by
 refine h.new id hid ob (.one w.heap.size) hb (fun b hb=>by simp only[Lay.has] at hb;omega) (ho _ _ _ (h.frlt (QKJ _)) fun b hb xa=>?_);grind
theorem Rel.turnOne {w' id b ob ob'} (h:Rel ok0 N w0 lk lo a w L) (hid:lo id=some ob) (hL:L id=.one b) (hg:Qlj (fun k=>b=k) w w')
  (href:∀ ok lo' L' x v,lo' id=some ob'->L' id=.one b->AV.refs id x=true->QA (okL ok0 lo L) w lo L x v->QA ok w' lo' L' x v)
  (ho:∀ ok lo' L',(∀ k,okL ok0 lo L k->k<w.heap.size->ok k/\w'.heap[k]?=w.heap[k]?)->QG w0.fr (okL ok0 lo L) w lo L ob (.one b)->QG w0.fr ok w' lo' L' ob' (.one b)) :
  Rel ok0 N w0 lk (Za lo id ob') a w' (QV L id (.one b)):=by
 have hl':∀ k,(Lay.one b).has k->(L id).has k\/w.heap.size<=k:=fun k hk=>.inl (by rw[hL];exact hk);have hok:∀ k,okL ok0 lo L k->k<w.heap.size->okL ok0 (Za lo id ob') (QV L id (.one b)) k:=fun k hk xa=>h.okL_turn hid hl' hk xa;refine h.turn id hid ⟨hg.os,hg.tape,hg.output,hg.size,fun k hk hn=>hg.block k hk (fun e=>hn (by rw[hL];exact e))⟩ hl' (fun x v hx hr=>href _ _ _ x v (by simp[Za]) (by simp[QV]) hx hr) (fun _=>?_);have:=h.y9 id ob hid;rw[hL] at this;refine ho _ _ _ (fun k hk xa=>⟨hok k hk xa,hg.block k xa (fun e=>hk.2 id ob hid (by rw[hL];exact e))⟩) this
theorem Y2 (w b ob):Qlj (fun k=>b=k) w { w with heap:=w.heap.setIfInBounds b ob } :=
 ⟨rfl,rfl,rfl,by simp,fun k _ hn=>by simp[QLN,hn]⟩
theorem Y7 {x u} (r:QA (okL ok0 lo L) w lo L (.iv x) u):QF (okL ok0 lo L) w x u:=by cases r;assumption
theorem QzH {mn x y} (h:Rel ok0 N w0 lk lo a w L) (hf:YOp.fits P (.mx mn x y) o.op=true) (he:evY lk lo (.mx mn x y)=.ok s f v up):f/\QC P o ok0 N w0 lk lo a w v up:=by
 simp only[YOp.fits] at hf;split at hf
 ·rename_i b az ts ho;split at hf
  ·rename_i x' y' has;simp only[QKI] at hf;obtain ⟨⟨hb,hx⟩,hy⟩:=hf;have rx:=Opd.rep h hx;have ry:=Opd.rep h hy;simp only[evY] at he;split at he
   ·rename_i k p k' q hxv hyv;split at he
    ·rename_i hkk;subst hkk;cases he;rw[hxv] at rx;rw[hyv] at ry;have hex:=Zy rx;have hey:=Zy ry;have has':az=#[x',y']:=by rw[<- Array.toList_inj];exact has
     cases mn with
     | true =>
       cases b<;>first | (cases hb;done) | skip
       refine ⟨trivial,QC.pure h (u:=.int k (if q<p then q else p)) ?_ (Zn _ _)⟩;simp[execOp,ho,has',hex,hey,resolve,invoke,builtin,Builtin.min_,Builtin.min2]
     | false =>
       cases b<;>first | (cases hb;done) | skip
       refine ⟨trivial,QC.pure h (u:=.int k (if p<q then q else p)) ?_ (Zn _ _)⟩;simp[execOp,ho,has',hex,hey,resolve,invoke,builtin,Builtin.max_,Builtin.max2]
    cases he
   cases he
  cases hf
 ·cases hf
theorem QtN {id r} (h:Rel ok0 N w0 lk lo a w L) (hf:YOp.fits P (.mkm id r) o.op=true) (he:evY lk lo (.mkm id r)=.ok s f v up):f/\QC P o ok0 N w0 lk lo a w v up:=by
 simp only[YOp.fits] at hf;split at hf
 ·rename_i t ho;simp only[evY] at he;split at he
  ·rename_i hid;cases he;have hrun:=run_makeMap (P:=P) t w;have mr:∀ key,X4 0 #[] 0 key:=fun key=>⟨rfl,by simp,by simp,by simp⟩;cases r with
   | none =>
     refine ⟨trivial,_,.map (some w.heap.size),_,_,by simp[execOp,ho,hrun],.inl rfl,h.newOne hid (QB w _) rfl (fun ok lo' L' hF _=>⟨hF,#[],0,heap_alloc_new w _,mr _,by simp,by simp⟩),?_⟩;exact .omap id _ [] (by simp[upO,Za]) (by simp[QV])
   | some p =>
     obtain ⟨e,sz⟩:=p;refine ⟨trivial,_,.map (some w.heap.size),w.alloc (.map #[] 0),QV L id (.map w.heap.size []),by simp[execOp,ho,hrun],.inl rfl,?_,?_⟩
     ·refine h.new id hid _ _ (QB w _) (fun b hb=>by simp[Lay.has] at hb;omega) ⟨h.frlt (QKJ _),⟨#[],0,heap_alloc_new w _,0,QKJ _,mr _,by simp,by simp⟩,by simp,rfl,by simp,by simp⟩
     exact .orow id _ e sz [] none [] (by simp[upO,Za]) (by simp[QV])
  cases he
 ·cases hf
theorem QdP {id kvs seen x u} (hid:lo id=some (.yq kvs seen)) (hx:AV.refs id x=true) (hr:QA (okL ok0 lo L) w lo L x u):x=.yk id/\∃ b,L id=.one b/\u=.pointer (some ⟨b,0,none⟩):=by
 cases hr with
 | _=>grind
theorem Yv {id kvs x u} (hid:lo id=some (.xg kvs)) (hx:AV.refs id x=true) (hr:QA (okL ok0 lo L) w lo L x u):x=.yk id/\∃ b,L id=.one b/\u=.map (some b):=by
 cases hr with
 | _=>grind
theorem VX {id e sz kvs pend x u} (hid:lo id=some (.yo e sz kvs pend)) (hx:AV.refs id x=true) (hr:QA (okL ok0 lo L) w lo L x u):∃ b vals,L id=.map b vals/\((x=.yk id/\u=.map (some b))\/∃ k n,x=.yn id k n/\isSl u=true/\n<=((Qh k kvs).getD []).length/\(((Qh k kvs).getD []).length=n->u=(Qh k vals).getD (.slice none 0 0))):=by
 cases hr with
 | _=>grind
theorem Xq (id):AV.refs id (.yk id)=true:=by simp[AV.refs]
def Qai (P:Program) (kt:TypeId) (key:Value) (l:List MapEntry) (res:Option (Nat × Value)):Prop:=∀ w,(Instr.findKey kt key l).run P w=.ok res w
structure Qwa (P:Program) (kt:TypeId) (key:Value):Prop where
 check:∀ (w:World) (em:Bool),(Instr.checkKey em 10000 kt key).run P w=.ok () w
 stays:∀ w:World,(Instr.keyThatStays key key).run P w=.ok key w
theorem Qns {a b:KC} (h:a.val=b.val):a=b:=by
 cases a<;>cases b<;>simp only[KC.val] at h<;>grind
theorem Wj:∀ {a b:List KC},a.map KC.val=b.map KC.val->a=b
 | [],[],_=>rfl
 | [],_::_,h=>by simp at h
 | _::_,[],h=>by simp at h
 | x::a,y::b,h=>by
   simp only[QKZ,List.cons.injEq] at h;rw[Qns h.1,Wj h.2]
theorem Qac {k:Option IntKind} {t:TypeId} (h:Wi P k t=true):P.plainKey t=true:=by
 unfold Wi at h;unfold Program.plainKey;split at h<;>simp_all
theorem QzN {k:Option IntKind} {t:TypeId} (h:Wi P k t=true) {c c':KC} (hc:c.kind=k) (hc':c'.kind=k) (d:Nat) (w:World):(Op.equalIn (d+1) t c.val c'.val).run P w=.ok (decide (c=c')) w:=by
 unfold Wi at h;split at h
 ·rename_i k1 k2 hu;cases c with
  | bool b=>cases hc
  | int k3 n =>
    cases c' with
    | bool b=>cases hc'
    | int k4 m =>
      simp only[KC.kind,Option.some.injEq] at hc hc';subst hc hc';rw[KC.val,KC.val,run_equalIn_int w d t _ _ _ _ hu];simp;rfl
 ·rename_i hu;cases c with
  | int k3 n=>cases hc
  | bool b =>
    cases c' with
    | int k4 m=>cases hc'
    | bool b' =>
      rw[KC.val,KC.val,run_equalIn_bool hu];simp;rfl
 cases h
theorem QnJ {k:Option IntKind} {t:TypeId} (h:Wi P k t=true) {c:KC} (hc:c.kind=k) (em:Bool) (n:Nat) (w:World):(Instr.checkKey em (n+1) t c.val).run P w=.ok () w:=by
 unfold Wi at h;split at h
 ·rename_i k1 k2 hu;cases c with
  | bool b=>cases hc
  | int k3 n=>simp[KC.val,Instr.checkKey,run_underlying hu]
 ·rename_i hu;cases c with
  | int k3 n=>cases hc
  | bool b=>simp[KC.val,Instr.checkKey,run_underlying hu]
 cases h
theorem QmA (w:World) (d:Nat) (vs us:Array Value):∀ (fs:List Field) (i:Nat) (ks:List (Option IntKind)) (cs ds:List KC),XW P i ks fs=true->cs.map KC.kind=ks->ds.map KC.kind=ks ->
  (∀ (j:Nat) (c:KC),cs[j]?=some c->vs[i+j]?=some c.val)->(∀ (j:Nat) (c:KC),ds[j]?=some c->us[i+j]?=some c.val)->(Op.eqFields (d+1) vs us fs).run P w=.ok (decide (cs=ds)) w
 | [],i,ks,cs,ds,h,hc,hd,_,_=>by
   cases ks with
   | cons k ks=>simp[XW] at h
   | nil =>
     simp only[List.map_eq_nil_iff] at hc hd;subst hc hd;simp[Op.eqFields]
 | f::fs,i,ks,cs,ds,h,hc,hd,hv,hu=>by
   cases ks with
   | nil=>simp[XW] at h
   | cons k ks =>
     cases cs with
     | nil=>cases hc
     | cons c cs =>
       cases ds with
       | nil=>cases hd
       | cons e ds =>
         simp only[QKZ,List.cons.injEq] at hc hd;simp only[XW,QKI,bne_iff_ne,ne_eq,beq_iff_eq] at h;obtain ⟨⟨⟨hn,ho⟩,hk⟩,hr⟩:=h;have p1:(part f.type vs f.offset).run P w=.ok c.val w:=run_part_plain w (Qac hk) (by rw[ho];exact hv 0 c rfl);have p2:(part f.type us f.offset).run P w=.ok e.val w:=run_part_plain w (Qac hk) (by rw[ho];exact hu 0 e rfl);have q:=QzN hk hc.1 hd.1 d w;have ih:=QmA w d vs us fs (i+1) ks cs ds hr hc.2 hd.2 (fun j c hj=>by rw[show i+1+j=i+(j+1) by omega];exact hv (j+1) c hj) (fun j c hj=>by rw[show i+1+j=i+(j+1) by omega];exact hu (j+1) c hj);simp only[Op.eqFields,hn,not_false_iff,ne_eq,if_true,Sem.run_bind,p1,p2,q,Result.andThen,Sem.run_ite];by_cases hce:c=e
         ·simp[hce,ih]
         simp[hce]
theorem QdM (w:World) (em:Bool) (n:Nat) (vs:Array Value):∀ (fs:List Field) (i:Nat) (ks:List (Option IntKind)) (cs:List KC),XW P i ks fs=true->cs.map KC.kind=ks->(∀ (j:Nat) (c:KC),cs[j]?=some c->vs[i+j]?=some c.val) ->
  (forIn fs PUnit.unit fun f _=>(do
    if f.name ≠ "_" then
     Instr.checkKey em (n+1) f.type (<- part f.type vs f.offset)
     pure (ForInStep.yield PUnit.unit)
    else pure (ForInStep.yield PUnit.unit):Sem (ForInStep PUnit))).run P w=.ok PUnit.unit w
 | [],i,ks,cs,h,hc,_=>by simp
 | f::fs,i,ks,cs,h,hc,hv=>by
   cases ks with
   | nil=>simp[XW] at h
   | cons k ks =>
     cases cs with
     | nil=>cases hc
     | cons c cs =>
       simp only[QKZ,List.cons.injEq] at hc;simp only[XW,QKI,bne_iff_ne,ne_eq,beq_iff_eq] at h;obtain ⟨⟨⟨hn,ho⟩,hk⟩,hr⟩:=h;have p1:(part f.type vs f.offset).run P w=.ok c.val w:=run_part_plain w (Qac hk) (by rw[ho];exact hv 0 c rfl);have q:=QnJ hk hc.1 em n w;have ih:=QdM w em n vs fs (i+1) ks cs hr hc.2 (fun j c hj=>by rw[show i+1+j=i+(j+1) by omega];exact hv (j+1) c hj);simp only[List.forIn_cons,Sem.run_bind,hn,ne_eq,not_false_iff,if_true,p1,q,Result.andThen,Sem.run_pure];simpa using ih
theorem QnR {kt:TypeId} {fs:Array Field} {ks:List (Option IntKind)} {cs:List KC} (hu:P.underlying kt=some (.struct fs)) (h:XW P 0 ks fs.toList=true) (hc:cs.map KC.kind=ks) (w:World) (em:Bool) (n:Nat) :
  (Instr.checkKey em (n+2) kt (MK.agg cs).val).run P w=.ok () w:=by
 have:=QdM w em n (cs.map KC.val).toArray fs.toList 0 ks cs h hc (fun j c hj=>by simp[hj]);unfold Instr.checkKey;simp only[MK.val,Sem.run_bind,run_underlying hu,Result.andThen_ok];rw[<- Array.forIn_toList];rw[this];rfl
theorem QqO (n:Nat) (c:KC):Instr.sameBits n c.val c.val=true:=by
 cases c<;>cases n<;>simp[KC.val,Instr.sameBits]
theorem Qu4 (cs:List KC):Instr.sameBits 10000 (MK.agg cs).val (MK.agg cs).val=true:=by
 have h:∀ n,Instr.sameBits (n+1) (MK.agg cs).val (MK.agg cs).val=true:=fun n=>by
  simp only[MK.val,Instr.sameBits,beq_self_eq_true,Bool.true_and,QLk];intro p hp;obtain ⟨x,y⟩:=p;obtain ⟨j,hj⟩:=List.mem_iff_getElem?.1 hp;rw[List.getElem?_zip_eq_some] at hj;obtain ⟨h1,h2⟩:=hj;rw[h1] at h2;injection h2 with h2;simp only at h1 h2;subst h2;simp only[QKN,QKK] at h1;obtain ⟨c,_,rfl⟩:=h1;exact QqO _ _
 exact h 9999
theorem Vj {kk:KK} {t:TypeId} (ht:qP P kk t=true) {k:MK} (hk:k.kind=kk):Qwa P t k.val:=by
 unfold qP at ht;split at ht
 ·rename_i k1 k2 hu;cases k with
  | int k n =>
    simp only[MK.kind,KK.int.injEq,beq_iff_eq] at hk ht;subst hk ht;exact ⟨fun w em=>MapKept.run_checkKey (P:=P) (w:=w) (k:=.int k n) hu rfl em 9999,fun w=>MapKept.run_keyThatStays (P:=P) (w:=w) (d:=.int k) (k:=.int k n) rfl⟩
  | str s=>cases hk
  | agg cs=>cases hk
 ·rename_i hu;cases k with
  | int k n=>cases hk
  | str s=>exact ⟨fun w em=>MapKept.run_checkKey (P:=P) (w:=w) (k:=.string ⟨s.toArray⟩) hu trivial em 9999,fun w=>MapKept.run_keyThatStays (P:=P) (w:=w) (d:=.string) (k:=.string ⟨s.toArray⟩) trivial⟩
  | agg cs=>cases hk
 ·rename_i ks fs hu;simp only[QKI] at ht;cases k with
  | int k n=>cases hk
  | str s=>cases hk
  | agg cs =>
    simp only[MK.kind,KK.agg.injEq] at hk;exact ⟨fun w em=>QnR hu ht.2 hk w em 9998,fun w=>by simp[Instr.keyThatStays,Qu4 cs]⟩
 cases ht
theorem Qc2 {kt:TypeId} {fs:Array Field} {ks:List (Option IntKind)} {cs:List KC} (hu:P.underlying kt=some (.struct fs)) (hst:P.stoodInHeld kt=false) (h:XW P 0 ks fs.toList=true) (hc:cs.map KC.kind=ks) :
  ∀ (l:List MapEntry) (i:Nat),(∀ x∈l,∃ ds:List KC,ds.map KC.kind=ks/\x.key=(MK.agg ds).val) ->
  ((∀ w,(Instr.findAsking kt (MK.agg cs).val l i).run P w=.ok none w)/\∀ x∈l,x.key≠(MK.agg cs).val)\/∃ j e,(∀ w,(Instr.findAsking kt (MK.agg cs).val l i).run P w=.ok (some (i+j,e.val)) w)/\l[j]?=some e/\e.key=(MK.agg cs).val
 | [],_,_=>.inl ⟨fun w=>by simp[Instr.findAsking],by simp⟩
 | e::es,i,hl=>by
   obtain ⟨ds,hd,hk⟩:=hl e (.head _);have q:∀ w,(Op.equal kt (MK.agg cs).val e.key).run P w=.ok (decide (cs=ds)) w:=fun w=>by
    have hfo:P.fieldsOf kt=fs:=by simp[Program.fieldsOf,hu]
    have h1:=run_equalIn_struct (P:=P) w 9999 kt (cs.map KC.val).toArray (ds.map KC.val).toArray (by rw[hfo];exact hu) hst;rw[hfo,QmA w 9998 _ _ fs.toList 0 ks cs ds h hc hd (fun j c hj=>by simp[hj]) (fun j c hj=>by simp[hj])] at h1;rw[hk];exact h1
   by_cases hcd:cs=ds
   ·subst hcd;exact .inr ⟨0,e,fun w=>by simp[Instr.findAsking,q],rfl,hk⟩
   have hne:e.key≠(MK.agg cs).val:=fun c=>hcd (by
    rw[hk] at c;simp only[MK.val,Value.agg.injEq] at c;exact (Wj (by simpa using congrArg Array.toList c)).symm)
   rcases Qc2 hu hst h hc es (i+1) (fun x hx=>hl x (.tail _ hx)) with ⟨h1,h2⟩ | ⟨j,e',h1,h2,h3⟩
   ·exact .inl ⟨fun w=>by simp[Instr.findAsking,q,hcd,h1],fun x hx=>by
     rcases QKU.1 hx with rfl | hx
     ·exact hne
     exact h2 x hx⟩
   exact .inr ⟨j+1,e',fun w=>by simp[Instr.findAsking,q,hcd,h1];omega,h2,h3⟩
theorem Uf {kk:KK} {kt:TypeId} (ht:qP P kk kt=true) {k:MK} (hk:k.kind=kk) (l:List MapEntry) (hl:∀ x∈l,∃ k':MK,k'.kind=kk/\x.key=k'.val) :
  (Qai P kt k.val l none/\∀ x∈l,x.key≠k.val)\/∃ j e,Qai P kt k.val l (some (j,e.val))/\l[j]?=some e/\e.key=k.val:=by
 have basic:∀ d,P.underlying kt=some d->MapKept.IsKey d k.val->(∀ x∈l,MapKept.IsKey d x.key)->(Qai P kt k.val l none/\∀ x∈l,x.key≠k.val)\/∃ j e,Qai P kt k.val l (some (j,e.val))/\l[j]?=some e/\e.key=k.val:=fun d hu h1 h2=>by
  rcases MapKept.findNow_spec h1 l 0 h2 with ⟨h3,h4⟩ | ⟨j,e,h3,h4,h5⟩
  ·exact .inl ⟨fun w=>MapKept.run_findKey (P:=P) (w:=w) hu h3,h4⟩
  exact .inr ⟨j,e,fun w=>by rw[MapKept.run_findKey (P:=P) (w:=w) hu h3];simp,h4,h5⟩
 unfold qP at ht;split at ht
 ·rename_i k1 k2 hu;have hik:∀ k':MK,k'.kind=.int k1->MapKept.IsKey (.int k2) k'.val:=fun k' hk'=>by
   cases k' with
   | int k n=>simp only[MK.kind,KK.int.injEq,beq_iff_eq] at hk' ht;subst hk' ht;rfl
   | str s=>cases hk'
   | agg cs=>cases hk'
  exact basic _ hu (hik k hk) fun x hx=>by
   obtain ⟨k',h1,h2⟩:=hl x hx;rw[h2];exact hik k' h1
 ·rename_i hu;have hik:∀ k':MK,k'.kind=.str->MapKept.IsKey .string k'.val:=fun k' hk'=>by
   cases k' with
   | int k n=>cases hk'
   | str s=>exact trivial
   | agg cs=>cases hk'
  exact basic _ hu (hik k hk) fun x hx=>by
   obtain ⟨k',h1,h2⟩:=hl x hx;rw[h2];exact hik k' h1
 ·rename_i ks fs hu;simp only[QKI,QLb] at ht;cases k with
  | int k n=>cases hk
  | str s=>cases hk
  | agg cs =>
    simp only[MK.kind,KK.agg.injEq] at hk;have hf:∀ w,(Instr.findKey kt (MK.agg cs).val l).run P w=(Instr.findAsking kt (MK.agg cs).val l).run P w:=fun w=>run_findKey_eq w (by rw[hu]) _ _
    rcases Qc2 hu ht.1 ht.2 hk l 0 (fun x hx=>by
     obtain ⟨k',h1,h2⟩:=hl x hx;cases k' with
     | int k n=>cases h1
     | str s=>cases h1
     | agg ds=>exact ⟨ds,by simpa[MK.kind] using h1,h2⟩) with ⟨h1,h2⟩ | ⟨j,e,h1,h2,h3⟩
    ·exact .inl ⟨fun w=>by rw[hf,h1],h2⟩
    exact .inr ⟨j,e,fun w=>by rw[hf,h1];simp,h2,h3⟩
 cases ht
theorem Qhi {α:Type} {kk:KK}:∀ {kvs:List (MK × α)},QP kk kvs->∀ {i:Nat} {p:MK × α},kvs[i]?=some p->p.1.kind=kk
 | [],_,i,p,h=>by simp at h
 | q::r,hk,i,p,h=>by
   cases i with
   | zero=>simp at h;subst h;exact hk.1
   | succ i=>exact Qhi hk.2 (by simpa using h)
theorem Ql2 {ok:Nat->Prop}:∀ {cs:List IV} {l:List KC} {vs:List Value},Qhj cs=some l->vs.length=cs.length->(∀ (k:Nat) (x:IV) (u:Value),cs[k]?=some x->vs[k]?=some u->QF ok w x u)->vs=l.map KC.val
 | [],l,vs,h,hl,_=>by
   simp only[Qhj,Option.some.injEq] at h;subst h;simpa using hl
 | x::cs,l,[],h,hl,_=>by simp at hl
 | x::cs,l,v::vs,h,hl,hx=>by
   simp only[Qhj] at h;split at h
   ·rename_i c l' h1 h2;injection h with h;subst h;have r:=hx 0 x v rfl rfl;have ih:=Ql2 h2 (by simpa using hl) (fun k y u a b=>hx (k+1) y u (by simpa using a) (by simpa using b));have hc:v=c.val:=by
     unfold QBs at h1;split at h1
     ·injection h1 with h1;subst h1;cases r;rfl
     ·injection h1 with h1;subst h1;cases r;rfl
     cases h1
    rw[ih,hc];rfl
   cases h
theorem XF {kk x k} (h:keyOf kk x=some k):k.kind=kk/\∀ {ok u},QA ok w lo L x u->u=k.val:=by
 unfold keyOf at h;split at h
 ·split at h
  ·rename_i hk;injection h with h;subst h;exact ⟨hk.symm,fun r=>Zy r⟩
  cases h
 ·split at h
  ·rename_i hk;injection h with h;subst h;exact ⟨hk.symm,fun r=>JE r⟩
  cases h
 ·split at h
  ·rename_i l hl;split at h
   ·rename_i hk;injection h with h;subst h;refine ⟨hk.symm,fun r=>?_⟩;cases r with
    | iv _ _ r =>
      cases r with
      | agg _ vs h1 h2 h3=>rw[MK.val,Ql2 hl h1 h3]
   cases h
  cases h
 ·cases h
theorem Qwn {a b:MK} (h:a.val=b.val):a=b:=by
 cases a<;>cases b<;>simp only[MK.val] at h
 case agg.agg cs ds =>
  simp only[Value.agg.injEq] at h;exact congrArg MK.agg (Wj (by simpa using congrArg Array.toList h))
 all_goals grind
theorem Z5 {α:Type} {k:MK}:∀ {kvs:List (MK × α)} {y:α},Qh k kvs=some y->∃ i:Nat,kvs[i]?=some (k,y)
 | [],y,h=>by simp[Qh] at h
 | p::r,y,h=>by
   unfold Qh at h;split at h
   ·rename_i hk;injection h with h;exact ⟨0,by obtain ⟨a,b⟩:=p;simp at hk h;subst hk h;rfl⟩
   ·obtain ⟨i,hi⟩:=Z5 h;exact ⟨i+1,by simpa using hi⟩
theorem Vf {α:Type} {k:MK}:∀ {kvs:List (MK × α)},(∀ (i j:Nat) (p q:MK × α),kvs[i]?=some p->kvs[j]?=some q->p.1=q.1->i=j)->∀ {i:Nat} {y:α},kvs[i]?=some (k,y)->Qh k kvs=some y
 | [],_,i,y,h=>by simp at h
 | p::r,hd,i,y,h=>by
   unfold Qh;cases i with
   | zero =>
     simp at h;subst h;simp
   | succ i =>
     have hne:p.1≠k:=fun e=>by
      have:=hd 0 (i+1) p (k,y) rfl h e;omega
     rw[if_neg hne];exact Vf (fun i j p q a b c=>by have:=hd (i+1) (j+1) p q (by simpa using a) (by simpa using b) c;omega) (by simpa using h)
theorem qJ {α:Type} {k:MK}:∀ {kvs:List (MK × α)},Qh k kvs=none->∀ (i:Nat) (p:MK × α),kvs[i]?=some p->p.1≠k
 | [],_,i,p,h=>by simp at h
 | q::r,hn,i,p,h=>by
   unfold Qh at hn;split at hn
   ·cases hn
   ·rename_i hk;cases i with
    | zero=>simp at h;subst h;exact hk
    | succ i=>exact qJ hn i p (by simpa using h)
theorem VU {kk:KK} {kt:TypeId} (ht:qP P kk kt=true) (key:Value):(Instr.findKey kt key []).run P w=.ok none w:=by
 unfold qP at ht;split at ht
 all_goals first | (rename_i hu;simp[Instr.findKey,run_underlying hu,Instr.findNow]) | cases ht
theorem Yg {α} {kk:KK} {kt:TypeId} {kvs:List (MK × α)} {n es clock} (hm:X4 n es clock (fun i=>(kvs[i]?).map (·.1))) (hn:n<=kvs.length)
  (hd:∀ (i j:Nat) (p q:MK × α),kvs[i]?=some p->kvs[j]?=some q->p.1=q.1->i=j) {k:MK} (hkt:qP P kk kt=true) (hk:k.kind=kk) (hks:QP kk kvs) :
  (Qai P kt k.val es.toList none/\∀ (i) (p:MK × α),i<n->kvs[i]?=some p->p.1≠k) \/
  ∃ (i:Nat) (e:MapEntry) (p:MK × α),Qai P kt k.val es.toList (some (i,e.val))/\i<n/\es[i]?=some e/\kvs[i]?=some p/\p.1=k/\e.key=k.val:=by
 have keyAt:∀ i e,es[i]?=some e->∃ p:MK × α,kvs[i]?=some p/\e.key=p.1.val/\i<n:=by
  intro i e he;obtain ⟨k',h1,h2⟩:=hm.keys i e he;rw[QKK] at h1;obtain ⟨p,h3,h4⟩:=h1;have:=(QKQ.1 he).1;rw[hm.size] at this;exact ⟨p,h3,by rw[h2,<- h4],this⟩
 rcases Uf hkt hk es.toList (fun x hx=>by
  obtain ⟨i,hi⟩:=QLj hx;obtain ⟨p,h1,h2,_⟩:=keyAt i x (by simpa using hi);exact ⟨p.1,Qhi hks h1,h2⟩) with ⟨h1,h2⟩ | ⟨j,e,h1,h2,h3⟩
 ·refine .inl ⟨h1,fun i p hi hp e=>?_⟩;have xa:i<es.size:=by rw[hm.size];exact hi
  have he:=QK7 xa;grind
 ·have he:es[j]?=some e:=by simpa using h2
  obtain ⟨p,h4,h5,h6⟩:=keyAt j e he;refine .inr ⟨j,e,p,by simpa using h1,h6,he,h4,Qwn (by rw[<- h5,h3]),h3⟩
theorem Uu {t kt et} {r es clock key z} {i:TypeInfo} {res} (hm:P.underlying t=some (.map kt et))
  (hb:w.heap[r]?=some (.map es clock)) (hk:Qwa P kt key) (hi:P.info? et=some i) (hz:i.zero=some z) (hf:Qai P kt key es.toList res) :
  (Instr.lookup t (.map (some r)) key false).run P w=.ok ((res.map (·.2)).getD z) w:=by
 have hc:=hk.check w es.isEmpty;have hff:=hf w;have hzz:(zeroValue et).run P w=.ok z w:=by simp[zeroValue,typeInfo,hi,hz]
 cases res with
 | none=>simp[Instr.lookup,run_underlying hm,MapKept.run_getObj_map hb,hc,hff,hzz]
 | some q=>simp[Instr.lookup,run_underlying hm,MapKept.run_getObj_map hb,hc,hff]
theorem JV {kk t e} (h:V3 P kk t=some e):∃ kt,P.underlying t=some (.map kt e)/\qP P kk kt=true:=by
 unfold V3 at h;grind
theorem WV {kk z t} (h:QAq P kk z t=true):∃ kt e i v,P.underlying t=some (.map kt e)/\qP P kk kt=true/\P.info? e=some i/\i.zero=some v/\z.isVal v=true:=by
 unfold QAq at h;split at h
 ·rename_i e he;obtain ⟨kt,h1,h2⟩:=JV he;grind
 ·cases h
theorem Qhc {kvs:List (MK × IV)} {es:Array MapEntry} {clock r:Nat} {t kt et:TypeId} {kk:KK} {k:MK} {z:Value} {zv:IV} {i:TypeInfo} {ok:Nat->Prop} (hm:P.underlying t=some (.map kt et))
  (hb:w.heap[r]?=some (.map es clock)) (hmr:X4 kvs.length es clock (fun i=>(kvs[i]?).map (·.1))) (hdd:∀ (i j:Nat) (p q:MK × IV),kvs[i]?=some p->kvs[j]?=some q->p.1=q.1->i=j)
  (hx:∀ (i:Nat) (e:MapEntry) (p:MK × IV),es[i]?=some e->kvs[i]?=some p->QF ok w p.2 e.val) (hkt:qP P kk kt=true) (hk:k.kind=kk) (hks:QP kk kvs)
  (hi:P.info? et=some i) (hz:i.zero=some z) (hzr:QF ok w zv z):∃ u,(Instr.lookup t (.map (some r)) k.val false).run P w=.ok u w/\QF ok w ((Qh k kvs).getD zv) u:=by
 have hik:=Vj hkt hk;rcases Yg hmr (QKJ _) hdd hkt hk hks with ⟨h1,h2⟩ | ⟨j,e,p,h1,_,h3,h4,h5,_⟩
 ·refine ⟨z,Uu hm hb hik hi hz h1,?_⟩;cases hf:Qh k kvs with
  | none=>exact hzr
  | some y =>
    obtain ⟨j,hj⟩:=Z5 hf;exact absurd rfl (h2 j _ (QKG.1 hj).1 hj)
 ·refine ⟨e.val,Uu hm hb hik hi hz h1,?_⟩;obtain ⟨a,y⟩:=p;simp only at h5;subst h5;rw[Vf hdd h4];exact hx j e _ h3 h4
theorem QtR {kk:KK} {z x k:Opd} (h:Rel ok0 N w0 lk lo a w L) (hf:YOp.fits P (.lki kk z x k) o.op=true) (he:evY lk lo (.lki kk z x k)=.ok s f v up) (hs:s):f/\QC P o ok0 N w0 lk lo a w v up:=by
 simp only[YOp.fits] at hf;split at hf
 ·rename_i t x' k' c ho;simp only[QKI,QLb] at hf;obtain ⟨⟨⟨hx,hk⟩,hc⟩,hz⟩:=hf;subst hc;have rx:=Opd.rep h hx;have rk:=Opd.rep h hk;simp only[evY] at he;split at he
  ·rename_i kvs key zv hxv hkv hzv;cases he;obtain ⟨kt,et,i,zz,hm,hkt,hi,hiz,hzz⟩:=WV hz;obtain ⟨hkk,hkval⟩:=XF (w:=w) (lo:=lo) (L:=L) hkv;have hik:=Vj hkt hkk;have hke:=hkval rk;rw[hxv] at rx;have hzr:QF (okL ok0 lo L) w zv zz:=by
    have:=Opd.repVal (ok:=okL ok0 lo L) (w:=w) (lo:=lo) (L:=L) (lk:=lk) hzz;rw[hzv] at this;exact Y7 this
   have ri:=Y7 rx;generalize hey:a.eval x'=xv at ri;cases ri with
   | mapn =>
     have hc:=hik.check w true;have hff:=VU (P:=P) (w:=w) hkt key.val;have hzz:(zeroValue et).run P w=.ok zz w:=by simp[zeroValue,typeInfo,hi,hiz]
     exact ⟨trivial,QC.pure h (u:=zz) (by simp[execOp,ho,hey,hke,Instr.lookup,run_underlying hm,hc,hff,hzz]) (.iv _ _ (by simpa[Qh] using hzr))⟩
   | map _ r es clock hok hr hmr hdd hxx =>
     obtain ⟨u,h1,h2⟩:=Qhc (P:=P) hm hr hmr hdd hxx hkt hkk hs hi hiz hzr;exact ⟨trivial,QC.pure h (u:=u) (by simp[execOp,ho,hey,hke,h1]) (.iv _ _ h2)⟩
  cases he
 ·cases hf
theorem QtS {id:Nat} {kk:KK} {z x k:Opd} (h:Rel ok0 N w0 lk lo a w L) (hf:YOp.fits P (.lkd id kk z x k) o.op=true) (he:evY lk lo (.lkd id kk z x k)=.ok s f v up) (hs:s):f/\QC P o ok0 N w0 lk lo a w v up:=by
 simp only[YOp.fits] at hf;split at hf
 ·rename_i t x' k' c ho;simp only[QKI,QLb] at hf;obtain ⟨⟨⟨hx,hk⟩,hc⟩,hz⟩:=hf;subst hc;have rx:=Opd.rep h hx;have rk:=Opd.rep h hk;simp only[evY] at he;split at he
  ·rename_i j key zv kvs hxv hkv hzv hid;split at he
   ·rename_i hji;subst hji;cases he;obtain ⟨kt,et,i,zz,hm,hkt,hi,hiz,hzz⟩:=WV hz;obtain ⟨hkk,hkval⟩:=XF (w:=w) (lo:=lo) (L:=L) hkv;have hik:=Vj hkt hkk;have hke:=hkval rk;rw[hxv] at rx;have hzr:QF (okL ok0 lo L) w zv zz:=by
     have:=Opd.repVal (ok:=okL ok0 lo L) (w:=w) (lo:=lo) (L:=L) (lk:=lk) hzz;rw[hzv] at this;exact Y7 this
    obtain ⟨_,b,hL,hv⟩:=Yv hid (Xq j) rx;have hob:=h.y9 _ _ hid;rw[hL] at hob;obtain ⟨hF,es,clock,hb,hmr,hdd,hxx⟩:=hob;obtain ⟨u,h1,h2⟩:=Qhc (P:=P) hm hb hmr hdd hxx hkt hkk hs hi hiz hzr;exact ⟨trivial,QC.pure h (u:=u) (by simp[execOp,ho,hv,hke,h1]) (.iv _ _ h2)⟩
   cases he
  cases he
 ·cases hf
theorem YH.isSl {Fr e sz v n xs} (h:YH Fr w e sz v n xs):Ev.isSl v=true:=by
 rcases h.own.2 with ⟨hv,_⟩ | ⟨g,cap,cur,hv,_⟩<;>rw[hv]<;>rfl
theorem qB {α β:Type} {kvs:List (MK × α)} {vals:List (MK × β)} (hk:vals.map (·.1)=kvs.map (·.1)) (hd:∀ (i j:Nat) (p q:MK × α),kvs[i]?=some p->kvs[j]?=some q->p.1=q.1->i=j) :
  ∀ (i j:Nat) (p q:MK × β),vals[i]?=some p->vals[j]?=some q->p.1=q.1->i=j:=by
 intro i j p q hp hq hpq;obtain ⟨p',h1,h2⟩:=Qal hk hp;obtain ⟨q',h3,h4⟩:=Qal hk hq;exact hd i j p' q' h1 h3 (by rw[h2,h4,hpq])
theorem Qn7 {α β:Type} {kvs:List (MK × α)} {vals:List (MK × β)} (hk:vals.map (·.1)=kvs.map (·.1)) {i:Nat} {p:MK × α} (hp:kvs[i]?=some p):∃ q,vals[i]?=some q/\q.1=p.1:=Qal hk.symm hp
theorem QtQ {id:Nat} {kk:KK} {x k:Opd} (h:Rel ok0 N w0 lk lo a w L) (hf:YOp.fits P (.lkr id kk x k) o.op=true) (he:evY lk lo (.lkr id kk x k)=.ok s f v up) (hs:s):f/\QC P o ok0 N w0 lk lo a w v up:=by
 simp only[YOp.fits] at hf;split at hf
 ·rename_i t x' k' c ho;simp only[QKI,QLb] at hf;obtain ⟨⟨⟨hx,hk⟩,hc⟩,hz⟩:=hf;subst hc;have rx:=Opd.rep h hx;have rk:=Opd.rep h hk;simp only[evY] at he;split at he
  ·rename_i j key e sz kvs hxv hkv hid;split at he
   ·rename_i hji;subst hji;cases he;obtain ⟨kt,et,i,zz,hm,hkt,hi,hiz,hzz⟩:=WV hz;obtain ⟨hkk,hkval⟩:=XF (w:=w) (lo:=lo) (L:=L) hkv;have hik:=Vj hkt hkk;have hke:=hkval rk;rw[hxv] at rx;have hzn:zz=.slice none 0 0:=by
     simp only[Opd.isVal] at hzz;unfold isN at hzz;grind
    subst hzn;obtain ⟨b,vals,hL,hv⟩:=VX hid (Xq j) rx;rcases hv with ⟨_,hv⟩ | ⟨_,_,hv,_⟩
    ·have hob:=h.y9 _ _ hid;rw[hL] at hob;obtain ⟨hF,⟨es,clock,hb,n,hn,hmr,hnew,hval⟩,hdd,hkv2,hrow,hap⟩:=hob;have hnk:n=kvs.length:=by
      rcases QLU n kvs.length with xa | hge
      ·have:=hnew n _ (QKF xa) (QKJ _);cases this
      omega
     have fin:∀ u,(Instr.lookup t (.map (some b)) key.val false).run P w=.ok u w->isSl u=true->u=(Qh key vals).getD (.slice none 0 0)->True/\QC P o ok0 N w0 lk lo a w (.yn j key ((Qh key kvs).getD []).length) none:=by
      intro u hr h1 h2;exact ⟨trivial,QC.pure h (u:=u) (by simp[execOp,ho,hv,hke,hr]) (.yn j key _ e sz kvs none b vals u hid hL h1 (QKJ _) fun _=>h2)⟩
     rcases Yg hmr hn hdd hkt hkk hs with ⟨h1,h2⟩ | ⟨i2,e2,p,h1,_,h3,h4,h5,_⟩
     ·refine fin _ (Uu hm hb hik hi hiz h1) rfl ?_;cases hf:Qh key vals with
      | none=>rfl
      | some y =>
        obtain ⟨j2,hj2⟩:=Z5 hf;obtain ⟨p,h3,h4⟩:=Qal hkv2 hj2;grind
     obtain ⟨q,h6,h7⟩:=Qn7 hkv2 h4;have h8:=hval i2 e2 q h3 h6 (by simp);obtain ⟨xs,h9,_⟩:=hrow i2 p q h4 h6;refine fin _ (Uu hm hb hik hi hiz h1) (by simp only[QLO,QLB];rw[h8];exact h9.isSl) ?_;have:vals[i2]?=some (key,q.2):=by rw[h6,<- h5,<- h7]
     rw[Vf (qB hkv2 hdd) this];exact h8
    cases hv
   cases he
  cases he
 ·cases hf
theorem JS {α:Type} {k:MK} {y:α}:∀ {kvs:List (MK × α)},(∀ (i:Nat) (p:MK × α),kvs[i]?=some p->p.1≠k)->zn k y kvs=kvs++[(k,y)]
 | [],_=>rfl
 | p::r,h=>by
   unfold zn;rw[if_neg (h 0 p rfl),JS (fun i p hp=>h (i+1) p (by simpa using hp))];rfl
theorem V2 {α:Type} {k:MK} {y:α}:∀ {kvs:List (MK × α)},(∀ (i j:Nat) (p q:MK × α),kvs[i]?=some p->kvs[j]?=some q->p.1=q.1->i=j)->∀ {i:Nat} {p:MK × α},kvs[i]?=some p->p.1=k->zn k y kvs=kvs.set i (k,y)
 | [],_,i,p,h,_=>by simp at h
 | q::r,hd,i,p,h,hk=>by
   unfold zn;cases i with
   | zero =>
     simp at h;subst h;rw[if_pos hk];rfl
   | succ i =>
     have hne:q.1≠k:=fun e=>by
      have:=hd 0 (i+1) q p rfl h (by rw[e,hk]);omega
     rw[if_neg hne,V2 (fun i j p q a b c=>by have:=hd (i+1) (j+1) p q (by simpa using a) (by simpa using b) c;omega) (by simpa using h) hk]
     rfl
theorem X9 {t kt et} {r es clock key value} (hm:P.underlying t=some (.map kt et)) (hb:w.heap[r]?=some (.map es clock))
  (hk:Qwa P kt key) (hf:Qai P kt key es.toList none) :
  (Instr.mapUpdate t (.map (some r)) key value).run P w=.ok () { w with heap:=w.heap.setIfInBounds r (.map (es.push { key,val:=value,born:=clock }) (clock+1)) }:=by
 simp[Instr.mapUpdate,run_underlying hm,MapKept.run_getObj_map hb,hk.check w false,hf w,MapKept.run_setObj_map _ hb]
theorem X8 {t kt et} {r i es clock key value e} (hm:P.underlying t=some (.map kt et)) (hb:w.heap[r]?=some (.map es clock))
  (hk:Qwa P kt key) (hf:Qai P kt key es.toList (some (i,e.val))) (he:es[i]?=some e) (hek:e.key=key) :
  (Instr.mapUpdate t (.map (some r)) key value).run P w=.ok () { w with heap:=w.heap.setIfInBounds r (.map (es.modify i fun e=>{ e with key,val:=value }) clock) }:=by
 simp[Instr.mapUpdate,run_underlying hm,MapKept.run_getObj_map hb,hk.check w false,hf w,he,hek,hk.stays,MapKept.run_setObj_map _ hb]
theorem Qe0 {n es clock key key' k u} (h:X4 n es clock key) (hk:∀ i,i<n->key' i=key i) (hn:key' n=some k) :
  X4 (n+1) (es.push { key:=k.val,val:=u,born:=clock }) (clock+1) key':=by
 refine ⟨by simp[h.size],fun i e he=>?_,fun i e he=>?_,?_⟩
 ·rw[QL6] at he;split at he
  ·rename_i hi;injection he with he;subst he;exact ⟨k,by rw[hi,h.size];exact hn,rfl⟩
  have:=(QKQ.1 he).1;rw[hk i (by rw[<- h.size];exact this)];exact h.keys i e he
 ·rw[QL6] at he;split at he
  ·rename_i hi;injection he with he;subst he;rw[hi,h.size];exact h.clk
  exact h.stamp i e he
 ·rw[h.clk]
theorem qF {n:Nat} {es:Array MapEntry} {clock:Nat} {key:Nat->Option MK} {k:MK} {u:Value} {i0:Nat} {e0:MapEntry} (h:X4 n es clock key) (h0:es[i0]?=some e0) (hk:e0.key=k.val) :
  X4 n (es.modify i0 fun e:MapEntry=>{ e with key:=k.val,val:=u }) clock key/\(∀ (i:Nat) (e:MapEntry),i≠i0->(es.modify i0 fun e:MapEntry=>{ e with key:=k.val,val:=u })[i]?=some e->es[i]?=some e) /\
   ∀ e:MapEntry,(es.modify i0 fun e:MapEntry=>{ e with key:=k.val,val:=u })[i0]?=some e->e.val=u:=by
 have get:∀ (i:Nat) (e:MapEntry),(es.modify i0 fun e:MapEntry=>{ e with key:=k.val,val:=u })[i]?=some e->∃ e':MapEntry,es[i]?=some e'/\e.key=e'.key/\e.born=e'.born:=by
  grind
 refine ⟨⟨by simp[h.size],fun i e he=>?_,fun i e he=>?_,h.clk⟩,fun i e hi he=>?_,fun e he=>?_⟩
 ·obtain ⟨e',h1,h2,_⟩:=get i e he;rw[h2];exact h.keys i e' h1
 ·obtain ⟨e',h1,_,h3⟩:=get i e he;rw[h3];exact h.stamp i e' h1
 all_goals grind
theorem UB {α:Type} {k:MK} {y:α} {kvs:List (MK × α)} (hd:∀ (i j:Nat) (p q:MK × α),kvs[i]?=some p->kvs[j]?=some q->p.1=q.1->i=j) :
  ∀ (i j:Nat) (p q:MK × α),(zn k y kvs)[i]?=some p->(zn k y kvs)[j]?=some q->p.1=q.1->i=j:=by
 cases hf:Qh k kvs with
 | none =>
   have hn:=qJ hf;rw[JS hn];grind
 | some y0 =>
   obtain ⟨i0,h0⟩:=Z5 hf;rw[V2 hd h0 rfl];grind
theorem QlV {α β k} {y:α} {y':β} {kvs:List (MK × α)} {vals:List (MK × β)} (h:vals.map (·.1)=kvs.map (·.1)):(zn k y' vals).map (·.1)=(zn k y kvs).map (·.1):=by
 induction kvs generalizing vals with
 | nil =>
   have:vals=[]:=by simpa using h
   subst this;rfl
 | cons p r ih =>
   cases vals with
   | nil=>simp at h
   | cons q s =>
     simp only[QKZ,List.cons.injEq] at h;simp only[zn,h.1];split
     ·simp[h.2]
     ·simp only[QKZ,h.1,ih h.2]
theorem XS {α k} {y:α}:∀ (kvs:List (MK × α)),Qh k (zn k y kvs)=some y
 | []=>by simp[zn,Qh]
 | p::r=>by
   unfold zn;split
   ·simp[Qh]
   rename_i h;simp only[Qh,if_neg h];exact XS r
theorem Vg {α k k'} {y:α} (hk:k'≠k):∀ (kvs:List (MK × α)),Qh k' (zn k y kvs)=Qh k' kvs
 | []=>by simp[zn,Qh,Ne.symm hk]
 | p::r=>by
   unfold zn;split
   ·rename_i h;simp only[Qh,h,if_neg (Ne.symm hk)]
   ·simp only[Qh,Vg hk r]
theorem QoJ {id kk x k y} {op:Op} (hf:YOp.fits P (.mupd id kk x k y) op=true):∃ t x' k' v',(op=.mapUpdate t x' k' v'\/op=.insert t x' k' v')/\(x.is x'&&k.is k'&&y.is v'&&(V3 P kk t).isSome)=true:=by
 simp only[YOp.fits] at hf;grind
theorem Qqz {id:Nat} {kk:KK} {x k y:Opd} (h:Rel ok0 N w0 lk lo a w L) (hf:YOp.fits P (.mupd id kk x k y) o.op=true) (he:evY lk lo (.mupd id kk x k y)=.ok s f v up) (hs:s):f/\QC P o ok0 N w0 lk lo a w v up:=by
 obtain ⟨t,x',k',v',ho,hf⟩:=QoJ hf
 ·simp only[QKI] at hf;obtain ⟨⟨⟨hx,hk⟩,hy⟩,hm⟩:=hf;have rx:=Opd.rep h hx;have rk:=Opd.rep h hk;have ry:=Opd.rep h hy;simp only[evY] at he;split at he
  ·rename_i j key yv kvs hxv hkv hyv hid;split at he
   ·rename_i hji;subst hji;cases he;cases hmt:V3 P kk t with
    | none=>rw[hmt] at hm;cases hm
    | some et =>
    obtain ⟨kt,hmu,hkt⟩:=JV hmt;obtain ⟨hkk,hkval⟩:=XF (w:=w) (lo:=lo) (L:=L) hkv;have hik:=Vj hkt hkk;have hke:=hkval rk;rw[hxv] at rx;rw[hyv] at ry;have ryi:=Y7 ry;obtain ⟨_,b,hL,hv⟩:=Yv hid (Xq j) rx;have hob:=h.y9 _ _ hid;rw[hL] at hob;obtain ⟨hF,es,clock,hb,hmr,hdd,hxx⟩:=hob
    have fin:∀ (es':Array MapEntry) (clock':Nat),(Instr.mapUpdate t (.map (some b)) key.val (a.eval v')).run P w=.ok () { w with heap:=w.heap.setIfInBounds b (.map es' clock') } ->
      X4 (zn key yv kvs).length es' clock' (fun i=>((zn key yv kvs)[i]?).map (·.1)) ->
      (∀ (i:Nat) (e:MapEntry) (p:MK × IV),es'[i]?=some e->(zn key yv kvs)[i]?=some p->QF (okL ok0 lo L) w p.2 e.val)->True/\QC P o ok0 N w0 lk lo a w (.iv .any) (some (j,.xg (zn key yv kvs))):=by
     intro es' clock' hrun hmr' hx';refine ⟨trivial,.skip,undef,{ w with heap:=w.heap.setIfInBounds b (.map es' clock') },QV L j (.one b),?_,.inr ⟨rfl,rfl⟩,h.turnOne (ob':=.xg (zn key yv kvs)) hid hL (Y2 w b _) (fun ok lo' L' x'' u h1 h2 hx'' hr=>?_) (fun ok lo' L' hok _=>?_),?_⟩
     ·rcases ho with ho | ho<;>simp[execOp,ho,hv,hke,hrun]
     ·obtain ⟨rfl,b',hL',rfl⟩:=Yv hid hx'' hr;grind
     ·refine ⟨hF,es',clock',?_,hmr',UB hdd,fun i e p h1 h2=>(hx' i e p h1 h2).mono fun b' hb' xa=>hok b' hb' xa⟩;grind
     exact .iv _ _ (.any _)
    rcases Yg hmr (QKJ _) hdd hkt hkk hs with ⟨h1,h2⟩ | ⟨i2,e2,p,h1,hi2,h3,h4,h5,h6⟩
    ·have hn:∀ (i:Nat) (p:MK × IV),kvs[i]?=some p->p.1≠key:=fun i p hp=>h2 i p (QKG.1 hp).1 hp;refine fin _ _ (X9 hmu hb hik h1) ?_ ?_
     ·rw[JS hn,QKP,List.length_singleton]
      exact Qe0 (key':=fun (i:Nat)=>((kvs++[(key,yv)])[i]?).map (fun p:MK × IV=>p.1)) hmr (fun i hi=>by simp only[QKS hi]) (by simp)
     rw[JS hn];intro i e p he hp;rw[QL6] at he;have hsz:=hmr.size;split at he
     ·rename_i hi;injection he with he;subst he;rw[hi,hsz] at hp;simp at hp;subst hp;exact ryi
     grind
    obtain ⟨hr1,hr2,hr3⟩:=qF (u:=a.eval v') hmr h3 h6;refine fin _ _ (X8 hmu hb hik h1 h3 h6) ?_ ?_
    ·rw[V2 hdd h4 h5,List.length_set]
     have:(fun (i:Nat)=>((kvs.set i2 (key,yv))[i]?).map (fun p:MK × IV=>p.1))=fun (i:Nat)=>(kvs[i]?).map (fun p:MK × IV=>p.1):=by
      funext i;rw[QL2]
      grind
     rw[this];exact hr1
    rw[V2 hdd h4 h5];intro i e p' he hp;rw[QL2] at hp;grind
   cases he
  ·cases he
theorem QoM {α:Type} {k:MK}:∀ {kvs:List (MK × α)} {i:Nat} {p:MK × α},(∀ (i j:Nat) (p q:MK × α),kvs[i]?=some p->kvs[j]?=some q->p.1=q.1->i=j)->kvs[i]?=some p->p.1=k->QnV k kvs=i
 | [],i,p,_,h,_=>by simp at h
 | q::r,i,p,hd,h,hk=>by
   unfold QnV;split
   ·rename_i hq;exact hd 0 i q p rfl h (by rw[hq,hk])
   rename_i hq;cases i with
   | zero =>
     simp at h;subst h;exact absurd hk hq
   | succ i =>
     rw[QoM (p:=p) (i:=i) (fun a b c d h1 h2 h3=>by have:=hd (a+1) (b+1) c d (by simpa using h1) (by simpa using h2) h3;omega) (by simpa using h) hk]
theorem Qg7 {α:Type} {k:MK}:∀ {kvs:List (MK × α)},(∀ (i:Nat) (p:MK × α),kvs[i]?=some p->p.1≠k)->QnV k kvs=kvs.length
 | [],_=>rfl
 | q::r,h=>by
   unfold QnV;rw[if_neg (h 0 q rfl),Qg7 fun i p hp=>h (i+1) p (by simpa using hp)];rfl
theorem QoK {α:Type} {y:α}:∀ {kvs:List (MK × α)} {n:Nat} {p:MK × α},kvs[n]?=some p->QwZ y n kvs=kvs.set n (p.1,y)
 | [],n,p,h=>by simp at h
 | q::r,0,p,h=>by
   simp at h;subst h;rfl
 | q::r,n+1,p,h=>by
   unfold QwZ;rw[QoK (kvs:=r) (by simpa using h)];rfl
theorem WT {α:Type} {k:MK} {y z:α}:∀ kvs:List (MK × α),QwZ y (QnV k kvs) (zn k z kvs)=zn k y kvs
 | []=>rfl
 | p::r=>by
   unfold QnV zn;split
   ·rfl
   simp only[QwZ,WT r]
theorem Qfb {α:Type} {k:MK} {z:α}:∀ kvs:List (MK × α),QnV k kvs<(zn k z kvs).length
 | []=>by simp[QnV,zn]
 | p::r=>by
   unfold QnV zn;split
   ·simp
   have:=Qfb (k:=k) (z:=z) r;simp only[QKV];omega
theorem Qnm {es:Array MapEntry} {i:Nat} {e:MapEntry} {k:Value} (he:es[i]?=some e) (hk:e.key=k):(es.modify i fun e=>{ e with key:=k })=es:=by
 apply Array.ext_getElem?;intro j;rw[QL9];split
 ·rename_i hj;subst hj hk;rw[he];rfl
 rfl
theorem QaQ {t kt et} {r:Nat} {es:Array MapEntry} {clock:Nat} {key z:Value} {i:TypeInfo} (hm:P.underlying t=some (.map kt et)) (hb:w.heap[r]?=some (.map es clock))
  (hk:Qwa P kt key) (hi:P.info? et=some i) (hz:i.zero=some z) (hf:Qai P kt key es.toList none) :
  (Instr.mapEntry t (.map (some r)) key).run P w=.ok (.tuple #[z,goInt clock]) { w with heap:=w.heap.setIfInBounds r (.map (es.push { key,val:=z,born:=clock }) (clock+1)) }:=by
 have hzz:(zeroValue et).run P w=.ok z w:=by simp[zeroValue,typeInfo,hi,hz]
 simp[Instr.mapEntry,run_underlying hm,MapKept.run_getObj_map hb,hk.check w false,hf w,hzz,MapKept.run_setObj_map _ hb]
theorem QaP {t kt et} {r i:Nat} {es:Array MapEntry} {clock:Nat} {key:Value} {e:MapEntry} (hm:P.underlying t=some (.map kt et)) (hb:w.heap[r]?=some (.map es clock))
  (hk:Qwa P kt key) (hf:Qai P kt key es.toList (some (i,e.val))) (he:es[i]?=some e) (hek:e.key=key) :
  (Instr.mapEntry t (.map (some r)) key).run P w=.ok (.tuple #[e.val,goInt e.born]) { w with heap:=w.heap.setIfInBounds r (.map es clock) }:=by
 have:=Qnm he hek;simp[Instr.mapEntry,run_underlying hm,MapKept.run_getObj_map hb,hk.check w false,hf w,he,hek,hk.stays,MapKept.run_setObj_map _ hb,this]
theorem Qdb {t:TypeId} {r:Nat} {es:Array MapEntry} {clock:Nat} {u:Value} {n:Nat} (hb:w.heap[r]?=some (.map es clock)) (hs:∀ (i:Nat) (e:MapEntry),es[i]?=some e->e.born=i) (hn:n<es.size) :
  (Instr.entryStore t (.map (some r)) (.int .i64 n) u).run P w=.ok () { w with heap:=w.heap.setIfInBounds r (.map (es.modify n fun e=>{ e with val:=u }) clock) }:=by
 have hfi:es.findIdx? (fun e=>(e.born:Int)==(n:Int))=some n:=by
  rw[Array.findIdx?_eq_some_iff_getElem];refine ⟨hn,?_,fun j hj=>?_⟩
  ·have:=hs n es[n] (QK7 hn);simp[this]
  have:=hs j es[j] (QK7 (by omega));simp[this];omega
 simp[Instr.entryStore,MapKept.run_getObj_map hb,asInt,asIntOf,hfi,MapKept.run_setObj_map _ hb]
theorem QqA {id:Nat} {kk:KK} {z x k:Opd} (h:Rel ok0 N w0 lk lo a w L) (hf:YOp.fits P (.ment id kk z x k) o.op=true) (he:evY lk lo (.ment id kk z x k)=.ok s f v up) (hs:s):f/\QC P o ok0 N w0 lk lo a w v up:=by
 simp only[YOp.fits] at hf;split at hf
 ·rename_i t x' k' ho;simp only[QKI] at hf;obtain ⟨⟨hx,hk⟩,hz⟩:=hf;have rx:=Opd.rep h hx;have rk:=Opd.rep h hk;simp only[evY] at he;split at he
  ·rename_i j key zv kvs hxv hkv hzv hid;split at he
   ·rename_i hji;subst hji;cases he;obtain ⟨kt,et,i,zz,hmu,hkt,hi,hiz,hzz⟩:=WV hz;obtain ⟨hkk,hkval⟩:=XF (w:=w) (lo:=lo) (L:=L) hkv;have hik:=Vj hkt hkk;have hke:=hkval rk;rw[hxv] at rx;have hzr:QF (okL ok0 lo L) w zv zz:=by
     have:=Opd.repVal (ok:=okL ok0 lo L) (w:=w) (lo:=lo) (L:=L) (lk:=lk) hzz;rw[hzv] at this;exact Y7 this
    obtain ⟨_,b,hL,hv⟩:=Yv hid (Xq j) rx;have hob:=h.y9 _ _ hid;rw[hL] at hob;obtain ⟨hF,es,clock,hb,hmr,hdd,hxx⟩:=hob
    have fin:∀ (es':Array MapEntry) (clock':Nat) (u:Value) (n:Nat) (y:IV),(Instr.mapEntry t (.map (some b)) key.val).run P w=.ok (.tuple #[u,goInt n]) { w with heap:=w.heap.setIfInBounds b (.map es' clock') }->QF (okL ok0 lo L) w y u ->
      X4 (zn key y kvs).length es' clock' (fun i=>((zn key y kvs)[i]?).map (·.1)) ->
      (∀ (i:Nat) (e:MapEntry) (p:MK × IV),es'[i]?=some e->(zn key y kvs)[i]?=some p->QF (okL ok0 lo L) w p.2 e.val)->True/\QC P o ok0 N w0 lk lo a w (.iv (.xd [y,.int .i64 (n:Nat)])) (some (j,.xg (zn key y kvs))):=by
     intro es' clock' u n y hrun hyr hmr' hx';have hfr:∀ q,(okL ok0 lo L) q->q<w.heap.size->({ w with heap:=w.heap.setIfInBounds b (.map es' clock') }:World).heap[q]?=w.heap[q]?:=fun q hq _=>by
      have hne:b≠q:=fun e=>hq.2 _ _ hid (by rw[hL];simpa[Lay.has] using e);simp[QLN,hne]
     refine ⟨trivial,_,.tuple #[u,goInt n],{ w with heap:=w.heap.setIfInBounds b (.map es' clock') },QV L j (.one b),?_,.inl rfl,h.turnOne (ob':=.xg (zn key y kvs)) hid hL (Y2 w b _) (fun ok lo' L' x'' u h1 h2 hx'' hr=>?_) (fun ok lo' L' hok _=>?_),?_⟩
     ·simp[execOp,ho,hv,hke,hrun]
     ·obtain ⟨rfl,b',hL',rfl⟩:=Yv hid hx'' hr;grind
     ·refine ⟨hF,es',clock',?_,hmr',UB hdd,fun i e p h1 h2=>(hx' i e p h1 h2).mono fun b' hb' xa=>hok b' hb' xa⟩;grind
     refine .iv _ _ (.xd _ [u,goInt n] rfl fun q z v h1 h2=>?_)
     have hmv:∀ {z v},QF (okL ok0 lo L) w z v->QF (okL ok0 (Za lo j (.xg (zn key y kvs))) (QV L j (.one b))) { w with heap:=w.heap.setIfInBounds b (.map es' clock') } z v:=fun hr=>hr.mono fun c hc xa=>⟨⟨hc.1,fun i ob hi hbad=>by
      simp only[Za,QV] at hi hbad;split at hi
      ·rename_i hij;subst hij;simp only[if_true] at hbad;exact hc.2 i _ hid (by rw[hL];exact hbad)
      rename_i hij;simp only[hij,if_false] at hbad;exact hc.2 i ob hi hbad⟩,hfr c hc xa⟩
     match q with
     | 0 =>
       simp at h1 h2;subst h1 h2;exact hmv hyr
     | 1 =>
       simp at h1 h2;subst h1 h2;exact .int _ _
     | q+2=>simp at h1
    rcases Yg hmr (QKJ _) hdd hkt hkk hs with ⟨h1,h2⟩ | ⟨i2,e2,p,h1,hi2,h3,h4,h5,h6⟩
    ·have hn:∀ (i:Nat) (p:MK × IV),kvs[i]?=some p->p.1≠key:=fun i p hp=>h2 i p (QKG.1 hp).1 hp;have hmf:Qh key kvs=none:=by
      cases hf:Qh key kvs with
      | none=>rfl
      | some y =>
        obtain ⟨i3,h3⟩:=Z5 hf;exact absurd rfl (hn i3 _ h3)
     rw[hmf,Qg7 hn];refine fin _ _ zz _ zv (by have:=QaQ hmu hb hik hi hiz h1;rwa [show goInt clock=goInt kvs.length by rw[hmr.clk]] at this) hzr ?_ ?_
     ·rw[JS hn,QKP,List.length_singleton]
      exact Qe0 (key':=fun (i:Nat)=>((kvs++[(key,zv)])[i]?).map (fun p:MK × IV=>p.1)) hmr (fun i hi=>by simp only[QKS hi]) (by simp)
     rw[JS hn];intro i e p he hp;rw[QL6] at he;have hsz:=hmr.size;split at he
     ·rename_i hi;injection he with he;subst he;rw[hi,hsz] at hp;simp at hp;subst hp;exact hzr
     grind
    obtain ⟨pk,py⟩:=p;simp only at h5;subst h5;have hmf:=Vf hdd h4;have hset:zn pk py kvs=kvs:=by
     rw[V2 hdd h4 rfl];exact QMc fun q=>by rw[QL2];grind
    rw[hmf,QoM hdd h4 rfl];simp only[QLB];refine fin es clock e2.val i2 py (by have:=QaP hmu hb hik h1 h3 h6;rwa [hmr.stamp i2 e2 h3] at this) (hxx i2 e2 _ h3 h4) ?_ ?_
    ·rw[hset];exact hmr
    rw[hset];exact hxx
   cases he
  cases he
 cases hf
theorem QqE {id:Nat} {x k y:Opd} (h:Rel ok0 N w0 lk lo a w L) (hf:YOp.fits P (.ests id x k y) o.op=true) (he:evY lk lo (.ests id x k y)=.ok s f v up) (hs:s):f/\QC P o ok0 N w0 lk lo a w v up:=by
 simp only[YOp.fits] at hf;split at hf
 ·rename_i t x' k' v' ho;simp only[QKI] at hf;obtain ⟨⟨hx,hk⟩,hy⟩:=hf;have rx:=Opd.rep h hx;have rk:=Opd.rep h hk;have ry:=Opd.rep h hy;simp only[evY] at he;split at he
  ·rename_i j n yv kvs hxv hkv hyv hid;split at he
   ·rename_i hji;subst hji;cases he;rw[hxv] at rx;rw[hkv] at rk;rw[hyv] at ry;have ryi:=Y7 ry;have rki:=Y7 rk;obtain ⟨_,b,hL,hv⟩:=Yv hid (Xq j) rx;have hob:=h.y9 _ _ hid;rw[hL] at hob;obtain ⟨hF,es,clock,hb,hmr,hdd,hxx⟩:=hob;obtain ⟨m,rfl⟩:∃ m:Nat,n=m:=⟨n.toNat,by omega⟩;have hm:m<kvs.length:=by omega
    have hme:m<es.size:=by rw[hmr.size];exact hm
    have hrk:a.eval k'=.int .i64 m:=by
     generalize a.eval k'=u at rki;cases rki;rfl
    obtain ⟨q,hq,hqk⟩:=hmr.keys m es[m] (QK7 hme);have hq':kvs[m].1=q:=by
     rw[QKF hm] at hq;simpa using hq
    have hmod:(es.modify m fun e:MapEntry=>{ e with val:=a.eval v' })=es.modify m fun e:MapEntry=>{ e with key:=q.val,val:=a.eval v' }:=by
     apply Array.ext_getElem?;intro i;rw[QL9,QL9];split
     ·rename_i hi;subst hi;rw[QK7 hme];simp[hqk]
     rfl
    obtain ⟨hr1,hr2,hr3⟩:=qF (u:=a.eval v') hmr (QK7 hme) hqk;rw[<- hmod] at hr1 hr2 hr3;have hse:=QoK (y:=yv) (QKF hm);have hrun:=Qdb (P:=P) (t:=t) (u:=a.eval v') hb hmr.stamp hme;have hkeys:(fun (i:Nat)=>((kvs.set m (kvs[m].1,yv))[i]?).map (fun p:MK × IV=>p.1))=fun (i:Nat)=>(kvs[i]?).map (fun p:MK × IV=>p.1):=by
     funext i;rw[QL2]
     grind
    refine ⟨trivial,.skip,undef,{ w with heap:=w.heap.setIfInBounds b (.map (es.modify m fun e:MapEntry=>{ e with val:=a.eval v' }) clock) },QV L j (.one b),?_,.inr ⟨rfl,rfl⟩,h.turnOne (ob':=.xg (QwZ yv (Int.toNat m) kvs)) hid hL (Y2 w b _) (fun ok lo' L' x'' u h1 h2 hx'' hr=>?_) (fun ok lo' L' hok _=>?_),?_⟩
    ·simp[execOp,ho,hv,hrk,hrun]
    ·obtain ⟨rfl,b',hL',rfl⟩:=Yv hid hx'' hr;grind
    ·rw[QMn,hse]
     refine ⟨hF,es.modify m fun e:MapEntry=>{ e with val:=a.eval v' },clock,by grind,?_,?_,?_⟩
     ·rw[hkeys,List.length_set]
      exact hr1
     ·intro i1 j1 p1 q1 g1 g2 g3;rw[QL2] at g1 g2;grind
     intro i e p g1 g2;refine QF.mono (ok:=okL ok0 lo L) (w:=w) ?_ fun b' hb' xa=>hok b' hb' xa;rw[QL2] at g2;grind
    exact .iv _ _ (.any _)
   cases he
  cases he
 ·cases hf
theorem Qqy {id:Nat} {kk:KK} {x k y:Opd} (h:Rel ok0 N w0 lk lo a w L) (hf:YOp.fits P (.mupr id kk x k y) o.op=true) (he:evY lk lo (.mupr id kk x k y)=.ok s f v up) (hs:s):f/\QC P o ok0 N w0 lk lo a w v up:=by
 simp only[YOp.fits] at hf;split at hf
 ·rename_i t x' k' v' ho;simp only[QKI] at hf;obtain ⟨⟨⟨hx,hk⟩,hy⟩,hm⟩:=hf;have rx:=Opd.rep h hx;have rk:=Opd.rep h hk;have ry:=Opd.rep h hy;simp only[evY] at he;split at he
  ·rename_i j key i0 key0 m e sz kvs pk hxv hkv hyv hid;split at he
   ·rename_i hji;obtain ⟨rfl,rfl,rfl,rfl⟩:=hji;cases he;obtain ⟨hks0,hsome,hlen⟩:=hs;cases hmt:V3 P kk t with
    | none=>rw[hmt] at hm;cases hm
    | some et =>
    obtain ⟨kt,hmu,hkt⟩:=JV hmt;obtain ⟨hkk,hkval⟩:=XF (w:=w) (lo:=lo) (L:=L) hkv;have hik:=Vj hkt hkk;have hke:=hkval rk;rw[hxv] at rx;rw[hyv] at ry;obtain ⟨b,vals,hL,hv⟩:=VX hid (Xq _) rx;have hv:a.eval x'=.map (some b):=by
     grind
    obtain ⟨b2,vals2,hL2,hv2⟩:=VX hid (by simp[AV.refs]) ry;rw[hL] at hL2;injection hL2 with g1 g2;subst g1 g2;have hu:a.eval v'=(Qh pk vals).getD (.slice none 0 0):=by
     grind
    have hob:=h.y9 _ _ hid;rw[hL] at hob;obtain ⟨hF,⟨es,clock,hb,n,hn,hmr,hnew,hval⟩,hdd,hkv2,hrow,hap⟩:=hob;obtain ⟨y0,hy0⟩:=QLf.1 hsome;obtain ⟨i1,hi1⟩:=Z5 hy0;obtain ⟨q1,hq1,hq1k⟩:=Qn7 hkv2 hi1;have hvd:=qB hkv2 hdd;have hq1':vals[i1]?=some (pk,q1.2):=by rw[hq1];simp only at hq1k;rw[<- hq1k]
    have hu:a.eval v'=q1.2:=by rw[hu,Vf hvd hq1'];rfl
    have fin:∀ (es':Array MapEntry) (clock':Nat),(Instr.mapUpdate t (.map (some b)) pk.val (a.eval v')).run P w=.ok () { w with heap:=w.heap.setIfInBounds b (.map es' clock') } ->
      QrV kvs none vals es' clock'->True/\QC P o ok0 N w0 lk lo a w (.iv .any) (some (i0,.yo e sz kvs none)):=by
     intro es' clock' hrun hrows;have hl':∀ k,(Lay.map b vals).has k->(L i0).has k\/w.heap.size<=k:=fun k hk=>.inl (by rw[hL];exact hk);have hg:Qlj (L i0).has w { w with heap:=w.heap.setIfInBounds b (.map es' clock') }:=by
      obtain ⟨g1,g2,g3,g4,g5⟩:=Y2 w b (.map es' clock');exact ⟨g1,g2,g3,g4,fun k hk hn=>g5 k hk (fun e=>hn (by rw[hL];exact .inl e))⟩
     have hok:∀ k,okL ok0 lo L k->k<w.heap.size->okL ok0 (Za lo i0 (.yo e sz kvs none)) (QV L i0 (.map b vals)) k:=fun k hk xa=>h.okL_turn hid hl' hk xa;refine ⟨trivial,.skip,undef,{ w with heap:=w.heap.setIfInBounds b (.map es' clock') },QV L i0 (.map b vals),?_,.inr ⟨rfl,rfl⟩,h.turn (o':=.yo e sz kvs none) i0 hid hg hl' (fun x'' u hx'' hr=>?_) (fun _=>?_),?_⟩
     ·simp[execOp,ho,hv,hke,hrun]
     ·obtain ⟨b3,vals3,hL3,hr⟩:=VX hid hx'' hr;grind
     ·have xa:b<w.heap.size:=(QKQ.1 hb).1;refine ⟨hF,⟨es',clock',by simp[xa],hrows⟩,hdd,hkv2,fun i p q hp hq=>?_,hap⟩;obtain ⟨xs,h1,h2,h3,h4,h5⟩:=hrow i p q hp hq;refine ⟨xs,h1.stay fun b' hb'=>?_,h2,h3,h4,fun i j c x u a1 a2 a3=>(h5 i j c x u a1 a2 a3).mono fun b' hb' hlt'=>⟨hok b' hb' hlt',hg.block b' hlt' (hb'.2 i0 _ hid)⟩⟩;have:b≠b':=fun e=>h2 (by rw[hb',e]);simp[QLN,this]
     exact .iv _ _ (.any _)
    rcases Yg hmr hn hdd hkt hkk hks0 with ⟨h1,h2⟩ | ⟨i2,e2,p,h1,hi2,h3,h4,h5,h6⟩
    ·have hi1n:n<=i1:=by
      grind
     have hi1l:=(QKG.1 hi1).1;have only:∀ i,n<=i->i<kvs.length->i=i1:=fun i h3 h4=>by
      grind
     have hni:n=i1:=only n (QKJ _) (by omega);have hnl:kvs.length=n+1:=by
      rcases QLU (n+1) kvs.length with xa | hge
      ·have:=only (n+1) (by omega) xa;omega
      omega
     refine fin _ _ (X9 hmu hb hik h1) ⟨n+1,by omega,Qe0 (key':=fun (i:Nat)=>(kvs[i]?).map (fun p:MK × List (List IV)=>p.1)) hmr (fun _ _=>rfl) (by simp only[hni,hi1,QLO]),fun i p hp hi=>?_,fun i e q he hq _=>?_⟩
     ·have:=(QKG.1 hp).1;omega
     rw[QL6] at he;have hsz:=hmr.size;grind
    have hnl:n=kvs.length:=by
     rcases QLU n kvs.length with xa | hge
     ·have:=hnew n _ (QKF xa) (QKJ _);injection this with this;have:=hdd n i2 _ _ (QKF xa) h4 (by rw[h5,this]);omega
     omega
    obtain ⟨hr1,hr2,hr3⟩:=qF (u:=a.eval v') hmr h3 h6;refine fin _ _ (X8 hmu hb hik h1 h3 h6) ⟨n,hn,hr1,fun i p hp hi=>?_,fun i e q he hq _=>?_⟩
    ·have:=(QKG.1 hp).1;omega
    by_cases hii:i=i2
    all_goals grind
   cases he
  cases he
 ·cases hf
theorem QCh {α:Type}:∀ {es:List (List α)},(∀ c∈es,c.length=1)->es.flatten.length=es.length/\∀ (k:Nat) (x:α),es.flatten[k]?=some x->∃ c,es[k]?=some c/\c[0]?=some x
 | [],_=>⟨rfl,fun k x h=>by simp at h⟩
 | c::r,h=>by
   obtain ⟨h1,h2⟩:=QCh (es:=r) (fun c hc=>h c (QMp _ hc));obtain ⟨y,rfl⟩:∃ y,c=[y]:=by
    have:=h c (by simp)
    match c,this with
    | [y],_=>exact ⟨y,rfl⟩
   grind
theorem Qud {zs parts:List Opd} (h:Rel ok0 N w0 lk lo a w L) (hf:YOp.fits P (.bla zs parts) o.op=true) (he:evY lk lo (.bla zs parts)=.ok s f v up):f/\QC P o ok0 N w0 lk lo a w v up:=by
 simp only[YOp.fits] at hf;split at hf
 ·rename_i t ps ho;simp only[QKI] at hf;obtain ⟨ha,hsq⟩:=hf;simp only[evY] at he;split at he
  ·rename_i rows hr;split at he
   ·rename_i es hes;cases he;unfold QDd at ha;split at ha
    ·rename_i n e hu;simp only[QKI,beq_iff_eq] at ha;obtain ⟨⟨⟨hn,hsz⟩,hz⟩,hzl⟩:=ha;obtain ⟨i,z,hi,hzz,hzs,_⟩:=YV hz;obtain ⟨hl,_⟩:=Z3 (w:=w) (lo:=lo) (L:=L) (ok:=okL ok0 lo L) (lk:=lk) hzs;have hzc:z.cells.toList.length=parts.length*1:=by rw[hl,QKX,hzl,QL4]
     obtain ⟨news,h1,hnw,h2,h3,h4,h5,h6⟩:=Qba h 1 parts ps.toList 0 rows [] z.cells.toList hsq hr rfl hzc;unfold Program.sizeIs at hsz;cases hie:P.info? e with
     | none=>rw[hie] at hsz;cases hsz
     | some ie =>
       have hs1:ie.size=1:=by simpa[hie] using hsz
       have hbuilt:P.built t (ps.toList.map fun (i,x)=>(i,a.eval x))=some news.toArray:=by
        unfold Program.built;simp only[hi,hu,hzz,hie,hs1];simpa using h1
       have hrun:=run_build (P:=P) w t (ps.map fun (i,x)=>(i,a.eval x)) news.toArray (by simpa using hbuilt);have hrows:=JY hes;have hc1:∀ c∈es,c.length=1:=fun c hc=>by
        have:=h5 (c.map AV.iv) (by rw[hrows];exact QKT.2 ⟨c,hc,rfl⟩);simpa using this
       obtain ⟨f1,f2⟩:=QCh hc1;have hel:es.length=parts.length:=by rw[<- h4,hrows,QKX]
       refine ⟨trivial,QC.pure h (u:=.agg news.toArray) (by simp only[execOp,ho,Sem.run_bind,hrun,Result.andThen_ok,Sem.run_pure]) (.iv _ _ (.agg _ news (by rw[h2,f1,hel,QL4]) h3 fun k x u hx hu=>?_))⟩;obtain ⟨c,hc,hcx⟩:=f2 k x hx;exact Y7 (h6 k 0 (c.map AV.iv) (.iv x) u (by rw[hrows];simp[hc]) (by simp[hcx]) (by simpa using hu))
    cases ha
   cases he
  cases he
 ·cases hf
theorem Qt0 {len x i} (h:Rel ok0 N w0 lk lo a w L) (hf:YOp.fits P (.ixg len x i) o.op=true) (he:evY lk lo (.ixg len x i)=.ok s f v up) (hs:s):f/\QC P o ok0 N w0 lk lo a w v up:=by
 simp only[YOp.fits] at hf;split at hf
 ·rename_i t x' i' ho;simp only[QKI] at hf;obtain ⟨⟨hx,hi⟩,ht⟩:=hf;have rx:=Opd.rep h hx;have ri:=Opd.rep h hi;simp only[evY] at he;split at he
  ·rename_i xs kk n hxv hiv;split at he
   ·rename_i c hc;injection he with e1 e2 e3 e4;subst e1 e2 e3 e4;rw[hxv] at rx;rw[hiv] at ri;have hei:=Zy ri;have rx:=Y7 rx;generalize hey:a.eval x'=xv at rx;cases rx with
    | agg _ vs hl h1 hxx =>
      unfold QmQ at ht;split at ht
      ·rename_i m e hu;simp only[QKI,beq_iff_eq] at ht;obtain ⟨⟨rfl,hsz⟩,hag⟩:=ht;unfold Program.sizeIs at hsz;cases hie:P.info? e with
       | none=>rw[hie] at hsz;cases hsz
       | some ie =>
         have hs1:ie.size=1:=by simpa[hie] using hsz
         have xa:n.toNat<vs.length:=by rw[hl];exact (QKG.1 hc).1
         have hag':(isAgg e).run P w=.ok false w:=by
          unfold Program.agg at hag;cases hue:P.underlying e with
          | none=>rw[hue] at hag;cases hag
          | some d=>cases d<;>simp[hue] at hag<;>simp[isAgg,run_underlying hue]
         refine ⟨trivial,QC.pure h (u:=vs[n.toNat]) ?_ (.iv _ _ (hxx n.toNat c _ hc (QKF xa)))⟩;have hcond:0<=n/\n<(m:Int):=hs;simp[execOp,ho,hey,hei,Instr.index,asIntOf,run_underlying hu,hcond,part,hag',sizeOf,typeInfo,hie,hs1,xa]
      cases ht
   cases he
  cases he
 ·cases hf
theorem Qt5 {off x} (h:Rel ok0 N w0 lk lo a w L) (hf:YOp.fits P (.fgt off x) o.op=true) (he:evY lk lo (.fgt off x)=.ok s f v up):f/\QC P o ok0 N w0 lk lo a w v up:=by
 simp only[YOp.fits] at hf;split at hf
 ·rename_i t x' i ho;simp only[QKI] at hf;obtain ⟨hx,ht⟩:=hf;have rx:=Opd.rep h hx;simp only[evY] at he;split at he
  ·rename_i xs hxv;split at he
   ·rename_i c hc;injection he with e1 e2 e3 e4;subst e1 e2 e3 e4;rw[hxv] at rx;have rx:=Y7 rx;generalize hey:a.eval x'=xv at rx;cases rx with
    | agg _ vs hl h1 hxx =>
      unfold Qmj at ht;split at ht
      ·rename_i fields hu;split at ht
       ·rename_i fd hfd;simp only[QKI,beq_iff_eq] at ht;obtain ⟨rfl,hag⟩:=ht;have xa:fd.offset<vs.length:=by rw[hl];exact (QKG.1 hc).1
        have hag':(isAgg fd.type).run P w=.ok false w:=by
         unfold Program.agg at hag;cases hue:P.underlying fd.type with
         | none=>rw[hue] at hag;cases hag
         | some d=>cases d<;>simp[hue] at hag<;>simp[isAgg,run_underlying hue]
        refine ⟨trivial,QC.pure h (u:=vs[fd.offset]) ?_ (.iv _ _ (hxx fd.offset c _ hc (QKF xa)))⟩;simp[execOp,ho,hey,Instr.field,run_underlying hu,hfd,part,asAgg,hag',xa]
       cases ht
      cases ht
   cases he
  cases he
 ·cases hf
theorem QtM {id e bytes zs n} (h:Rel ok0 N w0 lk lo a w L) (hf:YOp.fits P (.mks id e bytes zs n) o.op=true) (he:evY lk lo (.mks id e bytes zs n)=.ok s f v up) (hs:s):f/\QC P o ok0 N w0 lk lo a w v up:=by
 simp only[YOp.fits] at hf;split at hf
 ·rename_i t l c ho;simp only[QKI] at hf;obtain ⟨⟨⟨⟨hl,hc⟩,ht⟩,hz⟩,hb⟩:=hf;have rl:=Opd.rep h hl;have rc:=Opd.rep h hc;simp only[evY] at he;split at he
  ·rename_i k m hnv hid;cases he;rw[hnv] at rl rc;have hel:=Zy rl;have hec:=Zy rc;obtain ⟨hm0,hby,hm63,hzp⟩:=hs;split at ht
   ·rename_i e' hu;simp only[beq_iff_eq] at ht;subst ht;obtain ⟨i,z,hi,hzz,hzs,hsize⟩:=YV hz;rw[hi] at hb;simp only[beq_iff_eq] at hb;subst hb;obtain ⟨hzl,hzx⟩:=Z3 (w:=w) (lo:=lo) (L:=L) (ok:=okL ok0 lo L) (lk:=lk) hzs;have hzl':z.cells.size=zs.length:=by simpa using hzl
    have hrun:=run_make (P:=P) w t e' i z hu hi hzz k k m m hm0 (Int.le_refl _) (by omega) hm63;rw[hsize] at hrun;have hzc:∀ j,j<m.toNat*zs.length->(madeCells z.cells (m.toNat*zs.length)).toList[j]?=z.cells.toList[j % zs.length]?:=by
     intro j hj;have xa:j % zs.length<z.cells.size:=by rw[hzl'];exact Nat.mod_lt _ hzp
     simp[madeCells,hj,hzl',Nat.mod_lt _ hzp,getElem!_pos,xa]
    have hone:∀ u∈z.cells.toList,u.oneCell'=true:=by
     intro u hu;obtain ⟨k,hk,rfl⟩:=QLh hu;have hk2:k<(zs.map (·.av lk)).length:=by omega
     exact (hzx k _ _ (QKF hk2) (QKF hk)).2
    have hbel:=QB w (.cells (madeCells z.cells (m.toNat*zs.length)) e');have hok:∀ b,okL ok0 lo L b->b<w.heap.size->okL ok0 (Za lo id (.arr e' zs.length (List.replicate m.toNat (zs.map (·.av lk))) 0)) (QV L id (.arr (.slice (some ⟨w.heap.size,0,none⟩) m.toNat m.toNat) (madeCells z.cells (m.toNat*zs.length)).toList)) b:=by
     intro b hb xa;refine ⟨hb.1,fun i o' hi he=>?_⟩;by_cases hii:i=id
     ·subst hii;simp only[QV,if_true,Lay.has,Value.ownBlock,Option.some.injEq] at he;omega
     grind
    refine ⟨trivial,_,.slice (some ⟨w.heap.size,0,none⟩) m.toNat m.toNat,w.alloc (.cells (madeCells z.cells (m.toNat*zs.length)) e'),QV L id (.arr (.slice (some ⟨w.heap.size,0,none⟩) m.toNat m.toNat) (madeCells z.cells (m.toNat*zs.length)).toList),by simp[execOp,ho,hel,hec,hrun],.inl rfl,?_,?_⟩
    ·refine h.new id hid _ _ hbel (fun b hb=>by simp only[Lay.has,Value.ownBlock,Option.some.injEq] at hb;omega) ?_;refine ⟨⟨⟨by simp[size_madeCells],.inr ⟨w.heap.size,m.toNat,madeCells z.cells (m.toNat*zs.length),by simp,QLV _,heap_alloc_new w _,by simp,by simp only[maxLen];omega,by simp[size_madeCells],?_⟩⟩,fun b hb=>by simp only[Value.ownBlock,Option.some.injEq] at hb;exact h.frlt (by omega)⟩,QLV _,fun c hc=>?_,fun u hu=>?_,fun i2 j c x u h2 h3 h4=>?_⟩
     ·rw[List.length_replicate,QKM]
      simp[size_madeCells]
     ·rw[List.eq_of_mem_replicate hc,QKX]
     ·obtain ⟨j,hj,rfl⟩:=QLh hu;have hj':j<m.toNat*zs.length:=by simpa[size_madeCells] using hj
      grind
     rw[List.getElem?_replicate] at h2;split at h2
     ·rename_i hi2;injection h2 with h2;subst h2;have hjl:j<zs.length:=by have:=(QKG.1 h3).1;simpa using this
      have hjj:=UX hi2 hjl;rw[hzc _ hjj] at h4;have hmod:(i2*zs.length+j) % zs.length=j:=by rw[Nat.add_comm,Nat.add_mul_mod_self_right,Nat.mod_eq_of_lt hjl]
      rw[hmod] at h4;refine ((hzx j x u h3 h4).1).ext hok hbel.block fun i o' hi=>?_;grind
     cases h2
    have:=QA.yl (ok:=okL ok0 (upO lo (some (id,.arr e' zs.length (List.replicate m.toNat (zs.map (·.av lk))) 0))) (QV L id (.arr (.slice (some ⟨w.heap.size,0,none⟩) m.toNat m.toNat) (madeCells z.cells (m.toNat*zs.length)).toList))) (w:=w.alloc (.cells (madeCells z.cells (m.toNat*zs.length)) e')) (lo:=upO lo (some (id,.arr e' zs.length (List.replicate m.toNat (zs.map (·.av lk))) 0))) (L:=QV L id (.arr (.slice (some ⟨w.heap.size,0,none⟩) m.toNat m.toNat) (madeCells z.cells (m.toNat*zs.length)).toList)) id e' zs.length (List.replicate m.toNat (zs.map (·.av lk))) 0 (.slice (some ⟨w.heap.size,0,none⟩) m.toNat m.toNat) (madeCells z.cells (m.toNat*zs.length)).toList (by simp[upO,Za]) (by simp[QV]) rfl
    rwa [List.length_replicate] at this
   cases ht
  cases he
 ·cases hf
theorem Qqt {id x} (h:Rel ok0 N w0 lk lo a w L) (hf:YOp.fits P (.rngm id x) o.op=true) (he:evY lk lo (.rngm id x)=.ok s f v up):f/\QC P o ok0 N w0 lk lo a w v up:=by
 simp only[YOp.fits] at hf;split at hf
 ·rename_i t y ho;simp only[QKI] at hf;obtain ⟨hx,hst⟩:=hf;have rx:=Opd.rep h hx;simp only[evY] at he;split at he
  ·rename_i kvs hxv hid;cases he;rw[hxv] at rx;have rx:=Y7 rx;split at hst
   ·rename_i kt et hu;generalize hey:a.eval y=yv at rx;cases rx with
    | mapn =>
      have hrun:(Instr.range t (.map none)).run P w=.ok (.pointer (some ⟨w.heap.size,0,none⟩)) (w.alloc (.mapIter none 0 #[] 0)):=by
       simp[Instr.range,run_underlying hu]
      refine ⟨trivial,_,.pointer (some ⟨w.heap.size,0,none⟩),_,_,by simp[execOp,ho,hey,hrun],.inl rfl,h.newOne hid (QB w _) rfl (fun ok lo' L' hF _=>⟨hF,none,0,#[],heap_alloc_new w _,rfl⟩),?_⟩;exact .yk id _ (.yq [] []) (by simp[upO,Za]) rfl (by simp[QV])
    | map _ r es clock hok hr hmr hdd hxx =>
      have hrun:(Instr.range t (.map (some r))).run P w=.ok (.pointer (some ⟨w.heap.size,0,none⟩)) (w.alloc (.mapIter (some r) clock #[] clock)):=by
       simp[Instr.range,run_underlying hu,MapKept.run_getObj_map hr]
      have xa:=(QKQ.1 hr).1;have hold:∀ b,b<w.heap.size->(w.alloc (.mapIter (some r) clock #[] clock)).heap[b]?=w.heap[b]?:=(QB w _).block;refine ⟨trivial,_,.pointer (some ⟨w.heap.size,0,none⟩),_,_,by simp[execOp,ho,hey,hrun],.inl rfl,h.newOne hid (QB w _) rfl (fun ok lo' L' hF hokk=>⟨hF,some r,clock,#[],heap_alloc_new w _,es,hokk r hok xa,(hold r xa).trans hr,hmr,fun i e p h1 h2=>(hxx i e p h1 h2).mono fun b hb xa=>⟨hokk b hb xa,hold b xa⟩,rfl,by simp⟩),?_⟩;exact .yk id _ (.yq kvs []) (by simp[upO,Za]) rfl (by simp[QV])
   cases hst
  cases he
 ·cases hf
theorem QnN {n es clock key} (h:X4 n es clock key):(es.toList.map (·.born)).Nodup:=by
 rw[List.nodup_iff_pairwise_ne,QLG];intro i j hi hj hij he;simp only[QKX,QL5] at hi hj;simp only[List.getElem_map,Array.getElem_toList] at he;have:=h.apart i j es[i] es[j] (QK7 hi) (QK7 hj) he;omega
theorem Qot (ok:Nat->Prop) (w:World) (k:MK):QF ok w k.iv k.val:=by
 cases k with
 | int k n=>exact .int k n
 | str s=>exact .str s
 | agg cs =>
   refine .agg _ _ (by simp) (fun u hu=>?_) (fun k x u h1 h2=>?_)
   ·obtain ⟨c,_,rfl⟩:=QKT.1 hu;cases c<;>rfl
   ·simp only[QKN,QKK] at h1 h2;obtain ⟨c,h1,rfl⟩:=h1;obtain ⟨c',h2,rfl⟩:=h2;rw[h1] at h2;injection h2 with h2;subst h2;cases c<;>constructor
theorem Qt8 {id x} (h:Rel ok0 N w0 lk lo a w L) (hf:YOp.fits P (.ent id x) o.op=true) (he:evY lk lo (.ent id x)=.ok s f v up):f/\QC P o ok0 N w0 lk lo a w v up:=by
 simp only[YOp.fits] at hf;split at hf
 ·rename_i y ho;have rx:=Opd.rep h hf;simp only[evY] at he;split at he
  ·rename_i j kvs i seen hxv hid;split at he
   ·rename_i hji;subst hji;split at he
    ·rename_i p hp;cases he;rw[hxv] at rx;obtain ⟨_,b,hL,hv⟩:=QdP hid (Xq j) rx;have hob:=h.y9 _ _ hid;rw[hL] at hob;obtain ⟨hF,r,since,sn,hb,hit⟩:=hob;cases r with
     | none=>have:kvs=[]:=hit
             subst this;simp at hp
     | some r =>
       obtain ⟨es,h1,h2,h3,h4,h5,h6⟩:=hit;obtain ⟨e,he1,he2⟩:=h6 seen.length i (by simp);have hsn:∃ s':Array Nat,sn=s'.push e.born:=by
        refine ⟨sn.pop,?_⟩;grind
       obtain ⟨s',hs'⟩:=hsn;subst hs';have hrun:=run_entry_at (P:=P) w b r since s' es since e hb h2 (QKW (by simpa using he1)) (QnN h3);refine ⟨trivial,QC.pure h (u:=.tuple #[e.key,e.val]) (by simp[execOp,ho,hv,hrun]) (.iv _ _ (.xd _ [_,_] rfl fun k x u hk hu=>?_))⟩;obtain ⟨k',hk1,hk2⟩:=h3.keys i e he1;rw[hp] at hk1;injection hk1 with hk1
       match k with
       | 0=>simp at hk hu;subst hk hu;rw[hk2,<- hk1];exact Qot _ _ _
       | 1=>simp at hk hu;subst hk hu;exact h4 i e p he1 hp
       | k+2=>simp at hk
    cases he
   cases he
  cases he
 ·cases hf
theorem Qli (h:Rel ok0 N w0 lk lo a w L):∀ {xs} {ys:List Operand},Vl xs ys=true->(ys.map a.eval).length=(xs.map (·.av lk)).length /\
  ∀ (k:Nat) (x:AV) (u:Value),(xs.map (·.av lk))[k]?=some x->(ys.map a.eval)[k]?=some u->QA (okL ok0 lo L) w lo L x u
 | [],[],_=>⟨rfl,by simp⟩
 | x::xs,y::ys,hf=>by
   simp only[Vl,QKI] at hf;obtain ⟨h1,h2⟩:=Qli h hf.2;refine ⟨by simpa using h1,fun k z u hz hu=>?_⟩;cases k with
   | zero =>
     simp at hz hu;subst hz hu;exact Opd.rep h hf.1
   | succ k=>exact h2 k z u (by simpa using hz) (by simpa using hu)
 | [],_::_,hf=>by simp[Vl] at hf
 | _::_,[],hf=>by simp[Vl] at hf
theorem QiP {ok:Nat->Prop} {w:World} {lo:Nat->Option AO} {L:Nat->Lay}:∀ {xs:List AV} {ys:List IV},ivs xs=some ys->xs=ys.map .iv
 | [],ys,h=>by simp[ivs] at h;subst h;rfl
 | x::xs,ys,h=>by
   simp only[ivs] at h;split at h
   ·rename_i y zs hy hzs;injection h with h;subst h;have:=QiP (ok:=ok) (w:=w) (lo:=lo) (L:=L) hzs;cases x<;>simp[AV.iv?] at hy;subst hy;simp[this]
   ·cases h
theorem QtO {g:FuncId} {fs cs:List Opd} (h:Rel ok0 N w0 lk lo a w L) (hf:YOp.fits P (.mkf g fs cs) o.op=true) (he:evY lk lo (.mkf g fs cs)=.ok s f v up):f/\QC P o ok0 N w0 lk lo a w v up:=by
 simp only[YOp.fits] at hf;split at hf
 ·rename_i g' fs' cs' ho;simp only[QKI,beq_iff_eq] at hf;obtain ⟨⟨hg,h1⟩,h2⟩:=hf;subst hg;simp only[evY] at he;cases he;obtain ⟨a1,a2⟩:=Qli h h1;obtain ⟨b1,b2⟩:=Qli h h2;refine ⟨trivial,QC.pure h (u:=.func (.func g) (fs'.toList.map a.eval).toArray (cs'.toList.map a.eval).toArray) ?_ ?_⟩
  ·have q1:fs'.map a.eval=(fs'.toList.map a.eval).toArray:=by apply Array.ext';simp
   have q2:cs'.map a.eval=(cs'.toList.map a.eval).toArray:=by apply Array.ext';simp
   simp[execOp,ho,Instr.makeFunc];exact ⟨q1,q2⟩
  unfold Qw0;split
  ·rename_i xs ys hxs hys;have r1:=QiP (ok:=okL ok0 lo L) (w:=w) (lo:=lo) (L:=L) hxs;have r2:=QiP (ok:=okL ok0 lo L) (w:=w) (lo:=lo) (L:=L) hys;rw[r1] at a1 a2;rw[r2] at b1 b2;refine .iv _ _ (.clo g xs ys _ _ (by simpa using a1) (by simpa using b1) (fun k x u hx hu=>?_) (fun k x u hx hu=>?_))
   ·have:=a2 k (.iv x) u (by simp[hx]) hu;cases this with
    | iv _ _ r=>exact r
   have:=b2 k (.iv x) u (by simp[hx]) hu;cases this with
   | iv _ _ r=>exact r
  exact .clo g _ _ _ _ a1 b1 a2 b2
 ·cases hf
theorem QtJ {x} (h:Rel ok0 N w0 lk lo a w L) (hf:YOp.fits P (.neg x) o.op=true) (he:evY lk lo (.neg x)=.ok s f v up) (hs:s):f/\QC P o ok0 N w0 lk lo a w v up:=by
 simp only[YOp.fits] at hf;split at hf
 ·rename_i t y ho;have rx:=Opd.rep h hf;simp only[evY] at he;generalize x.av lk=xv at rx he;split at he
  ·rename_i k n;cases he;have hey:=Zy rx;refine ⟨trivial,QC.pure h (u:=.int k (0-n)) ?_ (Zn _ _)⟩;have hw:=WB hs;simp only[Int.zero_sub] at hw;simp[execOp,ho,hey,Op.unary,Op.intArith,hw]
  cases he
 ·cases hf
theorem Qp0:∀ (fs:List Field) (k d:Nat) (cs ds:List IV) (vs us:List Value) (b:Bool),UJ P k fs=true->Ja cs ds=some b->cs.length=fs.length ->
  (∀ (j:Nat) (x:IV),cs[j]?=some x->∃ u,vs[k+j]?=some u/\QF ok0 w x u)->(∀ (j:Nat) (x:IV),ds[j]?=some x->∃ u,us[k+j]?=some u/\QF ok0 w x u)->(Op.eqFields (d+1) vs.toArray us.toArray fs).run P w=.ok b w
 | [],k,d,[],[],vs,us,b,_,he,_,_,_=>by
   simp only[Ja,Option.some.injEq] at he;subst he;simp[Op.eqFields]
 | [],k,d,x::cs,ds,vs,us,b,_,_,hl,_,_=>by simp at hl
 | [],k,d,[],y::ds,vs,us,b,_,he,_,_,_=>by simp[Ja] at he
 | f::fs,k,d,[],ds,vs,us,b,_,_,hl,_,_=>by simp at hl
 | f::fs,k,d,x::cs,[],vs,us,b,_,he,_,_,_=>by simp[Ja] at he
 | f::fs,k,d,x::cs,y::ds,vs,us,b,hf,he,hl,hx,hy=>by
   simp only[UJ,QKI,bne_iff_ne,ne_eq,beq_iff_eq] at hf;obtain ⟨⟨⟨hn,ho⟩,hp⟩,hr⟩:=hf;obtain ⟨kk,hu⟩:∃ kk,P.underlying f.type=some (.int kk):=by
    unfold Qjh at hp;split at hp
    ·rename_i kk hk;exact ⟨kk,hk⟩
    cases hp
   have hpk:P.plainKey f.type=true:=by simp[Program.plainKey,hu]
   simp only[Ja] at he;split at he
   ·rename_i b1 b2 h1 h2;injection he with he;subst he;obtain ⟨u1,hu1,r1⟩:=hx 0 x rfl;obtain ⟨u2,hu2,r2⟩:=hy 0 y rfl;have p1:(part f.type vs.toArray f.offset).run P w=.ok u1 w:=run_part_plain w hpk (by rw[ho];simpa using hu1);have p2:(part f.type us.toArray f.offset).run P w=.ok u2 w:=run_part_plain w hpk (by rw[ho];simpa using hu2)
    have ih:=Qp0 fs (k+1) d cs ds vs us b2 hr h2 (by simpa using hl) (fun j z hz=>by
     obtain ⟨u,hu,r⟩:=hx (j+1) z (by simpa using hz);exact ⟨u,by rw[<- hu];congr 1;omega,r⟩) (fun j z hz=>by
     obtain ⟨u,hu,r⟩:=hy (j+1) z (by simpa using hz);exact ⟨u,by rw[<- hu];congr 1;omega,r⟩)
    have q:(Op.equalIn (d+1) f.type u1 u2).run P w=.ok b1 w:=by
     unfold QDJ at h1;split at h1
     ·split at h1
      ·rename_i hk;injection h1 with h1;subst h1 hk;cases r1;cases r2;rw[run_equalIn_int w d f.type _ _ _ _ hu];rfl
      cases h1
     cases h1
    simp only[Op.eqFields,hn,not_false_iff,ne_eq,if_true,Sem.run_bind,p1,p2,q,Result.andThen,Sem.run_ite];cases b1
    ·simp
    simp[ih]
   ·cases he
theorem VT {e} {fs:Array Field} {m} (hu:P.underlying e=some (.struct fs)) (hs:Program.sizeIs P e m=true) (xs off) :
  (part e xs off).run P w=.ok (.agg (xs.extract off (off+m))) w:=by
 unfold Program.sizeIs at hs;cases hi:P.info? e with
 | none=>simp[hi] at hs
 | some i =>
   have hm:i.size=m:=by simpa[hi] using hs
   simp[part,isAgg,run_underlying hu,sizeOf,run_typeInfo w hi,hm]
theorem QhI {cs ds b} (m) (h:Ja cs ds=some b) (hm:m<=cs.length):∃ b1 b2,Ja (cs.take m) (ds.take m)=some b1/\Ja (cs.drop m) (ds.drop m)=some b2/\b=(b1&&b2):=by
 induction m generalizing cs ds b with
 | zero=>exact ⟨true,b,by simp[Ja],by simpa using h,by simp⟩
 | succ m ih =>
   cases cs with
   | nil=>simp at hm
   | cons x cs =>
     cases ds with
     | nil=>simp[Ja] at h
     | cons y ds =>
       simp only[Ja] at h;split at h
       ·rename_i a r h1 h2;injection h with h;subst h;obtain ⟨b1,b2,g1,g2,rfl⟩:=ih h2 (by simpa using hm);exact ⟨a&&b1,b2,by simp[Ja,h1,g1],by simpa using g2,by simp[Bool.and_assoc]⟩
       ·cases h
theorem qe:∀ {cs ds b},Ja cs ds=some b->ds.length=cs.length
 | [],[],_,_=>rfl
 | [],_::_,_,h=>by simp[Ja] at h
 | _::_,[],_,h=>by simp[Ja] at h
 | x::cs,y::ds,b,h=>by
   simp only[Ja] at h;split at h
   ·rename_i a r h1 h2;simp[qe h2]
   ·cases h
theorem Qmg:∀ (fs:List Field) (k d n:Nat) (cs ds:List IV) (vs us:List Value) (b:Bool),Z0 P k fs=some n->Ja cs ds=some b->k+cs.length=n->n<=vs.length->n<=us.length ->
  (∀ (j:Nat) (x:IV),cs[j]?=some x->∃ u,vs[k+j]?=some u/\QF ok0 w x u)->(∀ (j:Nat) (x:IV),ds[j]?=some x->∃ u,us[k+j]?=some u/\QF ok0 w x u)->(Op.eqFields (d+2) vs.toArray us.toArray fs).run P w=.ok b w
 | [],k,d,n,cs,ds,vs,us,b,hf,he,hl,_,_,_,_=>by
   simp only[Z0,Option.some.injEq] at hf;have hc:cs=[]:=QKR (by omega);have hd:ds=[]:=QKR (by rw[qe he,hc];rfl);subst hc hd;simp only[Ja,Option.some.injEq] at he;subst he;simp[Op.eqFields]
 | f::fs,k,d,n,cs,ds,vs,us,b,hf,he,hl,hv,hu',hx,hy=>by
   simp only[Z0] at hf;split at hf
   ·rename_i hno;simp only[QKI,bne_iff_ne,ne_eq,beq_iff_eq] at hno;obtain ⟨hn,ho⟩:=hno;split at hf
    ·rename_i m hm;have hge:∀ (l:List Field) (a z:Nat),Z0 P a l=some z->a<=z:=by
      intro l;induction l with
      | nil=>intro a z h;simp[Z0] at h;omega
      | cons g l ih =>
        intro a z h;simp only[Z0] at h;grind
     have hkm:=hge _ _ _ hf;have hml:m<=cs.length:=by omega
     obtain ⟨b1,b2,e1,e2,rfl⟩:=QhI m he hml;have hdl:=qe he
     have ih:=Qmg fs (k+m) d n (cs.drop m) (ds.drop m) vs us b2 hf e2 (by simp;omega) hv hu' (fun j z hz=>by
      grind) (fun j z hz=>by
      grind)
     have q:∃ u1 u2,(part f.type vs.toArray f.offset).run P w=.ok u1 w/\(part f.type us.toArray f.offset).run P w=.ok u2 w/\(Op.equalIn (d+2) f.type u1 u2).run P w=.ok b1 w:=by
      unfold QhA at hm;split at hm
      ·rename_i hp;injection hm with hm;subst hm;obtain ⟨kk,hu⟩:∃ kk,P.underlying f.type=some (.int kk):=by
        unfold Qjh at hp;grind
       have hpk:P.plainKey f.type=true:=by simp[Program.plainKey,hu]
       cases cs with
       | nil=>simp at hml
       | cons x cs =>
         cases ds with
         | nil=>simp[Ja] at he
         | cons y ds =>
           obtain ⟨u1,hu1,r1⟩:=hx 0 x rfl;obtain ⟨u2,hu2,r2⟩:=hy 0 y rfl;refine ⟨u1,u2,run_part_plain w hpk (by rw[ho];simpa using hu1),run_part_plain w hpk (by rw[ho];simpa using hu2),?_⟩;simp only[List.take_succ_cons,List.take_zero,Ja] at e1;split at e1
           ·rename_i a r h1 h2;injection h2 with h2;subst h2;injection e1 with e1;subst e1;unfold QDJ at h1;split at h1
            ·split at h1
             ·rename_i hk;injection h1 with h1;subst h1 hk;cases r1;cases r2;rw[run_equalIn_int w (d+1) f.type _ _ _ _ hu];simp only[Bool.and_true];rfl
             cases h1
            cases h1
           cases e1
      split at hm
      ·rename_i gs hu;split at hm
       ·rename_i hc;simp only[QKI,QLb] at hc;obtain ⟨⟨hst,hff⟩,hsz⟩:=hc;injection hm with hm;subst hm;refine ⟨_,_,VT hu hsz _ _,VT hu hsz _ _,?_⟩;have hfo:P.fieldsOf f.type=gs:=by simp[Program.fieldsOf,hu]
        have:=run_equalIn_struct (P:=P) w (d+1) f.type (vs.toArray.extract f.offset (f.offset+gs.size)) (us.toArray.extract f.offset (f.offset+gs.size)) (by rw[hfo];exact hu) hst;rw[hfo] at this;rw[this];have hex:∀ l:List Value,l.toArray.extract f.offset (f.offset+gs.size)=((l.drop k).take gs.size).toArray:=fun l=>by
         grind
        rw[hex,hex];refine Qp0 (ok0:=ok0) gs.toList 0 d _ _ _ _ b1 hff e1 (by simp;omega) (fun j z hz=>?_) (fun j z hz=>?_)
        ·rw[QLr] at hz;split at hz
         ·rename_i hj;obtain ⟨u,hu,r⟩:=hx j z hz;exact ⟨u,by grind,r⟩
         cases hz
        rw[QLr] at hz;split at hz
        ·rename_i hj;obtain ⟨u,hu,r⟩:=hy j z hz;exact ⟨u,by grind,r⟩
        cases hz
       cases hm
      cases hm
     obtain ⟨u1,u2,p1,p2,q⟩:=q;simp only[Op.eqFields,hn,not_false_iff,ne_eq,if_true,Sem.run_bind,p1,p2,q,Result.andThen,Sem.run_ite];cases b1
     ·simp
     simp[ih]
    cases hf
   ·cases hf
theorem Qt7 {ne:Bool} {n:Nat} {x y:Opd} (h:Rel ok0 N w0 lk lo a w L) (hf:YOp.fits P (.eqs ne n x y) o.op=true) (he:evY lk lo (.eqs ne n x y)=.ok s f v up) (hs:s):f/\QC P o ok0 N w0 lk lo a w v up:=by
 simp only[YOp.fits] at hf;split at hf
 ·rename_i op t x' y' yt ho;simp only[QKI,beq_iff_eq] at hf;obtain ⟨⟨⟨rfl,hx⟩,hy⟩,hfl⟩:=hf;unfold Qei at hfl;split at hfl
  ·rename_i fs hu;simp only[QKI,QLb,beq_iff_eq] at hfl;obtain ⟨⟨hst,hg⟩,hff⟩:=hfl;have hfo:P.fieldsOf t=fs:=by simp[Program.fieldsOf,hu]
   have rx:=Opd.rep h hx;have ry:=Opd.rep h hy;simp only[evY] at he;generalize x.av lk=xv at rx he;generalize y.av lk=yv at ry he;split at he
   ·rename_i cs ds;split at he
    ·rename_i b hb;cases he;generalize hex:a.eval x'=xe at rx;generalize hey:a.eval y'=ye at ry;cases rx with
     | iv _ _ r =>
       cases r with
       | agg _ vs hl h1 hxs =>
         cases ry with
         | iv _ _ r =>
           cases r with
           | agg _ us hl2 h2 hys =>
             have hq:=Qmg (P:=P) (ok0:=okL ok0 lo L) (w:=w) fs.toList 0 9997 n cs ds vs us b hff hb (by rw[hs,QKY]) (by rw[hl,hs];exact QKJ _) (by rw[hl2,qe hb,hs];exact QKJ _) (fun j z hz=>by
              have xa:j<vs.length:=by rw[hl];exact (QKG.1 hz).1
              exact ⟨vs[j],by simp[xa],hxs j z _ hz (QKF xa)⟩) (fun j z hz=>by
              have xa:j<us.length:=by rw[hl2];exact (QKG.1 hz).1
              exact ⟨us[j],by simp[xa],hys j z _ hz (QKF xa)⟩)
             have hq2:(Op.equalIn 10000 t (.agg vs.toArray) (.agg us.toArray)).run P w=.ok b w:=by
              have:=run_equalIn_struct (P:=P) w 9999 t vs.toArray us.toArray (by rw[hfo];exact hu) hst;rw[hfo] at this;exact this.trans hq
             cases ne
             ·refine ⟨trivial,QC.pure h (u:=.bool b) ?_ (XN _)⟩;simp[execOp,ho,hex,hey,run_eqGuard_agg w _ _ _ _ _ _ hg,run_eql_struct,hq2,Result.andThen]
             refine ⟨trivial,QC.pure h (u:=.bool !b) ?_ (XN _)⟩;simp[execOp,ho,hex,hey,run_eqGuard_agg w _ _ _ _ _ _ hg,run_neq_struct,hq2,Result.andThen]
    cases he
   cases he
  cases hfl
 ·cases hf
theorem Qhf {x} {op:Op} (hf:YOp.fits P (.lenm x) op=true):∃ y t k e,op=.call { callee:=.builtin .len,args:=#[y],argTypes:=#[t] }/\x.is y=true/\P.underlying t=some (.map k e):=by
 simp only[YOp.fits] at hf;split at hf
 ·rename_i az ts;split at hf
  ·rename_i y t has hts;simp only[QKI] at hf;obtain ⟨hx,ht⟩:=hf;have e1:az=#[y]:=by cases az;simp_all
   have e2:ts=#[t]:=by cases ts;simp_all
   unfold Qpa at ht;grind
  cases hf
 ·cases hf
theorem QqD {x} (h:Rel ok0 N w0 lk lo a w L) (hf:YOp.fits P (.lenm x) o.op=true) (he:evY lk lo (.lenm x)=.ok s f v up):f/\QC P o ok0 N w0 lk lo a w v up:=by
 obtain ⟨y,t,k,e,ho,hx,hu⟩:=Qhf hf;have rx:=Opd.rep h hx;simp only[evY] at he;generalize x.av lk=xv at rx he;generalize hey:a.eval y=ye at rx;split at he
 ·rename_i kvs;cases he;cases rx with
  | iv _ _ r =>
    cases r with
    | mapn=>exact ⟨trivial,QC.pure h (by simp[execOp,ho,resolve,invoke,builtin,hey,Builtin.len_,run_underlying hu,goInt]) (Zn _ _)⟩
    | map _ r es clock hok hr hm hd hxx =>
      have hsz:=hm.size;exact ⟨trivial,QC.pure h (by simp[execOp,ho,resolve,invoke,builtin,hey,Builtin.len_,run_underlying hu,goInt,getObj,Sem.run,hr,hsz]) (Zn _ _)⟩
 ·cases he
theorem QnH {id x} (h:Rel ok0 N w0 lk lo a w L) (hf:YOp.fits P (.lenmo id x) o.op=true) (he:evY lk lo (.lenmo id x)=.ok s f v up):f/\QC P o ok0 N w0 lk lo a w v up:=by
 obtain ⟨y,t,k,e,ho,hx,hu⟩:=Qhf (x:=x) hf;have rx:=Opd.rep h hx;simp only[evY] at he;split at he
 ·rename_i j kvs hxv hid;split at he
  ·rename_i hji;subst hji;cases he;rw[hxv] at rx;obtain ⟨_,b,hL,hv⟩:=Yv hid (Xq j) rx;have hob:=h.y9 _ _ hid;rw[hL] at hob;obtain ⟨hF,es,clock,hb,hmr,hdd,hxx⟩:=hob;have hsz:=hmr.size;exact ⟨trivial,QC.pure h (by simp[execOp,ho,resolve,invoke,builtin,hv,Builtin.len_,run_underlying hu,goInt,getObj,Sem.run,hb,hsz]) (Zn _ _)⟩
  cases he
 ·cases he
theorem Qav {t e:TypeId} {i:TypeInfo} {len sz:Nat} (he:P.underlying t=some (.array len e)) (hi:P.info? e=some i) (hs:i.size=sz)
  (b off:Nat) (k:IntKind) (j:Int) (h0:0<=j) (h1:j<len) :
  (Instr.indexAt t (.pointer (some ⟨b,off,none⟩)) (.int k j)).run P w=.ok (.pointer (some ⟨b,off+j.toNat*sz,none⟩)) w:=by
 simp[Instr.indexAt,asIntOf,run_underlying he,h0,h1,sizeOf,typeInfo,hi,hs,addr_add,Instr.sureAddr]
theorem Qt1 {len sz:Nat} {x i:Opd} (h:Rel ok0 N w0 lk lo a w L) (hf:YOp.fits P (.ixa len sz x i) o.op=true) (he:evY lk lo (.ixa len sz x i)=.ok s f v up) (hs:s):f/\QC P o ok0 N w0 lk lo a w v up:=by
 simp only[YOp.fits] at hf;split at hf
 ·rename_i t x' i' ho;simp only[QKI] at hf;obtain ⟨⟨hx,hi⟩,ht⟩:=hf;unfold QmP at ht;split at ht
  ·rename_i n e hu;simp only[QKI,beq_iff_eq] at ht;obtain ⟨rfl,hsz⟩:=ht;unfold Program.sizeIs at hsz;split at hsz
   ·rename_i ti hti;have hts:ti.size=sz:=by simpa using hsz
    have rx:=Opd.rep h hx;have ri:=Opd.rep h hi;simp only[evY] at he;generalize x.av lk=xv at rx he;generalize i.av lk=iv at ri he;generalize hex:a.eval x'=xe at rx;split at he
    ·rename_i id off k j;cases he;have hei:=Zy ri;cases rx with
     | loc _ _ cs b hob hL =>
       refine ⟨trivial,QC.pure h (u:=.pointer (some ⟨b,off+j.toNat*sz,none⟩)) ?_ (.loc id _ cs b hob hL)⟩;simp only[execOp,ho,hex,hei,Sem.run_bind,Qav hu hti hts b off k j hs.1 hs.2];rfl
    ·rename_i cs k j;cases he;have hei:=Zy ri;cases rx with
     | iv _ _ r =>
       cases r with
       | ptr _ b off u hcell hxx =>
         refine ⟨trivial,QC.pure h (u:=.pointer (some ⟨b,off+j.toNat*sz,none⟩)) ?_ (.iv _ _ (.ptr _ b _ (fun q=>u (j.toNat*sz+q)) (fun q hq=>?_) (fun q z hz=>?_)))⟩
         ·simp only[execOp,ho,hex,hei,Sem.run_bind,Qav hu hti hts b off k j hs.1 hs.2.1];rfl
         all_goals grind
    cases he
   cases hsz
  cases ht
 ·cases hf
theorem Qsn {ok:Nat->Prop} {w:World} {sz:Nat} {ad:Option Addr}:QF ok w (.sl sz []) (.slice ad 0 0):=by
 cases ad with
 | none=>exact .nils _
 | some ad=>exact .nilz _ ad
theorem QgT {id kk x u} (hid:lo id=some (.mapz kk)) (hx:AV.refs id x=true) (hr:QA (okL ok0 lo L) w lo L x u):x=.yk id/\∃ b,L id=.one b/\u=.map (some b):=by
 cases hr with
 | _=>grind
theorem QtL {id kk} (h:Rel ok0 N w0 lk lo a w L) (hf:YOp.fits P (.mkz id kk) o.op=true) (he:evY lk lo (.mkz id kk)=.ok s f v up):f/\QC P o ok0 N w0 lk lo a w v up:=by
 simp only[YOp.fits] at hf;split at hf
 ·rename_i t ho;simp only[evY] at he;split at he
  ·rename_i hid;cases he;have hrun:=run_makeMap (P:=P) t w;refine ⟨trivial,_,.map (some w.heap.size),_,_,by simp[execOp,ho,hrun],.inl rfl,h.newOne hid (QB w _) rfl (fun ok lo' L' hF _=>⟨hF,#[],0,heap_alloc_new w _,by simp⟩),?_⟩;exact .omz id _ kk (by simp[upO,Za]) (by simp[QV])
  cases he
 cases hf
theorem QhP {id:Nat} {kk:KK} {x k:Opd} {t:TypeId} {x' k':Operand} (h:Rel ok0 N w0 lk lo a w L) (hx:x.is x'=true) (hk:k.is k'=true) (hm:(V3 P kk t).isSome=true) {key:MK} (hxv:x.av lk=.yk id) (hkv:keyOf kk (k.av lk)=some key) (hid:lo id=some (.mapz kk)) :
  ∃ b es clock kt et,a.eval x'=.map (some b)/\a.eval k'=key.val/\L id=.one b/\w.heap[b]?=some (.map es clock)/\(∀ x∈es.toList,∃ k:MK,k.kind=kk/\x.key=k.val)/\P.underlying t=some (.map kt et)/\qP P kk kt=true/\key.kind=kk/\Qwa P kt key.val /\
   (∀ (es':Array MapEntry) (clock':Nat),(∀ x∈es'.toList,∃ k:MK,k.kind=kk/\x.key=k.val)->Rel ok0 N w0 lk (Za lo id (.mapz kk)) a { w with heap:=w.heap.setIfInBounds b (.map es' clock') } (QV L id (.one b))):=by
 have rx:=Opd.rep h hx;have rk:=Opd.rep h hk;cases hmt:V3 P kk t with
 | none=>rw[hmt] at hm;cases hm
 | some et =>
 obtain ⟨kt,hmu,hkt⟩:=JV hmt;obtain ⟨hkk,hkval⟩:=XF (w:=w) (lo:=lo) (L:=L) hkv;have hik:=Vj hkt hkk;have hke:=hkval rk;rw[hxv] at rx;obtain ⟨_,b,hL,hv⟩:=QgT hid (Xq id) rx;have hob:=h.y9 _ _ hid;rw[hL] at hob;obtain ⟨hF,es,clock,hb,hmr⟩:=hob;refine ⟨b,es,clock,kt,et,hv,hke,hL,hb,hmr,hmu,hkt,hkk,hik,fun es' clock' he'=>?_⟩;refine h.turnOne (ob':=.mapz kk) hid hL (Y2 w b _) (fun ok lo' L' x'' u h1 h2 hx'' hr=>?_) (fun ok lo' L' hok _=>?_)
 ·obtain ⟨rfl,b',hL',rfl⟩:=QgT hid hx'' hr;grind
 refine ⟨hF,es',clock',?_,he'⟩;grind
theorem Qqx {id:Nat} {kk:KK} {x k y:Opd} (h:Rel ok0 N w0 lk lo a w L) (hf:YOp.fits P (.mupz id kk x k y) o.op=true) (he:evY lk lo (.mupz id kk x k y)=.ok s f v up) (hs:s):f/\QC P o ok0 N w0 lk lo a w v up:=by
 obtain ⟨t,x',k',v',ho,hf⟩:∃ t x' k' v',(o.op=.mapUpdate t x' k' v'\/o.op=.insert t x' k' v')/\(x.is x'&&k.is k'&&y.is v'&&(V3 P kk t).isSome)=true:=by
  simp only[YOp.fits] at hf;split at hf
  ·rename_i ho;exact ⟨_,_,_,_,.inl ho,hf⟩
  ·rename_i ho;exact ⟨_,_,_,_,.inr ho,hf⟩
  cases hf
 simp only[QKI] at hf;obtain ⟨⟨⟨hx,hk⟩,hy⟩,hm⟩:=hf;simp only[evY] at he;split at he
 ·rename_i j key k2 hxv hkv hid;split at he
  ·rename_i hji;subst hji;cases he;subst hs;obtain ⟨b,es,clock,kt,et,hv,hke,hL,hb,hmr,hmu,hkt,hkk,hik,rel⟩:=QhP h hx hk hm hxv hkv hid
   have fin:∀ (es':Array MapEntry) (clock':Nat),(Instr.mapUpdate t (.map (some b)) key.val (a.eval v')).run P w=.ok () { w with heap:=w.heap.setIfInBounds b (.map es' clock') } ->
     (∀ x∈es'.toList,∃ k:MK,k.kind=k2/\x.key=k.val)->True/\QC P o ok0 N w0 lk lo a w (.iv .any) (some (j,.mapz k2)):=by
    intro es' clock' hrun hx';refine ⟨trivial,.skip,undef,{ w with heap:=w.heap.setIfInBounds b (.map es' clock') },QV L j (.one b),?_,.inr ⟨rfl,rfl⟩,rel es' clock' hx',.iv _ _ (.any _)⟩;rcases ho with ho | ho<;>simp[execOp,ho,hv,hke,hrun]
   rcases Uf hkt hkk es.toList hmr with ⟨h1,h2⟩ | ⟨i2,e2,h1,h3,h6⟩
   ·refine fin _ _ (X9 hmu hb hik h1) fun x hx=>?_;simp only[Array.toList_push,QK2,QLd] at hx;rcases hx with hx | rfl
    ·exact hmr x hx
    exact ⟨key,hkk,rfl⟩
   have h3':es[i2]?=some e2:=by simpa using h3
   refine fin _ _ (X8 hmu hb hik (by simpa using h1) h3' h6) fun x hx=>?_;obtain ⟨i,hi⟩:=QLj hx;rw[QMl,QL9] at hi;split at hi
   ·rw[QKK] at hi;obtain ⟨e',_,rfl⟩:=hi;exact ⟨key,hkk,rfl⟩
   exact hmr x (QKW (by simpa using hi))
  cases he
 cases he
theorem QqB {id:Nat} {kk:KK} {x k:Opd} (h:Rel ok0 N w0 lk lo a w L) (hf:YOp.fits P (.mdlz id kk x k) o.op=true) (he:evY lk lo (.mdlz id kk x k)=.ok s f v up) (hs:s):f/\QC P o ok0 N w0 lk lo a w v up:=by
 simp only[YOp.fits] at hf;split at hf
 ·rename_i az ts ho;split at hf
  ·rename_i x' k' t t2 has hts;simp only[QKI] at hf;obtain ⟨⟨hx,hk⟩,hm⟩:=hf;have e1:az=#[x',k']:=by cases az;simp_all
   have e2:ts=#[t,t2]:=by cases ts;simp_all
   subst e1 e2;simp only[evY] at he;split at he
   ·rename_i j key k2 hxv hkv hid;split at he
    ·rename_i hji;subst hji;cases he;subst hs;obtain ⟨b,es,clock,kt,et,hv,hke,hL,hb,hmr,hmu,hkt,hkk,hik,rel⟩:=QhP h hx hk hm hxv hkv hid;have hc:=hik.check w es.isEmpty
     have fin:∀ (es':Array MapEntry),(Builtin.delete_ #[t,t2] o.type #[.map (some b),key.val]).run P w=.ok (.tuple #[]) { w with heap:=w.heap.setIfInBounds b (.map es' clock) } ->
       (∀ x∈es'.toList,∃ k:MK,k.kind=k2/\x.key=k.val)->True/\QC P o ok0 N w0 lk lo a w (.iv (.xd [])) (some (j,.mapz k2)):=by
      intro es' hrun hx';refine ⟨trivial,.value (.tuple #[]),.tuple #[],{ w with heap:=w.heap.setIfInBounds b (.map es' clock) },QV L j (.one b),?_,.inl rfl,rel es' clock hx',.iv _ _ (.xd [] [] rfl (by simp))⟩;simp[execOp,ho,resolve,invoke,builtin,hv,hke,hrun]
     rcases Uf hkt hkk es.toList hmr with ⟨h1,h2⟩ | ⟨i2,e2,h1,h3,h6⟩
     ·refine fin es ?_ hmr;simp[Builtin.delete_,run_underlying hmu,MapKept.run_getObj_map hb,hc,h1 w,MapKept.run_setObj_map _ hb]
     refine fin (es.eraseIdxIfInBounds i2) ?_ fun x hx=>hmr x ?_
     ·have h1':Qai P kt key.val es.toList (some (i2,e2.val)):=by simpa using h1
      simp[Builtin.delete_,run_underlying hmu,MapKept.run_getObj_map hb,hc,h1' w,MapKept.run_setObj_map _ hb]
     have hs':(es.eraseIdxIfInBounds i2).toList.Sublist es.toList:=by
      unfold Array.eraseIdxIfInBounds;split
      ·simp only[Array.toList_eraseIdx];exact List.eraseIdx_sublist _ _
      exact List.Sublist.refl _
     exact hs'.subset hx
    cases he
   cases he
  cases hf
 cases hf
theorem Qug {e sz bytes x y} (h:Rel ok0 N w0 lk lo a w L) (hok0:∀ b,¬ w0.fr b->ok0 b) (hf:YOp.fits P (.apz e sz bytes x y) o.op=true) (he:evY lk lo (.apz e sz bytes x y)=.ok s f v up) (hs:s):f/\QC P o ok0 N w0 lk lo a w v up:=by
 simp only[YOp.fits] at hf;obtain ⟨x',y',t,ti,z,ho,hx,hy,hu,hi,hsz,hby,hz,hzs,hpos⟩:=Qbu hf;simp only[evY] at he;split at he
 ·rename_i s0 rs sy ys hxv hyv;cases he;obtain ⟨hq1,hq2,hmax,hbytes⟩:=hs;subst hq1;subst hq2;have rx:=Opd.rep h hx;have ry:=Opd.rep h hy;rw[hxv] at rx;rw[hyv] at ry;generalize hex:a.eval x'=vv at rx;generalize hey:a.eval y'=yy at ry;have run:∀ u w',(Builtin.append_ #[t,t] o.type #[vv,yy]).run P w=.ok u w'->(execOp a.eval o).run P w=.ok (.value u) w':=by
   intro u w' hr;simp[execOp,ho,resolve,invoke,builtin,hex,hey,hr]
  obtain ⟨hfull,hrx⟩:QaF vv=true/\QF (okL ok0 lo L) w (.sl s0 rs) vv:=by
   cases rx with
   | zsl _ _ _ h hr=>exact ⟨h,hr⟩
  have hry:QF (okL ok0 lo L) w (.sl s0 ys) yy:=by
   cases ry with
   | iv _ _ r=>exact r
  have hyshape:=Qa8 hry;have hxshape:=Qa8 hrx
  have fin:∀ (cells:List Value) (C:Nat),(rs++ys).length<=C->C<=maxLen->cells.length=(rs++ys).length*s0->(∀ u∈cells,u.oneCell'=true)->(∀ c∈rs++ys,c.length=s0) ->
    (∀ (i j:Nat) (c:List IV) (x:IV) (u:Value),(rs++ys)[i]?=some c->c[j]?=some x->cells[i*s0+j]?=some u->QF (okL ok0 lo L) w x u) ->
    (Builtin.append_ #[t,t] o.type #[vv,yy]).run P w=.ok (.slice (some ⟨w.heap.size,0,none⟩) (rs++ys).length C) (w.drew.alloc (.cells (cells.toArray++Builtin.zeroCells z.cells (C-(rs++ys).length)) e)) ->
    True/\QC P o ok0 N w0 lk lo a w (.iv (.sl s0 (rs++ys))) none:=by
   intro cells C hge hle hcl hn1 hrow hnx hr;have hheap:∀ k,k<w.heap.size->(w.drew.alloc (.cells (cells.toArray++Builtin.zeroCells z.cells (C-(rs++ys).length)) e)).heap[k]?=w.heap[k]?:=fun k hk=>Ev.alloc_old w.drew _ k hk;have hb:Below w.heap.size w (w.drew.alloc (.cells (cells.toArray++Builtin.zeroCells z.cells (C-(rs++ys).length)) e)):=⟨rfl,rfl,rfl,by simp,hheap⟩;refine ⟨trivial,_,_,_,L,run _ _ hr,.inl rfl,h.ext hb,.iv _ _ ?_⟩;refine .sl s0 (rs++ys) w.heap.size 0 C (fun k=>cells.getD k undef) hge hle hrow (fun k hk=>⟨⟨hok0 _ (h.frlt (QKJ _)),fun id o ho hbad=>?_⟩,?_,?_⟩) fun i j c x hi hj=>?_
   ·have:=((h.y9 id o ho).lt hbad).2;omega
   ·have hk':k<cells.length:=by omega
    rw[QKY]
    have ee:cells.toArray++Builtin.zeroCells z.cells (C-(rs++ys).length)=(cells++(Builtin.zeroCells z.cells (C-(rs++ys).length)).toList).toArray:=by
     apply Array.ext';simp
    rw[ee];exact Yr w.drew (cells++(Builtin.zeroCells z.cells (C-(rs++ys).length)).toList) _ k (cells.getD k undef) (by simp[List.getD_eq_getElem?_getD,QKS hk',QKF hk'])
   ·have hk':k<cells.length:=by omega
    have:cells.getD k undef∈cells:=by simp[List.getD_eq_getElem?_getD,hk']
    exact hn1 _ this
   have hjl:j<s0:=by
    have:=hrow c (QKW hi);have:=(QKG.1 hj).1;omega
   have hidx:=UX (QKG.1 hi).1 hjl;have hk':i*s0+j<cells.length:=by omega
   have hg:cells[i*s0+j]?=some (cells.getD (i*s0+j) undef):=by simp[List.getD_eq_getElem?_getD,hk']
   exact (hnx i j c x _ hi hj hg).mono fun b hb' xa=>⟨hb',hheap b xa⟩
  by_cases h0:ys=[]
  ·subst h0;obtain ⟨a0,n0,rfl⟩:=Qcg hfull
   have hr:=XM (P:=P) (w:=w) (ty:=o.type) hu hi a0 n0 n0 (QKJ _) yy (by
    rcases hyshape with ⟨⟨a1,h1⟩,_⟩ | ⟨b,off,c,u,h1,_⟩
    ·cases a1 with
     | none=>exact .inl h1
     | some a1=>exact .inr ⟨_,_,h1⟩
    exact .inr ⟨_,_,h1⟩)
   rw[QLY];exact ⟨trivial,QC.pure h (run _ _ hr) (.iv _ _ hrx)⟩
  have hpos':0<ys.length:=QLo.2 h0;rcases hyshape with ⟨_,h00⟩ | ⟨b,off,c,news,hyy,hyl,hnl,hnews,hn1,hnx⟩
  ·exact absurd h00 h0
  have hmax':=hmax;have hbytes':=hbytes;rw[QKP] at hmax' hbytes';have hm63:rs.length+ys.length<=9223372036854775807:=by simp only[maxLen] at hmax';omega
  rcases hxshape with ⟨⟨a1,hvv⟩,hrs⟩ | ⟨b2,off2,c2,olds,hvv,hol,holn,holds,ho1,hox⟩
  ·subst hrs;simp only[QK4,QKY,QLm] at *;have hge:=grownCap_ge w ys.length 0 e;have hle:=grownCap_le_maxLen w ys.length 0 e (by omega);refine fin news _ hge hle hnl hn1 hyl hnx ?_;rw[hvv];cases a1 with
   | none =>
     rw[hyy];exact run_append_nil (P:=P) w t o.type e ti z hu hi hz ⟨b,off,none⟩ ys.length c news (by rw[hnl,hsz]) hnews hpos' (by omega) (by rw[hby];omega)
   | some ad =>
     have:=run_append_grow (P:=P) w t o.type e ti z hu hi hz ad 0 0 [] (by simp) (by simp) ⟨b,off,none⟩ ys.length c news (by rw[hnl,hsz]) hnews (by omega) (by omega) (by
      rw[QKY];exact growslice_fits (by omega) (by rw[hby];exact hbytes))
     rw[hyy];simpa using this
  have hcc:rs.length=c2:=by
   rw[hvv] at hfull;simpa[QaF] using hfull
  subst hcc;have hge:=grownCap_ge w (rs.length+ys.length) rs.length e;have hle:=grownCap_le_maxLen w (rs.length+ys.length) rs.length e (by omega);refine fin (olds++news) (grownCap w (rs.length+ys.length) rs.length e) (by rw[QKP];exact hge) hle (by rw[QKP,QKP,holn,hnl,QLl]) ?_ ?_ ?_ ?_
  ·intro u hu';rcases QK2.1 hu' with h1 | h1
   ·exact ho1 u h1
   exact hn1 u h1
  ·intro c hc;rcases QK2.1 hc with h1 | h1
   ·exact hol c h1
   exact hyl c h1
  ·intro i j c x u h1 h2 h3;by_cases xa:i<rs.length
   ·rw[QKS xa] at h1;have hjl:j<s0:=by
     have:=hol c (QKW h1);have:=(QKG.1 h2).1;omega
    have hidx:=UX xa hjl;rw[QKS (by omega)] at h3;exact hox i j c x u h1 h2 h3
   rw[QKO (by omega)] at h1;have hle2:rs.length*s0<=i*s0:=QLc s0 (by omega);rw[QKO (by omega),holn] at h3;have e3:i*s0+j-rs.length*s0=(i-rs.length)*s0+j:=by
    rw[Nat.sub_mul];omega
   rw[e3] at h3;exact hnx _ j c x u h1 h2 h3
  have:=run_append_grow (P:=P) w t o.type e ti z hu hi hz ⟨b2,off2,none⟩ rs.length rs.length olds (by rw[holn,hsz]) holds ⟨b,off,none⟩ ys.length c news (by rw[hnl,hsz]) hnews (by omega) (by omega)
   (growslice_fits (by omega) (by rw[hby];exact hbytes'))
  rw[hyy,hvv];simpa using this
 cases he
theorem QtH {sz x n m} (h:Rel ok0 N w0 lk lo a w L) (hf:YOp.fits P (.sl3 sz x n m) o.op=true) (he:evY lk lo (.sl3 sz x n m)=.ok s f v up) (hs:s):f/\QC P o ok0 N w0 lk lo a w v up:=by
 simp only[YOp.fits] at hf;split at hf
 ·rename_i t x' n1 n2 ho;simp only[QKI] at hf;obtain ⟨⟨⟨hx,hn1⟩,hn2⟩,ht⟩:=hf;obtain ⟨e,ti,hu,hti,hts⟩:=Z8 ht;have rx:=Opd.rep h hx;have r1:=Opd.rep h hn1;have r2:=Opd.rep h hn2;simp only[evY] at he;split at he
  ·rename_i s0 rows k l hxv hnv hmv;cases he;obtain ⟨rfl,rfl,rfl⟩:=hs;rw[hxv] at rx;rw[hnv] at r1;rw[hmv] at r2;generalize hey:a.eval x'=yv at rx;generalize hey1:a.eval n1=y1 at r1;generalize hey2:a.eval n2=y2 at r2;have e1:y1=.int .i64 rows.length:=by
    cases r1 with
    | iv _ _ r=>cases r;rfl
   have e2:y2=.int .i64 rows.length:=by
    cases r2 with
    | iv _ _ r=>cases r;rfl
   subst e1 e2;have run:∀ ad cap,yv=.slice ad rows.length cap->rows.length<=cap->(execOp a.eval o).run P w=.ok (.value (.slice ad rows.length rows.length)) w:=by
    intro ad cap hyv hle;simp[execOp,ho,hey,hey1,hey2,hyv,Instr.sliceAt,Instr.slice,run_underlying hu,Instr.sliceBounds,Instr.sliceBound,asIntOf,sizeOf,typeInfo,hti,hle];cases ad with
    | none=>simp
    | some ad=>simp[Addr.add]
   cases rx with
   | iv _ _ r =>
     have r':=r;cases r with
     | nils=>exact ⟨trivial,QC.pure h (run _ _ rfl (QKJ _)) (.zsl _ _ _ rfl (.nils _))⟩
     | nilz _ ad=>exact ⟨trivial,QC.pure h (run _ _ rfl (QKJ _)) (.zsl _ _ _ rfl (.nilz _ ad))⟩
     | sl _ _ b off cap u hl hc hs hu' hx' =>
       exact ⟨trivial,QC.pure h (run _ _ rfl hl) (.zsl _ _ _ (by simp[QaF]) (.sl _ _ b off _ u (QKJ _) (by omega) hs hu' hx'))⟩
  cases he
 ·cases hf
theorem QzF {sz} (h:Rel ok0 N w0 lk lo a w L) (hf:YOp.fits P (.zslv sz) o.op=true) (he:evY lk lo (.zslv sz)=.ok s f v up):f/\QC P o ok0 N w0 lk lo a w v up:=by
 simp only[evY,Res.ok.injEq] at he;obtain ⟨rfl,rfl,rfl,rfl⟩:=he;simp only[YOp.fits] at hf;unfold QCm at hf;split at hf
 ·rename_i t n ps ho;simp only[QKI,beq_iff_eq,decide_eq_true_eq] at hf;obtain ⟨⟨⟨⟨⟨hn,hsq⟩,hsz⟩,hez⟩,hb⟩,hpl⟩:=hf;obtain ⟨e,i,hu,hi,hs⟩:=Z8 hsz;obtain ⟨news,hrun,hnl,h1,hrl,hrs,hx⟩:=Qlf h ho hn hsq hu hi hs (Vt hez hu hi) hb (rows:=[]) rfl;exact ⟨trivial,_,_,_,L,hrun,.inl rfl,h.ext (QB w (.cells news.toArray e)),.zsl _ _ _ rfl Qsn⟩
 ·cases hf
theorem QbR {t kt et} {r es clock key z} {i:TypeInfo} {res} (hm:P.underlying t=some (.map kt et))
  (hb:w.heap[r]?=some (.map es clock)) (hk:Qwa P kt key) (hi:P.info? et=some i) (hz:i.zero=some z) (hf:Qai P kt key es.toList res) :
  (Instr.lookup t (.map (some r)) key true).run P w=.ok (.tuple #[(res.map (·.2)).getD z,.bool res.isSome]) w:=by
 have hc:=hk.check w es.isEmpty;have hff:=hf w;have hzz:(zeroValue et).run P w=.ok z w:=by simp[zeroValue,typeInfo,hi,hz]
 cases res with
 | none=>simp[Instr.lookup,run_underlying hm,MapKept.run_getObj_map hb,hc,hff,hzz]
 | some q=>simp[Instr.lookup,run_underlying hm,MapKept.run_getObj_map hb,hc,hff]
theorem Qe1 {ok x u b} (h:QF ok w x u):QF ok w (.xd [x,.bool b]) (.tuple #[u,.bool b]):=by
 refine .xd _ [u,.bool b] rfl fun k y v hk hv=>?_
 match k with
 | 0=>simp at hk hv;subst hk hv;exact h
 | 1=>simp at hk hv;subst hk hv;exact .bool b
 | k+2=>simp at hk
theorem QtT {kk:KK} {zs:List Opd} {x k:Opd} (h:Rel ok0 N w0 lk lo a w L) (hf:YOp.fits P (.lkc kk zs x k) o.op=true) (he:evY lk lo (.lkc kk zs x k)=.ok s f v up) (hs:s):f/\QC P o ok0 N w0 lk lo a w v up:=by
 simp only[YOp.fits] at hf;split at hf
 ·rename_i t x' k' c ho;simp only[QKI] at hf;obtain ⟨⟨⟨hx,hk⟩,hc⟩,hz⟩:=hf;subst hc;have rx:=Opd.rep h hx;have rk:=Opd.rep h hk;simp only[evY] at he;split at he
  ·rename_i kvs key zl hxv hkv hzl;cases he;obtain ⟨kt,et,i,zz,hm,hkt,hi,hiz,hzr⟩:∃ kt e i v,P.underlying t=some (.map kt e)/\qP P kk kt=true/\P.info? e=some i/\i.zero=some v/\QF (okL ok0 lo L) w (.agg zl) v:=by
    unfold QBn at hz;split at hz
    ·rename_i e he;obtain ⟨kt,h1,h2⟩:=JV he;simp only[QKI] at hz;obtain ⟨i,z,hi,hz0,hzs,_⟩:=YV hz.1;have hag:=hz.2;rw[hi] at hag;simp only[hz0] at hag;split at hag
     ·rename_i cs hcs;injection hcs with hcs;obtain ⟨hl,hxx⟩:=Z3 (w:=w) (lo:=lo) (L:=L) (ok:=okL ok0 lo L) (lk:=lk) hzs;have hmk:QaT (zs.map (·.av lk))=.iv (.agg zl):=by simp[QaT,hzl]
      have hrep:=VW (cs:=zs.map (·.av lk)) (vs:=cs.toList) (ok:=okL ok0 lo L) (w:=w) (lo:=lo) (L:=L) (by subst hcs;simpa[Value.cells] using hl) (fun u hu=>by
       subst hcs;obtain ⟨q,hq,rfl⟩:=QLh hu;have hq2:q<(zs.map (·.av lk)).length:=by rw[<- hl];simpa[Value.cells] using hq
       exact (hxx q _ _ (QKF hq2) (by simpa[Value.cells] using QKF hq)).2) (fun q y u a b=>by
       subst hcs;exact (hxx q y u a (by simpa[Value.cells] using b)).1)
      rw[hmk] at hrep;refine ⟨kt,e,i,z,h1,h2,hi,hz0,?_⟩;subst hcs;simpa using Y7 hrep
     cases hag
    cases hz
   obtain ⟨hkk,hkval⟩:=XF (w:=w) (lo:=lo) (L:=L) hkv;have hik:=Vj hkt hkk;have hke:=hkval rk;rw[hxv] at rx;have ri:=Y7 rx;generalize hey:a.eval x'=xv at ri;cases ri with
   | mapn =>
     have hc:=hik.check w true;have hff:=VU (P:=P) (w:=w) hkt key.val;have hzz:(zeroValue et).run P w=.ok zz w:=by simp[zeroValue,typeInfo,hi,hiz]
     exact ⟨trivial,QC.pure h (u:=.tuple #[zz,.bool false]) (by simp[execOp,ho,hey,hke,Instr.lookup,run_underlying hm,hc,hff,hzz]) (.iv _ _ (Qe1 hzr))⟩
   | map _ r es clock hok hr hmr hdd hxx =>
     rcases Yg hmr (QKJ _) hdd hkt hkk hs with ⟨h1,h2⟩ | ⟨j,e,p,h1,_,h3,h4,h5,_⟩
     ·have hr2:=QbR (P:=P) hm hr hik hi hiz h1;refine ⟨trivial,QC.pure h (u:=.tuple #[zz,.bool false]) (by simp[execOp,ho,hey,hke,hr2]) (.iv _ _ ?_)⟩;cases hf:Qh key kvs with
      | none=>exact Qe1 hzr
      | some y =>
        obtain ⟨j,hj⟩:=Z5 hf;exact absurd rfl (h2 j _ (QKG.1 hj).1 hj)
     have hr2:=QbR (P:=P) hm hr hik hi hiz h1;refine ⟨trivial,QC.pure h (u:=.tuple #[e.val,.bool true]) (by simp[execOp,ho,hey,hke,hr2]) (.iv _ _ ?_)⟩;obtain ⟨a,y⟩:=p;simp only at h5;subst h5;rw[Vf hdd h4];exact Qe1 (hxx j e _ h3 h4)
  cases he
 ·cases hf
section
variable (P:Program) (w:World) {t:TypeId} {ms:Array (String × TypeId)}
theorem QiA (d) (hu:P.underlying t=some (.interface ms)):(Op.equalIn (d+1) t .nilIface .nilIface).run P w=.ok true w:=by
 simp[Op.equalIn,run_underlying hu]
theorem QiB (d ty pv) (hu:P.underlying t=some (.interface ms)):(Op.equalIn (d+1) t (.iface ty pv) .nilIface).run P w=.ok false w:=by
 simp[Op.equalIn,run_underlying hu]
theorem Qol (hu:P.underlying t=some (.interface ms)):(Op.equal t .nilIface .nilIface).run P w=.ok true w:=QiA P w 9999 hu
theorem Qom (ty pv) (hu:P.underlying t=some (.interface ms)):(Op.equal t (.iface ty pv) .nilIface).run P w=.ok false w:=QiB P w 9999 ty pv hu
theorem Qoj (ne) (x:Operand) (hu:P.underlying t=some (.interface ms)):(do eqGuard (if ne then .neq else .eql) t x (.const .nilIface) .nilIface .nilIface;binOp (if ne then .neq else .eql) t .nilIface .nilIface:Sem Value).run P w=.ok (.bool !ne) w:=by
 have h1:∀ op,eqGuard op t x (.const .nilIface) .nilIface .nilIface=pure ():=fun op=>by cases op<;>cases x<;>rfl
 rw[h1];cases ne<;>simp[binOp,Qol P w hu]
theorem Qok (ne) (x:Operand) (ty pv) (hu:P.underlying t=some (.interface ms)):(do eqGuard (if ne then .neq else .eql) t x (.const .nilIface) (.iface ty pv) .nilIface;binOp (if ne then .neq else .eql) t (.iface ty pv) .nilIface:Sem Value).run P w=.ok (.bool ne) w:=by
 have h1:∀ op,eqGuard op t x (.const .nilIface) (.iface ty pv) .nilIface=pure ():=fun op=>by cases op<;>rfl
 rw[h1];cases ne<;>simp[binOp,Qom P w ty pv hu]
end
theorem Qt2 {ne x} (h:Rel ok0 N w0 lk lo a w L) (hf:YOp.fits P (.isn ne x) o.op=true) (he:evY lk lo (.isn ne x)=.ok s f v up):f/\QC P o ok0 N w0 lk lo a w v up:=by
 simp only[YOp.fits] at hf;split at hf
 ·rename_i op t x' c ho;simp only[QKI,beq_iff_eq] at hf;obtain ⟨⟨hop,hx⟩,ht⟩:=hf;subst hop;split at ht
  ·rename_i ms hu;have rx:=Opd.rep h hx;have hec:a.eval (.const .nilIface)=.nilIface:=rfl;simp only[evY] at he;generalize hey:a.eval x'=xv at rx;split at he
   ·rename_i hxv;cases he;rw[hxv] at rx;cases rx with
    | iv _ _ r=>cases r with
      | lit =>
        have hr:=Qoj P w ne x' hu;refine ⟨trivial,QC.pure h (u:=.bool !ne) ?_ ?_⟩
        ·simp only[execOp,ho,hey,hec];rw[Sem.run_bind,hr];rfl
        cases ne<;>exact XN _
   ·rename_i hxv;cases he;rw[hxv] at rx;cases rx with
    | iv _ _ r=>cases r with
      | ifn _ hi =>
        obtain ⟨ty,pv,rfl⟩:∃ ty pv,xv=.iface ty pv:=by
         unfold QF5 at hi;split at hi
         ·exact ⟨_,_,rfl⟩
         cases hi
        have hr:=Qok P w ne x' ty pv hu;refine ⟨trivial,QC.pure h (u:=.bool ne) ?_ ?_⟩
        ·simp only[execOp,ho,hey,hec];rw[Sem.run_bind,hr];rfl
        cases ne<;>exact XN _
   cases he
  cases ht
 ·cases hf
theorem QzG {op} (h:Rel ok0 N w0 lk lo a w L) (hok0:∀ b,¬ w0.fr b->ok0 b) (hf:YOp.fits P op o.op=true) (he:evY lk lo op=.ok s f v up) (hs:s):f/\QC P o ok0 N w0 lk lo a w v up:=by
 cases op with
 | no=>cases he
 | mks id e b zs n=>exact QtM h hf he hs
 | mx mn x y=>exact QzH h hf he
 | mkm id r=>exact QtN h hf he
 | lki kk z x k=>exact QtR h hf he hs
 | lkd id kk z x k=>exact QtS h hf he hs
 | lkr id kk x k=>exact QtQ h hf he hs
 | mupd id kk x k y=>exact Qqz h hf he hs
 | mupr id kk x k y=>exact Qqy h hf he hs
 | ment id kk z x k=>exact QqA h hf he hs
 | ests id x t v=>exact QqE h hf he hs
 | bla zs ps=>exact Qud h hf he
 | ixg len x i=>exact Qt0 h hf he hs
 | fgt off x=>exact Qt5 h hf he
 | rngm id x=>exact Qqt h hf he
 | ent id x=>exact Qt8 h hf he
 | mkf g fs cs=>exact QtO h hf he
 | neg x=>exact QtJ h hf he hs
 | eqs ne n x y=>exact Qt7 h hf he hs
 | lenm x=>exact QqD h hf he
 | lenmo id x=>exact QnH h hf he
 | ixa len sz x i=>exact Qt1 h hf he hs
 | zslv sz=>exact QzF h hf he
 | apz e sz bytes x y=>exact Qug h hok0 hf he hs
 | mkz id kk=>exact QtL h hf he
 | mupz id kk x k y=>exact Qqx h hf he hs
 | mdlz id kk x k=>exact QqB h hf he hs
 | sl3 sz x n m=>exact QtH h hf he hs
 | lkc kk zs x k=>exact QtT h hf he hs
 | isn ne x=>exact Qt2 h hf he
end
end Go.Ev
