/- Abstract values for a value-semantics evaluator of the translated Go code, and how they stand for values in a world. -/
import Derived.Still
import Derived.Below
import Derived.Laws.AppendOwn
import Derived.KernelRfl
import GoSem.ClaimKeys
import Derived.Laws.Strings
import Derived.Laws.IdiomStrings
set_option linter.all false
namespace Go
abbrev Qzk:=@List.getElem?_eq_getElem
abbrev Qzl:=@List.getElem?_eq_some_iff
abbrev Qzm:=@Bool.and_eq_true
abbrev Qzn:=@List.take_succ_eq_append_getElem
abbrev Qzo:=@Option.map_eq_some_iff
abbrev Qzp:=@List.length_append
abbrev Qzq:=@Nat.le_refl
abbrev Qzr:=@List.getElem_mem
abbrev Qzs:=@Array.getElem?_eq_some_iff
abbrev Qzt:=@List.take_of_length_le
abbrev Qzu:=@List.getElem?_map
abbrev Qzv:=@List.length_cons
abbrev Qzw:=@List.length_map
abbrev Qzx:=@Nat.zero_add
abbrev Qzy:=@List.eq_nil_of_length_eq_zero
abbrev Qzz:=@List.getElem?_append_right
abbrev QzA:=@List.getElem?_append_left
abbrev QzB:=@List.mem_of_getElem?
abbrev QzC:=@List.append_assoc
abbrev QzD:=@List.mem_append
abbrev QzE:=@List.length_nil
abbrev QzF:=@Array.getElem?_eq_getElem
abbrev QzG:=@List.take_length
abbrev QzH:=@List.map_cons
abbrev QzI:=@List.mem_map
abbrev QzJ:=@Nat.lt_of_lt_of_le
abbrev QzK:=@List.mem_singleton
abbrev QzL:=@Bool.not_eq_true'
abbrev QzM:=@Bool.false_eq_true
abbrev QzN:=@Nat.mul_le_mul_right
abbrev QzO:=@Nat.add_mul
abbrev QzP:=@List.mem_flatMap
abbrev QzQ:=@List.length_filter_le
abbrev QzR:=@List.getElem?_take
abbrev QzS:=@List.getElem?_of_mem
abbrev QzT:=@Nat.le_trans
abbrev QzU:=@List.map_append
abbrev QzV:=@List.getElem_of_mem
abbrev QzW:=@Int.mul_le_mul
abbrev QzX:=@List.all_eq_true
abbrev QzY:=@Array.getD_eq_getD_getElem?
abbrev QzZ:=@Nat.min_eq_left
abbrev Qz0:=@Nat.pow_le_pow_right
abbrev Qz1:=@List.mem_cons
abbrev Qz2:=@Array.getElem?_setIfInBounds
abbrev Qz3:=@Option.isSome_iff_exists
abbrev Qz4:=@List.flatMap_cons
abbrev Qz5:=@List.mem_of_mem_take
abbrev Qz6:=@Nat.add_assoc
abbrev Qz7:=@List.getElem?_set
abbrev Qz8:=@Int.mul_nonneg
abbrev Qz9:=@World.block_lt_of_cell?
abbrev QAa:=@List.nil_append
abbrev QAb:=@List.getElem?_drop
abbrev QAc:=@List.mem_of_mem_drop
abbrev QAd:=@Option.getD_some
abbrev QAe:=@Nat.add_zero
abbrev QAf:=@List.not_mem_nil
abbrev QAg:=@List.length_take
abbrev QAh:=@List.countP_cons
abbrev QAi:=@List.exists_cons_of_ne_nil
abbrev QAj:=@Int.tdiv_eq_ediv_of_nonneg
abbrev QAk:=@List.size_toArray
abbrev QAl:=@List.flatMap_append
abbrev QAm:=@List.drop_eq_getElem_cons
abbrev QAn:=@Nat.lt_or_ge
abbrev QAo:=@List.mem_filter
abbrev QAp:=@Nat.mul_one
abbrev QAq:=@World.cell?_of_block
abbrev QAr:=@List.filter_cons_of_pos
abbrev QAs:=@List.filter_cons_of_neg
abbrev QAt:=@Option.map_some
abbrev QAu:=@Nat.zero_le
abbrev QAv:=@List.range_succ
abbrev QAw:=@List.foldl_cons
abbrev QAx:=@List.append_nil
abbrev QAy:=@Array.length_toList
abbrev QAz:=@Array.getElem?_push
abbrev QAA:=@Nat.not_lt
abbrev QAB:=@List.cons_append
abbrev QAC:=@List.countP_le_length
abbrev QAD:=@Array.getElem?_append
abbrev QAE:=@List.mem_range
abbrev QAF:=@List.ext_getElem?
abbrev QAG:=@Bool.or_eq_true
abbrev QAH:=@List.map_take
abbrev QAI:=@List.drop_eq_nil_of_le
abbrev QAJ:=@Array.getElem?_modify
abbrev QAK:=@Nat.mul_le_mul
abbrev QAL:=@List.nodup_nil
abbrev QAM:=@Array.mapM_eq_mapM_toList
abbrev QAN:=@List.map_congr_left
abbrev QAO:=@List.map_drop
abbrev QAP:=@List.countP_append
end Go
namespace Go.Ev
open Go Go.RowKit
abbrev Kp (K:World->Prop):Prop:=∀ w w',K w->Below w.heap.size w w'->K w'
inductive KC where
 | int (k:IntKind) (n:Int)
 | bool (b:Bool)
 deriving DecidableEq,Inhabited
def KC.val:KC->Value
 | .int k n=>.int k n
 | .bool b=>.bool b
inductive MK where
 | int (k:IntKind) (n:Int)
 | str (s:List UInt8)
 | agg (cs:List KC)
 deriving DecidableEq,Inhabited
def MK.val:MK->Value
 | .int k n=>.int k n
 | .str s=>.string ⟨s.toArray⟩
 | .agg cs=>.agg (cs.map KC.val).toArray
inductive IV where
 | any
 | bool (b:Bool)
 | int (k:IntKind) (n:Int)
 | str (s:List UInt8)
 | nilp
 | sl (sz:Nat) (es:List (List IV))
 | ptr (cs:List IV)
 | agg (cs:List IV)
 | tup (cs:List IV)
 | fn (f:FuncId)
 | lit (v:Value)
 | map (kvs:List (MK × IV))
 | clo (g:FuncId) (first caps:List IV)
 | ifn
 | bag (sz:Nat) (es:List (List IV))
 deriving Inhabited
inductive AV where
 | iv (x:IV)
 | agg (cs:List AV)
 | loc (id off:Nat)
 | eloc (id n i off:Nat)
 | aref (id n:Nat)
 | mref (id:Nat) (k:MK) (n:Nat)
 | nilr (sz:Nat)
 | zsl (sz:Nat)
 | oref (id:Nat)
 | belem (id i:Nat)
 | clo (g:FuncId) (first caps:List AV)
 | cb (id:Nat)
 | tup (cs:List AV)
 deriving Inhabited
structure QL (Fr:Nat->Prop) (w w':World):Prop where
 os:w'.os=w.os
 tape:w'.tape=w.tape
 output:w'.output=w.output
 size:w.heap.size<=w'.heap.size
 block:∀ k,Fr k->w'.heap[k]?=w.heap[k]?
def isFn:Value->Bool
 | .func _ _ _=>true
 | _=>false
structure Ext where
 v:Value
 hv:isFn v=true
 J:(Nat->Prop)->(Nat->Prop)->World->Prop
 stay:∀ O D w w',J O D w->QL D w w'->J O D w'
instance:Inhabited Ext:=⟨⟨.func (.func 0) #[] #[],rfl,fun _ _ _=>True,fun _ _ _ _ _ _=>trivial⟩⟩
inductive AO where
 | box (cs:List AV)
 | arr (e:TypeId) (sz:Nat) (es:List (List AV)) (mv:Nat)
 | mapd (kvs:List (MK × IV))
 | mapr (e:TypeId) (sz:Nat) (kvs:List (MK × List (List IV))) (pend:Option MK)
 | siter (s:List UInt8) (pos:Nat)
 | miter (kvs:List (MK × IV)) (seen:List Nat)
 | bytes (s:List UInt8)
 | ext (s:Ext)
 deriving Inhabited
theorem QM (b o k):(⟨b,o,none⟩:Addr).add k=⟨b,o+k,none⟩:=by
 unfold Addr.add;split<;>simp_all
structure Z5 (n:Nat) (es:Array MapEntry) (clock:Nat) (key:Nat->Option MK):Prop where
 size:es.size=n
 keys:∀ (i:Nat) (e:MapEntry),es[i]?=some e->∃ k,key i=some k/\e.key=k.val
 stamp:∀ (i:Nat) (e:MapEntry),es[i]?=some e->e.born=i
 clk:clock=n
theorem Z5.born {n es clock key} (h:Z5 n es clock key) (i:Nat) (e:MapEntry) (he:es[i]?=some e):e.born<clock:=by
 rw[h.stamp i e he,h.clk,<- h.size];exact (Qzs.1 he).1
theorem Z5.apart {n es clock key} (h:Z5 n es clock key) (i j:Nat) (e f:MapEntry) (he:es[i]?=some e) (hf:es[j]?=some f) (heq:e.born=f.born):i=j:=by
 rw[<- h.stamp i e he,heq,h.stamp j f hf]
def QwN:Value->Bool
 | .iface _ _=>true
 | _=>false
inductive Qv (ok:Nat->Prop) (w:World):IV->Value->Prop
 | any (v:Value):Qv ok w .any v
 | bool (b:Bool):Qv ok w (.bool b) (.bool b)
 | int (k:IntKind) (n:Int):Qv ok w (.int k n) (.int k n)
 | str (s:List UInt8):Qv ok w (.str s) (.string ⟨s.toArray⟩)
 | nilp:Qv ok w .nilp (.pointer none)
 | nils (sz:Nat):Qv ok w (.sl sz []) (.slice none 0 0)
 | nilz (sz:Nat) (a:Addr):Qv ok w (.sl sz []) (.slice (some a) 0 0)
 | sl (sz:Nat) (es:List (List IV)) (b off cap:Nat) (u:Nat->Value) (hl:es.length<=cap) (hc:cap<=maxLen)
   (hs:∀ c∈es,c.length=sz)
   (hu:∀ k,k<es.length*sz->ok b/\w.cell? ⟨b,off+k,none⟩=some (u k)/\(u k).oneCell'=true)
   (hx:∀ (i j:Nat) (c:List IV) (x:IV),es[i]?=some c->c[j]?=some x->Qv ok w x (u (i*sz+j))) :
   Qv ok w (.sl sz es) (.slice (some ⟨b,off,none⟩) es.length cap)
 | ptr (cs:List IV) (b off:Nat) (u:Nat->Value)
   (hu:∀ k,k<cs.length->ok b/\w.cell? ⟨b,off+k,none⟩=some (u k)/\(u k).oneCell'=true)
   (hx:∀ (k:Nat) (x:IV),cs[k]?=some x->Qv ok w x (u k)) :
   Qv ok w (.ptr cs) (.pointer (some ⟨b,off,none⟩))
 | agg (cs:List IV) (vs:List Value) (hl:vs.length=cs.length) (h1:∀ u∈vs,u.oneCell'=true)
   (hx:∀ (k:Nat) (x:IV) (u:Value),cs[k]?=some x->vs[k]?=some u->Qv ok w x u) :
   Qv ok w (.agg cs) (.agg vs.toArray)
 | tup (cs:List IV) (vs:List Value) (hl:vs.length=cs.length)
   (hx:∀ (k:Nat) (x:IV) (u:Value),cs[k]?=some x->vs[k]?=some u->Qv ok w x u) :
   Qv ok w (.tup cs) (.tuple vs.toArray)
 | fn (f:FuncId):Qv ok w (.fn f) (.func (.func f) #[] #[])
 | lit (v:Value):Qv ok w (.lit v) v
 | ifn (v:Value) (h:QwN v=true):Qv ok w .ifn v
 | bag (sz:Nat) (es es':List (List IV)) (v:Value) (hp:es'.Perm es) (h:Qv ok w (.sl sz es') v):Qv ok w (.bag sz es) v
 | mapn:Qv ok w (.map []) (.map none)
 | map (kvs:List (MK × IV)) (r:Nat) (es:Array MapEntry) (clock:Nat) (hok:ok r) (hr:w.heap[r]?=some (.map es clock)) (hm:Z5 kvs.length es clock (fun i=>(kvs[i]?).map (·.1)))
   (hd:∀ (i j:Nat) (p q:MK × IV),kvs[i]?=some p->kvs[j]?=some q->p.1=q.1->i=j)
   (hx:∀ (i:Nat) (e:MapEntry) (p:MK × IV),es[i]?=some e->kvs[i]?=some p->Qv ok w p.2 e.val):Qv ok w (.map kvs) (.map (some r))
 | clo (g:FuncId) (fs cs:List IV) (us vs:List Value) (h1:us.length=fs.length) (h2:vs.length=cs.length)
   (hf:∀ (k:Nat) (x:IV) (u:Value),fs[k]?=some x->us[k]?=some u->Qv ok w x u)
   (hc:∀ (k:Nat) (x:IV) (u:Value),cs[k]?=some x->vs[k]?=some u->Qv ok w x u):Qv ok w (.clo g fs cs) (.func (.func g) us.toArray vs.toArray)
theorem Qv.mono {ok ok':Nat->Prop} {w w':World} {x:IV} {v:Value} (h:Qv ok w x v)
  (hok:∀ b,ok b->b<w.heap.size->ok' b/\w'.heap[b]?=w.heap[b]?):Qv ok' w' x v:=by
 have cell:∀ (b o:Nat) (u:Value),ok b->w.cell? ⟨b,o,none⟩=some u->ok' b/\w'.cell? ⟨b,o,none⟩=some u:=by
  intro b o u hb hc;have hlt:=Qz9 w ⟨b,o,none⟩ hc;obtain ⟨h1,h2⟩:=hok b hb hlt;exact ⟨h1,(QAq (a:=⟨b,o,none⟩) h2).trans hc⟩
 induction h with
 | any v=>exact .any v
 | bool b=>exact .bool b
 | int k n=>exact .int k n
 | str s=>exact .str s
 | nilp=>exact .nilp
 | nils sz=>exact .nils sz
 | nilz sz a=>exact .nilz sz a
 | sl sz es b off cap u hl hc hs hu _ ih =>
   refine .sl sz es b off cap u hl hc hs (fun k hk=>?_) (fun i j c x h1 h2=>ih i j c x h1 h2)
   obtain ⟨h1,h2,h3⟩:=hu k hk;exact ⟨(cell _ _ _ h1 h2).1,(cell _ _ _ h1 h2).2,h3⟩
 | ptr cs b off u hu _ ih =>
   refine .ptr cs b off u (fun k hk=>?_) (fun k x h1=>ih k x h1)
   obtain ⟨h1,h2,h3⟩:=hu k hk;exact ⟨(cell _ _ _ h1 h2).1,(cell _ _ _ h1 h2).2,h3⟩
 | agg cs vs hl h1 _ ih=>exact .agg cs vs hl h1 (fun k x u h1 h2=>ih k x u h1 h2)
 | tup cs vs hl _ ih=>exact .tup cs vs hl (fun k x u h1 h2=>ih k x u h1 h2)
 | fn f=>exact .fn f
 | lit v=>exact .lit v
 | ifn v h=>exact .ifn v h
 | bag sz es es' v hp _ ih=>exact .bag sz es es' v hp ih
 | mapn=>exact .mapn
 | map kvs r es clock hr0 hr hm hd _ ih =>
   have hlt:r<w.heap.size:=(Qzs.1 hr).1;obtain ⟨h1,h2⟩:=hok r hr0 hlt;exact .map kvs r es clock h1 (h2.trans hr) hm hd (fun i e p h3 h4=>ih i e p h3 h4)
 | clo g fs cs us vs h1 h2 _ _ ih1 ih2=>exact .clo g fs cs us vs h1 h2 (fun k x u a b=>ih1 k x u a b) (fun k x u a b=>ih2 k x u a b)
inductive Lay where
 | box (b:Nat)
 | arr (v:Value) (xs:List Value)
 | one (b:Nat)
 | map (b:Nat) (vals:List (MK × Value))
 | ext (O D:Nat->Prop)
def Lay.has:Lay->Nat->Prop
 | .box b,k=>b=k
 | .arr v _,k=>v.ownBlock=some k
 | .one b,k=>b=k
 | .map b vals,k=>b=k\/∃ p∈vals,p.2.ownBlock=some k
 | .ext O _,k=>O k
def Qh {α:Type} (k:MK):List (MK × α)->Option α
 | []=>none
 | p::r=>if p.1=k then some p.2 else Qh k r
def AO.isIter:AO->Bool
 | .siter _ _ | .miter _ _=>true
 | .box _ | .arr _ _ _ _ | .mapd _ | .mapr _ _ _ _ | .bytes _ | .ext _=>false
def isSl:Value->Bool
 | .slice _ _ _=>true
 | _=>false
def Qze:Value->Bool
 | .pointer _=>true
 | _=>false
def QhC:Value->Bool
 | .slice _ 0 0=>true
 | _=>false
theorem WP {v} (h:QhC v=true):∃ a,v=.slice a 0 0:=by
 unfold QhC at h;split at h
 ·exact ⟨_,rfl⟩
 ·cases h
inductive Qs (ok:Nat->Prop) (w:World) (lo:Nat->Option AO) (L:Nat->Lay):AV->Value->Prop
 | iv (x:IV) (v:Value) (h:Qv ok w x v):Qs ok w lo L (.iv x) v
 | agg (cs:List AV) (vs:List Value) (hl:vs.length=cs.length) (h1:∀ u∈vs,u.oneCell'=true)
   (hx:∀ (k:Nat) (x:AV) (u:Value),cs[k]?=some x->vs[k]?=some u->Qs ok w lo L x u):Qs ok w lo L (.agg cs) (.agg vs.toArray)
 | loc (id off:Nat) (cs:List AV) (b:Nat) (ho:lo id=some (.box cs)) (hL:L id=.box b) :
   Qs ok w lo L (.loc id off) (.pointer (some ⟨b,off,none⟩))
 | aref (id:Nat) (e:TypeId) (sz:Nat) (es:List (List AV)) (mv:Nat) (v:Value) (xs:List Value)
   (ho:lo id=some (.arr e sz es mv)) (hL:L id=.arr v xs) (h1:isSl v=true):Qs ok w lo L (.aref id es.length) v
 | old (id n:Nat) (e:TypeId) (sz:Nat) (es:List (List AV)) (mv:Nat) (v v':Value) (xs:List Value)
   (ho:lo id=some (.arr e sz es mv)) (hL:L id=.arr v xs) (h1:isSl v'=true) (hn:n<es.length)
   (hv:mv<=n->(v'=.slice none 0 0/\n=0)\/∃ b cap,v'=.slice (some ⟨b,0,none⟩) n cap/\n<=cap/\cap<=maxLen /\
     (∀ k,k<n*sz->(ok b\/v.ownBlock=some b)/\∃ u,w.cell? ⟨b,k,none⟩=some u/\xs[k]?=some u)):Qs ok w lo L (.aref id n) v'
 | eloc (id n i off:Nat) (e:TypeId) (sz:Nat) (es:List (List AV)) (mv:Nat) (v:Value) (xs:List Value) (b:Nat)
   (ho:lo id=some (.arr e sz es mv)) (hL:L id=.arr v xs) (hn:n<=es.length)
   (hv:mv<=n->i<n/\(n=es.length->v.ownBlock=some b) /\
     (∀ k,k<n*sz->(ok b\/v.ownBlock=some b)/\∃ u,w.cell? ⟨b,k,none⟩=some u/\xs[k]?=some u)) :
   Qs ok w lo L (.eloc id n i off) (.pointer (some ⟨b,i*sz+off,none⟩))
 | mref (id:Nat) (k:MK) (n:Nat) (e:TypeId) (sz:Nat) (kvs:List (MK × List (List IV))) (pend:Option MK) (b:Nat) (vals:List (MK × Value)) (v:Value)
   (ho:lo id=some (.mapr e sz kvs pend)) (hL:L id=.map b vals) (h1:isSl v=true) (hn:n<=((Qh k kvs).getD []).length) (hv:((Qh k kvs).getD []).length=n->v=(Qh k vals).getD (.slice none 0 0)):Qs ok w lo L (.mref id k n) v
 | nilr (sz:Nat):Qs ok w lo L (.nilr sz) (.slice none 0 0)
 | zsl (sz:Nat) (v:Value) (h:QhC v=true):Qs ok w lo L (.zsl sz) v
 | oref (id b:Nat) (o:AO) (ho:lo id=some o) (hn:o.isIter=true) (hL:L id=.one b):Qs ok w lo L (.oref id) (.pointer (some ⟨b,0,none⟩))
 | omap (id b:Nat) (kvs:List (MK × IV)) (ho:lo id=some (.mapd kvs)) (hL:L id=.one b):Qs ok w lo L (.oref id) (.map (some b))
 | orow (id b:Nat) (e:TypeId) (sz:Nat) (kvs:List (MK × List (List IV))) (pend:Option MK) (vals:List (MK × Value)) (ho:lo id=some (.mapr e sz kvs pend)) (hL:L id=.map b vals):Qs ok w lo L (.oref id) (.map (some b))
 | obytes (id b cap:Nat) (s:List UInt8) (ho:lo id=some (.bytes s)) (hL:L id=.one b):Qs ok w lo L (.oref id) (.slice (some ⟨b,0,none⟩) s.length cap)
 | belem (id i b:Nat) (s:List UInt8) (ho:lo id=some (.bytes s)) (hL:L id=.one b) (hi:i<s.length):Qs ok w lo L (.belem id i) (.pointer (some ⟨b,i,none⟩))
 | clo (g:FuncId) (fs cs:List AV) (us vs:List Value) (h1:us.length=fs.length) (h2:vs.length=cs.length)
   (hf:∀ (k:Nat) (x:AV) (u:Value),fs[k]?=some x->us[k]?=some u->Qs ok w lo L x u)
   (hc:∀ (k:Nat) (x:AV) (u:Value),cs[k]?=some x->vs[k]?=some u->Qs ok w lo L x u):Qs ok w lo L (.clo g fs cs) (.func (.func g) us.toArray vs.toArray)
 | cb (id:Nat) (s:Ext) (O D:Nat->Prop) (ho:lo id=some (.ext s)) (hL:L id=.ext O D):Qs ok w lo L (.cb id) s.v
 | tup (cs:List AV) (vs:List Value) (hl:vs.length=cs.length)
   (hx:∀ (k:Nat) (x:AV) (u:Value),cs[k]?=some x->vs[k]?=some u->Qs ok w lo L x u):Qs ok w lo L (.tup cs) (.tuple vs.toArray)
def Qj6 (kvs:List (MK × List (List IV))) (pend:Option MK) (vals:List (MK × Value)) (es:Array MapEntry) (clock:Nat):Prop :=
 ∃ n,n<=kvs.length/\Z5 n es clock (fun i=>(kvs[i]?).map (·.1))/\(∀ i p,kvs[i]?=some p->n<=i->pend=some p.1) /\
  ∀ (i:Nat) (e:MapEntry) (q:MK × Value),es[i]?=some e->vals[i]?=some q->pend≠some q.1->e.val=q.2
def Yo (ok:Nat->Prop) (w:World) (kvs:List (MK × IV)) (seen:List Nat) (r:Option Nat) (since:Nat) (sn:Array Nat):Prop :=
 match r with
 | none=>kvs=[]
 | some r=>∃ es,ok r/\w.heap[r]?=some (.map es since)/\Z5 kvs.length es since (fun i=>(kvs[i]?).map (·.1)) /\
   (∀ (i:Nat) (e:MapEntry) (p:MK × IV),es[i]?=some e->kvs[i]?=some p->Qv ok w p.2 e.val) /\
   sn.size=seen.length/\∀ (i:Nat) (x:Nat),(seen.reverse)[i]?=some x->∃ e,es[x]?=some e/\sn[i]?=some e.born
structure ZR where
 w:World
 fr:Nat->Prop
 lt:∀ b,fr b->b<w.heap.size
 pin:Nat->Value:=fun _=>undef
structure Xm (Fr:Nat->Prop) (w:World) (e:TypeId) (sz:Nat) (v:Value) (n:Nat) (xs:List Value):Prop where
 own:w.ownsRow 0 e sz v n xs
 free:∀ b,v.ownBlock=some b->¬ Fr b
def Qt (Fr:Nat->Prop) (ok:Nat->Prop) (w:World) (lo:Nat->Option AO) (L:Nat->Lay):AO->Lay->Prop
 | .box cs,.box b=>¬ Fr b/\∃ t vs,w.heap[b]?=some (.cells (List.toArray vs) t (0,0))/\vs.length=cs.length/\(∀ u∈vs,u.oneCell'=true) /\
   ∀ (k:Nat) (x:AV) (u:Value),cs[k]?=some x->vs[k]?=some u->Qs ok w lo L x u
 | .arr e sz es mv,.arr v xs=>Xm Fr w e sz v es.length xs/\mv<=es.length/\(∀ c∈es,c.length=sz)/\(∀ u∈xs,u.oneCell'=true) /\
   ∀ (i j:Nat) (c:List AV) (x:AV) (u:Value),es[i]?=some c->c[j]?=some x->xs[i*sz+j]?=some u->Qs ok w lo L x u
 | .mapd kvs,.one b=>¬ Fr b/\∃ es clock,w.heap[b]?=some (.map es clock)/\Z5 kvs.length es clock (fun i=>(kvs[i]?).map (·.1)) /\
   (∀ (i j:Nat) (p q:MK × IV),kvs[i]?=some p->kvs[j]?=some q->p.1=q.1->i=j)/\∀ (i:Nat) (e:MapEntry) (p:MK × IV),es[i]?=some e->kvs[i]?=some p->Qv ok w p.2 e.val
 | .mapr e sz kvs pend,.map b vals=>¬ Fr b/\(∃ es clock,w.heap[b]?=some (.map es clock)/\Qj6 kvs pend vals es clock) /\
   (∀ (i j:Nat) (p q:MK × List (List IV)),kvs[i]?=some p->kvs[j]?=some q->p.1=q.1->i=j)/\vals.map (·.1)=kvs.map (·.1) /\
   (∀ (i:Nat) (p:MK × List (List IV)) (q:MK × Value),kvs[i]?=some p->vals[i]?=some q->∃ xs,Xm Fr w e sz q.2 p.2.length xs/\q.2.ownBlock≠some b/\(∀ c∈p.2,c.length=sz)/\(∀ u∈xs,u.oneCell'=true) /\
     ∀ (i j:Nat) (c:List IV) (x:IV) (u:Value),p.2[i]?=some c->c[j]?=some x->xs[i*sz+j]?=some u->Qv ok w x u) /\
   (∀ (i j:Nat) (p q:MK × Value) (g:Nat),i≠j->vals[i]?=some p->vals[j]?=some q->p.2.ownBlock=some g->q.2.ownBlock≠some g)
 | .miter kvs seen,.one b=>¬ Fr b/\∃ (r:Option Nat) (since:Nat) (sn:Array Nat),w.heap[b]?=some (.mapIter r since sn since)/\Yo ok w kvs seen r since sn
 | .ext s,.ext O D=>(∀ b,O b->¬ Fr b/\b<w.heap.size/\D b)/\(∀ b,D b->O b\/(Fr b/\ok b))/\s.J O D w
 | .siter s pos,.one b=>¬ Fr b/\w.heap[b]?=some (.stringIter ⟨s.toArray⟩ pos)
 | .bytes s,.one b=>¬ Fr b/\∃ (cur:Array Value) (t:TypeId),w.heap[b]?=some (.cells cur t (cur.size,cur.size+1))/\s.length<=cur.size/\∀ (i:Nat) (c:UInt8),s[i]?=some c->cur[i]?=some (.int .u8 c.toNat)
 | _,_=>False
def okL (ok0:Nat->Prop) (lo:Nat->Option AO) (L:Nat->Lay) (b:Nat):Prop:=ok0 b/\∀ id o,lo id=some o->¬ (L id).has b
structure Fm where
 n:Nat
 pins:List Nat
def Fm.dst (N:Fm) (d:Nat):Bool:=decide (d<N.n)&&!N.pins.contains d
def mark (r:Nat):Deferred:={ target:=.collected r,args:=#[] }
def US (fr:Nat->Prop) (lo:Nat->Option AO) (L:Nat->Lay) (w:World) (ds:List Deferred):Prop :=
 ∃ rs:List Nat,ds=rs.map mark/\rs.Nodup/\∀ r∈rs,w.heap[r]?=some (.deferred (some []))/\¬ fr r/\∀ id o,lo id=some o->¬ (L id).has r
structure Rel (ok0:Nat->Prop) (N:Fm) (w0:ZR) (lk:Nat->AV) (lo:Nat->Option AO) (a:Act) (w:World) (L:Nat->Lay):Prop where
 below:QL w0.fr w0.w w
 defers:US w0.fr lo L w a.defers
 size:a.tmps.size=N.n
 env:∀ t,Qs (okL ok0 lo L) w lo L (lk t) (a.tmps.getD t undef)
 objs:∀ id o,lo id=some o->Qt w0.fr (okL ok0 lo L) w lo L o (L id)
 apart:∀ i j oi oj b,i≠j->lo i=some oi->lo j=some oj->(L i).has b->¬ (L j).has b
 pin:∀ t,N.pins.contains t=true->a.tmps.getD t undef=w0.pin t
attribute [grind] Qs
theorem alloc_old (w:World) (o:Obj) (i:Nat) (h:i<w.heap.size):(w.alloc o).heap[i]?=w.heap[i]?:=by show (w.heap.push o)[i]?=_;rw[QAz,if_neg (Nat.ne_of_lt h)]
theorem Qs.ext {ok ok' w w' lo lo' L L' x v}
  (h:Qs ok w lo L x v) (hok:∀ b,ok b->b<w.heap.size->ok' b) (hw:∀ b,b<w.heap.size->w'.heap[b]?=w.heap[b]?)
  (hlo:∀ id o,lo id=some o->lo' id=some o/\L' id=L id):Qs ok' w' lo' L' x v:=by
 have cell:∀ b o u,w.cell? ⟨b,o,none⟩=some u->b<w.heap.size/\w'.cell? ⟨b,o,none⟩=some u:=fun b o _ hc =>
  have hlt:=Qz9 w ⟨b,o,none⟩ hc
  ⟨hlt,(QAq (a:=⟨b,o,none⟩) (hw b hlt)).trans hc⟩
 induction h with
 | iv x v h=>exact .iv x v (h.mono fun b hb hlt=>⟨hok b hb hlt,hw b hlt⟩)
 | _=>grind [Qs]
theorem QL.refl (Fr w):QL Fr w w:=⟨rfl,rfl,rfl,Qzq _,fun _ _=>rfl⟩
theorem QL.trans {Fr a b c} (h:QL Fr a b) (k:QL Fr b c):QL Fr a c :=
 ⟨k.os.trans h.os,k.tape.trans h.tape,k.output.trans h.output,QzT h.size k.size,fun i hi=>(k.block i hi).trans (h.block i hi)⟩
theorem QL.mono {Fr Fr' a b} (h:QL Fr a b) (hs:∀ k,Fr' k->Fr k):QL Fr' a b:=⟨h.os,h.tape,h.output,h.size,fun k hk=>h.block k (hs k hk)⟩
theorem QL.ext {Fr a w w'} (h:QL Fr a w) (hb:Below w.heap.size w w') (hlt:∀ b,Fr b->b<a.heap.size):QL Fr a w' :=
 h.trans ⟨hb.os,hb.tape,hb.output,hb.size,fun k hk=>hb.block k (QzJ (hlt k hk) h.size)⟩
theorem QL.grown {Fr a w w' row} (h:QL Fr a w) (hg:w.grownBy w' row) (hlt:∀ b,Fr b->b<a.heap.size) (hr:∀ k,row=some k->¬ Fr k):QL Fr a w' :=
 h.trans ⟨hg.os,hg.tape,hg.output,hg.size,fun k hk=>hg.block k (QzJ (hlt k hk) h.size) (fun e=>hr k e.symm hk)⟩
theorem QL.below {w w'} (h:QL (fun b=>b<w.heap.size) w w'):Below w.heap.size w w':=⟨h.os,h.tape,h.output,h.size,h.block⟩
theorem Xm.kept {Fr w w' e sz v n xs row} (h:Xm Fr w e sz v n xs) (hg:w.grownBy w' row) (hne:v.ownBlock=none\/v.ownBlock≠row):Xm Fr w' e sz v n xs :=
 ⟨h.own.kept hg hne,h.free⟩
theorem Xm.lt {Fr w e sz v n xs} (h:Xm Fr w e sz v n xs):∀ k,v.ownBlock=some k->¬ Fr k/\k<w.heap.size :=
 fun k hk=>⟨h.free k hk,(h.own.lt k hk).2⟩
theorem Xm.stay {Fr w w' e sz v n xs} (h:Xm Fr w e sz v n xs) (hs:∀ b,v.ownBlock=some b->w'.heap[b]?=w.heap[b]?):Xm Fr w' e sz v n xs:=by
 refine ⟨⟨h.own.1,h.own.2.imp id ?_⟩,h.free⟩
 rintro ⟨g,cap,cur,h1,h2,h3,h4⟩
 exact ⟨g,cap,cur,h1,h2,(hs g (by rw[h1];rfl)).trans h3,h4⟩
theorem Yo.mono {ok ok' w w' kvs seen r since sn} (h:Yo ok w kvs seen r since sn)
  (hok:∀ b,ok b->b<w.heap.size->ok' b/\w'.heap[b]?=w.heap[b]?):Yo ok' w' kvs seen r since sn:=by
 cases r with
 | none=>exact h
 | some r =>
   obtain ⟨es,h1,h2,h3,h4,h5,h6⟩:=h;obtain ⟨h7,h8⟩:=hok r h1 (Qzs.1 h2).1;exact ⟨es,h7,h8.trans h2,h3,fun i e p a b=>(h4 i e p a b).mono hok,h5,h6⟩
theorem Uj {α β:Type} {kvs:List (MK × α)} {vals:List (MK × β)} (h:vals.map (·.1)=kvs.map (·.1)) {i:Nat} {q:MK × β} (hq:vals[i]?=some q):∃ p,kvs[i]?=some p/\p.1=q.1:=by
 have h1:(vals.map (·.1))[i]?=some q.1:=by simp[hq]
 rw[h,Qzu,Qzo] at h1;exact h1
theorem Qt.lt {B ok w lo L o l b} (h:Qt B ok w lo L o l) (hb:l.has b):¬ B b/\b<w.heap.size:=by
 unfold Qt at h;split at h
 case h_2=>exact h.1.lt b hb
 case h_4 =>
  obtain ⟨hB,⟨es,clock,hb',_⟩,hd,hk,hr,ha⟩:=h;rcases hb with hb | ⟨q,hq,hb⟩
  ·grind
  ·obtain ⟨i,hi⟩:=QzS hq
   obtain ⟨p,hp,_⟩:=Uj hk hi;obtain ⟨xs,h1,_⟩:=hr i p q hp hi;exact h1.lt b hb
 all_goals grind [Lay.has]
def AO.data:AO->Bool
 | .box _ | .arr _ _ _ _=>false
 | _=>true
theorem Qt.stay {B ok ok' w w' lo lo' L L' o l}
  (h:Qt B ok w lo L o l) (hk:QL B w w') (hBl:∀ b,B b->b<w.heap.size) (hs:∀ b,l.has b->b<w.heap.size->w'.heap[b]?=w.heap[b]?) (hok:∀ b,ok b->b<w.heap.size->ok' b/\w'.heap[b]?=w.heap[b]?)
  (all:o.data=false->∀ x v,Qs ok w lo L x v->Qs ok' w' lo' L' x v):Qt B ok' w' lo' L' o l:=by
 have hlt:∀ b,l.has b->b<w.heap.size:=fun b hb=>(h.lt hb).2
 have hc:∀ b,l.has b->w'.heap[b]?=w.heap[b]?:=fun b hb=>hs b hb (hlt b hb)
 unfold Qt at h;split at h
 case h_2=>exact ⟨h.1.stay hc,h.2.1,h.2.2.1,h.2.2.2.1,fun i j c x u h2 h3 h4=>all rfl _ _ (h.2.2.2.2 i j c x u h2 h3 h4)⟩
 case h_4 b vals =>
  obtain ⟨hB,⟨es,clock,hb,hm⟩,hd,hk,hr,ha⟩:=h;refine ⟨hB,⟨es,clock,(hc b (.inl rfl)).trans hb,hm⟩,hd,hk,fun i p q hp hq=>?_,ha⟩
  obtain ⟨xs,h1,h2,h3,h4,h5⟩:=hr i p q hp hq;exact ⟨xs,h1.stay fun b' hb'=>hc b' (.inr ⟨q,QzB hq,hb'⟩),h2,h3,h4,fun i j c x u a1 a2 a3=>(h5 i j c x u a1 a2 a3).mono hok⟩
 case h_6 =>
  obtain ⟨h1,h2,h3⟩:=h;exact ⟨fun b hb=>⟨(h1 b hb).1,QzJ (h1 b hb).2.1 hk.size,(h1 b hb).2.2⟩,by grind,Ext.stay _ _ _ w w' h3 ⟨hk.os,hk.tape,hk.output,hk.size,fun b hb=>by have:=hk.block b;grind [Lay.has]⟩⟩
 all_goals grind [Lay.has,Qt,AO.data,Qv.mono,Yo.mono]
theorem Qt.ext {B ok ok' w w' lo lo' L L' o l}
  (h:Qt B ok w lo L o l) (hk:QL B w w') (hBl:∀ b,B b->b<w.heap.size) (hok:∀ b,ok b->b<w.heap.size->ok' b) (hw:∀ b,b<w.heap.size->w'.heap[b]?=w.heap[b]?)
  (hlo:∀ id o,lo id=some o->lo' id=some o/\L' id=L id):Qt B ok' w' lo' L' o l :=
 h.stay hk hBl (fun b _ hlt=>hw b hlt) (fun b hb hlt=>⟨hok b hb hlt,hw b hlt⟩) (fun _ _ _ r=>r.ext hok hw hlo)
structure Qc1 (S:Nat->Prop) (w w':World):Prop where
 os:w'.os=w.os
 tape:w'.tape=w.tape
 output:w'.output=w.output
 size:w.heap.size<=w'.heap.size
 block:∀ k,k<w.heap.size->¬ S k->w'.heap[k]?=w.heap[k]?
theorem Qc1.of {S w w' row} (hg:w.grownBy w' row) (hr:∀ k,row=some k->S k):Qc1 S w w' :=
 ⟨hg.os,hg.tape,hg.output,hg.size,fun k hk hn=>hg.block k hk (fun e=>hn (hr k e.symm))⟩
theorem Qc1.below {S w w'} (hb:Below w.heap.size w w'):Qc1 S w w':=⟨hb.os,hb.tape,hb.output,hb.size,fun k hk _=>hb.block k hk⟩
theorem QL.only {Fr S a w w'} (h:QL Fr a w) (hg:Qc1 S w w') (hlt:∀ b,Fr b->b<a.heap.size) (hr:∀ k,S k->¬ Fr k):QL Fr a w' :=
 h.trans ⟨hg.os,hg.tape,hg.output,hg.size,fun k hk=>hg.block k (QzJ (hlt k hk) h.size) (fun e=>hr k e hk)⟩
section
variable {ok0:Nat->Prop} {N:Fm} {w0:ZR} {lk:Nat->AV} {lo:Nat->Option AO} {a:Act} {w:World} {L:Nat->Lay}
theorem Rel.le (h:Rel ok0 N w0 lk lo a w L):w0.w.heap.size<=w.heap.size:=h.below.size
theorem Rel.frlt (h:Rel ok0 N w0 lk lo a w L) {b} (hb:w.heap.size<=b):¬ w0.fr b:=fun hf=>by
 have:=w0.lt b hf;have:=h.le;omega
theorem Rel.frl (h:Rel ok0 N w0 lk lo a w L):∀ b,w0.fr b->b<w.heap.size:=fun b hb=>QzJ (w0.lt b hb) h.le
theorem Below.keep {w w' B} (hb:Below w.heap.size w w') (hB:∀ b,B b->b<w.heap.size):QL B w w':=⟨hb.os,hb.tape,hb.output,hb.size,fun k hk=>hb.block k (hB k hk)⟩
theorem US.lt {fr:Nat->Prop} {lo:Nat->Option AO} {L:Nat->Lay} {w:World} {r:Nat} (h:w.heap[r]?=some (.deferred (some []))):r<w.heap.size:=(Qzs.1 h).1
theorem US.stay {fr lo lo' L L' w w' ds} (h:US fr lo L w ds)
  (hw:∀ r,r<w.heap.size->(∀ id o,lo id=some o->¬ (L id).has r)->w'.heap[r]?=w.heap[r]?)
  (hL:∀ r,r<w.heap.size->(∀ id o,lo id=some o->¬ (L id).has r)->∀ id o,lo' id=some o->¬ (L' id).has r):US fr lo' L' w' ds:=by
 obtain ⟨rs,h1,h2,h3⟩:=h;refine ⟨rs,h1,h2,fun r hr=>?_⟩
 obtain ⟨h4,h5,h6⟩:=h3 r hr;have hlt:=(Qzs.1 h4).1;exact ⟨(hw r hlt h6).trans h4,h5,hL r hlt h6⟩
theorem Rel.ext {w'} (h:Rel ok0 N w0 lk lo a w L) (hb:Below w.heap.size w w'):Rel ok0 N w0 lk lo a w' L :=
 ⟨h.below.ext hb w0.lt,h.defers.stay (fun r hr _=>hb.block r hr) (fun _ _ h=>h),h.size,
  fun t=>(h.env t).ext (fun _ h _=>h) hb.block (fun _ _ h=>⟨h,rfl⟩),
  fun id o ho=>(h.objs id o ho).ext (Below.keep hb h.frl) h.frl (fun _ h _=>h) hb.block (fun _ _ h=>⟨h,rfl⟩),h.apart,h.pin⟩
def Yg (lk:Nat->AV) (d:Option Nat) (x:AV):Nat->AV :=
 match d with
 | none=>lk
 | some d=>fun t=>if t=d then x else lk t
theorem Rel.put (h:Rel ok0 N w0 lk lo a w L) (d) (hd:∀ t,d=some t->N.dst t=true) {x v} (hx:Qs (okL ok0 lo L) w lo L x v) :
  Rel ok0 N w0 (Yg lk d x) lo (a.put d v) w L:=by
 cases d with
 | none=>exact h
 | some d =>
   have hdd:=hd d rfl;simp only[Fm.dst,Qzm,decide_eq_true_eq,QzL] at hdd;have hlt:d<a.tmps.size:=by rw[h.size];exact hdd.1
   refine ⟨h.below,h.defers,by simp[Act.put,h.size],fun t=>?_,h.objs,h.apart,fun t ht=>?_⟩
   by_cases ht:t=d
   ·subst ht
    simp only[Yg,if_true,Act.put];simpa[hlt] using hx
   ·have:=h.env t
    simp only[Yg,ht,if_false,Act.put];simpa[Qz2,Ne.symm ht] using this
   ·have hne:d≠t:=fun e=>by subst e;rw[hdd.2] at ht;cases ht
    have:=h.pin t ht;simp only[Act.put];simpa[Qz2,hne] using this
def QK (lo:Nat->Option AO) (id:Nat) (o:AO):Nat->Option AO:=fun i=>if i=id then some o else lo i
def QF (L:Nat->Lay) (id:Nat) (l:Lay):Nat->Lay:=fun i=>if i=id then l else L i
theorem Rel.new {w'} (h:Rel ok0 N w0 lk lo a w L) (id) (hid:lo id=none) (o l) (hb:Below w.heap.size w w')
  (hl:∀ b,l.has b->w.heap.size<=b)
  (ho:Qt w0.fr (okL ok0 (QK lo id o) (QF L id l)) w' (QK lo id o) (QF L id l) o l) :
  Rel ok0 N w0 lk (QK lo id o) a w' (QF L id l):=by
 have hok:∀ b,okL ok0 lo L b->b<w.heap.size->okL ok0 (QK lo id o) (QF L id l) b:=by grind [okL,QK,QF]
 have hlo:∀ i o',lo i=some o'->QK lo id o i=some o'/\QF L id l i=L i:=by grind [QK,QF]
 have old:∀ b i o',lo i=some o'->(L i).has b->b<w.heap.size:=fun b i o' hi hbl=>((h.objs i o' hi).lt hbl).2
 refine ⟨h.below.ext hb w0.lt,h.defers.stay (fun r hr _=>hb.block r hr) (by grind [QK,QF]),h.size,fun t=>(h.env t).ext hok hb.block hlo,fun i o' hi=>?_,?_,h.pin⟩
 ·have:=fun hi=>(h.objs i o' hi).ext (Below.keep hb h.frl) h.frl hok hb.block hlo
  grind [QK,QF]
 ·have:=h.apart
  grind [QK,QF]
def AV.refs (id:Nat):AV->Bool
 | .loc i _ | .aref i _ | .eloc i _ _ _ | .mref i _ _ | .oref i | .belem i _ | .cb i=>i==id
 | .iv _ | .agg _ | .nilr _ | .zsl _ | .clo _ _ _ | .tup _=>false
theorem Qs.turn {lo' w' L' id x v} (h:Qs (okL ok0 lo L) w lo L x v)
  (hid:∃ o,lo id=some o)
  (hlo:∀ i,i≠id->lo' i=lo i/\L' i=L i)
  (hap:∀ i j oi oj b,i≠j->lo i=some oi->lo j=some oj->(L i).has b->¬ (L j).has b)
  (hw:∀ b,b<w.heap.size->¬ (L id).has b->w'.heap[b]?=w.heap[b]?)
  (hok:∀ b,okL ok0 lo L b->b<w.heap.size->okL ok0 lo' L' b)
  (href:∀ x v,AV.refs id x=true->Qs (okL ok0 lo L) w lo L x v->Qs (okL ok0 lo' L') w' lo' L' x v):Qs (okL ok0 lo' L') w' lo' L' x v:=by
 obtain ⟨oid,hoid⟩:=hid
 have cells:∀ i b k v xs oi,i≠id->lo i=some oi->L i=.arr v xs->((okL ok0 lo L b\/v.ownBlock=some b)/\∃ u,w.cell? ⟨b,k,none⟩=some u/\xs[k]?=some u) ->
   (okL ok0 lo' L' b\/v.ownBlock=some b)/\∃ u,w'.cell? ⟨b,k,none⟩=some u/\xs[k]?=some u:=by
  intro i b k v xs oi hii hoi hL ⟨h1,u,h2,h3⟩;have hlt:=Qz9 w ⟨b,k,none⟩ h2;have:=@QAq w w' ⟨b,k,none⟩;have:=hap i id oi oid b hii hoi hoid
  grind [okL,Lay.has]
 cases hr:AV.refs id x
 ·induction h with
  | iv x v h=>exact .iv x v (h.mono fun b hb hlt=>⟨hok b hb hlt,hw b hlt (hb.2 id _ hoid)⟩)
  | old i n e sz es mv v v' xs ho hL h1 hn hv =>
    refine .old i n e sz es mv v v' xs ((hlo i ?_).1.trans ho) ((hlo i ?_).2.trans hL) h1 hn fun hm=>(hv hm).imp_right fun ⟨b,cap,h1,h2,h3,h4⟩=>⟨b,cap,h1,h2,h3,fun k hk=>cells i b k v xs _ ?_ ho hL (h4 k hk)⟩<;>grind [AV.refs]
  | eloc i n j off e sz es mv v xs b ho hL hn hv =>
    refine .eloc i n j off e sz es mv v xs b ((hlo i ?_).1.trans ho) ((hlo i ?_).2.trans hL) hn fun hm=>(hv hm).imp_right fun ⟨h2,h3⟩=>⟨h2,fun k hk=>cells i b k v xs _ ?_ ho hL (h3 k hk)⟩<;>grind [AV.refs]
  | _=>grind [Qs,AV.refs]
 ·exact href _ _ hr h
theorem Rel.turn {o o' l' w'} (id) (h:Rel ok0 N w0 lk lo a w L) (hid:lo id=some o)
  (hg:Qc1 (L id).has w w')
  (hl':∀ b,l'.has b->(L id).has b\/w.heap.size<=b)
  (href:∀ x v,AV.refs id x=true->Qs (okL ok0 lo L) w lo L x v->Qs (okL ok0 (QK lo id o') (QF L id l')) w' (QK lo id o') (QF L id l') x v)
  (ho:(∀ x v,Qs (okL ok0 lo L) w lo L x v->Qs (okL ok0 (QK lo id o') (QF L id l')) w' (QK lo id o') (QF L id l') x v) ->
    Qt w0.fr (okL ok0 (QK lo id o') (QF L id l')) w' (QK lo id o') (QF L id l') o' l') :
  Rel ok0 N w0 lk (QK lo id o') a w' (QF L id l'):=by
 have hw:=hg.block;have hlo:∀ i,i≠id->QK lo id o' i=lo i/\QF L id l' i=L i:=by grind [QK,QF]
 have hok:∀ b,okL ok0 lo L b->b<w.heap.size->okL ok0 (QK lo id o') (QF L id l') b:=by grind [okL,QK,QF]
 have all:=fun x v (hx:Qs (okL ok0 lo L) w lo L x v)=>hx.turn ⟨o,hid⟩ hlo h.apart hw hok href
 have own:∀ b,(L id).has b->¬ w0.fr b:=fun b hb=>((h.objs id o hid).lt hb).1
 have lt:=fun i oi hi b hb=>((h.objs i oi hi).lt (b:=b) hb).2
 have ap:=h.apart;refine ⟨h.below.only hg w0.lt own,h.defers.stay (fun r hr hn=>hw r hr (hn id o hid)) (by grind [QK,QF]),h.size,fun t=>all _ _ (h.env t),fun i oi hi=>?_,by grind [QK,QF],h.pin⟩
 by_cases hii:i=id
 ·grind [QK,QF]
 ·rw[(hlo i hii).1] at hi
  rw[(hlo i hii).2];exact (h.objs i oi hi).stay ⟨hg.os,hg.tape,hg.output,hg.size,fun k hk=>hg.block k (h.frl k hk) (fun e=>own k e hk)⟩ h.frl (fun b hb hlt=>hw b hlt (ap i id oi o b hii hi hid hb)) (fun b hb hlt=>⟨hok b hb hlt,hw b hlt (hb.2 id _ hid)⟩) (fun _=>all)
end
attribute [grind] QK QF okL Lay.has AV.refs AO.isIter
inductive Opd where
 | t (n:Nat)
 | int (k:IntKind) (n:Int)
 | bool (b:Bool)
 | str (s:List UInt8)
 | nil (sz:Nat)
 | nilp
 | fn (f:FuncId)
 | nilv (sz:Nat)
 | nilm
 | nilf
 deriving Inhabited
def Opd.av (lk:Nat->AV):Opd->AV
 | .t n=>lk n
 | .int k n=>.iv (.int k n)
 | .bool b=>.iv (.bool b)
 | .str s=>.iv (.str s)
 | .nil sz=>.iv (.sl sz [])
 | .nilp=>.iv .nilp
 | .fn f=>.iv (.fn f)
 | .nilv sz=>.nilr sz
 | .nilm=>.iv (.map [])
 | .nilf=>.iv (.lit .nilFunc)
def isI (k:IntKind) (n:Int):Value->Bool
 | .int k' m=>k==k'&&n==m
 | _=>false
def isB (b:Bool):Value->Bool
 | .bool c=>b==c
 | _=>false
def isS (s:List UInt8):Value->Bool
 | .string u=>s==u.data.toList
 | _=>false
def isN:Value->Bool
 | .slice none n m=>n==0&&m==0
 | _=>false
def isP:Value->Bool
 | .pointer none=>true
 | _=>false
def isM:Value->Bool
 | .map none=>true
 | _=>false
def QvA:Value->Bool
 | .nilFunc=>true
 | _=>false
def Opd.isVal (x:Opd) (v:Value):Bool :=
 match x with
 | .t _=>false
 | .int k n=>isI k n v
 | .bool b=>isB b v
 | .str s=>isS s v
 | .nil _=>isN v
 | .nilp=>isP v
 | .nilv _=>isN v
 | .nilm=>isM v
 | .nilf=>QvA v
 | .fn _=>false
def Opd.isTmp (m:Nat):Opd->Bool
 | .t n=>n==m
 | _=>false
def Opd.isFn (g:FuncId):Opd->Bool
 | .fn f=>f==g
 | _=>false
def Opd.is (x:Opd):Operand->Bool
 | .tmp m=>x.isTmp m
 | .const v=>x.isVal v
 | .func g=>x.isFn g
 | _=>false
inductive KK where
 | str
 | int (k:IntKind)
 | agg (ks:List (Option IntKind))
 deriving DecidableEq,Inhabited
inductive YOp where
 | no
 | s2b (id:Nat) (x:Opd)
 | b2so (id:Nat) (x:Opd)
 | ixb (id:Nat) (x i:Opd)
 | ldb (id:Nat) (x:Opd)
 | stb (id:Nat) (x y:Opd)
 | mks (id:Nat) (e:TypeId) (bytes:Nat) (zs:List Opd) (n:Opd)
 | r2s (x:Opd)
 | mx (mn:Bool) (x y:Opd)
 | rngs (id:Nat) (x:Opd)
 | nxts (id:Nat) (x:Opd)
 | mkm (id:Nat) (r:Option (TypeId × Nat))
 | lki (kk:KK) (z x k:Opd)
 | lkd (id:Nat) (kk:KK) (z x k:Opd)
 | lkr (id:Nat) (kk:KK) (x k:Opd)
 | mupd (id:Nat) (kk:KK) (x k v:Opd)
 | ment (id:Nat) (kk:KK) (z x k:Opd)
 | ests (id:Nat) (x t v:Opd)
 | mupr (id:Nat) (kk:KK) (x k v:Opd)
 | bla (zs parts:List Opd)
 | ixg (len:Nat) (x i:Opd)
 | fgt (off:Nat) (x:Opd)
 | rngm (id:Nat) (x:Opd)
 | ent (id:Nat) (x:Opd)
 | mkf (g:FuncId) (fs cs:List Opd)
 | neg (x:Opd)
 | eqs (ne:Bool) (n:Nat) (x y:Opd)
 | lenm (x:Opd)
 | lenmo (id:Nat) (x:Opd)
 | ixa (len sz:Nat) (x i:Opd)
 | sl0 (sz:Nat) (x:Opd)
 | zslv (sz:Nat)
 | lkc (kk:KK) (zs:List Opd) (x k:Opd)
 | isn (ne:Bool) (x:Opd)
 deriving Inhabited
inductive AOp where
 | mov (x:Opd)
 | nilo (id:Nat) (e:TypeId) (sz:Nat)
 | pick (c x y:Opd)
 | ext (x:Opd) (i:Nat)
 | not (x:Opd)
 | bin (op:BinOp) (x y:Opd)
 | beq (neg:Bool) (x y:Opd)
 | cvi (k:IntKind) (x:Opd)
 | cvs (x:Opd)
 | b2s (x:Opd)
 | i2s (x:Opd)
 | nilc (x:Opd)
 | fld (off:Nat) (x:Opd)
 | ldi (n:Nat) (ag:Bool) (x:Opd)
 | ldo (id n:Nat) (ag:Bool) (x:Opd)
 | sto (id n:Nat) (x y:Opd)
 | ixi (sz:Nat) (x i:Opd)
 | ixo (id sz:Nat) (x i:Opd)
 | ixs (x i:Opd)
 | sli (sz:Nat) (x:Opd) (lo hi:Option Opd)
 | sls (x:Opd) (lo hi:Option Opd)
 | boxi (x:Opd)
 | boxo (id:Nat) (x:Opd)
 | alo (id:Nat) (zs:List Opd)
 | bld (zs:List Opd) (parts:List (Nat × Nat × Opd))
 | bsl (sz:Nat) (parts:List Opd)
 | bso (id:Nat) (e:TypeId) (sz:Nat) (parts:List Opd)
 | len (x:Opd)
 | leno (id:Nat) (x:Opd)
 | lst (x:Opd)
 | app (id:Nat) (e:TypeId) (sz bytes:Nat) (x y:Opd)
 | call (f:FuncId) (args:List Opd) (ids:List Nat)
 | callo (f:FuncId) (args:List Opd) (ids:List Nat) (id:Nat)
 | calld (x:Opd) (args:List Opd) (ids:List Nat)
 | callr (f:FuncId) (x:Opd) (args:List Opd) (id:Nat)
 | callb (x:Opd) (args:List Opd) (id:Nat)
 | callx (f:FuncId) (args:List Opd) (id:Nat)
 | callh (f:FuncId) (args:List Opd) (ids:List Nat)
 | cpy (id:Nat) (x y:Opd)
 | caldh (x:Opd) (args:List Opd) (ids:List Nat)
 | yy (op:YOp)
 deriving Inhabited
structure QN where
 d:Option Nat
 g:Option (Nat × Bool)
 op:AOp
 deriving Inhabited
inductive Res where
 | no
 | ok (side fact:Prop) (v:AV) (up:Option (Nat × AO))
def IntKind.inR (k:IntKind) (n:Int):Prop:=k.min<=n/\n<=k.max
def VF (op:BinOp) (k:IntKind) (x y:Int):Int :=
 let a:=BitVec.ofInt k.bits x
 let b:=BitVec.ofInt k.bits y
 match op with
 | .and=>k.wrap (a &&& b).toNat
 | .or=>k.wrap (a ||| b).toNat
 | .xor=>k.wrap (a ^^^ b).toNat
 | _=>k.wrap (a &&& ~~~b).toNat
def Qld (op:BinOp) (k:IntKind) (a b:Int):Res :=
 match op with
 | .add=>.ok (IntKind.inR k (a+b)) True (.iv (.int k (a+b))) none
 | .sub=>.ok (IntKind.inR k (a-b)) True (.iv (.int k (a-b))) none
 | .mul=>.ok (IntKind.inR k (a*b)) True (.iv (.int k (a*b))) none
 | .quo=>.ok (b≠0/\IntKind.inR k (a.tdiv b)) True (.iv (.int k (a.tdiv b))) none
 | .rem=>.ok (b≠0) True (.iv (.int k (a.tmod b))) none
 | .and=>.ok True True (.iv (.int k (VF .and k a b))) none
 | .or=>.ok True True (.iv (.int k (VF .or k a b))) none
 | .xor=>.ok True True (.iv (.int k (VF .xor k a b))) none
 | .andNot=>.ok True True (.iv (.int k (VF .andNot k a b))) none
 | .eql=>.ok True True (.iv (.bool (decide (a=b)))) none
 | .neq=>.ok True True (.iv (.bool (!decide (a=b)))) none
 | .lss=>.ok True True (.iv (.bool (decide (a<b)))) none
 | .leq=>.ok True True (.iv (.bool (decide (a<=b)))) none
 | .gtr=>.ok True True (.iv (.bool (decide (b<a)))) none
 | .geq=>.ok True True (.iv (.bool (decide (b<=a)))) none
 | _=>.no
def QmC (k:IntKind) (a b:Int):Int:=k.wrap (a*2 ^ (min b.toNat k.bits))
def Qq7 (k:IntKind) (a b:Int):Int:=a.fdiv (2 ^ (min b.toNat k.bits))
def QiM:BinOp->AV->AV->Res
 | .shl,.iv (.int k a),.iv (.int _ b)=>.ok (0<=b) True (.iv (.int k (QmC k a b))) none
 | .shr,.iv (.int k a),.iv (.int _ b)=>.ok (0<=b) True (.iv (.int k (Qq7 k a b))) none
 | op,.iv (.int k a),.iv (.int k' b)=>if k=k' then Qld op k a b else .no
 | .add,.iv (.str a),.iv (.str b)=>.ok (((a.length+b.length:Nat):Int)<=9223372036854775807) True (.iv (.str (a++b))) none
 | .eql,.iv (.str a),.iv (.str b)=>.ok True True (.iv (.bool (decide (a=b)))) none
 | .neq,.iv (.str a),.iv (.str b)=>.ok True True (.iv (.bool (!decide (a=b)))) none
 | _,_,_=>.no
def QiN (neg:Bool):AV->AV->Res
 | .iv (.bool a),.iv (.bool b)=>.ok True True (.iv (.bool (match neg with | true=>!decide (a=b) | false=>decide (a=b)))) none
 | _,_=>.no
def AV.iv?:AV->Option IV
 | .iv x=>some x
 | _=>none
def ivs:List AV->Option (List IV)
 | []=>some []
 | x::r=>match x.iv?,ivs r with
   | some y,some ys=>some (y::ys)
   | _,_=>none
def UJ (cs:List AV):AV :=
 match ivs cs with
 | some xs=>.iv (.agg xs)
 | none=>.agg cs
def AV.cells:AV->Option (List AV)
 | .iv (.agg cs)=>some (cs.map .iv)
 | .iv .any=>none
 | .iv (.tup _)=>none
 | .iv (.lit v)=>if isFn v=true then some [.iv (.lit v)] else none
 | .iv .ifn=>none
 | .tup _=>none
 | .iv x=>some [.iv x]
 | .agg cs=>some cs
 | x=>some [x]
def QnI (g:FuncId) (fs cs:List AV):AV :=
 match ivs fs,ivs cs with
 | some xs,some ys=>.iv (.clo g xs ys)
 | _,_=>.clo g fs cs
def QdX:List AV->List (Nat × Nat × AV)->Option (List AV)
 | cs,[]=>some cs
 | cs,(off,sz,v)::r =>
   match v.cells with
   | some vs=>if vs.length=sz/\off+sz<=cs.length then QdX (cs.take off++vs++cs.drop (off+sz)) r else none
   | none=>none
def Wv (sz:Nat):List AV->Option (List (List AV))
 | []=>some []
 | v::r =>
   match v.cells,Wv sz r with
   | some c,some cs=>if c.length=sz then some (c::cs) else none
   | _,_=>none
def Qad:List (List AV)->Option (List (List IV))
 | []=>some []
 | x::r=>match ivs x,Qad r with
   | some y,some ys=>some (y::ys)
   | _,_=>none
def byteOf:List IV->Option Int
 | [.int .u8 n]=>some n
 | _=>none
def bytesOf:List (List IV)->Option (List Int)
 | []=>some []
 | c::r=>match byteOf c,bytesOf r with
   | some n,some ns=>some (n::ns)
   | _,_=>none
def Yc (ns:List Int):List UInt8:=ns.map fun n=>UInt8.ofNat n.toNat
def QwC (cs:List AV) (off:Nat):Option AV:=cs[off]?
def Qzf (ag:Bool) (n off:Nat) (cs:List AV):Res :=
 if ag then .ok (off+n<=cs.length) True (UJ ((cs.drop off).take n)) none
 else match cs[off]? with
  | some x=>.ok (n=1) True x none
  | none=>.no
def Qv7:List AV->Nat->Res
 | [],_=>.no
 | c::_,0=>.ok True True c none
 | _::r,n+1=>Qv7 r n
def XL (lk:Nat->AV) (d:Nat):Option Opd->Option Int
 | none=>some d
 | some x=>match x.av lk with
   | .iv (.int _ n)=>some n
   | _=>none
def QiF:AV->Res
 | .iv (.sl _ es)=>.ok True (es.length<=maxLen) (.iv (.int .i64 es.length)) none
 | .iv (.bag _ es)=>.ok True (es.length<=maxLen) (.iv (.int .i64 es.length)) none
 | _=>.no
def Qaj (lo:Nat->Option AO) (id:Nat):AV->Res
 | .aref i n=>if i=id then match lo id with
   | some (.arr _ _ es mv)=>.ok (mv<=n/\n<=es.length) (n<=maxLen) (.iv (.int .i64 n)) none
   | _=>.no
   else .no
 | _=>.no
def QiE:AV->Res
 | .iv (.str s)=>.ok True True (.iv (.int .i64 s.length)) none
 | _=>.no
def Qgy (i:Nat):AV->Res
 | .iv (.tup cs)=>match cs[i]? with
   | some x=>.ok True True (.iv x) none
   | none=>.no
 | .tup cs=>match cs[i]? with
   | some x=>.ok True True x none
   | none=>.no
 | _=>.no
def QcC (x y:AV):AV->Res
 | .iv (.bool b)=>.ok True True (match b with | true=>x | false=>y) none
 | _=>.no
def QiD:AV->Res
 | .iv (.bool b)=>.ok True True (.iv (.bool (!b))) none
 | _=>.no
def QiL (k:IntKind):AV->Res
 | .iv (.int _ n)=>.ok True True (.iv (.int k (k.wrap n))) none
 | _=>.no
def QiK:AV->Res
 | .iv (.str s)=>.ok True True (.iv (.str s)) none
 | _=>.no
def QiO:AV->Res
 | .iv (.sl _ es)=>match bytesOf es with
   | some ns=>.ok (∀ n∈ns,0<=n/\n<=255) True (.iv (.str (Yc ns))) none
   | none=>.no
 | _=>.no
def QiI:AV->Res
 | .iv (.int _ n)=>.ok (0<=n/\n<128) True (.iv (.str [UInt8.ofNat n.toNat])) none
 | _=>.no
def QcD:AV->Res
 | .iv (.ptr cs)=>.ok True True (.iv (.ptr cs)) none
 | .loc id off=>.ok True True (.loc id off) none
 | _=>.no
def Qgx (off:Nat):AV->Res
 | .iv (.ptr cs)=>.ok (off<=cs.length) True (.iv (.ptr (cs.drop off))) none
 | .loc id o=>.ok True True (.loc id (o+off)) none
 | .eloc id n i o=>.ok True True (.eloc id n i (o+off)) none
 | _=>.no
def Qbe (n:Nat) (ag:Bool):AV->Res
 | .iv (.ptr cs)=>match ag with
   | true=>.ok (n<=cs.length) True (.iv (.agg (cs.take n))) none
   | false=>match cs with
     | c::_=>.ok (n=1) True (.iv c) none
     | []=>.no
 | _=>.no
def Qgv (lo:Nat->Option AO) (id n:Nat) (ag:Bool):AV->Res
 | .loc i off=>if i=id then
   match lo id with
   | some (.box cs)=>match ag with
     | true=>.ok (off+n<=cs.length) True (UJ ((cs.drop off).take n)) none
     | false=>match cs[off]? with
       | some c=>.ok (n=1) True c none
       | none=>.no
   | _=>.no
   else .no
 | .eloc i m j off=>if i=id then
   match lo id with
   | some (.arr _ _ es mv)=>match ag with
     | true=>.ok (mv<=m/\off+n<=(es.getD j []).length) True (UJ (((es.getD j []).drop off).take n)) none
     | false=>match (es.getD j [])[off]? with
       | some c=>.ok (mv<=m/\n=1) True c none
       | none=>.no
   | _=>.no
   else .no
 | _=>.no
def Qgs (lo:Nat->Option AO) (id n:Nat) (y:AV):AV->Res
 | .loc i off=>if i=id then
   match lo id,y.cells with
   | some (.box cs),some vs=>.ok (vs.length=n/\off+n<=cs.length) True (.iv .any) (some (id,.box (cs.take off++vs++cs.drop (off+n))))
   | _,_=>.no
   else .no
 | .eloc i m j off=>if i=id then
   match lo id,y.cells with
   | some (.arr e sz es mv),some vs =>
     .ok (vs.length=n/\m=es.length/\mv<=m/\off+n<=sz) True (.iv .any)
      (some (id,.arr e sz (es.set j ((es.getD j []).take off++vs++(es.getD j []).drop (off+n))) es.length))
   | _,_=>.no
   else .no
 | _=>.no
def QiH (sz:Nat):AV->AV->Res
 | .iv (.sl s es),.iv (.int _ i)=>.ok (s=sz/\0<=i/\i.toNat<es.length) True (.iv (.ptr (es.getD i.toNat []))) none
 | _,_=>.no
def Qgw (lo:Nat->Option AO) (id sz:Nat):AV->AV->Res
 | .aref i n,.iv (.int _ j)=>if i=id then
   match lo id with
   | some (.arr _ s es mv)=>.ok (s=sz/\0<=j/\j.toNat<n/\mv<=n/\n<=es.length) True (.eloc id n j.toNat 0) none
   | _=>.no
   else .no
 | _,_=>.no
def QiG:AV->AV->Res
 | .iv (.str s),.iv (.int _ i)=>.ok (0<=i/\i.toNat<s.length) True (.iv (.int .u8 (s.getD i.toNat 0).toNat)) none
 | _,_=>.no
def Qgu (sz:Nat) (lk:Nat->AV) (lo hi:Option Opd):AV->Res
 | .iv (.sl s es)=>match XL lk 0 lo,XL lk es.length hi with
   | some l,some h=>.ok (s=sz/\0<=l/\l<=h/\h<=es.length) (es.length<=maxLen) (.iv (.sl sz ((es.take h.toNat).drop l.toNat))) none
   | _,_=>.no
 | _=>.no
def Qgt (lk:Nat->AV) (lo hi:Option Opd):AV->Res
 | .iv (.str s)=>match XL lk 0 lo,XL lk s.length hi with
   | some l,some h=>.ok (0<=l/\l<=h/\h<=s.length) True (.iv (.str ((s.take h.toNat).drop l.toNat))) none
   | _,_=>.no
 | _=>.no
def QcE (x:AV):Res :=
 match x.cells with
 | some cs=>match ivs cs with
   | some xs=>.ok True True (.iv (.ptr xs)) none
   | none=>.no
 | none=>.no
def Qak (lo:Nat->Option AO) (id:Nat) (x:AV):Res :=
 match x.cells,lo id with
 | some cs,none=>.ok True True (.loc id 0) (some (id,.box cs))
 | _,_=>.no
def mins {α:Type} (k:MK) (y:α):List (MK × α)->List (MK × α)
 | []=>[(k,y)]
 | p::r=>if p.1=k then (k,y)::r else p::mins k y r
def QgM {α:Type} (k:MK):List (MK × α)->Nat
 | []=>0
 | p::r=>if p.1=k then 0 else QgM k r+1
def QnH {α:Type} (y:α):Nat->List (MK × α)->List (MK × α)
 | _,[]=>[]
 | 0,p::r=>(p.1,y)::r
 | n+1,p::r=>p::QnH y n r
def JY (lo:Nat->Option AO) (id:Nat) (e:TypeId) (sz bytes:Nat):AV->AV->Res
 | .aref i n,.iv (.sl s ys)=>if i=id then
   match lo id with
   | some (.arr e' sz' es mv) =>
     if e'=e/\sz'=sz then
     .ok (s=sz/\n=es.length/\mv<=n/\es.length+ys.length<=maxLen/\(es.length+ys.length)*bytes<=140737488355328) True (.aref id (n+ys.length))
      (some (id,.arr e sz (es++ys.map (List.map AV.iv)) mv))
     else .no
   | _=>.no
   else .no
 | .zsl s0,.iv (.sl s ys)=>match ys,lo id with
   | [],_=>.ok (s=s0) True (.zsl s0) none
   | y::r,none=>.ok (s=sz/\s0=sz/\(y::r).length<=maxLen/\(y::r).length*bytes<=140737488355328) True (.aref id (y::r).length) (some (id,.arr e sz ((y::r).map (List.map AV.iv)) 0))
   | _,_=>.no
 | .mref i k n,.iv (.sl s ys)=>if i=id then
   match lo id with
   | some (.mapr e' sz' kvs none) =>
     if e'=e/\sz'=sz then
     .ok (s=sz/\((Qh k kvs).getD []).length=n/\n+ys.length<=maxLen/\(n+ys.length)*bytes<=140737488355328) True (.mref id k (n+ys.length))
      (some (id,.mapr e sz (mins k ((Qh k kvs).getD []++ys) kvs) (some k)))
     else .no
   | _=>.no
   else .no
 | _,_=>.no
def KC.kind:KC->Option IntKind
 | .int k _=>some k
 | .bool _=>none
def MK.kind:MK->KK
 | .int k _=>.int k
 | .str _=>.str
 | .agg cs=>.agg (cs.map KC.kind)
def KC.iv:KC->IV
 | .int k n=>.int k n
 | .bool b=>.bool b
def QuN:IV->Option KC
 | .int k n=>some (.int k n)
 | .bool b=>some (.bool b)
 | _=>none
def Qdz:List IV->Option (List KC)
 | []=>some []
 | x::xs=>match QuN x,Qdz xs with
   | some c,some l=>some (c::l)
   | _,_=>none
def keyOf (kk:KK):AV->Option MK
 | .iv (.int k n)=>if kk=.int k then some (.int k n) else none
 | .iv (.str s)=>if kk=.str then some (.str s) else none
 | .iv (.agg cs)=>match Qdz cs with
   | some l=>if kk=.agg (l.map KC.kind) then some (.agg l) else none
   | none=>none
 | _=>none
def QP {α:Type} (kk:KK):List (MK × α)->Prop
 | []=>True
 | p::r=>p.1.kind=kk/\QP kk r
def Wt:List (List IV)->Option (List Int)
 | []=>some []
 | [.int .i32 n]::r=>(Wt r).map (n::·)
 | _::_=>none
def Qri (s:List UInt8) (pos:Nat):Nat × Nat:=Utf8.decode ⟨s.toArray⟩ pos
def MK.iv:MK->IV
 | .int k n=>.int k n
 | .str s=>.str s
 | .agg cs=>.agg (cs.map KC.iv)
def QuS:IV->IV->Option Bool
 | .int k a,.int k' b=>if k=k' then some (decide (a=b)) else none
 | _,_=>none
def XS:List IV->List IV->Option Bool
 | [],[]=>some true
 | x::r,y::s=>match QuS x y,XS r s with
   | some a,some b=>some (a&&b)
   | _,_=>none
 | _,_=>none
def evY (lk:Nat->AV) (lo:Nat->Option AO):YOp->Res
 | .no=>.no
 | .s2b id x=>match x.av lk,lo id with
   | .iv (.str s),none=>.ok (s.length<=1099511627776) True (.oref id) (some (id,.bytes s))
   | _,_=>.no
 | .b2so id x=>match x.av lk,lo id with
   | .oref i,some (.bytes s)=>if i=id then .ok True True (.iv (.str s)) none else .no
   | _,_=>.no
 | .ixb id x i=>match x.av lk,i.av lk,lo id with
   | .oref j,.iv (.int _ n),some (.bytes s)=>if j=id then .ok (0<=n/\n.toNat<s.length) True (.belem id n.toNat) none else .no
   | _,_,_=>.no
 | .ldb id x=>match x.av lk,lo id with
   | .belem j n,some (.bytes s)=>if j=id then .ok (n<s.length) True (.iv (.int .u8 (s.getD n 0).toNat)) none else .no
   | _,_=>.no
 | .stb id x y=>match x.av lk,y.av lk,lo id with
   | .belem j n,.iv (.int .u8 m),some (.bytes s)=>if j=id then .ok (n<s.length/\0<=m/\m<=255) True (.iv .any) (some (id,.bytes (s.set n (UInt8.ofNat m.toNat)))) else .no
   | _,_,_=>.no
 | .mks id e bytes zs n=>match n.av lk,lo id with
   | .iv (.int _ m),none=>.ok (0<=m/\(bytes:Int)*m<=140737488355328/\m<=9223372036854775807/\0<zs.length) True (.aref id m.toNat) (some (id,.arr e zs.length (List.replicate m.toNat (zs.map (·.av lk))) 0))
   | _,_=>.no
 | .r2s x=>match x.av lk with
   | .iv (.sl 1 es)=>match Wt es with
     | some ns=>.ok (∀ n∈ns,0<=n/\n<128) True (.iv (.str (Yc ns))) none
     | none=>.no
   | _=>.no
 | .mx mn x y=>match x.av lk,y.av lk with
   | .iv (.int k a),.iv (.int k' b)=>if k=k' then .ok True True (.iv (.int k (match mn with | true=>if b<a then b else a | false=>if a<b then b else a))) none else .no
   | _,_=>.no
 | .rngs id x=>match x.av lk,lo id with
   | .iv (.str s),none=>.ok True True (.oref id) (some (id,.siter s 0))
   | _,_=>.no
 | .nxts id x=>match x.av lk,lo id with
   | .oref j,some (.siter s pos)=>if j=id then
     (if pos<s.length then .ok True True (.iv (.tup [.bool true,.int .i64 pos,.int .i32 (Qri s pos).1])) (some (id,.siter s (pos+(Qri s pos).2)))
     else .ok True True (.iv (.tup [.bool false])) none)
     else .no
   | _,_=>.no
 | .mkm id r=>match lo id with
   | none=>.ok True True (.oref id) (some (id,match r with | none=>.mapd [] | some (e,sz)=>.mapr e sz [] none))
   | some _=>.no
 | .lki kk z x k=>match x.av lk,keyOf kk (k.av lk),z.av lk with
   | .iv (.map kvs),some key,.iv zv=>.ok (QP kk kvs) True (.iv ((Qh key kvs).getD zv)) none
   | _,_,_=>.no
 | .lkd id kk z x k=>match x.av lk,keyOf kk (k.av lk),z.av lk,lo id with
   | .oref j,some key,.iv zv,some (.mapd kvs)=>if j=id then .ok (QP kk kvs) True (.iv ((Qh key kvs).getD zv)) none else .no
   | _,_,_,_=>.no
 | .lkr id kk x k=>match x.av lk,keyOf kk (k.av lk),lo id with
   | .oref j,some key,some (.mapr _ _ kvs none)=>if j=id then .ok (QP kk kvs) True (.mref id key ((Qh key kvs).getD []).length) none else .no
   | _,_,_=>.no
 | .mupd id kk x k v=>match x.av lk,keyOf kk (k.av lk),v.av lk,lo id with
   | .oref j,some key,.iv y,some (.mapd kvs)=>if j=id then .ok (QP kk kvs) True (.iv .any) (some (id,.mapd (mins key y kvs))) else .no
   | _,_,_,_=>.no
 | .ment id kk z x k=>match x.av lk,keyOf kk (k.av lk),z.av lk,lo id with
   | .oref j,some key,.iv zv,some (.mapd kvs)=>if j=id then .ok (QP kk kvs) True (.iv (.tup [(Qh key kvs).getD zv,.int .i64 (QgM key kvs:Nat)])) (some (id,.mapd (mins key ((Qh key kvs).getD zv) kvs))) else .no
   | _,_,_,_=>.no
 | .ests id x t v=>match x.av lk,t.av lk,v.av lk,lo id with
   | .oref j,.iv (.int .i64 n),.iv y,some (.mapd kvs)=>if j=id then .ok (0<=n/\n<kvs.length) True (.iv .any) (some (id,.mapd (QnH y n.toNat kvs))) else .no
   | _,_,_,_=>.no
 | .mupr id kk x k v=>match x.av lk,keyOf kk (k.av lk),v.av lk,lo id with
   | .oref j,some key,.mref i key' m,some (.mapr e sz kvs (some pk))=>if j=id/\i=id/\key'=key/\pk=key then .ok (QP kk kvs/\(Qh key kvs).isSome=true/\((Qh key kvs).getD []).length=m) True (.iv .any) (some (id,.mapr e sz kvs none)) else .no
   | _,_,_,_=>.no
 | .bla _ parts=>match Wv 1 (parts.map (·.av lk)) with
   | some rows=>match Qad rows with
     | some es=>.ok True True (.iv (.agg es.flatten)) none
     | none=>.no
   | none=>.no
 | .fgt off x=>match x.av lk with
   | .iv (.agg xs)=>match xs[off]? with
     | some c=>.ok True True (.iv c) none
     | none=>.no
   | _=>.no
 | .ixg len x i=>match x.av lk,i.av lk with
   | .iv (.agg xs),.iv (.int _ n)=>match xs[n.toNat]? with
     | some c=>.ok (0<=n/\n<len) True (.iv c) none
     | none=>.no
   | _,_=>.no
 | .rngm id x=>match x.av lk,lo id with
   | .iv (.map kvs),none=>.ok True True (.oref id) (some (id,.miter kvs []))
   | _,_=>.no
 | .ent id x=>match x.av lk,lo id with
   | .oref j,some (.miter kvs (i::_))=>if j=id then match kvs[i]? with
     | some p=>.ok True True (.iv (.tup [p.1.iv,p.2])) none
     | none=>.no
     else .no
   | _,_=>.no
 | .mkf g fs cs=>.ok True True (QnI g (fs.map (·.av lk)) (cs.map (·.av lk))) none
 | .neg x=>match x.av lk with
   | .iv (.int k n)=>.ok (IntKind.inR k (0-n)) True (.iv (.int k (0-n))) none
   | _=>.no
 | .eqs ne n x y=>match x.av lk,y.av lk with
   | .iv (.agg cs),.iv (.agg ds)=>match XS cs ds with
     | some b=>.ok (cs.length=n) True (.iv (.bool (match ne with | true=>!b | false=>b))) none
     | none=>.no
   | _,_=>.no
 | .lenm x=>match x.av lk with
   | .iv (.map kvs)=>.ok True True (.iv (.int .i64 kvs.length)) none
   | _=>.no
 | .lenmo id x=>match x.av lk,lo id with
   | .oref j,some (.mapd kvs)=>if j=id then .ok True True (.iv (.int .i64 kvs.length)) none else .no
   | _,_=>.no
 | .ixa len sz x i=>match x.av lk,i.av lk with
   | .loc id off,.iv (.int _ n)=>.ok (0<=n/\n<len) True (.loc id (off+n.toNat*sz)) none
   | .iv (.ptr cs),.iv (.int _ n)=>.ok (0<=n/\n<len/\n.toNat*sz<=cs.length) True (.iv (.ptr (cs.drop (n.toNat*sz)))) none
   | _,_=>.no
 | .zslv sz=>.ok True True (.zsl sz) none
 | .sl0 sz x=>match x.av lk with
   | .iv (.sl s _)=>.ok (s=sz) True (.zsl sz) none
   | _=>.no
 | .lkc kk zs x k=>match x.av lk,keyOf kk (k.av lk),ivs (zs.map (·.av lk)) with
   | .iv (.map kvs),some key,some zl=>.ok (QP kk kvs) True (.iv (.tup [(Qh key kvs).getD (.agg zl),.bool (Qh key kvs).isSome])) none
   | _,_,_=>.no
 | .isn ne x=>match x.av lk with
   | .iv (.lit .nilIface)=>.ok True True (.iv (.bool (match ne with | true=>false | false=>true))) none
   | .iv .ifn=>.ok True True (.iv (.bool (match ne with | true=>true | false=>false))) none
   | _=>.no
def ev (lk:Nat->AV) (lo:Nat->Option AO):AOp->Res
 | .mov x=>.ok True True (x.av lk) none
 | .nilo id e sz=>match lo id with
   | none=>.ok True True (.aref id 0) (some (id,.arr e sz [] 0))
   | some _=>.no
 | .pick c x y=>QcC (x.av lk) (y.av lk) (c.av lk)
 | .ext x i=>Qgy i (x.av lk)
 | .not x=>QiD (x.av lk)
 | .bin op x y=>QiM op (x.av lk) (y.av lk)
 | .beq neg x y=>QiN neg (x.av lk) (y.av lk)
 | .cvi k x=>QiL k (x.av lk)
 | .cvs x=>QiK (x.av lk)
 | .b2s x=>QiO (x.av lk)
 | .i2s x=>QiI (x.av lk)
 | .nilc x=>QcD (x.av lk)
 | .fld off x=>Qgx off (x.av lk)
 | .ldi n ag x=>Qbe n ag (x.av lk)
 | .ldo id n ag x=>Qgv lo id n ag (x.av lk)
 | .sto id n x y=>Qgs lo id n (y.av lk) (x.av lk)
 | .ixi sz x i=>QiH sz (x.av lk) (i.av lk)
 | .ixo id sz x i=>Qgw lo id sz (x.av lk) (i.av lk)
 | .ixs x i=>QiG (x.av lk) (i.av lk)
 | .sli sz x l h=>Qgu sz lk l h (x.av lk)
 | .sls x l h=>Qgt lk l h (x.av lk)
 | .boxi x=>QcE (x.av lk)
 | .boxo id x=>Qak lo id (x.av lk)
 | .alo id zs=>match lo id with
   | none=>.ok True True (.loc id 0) (some (id,.box (zs.map (·.av lk))))
   | some _=>.no
 | .bld zs parts=>match QdX (zs.map (·.av lk)) (parts.map fun (o,s,x)=>(o,s,x.av lk)) with
   | some cs=>.ok True True (UJ cs) none
   | none=>.no
 | .bsl sz parts=>match Wv sz (parts.map (·.av lk)) with
   | some rows=>match Qad rows with
     | some es=>.ok True True (.iv (.sl sz es)) none
     | none=>.no
   | none=>.no
 | .bso id e sz parts=>match lo id,Wv sz (parts.map (·.av lk)) with
   | none,some rows=>.ok True True (.aref id parts.length) (some (id,.arr e sz rows 0))
   | _,_=>.no
 | .len x=>QiF (x.av lk)
 | .leno id x=>Qaj lo id (x.av lk)
 | .lst x=>QiE (x.av lk)
 | .app id e sz bytes x y=>JY lo id e sz bytes (x.av lk) (y.av lk)
 | .call _ _ _=>.no
 | .callo _ _ _ _=>.no
 | .calld _ _ _=>.no
 | .callr _ _ _ _=>.no
 | .callb _ _ _=>.no
 | .callx _ _ _=>.no
 | .callh _ _ _=>.no
 | .cpy _ _ _=>.no
 | .caldh _ _ _=>.no
 | .yy op=>evY lk lo op
def YR:List Opd->List Operand->Bool
 | [],[]=>true
 | x::r,y::s=>x.is y&&YR r s
 | _,_=>false
def qF:Option Opd->Option Operand->Bool
 | none,none=>true
 | some x,some y=>x.is y
 | _,_=>false
def YG:List Opd->List Value->Bool
 | [],[]=>true
 | x::r,v::s=>x.isVal v&&YG r s
 | _,_=>false
def Program.agg (P:Program) (t:TypeId):Option Bool :=
 match P.underlying t with
 | some (.struct _) | some (.array _ _)=>some true
 | some _=>some false
 | none=>none
def Program.sizeIs (P:Program) (t:TypeId) (n:Nat):Bool:=match P.info? t with | some i=>i.size==n | none=>false
def Program.sliceOf (P:Program) (t e:TypeId) (sz:Nat):Bool :=
 match P.underlying t with
 | some (.slice e')=>e'==e&&Program.sizeIs P e sz
 | _=>false
def Program.elemSize (P:Program) (t:TypeId) (sz:Nat):Bool :=
 match P.underlying t with
 | some (.slice e)=>Program.sizeIs P e sz
 | _=>false
def Program.zeroIs (P:Program) (t:TypeId) (zs:List Opd):Bool :=
 match P.info? t with
 | some i=>match i.zero with
   | some z=>YG zs z.cells.toList&&i.size==zs.length
   | none=>false
 | none=>false
def YM (places:Nat->Option (Nat × Nat)):List (Nat × Nat × Opd)->List (Nat × Operand)->Bool
 | [],[]=>true
 | (off,sz,x)::r,(i,y)::s=>(match places i with | some (o,z)=>o==off&&z==sz | none=>false)&&x.is y&&YM places r s
 | _,_=>false
def Vc (k:Nat):List Opd->List (Nat × Operand)->Bool
 | [],[]=>true
 | x::r,(i,y)::s=>i==k&&x.is y&&Vc (k+1) r s
 | _,_=>false
section
variable (P:Program)
def V2 (t:TypeId):Option IntKind:=match P.underlying t with | some (.int k)=>some k | _=>none
def Q4 (t:TypeId):Bool:=match P.underlying t with | some .string=>true | _=>false
def QhY (t:TypeId):Bool:=match P.underlying t with | some .bool=>true | _=>false
def JR (t:TypeId):Bool:=match P.underlying t with | some (.slice e)=>V2 P e==some .u8 | _=>false
def Qh2 (st:Bool) (t:TypeId):Bool:=match P.underlying t with | some .string=>st | some (.slice _)=>!st | _=>false
def Qh1 (t:TypeId):Bool:=match P.info? t with | some i=>i.zero.isSome | none=>false
def U6 (t:TypeId):Bool:=match P.underlying t with | some (.slice e)=>Qh1 P e | _=>false
def QfJ (e:TypeId) (sz bytes:Nat):Bool:=match P.info? e with
 | some i=>i.bytes==bytes&&(match i.zero with | some z=>z.cells.size==sz | none=>false)
 | none=>false
def QdZ (s:TypeId) (f off:Nat):Bool:=match P.underlying s with
 | some (.struct fields)=>(match fields[f]? with
   | some fd=>fd.offset==off&&(match P.info? fd.type with | some i=>i.size != 0 | none=>false)
   | none=>false)
 | _=>false
def Qft (s:TypeId) (f off:Nat):Bool:=match P.underlying s with
 | some (.struct fields)=>(match fields[f]? with
   | some fd=>fd.offset==off&&Program.agg P fd.type==some false
   | none=>false)
 | _=>false
def Qe6 (t:TypeId):Option (List (Nat × Nat)):=match P.underlying t with
 | some (.struct fields)=>fields.toList.mapM fun f=>(P.info? f.type).map fun i=>(f.offset,i.size)
 | _=>none
def QjT (t:TypeId) (parts:List (Nat × Nat × Opd)) (ps:List (Nat × Operand)):Bool:=match Qe6 P t with
 | some places=>YM (places[·]?) parts ps
 | none=>match P.underlying t with
   | some (.array _ e)=>match P.info? e with
     | some i=>YM (fun k=>some (k*i.size,i.size)) parts ps
     | none=>false
   | _=>false
def callee (f : FuncId) : Bool := match P.funcs[f]? with | some fn => fn.body.isSome && !(fn.name == "runtime.NumGoroutine") | none => false
def QvW (x:Opd):Op->Bool | .move y=>x.is y | .assign y=>x.is y | _=>false
def QvV:Op->Bool | .assign y=>Opd.is (.nil 0) y | .move y=>Opd.is (.nil 0) y | _=>false
def Qo1 (c x y:Opd):Op->Bool | .pick c' x' y'=>c.is c'&&x.is x'&&y.is y' | _=>false
def QuR (x:Opd) (i:Nat):Op->Bool | .extract y j=>x.is y&&i==j | _=>false
def QvU (x:Opd):Op->Bool | .unOp .not _ y=>x.is y | _=>false
def Qv3 (op:BinOp) (x y:Opd):Op->Bool | .binOp op' _ x' y' _=>op==op'&&x.is x'&&y.is y' | _=>false
def Qv4 (neg:Bool) (x y:Opd):Op->Bool | .binOp op t x' y' _=>op==(if neg then .neq else .eql)&&x.is x'&&y.is y'&&QhY P t | _=>false
def QvZ (k:IntKind) (x:Opd):Op->Bool | .convert s d y=>x.is y&&(P.underlying s).isSome&&V2 P d==some k | _=>false
def Qrd (x:Opd):Op->Bool | .convert s d y=>x.is y&&(P.underlying s).isSome&&Q4 P d | _=>false
def Qv5 (x:Opd):Op->Bool | .convert s d y=>x.is y&&JR P s&&Q4 P d | _=>false
def Qo2 (x:Opd):Op->Bool | .nilCheck y=>x.is y | _=>false
def QvY (off:Nat) (x:Opd):Op->Bool | .fieldAddr s y f=>x.is y&&QdZ P s f off | _=>false
def fLd (n:Nat) (ag:Bool) (x:Opd):Op->Bool | .load t y=>x.is y&&Program.agg P t==some ag&&Program.sizeIs P t n | _=>false
def QvR (n:Nat) (x y:Opd):Op->Bool | .store t x' y'=>x.is x'&&y.is y'&&Program.sizeIs P t n | _=>false
def Qrc (sz:Nat) (x i:Opd):Op->Bool | .indexAddr t x' i'=>x.is x'&&i.is i'&&Program.elemSize P t sz | _=>false
def QvX (x i:Opd):Op->Bool | .index t x' i'=>x.is x'&&i.is i'&&Q4 P t | _=>false
def QvT (sz:Nat) (x:Opd) (l h:Option Opd):Op->Bool | .slice t x' l' h' none=>x.is x'&&qF l l'&&qF h h'&&Program.elemSize P t sz | _=>false
def QvS (x:Opd) (l h:Option Opd):Op->Bool | .slice t x' l' h' none=>x.is x'&&qF l l'&&qF h h'&&Q4 P t | _=>false
def Qre (x:Opd):Op->Bool | .box _ y=>x.is y | _=>false
def Qv6 (zs:List Opd):Op->Bool | .alloc t=>Program.zeroIs P t zs | _=>false
def Qv2 (zs:List Opd) (parts:List (Nat × Nat × Opd)):Op->Bool | .build t ps=>Program.zeroIs P t zs&&QjT P t parts ps.toList | _=>false
def Qta (sz:Nat) (parts:List Opd):Op->Bool | .buildSlice t n ps=>n==parts.length&&Vc 0 parts ps.toList&&Program.elemSize P t sz&&U6 P t&&parts.length*sz<=65536&&parts.length<=65536 | _=>false
def Qv1 (e:TypeId) (sz:Nat) (parts:List Opd):Op->Bool | .buildSlice t n ps=>n==parts.length&&Vc 0 parts ps.toList&&Program.sliceOf P t e sz&&U6 P t&&parts.length*sz<=65536&&parts.length<=65536 | _=>false
def Qm1 (st:Bool) (x:Opd):Op->Bool
 | .call { callee:=.builtin .len,args:=az,argTypes:=ts }=>(match az.toList,ts.toList with | [y],[t]=>x.is y&&Qh2 P st t | _,_=>false)
 | _=>false
def Qo3 (e:TypeId) (sz bytes:Nat) (x y:Opd):Op->Bool
 | .call { callee:=.builtin .append,args:=az,argTypes:=ts }=>(match az.toList,ts.toList with
   | [x',y'],[t,t']=>x.is x'&&y.is y'&&t==t'&&Program.sliceOf P t e sz&&0<sz&&QfJ P e sz bytes
   | _,_=>false)
 | _=>false
def Qgq (f:FuncId) (args:List Opd):Op->Bool
 | .call { callee:=.value (.func f'),args:=az,.. }=>f==f'&&YR args az.toList&&callee P f
 | _=>false
def Qv0 (x y:Opd):Op->Bool
 | .call { callee:=.builtin .copy,args:=az,argTypes:=ts }=>(match az.toList,ts.toList with
   | [a,b],[t,_]=>x.is a&&y.is b&&(match P.underlying t with | some (.slice e)=>(P.info? e).map (·.size)==some 1 | _=>false)
   | _,_=>false)
 | _=>false
def QcA (x:Opd) (args:List Opd):Op->Bool
 | .call { callee:=.value (.tmp m),args:=az,.. }=>x.isTmp m&&YR args az.toList
 | _=>false
def JO (k:Option IntKind) (t:TypeId):Bool:=match k,P.underlying t with
 | some k,some (.int k')=>k==k'
 | none,some .bool=>true
 | _,_=>false
def ZZ:Nat->List (Option IntKind)->List Field->Bool
 | _,[],[]=>true
 | i, k :: ks, f :: fs => f.name != "_" && f.offset == i && JO P k f.type && ZZ (i + 1) ks fs
 | _,_,_=>false
def UK (kk:KK) (t:TypeId):Bool:=match kk,P.underlying t with
 | .int k,some (.int k')=>k==k'
 | .str,some .string=>true
 | .agg ks,some (.struct fs)=>!P.stoodInHeld t&&ZZ P 0 ks fs.toList
 | _,_=>false
def qE (kk:KK) (t:TypeId):Option TypeId:=match P.underlying t with
 | some (.map k e)=>if UK P kk k then some e else none
 | _=>none
def Qq9 (kk:KK) (z:Opd) (t:TypeId):Bool:=match qE P kk t with
 | some e=>(match P.info? e with | some i=>(match i.zero with | some v=>z.isVal v | none=>false) | none=>false)
 | none=>false
def Qsa (kk:KK) (zs:List Opd) (t:TypeId):Bool:=match qE P kk t with
 | some e=>Program.zeroIs P e zs&&(match P.info? e with | some i=>(match i.zero with | some (.agg _)=>true | _=>false) | none=>false)
 | none=>false
def Qum (t:TypeId) (zs parts:List Opd):Bool:=match P.underlying t with
 | some (.array n e)=>n==parts.length&&Program.sizeIs P e 1&&Program.zeroIs P t zs&&zs.length==parts.length
 | _=>false
def QfP (len:Nat) (t:TypeId):Bool:=match P.underlying t with
 | some (.array n e)=>n==len&&Program.sizeIs P e 1&&Program.agg P e==some false
 | _=>false
def QyB (t:TypeId):Nat:=match P.underlying t with | some (.array n _)=>n | _=>0
def Jz:Nat->List Field->Bool
 | _,[]=>true
 | k, f :: r => f.name != "_" && f.offset == k && (V2 P f.type).isSome && Jz (k + 1) r
def Qcx (f:Field):Option Nat:=if (V2 P f.type).isSome then some 1 else match P.underlying f.type with
 | some (.struct fs)=>if !P.stoodInHeld f.type&&Jz P 0 fs.toList&&Program.sizeIs P f.type fs.size then some fs.size else none
 | _=>none
def Zp:Nat->List Field->Option Nat
 | k,[]=>some k
 | k, f :: r => if f.name != "_" && f.offset == k then (match Qcx P f with | some m => Zp (k + m) r | none => none) else none
def Qah (n:Nat) (t:TypeId):Bool:=match P.underlying t with
 | some (.struct fs)=>!P.stoodInHeld t&&!P.eqGuardType P.depth t&&Zp P 0 fs.toList==some n
 | _=>false
def QhX (t:TypeId):Bool:=match P.underlying t with | some (.map _ _)=>true | _=>false
def QfO (len sz:Nat) (t:TypeId):Bool:=match P.underlying t with
 | some (.array n e)=>n==len&&Program.sizeIs P e sz
 | _=>false
def YOp.fits:YOp->Op->Bool
 | .no=>fun | .defer _=>false | _=>true
 | .s2b _ x=>fun | .convert s d y=>x.is y&&Q4 P s&&JR P d | _=>false
 | .b2so _ x=>fun | .convert s d y=>x.is y&&JR P s&&Q4 P d | _=>false
 | .ixb _ x i=>fun | .indexAddr t x' i'=>x.is x'&&i.is i'&&Program.elemSize P t 1 | _=>false
 | .ldb _ x=>fun | .load t y=>x.is y&&Program.agg P t==some false&&Program.sizeIs P t 1 | _=>false
 | .stb _ x y=>fun | .store t x' y'=>x.is x'&&y.is y'&&Program.sizeIs P t 1 | _=>false
 | .mks _ e bytes zs n=>fun | .makeSlice t l c=>n.is l&&n.is c&&(match P.underlying t with | some (.slice e')=>e'==e | _=>false)&&Program.zeroIs P e zs&&(match P.info? e with | some i=>i.bytes==bytes | none=>false) | _=>false
 | .r2s x=>fun | .convert s d y=>x.is y&&Q4 P d&&(match P.underlying s with | some (.slice e)=>V2 P e==some .i32 | _=>false) | _=>false
 | .mx mn x y=>fun
   | .call { callee:=.builtin b,args:=az,.. }=>(match az.toList with | [x',y']=>(match mn,b with | true,.min=>true | false,.max=>true | _,_=>false)&&x.is x'&&y.is y' | _=>false)
   | _=>false
 | .rngs _ x=>fun | .range t y=>x.is y&&Q4 P t | _=>false
 | .nxts _ x=>fun | .next y s=>x.is y&&s | _=>false
 | .mkm _ _=>fun | .makeMap _ none=>true | _=>false
 | .lki kk z x k=>fun | .lookup t x' k' c=>x.is x'&&k.is k'&&!c&&Qq9 P kk z t | _=>false
 | .lkd _ kk z x k=>fun | .lookup t x' k' c=>x.is x'&&k.is k'&&!c&&Qq9 P kk z t | _=>false
 | .lkr _ kk x k=>fun | .lookup t x' k' c=>x.is x'&&k.is k'&&!c&&Qq9 P kk (.nil 0) t | _=>false
 | .mupd _ kk x k v=>fun | .mapUpdate t x' k' v'=>x.is x'&&k.is k'&&v.is v'&&(qE P kk t).isSome | .insert t x' k' v'=>x.is x'&&k.is k'&&v.is v'&&(qE P kk t).isSome | _=>false
 | .ment _ kk z x k=>fun | .mapEntry t x' k'=>x.is x'&&k.is k'&&Qq9 P kk z t | _=>false
 | .ests _ x t v=>fun | .entryStore _ x' t' v'=>x.is x'&&t.is t'&&v.is v' | _=>false
 | .mupr _ kk x k v=>fun | .mapUpdate t x' k' v'=>x.is x'&&k.is k'&&v.is v'&&(qE P kk t).isSome | _=>false
 | .bla zs parts=>fun | .build t ps=>Qum P t zs parts&&Vc 0 parts ps.toList | _=>false
 | .fgt off x=>fun | .field t x' i=>x.is x'&&Qft P t i off | _=>false
 | .ixg len x i=>fun | .index t x' i'=>x.is x'&&i.is i'&&QfP P len t | _=>false
 | .rngm _ x=>fun | .range t y=>x.is y&&(match P.underlying t with | some (.map _ _)=>true | _=>false) | _=>false
 | .ent _ x=>fun | .entry y=>x.is y | _=>false
 | .neg x=>fun | .unOp .neg _ y=>x.is y | _=>false
 | .eqs ne n x y=>fun | .binOp op t x' y' _=>op==(if ne then .neq else .eql)&&x.is x'&&y.is y'&&Qah P n t | _=>false
 | .lenm x=>fun
   | .call { callee:=.builtin .len,args:=az,argTypes:=ts }=>(match az.toList,ts.toList with | [y],[t]=>x.is y&&QhX P t | _,_=>false)
   | _=>false
 | .lenmo _ x=>fun
   | .call { callee:=.builtin .len,args:=az,argTypes:=ts }=>(match az.toList,ts.toList with | [y],[t]=>x.is y&&QhX P t | _,_=>false)
   | _=>false
 | .ixa len sz x i=>fun | .indexAddr t x' i'=>x.is x'&&i.is i'&&QfO P len sz t | _=>false
 | .zslv sz=>Qta P sz []
 | .sl0 sz x=>fun | .slice t x' none (some (.const (.int .i64 0))) (some (.const (.int .i64 0)))=>x.is x'&&Program.elemSize P t sz | _=>false
 | .lkc kk zs x k=>fun | .lookup t x' k' c=>x.is x'&&k.is k'&&c&&Qsa P kk zs t | _=>false
 | .isn ne x=>fun | .binOp op t x' (.const .nilIface) _=>op==(if ne then .neq else .eql)&&x.is x'&&(match P.underlying t with | some (.interface _)=>true | _=>false) | _=>false
 | .mkf g fs cs=>fun | .makeFunc (.func g') fs' cs'=>g==g'&&YR fs fs'.toList&&YR cs cs'.toList | _=>false
def AOp.fits:AOp->Op->Bool
 | .mov x=>QvW x
 | .nilo _ _ _=>QvV
 | .pick c x y=>Qo1 c x y
 | .ext x i=>QuR x i
 | .not x=>QvU x
 | .bin op x y=>Qv3 op x y
 | .beq neg x y=>Qv4 P neg x y
 | .cvi k x=>QvZ P k x
 | .cvs x=>Qrd P x
 | .b2s x=>Qv5 P x
 | .i2s x=>Qrd P x
 | .nilc x=>Qo2 x
 | .fld off x=>QvY P off x
 | .ldi n ag x=>fLd P n ag x
 | .ldo _ n ag x=>fLd P n ag x
 | .sto _ n x y=>QvR P n x y
 | .ixi sz x i=>Qrc P sz x i
 | .ixo _ sz x i=>Qrc P sz x i
 | .ixs x i=>QvX P x i
 | .sli sz x l h=>QvT P sz x l h
 | .sls x l h=>QvS P x l h
 | .boxi x=>Qre x
 | .boxo _ x=>Qre x
 | .alo _ zs=>Qv6 P zs
 | .bld zs parts=>Qv2 P zs parts
 | .bsl sz parts=>Qta P sz parts
 | .bso _ e sz parts=>Qv1 P e sz parts
 | .len x=>Qm1 P false x
 | .leno _ x=>Qm1 P false x
 | .lst x=>Qm1 P true x
 | .app _ e sz bytes x y=>Qo3 P e sz bytes x y
 | .call f args _=>Qgq P f args
 | .callo f args _ _=>Qgq P f args
 | .calld x args _=>QcA x args
 | .callr f x args _=>Qgq P f (x::args)
 | .callb x args _=>QcA x args
 | .callx f args _=>Qgq P f args
 | .callh f args _=>Qgq P f args
 | .cpy _ x y=>Qv0 P x y
 | .caldh x args _=>QcA x args
 | .yy op=>YOp.fits P op
end
section
variable {P:Program} {ok:Nat->Prop} {w:World} {lo:Nat->Option AO} {L:Nat->Lay} {v:Value}
theorem QS {k n} (h:Qs ok w lo L (.iv (.int k n)) v):v=.int k n:=by
 cases h with | iv _ _ h=>cases h;rfl
theorem Ya {b} (h:Qs ok w lo L (.iv (.bool b)) v):v=.bool b:=by
 cases h with | iv _ _ h=>cases h;rfl
theorem Z9 {s} (h:Qs ok w lo L (.iv (.str s)) v):v=.string ⟨s.toArray⟩:=by
 cases h with | iv _ _ h=>cases h;rfl
theorem QR (k n):Qs ok w lo L (.iv (.int k n)) (.int k n):=.iv _ _ (.int k n)
theorem ZT (b):Qs ok w lo L (.iv (.bool b)) (.bool b):=.iv _ _ (.bool b)
theorem Yh (s):Qs ok w lo L (.iv (.str s)) (.string ⟨s.toArray⟩):=.iv _ _ (.str s)
theorem XC {v} (h:isSl v=true):(∀ z,v≠.agg z)/\v.oneCell'=true:=by
 cases v<;>simp[isSl] at h<;>exact ⟨by simp,rfl⟩
theorem Qae {v} (h:isFn v=true):(∀ z,v≠.agg z)/\v.oneCell'=true:=by
 cases v<;>simp[isFn] at h<;>exact ⟨by simp,rfl⟩
theorem Vl:∀ {cs xs},ivs cs=some xs->cs=xs.map .iv
 | [],xs,h=>by simp[ivs] at h;subst h;rfl
 | x::r,xs,h=>by
   simp only[ivs] at h;cases x with
   | iv y =>
     cases hr:ivs r with
     | none=>simp[AV.iv?,hr] at h
     | some ys =>
       simp only[AV.iv?,hr,Option.some.injEq] at h;subst h;simp[Vl hr]
   | _=>simp[AV.iv?] at h
theorem Jc {cs:List AV} {vs:List Value} (hl:vs.length=cs.length) (h1:∀ u∈vs,u.oneCell'=true)
  (hx:∀ (k:Nat) (x:AV) (u:Value),cs[k]?=some x->vs[k]?=some u->Qs ok w lo L x u):Qs ok w lo L (UJ cs) (.agg vs.toArray):=by
 unfold UJ;split
 ·rename_i xs he
  have:=Vl he;subst this;refine .iv _ _ (.agg xs vs (by simpa using hl) h1 fun k x u h2 h3=>?_)
  have:=hx k (.iv x) u (by simp[h2]) h3
  cases this;assumption
 ·exact .agg cs vs hl h1 hx
theorem WF {x cs} (h:Qs ok w lo L x v) (hc:x.cells=some cs) :
  ∃ vs:List Value,v.cells=vs.toArray/\vs.length=cs.length/\(∀ u∈vs,u.oneCell'=true)/\∀ (k:Nat) (x:AV) (u:Value),cs[k]?=some x->vs[k]?=some u->Qs ok w lo L x u:=by
 have one:∀ {x v},Qs ok w lo L x v->(∀ z,v≠.agg z)->(v.oneCell'=true)->cs=[x] ->
   ∃ vs:List Value,v.cells=vs.toArray/\vs.length=cs.length/\(∀ u∈vs,u.oneCell'=true)/\∀ (k:Nat) (x:AV) (u:Value),cs[k]?=some x->vs[k]?=some u->Qs ok w lo L x u:=by
  intro x v hr hna h1 hcs;subst hcs;refine ⟨[v],?_,rfl,by simpa using h1,fun k y u h2 h3=>?_⟩
  ·cases v<;>first | rfl | exact absurd rfl (hna _)
  ·cases k with
   | zero=>simp at h2 h3;subst h2;subst h3;exact hr
   | succ k=>simp at h2
 have h0:=h;cases h with
 | iv y v hy =>
   cases hy with
   | any v=>simp[AV.cells] at hc
   | tup cs vs hl hx=>simp[AV.cells] at hc
   | lit v =>
     simp only[AV.cells] at hc;split at hc
     ·rename_i hfv
      cases v<;>simp[isFn] at hfv;exact one h0 (by simp) rfl (by simpa using hc.symm)
     ·cases hc
   | ifn v h=>simp[AV.cells] at hc
   | agg xs vs hl h1 hx =>
     simp only[AV.cells,Option.some.injEq] at hc;subst hc;refine ⟨vs,rfl,by simpa using hl,h1,fun k y u h2 h3=>?_⟩
     grind
   | bool b=>exact one h0 (by simp) rfl (by simpa[AV.cells] using hc.symm)
   | int k n=>exact one h0 (by simp) rfl (by simpa[AV.cells] using hc.symm)
   | str s=>exact one h0 (by simp) rfl (by simpa[AV.cells] using hc.symm)
   | nilp=>exact one h0 (by simp) rfl (by simpa[AV.cells] using hc.symm)
   | nils sz=>exact one h0 (by simp) rfl (by simpa[AV.cells] using hc.symm)
   | nilz sz a=>exact one h0 (by simp) rfl (by simpa[AV.cells] using hc.symm)
   | sl=>exact one h0 (by simp) rfl (by simpa[AV.cells] using hc.symm)
   | ptr=>exact one h0 (by simp) rfl (by simpa[AV.cells] using hc.symm)
   | fn f=>exact one h0 (by simp) rfl (by simpa[AV.cells] using hc.symm)
   | mapn=>exact one h0 (by simp) rfl (by simpa[AV.cells] using hc.symm)
   | map=>exact one h0 (by simp) rfl (by simpa[AV.cells] using hc.symm)
   | clo=>exact one h0 (by simp) rfl (by simpa[AV.cells] using hc.symm)
   | bag _ _ es' _ hp h=>cases h<;>exact one h0 (by simp) rfl (by simpa[AV.cells] using hc.symm)
 | agg xs vs hl h1 hx =>
   simp only[AV.cells,Option.some.injEq] at hc;subst hc;exact ⟨vs,rfl,hl,h1,hx⟩
 | loc id off cs b ho hL=>exact one h0 (by simp) rfl (by simpa[AV.cells] using hc.symm)
 | aref id e sz es mv v xs ho hL hs=>exact one h0 (XC hs).1 (XC hs).2 (by simpa[AV.cells] using hc.symm)
 | old id n e sz es mv v' v xs ho hL hs hn hv=>exact one h0 (XC hs).1 (XC hs).2 (by simpa[AV.cells] using hc.symm)
 | eloc id n i off e sz es mv v xs b ho hL hn hv=>exact one h0 (by simp) rfl (by simpa[AV.cells] using hc.symm)
 | nilr sz=>exact one h0 (by simp) rfl (by simpa[AV.cells] using hc.symm)
 | zsl sz v h =>
   obtain ⟨a,rfl⟩:=WP h;exact one h0 (by simp) rfl (by simpa[AV.cells] using hc.symm)
 | mref id k n e sz kvs pend b vals v ho hL h1 hn hv=>exact one h0 (XC h1).1 (XC h1).2 (by simpa[AV.cells] using hc.symm)
 | oref id b o ho hn hL=>exact one h0 (by simp) rfl (by simpa[AV.cells] using hc.symm)
 | omap id b kvs ho hL=>exact one h0 (by simp) rfl (by simpa[AV.cells] using hc.symm)
 | orow id b e sz kvs pend vals ho hL=>exact one h0 (by simp) rfl (by simpa[AV.cells] using hc.symm)
 | obytes=>exact one h0 (by simp) rfl (by simpa[AV.cells] using hc.symm)
 | belem=>exact one h0 (by simp) rfl (by simpa[AV.cells] using hc.symm)
 | clo=>exact one h0 (by simp) rfl (by simpa[AV.cells] using hc.symm)
 | tup=>simp[AV.cells] at hc
 | cb id s O D ho hL=>exact one h0 (Qae s.hv).1 (Qae s.hv).2 (by simpa[AV.cells] using hc.symm)
theorem Opd.repVal {lk:Nat->AV} {x:Opd} {v:Value} (hx:x.isVal v=true):Qs ok w lo L (x.av lk) v:=by
 cases x with
 | t n=>simp[Opd.isVal] at hx
 | fn f=>simp[Opd.isVal] at hx
 | int k n =>
   simp only[Opd.isVal] at hx;unfold isI at hx;split at hx
   ·simp only[Qzm,beq_iff_eq] at hx
    rw[<- hx.1,<- hx.2];exact QR _ _
   ·cases hx
 | bool b =>
   simp only[Opd.isVal] at hx;unfold isB at hx;split at hx
   ·rw[<- beq_iff_eq.1 hx]
    exact ZT _
   ·cases hx
 | str s =>
   simp only[Opd.isVal] at hx;unfold isS at hx;split at hx
   ·rename_i u
    have e:s=u.data.toList:=by simpa using hx
    have e2:u=⟨s.toArray⟩:=by rw[e]
    rw[e2];exact Yh _
   ·cases hx
 | nil sz =>
   simp only[Opd.isVal] at hx;unfold isN at hx;split at hx
   ·simp only[Qzm,beq_iff_eq] at hx
    rw[hx.1,hx.2];exact .iv _ _ (.nils sz)
   ·cases hx
 | nilv sz =>
   simp only[Opd.isVal] at hx;unfold isN at hx;split at hx
   ·simp only[Qzm,beq_iff_eq] at hx
    rw[hx.1,hx.2];exact .nilr sz
   ·cases hx
 | nilm =>
   simp only[Opd.isVal] at hx;unfold isM at hx;split at hx
   ·exact .iv _ _ .mapn
   ·cases hx
 | nilf =>
   simp only[Opd.isVal] at hx;unfold QvA at hx;split at hx
   ·exact .iv _ _ (.lit _)
   ·cases hx
 | nilp =>
   simp only[Opd.isVal] at hx;unfold isP at hx;split at hx
   ·exact .iv _ _ .nilp
   ·cases hx
theorem Opd.rep {ok0:Nat->Prop} {N:Fm} {w0:ZR} {lk:Nat->AV} {a:Act} (h:Rel ok0 N w0 lk lo a w L) {x:Opd} {y:Operand} (hx:x.is y=true) :
  Qs (okL ok0 lo L) w lo L (x.av lk) (a.eval y):=by
 cases y with
 | tmp m =>
   cases x<;>simp only[Opd.is,Opd.isTmp,QzM,beq_iff_eq] at hx;rw[hx];exact h.env m
 | const v=>exact Opd.repVal hx
 | global g=>simp[Opd.is] at hx
 | func f =>
   cases x<;>simp only[Opd.is,Opd.isFn,QzM,beq_iff_eq] at hx;subst hx;exact .iv _ _ (.fn _)
theorem Zn {t:TypeId} {n:Nat} {ag:Bool} (hag:Program.agg P t=some ag) (hn:Program.sizeIs P t n=true) (b o:Nat) (vs:List Value)
  (hl:vs.length=n) (h0:ag=false->n=1) (hc:∀ (k:Nat) (u:Value),vs[k]?=some u->w.cell? ⟨b,o+k,none⟩=some u) :
  (loadVar t ⟨b,o,none⟩).run P w=.ok (if ag then .agg vs.toArray else vs.getD 0 undef) w:=by
 unfold Program.agg at hag;unfold Program.sizeIs at hn;cases hi:P.info? t with
 | none=>simp[hi] at hn
 | some i =>
   have hs:i.size=n:=by simpa[hi] using hn
   have hload:(loadCells ⟨b,o,none⟩ n).run P w=.ok vs.toArray w:=by
    rw[<- hl];exact run_loadCells_list (P:=P) w ⟨b,o,none⟩ vs (fun j v hv=>by rw[QM];exact hc j v hv)
   cases hu:P.underlying t with
   | none=>simp[hu] at hag
   | some d =>
     have hu':=run_underlying hu w;cases ag with
     | true =>
       have hda:(match d with | .struct _=>true | .array _ _=>true | _=>false)=true:=by
        cases d<;>simp_all
       cases d<;>simp at hda<;>simp[loadVar,isAgg,hu',sizeOf,typeInfo,hi,hs,hload]
     | false =>
       have h1:=h0 rfl;subst h1
       obtain ⟨u,rfl⟩:∃ u,vs=[u]:=by
        cases vs with
        | _=>grind
       have hc0:=hc 0 u (by simp)
       simp only[QAe] at hc0;cases d<;>simp[hu] at hag<;>simp[loadVar,isAgg,hu',hc0]
theorem Us {t ty:TypeId} {n:Nat} (hn:Program.sizeIs P t n=true) (b o:Nat) (v:Value) (vs cur:List Value) (hv:v.cells=vs.toArray) (hl:vs.length=n)
  (hg:w.heap[b]?=some (.cells cur.toArray ty (0,0))) (hfit:o+n<=cur.length) (h1:∀ u∈vs,u.oneCell'=true) :
  (storeVar t ⟨b,o,none⟩ v).run P w=.ok () (w.setRow b (cur.take o++vs++cur.drop (o+n)).toArray):=by
 unfold Program.sizeIs at hn;cases hi:P.info? t with
 | none=>simp[hi] at hn
 | some i =>
   have hs:i.size=n:=by simpa[hi] using hn
   have:=run_storeCells_at P b o ty vs 0 cur.toArray w hg (by simp;omega) h1
   simp only[QAe,hl] at this;simp[storeVar,sizeOf,typeInfo,hi,hs,hv,hl,this]
end
def upO (lo:Nat->Option AO):Option (Nat × AO)->Nat->Option AO
 | none=>lo
 | some (id,o)=>QK lo id o
def Qo (P:Program) (o:Oper) (ok0:Nat->Prop) (N:Fm) (w0:ZR) (lk:Nat->AV) (lo:Nat->Option AO) (a:Act) (w:World) (v:AV) (up:Option (Nat × AO)):Prop :=
 ∃ n u w' L',(execOp a.eval o).run P w=.ok n w'/\(n=.value u\/(n=.skip/\u=undef)) /\
  Rel ok0 N w0 lk (upO lo up) a w' L'/\Qs (okL ok0 (upO lo up) L') w' (upO lo up) L' v u
section
variable {P:Program} {ok0:Nat->Prop} {N:Fm} {w0:ZR} {lk:Nat->AV} {lo:Nat->Option AO} {a:Act} {w:World} {L:Nat->Lay} {o:Oper}
theorem Qo.pure {v u} (h:Rel ok0 N w0 lk lo a w L) (hr:(execOp a.eval o).run P w=.ok (.value u) w) (hv:Qs (okL ok0 lo L) w lo L v u) :
  Qo P o ok0 N w0 lk lo a w v none:=⟨_,u,w,L,hr,.inl rfl,h,hv⟩
theorem Qlp {x} (h:Rel ok0 N w0 lk lo a w L) (hf:QvW x o.op=true):Qo P o ok0 N w0 lk lo a w (x.av lk) none:=by
 unfold QvW at hf;split at hf
 ·rename_i y ho
  exact Qo.pure h (u:=a.eval y) (by simp[execOp,ho]) (Opd.rep h hf)
 ·rename_i y ho
  exact Qo.pure h (u:=a.eval y) (by simp[execOp,ho]) (Opd.rep h hf)
 ·cases hf
theorem QiV {c x y} (h:Rel ok0 N w0 lk lo a w L) (hf:Qo1 c x y o.op=true) {s f v up}
  (he:QcC (x.av lk) (y.av lk) (c.av lk)=.ok s f v up):f/\Qo P o ok0 N w0 lk lo a w v up:=by
 unfold Qo1 at hf;split at hf
 ·rename_i c' x' y' ho
  simp only[Qzm] at hf;obtain ⟨⟨hc,hx⟩,hy⟩:=hf;have rc:=Opd.rep h hc;generalize c.av lk=cv at rc he;unfold QcC at he;split at he
  ·rename_i b
   injection he with e1 e2 e3 e4
   subst e2 e3 e4;have:=Ya rc;refine ⟨trivial,Qo.pure h (u:=if b then a.eval x' else a.eval y') (by simp[execOp,ho,this,asBool]) ?_⟩
   cases b
   ·exact Opd.rep h hy
   ·exact Opd.rep h hx
  ·cases he
 ·cases hf
theorem QlM {x i} (h:Rel ok0 N w0 lk lo a w L) (hf:QuR x i o.op=true) {s f v up}
  (he:Qgy i (x.av lk)=.ok s f v up):f/\Qo P o ok0 N w0 lk lo a w v up:=by
 unfold QuR at hf;split at hf
 ·rename_i y j ho
  simp only[Qzm,beq_iff_eq] at hf;obtain ⟨hx,rfl⟩:=hf;have rx:=Opd.rep h hx;generalize x.av lk=xv at rx he;unfold Qgy at he;split at he
  ·rename_i cs
   split at he
   ·rename_i z hz
    injection he with e1 e2 e3 e4
    subst e2 e3 e4;cases rx with
    | iv _ _ r =>
      generalize hey:a.eval y=yv at r;cases r with
      | tup _ vs hl hxs =>
        have hlt:i<vs.length:=by rw[hl];exact (Qzl.1 hz).1
        have hu:vs[i]?=some vs[i]:=Qzk hlt;refine ⟨trivial,Qo.pure h (u:=vs[i]) (by simp[execOp,ho,hey,Instr.extract,hlt]) (.iv _ _ (hxs i z _ hz hu))⟩
   ·cases he
  ·rename_i cs
   split at he
   ·rename_i z hz
    injection he with e1 e2 e3 e4
    subst e2 e3 e4;generalize hey:a.eval y=yv at rx;cases rx with
    | tup _ vs hl hxs =>
      have hlt:i<vs.length:=by rw[hl];exact (Qzl.1 hz).1
      have hu:vs[i]?=some vs[i]:=Qzk hlt;refine ⟨trivial,Qo.pure h (u:=vs[i]) (by simp[execOp,ho,hey,Instr.extract,hlt]) (hxs i z _ hz hu)⟩
   ·cases he
  ·cases he
 ·cases hf
theorem Qln {x} (h:Rel ok0 N w0 lk lo a w L) (hf:QvU x o.op=true) {s f v up}
  (he:QiD (x.av lk)=.ok s f v up):f/\Qo P o ok0 N w0 lk lo a w v up:=by
 unfold QvU at hf;split at hf
 ·rename_i t y ho
  have rx:=Opd.rep h hf;generalize x.av lk=xv at rx he;unfold QiD at he;split at he
  ·rename_i b
   injection he with e1 e2 e3 e4
   subst e2 e3 e4;have:=Ya rx;exact ⟨trivial,Qo.pure h (u:=.bool !b) (by simp[execOp,ho,this,Op.unary]) (ZT _)⟩
  ·cases he
 ·cases hf
theorem QlQ {k x} (h:Rel ok0 N w0 lk lo a w L) (hf:QvZ P k x o.op=true) {s f v up}
  (he:QiL k (x.av lk)=.ok s f v up):f/\Qo P o ok0 N w0 lk lo a w v up:=by
 unfold QvZ at hf;split at hf
 ·rename_i sT d y ho
  simp only[Qzm,beq_iff_eq] at hf;obtain ⟨⟨hx,hs⟩,hd⟩:=hf
  have hd':P.underlying d=some (.int k):=by
   unfold V2 at hd
   grind
  have rx:=Opd.rep h hx;generalize x.av lk=xv at rx he;unfold QiL at he;split at he
  ·rename_i k' n
   injection he with e1 e2 e3 e4
   subst e2 e3 e4;have:=QS rx;refine ⟨trivial,Qo.pure h (u:=.int k (k.wrap n)) ?_ (QR _ _)⟩;obtain ⟨ds,hds⟩:=Qz3.1 hs;simp[execOp,ho,this,convert,run_underlying hds,run_underlying hd',Conv.intToInt]
  ·cases he
 ·cases hf
theorem QlP {x} (h:Rel ok0 N w0 lk lo a w L) (hf:Qrd P x o.op=true) {s f v up}
  (he:QiK (x.av lk)=.ok s f v up):f/\Qo P o ok0 N w0 lk lo a w v up:=by
 unfold Qrd at hf;split at hf
 ·rename_i sT d y ho
  simp only[Qzm] at hf;obtain ⟨⟨hx,hs⟩,hd⟩:=hf
  have hd':P.underlying d=some .string:=by
   unfold Q4 at hd;split at hd
   ·rename_i hk;exact hk
   ·cases hd
  have rx:=Opd.rep h hx;generalize x.av lk=xv at rx he;unfold QiK at he;split at he
  ·rename_i st
   injection he with e1 e2 e3 e4
   subst e2 e3 e4;have:=Z9 rx;refine ⟨trivial,Qo.pure h (u:=.string ⟨st.toArray⟩) ?_ (Yh _)⟩;obtain ⟨ds,hds⟩:=Qz3.1 hs;simp[execOp,ho,this,convert,run_underlying hds,run_underlying hd']
  ·cases he
 ·cases hf
theorem QaA {k n} (h:IntKind.inR k n):k.wrap n=n:=by
 unfold IntKind.inR IntKind.min IntKind.max at h;unfold IntKind.wrap;cases k<;>simp[IntKind.signed,IntKind.bits] at h |-<;>omega
def plain:Value->Bool
 | .int _ _=>true
 | .bool _=>true
 | .string _=>true
 | _=>false
theorem Qbf (op t) (x y:Operand) (p q) (hp:plain p=true):eqGuard op t x y p q=pure ():=by
 unfold eqGuard;cases p<;>simp[plain] at hp<;>(split<;>rfl)
theorem Jb {op t yt} {x' y':Operand} (ho:o.op=.binOp op t x' y' yt) {p q u} (hx:a.eval x'=p) (hy:a.eval y'=q) (hp:plain p=true)
  (hu:(binOp op t p q).run P w=.ok u w):(execOp a.eval o).run P w=.ok (.value u) w:=by
 simp[execOp,ho,hx,hy,Qbf op t x' y' p q hp,hu]
theorem QfI (s u:List UInt8):((⟨s.toArray⟩:ByteArray).toList==(⟨u.toArray⟩:ByteArray).toList)=decide (s=u):=by
 have e:∀ l,(⟨l.toArray⟩:ByteArray).toList=l:=by
  intro l;simp
 rw[e,e];by_cases h:s=u<;>simp[h]
theorem QlV {op:BinOp} {x y:Opd} (h:Rel ok0 N w0 lk lo a w L) (hf:Qv3 op x y o.op=true) {s f:Prop} {v:AV} {up:Option (Nat × AO)}
  (he:QiM op (x.av lk) (y.av lk)=.ok s f v up) (hs:s):f/\Qo P o ok0 N w0 lk lo a w v up:=by
 unfold Qv3 at hf;split at hf
 ·rename_i op' t x' y' yt ho
  simp only[Qzm,beq_iff_eq] at hf;obtain ⟨⟨rfl,hx⟩,hy⟩:=hf;have rx:=Opd.rep h hx;have ry:=Opd.rep h hy;generalize x.av lk=xv at rx he;generalize y.av lk=yv at ry he;unfold QiM at he;split at he
  ·injection he with e1 e2 e3 e4
   subst e1 e2 e3 e4;refine ⟨trivial,Qo.pure h (Jb ho (QS rx) (QS ry) rfl ?_) (QR _ _)⟩;have:¬ (_<(0:Int)):=Int.not_lt.2 hs;simp[binOp,Op.shift,this,QmC]
  ·injection he with e1 e2 e3 e4
   subst e1 e2 e3 e4;refine ⟨trivial,Qo.pure h (Jb ho (QS rx) (QS ry) rfl ?_) (QR _ _)⟩;have:¬ (_<(0:Int)):=Int.not_lt.2 hs;simp[binOp,Op.shift,this,Qq7]
  ·rename_i k m k' n h1 h2
   split at he
   ·rename_i hk
    subst hk;have rx:=QS rx;have ry:=QS ry;unfold Qld at he;split at he
    all_goals first
     | (injection he with e1 e2 e3 e4
        subst e1 e2 e3 e4;refine ⟨trivial,Qo.pure h (Jb ho rx ry rfl ?_) (by first | exact QR _ _ | exact ZT _)⟩
        first
         | (simp[binOp,Op.intArith,QaA hs];done)
         | (simp[binOp,Op.intDiv,hs.1,QaA hs.2];done)
         | (have hs':¬ (n=0):=hs;simp[binOp,Op.intDiv,hs'];done)
         | (simp[binOp,Op.intBits,VF];done)
         | (simp[binOp,Op.intCmp,bne];done)
         | (simp[binOp,Op.intCmp];rfl))
     | cases he
   ·cases he
  ·rename_i s1 s2
   injection he with e1 e2 e3 e4
   subst e1 e2 e3 e4;refine ⟨trivial,Qo.pure h (Jb ho (Z9 rx) (Z9 ry) rfl (u:=.string ⟨(s1++s2).toArray⟩) ?_) (Yh _)⟩
   have h2:¬ (((s1.length+s2.length:Nat):Int)>IntKind.i64.max):=by
    have:IntKind.i64.max=9223372036854775807:=by decide
    omega
   have h3:(⟨s1.toArray⟩:ByteArray)++⟨s2.toArray⟩=⟨(s1++s2).toArray⟩:=by
    ext1
    simp
   simp only[binOp,Op.stringOp];have e1:(⟨s1.toArray⟩:ByteArray).size=s1.length:=rfl;have e2:(⟨s2.toArray⟩:ByteArray).size=s2.length:=rfl;rw[e1,e2,if_neg h2,h3];rfl
  ·injection he with e1 e2 e3 e4
   subst e1 e2 e3 e4;exact ⟨trivial,Qo.pure h (Jb ho (Z9 rx) (Z9 ry) rfl (by simp only[binOp,Op.stringOp,QfI];rfl)) (ZT _)⟩
  ·injection he with e1 e2 e3 e4
   subst e1 e2 e3 e4;exact ⟨trivial,Qo.pure h (Jb ho (Z9 rx) (Z9 ry) rfl (by simp only[binOp,Op.stringOp,QfI];rfl)) (ZT _)⟩
  ·cases he
 ·cases hf
theorem run_equalIn_bool {t} (ht:P.underlying t=some .bool) (d b c):(Op.equalIn (d+1) t (.bool b) (.bool c)).run P w=.ok (b==c) w:=by
 simp[Op.equalIn,run_underlying ht]
theorem run_equal_bool {t} (ht:P.underlying t=some .bool) (b c):(Op.equal t (.bool b) (.bool c)).run P w=.ok (b==c) w :=
 run_equalIn_bool ht 9999 b c
theorem QlW {neg x y} (h:Rel ok0 N w0 lk lo a w L) (hf:Qv4 P neg x y o.op=true) {s f v up}
  (he:QiN neg (x.av lk) (y.av lk)=.ok s f v up):f/\Qo P o ok0 N w0 lk lo a w v up:=by
 unfold Qv4 at hf;split at hf
 ·rename_i op t x' y' yt ho
  simp only[Qzm,beq_iff_eq] at hf;obtain ⟨⟨⟨rfl,hx⟩,hy⟩,ht⟩:=hf
  have ht':P.underlying t=some .bool:=by
   unfold QhY at ht;split at ht
   ·rename_i e;exact e
   ·cases ht
  have rx:=Opd.rep h hx;have ry:=Opd.rep h hy;generalize x.av lk=xv at rx he;generalize y.av lk=yv at ry he;unfold QiN at he;split at he
  ·rename_i b c
   injection he with e1 e2 e3 e4
   subst e1 e2 e3 e4;cases neg
   ·refine ⟨trivial,Qo.pure h (Jb ho (Ya rx) (Ya ry) rfl (u:=.bool (decide (b=c))) ?_) (ZT _)⟩
    have e:(b==c)=decide (b=c):=rfl;simp[binOp,run_equal_bool ht',e]
   ·refine ⟨trivial,Qo.pure h (Jb ho (Ya rx) (Ya ry) rfl (u:=.bool (!decide (b=c))) ?_) (ZT _)⟩
    have e:(b==c)=decide (b=c):=rfl;simp[binOp,run_equal_bool ht',e]
  ·cases he
 ·cases hf
end
section
variable {P:Program} {ok0:Nat->Prop} {N:Fm} {w0:ZR} {lk:Nat->AV} {lo:Nat->Option AO} {a:Act} {w:World} {L:Nat->Lay} {o:Oper}
variable {s f:Prop} {v:AV} {up:Option (Nat × AO)}
theorem QiY {x} (h:Rel ok0 N w0 lk lo a w L) (hf:Qo2 x o.op=true)
  (he:QcD (x.av lk)=.ok s f v up):f/\Qo P o ok0 N w0 lk lo a w v up:=by
 unfold Qo2 at hf;split at hf
 ·rename_i y ho
  have rx:=Opd.rep h hf;generalize x.av lk=xv at rx he;generalize hey:a.eval y=yv at rx
  have run:∀ ad,yv=.pointer (some ad)->(execOp a.eval o).run P w=.ok (.value (.pointer (some ad))) w:=by
   intro ad had;simp[execOp,ho,hey,had]
  unfold QcD at he;split at he
  ·injection he with e1 e2 e3 e4
   subst e2 e3 e4;have rx0:=rx;cases rx with
   | iv _ _ r=>cases r with
     | ptr cs b off u hu hx=>exact ⟨trivial,Qo.pure h (run _ rfl) rx0⟩
  ·injection he with e1 e2 e3 e4
   subst e2 e3 e4;have rx0:=rx;cases rx with
   | loc id off cs b hob hL=>exact ⟨trivial,Qo.pure h (run _ rfl) rx0⟩
  ·cases he
 ·cases hf
theorem QdY {sT fi off} (hf:QdZ P sT fi off=true) (b p) :
  (Instr.fieldAt sT (.pointer (some ⟨b,p,none⟩)) fi).run P w=.ok (.pointer (some ⟨b,p+off,none⟩)) w:=by
 unfold QdZ at hf;split at hf
 ·rename_i fields hu
  split at hf
  ·rename_i fd hfd
   simp only[Qzm,beq_iff_eq] at hf;obtain ⟨h1,h2⟩:=hf;split at h2
   ·rename_i i hi
    have h3:i.size≠0:=by simpa using h2
    subst h1;simp[Instr.fieldAt,run_underlying hu,hfd,Instr.sureAddr,fieldPlace,sizeOf,typeInfo,hi,h3,QM]
   ·cases h2
  ·cases hf
 ·cases hf
theorem QlK {off x} (h:Rel ok0 N w0 lk lo a w L) (hf:QvY P off x o.op=true)
  (he:Qgx off (x.av lk)=.ok s f v up) (hs:s):f/\Qo P o ok0 N w0 lk lo a w v up:=by
 unfold QvY at hf;split at hf
 ·rename_i sT y fi ho
  simp only[Qzm] at hf;obtain ⟨hx,hfi⟩:=hf;have rx:=Opd.rep h hx;generalize x.av lk=xv at rx he;generalize hey:a.eval y=yv at rx
  have run:∀ b p,yv=.pointer (some ⟨b,p,none⟩)->(execOp a.eval o).run P w=.ok (.value (.pointer (some ⟨b,p+off,none⟩))) w:=by
   intro b p had;simp[execOp,ho,hey,had,QdY hfi b p]
  unfold Qgx at he;split at he
  ·injection he with e1 e2 e3 e4
   subst e1 e2 e3 e4;cases rx with
   | iv _ _ r=>cases r with
     | ptr cs b p u hu hxs =>
       refine ⟨trivial,Qo.pure h (run b p rfl) (.iv _ _ (.ptr _ b (p+off) (fun k=>u (off+k)) (fun k hk=>?_) (fun k z hz=>?_)))⟩
       all_goals grind
  ·rename_i id off'
   injection he with e1 e2 e3 e4
   subst e1 e2 e3 e4;cases rx with
   | loc _ _ cs b hob hL=>exact ⟨trivial,Qo.pure h (run b off' rfl) (.loc id (off'+off) cs b hob hL)⟩
  ·rename_i id n i o'
   injection he with e1 e2 e3 e4
   subst e1 e2 e3 e4;cases rx with
   | eloc _ _ _ _ e sz es mv v xs b ho hL hn hv =>
     have:=run b _ rfl;rw[Qz6] at this;exact ⟨trivial,Qo.pure h this (.eloc id n i (o'+off) e sz es mv v xs b ho hL hn hv)⟩
  ·cases he
 ·cases hf
theorem QlA {n ag x} (h:Rel ok0 N w0 lk lo a w L) (hf:fLd P n ag x o.op=true)
  (he:Qbe n ag (x.av lk)=.ok s f v up) (hs:s):f/\Qo P o ok0 N w0 lk lo a w v up:=by
 unfold fLd at hf;split at hf
 ·rename_i t y ho
  simp only[Qzm,beq_iff_eq] at hf;obtain ⟨⟨hx,hag⟩,hn⟩:=hf;have rx:=Opd.rep h hx;generalize x.av lk=xv at rx he;generalize hey:a.eval y=yv at rx;unfold Qbe at he;split at he
  ·rename_i cs
   cases rx with
   | iv _ _ r=>cases r with
     | ptr _ b p u hu hxs =>
       split at he
       ·injection he with e1 e2 e3 e4
        subst e1 e2 e3 e4
        have hl:=Zn (w:=w) hag hn b p ((List.range n).map u) (by simp) (by simp) (fun k z hz=>by
         grind)
        refine ⟨trivial,Qo.pure h (u:=.agg ((List.range n).map u).toArray) (by simp[execOp,ho,hey,Instr.loadAt,Instr.sureAddr,hl]) (.iv _ _ (.agg _ _ ?_ ?_ ?_))⟩
        all_goals grind
       ·split at he
        ·rename_i c r
         injection he with e1 e2 e3 e4
         subst e1 e2 e3 e4;subst hs
         have hl:=Zn (w:=w) hag hn b p [u 0] (by simp) (by simp) (fun k z hz=>by
          grind)
         refine ⟨trivial,Qo.pure h (u:=u 0) (by simp[execOp,ho,hey,Instr.loadAt,Instr.sureAddr,hl]) (.iv _ _ (hxs 0 _ (by simp)))⟩
        ·cases he
  ·cases he
 ·cases hf
end
section
variable {P:Program} {ok0:Nat->Prop} {N:Fm} {w0:ZR} {lk:Nat->AV} {lo:Nat->Option AO} {a:Act} {w:World} {L:Nat->Lay} {o:Oper}
variable {s f:Prop} {v:AV} {up:Option (Nat × AO)}
theorem Jx {n:Nat} {ag:Bool} {t:TypeId} {y:Operand} (h:Rel ok0 N w0 lk lo a w L) (ho:o.op=.load t y) (hag:Program.agg P t=some ag) (hn:Program.sizeIs P t n=true)
  {b p:Nat} (hy:a.eval y=.pointer (some ⟨b,p,none⟩)) (cs:List AV) (vs:List Value) (hl:vs.length=cs.length) (h1:∀ u∈vs,u.oneCell'=true)
  (hcs:cs.length=n) (hag1:ag=false->n=1)
  (hc:∀ (k:Nat) (u:Value),vs[k]?=some u->w.cell? ⟨b,p+k,none⟩=some u)
  (hx:∀ (k:Nat) (x:AV) (u:Value),cs[k]?=some x->vs[k]?=some u->Qs (okL ok0 lo L) w lo L x u) :
  (ag=true->Qo P o ok0 N w0 lk lo a w (UJ cs) none)/\(ag=false->∀ c,cs[0]?=some c->Qo P o ok0 N w0 lk lo a w c none):=by
 have hload:=Zn (w:=w) hag hn b p vs (by omega) hag1 hc
 refine ⟨fun e=>?_,fun e c hc0=>?_⟩
 ·subst e
  exact Qo.pure h (u:=.agg vs.toArray) (by simp[execOp,ho,hy,Instr.loadAt,Instr.sureAddr,hload]) (Jc hl h1 hx)
 ·subst e
  have hlt:0<vs.length:=by rw[hl];exact (Qzl.1 hc0).1
  have hv0:vs[0]?=some vs[0]:=Qzk hlt;refine Qo.pure h (u:=vs.getD 0 undef) (by simp[execOp,ho,hy,Instr.loadAt,Instr.sureAddr,hload]) ?_
  grind
theorem Qbc {es:List (List AV)} {sz:Nat} (hs:∀ c∈es,c.length=sz) {i:Nat} (hi:i<es.length):(es.getD i []).length=sz:=by
 grind
theorem W6 {i n j sz:Nat} (hi:i<n) (hj:j<sz):i*sz+j<n*sz:=by
 have:(i+1)*sz<=n*sz:=QzN sz hi;rw[QzO] at this;omega
theorem Qlz {id n:Nat} {ag:Bool} {x:Opd} (h:Rel ok0 N w0 lk lo a w L) (hf:fLd P n ag x o.op=true)
  (he:Qgv lo id n ag (x.av lk)=.ok s f v up) (hs:s):f/\Qo P o ok0 N w0 lk lo a w v up:=by
 unfold fLd at hf;split at hf
 ·rename_i t y ho
  simp only[Qzm,beq_iff_eq] at hf;obtain ⟨⟨hx,hag⟩,hn⟩:=hf;have rx:=Opd.rep h hx;generalize x.av lk=xv at rx he;generalize hey:a.eval y=yv at rx;unfold Qgv at he;split at he
  ·rename_i i off
   split at he
   ·rename_i hii
    subst hii;split at he
    ·rename_i cs hcs
     have hob:=h.objs _ _ hcs;cases rx with
     | loc _ _ cs' b hob' hL =>
       rw[hcs] at hob';injection hob' with hob'
       injection hob' with hob'
       subst hob';rw[hL] at hob;obtain ⟨hB,ty,vs,hb,hl,h1,hxx⟩:=hob
       have cell:∀ k u,(vs.drop off)[k]?=some u->w.cell? ⟨b,off+k,none⟩=some u:=by
        intro k u hu;rw[cell_of_row w b (off+k) _ ty (0,0) hb];simpa[QAb] using hu
       split at he
       ·injection he with e1 e2 e3 e4
        subst e1 e2 e3 e4
        have:=(Jx h ho hag hn hey ((cs.drop off).take n) ((vs.drop off).take n) (by simp[hl]) (fun u hu=>h1 u (QAc (Qz5 hu))) (by simp;omega) (by simp)
         (fun k u hu=>cell k u (by rw[QzR] at hu;split at hu<;>first | exact hu | cases hu))
         (fun k z u hz hu=>by
           grind)).1 rfl
        exact ⟨trivial,this⟩
       ·split at he
        ·rename_i c hc
         injection he with e1 e2 e3 e4
         subst e1 e2 e3 e4;subst hs;have hlt:off<vs.length:=by rw[hl];exact (Qzl.1 hc).1
         have:=(Jx h ho hag hn hey [c] [vs[off]] rfl (fun u hu=>h1 u (by simp at hu;subst hu;exact Qzr hlt)) rfl (by simp)
          (fun k u hu=>by
            cases k with
            | zero=>simp at hu;subst hu;exact cell 0 _ (by simp[QAb,hlt])
            | succ k=>simp at hu)
          (fun k z u hz hu=>by
            grind)).2 rfl c rfl
         exact ⟨trivial,this⟩
        ·cases he
    ·cases he
   ·cases he
  ·rename_i i m j off
   split at he
   ·rename_i hii
    subst hii;split at he
    ·rename_i e sz es mv hcs
     have hob:=h.objs _ _ hcs;cases rx with
     | eloc _ _ _ _ e' sz' es' mv' v' xs b hob' hL hm hv =>
       rw[hcs] at hob';injection hob' with hob'
       injection hob' with g1 g2 g3 g4
       subst g1 g2 g3 g4;rw[hL] at hob;obtain ⟨hown,hmv,hsz,h1,hxx⟩:=hob;have hxl:=hown.own.1
       have get:mv<=m->j<m/\∀ k,k<sz->∃ u,w.cell? ⟨b,j*sz+k,none⟩=some u/\xs[j*sz+k]?=some u:=by
        intro hmm;obtain ⟨hj,_,hcells⟩:=hv hmm;exact ⟨hj,fun k hk=>(hcells (j*sz+k) (W6 hj hk)).2⟩
       split at he
       ·injection he with e1 e2 e3 e4
        subst e1 e2 e3 e4;obtain ⟨hmm,hfit⟩:=hs;obtain ⟨hj,hcell⟩:=get hmm;have hlen:=Qbc hsz (i:=j) (by omega)
        have hjs:es[j]?=some (es.getD j []):=by
         have:j<es.length:=by omega
         simp[List.getD,this]
        rw[hlen] at hfit
        have hbig:j*sz+sz<=xs.length:=by
         rw[hxl];have:(j+1)*sz<=es.length*sz:=QzN sz (by omega)
         rw[QzO] at this;omega
        have:=(Jx h ho hag hn hey (((es.getD j []).drop off).take n) ((xs.drop (j*sz+off)).take n) (by simp[-List.getD_eq_getElem?_getD,hlen];omega)
         (fun u hu=>h1 u (QAc (Qz5 hu))) (by simp[-List.getD_eq_getElem?_getD,hlen];omega) (by simp)
         (fun k u hu=>by
           rw[QzR] at hu;split at hu
           ·rename_i hk
            rw[QAb] at hu;obtain ⟨u',h2,h3⟩:=hcell (off+k) (by omega)
            grind
           ·cases hu)
         (fun k z u hz hu=>by
           grind)).1 rfl
        exact ⟨trivial,this⟩
       ·split at he
        ·rename_i c hc
         injection he with e1 e2 e3 e4
         subst e1 e2 e3 e4;obtain ⟨hmm,rfl⟩:=hs;obtain ⟨hj,hcell⟩:=get hmm;have hlen:=Qbc hsz (i:=j) (by omega)
         have hjs:es[j]?=some (es.getD j []):=by
          have:j<es.length:=by omega
          simp[List.getD,this]
         have hoff:off<sz:=by rw[<- hlen];exact (Qzl.1 hc).1
         obtain ⟨u,h2,h3⟩:=hcell off hoff
         have:=(Jx h ho hag hn hey [c] [u] rfl (fun u' hu=>h1 u' (by simp at hu;subst hu;exact QzB h3)) rfl (by simp)
          (fun k u' hu=>by
            cases k with
            | zero=>simp at hu;subst hu;exact h2
            | succ k=>simp at hu)
          (fun k z u' hz hu=>by
            grind)).2 rfl c rfl
         exact ⟨trivial,this⟩
        ·cases he
    ·cases he
   ·cases he
  ·cases he
 ·cases hf
end
section
variable {P:Program} {ok0:Nat->Prop} {N:Fm} {w0:ZR} {lk:Nat->AV} {lo:Nat->Option AO} {a:Act} {w:World} {L:Nat->Lay} {o:Oper}
variable {s f:Prop} {v:AV} {up:Option (Nat × AO)}
theorem Zh {t sz} (h:Program.elemSize P t sz=true):∃ e i,P.underlying t=some (.slice e)/\P.info? e=some i/\i.size=sz:=by
 unfold Program.elemSize Program.sizeIs at h
 grind
theorem JL {t e} {i:TypeInfo} {sz} (he:P.underlying t=some (.slice e)) (hi:P.info? e=some i) (hs:i.size=sz)
  (b off len cap k j) (h0:0<=j) (h1:j.toNat<len) :
  (Instr.indexAt t (.slice (some ⟨b,off,none⟩) len cap) (.int k j)).run P w=.ok (.pointer (some ⟨b,off+j.toNat*sz,none⟩)) w:=by
 have h2:0<=j/\j<(len:Int):=⟨h0,by omega⟩
 simp[Instr.indexAt,asIntOf,run_underlying he,h2,sizeOf,typeInfo,hi,hs,QM]
theorem getD_some {α} {l:List α} {i} {d:α} (h:i<l.length):l[i]?=some (l.getD i d):=by
 simp[List.getD,h]
theorem QlE {sz x i} (h:Rel ok0 N w0 lk lo a w L) (hf:Qrc P sz x i o.op=true)
  (he:QiH sz (x.av lk) (i.av lk)=.ok s f v up) (hs:s):f/\Qo P o ok0 N w0 lk lo a w v up:=by
 unfold Qrc at hf;split at hf
 ·rename_i t x' i' ho
  simp only[Qzm] at hf;obtain ⟨⟨hx,hi⟩,hsz⟩:=hf;obtain ⟨e,ti,hu,hti,hts⟩:=Zh hsz;have rx:=Opd.rep h hx;have ri:=Opd.rep h hi;generalize x.av lk=xv at rx he;generalize i.av lk=iv at ri he;generalize hey:a.eval x'=yv at rx;unfold QiH at he;split at he
  ·rename_i sz' es k j
   injection he with e1 e2 e3 e4
   subst e1 e2 e3 e4;obtain ⟨rfl,h0,hlt⟩:=hs;have hei:=QS ri;cases rx with
   | iv _ _ r=>cases r with
     | nils=>simp at hlt
     | nilz=>simp at hlt
     | sl _ _ b off cap u hl hc hes hcell hxx =>
       refine ⟨trivial,Qo.pure h (u:=.pointer (some ⟨b,off+j.toNat*sz',none⟩)) ?_ ?_⟩
       ·simp only[execOp,ho,hey,hei,Sem.run_bind,JL hu hti hts b off es.length cap k j h0 hlt]
        rfl
       ·have hj:=getD_some (d:=[]) hlt
        have hlen:(es.getD j.toNat []).length=sz':=hes _ (QzB hj);refine .iv _ _ (.ptr _ b (off+j.toNat*sz') (fun k=>u (j.toNat*sz'+k)) (fun k hk=>?_) (fun k z hz=>hxx _ _ _ _ hj hz))
        have:=hcell (j.toNat*sz'+k) (W6 hlt (by omega))
        grind
  ·cases he
 ·cases hf
theorem QlD {id sz x i} (h:Rel ok0 N w0 lk lo a w L) (hf:Qrc P sz x i o.op=true)
  (he:Qgw lo id sz (x.av lk) (i.av lk)=.ok s f v up) (hs:s):f/\Qo P o ok0 N w0 lk lo a w v up:=by
 unfold Qrc at hf;split at hf
 ·rename_i t x' i' ho
  simp only[Qzm] at hf;obtain ⟨⟨hx,hi⟩,hsz⟩:=hf;obtain ⟨e,ti,hu,hti,hts⟩:=Zh hsz;have rx:=Opd.rep h hx;have ri:=Opd.rep h hi;generalize x.av lk=xv at rx he;generalize i.av lk=iv at ri he;generalize hey:a.eval x'=yv at rx;unfold Qgw at he;split at he
  ·rename_i i n k j
   split at he
   ·rename_i hid
    subst hid;split at he
    ·rename_i e' sz' es mv hob
     injection he with e1 e2 e3 e4
     subst e1 e2 e3 e4;obtain ⟨rfl,h0,hlt,hmv,hn⟩:=hs;have hei:=QS ri
     have fin:∀ b cap v xs,yv=.slice (some ⟨b,0,none⟩) n cap->L i=.arr v xs->(n=es.length->v.ownBlock=some b) ->
       (∀ k,k<n*sz'->(okL ok0 lo L b\/v.ownBlock=some b)/\∃ u,w.cell? ⟨b,k,none⟩=some u/\xs[k]?=some u) ->
       True/\Qo P o ok0 N w0 lk lo a w (.eloc i n j.toNat 0) none:=by
      intro b cap v xs hyv hL hown hcells;subst hyv;refine ⟨trivial,Qo.pure h (u:=.pointer (some ⟨b,0+j.toNat*sz',none⟩)) ?_ ?_⟩
      ·simp only[execOp,ho,hey,hei,Sem.run_bind,JL hu hti hts b 0 n cap k j h0 hlt]
       rfl
      ·rw[Qzx]
       exact .eloc i n j.toNat 0 e' sz' es mv v xs b hob hL hn fun _=>⟨hlt,hown,hcells⟩
     have hor:=h.objs _ _ hob;cases rx with
     | aref _ e2 sz2 es2 mv2 v2 xs hob2 hL hsl =>
       rw[hob] at hob2;injection hob2 with hob2
       injection hob2 with g1 g2 g3 g4
       subst g1 g2 g3 g4;rw[hL] at hor;obtain ⟨hown,_,_,_,_⟩:=hor;rcases hown.own.2 with ⟨_,h00⟩ | ⟨g,cap,cur,hv,hB,hg,hnc,hcm,hcs,htake⟩
       ·rw[h00] at hlt;omega
       ·refine fin g cap yv xs hv hL (fun _=>by rw[hv];rfl) (fun k hk=>⟨.inr (by rw[hv];rfl),?_⟩)
        have hk':k<xs.length:=by rw[hown.own.1];exact hk
        refine ⟨xs[k],?_,Qzk hk'⟩;have:=hown.own.cells (g:=g) (by rw[hv];rfl) k xs[k] (Qzk hk')
        rwa [QM,Qzx] at this
     | old _ _ e2 sz2 es2 mv2 v2 _ xs hob2 hL hsl hn2 hv =>
       rw[hob] at hob2;injection hob2 with hob2
       injection hob2 with g1 g2 g3 g4
       subst g1 g2 g3 g4
       grind
    ·cases he
   ·cases he
  ·cases he
 ·cases hf
theorem QlC {x i} (h:Rel ok0 N w0 lk lo a w L) (hf:QvX P x i o.op=true)
  (he:QiG (x.av lk) (i.av lk)=.ok s f v up) (hs:s):f/\Qo P o ok0 N w0 lk lo a w v up:=by
 unfold QvX at hf;split at hf
 ·rename_i t x' i' ho
  simp only[Qzm] at hf;obtain ⟨⟨hx,hi⟩,ht⟩:=hf
  have ht':P.underlying t=some .string:=by
   unfold Q4 at ht;split at ht
   ·rename_i e;exact e
   ·cases ht
  have rx:=Opd.rep h hx;have ri:=Opd.rep h hi;generalize x.av lk=xv at rx he;generalize i.av lk=iv at ri he;unfold QiG at he;split at he
  ·rename_i st k j
   injection he with e1 e2 e3 e4
   subst e1 e2 e3 e4;obtain ⟨h0,hlt⟩:=hs;have hxs:=Z9 rx;have hei:=QS ri
   have hget:(⟨st.toArray⟩:ByteArray)[(j.toNat:Nat)]?=some (st.getD j.toNat 0):=by
    have hlt':j.toNat<(⟨st.toArray⟩:ByteArray).size:=hlt;rw[getElem?_pos (⟨st.toArray⟩:ByteArray) j.toNat hlt']
    congr 1
    show st.toArray[j.toNat]=_
    simp[List.getD,hlt]
   refine ⟨trivial,Qo.pure h (u:=.int .u8 (st.getD j.toNat 0).toNat) ?_ (QR _ _)⟩;simp only[execOp,ho,hxs,hei,Instr.index,asIntOf,Sem.run_bind,Sem.run_pure,Result.andThen_ok,run_underlying ht',if_pos h0,hget]
  ·cases he
 ·cases hf
theorem Qa1 {st x} (hf:Qm1 P st x o.op=true):∃ y t,o.op=.call { callee:=.builtin .len,args:=#[y],argTypes:=#[t] }/\x.is y=true /\
  (st=true->P.underlying t=some .string)/\(st=false->∃ e,P.underlying t=some (.slice e)):=by
 unfold Qm1 at hf;split at hf
 ·rename_i az ts ho
  split at hf
  ·rename_i y t has hts
   simp only[Qzm] at hf;obtain ⟨hx,ht⟩:=hf;have e1:az=#[y]:=by cases az;simp_all
   have e2:ts=#[t]:=by cases ts;simp_all
   refine ⟨y,t,by rw[ho,e1,e2],hx,fun e=>?_,fun e=>?_⟩
   ·subst e
    unfold Qh2 at ht
    grind
   ·subst e
    unfold Qh2 at ht
    grind
  ·cases hf
 ·cases hf
theorem Qlt {x} (h:Rel ok0 N w0 lk lo a w L) (hf:Qm1 P true x o.op=true)
  (he:QiE (x.av lk)=.ok s f v up):f/\Qo P o ok0 N w0 lk lo a w v up:=by
 obtain ⟨y,t,ho,hx,ht,_⟩:=Qa1 hf;have rx:=Opd.rep h hx;generalize x.av lk=xv at rx he;unfold QiE at he;split at he
 ·rename_i l
  injection he with e1 e2 e3 e4
  subst e1 e2 e3 e4;have hey:=Z9 rx;have hsz:(⟨l.toArray⟩:ByteArray).size=l.length:=rfl;refine ⟨trivial,Qo.pure h (u:=goInt l.length) ?_ (QR _ _)⟩;simp[execOp,ho,resolve,invoke,builtin,hey,Builtin.len_,run_underlying (ht rfl),hsz]
 ·cases he
theorem JN {y:Operand} {t e} (ho:o.op=.call { callee:=.builtin .len,args:=#[y],argTypes:=#[t] }) (hu:P.underlying t=some (.slice e)) {ad n c}
  (hy:a.eval y=.slice ad n c):(execOp a.eval o).run P w=.ok (.value (.int .i64 n)) w:=by
 simp[execOp,ho,resolve,invoke,builtin,hy,Builtin.len_,run_underlying hu,goInt]
theorem Qly {x} (h:Rel ok0 N w0 lk lo a w L) (hf:Qm1 P false x o.op=true)
  (he:QiF (x.av lk)=.ok s f v up):f/\Qo P o ok0 N w0 lk lo a w v up:=by
 obtain ⟨y,t,ho,hx,_,ht⟩:=Qa1 hf;obtain ⟨e,hu⟩:=ht rfl;have rx:=Opd.rep h hx;generalize x.av lk=xv at rx he;generalize hey:a.eval y=yv at rx;unfold QiF at he;split at he
 ·injection he with e1 e2 e3 e4
  subst e1 e2 e3 e4;cases rx with
  | iv _ _ r=>cases r with
    | nils=>exact ⟨by simp[maxLen],Qo.pure h (JN ho hu hey) (QR _ _)⟩
    | nilz=>exact ⟨by simp[maxLen],Qo.pure h (JN ho hu hey) (QR _ _)⟩
    | sl _ _ b off cap u hl hc hes hcell hxx=>exact ⟨by omega,Qo.pure h (JN ho hu hey) (QR _ _)⟩
 ·injection he with e1 e2 e3 e4
  subst e1 e2 e3 e4;cases rx with
  | iv _ _ r=>cases r with
    | bag _ es es' _ hp r =>
      rw[<- hp.length_eq];cases r with
      | nils=>exact ⟨by simp[maxLen],Qo.pure h (JN ho hu hey) (QR _ _)⟩
      | nilz=>exact ⟨by simp[maxLen],Qo.pure h (JN ho hu hey) (QR _ _)⟩
      | sl _ _ b off cap u hl hc hes hcell hxx=>exact ⟨by omega,Qo.pure h (JN ho hu hey) (QR _ _)⟩
 ·cases he
theorem Qi2 {id x} (h:Rel ok0 N w0 lk lo a w L) (hf:Qm1 P false x o.op=true)
  (he:Qaj lo id (x.av lk)=.ok s f v up) (hs:s):f/\Qo P o ok0 N w0 lk lo a w v up:=by
 obtain ⟨y,t,ho,hx,_,ht⟩:=Qa1 hf;obtain ⟨e,hu⟩:=ht rfl;have rx:=Opd.rep h hx;generalize x.av lk=xv at rx he;generalize hey:a.eval y=yv at rx;have run:∀ ad n c,yv=.slice ad n c->(execOp a.eval o).run P w=.ok (.value (.int .i64 n)) w:=fun ad n c hyv=>JN ho hu (hey.trans hyv)
 unfold Qaj at he;split at he
 ·rename_i i n
  split at he
  ·rename_i hii
   subst hii;split at he
   ·rename_i e' sz' es mv hob
    injection he with e1 e2 e3 e4
    subst e1 e2 e3 e4;obtain ⟨hmv,hn⟩:=hs;have hor:=h.objs _ _ hob;cases rx with
    | aref _ e2 sz2 es2 mv2 v2 xs hob2 hL hsl =>
      rw[hob] at hob2;injection hob2 with hob2
      injection hob2 with g1 g2 g3 g4
      subst g1 g2 g3 g4;rw[hL] at hor;obtain ⟨hown,_,_,_,_⟩:=hor;rcases hown.own.2 with ⟨hv,h00⟩ | ⟨g,cap,cur,hv,hB,hg,hnc,hcm,hcs,htake⟩
      ·refine ⟨by rw[h00];simp[maxLen],Qo.pure h (run none es.length 0 (hv.trans (by rw[h00]))) (QR _ _)⟩
      ·exact ⟨by omega,Qo.pure h (run _ _ _ hv) (QR _ _)⟩
    | old _ _ e2 sz2 es2 mv2 v2 _ xs hob2 hL hsl hn2 hv =>
      rw[hob] at hob2;injection hob2 with hob2
      injection hob2 with g1 g2 g3 g4
      subst g1 g2 g3 g4;rcases hv hmv with ⟨hv,h00⟩ | ⟨b,cap,hv',hnc,hcm,hcells⟩
      ·exact ⟨by rw[h00];simp[maxLen],Qo.pure h (run none n 0 (hv.trans (by rw[h00]))) (QR _ _)⟩
      ·exact ⟨by omega,Qo.pure h (run _ _ _ hv') (QR _ _)⟩
   ·cases he
  ·cases he
 ·cases he
theorem VD {n:Int} {m:Nat} {c:BoundsCode} {v:Value} {k:IntKind} (hv:v=.int k n) (h0:0<=n) (h1:n<=(m:Int)) :
  (Instr.sliceBound v m c).run P w=.ok n.toNat w:=by
 subst hv;simp[Instr.sliceBound,asIntOf,h0,h1]
end
section
variable {P:Program} {ok0:Nat->Prop} {N:Fm} {w0:ZR} {lk:Nat->AV} {lo:Nat->Option AO} {a:Act} {w:World} {L:Nat->Lay} {o:Oper}
variable {s f:Prop} {v:AV} {up:Option (Nat × AO)}
theorem Qcc {d x} {y:Option Operand} {n} (h:Rel ok0 N w0 lk lo a w L) (hxy:qF x y=true) (e:XL lk d x=some n) :
  (y=none/\n=d)\/∃ z k,y=some z/\a.eval z=.int k n:=by
 cases x with
 | none =>
   cases y with
   | none=>simp only[XL,Option.some.injEq] at e;exact .inl ⟨rfl,e.symm⟩
   | some z=>simp[qF] at hxy
 | some x =>
   cases y with
   | none=>simp[qF] at hxy
   | some z =>
     simp only[qF] at hxy;have r:=Opd.rep h hxy;simp only[XL] at e;generalize x.av lk=xv at r e;split at e
     ·rename_i k m
      injection e with e
      subst e;exact .inr ⟨z,k,rfl,QS r⟩
     ·cases e
theorem Qas {isS len cap lo' hi'} {low high:Option Operand} {l h'} (h:Rel ok0 N w0 lk lo a w L)
  (hl:qF lo' low=true) (hh:qF hi' high=true) (el:XL lk 0 lo'=some l) (eh:XL lk len hi'=some h')
  (h0:0<=l) (h1:l<=h') (h2:h'<=(len:Int)) (hlc:len<=cap) :
  (Instr.sliceBounds isS len cap (low.map a.eval) (high.map a.eval) none).run P w=.ok (l.toNat,h'.toNat,cap) w:=by
 have hc:h'<=(cap:Int):=by omega
 have hlh:l<=(h'.toNat:Int):=by omega
 rcases Qcc h hl el with ⟨rfl,rfl⟩ | ⟨z,k,rfl,hz⟩<;>rcases Qcc h hh eh with ⟨rfl,rfl⟩ | ⟨z',k',rfl,hz'⟩
 ·simp[Instr.sliceBounds]
 ·simp[Instr.sliceBounds,hz',VD (P:=P) (w:=w) (k:=k') rfl (by omega) hc]
 ·have hll:l<=((len:Nat):Int):=h1
  simp[Instr.sliceBounds,hz,VD (P:=P) (w:=w) (k:=k) rfl h0 hll]
 ·simp[Instr.sliceBounds,hz,hz',VD (P:=P) (w:=w) (k:=k') rfl (by omega) hc,VD (P:=P) (w:=w) (k:=k) rfl h0 hlh]
theorem Qli {x l h'} (h:Rel ok0 N w0 lk lo a w L) (hf:QvS P x l h' o.op=true)
  (he:Qgt lk l h' (x.av lk)=.ok s f v up) (hs:s):f/\Qo P o ok0 N w0 lk lo a w v up:=by
 unfold QvS at hf;split at hf
 ·rename_i t x' low high ho
  simp only[Qzm] at hf;obtain ⟨⟨⟨hx,hl⟩,hh⟩,ht⟩:=hf
  have ht':P.underlying t=some .string:=by
   unfold Q4 at ht;split at ht
   ·rename_i e;exact e
   ·cases ht
  have rx:=Opd.rep h hx;generalize x.av lk=xv at rx he;unfold Qgt at he;split at he
  ·rename_i st
   split at he
   ·rename_i ln hn el eh
    injection he with e1 e2 e3 e4
    subst e1 e2 e3 e4;obtain ⟨h0,h1,h2⟩:=hs;have hxs:=Z9 rx;have hb:=Qas (P:=P) (isS:=false) (cap:=st.length) h hl hh el eh h0 h1 h2 (Qzq _);have hsz:(⟨st.toArray⟩:ByteArray).size=st.length:=rfl
    have hex:(⟨st.toArray⟩:ByteArray).extract ln.toNat hn.toNat=⟨((st.take hn.toNat).drop ln.toNat).toArray⟩:=by
     apply ByteArray.ext;rw[ByteArray.data_extract];apply Array.ext';simp[List.drop_take]
    refine ⟨trivial,Qo.pure h (u:=.string ⟨((st.take hn.toNat).drop ln.toNat).toArray⟩) ?_ (Yh _)⟩;simp only[execOp,ho,Instr.sliceAt,Sem.run_bind,run_underlying ht',Result.andThen_ok,hxs,Instr.slice,hsz,Option.map_none,Option.isSome_none,QzM,if_false,Sem.run_pure,hb,hex]
   ·cases he
  ·cases he
 ·cases hf
theorem Qlj {sz x l h'} (h:Rel ok0 N w0 lk lo a w L) (hf:QvT P sz x l h' o.op=true)
  (he:Qgu sz lk l h' (x.av lk)=.ok s f v up) (hs:s):f/\Qo P o ok0 N w0 lk lo a w v up:=by
 unfold QvT at hf;split at hf
 ·rename_i t x' low high ho
  simp only[Qzm] at hf;obtain ⟨⟨⟨hx,hl⟩,hh⟩,ht⟩:=hf;obtain ⟨e,ti,hu,hti,hts⟩:=Zh ht;have rx:=Opd.rep h hx;generalize x.av lk=xv at rx he;generalize hey:a.eval x'=yv at rx;unfold Qgu at he;split at he
  ·rename_i sz' es
   split at he
   ·rename_i ln hn el eh
    injection he with e1 e2 e3 e4
    subst e1 e2 e3 e4;obtain ⟨rfl,h0,h1,h2⟩:=hs
    have run:∀ ad cap,es.length<=cap->yv=.slice ad es.length cap->(execOp a.eval o).run P w =
      .ok (.value (.slice (if cap=ln.toNat then ad else ad.map (·.add (ln.toNat*sz'))) (hn.toNat-ln.toNat) (cap-ln.toNat))) w:=by
     intro ad cap hc hyv;have hb:=Qas (P:=P) (isS:=true) (cap:=cap) h hl hh el eh h0 h1 h2 hc;simp only[execOp,ho,Instr.sliceAt,Sem.run_bind,run_underlying hu,Result.andThen_ok,hey,hyv,Instr.slice,Option.map_none,hb,sizeOf,typeInfo,program,Sem.run,hti,Sem.run_pure,hts]
    have hlen:((es.take hn.toNat).drop ln.toNat).length=hn.toNat-ln.toNat:=by simp;omega
    cases rx with
    | iv _ _ r=>cases r with
      | nils =>
        simp only[QzE] at h2;have e1:ln.toNat=0:=by omega
        have e2:hn.toNat=0:=by omega
        have:=run none 0 (by simp) rfl
        rw[e1,e2] at this;refine ⟨by simp[maxLen],Qo.pure h (u:=.slice none 0 0) (by simpa using this) ?_⟩
        rw[e1,e2];exact .iv _ _ (.nils sz')
      | nilz _ a0 =>
        simp only[QzE] at h2;have e1:ln.toNat=0:=by omega
        have e2:hn.toNat=0:=by omega
        have:=run (some a0) 0 (by simp) rfl
        rw[e1,e2] at this;refine ⟨by simp[maxLen],Qo.pure h (u:=.slice (some a0) 0 0) (by simpa using this) ?_⟩
        rw[e1,e2];exact .iv _ _ (.nilz sz' a0)
      | sl _ _ b off cap u hlc hcm hes hcell hxx =>
        refine ⟨by omega,?_⟩
        have hr:=run _ cap hlc rfl;by_cases hcl:cap=ln.toNat
        ·rw[if_pos hcl] at hr
         have he0:(es.take hn.toNat).drop ln.toNat=[]:=Qzy (by rw[hlen];omega)
         have hn0:hn.toNat-ln.toNat=0:=by omega
         rw[hn0] at hr;refine Qo.pure h hr ?_;rw[he0];exact .iv _ _ (.sl sz' [] b off _ u (by simp) (by omega) (by simp) (by simp) (by simp))
        ·rw[if_neg hcl] at hr
         rw[QAt,QM] at hr;rw[<- hlen] at hr;refine Qo.pure h hr (.iv _ _ (.sl sz' _ b (off+ln.toNat*sz') _ (fun k=>u (ln.toNat*sz'+k)) ?_ (by omega) (fun c hc=>hes c (Qz5 (QAc hc))) (fun k hk=>?_) (fun i j c z hi hj=>?_)))
         ·rw[hlen];omega
         ·rw[hlen] at hk
          have hb:ln.toNat*sz'+k<es.length*sz':=by
           have h3:(ln.toNat+(hn.toNat-ln.toNat))*sz'<=es.length*sz':=QzN sz' (by omega)
           rw[QzO] at h3;omega
          grind
         grind
   ·cases he
  ·cases he
 ·cases hf
end
section
variable {P:Program} {ok0:Nat->Prop} {N:Fm} {w0:ZR} {lk:Nat->AV} {lo:Nat->Option AO} {a:Act} {w:World} {L:Nat->Lay} {o:Oper}
variable {s f:Prop} {v:AV} {up:Option (Nat × AO)}
theorem Qcn {t} (h:JR P t=true):∃ e,P.underlying t=some (.slice e)/\P.underlying e=some (.int .u8):=by
 unfold JR at h;split at h
 ·rename_i e he
  refine ⟨e,he,?_⟩;have:V2 P e=some .u8:=by simpa using h
  unfold V2 at this
  grind
 ·cases h
theorem QeM {c n} (h:byteOf c=some n):c=[.int .u8 n]:=by
 unfold byteOf at h;split at h
 ·injection h with h;rw[h]
 ·cases h
theorem UE:∀ {es:List (List IV)} {ns:List Int},bytesOf es=some ns->es.length=ns.length/\∀ (k:Nat) (c:List IV),es[k]?=some c->∃ n:Int,c=[.int .u8 n]/\ns[k]?=some n
 | [],ns,h=>by simp[bytesOf] at h;subst h;simp
 | c::r,ns,h=>by
   unfold bytesOf at h;split at h
   ·rename_i n ns' h1 h2
    injection h with h
    subst h;obtain ⟨h3,h4⟩:=UE h2;refine ⟨by simp[h3],fun k d hd=>?_⟩
    cases k with
    | zero=>simp at hd;subst hd;exact ⟨n,QeM h1,by simp⟩
    | succ k=>simpa using h4 k d (by simpa using hd)
   ·cases h
theorem QlX {x:Opd} (h:Rel ok0 N w0 lk lo a w L) (hf:Qv5 P x o.op=true)
  (he:QiO (x.av lk)=.ok s f v up) (hs:s):f/\Qo P o ok0 N w0 lk lo a w v up:=by
 unfold Qv5 at hf;split at hf
 ·rename_i sT d y ho
  simp only[Qzm] at hf;obtain ⟨⟨hx,hsb⟩,hd⟩:=hf;obtain ⟨e,hse,hee⟩:=Qcn hsb
  have hd':P.underlying d=some .string:=by
   unfold Q4 at hd;split at hd
   ·rename_i hk;exact hk
   ·cases hd
  have rx:=Opd.rep h hx;generalize x.av lk=xv at rx he;generalize hey:a.eval y=yv at rx;unfold QiO at he;split at he
  ·rename_i sz es
   split at he
   ·rename_i ns hns
    injection he with e1 e2 e3 e4
    subst e1 e2 e3 e4;obtain ⟨hlen,hel⟩:=UE hns;cases rx with
    | iv _ _ r=>cases r with
      | nils =>
        have:ns=[]:=Qzy (by simpa using hlen.symm)
        subst this;refine ⟨trivial,Qo.pure h (u:=.string ⟨[].toArray⟩) ?_ (Yh _)⟩;have hc:=run_convert_bytes_string (P:=P) w sT d e none 0 0 hse hee hd';simp only[execOp,ho,hey,Sem.run_bind,hc];simp[Conv.bytesToString];rfl
      | nilz _ a0 =>
        have:ns=[]:=Qzy (by simpa using hlen.symm)
        subst this;refine ⟨trivial,Qo.pure h (u:=.string ⟨[].toArray⟩) ?_ (Yh _)⟩;have hc:=run_convert_bytes_back (P:=P) w sT d e a0 0 [] hse hee hd' (fun j hj=>by simp at hj)
        simp only[QzE] at hc;simp only[execOp,ho,hey,Sem.run_bind,hc];rfl
      | sl _ _ b off cap u hl hc hes hcell hxx =>
        refine ⟨trivial,Qo.pure h (u:=.string ⟨(Yc ns).toArray⟩) ?_ (Yh _)⟩
        have hszz:∀ i,i<es.length->sz=1:=by
         intro i hi;obtain ⟨n,hn,_⟩:=hel i es[i] (Qzk hi);have:=hes es[i] (Qzr hi);rw[hn] at this;exact this.symm
        have hbl:(Yc ns).length=es.length:=by simp[Yc,hlen]
        have hback:=run_convert_bytes_back (P:=P) w sT d e ⟨b,off,none⟩ cap (Yc ns) hse hee hd' (fun j hj=>by
         rw[hbl] at hj;obtain ⟨n,hn,hb⟩:=hel j es[j] (Qzk hj);have hsz1:=hszz j hj;have hr:=hxx j 0 es[j] (.int .u8 n) (Qzk hj) (by rw[hn];rfl)
         rw[hsz1,QAp,QAe] at hr;have huj:u j=.int .u8 n:=QS (lo:=lo) (L:=L) (.iv _ _ hr);have hcj:=(hcell j (by rw[hsz1];omega)).2.1
         rw[QM,hcj,huj]
         have hnj:ns[j]'(by omega)=n:=by
          have:=Qzl.1 hb;exact this.2
         have hin:=hs n (QzB hb);have:(Yc ns)[j]=UInt8.ofNat n.toNat:=by simp[Yc,hnj]
         rw[this]
         congr 2
         have:n.toNat<256:=by omega
         simp[Nat.mod_eq_of_lt this];omega)
        rw[hbl] at hback;simp only[execOp,ho,hey,Sem.run_bind,hback];rfl
   ·cases he
  ·cases he
 ·cases hf
theorem QlJ {x} (h:Rel ok0 N w0 lk lo a w L) (hf:Qrd P x o.op=true)
  (he:QiI (x.av lk)=.ok s f v up) (hs:s):f/\Qo P o ok0 N w0 lk lo a w v up:=by
 unfold Qrd at hf;split at hf
 ·rename_i sT d y ho
  simp only[Qzm] at hf;obtain ⟨⟨hx,hsm⟩,hd⟩:=hf
  have hd':P.underlying d=some .string:=by
   unfold Q4 at hd;split at hd
   ·rename_i hk;exact hk
   ·cases hd
  have rx:=Opd.rep h hx;generalize x.av lk=xv at rx he;unfold QiI at he;split at he
  ·rename_i k n
   injection he with e1 e2 e3 e4
   subst e1 e2 e3 e4;have hx:=QS rx;refine ⟨trivial,Qo.pure h (u:=.string ⟨[UInt8.ofNat n.toNat].toArray⟩) ?_ (Yh _)⟩;obtain ⟨ds,hds⟩:=Qz3.1 hsm;have hval:Utf8.valid n=true:=by simp[Utf8.valid];omega
   have hlt:n.toNat<0x80:=by omega
   have henc:Utf8.encode n=⟨#[UInt8.ofNat n.toNat]⟩:=by simp[Utf8.encode,hval,hlt]
   simp[execOp,ho,hx,convert,run_underlying hds,run_underlying hd',Conv.intToString,henc]
  ·cases he
 ·cases hf
theorem Qq (w ob):Below w.heap.size w (w.alloc ob):=(Below.refl _ _).alloc (Qzq _) ob
theorem Ym (w:World) (vs:List Value) (t:TypeId) (k:Nat) (u:Value) (h:vs[k]?=some u):(w.alloc (.cells vs.toArray t)).cell? ⟨w.heap.size,k,none⟩=some u:=by
 rw[cell_of_row _ _ _ _ t (0,0) (heap_alloc_new w _)];simpa using h
theorem JQ {ok:Nat->Prop} {lo:Nat->Option AO} {L:Nat->Lay} {cs:List AV} {xs:List IV} {vs:List Value} (hc:ivs cs=some xs) (hl:vs.length=cs.length)
  (hx:∀ (k:Nat) (x:AV) (u:Value),cs[k]?=some x->vs[k]?=some u->Qs ok w lo L x u) :
  vs.length=xs.length/\∀ (k:Nat) (x:IV) (u:Value),xs[k]?=some x->vs[k]?=some u->Qv ok w x u:=by
 have:=Vl hc;subst this;refine ⟨by simpa using hl,fun k x u h1 h2=>?_⟩
 have:=hx k (.iv x) u (by simp[h1]) h2
 cases this;assumption
theorem Qi6 {x:Opd} (h:Rel ok0 N w0 lk lo a w L) (hok0:∀ b,¬ w0.fr b->ok0 b) (hf:Qre x o.op=true)
  (he:QcE (x.av lk)=.ok s f v up):f/\Qo P o ok0 N w0 lk lo a w v up:=by
 unfold Qre at hf;split at hf
 ·rename_i t y ho
  have rx:=Opd.rep h hf;generalize x.av lk=xv at rx he;generalize hey:a.eval y=yv at rx;unfold QcE at he;split at he
  ·rename_i cs hcs
   split at he
   ·rename_i xs hxs
    injection he with e1 e2 e3 e4
    subst e1 e2 e3 e4;obtain ⟨vs,hv,hl,h1,hx⟩:=WF rx hcs;obtain ⟨hl2,hx2⟩:=JQ hxs hl hx;have hrel:=h.ext (Qq w (.cells vs.toArray t));refine ⟨trivial,_,.pointer (some ⟨w.heap.size,0,none⟩),_,L,?_,.inl rfl,hrel,?_⟩
    ·simp only[execOp,ho,hey,Instr.box,newVar,newRow,newObj,Sem.run_bind,hv,Sem.run,Result.andThen_ok,Sem.run_pure]
     rfl
    ·have hnew:okL ok0 lo L w.heap.size:=⟨hok0 _ (h.frlt (Qzq _)),fun id ob hob hb=>by
      have:=((h.objs id ob hob).lt hb).2;omega⟩
     refine .iv _ _ (.ptr xs w.heap.size 0 (fun k=>vs.getD k undef) (fun k hk=>?_) (fun k z hz=>?_))
     ·have hk':k<vs.length:=by omega
      refine ⟨hnew,?_,h1 _ ?_⟩
      ·rw[Qzx]
       exact Ym w vs t k _ (getD_some hk')
      ·exact QzB (getD_some (d:=undef) hk')
     ·have hk:k<vs.length:=by rw[hl2];exact (Qzl.1 hz).1
      refine (hx2 k z _ hz (getD_some hk)).mono fun b hb hlt=>⟨hb,(Qq w _).block b hlt⟩
   ·cases he
  ·cases he
 ·cases hf
theorem Rel.newBox {id:Nat} {cs:List AV} {vs:List Value} {t:TypeId} (h:Rel ok0 N w0 lk lo a w L) (hid:lo id=none) (hl:vs.length=cs.length) (h1:∀ u∈vs,u.oneCell'=true)
  (hx:∀ (k:Nat) (x:AV) (u:Value),cs[k]?=some x->vs[k]?=some u->Qs (okL ok0 lo L) w lo L x u) :
  Rel ok0 N w0 lk (QK lo id (.box cs)) a (w.alloc (.cells vs.toArray t)) (QF L id (.box w.heap.size)):=by
 have hb:=Qq w (.cells vs.toArray t)
 have hok:∀ b,okL ok0 lo L b->b<w.heap.size->okL ok0 (QK lo id (.box cs)) (QF L id (.box w.heap.size)) b:=by
  grind
 refine h.new id hid _ _ hb (fun b hb=>by simp only[Lay.has] at hb;omega) ?_
 refine ⟨h.frlt (Qzq _),t,vs,heap_alloc_new w _,hl,h1,fun k x u h2 h3=>(hx k x u h2 h3).ext hok hb.block fun i o' hi=>?_⟩
 grind
theorem Qi5 {id:Nat} {x:Opd} (h:Rel ok0 N w0 lk lo a w L) (hf:Qre x o.op=true)
  (he:Qak lo id (x.av lk)=.ok s f v up):f/\Qo P o ok0 N w0 lk lo a w v up:=by
 unfold Qre at hf;split at hf
 ·rename_i t y ho
  have rx:=Opd.rep h hf;generalize x.av lk=xv at rx he;generalize hey:a.eval y=yv at rx;unfold Qak at he;split at he
  ·rename_i cs hcs hid
   injection he with e1 e2 e3 e4
   subst e1 e2 e3 e4;obtain ⟨vs,hv,hl,h1,hx⟩:=WF rx hcs;refine ⟨trivial,_,.pointer (some ⟨w.heap.size,0,none⟩),_,_,?_,.inl rfl,h.newBox (t:=t) hid hl h1 hx,?_⟩
   ·simp only[execOp,ho,hey,Instr.box,newVar,newRow,newObj,Sem.run_bind,hv,Sem.run,Result.andThen_ok,Sem.run_pure]
    rfl
   ·exact .loc id 0 cs w.heap.size (by simp[upO,QK]) (by simp[QF])
  ·cases he
 ·cases hf
theorem Zr {ok lk}:∀ {zs vs},YG zs vs=true->vs.length=(zs.map (·.av lk)).length /\
  ∀ (k:Nat) (x:AV) (u:Value),(zs.map (·.av lk))[k]?=some x->vs[k]?=some u->Qs ok w lo L x u/\u.oneCell'=true
 | [],[],_=>by simp
 | x::r,v::s,h=>by
   simp only[YG,Qzm] at h;obtain ⟨h1,h2⟩:=Zr (ok:=ok) (lk:=lk) h.2;refine ⟨by simpa using h1,fun k y u hy hu=>?_⟩
   cases k with
   | zero =>
     simp at hy hu;subst hy hu;refine ⟨Opd.repVal h.1,?_⟩;have:=h.1;unfold Opd.isVal at this;cases v<;>first | rfl | (cases x<;>simp[isI,isB,isS,isN,isP,isM,QvA] at this)
   | succ k=>exact h2 k y u (by simpa using hy) (by simpa using hu)
 | [],_::_,h=>by simp[YG] at h
 | _::_,[],h=>by simp[YG] at h
theorem XF {t zs} (h:Program.zeroIs P t zs=true):∃ i z,P.info? t=some i/\i.zero=some z/\YG zs z.cells.toList=true/\i.size=zs.length:=by
 unfold Program.zeroIs at h
 grind
theorem QlZ {id:Nat} {zs:List Opd} (h:Rel ok0 N w0 lk lo a w L) (hid:lo id=none) (hf:Qv6 P zs o.op=true) :
  Qo P o ok0 N w0 lk lo a w (.loc id 0) (some (id,.box (zs.map (·.av lk)))):=by
 unfold Qv6 at hf;split at hf
 ·rename_i t ho
  obtain ⟨i,z,hi,hz,hzs,_⟩:=XF hf;obtain ⟨hl,hx⟩:=Zr (w:=w) (lo:=lo) (L:=L) (ok:=okL ok0 lo L) (lk:=lk) hzs
  have h1:∀ u∈z.cells.toList,u.oneCell'=true:=by
   intro u hu;obtain ⟨k,hk,rfl⟩:=QzV hu;have hk2:k<(zs.map (·.av lk)).length:=by omega
   exact (hx k _ _ (Qzk hk2) (Qzk hk)).2
  refine ⟨_,.pointer (some ⟨w.heap.size,0,none⟩),_,_,?_,.inl rfl,h.newBox (t:=t) hid hl h1 (fun k x u h2 h3=>(hx k x u h2 h3).1),?_⟩
  ·simp only[execOp,ho,Instr.alloc,zeroValue,typeInfo,program,Sem.run_bind,Sem.run,hi,hz,Result.andThen_ok,Sem.run_pure,newVar,newRow,newObj,Array.toArray_toList]
   rfl
  ·exact .loc id 0 (zs.map (·.av lk)) w.heap.size (by simp[upO,QK]) (by simp[QF])
 ·cases hf
theorem QiX {id e sz} (h:Rel ok0 N w0 lk lo a w L) (hid:lo id=none) (hf:QvV o.op=true) :
  Qo P o ok0 N w0 lk lo a w (.aref id 0) (some (id,.arr e sz [] 0)):=by
 have fin:∀ y,Opd.is (.nil 0) y=true->(execOp a.eval o).run P w=.ok (.value (a.eval y)) w->Qo P o ok0 N w0 lk lo a w (.aref id 0) (some (id,.arr e sz [] 0)):=by
  intro y hy hr
  have hv:a.eval y=.slice none 0 0:=by
   cases y with
   | tmp m=>simp[Opd.is,Opd.isTmp] at hy
   | const c =>
     simp only[Opd.is,Opd.isVal] at hy;unfold isN at hy;split at hy
     ·simp only[Qzm,beq_iff_eq] at hy
      rw[hy.1,hy.2];rfl
     ·cases hy
   | global g=>simp[Opd.is] at hy
   | func g=>simp[Opd.is,Opd.isFn] at hy
  refine ⟨_,.slice none 0 0,w,QF L id (.arr (.slice none 0 0) []),(hv▸hr),.inl rfl,?_,?_⟩
  ·exact h.new id hid _ _ (Below.refl _ _) (by simp[Lay.has,Value.ownBlock]) ⟨⟨World.ownsRow_nil w _ e sz,by simp[Value.ownBlock]⟩,QAu _,by simp,by simp,by simp⟩
  ·exact .aref id e sz [] 0 _ [] (by simp[upO,QK]) (by simp[QF]) rfl
 unfold QvV at hf;split at hf
 ·rename_i y ho
  exact fin y hf (by simp[execOp,ho])
 ·rename_i y ho
  exact fin y hf (by simp[execOp,ho])
 ·cases hf
end
theorem Ys {α} (l vs:List α) (o k) (h:o+vs.length<=l.length) :
  (l.take o++vs++l.drop (o+vs.length))[k]?=if k<o then l[k]? else if k<o+vs.length then vs[k-o]? else l[k]?:=by
 grind
theorem XA {α} (l vs:List α) (o) (h:o+vs.length<=l.length):(l.take o++vs++l.drop (o+vs.length)).length=l.length:=by
 simp;omega
theorem qa (off:Nat):∀ (vs:List Value) (i:Nat) (cur:Array Value),off+i+vs.length<=cur.size ->
  ((vs.zipIdx i).foldl (fun cs p=>cs.setIfInBounds (off+p.2) p.1) cur)=(cur.toList.take (off+i)++vs++cur.toList.drop (off+i+vs.length)).toArray
 | [],i,cur,_=>by simp
 | v::r,i,cur,h=>by
   simp only[List.zipIdx_cons,QAw];rw[qa off r (i+1) (cur.setIfInBounds (off+i) v) (by simp at h |-;omega)]
   congr 1
   have e:=list_seg_step cur.toList (off+i) v r (by simp at h |-;omega)
   simpa[Array.toList_setIfInBounds,Qz6] using e
section
variable {P:Program} {ok0:Nat->Prop} {N:Fm} {w0:ZR} {lk:Nat->AV} {lo:Nat->Option AO} {a:Act} {w:World} {L:Nat->Lay} {o:Oper}
variable {s f:Prop} {v:AV} {up:Option (Nat × AO)}
def Qm9 (ok:Nat->Prop) (w:World) (lo:Nat->Option AO) (L:Nat->Lay) (cs:List AV) (vs:List Value):Prop :=
 vs.length=cs.length/\(∀ u∈vs,u.oneCell'=true)/\∀ (k:Nat) (x:AV) (u:Value),cs[k]?=some x->vs[k]?=some u->Qs ok w lo L x u
theorem Qm9.splice {ok cs ds vs us} (h:Qm9 ok w lo L cs vs) (h':Qm9 ok w lo L ds us) {o} (ho:o+ds.length<=cs.length) :
  Qm9 ok w lo L (cs.take o++ds++cs.drop (o+ds.length)) (vs.take o++us++vs.drop (o+us.length)):=by
 obtain ⟨h1,h2,h3⟩:=h;obtain ⟨h4,h5,h6⟩:=h';refine ⟨?_,?_,fun k x u hx hu=>?_⟩
 all_goals grind
theorem Jt {ok x v cs} (h:Qs ok w lo L x v) (hc:x.cells=some cs):∃ vs,v.cells=vs.toArray/\Qm9 ok w lo L cs vs:=by
 obtain ⟨vs,h1,h2,h3,h4⟩:=WF h hc;exact ⟨vs,h1,h2,h3,h4⟩
theorem qd (h:Rel ok0 N w0 lk lo a w L) (place:Nat->Option (Nat × Nat)):∀ (parts:List (Nat × Nat × Opd)) (ps:List (Nat × Operand)) (cs cs':List AV) (cur:List Value),
  YM place parts ps=true->QdX cs (parts.map fun (o,s,x)=>(o,s,x.av lk))=some cs'->Qm9 (okL ok0 lo L) w lo L cs cur ->
  ∃ cur',Instr.fill place cur.toArray (ps.map fun (i,x)=>(i,a.eval x))=some (List.toArray cur')/\Qm9 (okL ok0 lo L) w lo L cs' cur'
 | [],[],cs,cs',cur,_,hf,hr=>by
   simp[QdX] at hf;subst hf;exact ⟨cur,by simp[Instr.fill],hr⟩
 | (off,sz,x)::r,(i,y)::t,cs,cs',cur,hp,hf,hr=>by
   simp only[YM,Qzm] at hp;obtain ⟨⟨hpl,hx⟩,hp⟩:=hp;split at hpl
   ·rename_i o z hpi
    simp only[Qzm,beq_iff_eq] at hpl;obtain ⟨rfl,rfl⟩:=hpl;simp only[QzH,QdX] at hf;split at hf
    ·rename_i vs hvs
     split at hf
     ·rename_i hc
      obtain ⟨rfl,hfit⟩:=hc;obtain ⟨us,hus,hru⟩:=Jt (Opd.rep h hx) hvs;obtain ⟨cur',h1,h2⟩:=qd h place r t _ cs' _ hp hf (hr.splice hru hfit);refine ⟨cur',?_,h2⟩;have hsz:us.length=vs.length:=hru.1;have hcl:cur.length=cs.length:=hr.1;simp only[QzH,Instr.fill,hpi,hus,QAk,hsz,ne_eq,not_true_eq_false,decide_false,Bool.false_or,gt_iff_lt,decide_eq_true_eq];rw[if_neg (by omega),<- h1]
      congr 1
      have:=qa o us 0 cur.toArray (by simp;omega)
      simp only[QAe] at this;rw[<- this];simp
     ·cases hf
    ·cases hf
   ·cases hpl
 | [],_::_,_,_,_,hp,_,_=>by simp[YM] at hp
 | _::_,[],_,_,_,hp,_,_=>by simp[YM] at hp
theorem QlT {zs parts cs} (h:Rel ok0 N w0 lk lo a w L) (hf:Qv2 P zs parts o.op=true)
  (he:QdX (zs.map (·.av lk)) (parts.map fun (o,s,x)=>(o,s,x.av lk))=some cs):Qo P o ok0 N w0 lk lo a w (UJ cs) none:=by
 unfold Qv2 at hf;split at hf
 ·rename_i t ps ho
  simp only[Qzm] at hf;obtain ⟨hz,hb⟩:=hf;obtain ⟨i,z,hi,hzz,hzs,_⟩:=XF hz;obtain ⟨hl,hx⟩:=Zr (w:=w) (lo:=lo) (L:=L) (ok:=okL ok0 lo L) (lk:=lk) hzs
  have h1:∀ u∈z.cells.toList,u.oneCell'=true:=by
   intro u hu;obtain ⟨k,hk,rfl⟩:=QzV hu;have hk2:k<(zs.map (·.av lk)).length:=by omega
   exact (hx k _ _ (Qzk hk2) (Qzk hk)).2
  unfold QjT Qe6 at hb;split at hb
  ·rename_i places hpl
   split at hpl
   ·rename_i fields hu
    obtain ⟨cur',h2,h3⟩:=qd h _ parts ps.toList _ cs z.cells.toList hb he ⟨hl,h1,fun k x u a b=>(hx k x u a b).1⟩
    have hbuilt:P.built t (ps.toList.map fun (i,x)=>(i,a.eval x))=some cur'.toArray:=by
     unfold Program.built;simp only[hi,hu,hzz,hpl];simpa using h2
    have hrun:=run_build (P:=P) w t (ps.map fun (i,x)=>(i,a.eval x)) cur'.toArray (by simpa using hbuilt)
    exact Qo.pure h (u:=.agg cur'.toArray) (by simp only[execOp,ho,Sem.run_bind,hrun,Result.andThen_ok,Sem.run_pure]) (Jc h3.1 h3.2.1 h3.2.2)
   ·cases hpl
  ·split at hb
   ·rename_i n e hu
    split at hb
    ·rename_i ie hie
     obtain ⟨cur',h2,h3⟩:=qd h _ parts ps.toList _ cs z.cells.toList hb he ⟨hl,h1,fun k x u a b=>(hx k x u a b).1⟩
     have hbuilt:P.built t (ps.toList.map fun (i,x)=>(i,a.eval x))=some cur'.toArray:=by
      unfold Program.built;simp only[hi,hu,hzz,hie];simpa using h2
     have hrun:=run_build (P:=P) w t (ps.map fun (i,x)=>(i,a.eval x)) cur'.toArray (by simpa using hbuilt)
     exact Qo.pure h (u:=.agg cur'.toArray) (by simp only[execOp,ho,Sem.run_bind,hrun,Result.andThen_ok,Sem.run_pure]) (Jc h3.1 h3.2.1 h3.2.2)
    ·cases hb
   ·cases hb
 ·cases hf
theorem UZ (h:Rel ok0 N w0 lk lo a w L) (sz:Nat):∀ (parts:List Opd) (ps:List (Nat × Operand)) (k:Nat) (rows:List (List AV)) (done rest:List Value),
  Vc k parts ps=true->Wv sz (parts.map (·.av lk))=some rows->done.length=k*sz->rest.length=parts.length*sz ->
  ∃ news,Instr.fill (fun i=>some (i*sz,sz)) (done++rest).toArray (ps.map fun (i,x)=>(i,a.eval x))=some (List.toArray (done++news))/\news=(ps.map fun p=>(a.eval p.2).cells.toList).flatten/\news.length=parts.length*sz /\
   (∀ u∈news,u.oneCell'=true)/\rows.length=parts.length/\(∀ c∈rows,c.length=sz) /\
   ∀ (i j:Nat) (c:List AV) (x:AV) (u:Value),rows[i]?=some c->c[j]?=some x->news[i*sz+j]?=some u->Qs (okL ok0 lo L) w lo L x u
 | [],[],k,rows,done,rest,_,hr,_,hl=>by
   simp[Wv] at hr;subst hr;have:rest=[]:=Qzy (by simpa using hl)
   subst this;exact ⟨[],by simp[Instr.fill],by simp,by simp,by simp,rfl,by simp,by simp⟩
 | x::r,(i,y)::t,k,rows,done,rest,hs,hr,hd,hl=>by
   simp only[Vc,Qzm,beq_iff_eq] at hs;obtain ⟨⟨rfl,hx⟩,hs⟩:=hs;simp only[QzH,Wv] at hr;split at hr
   ·rename_i c cs hc hcs
    split at hr
    ·rename_i hcl
     injection hr with hr
     subst hr;obtain ⟨us,hus,hru⟩:=Jt (Opd.rep h hx) hc;have hul:us.length=sz:=hru.1.trans hcl;have hrl:rest.length=sz+r.length*sz:=by rw[hl,Qzv,QzO];omega
     have hdu:(done++us).length=(i+1)*sz:=by simp[hd,hul,QzO]
     obtain ⟨news,h1,hn,h2,h3,h4,h5,h6⟩:=UZ h sz r t (i+1) cs (done++us) (rest.drop sz) hs hcs hdu (by simp[hrl])
     refine ⟨us++news,?_,by simp[hus,hn],by rw[Qzp,h2,hul,Qzv,QzO];omega,?_,by simp[h4],?_,?_⟩
     ·simp only[QzH,Instr.fill,hus,QAk,hul,ne_eq,not_true_eq_false,decide_false,Bool.false_or,gt_iff_lt,decide_eq_true_eq]
      rw[if_neg (by simp[hd,hrl];try omega)]
      rw[<- QzC,<- h1]
      congr 1
      have:=qa (i*sz) us 0 (done++rest).toArray (by simp[hd,hrl,hul])
      simp only[QAe] at this;have e1:(done++rest).toArray.toList.take (i*sz)=done:=by simp[<- hd]
      have e2:(done++rest).toArray.toList.drop (i*sz+us.length)=rest.drop sz:=by
       rw[hul,<- hd,List.drop_append];simp
      rw[e1,e2] at this;rw[<- this];simp
     ·intro u hu
      rcases QzD.1 hu with hu | hu
      ·exact hru.2.1 u hu
      ·exact h3 u hu
     ·grind
     ·intro i' j c' z u hi hj hu
      cases i' with
      | zero =>
        simp only[List.getElem?_cons_zero,Option.some.injEq] at hi;subst hi;have hjl:j<us.length:=by rw[hul,<- hcl];exact (Qzl.1 hj).1
        rw[Nat.zero_mul,Qzx,QzA hjl] at hu;exact hru.2.2 j z u hj hu
      | succ i' =>
        simp only[List.getElem?_cons_succ] at hi;rw[Qzz (by rw[hul,QzO];omega)] at hu
        refine h6 i' j c' z u hi hj ?_
        grind
    ·cases hr
   ·cases hr
 | [],_::_,_,_,_,_,hs,_,_,_=>by simp[Vc] at hs
 | _::_,[],_,_,_,_,hs,_,_,_=>by simp[Vc] at hs
theorem qB {t e:TypeId} {i:TypeInfo} {sz:Nat} (hu:P.underlying t=some (.slice e)) (hi:P.info? e=some i) (hs:i.size=sz) (hz:i.zero.isSome=true)
  (n:Nat) (hn:n*sz<=65536) (parts:Array (Nat × Value)) (cells:Array Value)
  (hfill:∀ zs:List Value,zs.length=n*sz->Instr.fill (fun i=>some (i*sz,sz)) zs.toArray parts.toList=some cells) :
  (Instr.buildSlice t n parts).run P w=.ok (.slice (some ⟨w.heap.size,0,none⟩) n n) (w.alloc (.cells cells e)):=by
 obtain ⟨z,hz⟩:=Qz3.1 hz;have hbig:¬ (n*sz>2 ^ 24):=by omega
 have key:∀ zero:Array Value,Instr.fill (fun i=>some (i*sz,sz)) ((Array.range (n*sz)).map (zero[· % zero.size]!)) parts.toList=some cells:=by
  intro zero;have:=hfill ((Array.range (n*sz)).map (zero[· % zero.size]!)).toList (by simp)
  rwa [Array.toArray_toList] at this
 simp only[Instr.buildSlice,Sem.run_bind,run_underlying hu,Result.andThen_ok,sizeOf,typeInfo,program,Sem.run,hi,Sem.run_pure,hs,if_neg hbig,zeroValue];by_cases h0:n*sz=0
 ·simp only[if_pos h0,Sem.run_bind,Sem.run_pure,Result.andThen_ok,key,newRow,newObj,Sem.run]
  rfl
 ·simp only[if_neg h0,Sem.run_bind,Sem.run_pure,Result.andThen_ok,key,newRow,newObj,Sem.run,hi,hz]
  rfl
end
section
variable {P:Program} {ok0:Nat->Prop} {N:Fm} {w0:ZR} {lk:Nat->AV} {lo:Nat->Option AO} {a:Act} {w:World} {L:Nat->Lay} {o:Oper}
variable {s f:Prop} {v:AV} {up:Option (Nat × AO)}
theorem YB:∀ {rows es},Qad rows=some es->rows=es.map (·.map .iv)
 | [],es,h=>by simp[Qad] at h;subst h;rfl
 | x::r,es,h=>by
   simp only[Qad] at h;split at h
   ·rename_i y ys h1 h2
    injection h with h
    subst h;simp[Vl h1,YB h2]
   ·cases h
theorem YV {t e} (h:U6 P t=true) (hu:P.underlying t=some (.slice e)) {i:TypeInfo} (hi:P.info? e=some i):i.zero.isSome=true:=by
 unfold U6 at h;rw[hu] at h;simp only[Qh1,hi] at h;exact h
theorem QeN {sz:Nat} {parts:List Opd} {t e:TypeId} {i:TypeInfo} {n:Nat} {ps:Array (Nat × Operand)} {rows:List (List AV)} (h:Rel ok0 N w0 lk lo a w L)
  (ho:o.op=.buildSlice t n ps) (hn:n=parts.length) (hsq:Vc 0 parts ps.toList=true) (hu:P.underlying t=some (.slice e)) (hi:P.info? e=some i) (hs:i.size=sz)
  (hz:i.zero.isSome=true) (hb:parts.length*sz<=65536) (hr:Wv sz (parts.map (·.av lk))=some rows) :
  ∃ news:List Value,(execOp a.eval o).run P w=.ok (.value (.slice (some ⟨w.heap.size,0,none⟩) parts.length parts.length)) (w.alloc (.cells news.toArray e))/\news.length=parts.length*sz /\
   (∀ u∈news,u.oneCell'=true)/\rows.length=parts.length/\(∀ c∈rows,c.length=sz) /\
   ∀ (i j:Nat) (c:List AV) (x:AV) (u:Value),rows[i]?=some c->c[j]?=some x->news[i*sz+j]?=some u->Qs (okL ok0 lo L) w lo L x u:=by
 subst hn;obtain ⟨news,_,h1,h2,h3,h4,h5,h6⟩:=UZ h sz parts ps.toList 0 rows [] (List.replicate (parts.length*sz) undef) hsq hr (by simp) (by simp)
 refine ⟨news,?_,h2,h3,h4,h5,h6⟩
 have:=qB (w:=w) hu hi hs hz parts.length hb (ps.map fun (i,x)=>(i,a.eval x)) news.toArray (fun zs hzs=>by
  obtain ⟨news',h1',h2',_⟩:=UZ h sz parts ps.toList 0 rows [] zs hsq hr (by simp) hzs
  rw[QAa] at h1';have e:news'=news:=h2'.trans h1.symm;rw[QAa,e] at h1';simpa using h1')
 simp only[execOp,ho,Sem.run_bind,this,Result.andThen_ok,Sem.run_pure]
theorem QlS {sz parts rows es} (h:Rel ok0 N w0 lk lo a w L) (hok0:∀ b,¬ w0.fr b->ok0 b) (hf:Qta P sz parts o.op=true)
  (hr:Wv sz (parts.map (·.av lk))=some rows) (hes:Qad rows=some es):Qo P o ok0 N w0 lk lo a w (.iv (.sl sz es)) none:=by
 unfold Qta at hf;split at hf
 ·rename_i t n ps ho
  simp only[Qzm,beq_iff_eq,decide_eq_true_eq] at hf;obtain ⟨⟨⟨⟨⟨hn,hsq⟩,hsz⟩,hez⟩,hb⟩,hpl⟩:=hf;obtain ⟨e,i,hu,hi,hs⟩:=Zh hsz;obtain ⟨news,hrun,hnl,h1,hrl,hrs,hx⟩:=QeN h ho hn hsq hu hi hs (YV hez hu hi) hb hr;have hrel:=h.ext (Qq w (.cells news.toArray e));have hrows:=YB hes;have hel:es.length=parts.length:=by rw[<- hrl,hrows];simp
  refine ⟨_,_,_,L,hrun,.inl rfl,hrel,?_⟩
  have hnew:okL ok0 lo L w.heap.size:=⟨hok0 _ (h.frlt (Qzq _)),fun id ob hob hb=>by
   have:=((h.objs id ob hob).lt hb).2;omega⟩
  rw[<- hel];refine .iv _ _ (.sl sz es w.heap.size 0 es.length (fun k=>news.getD k undef) (Qzq _) (by simp only[maxLen];omega) (fun c hc=>?_) (fun k hk=>?_) (fun i j c z hi hj=>?_))
  ·have:=hrs (c.map .iv) (by rw[hrows];exact List.mem_map_of_mem hc)
   simpa using this
  ·have hk':k<news.length:=by rw[hnl,<- hel];exact hk
   refine ⟨hnew,?_,h1 _ (QzB (getD_some (d:=undef) hk'))⟩;rw[Qzx];exact Ym w news e k _ (getD_some hk')
  ·have hil:i<es.length:=(Qzl.1 hi).1
   have hcl:c.length=sz:=by
    have:=hrs (c.map .iv) (by rw[hrows];exact List.mem_map_of_mem (QzB hi))
    simpa using this
   have hjl:j<sz:=by rw[<- hcl];exact (Qzl.1 hj).1
   have hk':i*sz+j<news.length:=by rw[hnl,<- hel];exact W6 hil hjl
   have:=hx i j (c.map .iv) (.iv z) _ (by rw[hrows];simp[hi]) (by simp[hj]) (getD_some (d:=undef) hk')
   cases this with
   | iv _ _ r=>exact r.mono fun b hb hlt=>⟨hb,(Qq w _).block b hlt⟩
 ·cases hf
theorem Um {t e sz} (h:Program.sliceOf P t e sz=true):∃ i,P.underlying t=some (.slice e)/\P.info? e=some i/\i.size=sz:=by
 unfold Program.sliceOf Program.sizeIs at h
 grind
theorem QlR {id:Nat} {e:TypeId} {sz:Nat} {parts:List Opd} {rows:List (List AV)} (h:Rel ok0 N w0 lk lo a w L) (hid:lo id=none) (hf:Qv1 P e sz parts o.op=true)
  (hr:Wv sz (parts.map (·.av lk))=some rows):Qo P o ok0 N w0 lk lo a w (.aref id parts.length) (some (id,.arr e sz rows 0)):=by
 unfold Qv1 at hf;split at hf
 ·rename_i t n ps ho
  simp only[Qzm,beq_iff_eq,decide_eq_true_eq] at hf;obtain ⟨⟨⟨⟨⟨hn,hsq⟩,hsz⟩,hez⟩,hb⟩,hpl⟩:=hf;obtain ⟨i,hu,hi,hs⟩:=Um hsz;obtain ⟨news,hrun,hnl,h1,hrl,hrs,hx⟩:=QeN h ho hn hsq hu hi hs (YV hez hu hi) hb hr;have hbel:=Qq w (.cells news.toArray e)
  have hok:∀ b,okL ok0 lo L b->b<w.heap.size->okL ok0 (QK lo id (.arr e sz rows 0)) (QF L id (.arr (.slice (some ⟨w.heap.size,0,none⟩) parts.length parts.length) news)) b:=by
   intro b hb hlt;refine ⟨hb.1,fun i o' hi he=>?_⟩
   by_cases hii:i=id
   ·subst hii
    simp only[QF,if_true,Lay.has,Value.ownBlock,Option.some.injEq] at he;omega
   grind
  refine ⟨_,_,_,QF L id (.arr (.slice (some ⟨w.heap.size,0,none⟩) parts.length parts.length) news),hrun,.inl rfl,?_,?_⟩
  ·refine h.new id hid _ _ hbel (fun b hb=>by simp only[Lay.has,Value.ownBlock,Option.some.injEq] at hb;omega) ?_
   refine ⟨⟨⟨by rw[hrl];exact hnl,.inr ⟨w.heap.size,parts.length,news.toArray,by rw[hrl],QAu _,heap_alloc_new w _,by omega,by simp only[maxLen];omega,by simpa using hnl,?_⟩⟩,fun b hb=>by simp only[Value.ownBlock,Option.some.injEq] at hb;exact h.frlt (by omega)⟩,QAu _,hrs,h1,fun i j c x u h2 h3 h4=>?_⟩
   ·rw[hrl,<- hnl]
    simp
   ·refine (hx i j c x u h2 h3 h4).ext hok hbel.block fun i o' hi=>?_
    grind
  ·rw[<- hrl]
   exact .aref id e sz rows 0 _ news (by simp[upO,QK]) (by simp[QF]) rfl
 ·cases hf
end
theorem Wr (lo id o):QK lo id o id=some o:=by simp[QK]
theorem Ws (L id l):QF L id l id=l:=by simp[QF]
theorem ZF (w:World) (b:Nat) (cs:Array Value):w.grownBy (w.setRow b cs) (some b) :=
 ⟨rfl,rfl,rfl,by simp[World.setRow],fun k _ hne=>setRow_other w b k cs (by simpa using hne)⟩
section
variable {P:Program} {ok0:Nat->Prop} {N:Fm} {w0:ZR} {lk:Nat->AV} {lo:Nat->Option AO} {a:Act} {w:World} {L:Nat->Lay} {o:Oper}
variable {s f:Prop} {v:AV} {up:Option (Nat × AO)}
theorem Qlg {id n:Nat} {x y:Opd} (h:Rel ok0 N w0 lk lo a w L) (hf:QvR P n x y o.op=true)
  (he:Qgs lo id n (y.av lk) (x.av lk)=.ok s f v up) (hs:s):f/\Qo P o ok0 N w0 lk lo a w v up:=by
 unfold QvR at hf;split at hf
 ·rename_i t x' y' ho
  simp only[Qzm] at hf;obtain ⟨⟨hx,hy⟩,hn⟩:=hf;have rx:=Opd.rep h hx;have ry:=Opd.rep h hy;generalize x.av lk=xv at rx he;generalize y.av lk=yv at ry he;generalize hey:a.eval x'=pv at rx;unfold Qgs at he;split at he
  ·rename_i i off
   split at he
   ·rename_i hii
    subst hii;split at he
    ·rename_i cs vs hcs hvs
     injection he with e1 e2 e3 e4
     subst e1 e2 e3 e4;obtain ⟨hvl,hfit⟩:=hs;obtain ⟨us,hus,hru⟩:=Jt ry hvs;have hob:=h.objs _ _ hcs;cases rx with
     | loc _ _ cs' b hob' hL =>
       rw[hcs] at hob';injection hob' with hob'
       injection hob' with hob'
       subst hob';rw[hL] at hob;obtain ⟨hB,ty,cur,hb,hl,h1,hxx⟩:=hob;have hul:us.length=n:=by rw[hru.1];exact hvl
       have hst:=Us (w:=w) hn b off (a.eval y') us cur hus hul hb (by omega) hru.2.1
       have hLb:(L i).has b:=by rw[hL];rfl
       have hg:=ZF w b (cur.take off++us++cur.drop (off+n)).toArray;have hset:=setRow_heap w b cur.toArray (cur.take off++us++cur.drop (off+n)).toArray ty (0,0) hb
       have hLL:QF L i (.box b)=L:=by
        grind
       have key:Rel ok0 N w0 lk (QK lo i (.box (cs.take off++vs++cs.drop (off+n)))) a (w.setRow b (cur.take off++us++cur.drop (off+n)).toArray) (QF L i (.box b)):=by
        refine h.turn i hcs (Qc1.of hg (fun k hk=>by injection hk with hk;subst hk;exact hLb)) (fun b' hb'=>.inl (by rw[hL];exact hb')) (fun z u hz hr=>?_) (fun all=>?_)
        ·cases hr with
         | _=>grind
        ·have hsp:=Qm9.splice (cs:=cs) (ds:=vs) (vs:=cur) (us:=us) (o:=off) ⟨hl,h1,hxx⟩ hru (by omega)
         rw[hvl,hul] at hsp;obtain ⟨g1,g2,g3⟩:=hsp;exact ⟨hB,ty,_,hset,g1,g2,fun k z u hk hu=>all _ _ (g3 k z u hk hu)⟩
       refine ⟨trivial,_,undef,_,_,?_,.inr ⟨rfl,rfl⟩,key,.iv _ _ (.any _)⟩;simp only[execOp,ho,hey,Instr.storeAt,Instr.sureAddr,Sem.run_bind,Sem.run_pure,Result.andThen_ok,hst]
    ·cases he
   ·cases he
  ·rename_i i m j off
   split at he
   ·rename_i hii
    subst hii;split at he
    ·rename_i e sz es mv vs hcs hvs
     injection he with e1 e2 e3 e4
     subst e1 e2 e3 e4;obtain ⟨hvl,rfl,hmv,hfit⟩:=hs;obtain ⟨us,hus,hru⟩:=Jt ry hvs;have hob:=h.objs _ _ hcs;cases rx with
     | eloc _ _ _ _ e' sz' es' mv' v' xs b hob' hL hm hv =>
       rw[hcs] at hob';injection hob' with hob'
       injection hob' with g1 g2 g3 g4
       subst g1 g2 g3 g4;rw[hL] at hob;obtain ⟨hown,hmv2,hsz,h1,hxx⟩:=hob;obtain ⟨hj,hbl,hcells⟩:=hv hmv;have hbl:=hbl rfl;rcases hown.own.2 with ⟨hv',_⟩ | ⟨g,cap,cur,hv',hB,hg,hnc,hcm,hcs',htake⟩
       ·rw[hv'] at hbl;simp[Value.ownBlock] at hbl
       ·have hgb:g=b:=by rw[hv'] at hbl;simpa[Value.ownBlock] using hbl
        subst hgb;have hul:us.length=n:=by rw[hru.1];exact hvl
        have hcurl:cur.size=cap*sz:=hcs'
        have hbig:j*sz+sz<=es.length*sz:=by
         have:(j+1)*sz<=es.length*sz:=QzN sz (by omega)
         rw[QzO] at this;omega
        have hcapb:es.length*sz<=cap*sz:=QzN sz hnc;have hst:=Us (w:=w) hn g (j*sz+off) (a.eval y') us cur.toList hus hul (by simpa using hg) (by simp;omega) hru.2.1
        have hLb:(L i).has g:=by rw[hL];exact hbl
        have hgr:=ZF w g (cur.toList.take (j*sz+off)++us++cur.toList.drop (j*sz+off+n)).toArray;have hset:=setRow_heap w g cur (cur.toList.take (j*sz+off)++us++cur.toList.drop (j*sz+off+n)).toArray e (0,0) hg;have hxl:xs.length=es.length*sz:=hown.own.1;have hlenj:=Qbc hsz hj;have hvl2:vs.length=us.length:=by omega
        have hxs':(cur.toList.take (j*sz+off)++us++cur.toList.drop (j*sz+off+n)).take (es.length*sz)=xs.take (j*sz+off)++us++xs.drop (j*sz+off+us.length):=by
         apply QAF;intro k;rw[QzR,Ys xs us _ _ (by omega),<- hul,Ys cur.toList us _ _ (by simp;omega),<- htake]
         by_cases hk:k<es.length*sz
         ·rw[if_pos hk]
          simp only[QzR,if_pos hk]
         grind
        have hesl:(es.set j ((es.getD j []).take off++vs++(es.getD j []).drop (off+n))).length=es.length:=by simp
        have key:Rel ok0 N w0 lk (QK lo i (.arr e sz (es.set j ((es.getD j []).take off++vs++(es.getD j []).drop (off+n))) es.length)) a
          (w.setRow g (cur.toList.take (j*sz+off)++us++cur.toList.drop (j*sz+off+n)).toArray) (QF L i (.arr v' (xs.take (j*sz+off)++us++xs.drop (j*sz+off+us.length)))):=by
         refine h.turn i hcs (Qc1.of hgr (fun k hk=>by injection hk with hk;subst hk;exact hLb)) (fun b' hb'=>.inl (by rw[hL];simp only[Lay.has] at hb' |-;exact hb')) (fun z u hz hr=>?_) (fun all=>?_)
         ·cases hr with
          | eloc jj n' i' off' e2 sz2 es2 mv2 v2 xs2 b2 ho' hL' hn' hv2 =>
            have:jj=i:=by simpa[AV.refs] using hz
            subst this;rw[hcs] at ho';injection ho' with ho'
            injection ho' with g1 g2 g3 g4
            subst g1 g2 g3 g4;rw[hL] at hL';injection hL' with hL' hL2
            subst hL' hL2;refine .eloc jj n' i' off' e sz _ es.length v' _ b2 (Wr _ _ _) (Ws _ _ _) (by rw[hesl];exact hn') (fun hbad=>?_)
            have hn'':n'=es.length:=by omega
            subst hn'';obtain ⟨k1,k2,k3⟩:=hv2 hmv;have hb2:=k2 rfl;have:b2=g:=by rw[hbl] at hb2;injection hb2 with hb2;exact hb2.symm
            subst this;refine ⟨k1,fun _=>hbl,fun k hk=>⟨.inr hbl,?_⟩⟩
            have hk':k<(xs.take (j*sz+off)++us++xs.drop (j*sz+off+us.length)).length:=by
             rw[XA xs us _ (by omega),hxl];exact hk
            obtain ⟨u,hu⟩:∃ u,(xs.take (j*sz+off)++us++xs.drop (j*sz+off+us.length))[k]?=some u:=⟨_,Qzk hk'⟩
            refine ⟨u,?_,hu⟩;rw[cell_of_row _ _ _ _ e (0,0) hset]
            grind
          | _=>grind
         ·refine ⟨⟨⟨?_,.inr ⟨g,cap,_,?_,hB,hset,?_,hcm,?_,?_⟩⟩,hown.free⟩,?_,?_,?_,?_⟩
          ·rw[XA xs us _ (by omega),hesl,hxl]
          ·rw[hesl];exact hv'
          ·rw[hesl];exact hnc
          ·have:=XA cur.toList us (j*sz+off) (by simp;omega)
           grind
          ·rw[hesl]
           simpa using hxs'
          ·rw[hesl];exact Qzq _
          ·intro c hc
           rcases List.mem_or_eq_of_mem_set hc with hc | rfl
           ·exact hsz c hc
           ·have:=XA (es.getD j []) vs off (by omega)
            rw[hvl] at this;rw[this,hlenj]
          ·intro u hu
           simp only[QzD] at hu;rcases hu with (hu | hu) | hu
           ·exact h1 u (Qz5 hu)
           ·exact hru.2.1 u hu
           ·exact h1 u (QAc hu)
          ·intro ii jj c z u hi hjj hu
           refine all _ _ ?_;rw[Ys xs us _ _ (by omega)] at hu
           rw[Qz7] at hi;simp only[if_pos hj] at hi;split at hi
           ·rename_i hij
            subst hij;injection hi with hi
            subst hi;have hsplit:=Ys (es.getD j []) vs off jj (by omega)
            rw[hvl] at hsplit;rw[hsplit] at hjj;by_cases g1:jj<off
            ·grind
            ·rw[if_neg g1] at hjj
             rw[if_neg (by omega)] at hu
             by_cases g2:jj<off+n
             ·rw[if_pos g2] at hjj
              rw[if_pos (by omega)] at hu
              rw[show j*sz+jj-(j*sz+off)=jj-off by omega] at hu
              exact hru.2.2 _ z u hjj hu
             grind
           ·rename_i hij
            have hjlt:jj<sz:=by
             grind
            have hne:ii*sz+jj<j*sz+off\/j*sz+off+us.length<=ii*sz+jj:=by
             rcases Nat.lt_or_gt_of_ne hij with hlt | hgt
             ·right
              have:(j+1)*sz<=ii*sz:=QzN sz hlt;rw[QzO] at this;omega
             ·left
              have:(ii+1)*sz<=j*sz:=QzN sz hgt;rw[QzO] at this;omega
            grind
        refine ⟨trivial,_,undef,_,_,?_,.inr ⟨rfl,rfl⟩,key,.iv _ _ (.any _)⟩;simp only[execOp,ho,hey,Instr.storeAt,Instr.sureAddr,Sem.run_bind,Sem.run_pure,Result.andThen_ok,hst]
    ·cases he
   ·cases he
  ·cases he
 ·cases hf
end
section
variable {P:Program} {ok0:Nat->Prop} {N:Fm} {w0:ZR} {lk:Nat->AV} {lo:Nat->Option AO} {a:Act} {w:World} {L:Nat->Lay} {o:Oper}
variable {s f:Prop} {v:AV} {up:Option (Nat × AO)}
theorem Rel.okL_turn {id o o' l'} (h:Rel ok0 N w0 lk lo a w L) (hid:lo id=some o)
  (hl':∀ b,l'.has b->(L id).has b\/w.heap.size<=b) {b} (hb:okL ok0 lo L b) (hlt:b<w.heap.size):okL ok0 (QK lo id o') (QF L id l') b:=by
 grind
theorem Qmf {id:Nat} {e:TypeId} {sz mv:Nat} {es:List (List AV)} {ys:List (List IV)} {vv vv':Value} {xs news:List Value} {w':World} (h:Rel ok0 N w0 lk lo a w L)
  (hob:lo id=some (.arr e sz es mv)) (hL:L id=.arr vv xs) (hm:0<ys.length)
  (hg:w.grownBy w' vv.ownBlock) (hown':w'.ownsRow 0 e sz vv' (es.length+ys.length) (xs++news))
  (hblk:∀ b,vv'.ownBlock=some b->vv.ownBlock=some b\/w.heap.size<=b)
  (hpre:∀ b k u,(okL ok0 lo L b\/vv.ownBlock=some b)->k<es.length*sz->w.cell? ⟨b,k,none⟩=some u ->
    (okL ok0 (QK lo id (.arr e sz (es++ys.map (List.map AV.iv)) mv)) (QF L id (.arr vv' (xs++news))) b\/vv'.ownBlock=some b)/\w'.cell? ⟨b,k,none⟩=some u)
  (hsl:isSl vv'=true)
  (hys:∀ c∈ys,c.length=sz) (h1:∀ u∈news,u.oneCell'=true)
  (hx:∀ (i j:Nat) (c:List IV) (x:IV) (u:Value),ys[i]?=some c->c[j]?=some x->news[i*sz+j]?=some u->Qv (okL ok0 lo L) w x u) :
  Rel ok0 N w0 lk (QK lo id (.arr e sz (es++ys.map (List.map AV.iv)) mv)) a w' (QF L id (.arr vv' (xs++news))) /\
  Qs (okL ok0 (QK lo id (.arr e sz (es++ys.map (List.map AV.iv)) mv)) (QF L id (.arr vv' (xs++news)))) w' (QK lo id (.arr e sz (es++ys.map (List.map AV.iv)) mv)) (QF L id (.arr vv' (xs++news))) (.aref id (es.length+ys.length)) vv':=by
 have hor:=h.objs _ _ hob;rw[hL] at hor;obtain ⟨hown,hmv,hsz,h1x,hxx⟩:=hor;have hxl:xs.length=es.length*sz:=hown.own.1;have hesl:(es++ys.map (List.map AV.iv)).length=es.length+ys.length:=by simp
 have cells:∀ b n,n<=es.length->(∀ k,k<n*sz->(okL ok0 lo L b\/vv.ownBlock=some b)/\∃ u,w.cell? ⟨b,k,none⟩=some u/\xs[k]?=some u) ->
   (∀ k,k<n*sz->(okL ok0 (QK lo id (.arr e sz (es++ys.map (List.map AV.iv)) mv)) (QF L id (.arr vv' (xs++news))) b\/vv'.ownBlock=some b)/\∃ u,w'.cell? ⟨b,k,none⟩=some u/\(xs++news)[k]?=some u):=by
  grind
 refine ⟨h.turn id hob (Qc1.of hg (fun k hk=>by rw[hL];exact hk)) (fun b hb=>by rw[hL];exact hblk b hb) (fun z u hz hr=>?_) (fun all=>?_),?_⟩
 ·cases hr with
  | aref jj e2 sz2 es2 mv2 v2 xs2 ho' hL' hsl2 =>
    have:jj=id:=by simpa[AV.refs] using hz
    subst this;rw[hob] at ho';injection ho' with ho'
    injection ho' with g1 g2 g3 g4
    subst g1 g2 g3 g4;rw[hL] at hL';injection hL' with hL' hL2
    subst hL' hL2;refine .old jj es.length e sz _ mv vv' _ _ (Wr _ _ _) (Ws _ _ _) hsl2 (by rw[hesl];omega) (fun _=>?_)
    rcases hown.own.2 with ⟨hv',h00⟩ | ⟨g,cap,cur,hv',hB,hgg,hnc,hcm,hcs',htake⟩
    ·exact .inl ⟨hv',h00⟩
    ·refine .inr ⟨g,cap,hv',hnc,hcm,cells g es.length (Qzq _) fun k hk=>⟨.inr (by rw[hv'];rfl),?_⟩⟩
     have hk':k<xs.length:=by omega
     refine ⟨xs[k],?_,Qzk hk'⟩;have:=hown.own.cells (g:=g) (by rw[hv'];rfl) k xs[k] (Qzk hk')
     rwa [QM,Qzx] at this
  | _=>grind
 ·refine ⟨by rw[hesl];exact ⟨hown',fun b hb=>(hblk b hb).elim (fun h1=>hown.free b h1) (fun h2=>h.frlt h2)⟩,by rw[hesl];omega,?_,?_,?_⟩
  ·grind
  ·grind
  ·intro i j c z u hi hj hu
   rw[List.getElem?_append] at hi;split at hi
   ·rename_i hlt
    have hjl:j<sz:=by
     grind
    have hidx:=W6 hlt hjl
    grind
   ·rename_i hge
    rw[Qzu,Qzo] at hi;obtain ⟨d,hd,rfl⟩:=hi;rw[Qzu,Qzo] at hj;obtain ⟨y,hy,rfl⟩:=hj;have hle:es.length*sz<=i*sz:=QzN sz (by omega)
    rw[Qzz (by omega),hxl] at hu
    have:i*sz+j-es.length*sz=(i-es.length)*sz+j:=by
     rw[Nat.sub_mul];omega
    rw[this] at hu;exact all _ _ (.iv _ _ (hx _ j d y u hd hy hu))
 ·rw[<- hesl]
  exact .aref id e sz _ mv vv' _ (Wr _ _ _) (Ws _ _ _) hsl
theorem Qbv {e sz bytes x y} (hf:Qo3 P e sz bytes x y o.op=true):∃ x' y' t i z,o.op=.call { callee:=.builtin .append,args:=#[x',y'],argTypes:=#[t,t] } /\
  x.is x'=true/\y.is y'=true/\P.underlying t=some (.slice e)/\P.info? e=some i/\i.size=sz/\i.bytes=bytes/\i.zero=some z/\z.cells.size=sz/\0<sz:=by
 unfold Qo3 at hf;split at hf
 ·rename_i az ts ho
  split at hf
  ·rename_i x' y' t t' has hts
   simp only[Qzm,beq_iff_eq,decide_eq_true_eq] at hf;obtain ⟨⟨⟨⟨⟨hx,hy⟩,rfl⟩,hs⟩,hpos⟩,hb⟩:=hf;obtain ⟨i,hu,hi,hsz⟩:=Um hs;unfold QfJ at hb;rw[hi] at hb;simp only[Qzm,beq_iff_eq] at hb;obtain ⟨hb1,hb2⟩:=hb;split at hb2
   ·rename_i z hz
    have e1:az=#[x',y']:=by cases az;simp_all
    have e2:ts=#[t,t]:=by cases ts;simp_all
    grind
   ·cases hb2
  ·cases hf
 ·cases hf
theorem XK {t ty e} {i:TypeInfo} (hu:P.underlying t=some (.slice e)) (hi:P.info? e=some i) (base n cap) (hnc:n<=cap) (y)
  (hy:y=.slice none 0 0\/∃ ad c,y=.slice (some ad) 0 c):(Builtin.append_ #[t,t] ty #[.slice base n cap,y]).run P w=.ok (.slice base n cap) w:=by
 rcases hy with rfl | ⟨ad,c,rfl⟩<;>cases base <;>
  simp[Builtin.append_,run_underlying hu,sizeOf,typeInfo,hi,Builtin.lenOf,Builtin.firstCells,hnc,loadCells,loadCellsFrom,storeCells]
theorem Qlf {id e sz bytes s0 sy ys x y} (h:Rel ok0 N w0 lk lo a w L) (hf:Qo3 P e sz bytes x y o.op=true)
  (hxv:x.av lk=.zsl s0) (hyv:y.av lk=.iv (.sl sy ys)) (he:JY lo id e sz bytes (.zsl s0) (.iv (.sl sy ys))=.ok s f v up) (hs:s):f/\Qo P o ok0 N w0 lk lo a w v up:=by
 obtain ⟨x',y',t,ti,z,ho,hx,hy,hu,hi,hsz,hby,hz,hzs,hpos⟩:=Qbv hf;have rx:=Opd.rep h hx;have ry:=Opd.rep h hy;rw[hxv] at rx;rw[hyv] at ry;generalize hex:a.eval x'=vv at rx;generalize hey:a.eval y'=yy at ry
 have run:∀ u w',(Builtin.append_ #[t,t] o.type #[vv,yy]).run P w=.ok u w'->(execOp a.eval o).run P w=.ok (.value u) w':=by
  intro u w' hr;simp[execOp,ho,resolve,invoke,builtin,hex,hey,hr]
 obtain ⟨a0,rfl⟩:∃ a0,vv=.slice a0 0 0:=by
  cases rx with
  | zsl _ _ h=>exact WP h
 have hyshape:((∃ a1,yy=.slice a1 0 0)/\ys=[])\/∃ (b off cap:Nat) (u:Nat->Value),yy=.slice (some ⟨b,off,none⟩) ys.length cap/\(∀ c∈ys,c.length=sy) /\
   (∀ k,k<ys.length*sy->okL ok0 lo L b/\w.cell? ⟨b,off+k,none⟩=some (u k)/\(u k).oneCell'=true) /\
   (∀ i j c x,ys[i]?=some c->c[j]?=some x->Qv (okL ok0 lo L) w x (u (i*sy+j))):=by
  cases ry with
  | iv _ _ r=>cases r with
    | sl _ _ b off cap u hl hc hes hcell hxx=>exact .inr ⟨b,off,cap,u,rfl,hes,hcell,hxx⟩
    | _=>grind
 simp only[JY] at he
 ·split at he
  ·injection he with e1 e2 e3 e4
   subst e1 e2 e3 e4
   have hr:=XK (P:=P) (w:=w) (ty:=o.type) hu hi a0 0 0 (Qzq _) yy (by
    rcases hyshape with ⟨⟨a1,h1⟩,_⟩ | ⟨b,off,c,u,h1,_⟩
    ·cases a1 with
     | none=>exact .inl h1
     | some a1=>exact .inr ⟨_,_,h1⟩
    ·exact .inr ⟨_,_,h1⟩)
   exact ⟨trivial,Qo.pure h (run _ _ hr) (.zsl _ _ rfl)⟩
  ·rename_i y0 r hlo
   injection he with e1 e2 e3 e4
   subst e1 e2 e3 e4;obtain ⟨hq3,rfl,hmax,hbytes⟩:=hs;have hs2:sy=s0:=hq3;subst hs2;rcases hyshape with ⟨_,h0⟩ | ⟨b,off,c,u,hyy,hyl,hyc,hyx⟩
   ·cases h0
   ·generalize hys:y0::r=ys at *
    have hpos':0<ys.length:=by rw[<- hys];simp
    obtain ⟨news,hnd⟩:∃ news,news=(List.range (ys.length*sy)).map u:=⟨_,rfl⟩
    have hnl:news.length=ys.length*ti.size:=by simp[hnd,hsz]
    have hnl2:news.length=ys.length*sy:=by simp[hnd]
    have hnews:∀ j u',news[j]?=some u'->w.cell? ((⟨b,off,none⟩:Addr).add j)=some u':=by
     intro j u' hj;simp only[hnd,Qzu,Qzo] at hj;obtain ⟨k',hk',rfl⟩:=hj;obtain ⟨h3,h4⟩:=Qzl.1 hk';simp at h3 h4;subst h4;rw[QM];exact (hyc j h3).2.1
    have hn1:∀ u'∈news,u'.oneCell'=true:=by
     grind
    have hnx:∀ i j c x u',ys[i]?=some c->c[j]?=some x->news[i*sy+j]?=some u'->Qv (okL ok0 lo L) w x u':=by
     grind
    have hm63:ys.length<=9223372036854775807:=by simp only[maxLen] at hmax;omega
    have hge:=grownCap_ge w ys.length 0 e;have hle:=grownCap_le_maxLen w ys.length 0 e (by omega)
    have hr:(Builtin.append_ #[t,t] o.type #[.slice a0 0 0,yy]).run P w=.ok (.slice (some ⟨w.heap.size,0,none⟩) ys.length (grownCap w ys.length 0 e))
      (w.drew.alloc (.cells (news.toArray++Builtin.zeroCells z.cells (grownCap w ys.length 0 e-ys.length)) e)):=by
     cases a0 with
     | none =>
       rw[hyy];exact run_append_nil (P:=P) w t o.type e ti z hu hi hz ⟨b,off,none⟩ ys.length c news hnl hnews hpos' (by omega) (by rw[hby];omega)
     | some ad =>
       have:=run_append_grow (P:=P) w t o.type e ti z hu hi hz ad 0 0 [] (by simp) (by simp) ⟨b,off,none⟩ ys.length c news hnl hnews (by omega) (by omega) (by
        rw[Qzx];exact growslice_fits (by omega) (by rw[hby];exact hbytes))
       rw[hyy];simpa using this
    have hheap:∀ ob k,k<w.heap.size->(w.drew.alloc ob).heap[k]?=w.heap[k]?:=fun ob k hk=>Ev.alloc_old w.drew _ k hk
    have hzl:(Builtin.zeroCells z.cells (grownCap w ys.length 0 e-ys.length)).size=(grownCap w ys.length 0 e-ys.length)*sy:=by
     rw[size_zeroCells,hzs]
    have hrel:=h.new (w':=w.drew.alloc (.cells (news.toArray++Builtin.zeroCells z.cells (grownCap w ys.length 0 e-ys.length)) e)) id hlo (.arr e sy (ys.map (List.map AV.iv)) 0)
     (.arr (.slice (some ⟨w.heap.size,0,none⟩) ys.length (grownCap w ys.length 0 e)) news) ⟨rfl,rfl,rfl,by simp,fun k hk=>hheap _ k hk⟩
     (fun b hb=>by simp only[Lay.has,Value.ownBlock,Option.some.injEq] at hb;omega) (by
       refine ⟨⟨⟨by rw[Qzw];exact hnl2,.inr ⟨w.heap.size,_,_,by rw[Qzw],QAu _,heap_alloc_new w.drew _,by rw[Qzw];exact hge,hle,?_,?_⟩⟩,fun b hb=>?_⟩,QAu _,fun c hc=>?_,hn1,fun i j c x u' hi' hj hu'=>?_⟩
       ·simp only[Array.size_append,QAk,hzl,hnl2,<- QzO]
        congr 1
        omega
       ·grind
       ·simp only[Value.ownBlock,Option.some.injEq] at hb
        subst hb;exact h.frlt (Qzq _)
       ·grind
       ·rw[Qzu,Qzo] at hi'
        obtain ⟨d,hd,rfl⟩:=hi';rw[Qzu,Qzo] at hj;obtain ⟨y,hy,rfl⟩:=hj;refine .iv _ _ ((hnx i j d y u' hd hy hu').mono fun b hb hlt=>⟨⟨hb.1,fun i' oi hi2 he2=>?_⟩,hheap _ b hlt⟩)
        by_cases hii:i'=id
        ·subst hii
         simp only[QF,if_true,Lay.has,Value.ownBlock,Option.some.injEq] at he2;omega
        grind)
    refine ⟨trivial,_,_,_,_,run _ _ hr,.inl rfl,hrel,?_⟩
    have:=Qs.aref (ok:=okL ok0 (QK lo id (.arr e sy (ys.map (List.map AV.iv)) 0)) (QF L id (.arr (.slice (some ⟨w.heap.size,0,none⟩) ys.length (grownCap w ys.length 0 e)) news)))
     (w:=w.drew.alloc (.cells (news.toArray++Builtin.zeroCells z.cells (grownCap w ys.length 0 e-ys.length)) e)) (lo:=QK lo id (.arr e sy (ys.map (List.map AV.iv)) 0))
     (L:=QF L id (.arr (.slice (some ⟨w.heap.size,0,none⟩) ys.length (grownCap w ys.length 0 e)) news)) id e sy (ys.map (List.map AV.iv)) 0 (.slice (some ⟨w.heap.size,0,none⟩) ys.length (grownCap w ys.length 0 e)) news (by simp[QK]) (by simp[QF]) rfl
    rw[Qzw] at this;exact this
  ·cases he
theorem Qi9 {id:Nat} {e:TypeId} {sz bytes:Nat} {x y:Opd} (h:Rel ok0 N w0 lk lo a w L) (hok0:∀ b,¬ w0.fr b->ok0 b) (hf:Qo3 P e sz bytes x y o.op=true) (hnm:∀ i k n,x.av lk≠.mref i k n)
  (he:JY lo id e sz bytes (x.av lk) (y.av lk)=.ok s f v up) (hs:s):f/\Qo P o ok0 N w0 lk lo a w v up:=by
 by_cases hzz:∃ s0,x.av lk=.zsl s0
 ·obtain ⟨s0,hz0⟩:=hzz
  rw[hz0] at he;cases hyv:y.av lk with
  | iv q =>
    cases q with
    | sl sy ys=>rw[hyv] at he;exact Qlf h hf hz0 hyv he hs
    | _=>rw[hyv] at he;simp[JY] at he
  | _=>rw[hyv] at he;simp[JY] at he
 obtain ⟨x',y',t,ti,z,ho,hx,hy,hu,hi,hsz,hby,hz,hzs,hpos⟩:=Qbv hf;have rx:=Opd.rep h hx;have ry:=Opd.rep h hy;generalize x.av lk=xv at rx he hnm hzz;generalize y.av lk=yv at ry he;generalize hex:a.eval x'=vv at rx;generalize hey:a.eval y'=yy at ry
 have run:∀ u w',(Builtin.append_ #[t,t] o.type #[vv,yy]).run P w=.ok u w'->(execOp a.eval o).run P w=.ok (.value u) w':=by
  intro u w' hr;simp[execOp,ho,resolve,invoke,builtin,hex,hey,hr]
 unfold JY at he;split at he
 ·rename_i i n sy ys
  split at he
  ·rename_i hii
   subst hii;split at he
   ·rename_i e' sz' es mv hob
    split at he
    ·rename_i hees
     obtain ⟨rfl,rfl⟩:=hees;injection he with e1 e2 e3 e4
     subst e1 e2 e3 e4;obtain ⟨rfl,rfl,hmv,hmax,hbytes⟩:=hs;have hor:=h.objs _ _ hob
     have hcur:∃ xs,L i=.arr vv xs/\isSl vv=true:=by
      grind
     obtain ⟨xs,hL,hsl⟩:=hcur;have hor':=hor;rw[hL] at hor';obtain ⟨hown,hmv2,hszs,h1x,hxx⟩:=hor'
     have hyshape:((∃ a0,yy=.slice a0 0 0)/\ys=[])\/∃ (b off cap:Nat) (u:Nat->Value),yy=.slice (some ⟨b,off,none⟩) ys.length cap/\(∀ c∈ys,c.length=sy) /\
       (∀ k,k<ys.length*sy->okL ok0 lo L b/\w.cell? ⟨b,off+k,none⟩=some (u k)/\(u k).oneCell'=true) /\
       (∀ (i j:Nat) (c:List IV) (x:IV),ys[i]?=some c->c[j]?=some x->Qv (okL ok0 lo L) w x (u (i*sy+j))):=by
      cases ry with
      | iv _ _ r=>cases r with
        | sl _ _ b off cap u hl hc hes hcell hxx=>exact .inr ⟨b,off,cap,u,rfl,hes,hcell,hxx⟩
        | _=>grind
     by_cases hm:ys.length=0
     ·have hnil:ys=[]:=Qzy hm
      subst hnil
      have hvshape:∃ base cap,vv=.slice base es.length cap/\es.length<=cap:=by
       rcases hown.own.2 with ⟨hv',h00⟩ | ⟨g,cap,cur,hv',hB,hgg,hnc,hcm,hcs',htake⟩
       all_goals grind
      obtain ⟨base,cap,hvb,hbc⟩:=hvshape
      have hr:=XK (P:=P) (w:=w) (ty:=o.type) hu hi base es.length cap hbc yy (by
       rcases hyshape with ⟨⟨a0,h1⟩,_⟩ | ⟨b,off,c,u,h1,_⟩
       ·cases a0 with
        | none=>exact .inl h1
        | some a0=>exact .inr ⟨_,_,h1⟩
       ·exact .inr ⟨_,_,h1⟩)
      rw[<- hvb] at hr
      have hlo:QK lo i (.arr e' sy (es++([]:List (List IV)).map (List.map AV.iv)) mv)=lo:=by
       grind
      refine ⟨trivial,_,vv,w,L,run _ _ hr,.inl rfl,?_,?_⟩
      ·simp only[upO];rw[hlo];exact h
      ·simp only[upO];grind
     ·rcases hyshape with ⟨_,h0⟩ | ⟨b,off,c,u,hyy,hyl,hyc,hyx⟩
      ·exact absurd (by rw[h0];rfl) hm
      ·let news:=(List.range (ys.length*sy)).map u
       have hnl:news.length=ys.length*ti.size:=by simp[news,hsz]
       have hnews:∀ j u',news[j]?=some u'->w.cell? ((⟨b,off,none⟩:Addr).add j)=some u':=by
        intro j u' hj;simp only[news,Qzu,Qzo] at hj;obtain ⟨k',hk',rfl⟩:=hj;obtain ⟨h3,h4⟩:=Qzl.1 hk';simp at h3 h4;subst h4;rw[QM];exact (hyc j h3).2.1
       have hn1:∀ u'∈news,u'.oneCell'=true:=by
        grind
       have hnx:∀ (i j:Nat) (c:List IV) (x:IV) (u':Value),ys[i]?=some c->c[j]?=some x->news[i*sy+j]?=some u'->Qv (okL ok0 lo L) w x u':=by
        grind
       have hml:es.length+ys.length<=9223372036854775807:=by simp only[maxLen] at hmax;omega
       have fin:∀ vv' w',(Builtin.append_ #[t,t] o.type #[vv,yy]).run P w=.ok vv' w'->w.grownBy w' vv.ownBlock->w'.ownsRow 0 e' sy vv' (es.length+ys.length) (xs++news) ->
         (∀ b,vv'.ownBlock=some b->vv.ownBlock=some b\/w.heap.size<=b)->isSl vv'=true ->
         (∀ b k u,(okL ok0 lo L b\/vv.ownBlock=some b)->k<es.length*sy->w.cell? ⟨b,k,none⟩=some u ->
           (okL ok0 (QK lo i (.arr e' sy (es++ys.map (List.map AV.iv)) mv)) (QF L i (.arr vv' (xs++news))) b\/vv'.ownBlock=some b)/\w'.cell? ⟨b,k,none⟩=some u) ->
         True/\Qo P o ok0 N w0 lk lo a w (.aref i (es.length+ys.length)) (some (i,.arr e' sy (es++ys.map (List.map AV.iv)) mv)):=by
        intro vv' w' hr hg hown' hblk hsl' hpre;obtain ⟨r1,r2⟩:=Qmf h hob hL (by omega) hg hown' hblk hpre hsl' hyl hn1 hnx
        exact ⟨trivial,_,vv',w',_,run _ _ hr,.inl rfl,r1,r2⟩
       have fresh:∀ (cap':Nat) (cells:List Value),es.length+ys.length<=cap'->cap'<=maxLen->cells.length=cap'*sy->cells.take ((es.length+ys.length)*sy)=xs++news ->
         (Builtin.append_ #[t,t] o.type #[vv,yy]).run P w=.ok (.slice (some ⟨w.heap.size,0,none⟩) (es.length+ys.length) cap') (w.drew.alloc (.cells cells.toArray e')) ->
         True/\Qo P o ok0 N w0 lk lo a w (.aref i (es.length+ys.length)) (some (i,.arr e' sy (es++ys.map (List.map AV.iv)) mv)):=by
        intro cap' cells h1 h2 h3 h4 hr;have hheap:∀ k,k<w.heap.size->(w.drew.alloc (.cells cells.toArray e')).heap[k]?=w.heap[k]?:=fun k hk=>Ev.alloc_old w.drew _ k hk
        have hbl:∀ b,(Lay.arr (.slice (some ⟨w.heap.size,0,none⟩) (es.length+ys.length) cap') (xs++news)).has b->(L i).has b\/w.heap.size<=b:=by
         intro b hb;simp only[Lay.has,Value.ownBlock,Option.some.injEq] at hb;exact .inr (by omega)
        refine fin _ _ hr ⟨rfl,rfl,rfl,by simp,fun k hk _=>hheap k hk⟩ ⟨?_,.inr ⟨w.heap.size,cap',cells.toArray,rfl,QAu _,heap_alloc_new w.drew _,h1,h2,by simpa using h3,by simpa using h4⟩⟩ (fun b hb=>?_) rfl (fun b k u hb hk hc=>?_)
        ·rw[Qzp,hown.own.1,hnl,hsz,QzO]
        ·simp only[Value.ownBlock,Option.some.injEq] at hb
         exact .inr (by omega)
        ·have hlt:=Qz9 w ⟨b,k,none⟩ hc
         refine ⟨.inl ?_,(QAq (a:=⟨b,k,none⟩) (hheap b hlt)).trans hc⟩;rcases hb with hb | hb
         ·exact h.okL_turn hob hbl hb hlt
         ·have hge:=(hown.lt b hb).1
          refine ⟨hok0 b hge,fun j oj hj hbad=>?_⟩
          by_cases hji:j=i
          ·subst hji
           simp only[QF,if_true,Lay.has,Value.ownBlock,Option.some.injEq] at hbad;simp only[] at hlt;omega
          ·simp only[QK,hji,if_false] at hj
           simp only[QF,hji,if_false] at hbad;exact h.apart j i oj _ b hji hj hob hbad (by rw[hL];exact hb)
       rcases hown.own.2 with ⟨hv',h00⟩ | ⟨g,cap,cur,hv',hB,hgg,hnc,hcm,hcs',htake⟩
       ·have hxs0:xs=[]:=Qzy (by rw[hown.own.1,h00];simp)
        have hr:=run_append_nil (P:=P) w t o.type e' ti z hu hi hz ⟨b,off,none⟩ ys.length c news hnl hnews (by omega) (by omega) (by rw[hby];rw[h00,Qzx] at hbytes;omega)
        have hge:=grownCap_ge w ys.length 0 e';have hle:=grownCap_le_maxLen w ys.length 0 e' (by omega)
        have hzl:(Builtin.zeroCells z.cells (grownCap w ys.length 0 e'-ys.length)).toList.length=(grownCap w ys.length 0 e'-ys.length)*sy:=by
         rw[QAy,size_zeroCells,hzs]
        refine fresh (grownCap w ys.length 0 e') (news++(Builtin.zeroCells z.cells (grownCap w ys.length 0 e'-ys.length)).toList) (by omega) hle ?_ ?_ ?_
        ·rw[Qzp,hnl,hzl,hsz,<- QzO]
         congr 1
         omega
        ·rw[h00,Qzx,hxs0,QAa,<- hsz,<- hnl]
         exact List.take_left
        ·rw[h00,Qzx,hv',hyy,hr]
         congr 3
         apply Array.ext';simp
       ·by_cases hroom:es.length+ys.length<=cap
        ·have hfit:es.length*ti.size+news.length<=cur.size:=by rw[hnl,hcs',hsz,<- QzO];exact QzN _ hroom
         have hr:=run_append_room (P:=P) w t o.type e' ti hu hi g es.length cap cur hgg ⟨b,off,none⟩ ys.length c news hnl hnews hn1 hroom hfit;rw[hsz] at hr hfit;have hset:=setRow_heap w g cur (cur.toList.take (es.length*sy)++news++cur.toList.drop (es.length*sy+news.length)).toArray e' (0,0) hgg;have hob':vv.ownBlock=some g:=by rw[hv'];rfl
         have hlen:=XA cur.toList news (es.length*sy) (by simpa using hfit)
         refine fin _ _ (by rw[hv',hyy];exact hr) (by rw[hob'];exact ZF w g _) ⟨?_,.inr ⟨g,cap,_,rfl,hB,hset,hroom,hcm,?_,?_⟩⟩ (fun b hb=>.inl (by rw[hob'];exact hb)) rfl (fun b' k u hb hk hc=>?_)
         ·rw[Qzp,hown.own.1,hnl,hsz,QzO]
         ·simp only[QAk,hlen,QAy];exact hcs'
         ·simp only[]
          rw[htake];have:(es.length+ys.length)*sy=(xs++news).length:=by rw[Qzp,hown.own.1,hnl,hsz,QzO]
          rw[this];exact List.take_left
         ·have hlt:=Qz9 w ⟨b',k,none⟩ hc
          rcases hb with hb | hb
          ·have hne:b'≠g:=fun e=>hb.2 i _ hob (by rw[hL];simp only[Lay.has];rw[hob',e])
           refine ⟨.inl (h.okL_turn hob (fun b hb=>.inl ?_) hb hlt),(QAq (a:=⟨b',k,none⟩) (setRow_other w g b' _ hne)).trans hc⟩
           rw[hL];simp only[Lay.has] at hb |-;rw[hob'];exact hb
          ·have:b'=g:=by rw[hob'] at hb;injection hb with hb;exact hb.symm
           subst this;refine ⟨.inr rfl,?_⟩;rw[cell_of_row _ _ _ _ e' (0,0) hset];rw[cell_of_row _ _ _ _ e' (0,0) hgg] at hc;simp only[List.getElem?_toArray];rw[Ys _ _ _ _ (by simpa using hfit),if_pos hk]
           simpa using hc
        ·have holds:∀ j u,xs[j]?=some u->w.cell? ((⟨g,0,none⟩:Addr).add j)=some u:=hown.own.cells (g:=g) (by rw[hv'];rfl)
         have hr:=run_append_grow (P:=P) w t o.type e' ti z hu hi hz ⟨g,0,none⟩ es.length cap xs (by rw[hown.own.1,hsz]) holds ⟨b,off,none⟩ ys.length c news hnl hnews (by omega) (by omega)
          (growslice_fits (by omega) (by rw[hby];exact hbytes))
         have hge:=grownCap_ge w (es.length+ys.length) cap e';have hle:=grownCap_le_maxLen w (es.length+ys.length) cap e' (by omega)
         have hzl:(Builtin.zeroCells z.cells (grownCap w (es.length+ys.length) cap e'-(es.length+ys.length))).toList.length=(grownCap w (es.length+ys.length) cap e'-(es.length+ys.length))*sy:=by
          rw[QAy,size_zeroCells,hzs]
         have htot:(xs++news).length=(es.length+ys.length)*sy:=by rw[Qzp,hown.own.1,hnl,hsz,QzO]
         refine fresh (grownCap w (es.length+ys.length) cap e') (xs++news++(Builtin.zeroCells z.cells (grownCap w (es.length+ys.length) cap e'-(es.length+ys.length))).toList) hge hle ?_ ?_ ?_
         ·rw[Qzp,htot,hzl,<- QzO]
          congr 1
          omega
         ·rw[<- htot]
          exact List.take_left
         ·rw[hv',hyy,hr]
          congr 3
          apply Array.ext';simp
    ·cases he
   ·cases he
  ·cases he
 all_goals grind
end
end Go.Ev
