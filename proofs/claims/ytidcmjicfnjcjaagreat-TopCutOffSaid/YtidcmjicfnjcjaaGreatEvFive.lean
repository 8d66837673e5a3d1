/- Arguments that came in, as data: every type made of numbers, texts, slices and structs. -/
import Derived.Test.YtidcmjicfnjcjaaGreatEvFour
import Derived.ChangeArms
import Derived.ChangeSlices
import Derived.OpenShut
import Derived.SizedLaws
import Derived.ChangeOld
import Derived.ShutString
import Derived.Below
import Derived.Carry
import Derived.ChangeSame
import Derived.ChangeAgain
import Derived.Deep.DeepHandedRow
import Derived.Deep.DeepWitnessRowRef
set_option linter.all false

namespace Go.Ev
open Go Go.RowKit
inductive Sh where
 | bool
 | int (k:IntKind)
 | str
 | sl (bytes:Nat) (es:List Sh)
inductive ShFit:Sh→IV→Prop
 | bool (b:Bool):ShFit .bool (.bool b)
 | int (k:IntKind) (n:Int) (h1:k.min≤n) (h2:n≤k.max):ShFit (.int k) (.int k n)
 | str (s:List UInt8) (h:s.length≤reachBytes):ShFit .str (.str s)
 | sl (bytes:Nat) (es:List Sh) (rows:List (List IV)) (hw:rows.length*bytes≤reachBytes) (hm:rows.length≤maxLen) (hl:∀ row∈rows,row.length=es.length)
   (h:∀ row∈rows,∀ (j:Nat) (s:Sh) (x:IV),es[j]?=some s→row[j]?=some x→ShFit s x):ShFit (.sl bytes es) (.sl es.length rows)
def shpFs (P:Program) (g:TypeId→Option (List Sh)):List Field→Nat→Option (List Sh)
 | [],_=>some []
 | f::r,off=>match g f.type,shpFs P g r (off+P.cellsOf f.type) with
   | some a,some b=>if f.offset=off∧a.length=P.cellsOf f.type then some (a++b) else none
   | _,_=>none
def shp (P:Program):Nat→TypeId→Option (List Sh)
 | 0,_=>none
 | n+1,t=>match P.underlying t with
   | some .bool=>some [.bool]
   | some (.int k)=>some [.int k]
   | some .string=>some [.str]
   | some (.slice e)=>match shp P n e with
     | some (s::r)=>if (s::r).length=P.cellsOf e then some [.sl (P.bytesOf e) (s::r)] else none
     | _=>none
   | some (.struct fs)=>match shpFs P (shp P n) fs.toList 0 with
     | some ss=>if ss.length=P.cellsOf t then some ss else none
     | none=>none
   | _=>none
inductive R3 (ok:Nat→Prop) (w:World):List Sh→List IV→List Value→Prop
 | nil:R3 ok w [] [] []
 | cons (s:Sh) (x:IV) (v:Value) (ss:List Sh) (xs:List IV) (vs:List Value) (h1:ShFit s x) (h2:RepI ok w x v) (h3:v.oneCell'=true) (h:R3 ok w ss xs vs):R3 ok w (s::ss) (x::xs) (v::vs)
theorem R3.app {ok:Nat→Prop} {w:World} {ss ss':List Sh} {xs xs':List IV} {vs vs':List Value} (h:R3 ok w ss xs vs) (h':R3 ok w ss' xs' vs'):R3 ok w (ss++ss') (xs++xs') (vs++vs'):=by
 induction h with
 | nil=>exact h'
 | cons s x v ss xs vs h1 h2 h3 _ ih=>exact .cons s x v _ _ _ h1 h2 h3 ih
theorem R3.len {ok:Nat→Prop} {w:World} {ss:List Sh} {xs:List IV} {vs:List Value} (h:R3 ok w ss xs vs):xs.length=ss.length∧vs.length=ss.length:=by
 induction h with
 | nil=>exact ⟨rfl,rfl⟩
 | cons s x v ss xs vs _ _ _ _ ih=>simp[ih]
theorem R3.get {ok:Nat→Prop} {w:World} {ss:List Sh} {xs:List IV} {vs:List Value} (h:R3 ok w ss xs vs):∀ (j:Nat) (s:Sh) (x:IV) (v:Value),ss[j]?=some s→xs[j]?=some x→vs[j]?=some v→ShFit s x∧RepI ok w x v∧v.oneCell'=true:=by
 induction h with
 | nil=>intro j s x v h;simp at h
 | cons s x v ss xs vs h1 h2 h3 _ ih =>
   intro j s' x' v' a b c
   cases j with
   | zero=>simp at a b c;subst a b c;exact ⟨h1,h2,h3⟩
   | succ j=>exact ih j s' x' v' (by simpa using a) (by simpa using b) (by simpa using c)
theorem exists_list {α:Type}:∀ (len:Nat) (p:Nat→α→Prop),(∀ i,i<len→∃ x,p i x)→∃ l:List α,l.length=len∧∀ i x,l[i]?=some x→p i x
 | 0,_,_=>⟨[],rfl,fun i x h=>by simp at h⟩
 | n+1,p,h=>by
   obtain ⟨l,h1,h2⟩:=exists_list n p (fun i hi=>h i (by omega))
   obtain ⟨x,hx⟩:=h n (by omega)
   refine ⟨l++[x],by simp[h1],fun i y hy=>?_⟩
   by_cases hi:i<n
   ·rw[List.getElem?_append_left (by omega)] at hy
    exact h2 i y hy
   ·rw[List.getElem?_append_right (by omega)] at hy
    have:i-l.length=0:=by
     have:=(List.getElem?_eq_some_iff.1 hy).1
     simp at this
     omega
    rw[this] at hy
    simp at hy
    subst hy
    have:i=n:=by omega
    subst this
    exact hx
theorem weights_slice {H:Type} {P:Program} {t e:TypeId} (hu:P.underlying t=some (.slice e)) {el sp:List (DataW H)} {N:Nat} (h:∀ k∈(DataW.slice el sp).weights P t,k≤N) :
  (el.length+sp.length)*P.bytesOf e≤N∧∀ d∈el,∀ k∈d.weights P e,k≤N:=by
 have all:∀ (l:List (DataW H)) (d:DataW H),d∈l→∀ k∈d.weights P e,k∈DataW.weightsAll P e l:=by
  intro l
  induction l with
  | nil=>intro d h;simp at h
  | cons a l ih =>
    intro d hd k hk
    simp only[DataW.weightsAll,List.mem_append]
    rcases List.mem_cons.1 hd with c | c
    ·subst c;exact .inl hk
    ·exact .inr (ih d c k hk)
 refine ⟨h _ (by simp[DataW.weights,hu]),fun d hd k hk=>h k ?_⟩
 simp only[DataW.weights,hu,List.mem_cons,List.mem_append]
 exact .inr (.inl (all el d hd k hk))
section
variable {H:Type} {enc:TypeId × Value→H} {P:Program} {w:World} {base:Nat} {held:Bool}
theorem fields_r3 {ok:Nat→Prop} {n m:Nat} (cs:List Value) (IH:∀ (t:TypeId) (cs:List Value) (d:DataW H) (ps:List MemPlace) (ss:List Sh),DataW.trod enc P w base (fun _=>true) held n t cs=some (d,ps)→shp P m t=some ss →
   (∀ k∈d.weights P t,k≤reachBytes)→∃ xs,R3 ok w ss xs cs):∀ (l:List Field) (ys:List (DataW H × List MemPlace)) (off:Nat) (ss:List Sh),ys.length=l.length →
  (∀ (i:Nat) (f:Field),l[i]?=some f→DataW.trod enc P w base (fun _=>true) held n f.type ((cs.drop f.offset).take (P.cellsOf f.type))=ys[i]?)→shpFs P (shp P m) l off=some ss →
  (∀ k∈DataW.weightsEach P (l.map (·.type)) (ys.map (·.1)),k≤reachBytes)→∃ xs,R3 ok w ss xs ((cs.drop off).take ss.length)
 | [],ys,off,ss,_,_,h,_=>by
   simp only[shpFs,Option.some.injEq] at h
   subst h
   exact ⟨[],by simpa using R3.nil⟩
 | f::r,ys,off,ss,hlen,hf,h,hwt=>by
   obtain ⟨y,ys',rfl⟩:∃ y ys',ys=y::ys':=by
    cases ys with
    | nil=>simp at hlen
    | cons y ys'=>exact ⟨y,ys',rfl⟩
   simp only[shpFs] at h
   split at h
   ·rename_i a b ha hb
    split at h
    ·rename_i hc
     injection h with h
     subst h
     have h0:=hf 0 f rfl
     simp only[List.getElem?_cons_zero] at h0
     simp only[List.map_cons,DataW.weightsEach,List.mem_append] at hwt
     obtain ⟨xs,hxs⟩:=IH f.type _ y.1 y.2 a h0 ha (fun k hk=>hwt k (.inl hk))
     obtain ⟨xs',hxs'⟩:=fields_r3 cs IH r ys' (off+P.cellsOf f.type) b (by simpa using hlen) (fun i g hg=>by simpa using hf (i+1) g (by simpa using hg)) hb (fun k hk=>hwt k (.inr hk))
     refine ⟨xs++xs',?_⟩
     have:=hxs.app hxs'
     rw[hc.1,← hc.2] at this
     rw[List.length_append,List.take_add,List.drop_drop]
     exact this
    ·cases h
   ·cases h
theorem open_data {ok:Nat→Prop} (hok:∀ b,ok b):∀ (n:Nat) (t:TypeId) (cs:List Value) (d:DataW H) (ps:List MemPlace) (m:Nat) (ss:List Sh),DataW.trod enc P w base (fun _=>true) held n t cs=some (d,ps)→shp P m t=some ss →
  (∀ k∈d.weights P t,k≤reachBytes)→∃ xs,R3 ok w ss xs cs
 | 0,t,cs,d,ps,m,ss,h,_,_=>by simp[DataW.trod] at h
 | n+1,t,cs,d,ps,0,ss,_,h,_=>by simp[shp] at h
 | n+1,t,cs,d,ps,m+1,ss,h,hs,hwt=>by
   simp only[shp] at hs
   split at hs
   ·rename_i hu
    injection hs with hs;subst hs
    obtain ⟨b,rfl,_⟩:=DataW.trod_bool hu h
    exact ⟨[.bool b],.cons _ _ _ _ _ _ (.bool b) (.bool b) rfl .nil⟩
   ·rename_i k hu
    injection hs with hs;subst hs
    obtain ⟨z,rfl,_,hz⟩:=DataW.trod_int hu h
    simp only[Lit.wf,Bool.and_eq_true,decide_eq_true_eq] at hz
    exact ⟨[.int k z],.cons _ _ _ _ _ _ (.int k z hz.1 hz.2) (.int k z) rfl .nil⟩
   ·rename_i hu
    injection hs with hs;subst hs
    obtain ⟨s,rfl,hd,_⟩:=DataW.trod_string hu h
    injection hd with hd _
    subst hd
    have hl:=hwt s.data.toList.length (by simp[DataW.weights])
    refine ⟨[.str s.data.toList],.cons _ _ _ _ _ _ (.str _ hl) ?_ rfl .nil⟩
    have:=RepI.str (ok:=ok) (w:=w) s.data.toList
    simpa using this
   ·rename_i e hu
    split at hs
    ·rename_i s0 r0 he
     split at hs
     ·rename_i hc
      injection hs with hs;subst hs
      generalize hes:s0::r0=es at *
      have hpos:0<es.length:=by subst hes;simp
      rcases DataW.trod_slice hu h with ⟨rfl,_⟩ | ⟨a,len,cap,elems,rest,n',hn,rfl,hd,hb,hl,hm,hlen,hel,hsp,_⟩
      ·exact ⟨[.sl es.length []],.cons _ _ _ _ _ _ (.sl _ es [] (by simp[reachBytes]) (by simp) (by simp) (by simp)) (.nils _) rfl .nil⟩
      ·injection hn with hn
       subst hn
       injection hd with hd _
       subst hd
       obtain ⟨hw1,hw2⟩:=weights_slice hu hwt
       simp only[List.length_map] at hw1
       have each:∀ i,i<len→∃ row,∃ ci,w.cells? base (a.add (i*es.length)) es.length=some ci∧R3 ok w es row ci:=by
        intro i hi
        have h1:=hel i hi
        rw[List.getElem?_eq_getElem (by omega),Option.bind_eq_some_iff] at h1
        obtain ⟨ci,h2,h3⟩:=h1
        obtain ⟨xs,hx⟩:=open_data hok n e ci elems[i].1 elems[i].2 m es h3 he (hw2 _ (by simp;exact ⟨_,List.getElem_mem (by omega)⟩))
        exact ⟨xs,ci,by rw[hc];exact h2,hx⟩
       obtain ⟨rows,hrl,hrows⟩:=exists_list len _ each
       have fit:ShFit (.sl (P.bytesOf e) es) (.sl es.length rows):=by
        refine .sl _ es rows ?_ (by omega) (fun row hr=>?_) (fun row hr j s x hs hx=>?_)
        ·rw[hrl]
         have:=Nat.mul_le_mul_right (P.bytesOf e) (show len≤elems.length+rest.length by omega)
         omega
        ·obtain ⟨i,hi⟩:=List.getElem?_of_mem hr
         obtain ⟨ci,_,h3⟩:=hrows i row hi
         exact h3.len.1
        ·obtain ⟨i,hi⟩:=List.getElem?_of_mem hr
         obtain ⟨ci,_,h3⟩:=hrows i row hi
         have hj:=(List.getElem?_eq_some_iff.1 hs).1
         have hcl:=h3.len.2
         have hjc:j<ci.length:=by omega
         exact (h3.get j s x ci[j] hs hx (List.getElem?_eq_getElem hjc)).1
       refine ⟨[.sl es.length rows],.cons _ _ _ _ _ _ fit ?_ rfl .nil⟩
       by_cases hcap:cap=0
       ·have h0:len=0:=by omega
        subst hcap h0
        have:rows=[]:=List.eq_nil_of_length_eq_zero hrl
        subst this
        exact .nilz _ a
       have hspot:a.spot=none:=by
        have first:∃ c0,w.cells? base (a.add (0*P.cellsOf e)) (P.cellsOf e)=some c0:=by
         by_cases h0:0<len
         ·have h1:=hel 0 h0
          rw[List.getElem?_eq_getElem (by omega),Option.bind_eq_some_iff] at h1
          obtain ⟨c0,h2,_⟩:=h1
          exact ⟨c0,h2⟩
         ·obtain ⟨h1,h2⟩:=hsp rfl
          have h3:=h2 0 (by omega)
          rw[List.getElem?_eq_getElem (by omega),Option.bind_eq_some_iff] at h3
          obtain ⟨c0,h4,_⟩:=h3
          exact ⟨c0,by rw[show len+0=0 by omega] at h4;exact h4⟩
        obtain ⟨c0,h0⟩:=first
        obtain ⟨_,hl0,hc0⟩:=World.cells?_some h0
        have h1:=hc0 0 (by omega)
        rw[List.getElem?_eq_getElem (by omega)] at h1
        have h2:=World.cell?_spot h1
        obtain ⟨b,off,sp⟩:=a
        cases sp with
        | none=>rfl
        | some sp=>simp[Addr.add] at h2
       obtain ⟨b,off,sp⟩:=a
       simp only at hspot
       subst hspot
       have cellAt:∀ i j row ci,rows[i]?=some row→w.cells? base (Addr.add ⟨b,off,none⟩ (i*es.length)) es.length=some ci→j<es.length→w.cell? ⟨b,off+(i*es.length+j),none⟩=ci[j]?:=by
        intro i j row ci _ hci hj
        obtain ⟨_,hl0,hc0⟩:=World.cells?_some hci
        have:=hc0 j hj
        rw[addr_add,addr_add,Nat.add_assoc] at this
        exact this
       have key:∀ i j,i<len→j<es.length→∃ row ci,rows[i]?=some row∧R3 ok w es row ci∧w.cell? ⟨b,off+(i*es.length+j),none⟩=ci[j]?:=by
        intro i j hi hj
        have hrow:rows[i]?=some rows[i]:=List.getElem?_eq_getElem (by omega)
        obtain ⟨ci,h2,h3⟩:=hrows i _ hrow
        exact ⟨_,ci,hrow,h3,cellAt i j _ ci hrow h2 hj⟩
       have hrep:=RepI.sl (ok:=ok) (w:=w) es.length rows b off cap (fun k=>(w.cell? ⟨b,off+k,none⟩).getD undef) (by omega) hm (fun c hc=>by
        obtain ⟨i,hi⟩:=List.getElem?_of_mem hc
        obtain ⟨ci,_,h3⟩:=hrows i c hi
        exact h3.len.1) (fun k hk=>?_) (fun i j c x hi hj=>?_)
       ·rw[hrl] at hrep
        exact hrep
       ·rw[hrl] at hk
        have hi:k / es.length<len:=Nat.div_lt_of_lt_mul (by rw[Nat.mul_comm];exact hk)
        have hj:k % es.length<es.length:=Nat.mod_lt _ hpos
        obtain ⟨row,ci,h1,h2,h3⟩:=key _ _ hi hj
        have hk':k / es.length*es.length+k % es.length=k:=by rw[Nat.mul_comm];exact Nat.div_add_mod k es.length
        rw[hk'] at h3
        have hcl:=h2.len
        have hjc:k % es.length<ci.length:=by omega
        have hcj:ci[k % es.length]?=some ci[k % es.length]:=List.getElem?_eq_getElem hjc
        rw[hcj] at h3
        refine ⟨hok b,by rw[h3];rfl,?_⟩
        rw[h3]
        exact (h2.get _ _ _ _ (List.getElem?_eq_getElem hj) (List.getElem?_eq_getElem (by omega)) hcj).2.2
       ·have hil:=(List.getElem?_eq_some_iff.1 hi).1
        obtain ⟨row,hrowlen⟩:∃ r,r=c.length:=⟨_,rfl⟩
        have hcl:c.length=es.length:=by
         obtain ⟨ci,_,h3⟩:=hrows i c hi
         exact h3.len.1
        have hjl:=(List.getElem?_eq_some_iff.1 hj).1
        obtain ⟨row',ci,h1,h2,h3⟩:=key i j (by omega) (by omega)
        rw[hi] at h1
        injection h1 with h1
        subst h1
        have hjc:j<ci.length:=by
         have:=h2.len
         omega
        have hcj:ci[j]?=some ci[j]:=List.getElem?_eq_getElem hjc
        rw[hcj] at h3
        have:=(h2.get j _ x _ (List.getElem?_eq_getElem (by omega)) hj hcj).2.1
        show RepI ok w x ((w.cell? ⟨b,off+(i*es.length+j),none⟩).getD undef)
        rw[h3]
        exact this
     ·cases hs
    ·cases hs
   ·rename_i fs hu
    split at hs
    ·rename_i ss' hfs
     split at hs
     ·rename_i hc
      injection hs with hs;subst hs
      obtain ⟨ys,n',hn,hd,hcl,hyl,hf⟩:=DataW.trod_struct hu h
      injection hn with hn
      subst hn
      injection hd with hd _
      subst hd
      have hw':∀ k∈DataW.weightsEach P (fs.toList.map (·.type)) (ys.map (·.1)),k≤reachBytes:=by
       intro k hk
       exact hwt k (by simpa[DataW.weights,hu] using hk)
      obtain ⟨xs,hx⟩:=fields_r3 (ok:=ok) (m:=m) cs (fun t cs d ps ss h1 h2 h3=>open_data hok n t cs d ps m ss h1 h2 h3) fs.toList ys 0 ss' (by simpa using hyl) (fun i f hfi=>hf i f (by simpa using hfi)) hfs hw'
      refine ⟨xs,?_⟩
      rw[List.drop_zero,List.take_of_length_le (by omega)] at hx
      exact hx
     ·cases hs
    ·cases hs
   ·cases hs
end
end Go.Ev

/- From a contract of the evaluator to a row: for every input the law returns true, and what the input reads as is the same. -/
namespace Go.Ev
open Go Go.RowKit Go.ChangeShapes Go.WideShapes
def ArgOf (P:Program) (t:TypeId) (x:IV):Prop :=
 ∃ ss,shp P 6 t=some ss∧match P.underlying t with
  | some (.struct _)=>∃ xs,x=.agg xs∧xs.length=ss.length∧∀ (j:Nat) (s:Sh) (y:IV),ss[j]?=some s→xs[j]?=some y→ShFit s y
  | _=>∃ s,ss=[s]∧ShFit s x
theorem open_arg {H:Type} {enc:TypeId × Value→H} {P:Program} {W:World} {base:Nat} {ok:Nat→Prop} (hok:∀ b,ok b) {t:TypeId} {v:Value} {d:DataW H} {p:List MemPlace} {ss:List Sh}
  (hv:Value.okWide P W .any base t v) (h:DataW.Trod enc P W 0 (fun _=>true) true t v d p) (hs:shp P 6 t=some ss) (hw:∀ k∈d.weights P t,k≤reachBytes):∃ x,RepI ok W x v∧ArgOf P t x:=by
 obtain ⟨fuel,hf⟩:=h
 obtain ⟨xs,hr⟩:=open_data (ok:=ok) hok fuel t _ d p 6 ss hf hs hw
 have hl:=hr.len
 cases hu:P.underlying t with
 | none=>simp[shp,hu] at hs
 | some D =>
   have agg:∀ fs,D=.struct fs→∃ x,RepI ok W x v∧ArgOf P t x:=by
    intro fs hD
    subst hD
    obtain ⟨cs,rfl,_⟩:=okWide_struct hu hv
    have hc:(Value.agg cs).cells.toList=cs.toList:=rfl
    rw[hc] at hr hl
    refine ⟨.agg xs,?_,ss,hs,?_⟩
    ·have:=RepI.agg (ok:=ok) (w:=W) xs cs.toList (by omega) (fun u hu=>?_) (fun k x u hx hu=>?_)
     ·simpa using this
     ·obtain ⟨j,hj⟩:=List.getElem?_of_mem hu
      have hjl:=(List.getElem?_eq_some_iff.1 hj).1
      exact (hr.get j _ _ u (List.getElem?_eq_getElem (by omega)) (List.getElem?_eq_getElem (by omega)) hj).2.2
     ·have hjl:=(List.getElem?_eq_some_iff.1 hx).1
      exact (hr.get k _ x u (List.getElem?_eq_getElem (by omega)) hx hu).2.1
    ·rw[hu]
     refine ⟨xs,rfl,hl.1,fun j s y h1 h2=>?_⟩
     have hjl:=(List.getElem?_eq_some_iff.1 h1).1
     exact (hr.get j s y _ h1 h2 (List.getElem?_eq_getElem (by omega))).1
   have one:(∀ fs,D≠.struct fs)→v.cells=#[v]→ss.length=1→∃ x,RepI ok W x v∧ArgOf P t x:=by
    intro hD hc h1
    rw[hc] at hr
    obtain ⟨s,rfl⟩:=List.length_eq_one_iff.1 h1
    cases hr with
    | cons _ x _ _ xs' _ h1 h2 h3 h =>
      refine ⟨x,h2,[s],hs,?_⟩
      rw[hu]
      cases D with
      | struct fs=>exact absurd rfl (hD fs)
      | _=>exact ⟨s,rfl,h1⟩
   cases D with
   | struct fs=>exact agg fs rfl
   | bool =>
     simp only[shp,hu,Option.some.injEq] at hs
     obtain ⟨b,rfl⟩:=okWide_bool hu hv
     exact one (by simp) rfl (by rw[← hs];rfl)
   | int k =>
     simp only[shp,hu,Option.some.injEq] at hs
     obtain ⟨n,rfl⟩:=okWide_int hu hv
     exact one (by simp) rfl (by rw[← hs];rfl)
   | string =>
     simp only[shp,hu,Option.some.injEq] at hs
     obtain ⟨n,rfl⟩:=okWide_string hu hv
     exact one (by simp) rfl (by rw[← hs];rfl)
   | slice e =>
     have h1:ss.length=1:=by
      simp only[shp,hu] at hs
      split at hs
      ·split at hs
       ·injection hs with hs;rw[← hs];rfl
       ·cases hs
      ·cases hs
     obtain ⟨a,l,c,rfl⟩:=okWide_slice hu hv
     exact one (by simp) rfl h1
   | _=>simp[shp,hu] at hs
theorem open_args {H:Type} {enc:TypeId × Value→H} {P:Program} {W:World} {base:Nat} {ok:Nat→Prop} (hok:∀ b,ok b):∀ (ts:List TypeId) (vs:List Value) (ds:List (DataW H)) (p:List MemPlace),
  DataW.TrodAll enc P W 0 (fun _=>true) true ts vs ds p→(∀ (j:Nat) t v,ts[j]?=some t→vs[j]?=some v→Value.okWide P W .any base t v)→(∀ t∈ts,(shp P 6 t).isSome=true) →
  (∀ k∈DataW.weightsEach P ts ds,k≤reachBytes)→∃ xs:List IV,xs.length=vs.length∧vs.length=ts.length∧ds.length=ts.length∧(∀ (k:Nat) (x:IV) (u:Value),xs[k]?=some x→vs[k]?=some u→RepI ok W x u)∧(∀ (k:Nat) (x:IV) (t:TypeId),xs[k]?=some x→ts[k]?=some t→ArgOf P t x)
 | [],vs,ds,p,h,_,_,_=>by
   obtain ⟨rfl,rfl,rfl⟩:=trodAll_nil h
   exact ⟨[],rfl,rfl,rfl,by simp,by simp⟩
 | t::ts,vs,ds,p,h,hv,hs,hw=>by
   obtain ⟨v,vs',d,ds',a,b,rfl,rfl,rfl,h1,h2⟩:=trodAll_cons h
   simp only[DataW.weightsEach,List.mem_append] at hw
   obtain ⟨ss,hss⟩:=Option.isSome_iff_exists.1 (hs t (by simp))
   obtain ⟨x,hx1,hx2⟩:=open_arg hok (hv 0 t v rfl rfl) h1 hss (fun k hk=>hw k (.inl hk))
   obtain ⟨xs,e1,e2,e3,e4,e5⟩:=open_args hok ts vs' ds' b h2 (fun j t v h1 h2=>hv (j+1) t v (by simpa using h1) (by simpa using h2)) (fun t ht=>hs t (by simp[ht])) (fun k hk=>hw k (.inr hk))
   refine ⟨x::xs,by simp[e1],by simp[e2],by simp[e3],fun k y u hy hu=>?_,fun k y t' hy ht=>?_⟩
   ·cases k with
    | zero=>simp at hy hu;subst hy hu;exact hx1
    | succ k=>exact e4 k y u (by simpa using hy) (by simpa using hu)
   ·cases k with
    | zero=>simp at hy ht;subst hy ht;exact hx2
    | succ k=>exact e5 k y t' (by simpa using hy) (by simpa using ht)
theorem shut_args {H:Type} {enc:TypeId × Value→H} {P:Program} {W W':World} (hl:laidOutB P=true) (hb:Below W.heap.size W W'):∀ (ts:List TypeId) (vs:List Value) (ds:List (DataW H)) (p:List MemPlace),
  (∀ t∈ts,P.readableRec t=true∧t<P.types.size)→DataW.TrodAll enc P W 0 (fun _=>true) true ts vs ds p→DataW.TrodAll enc P W' 0 (fun b=>decide (b<W.heap.size)) true ts vs ds p
 | [],vs,ds,p,_,h=>by
   obtain ⟨rfl,rfl,rfl⟩:=trodAll_nil h
   exact trodAll_mk0
 | t::ts,vs,ds,p,hr,h=>by
   obtain ⟨v,vs',d,ds',a,b,rfl,rfl,rfl,h1,h2⟩:=trodAll_cons h
   have hlt:∀ x∈a,x.block<W.heap.size:=by obtain ⟨m,hm⟩:=h1;exact DataW.trod_lt m _ _ _ hm
   exact trodAll_cons_mk (Below.trod hl (hr t (by simp)).1 (hr t (by simp)).2 h1 hb hlt) (shut_args hl hb ts vs' ds' b (fun t ht=>hr t (by simp[ht])) h2)
theorem row_step {H:Type} {enc:TypeId × Value→H} {P:Program} {fn:Func} {N:FuncId} {s:ChangeSpec} {tb:TypeId} (hl:laidOutB P=true) (hvars:s.vars=[]) (hres:fn.resultTypes=#[tb]) (hbool:P.underlying tb=some .bool)
  (hread:∀ t∈fn.params.toList,P.readableRec t=true∧t<P.types.size) (hshp:∀ t∈fn.params.toList,(shp P 6 t).isSome=true)
  (hfn:∀ ds:List (DataW H),ds.length=fn.params.toList.length→s.fn H ds={ results:=[.lit (.bool true)],args:=ds }) {K:World→Prop}
  (hgood:∀ xs:List IV,xs.length=fn.params.toList.length→(∀ (k:Nat) (x:IV) (t:TypeId),xs[k]?=some x→fn.params.toList[k]?=some t→ArgOf P t x)→Good P K N xs (.bool true))
  (W:World) (base:Nat) (args:Array Value) (ds gs:List (DataW H)) (before:List MemPlace)
  (hval:∀ (j:Nat) t v,fn.params[j]?=some t→args[j]?=some v→Value.okWide P W .any base t v) (hW:DataW.Whole enc P fn.params.toList s.vars false W args.toList ds gs before)
  (hwt:∀ k∈DataW.weightsEach P fn.params.toList ds,k≤reachBytes) (hK:K W) :
  Calls P N args W fun e W'=>∃ v,e=.returned v∧s.post enc P fn false true false false W args v W':=by
 have hW':=hW
 obtain ⟨p,q,hA,hV,rfl,hfz,hnd⟩:=hW
 rw[hvars] at hV
 obtain ⟨rfl,rfl⟩:=trodVars_none hV
 obtain ⟨xs,e1,e2,e3,e4,e5⟩:=open_args (ok:=fun _=>True) (fun _=>trivial) fn.params.toList args.toList ds p hA (fun j t v h1 h2=>hval j t v (by simpa using h1) (by simpa using h2)) hshp hwt
 have hg:=hgood xs (by omega) e5 W (fun _=>True) args.toList hK (fun _ _=>trivial) (by omega) e4
 have ha:args.toList.toArray=args:=by simp
 rw[ha] at hg
 refine hg.mono fun e W' ⟨v,he,hr,bel⟩=>?_
 subst he
 cases hr
 have hspec:=hfn (ds++[]) (by simpa using e3)
 refine ⟨_,rfl,ds,[],p++[],[],p,[],hW',?_,?_,?_,bel.frame _,fun h=>by cases h⟩
 ·rw[hspec,hres]
  exact trodAll_mk1 (shut_bool hbool _)
 ·rw[hspec]
  simpa using shut_args hl bel fn.params.toList args.toList ds p hread hA
 ·rw[hvars,hspec]
  rfl
end Go.Ev
