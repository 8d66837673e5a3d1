/- Runs of a whole body, and what a caller may take of the function. -/
import Derived.Test.YtidcmjicfnjcjaaGreatEvThree
import Derived.RangeFuncIn
import Derived.Scope
set_option linter.all false

namespace Go.Ev
open Go Go.RowKit
inductive AC where
 | skip
 | ops (l:List AOper) (draw:Bool)
 | seq (x y:AC)
 | cond (c:Opd) (x y:AC)
 | block (id:Nat) (c:AC)
 | loop (c:AC) (ks ids:List Nat)
 | exit (id:Nat)
 | scope (c:AC)
 | label (l:Nat)
 | ret
 | nxt (d dx:Nat) (x:Opd) (id:Nat)
 | gh (id bid off:Nat) (e:TypeId) (sz:Nat) (c:AC)
 | frz (t id:Nat) (ks ids:List Nat) (c:AC)
 | range (f:Opd) (ps:List Nat) (asn body:AC) (ks ids:List Nat)
 | fz (ks ids:List Nat) (c:AC)
 deriving Inhabited
inductive Way where
 | fall
 | ret
 | exit (id:Nat)
 deriving DecidableEq
inductive AI where
 | code (c:AC)
 | inBlock (id:Nat)
 | inLoop (c:AC) (ks ids:List Nat)
 | inScope
inductive ARes where
 | tmp (t:Nat)
 | cell (t n:Nat) (ag:Bool)
def codeFits (P:Program) (N:Fm):AC→Code→Bool
 | .gh _ _ _ _ _ c,c'=>codeFits P N c c'
 | .frz _ _ _ _ c,c'=>codeFits P N c c'
 | .fz _ _ c,c'=>codeFits P N c c'
 | .range f ps x y ks _,.rangeFunc f' ps' x' y'=>f.is f'&&ps==ps'.toList&&ps.all (fun p=>decide (p<N.n)&&!ks.contains p)&&codeFits P ⟨N.n,ks⟩ x x'&&codeFits P ⟨N.n,ks⟩ y y'
 | .nxt d dx x _,.region _ ops d'=>!d'&&nxtFits N d dx x ops
 | .skip,.skip=>true
 | .ops l d,.region _ ops d'=>d==d'&&regionFits P N l ops d
 | .seq x y,.seq x' y'=>codeFits P N x x'&&codeFits P N y y'
 | .cond c x y,.cond c' x' y'=>c.is c'&&codeFits P N x x'&&codeFits P N y y'
 | .block id c,.block id' c'=>id==id'&&codeFits P N c c'
 | .loop c _ _,.loop c'=>codeFits P N c c'
 | .exit id,.exit id'=>id==id'
 | .scope c,.scope c'=>codeFits P N c c'
 | .label l,.label l'=>l==l'
 | .ret,.ret=>true
 | _,_=>false
def exitA (id:Nat):List AI→Option (List AI)
 | .inBlock id'::k=>if id'==id then some k else exitA id k
 | _::k=>exitA id k
 | []=>none
def keepE (ks ids:List Nat) (e:Env):Env:=ks.map fun t=>(t,scr ids (look e t))
def keepO (all:List Nat) (o:Objs):List Nat→Objs
 | []=>[]
 | id::r=>match lookO o id with
   | some x=>(id,scrO all x)::keepO all o r
   | none=>keepO all o r
def lodO (ids:List Nat) (o:Objs):Nat→Option AO:=fun i=>if ids.contains i then none else lookO o i
def subA (lod:Nat→Option AO) (ids:List Nat) (x:AV):AV:=match imm lod 40 x with
 | some y=>.iv y
 | none=>scr ids x
def subL (lod:Nat→Option AO) (ids:List Nat):List AV→List AV
 | []=>[]
 | x::r=>subA lod ids x::subL lod ids r
def subO (lod:Nat→Option AO) (ids:List Nat):AO→AO
 | .box cs=>.box (subL lod ids cs)
 | .arr e sz es mv=>.arr e sz (es.map (subL lod ids)) mv
 | o=>o
def subE (lod:Nat→Option AO) (ks ids:List Nat) (e:Env):Env:=match ks with
 | []=>[]
 | t::r=>(t,subA lod ids (look e t))::subE lod r ids e
def subOs (lod:Nat→Option AO) (all:List Nat) (o:Objs):List Nat→Objs
 | []=>[]
 | id::r=>match lookO o id with
   | some x=>(id,subO lod all x)::subOs lod all o r
   | none=>subOs lod all o r
def resV (e:Env) (o:Objs):ARes→Option IV
 | .tmp t=>imm (lookO o) 40 (look e t)
 | .cell t n ag=>match look e t with
   | .loc id off=>match lookO o id with
     | some (.box cs)=>match ag with
       | true=>if off+n≤cs.length then (imms (lookO o) 40 ((cs.drop off).take n)).map .agg else none
       | false=>if n=1 then (match cs[off]? with | some c=>imm (lookO o) 40 c | none=>none) else none
     | _=>none
   | _=>none
def resVs (e:Env) (o:Objs):List ARes→Option (List IV)
 | []=>some []
 | x::r=>match resV e o x,resVs e o r with
   | some y,some ys=>some (y::ys)
   | _,_=>none
def retV (res:List ARes) (e:Env) (o:Objs):Option IV :=
 match resVs e o res with
 | some [x]=>some x
 | some xs=>some (.tup xs)
 | none=>none
def resFits (P:Program):List ARes→List ResultVar→Bool
 | [],[]=>true
 | .tmp t::r,.tmp t'::s=>t==t'&&resFits P r s
 | .cell t n ag::r,.cell t' T::s=>t==t'&&Program.agg P T==some ag&&Program.sizeIs P T n&&resFits P r s
 | _,_=>false
def bindP:List Nat→List IV→Env→Env
 | p::ps,x::xs,e=>bindP ps xs ((p,.iv x)::e)
 | _,_,e=>e
def cloOf:AV→Option (FuncId × List IV × List IV)
 | .iv (.fn g)=>some (g,[],[])
 | .iv (.clo g fs cs)=>some (g,fs,cs)
 | _=>none
def Way.jump:Way→Option AC
 | .fall=>none
 | .ret=>some .ret
 | .exit id=>some (.exit id)
def jumpK (wy:Way) (k:List AI):List AI :=
 match wy.jump with
 | none=>k
 | some c=>.code c::k
inductive WpF (P:Program) (K:World→Prop):(Way→Env→Objs→Prop)→List AI→Env→Objs→Prop
 | skip (F:Way→Env→Objs→Prop) (k:List AI) (e:Env) (o:Objs) (h:WpF P K F k e o):WpF P K F (.code .skip::k) e o
 | region (F:Way→Env→Objs→Prop) (l:List AOper) (draw:Bool) (k:List AI) (e:Env) (o:Objs) (C:Env→Objs→Prop) (h:runOps P K C l e o) (hC:∀ e o,C e o→WpF P K F k e o):WpF P K F (.code (.ops l draw)::k) e o
 | seq (F:Way→Env→Objs→Prop) (x y:AC) (k:List AI) (e:Env) (o:Objs) (h:WpF P K F (.code x::.code y::k) e o):WpF P K F (.code (.seq x y)::k) e o
 | cond (F:Way→Env→Objs→Prop) (c:Opd) (x y:AC) (k:List AI) (e:Env) (o:Objs) (b:Bool) (hc:c.av (look e)=.iv (.bool b)) (ht:b=true→WpF P K F (.code x::k) e o) (hf:b=false→WpF P K F (.code y::k) e o) :
   WpF P K F (.code (.cond c x y)::k) e o
 | block (F:Way→Env→Objs→Prop) (id:Nat) (c:AC) (k:List AI) (e:Env) (o:Objs) (h:WpF P K F (.code c::.inBlock id::k) e o):WpF P K F (.code (.block id c)::k) e o
 | inBlock (F:Way→Env→Objs→Prop) (id:Nat) (k:List AI) (e:Env) (o:Objs) (h:WpF P K F k e o):WpF P K F (.inBlock id::k) e o
 | loop (F:Way→Env→Objs→Prop) (c:AC) (ks ids:List Nat) (k:List AI) (e:Env) (o:Objs) (h:WpF P K F (.code c::.inLoop c ks ids::k) (keepE ks ids e) (keepO ids o ids)):WpF P K F (.code (.loop c ks ids)::k) e o
 | inLoop (F:Way→Env→Objs→Prop) (c:AC) (ks ids:List Nat) (k:List AI) (e:Env) (o:Objs) (h:WpF P K F (.code c::.inLoop c ks ids::k) (keepE ks ids e) (keepO ids o ids)):WpF P K F (.inLoop c ks ids::k) e o
 | scope (F:Way→Env→Objs→Prop) (c:AC) (k:List AI) (e:Env) (o:Objs) (h:WpF P K F (.code c::.inScope::k) e o):WpF P K F (.code (.scope c)::k) e o
 | inScope (F:Way→Env→Objs→Prop) (k:List AI) (e:Env) (o:Objs) (h:WpF P K F k e o):WpF P K F (.inScope::k) e o
 | label (F:Way→Env→Objs→Prop) (l:Nat) (k:List AI) (e:Env) (o:Objs) (h:WpF P K F k e o):WpF P K F (.code (.label l)::k) e o
 | exit (F:Way→Env→Objs→Prop) (id:Nat) (k k':List AI) (e:Env) (o:Objs) (hk:exitA id k=some k') (h:WpF P K F k' e o):WpF P K F (.code (.exit id)::k) e o
 | nxt (F:Way→Env→Objs→Prop) (d dx:Nat) (x:Opd) (id:Nat) (k:List AI) (e:Env) (o:Objs) (kvs:List (MK × IV)) (seen:List Nat) (hx:x.av (look e)=.oref id) (ho:lookO o id=some (.miter kvs seen))
   (hend:(∀ i,i<kvs.length→i∈seen)→WpF P K F k (bnd (some dx) (.iv (.bool false)) (bnd (some d) (.iv (.tup [.bool false])) e)) o)
   (hmore:∀ i q,kvs[i]?=some q→i ∉ seen→WpF P K F k (bnd (some dx) (.iv (.bool true)) (bnd (some d) (.iv (.tup [.bool true,q.1.iv,q.2])) e)) (setOL id (.miter kvs (i::seen)) o)):WpF P K F (.code (.nxt d dx x id)::k) e o
 | gh (F:Way→Env→Objs→Prop) (id bid off:Nat) (t:TypeId) (sz:Nat) (c:AC) (k:List AI) (e:Env) (o:Objs) (cs:List AV) (hid:lookO o id=none) (hb:lookO o bid=some (.box cs)) (hc:cs[off]?=some (.nilr sz))
   (h:WpF P K F (.code c::k) e (setOL bid (.box (cs.set off (.aref id 0))) (setOL id (.arr t sz [] 0) o))):WpF P K F (.code (.gh id bid off t sz c)::k) e o
 | ret (F:Way→Env→Objs→Prop) (k:List AI) (e:Env) (o:Objs) (h:F .ret e o):WpF P K F (.code .ret::k) e o
 | done (F:Way→Env→Objs→Prop) (e:Env) (o:Objs) (h:F .fall e o):WpF P K F [] e o
 | exitOut (F:Way→Env→Objs→Prop) (id:Nat) (k:List AI) (e:Env) (o:Objs) (hk:exitA id k=none) (h:F (.exit id) e o):WpF P K F (.code (.exit id)::k) e o
 | frz (F:Way→Env→Objs→Prop) (t id:Nat) (ks ids:List Nat) (c:AC) (k:List AI) (e:Env) (o:Objs) (cs:List AV) (xs:List IV) (ht:look e t=.loc id 0) (hb:lookO o id=some (.box cs)) (hc:ivs cs=some xs) (hn:ids.contains id=false)
   (h:WpF P K F (.code c::k) (bnd (some t) (.iv (.ptr xs)) (keepE ks ids e)) (keepO ids o ids)):WpF P K F (.code (.frz t id ks ids c)::k) e o
 | range (F:Way→Env→Objs→Prop) (f:Opd) (ps:List Nat) (asn body:AC) (ks ids:List Nat) (k:List AI) (e:Env) (o:Objs) (g:FuncId) (fs cs:List IV) (L:List (List IV)) (St:Nat→Objs) (Wy:Nat→Way) (m:Nat) (M:Nat→Env→Objs→Prop)
   (hf:cloOf (f.av (look e))=some (g,fs,cs)) (hc:callee P g=true) (hit:IterX P K g fs cs L) (h0:St 0=keepO ids o ids) (hm:m≤L.length) (hall:∀ i,i+1<m→Wy i=.fall) (hend:m=L.length∨(0<m∧Wy (m-1)≠.fall))
   (hlen:∀ i x,i<m→L[i]?=some x→x.length=ps.length)
   (h1:∀ i x,i<m→L[i]?=some x→WpF P K (fun wy e1 o1=>wy=.fall∧M i e1 o1) [.code asn] (bindP ps x (keepE ks ids e)) (St i))
   (h2:∀ i e1 o1,i<m→M i e1 o1→WpF P K (fun wy e2 o2=>wy=Wy i∧keepE ks ids e2=keepE ks ids e∧keepO ids o2 ids=St (i+1)) [.code body] e1 o1)
   (h3:WpF P K F (jumpK (if m=0 then .fall else Wy (m-1)) k) (keepE ks ids e) (St m)):WpF P K F (.code (.range f ps asn body ks ids)::k) e o
 | fz (F:Way→Env→Objs→Prop) (ks ids:List Nat) (c:AC) (k:List AI) (e:Env) (o:Objs)
   (h:WpF P K F (.code c::k) (subE (lodO ids o) ks ids e) (subOs (lodO ids o) ids o ids)):WpF P K F (.code (.fz ks ids c)::k) e o
def RetIs (res:List ARes) (r:IV) (e:Env) (o:Objs):Prop:=retV res e o=some r
inductive Fit (P:Program) (N:Fm) (tl:List Item):List AI→List Item→Prop
 | nil:Fit P N tl [] tl
 | code (c:AC) (c':Code) (k:List AI) (k':List Item) (h:codeFits P N c c'=true) (hk:Fit P N tl k k'):Fit P N tl (.code c::k) (.code c'::k')
 | inBlock (id:Nat) (k:List AI) (k':List Item) (hk:Fit P N tl k k'):Fit P N tl (.inBlock id::k) (.inBlock id::k')
 | inScope (c':Code) (k:List AI) (k':List Item) (hk:Fit P N tl k k'):Fit P N tl (.inScope::k) (.inScope c'::k')
 | inLoop (c:AC) (c':Code) (ks ids:List Nat) (k:List AI) (k':List Item) (h:codeFits P N c c'=true) (hk:Fit P N tl k k'):Fit P N tl (.inLoop c ks ids::k) (.inLoop c'::k')
theorem Fit.exit {P:Program} {N:Fm} {tl:List Item} {id:Nat} {k:List AI} {k':List Item} (h:Fit P N tl k k'):∀ {j:List AI},exitA id k=some j→∃ j',exitTo id k'=some j'∧Fit P N tl j j':=by
 induction h with
 | nil=>intro j hj;simp[exitA] at hj
 | code c c' k k' h hk ih=>intro j hj;simp only[exitA] at hj;simp only[exitTo];exact ih hj
 | inBlock id' k k' hk ih =>
   intro j hj
   simp only[exitA] at hj
   simp only[exitTo]
   split at hj
   ·rename_i hid
    injection hj with hj
    subst hj
    exact ⟨k',by rw[if_pos hid],hk⟩
   ·rename_i hid
    obtain ⟨j',h1,h2⟩:=ih hj
    exact ⟨j',by rw[if_neg hid];exact h1,h2⟩
 | inScope c' k k' hk ih=>intro j hj;simp only[exitA] at hj;simp only[exitTo];exact ih hj
 | inLoop c c' ks ids k k' h hk ih=>intro j hj;simp only[exitA] at hj;simp only[exitTo];exact ih hj
theorem Fit.exitOut {P:Program} {N:Fm} {tl:List Item} {id:Nat} (htl:exitTo id tl=none) {k:List AI} {k':List Item} (h:Fit P N tl k k') (hj:exitA id k=none):exitTo id k'=none:=by
 induction h with
 | nil=>exact htl
 | code c c' k k' h hk ih=>simp only[exitA] at hj;simp only[exitTo];exact ih hj
 | inBlock id' k k' hk ih =>
   simp only[exitA] at hj
   simp only[exitTo]
   split at hj
   ·cases hj
   ·rename_i hid
    rw[if_neg hid]
    exact ih hj
 | inScope c' k k' hk ih=>simp only[exitA] at hj;simp only[exitTo];exact ih hj
 | inLoop c c' ks ids k k' h hk ih=>simp only[exitA] at hj;simp only[exitTo];exact ih hj
def Reach (P:Program) (f:FuncId) (cs:List Frame) (m:Machine) (R:Value→World→Prop):Prop :=
 ∃ w' fr v,Steps P m (lone fr cs w')∧fr.fn=f∧fr.leaving P w' (.returned v)∧R v w'
theorem Reach.steps {P:Program} {f:FuncId} {cs:List Frame} {m m':Machine} {R:Value→World→Prop} (h:Steps P m m') (hr:Reach P f cs m' R):Reach P f cs m R :=
 let ⟨w',fr,v,h1,h2⟩:=hr
 ⟨w',fr,v,h.trans h1,h2⟩
section
variable {P:Program} {K:World→Prop} {ok0:Nat→Prop} {N:Fm} {w0:Base} {a:Act} {w:World} {L:Nat→Lay}
mutual
theorem scr_rep {ok ok':Nat→Prop} {lo lo':Nat→Option AO} {ids:List Nat} (hok:∀ b,ok b→ok' b) (hlo:∀ id o,ids.contains id=true→lo id=some o→lo' id=some (scrO ids o)) :
  ∀ {x:AV} {v:Value},RepA ok w lo L x v→RepA ok' w lo' L (scr ids x) v
 | .iv x,v,h=>by
   cases h with
   | iv _ _ r=>exact .iv _ _ (r.mono fun b hb _=>⟨hok b hb,rfl⟩)
 | .agg cs,v,h=>by
   cases h with
   | agg _ vs hl h1 hx =>
     simp only[scr]
     obtain ⟨h2,h3⟩:=scrL_rep hok hlo hl hx
     exact .agg _ vs h2 h1 h3
 | .loc id off,v,h=>by
   cases h with
   | loc _ _ cs b ho hL =>
     simp only[scr]
     split
     ·rename_i hc
      exact .loc id off (scrL ids cs) b (hlo id _ hc ho) hL
     ·exact .iv _ _ (.any _)
 | .aref id n,v,h=>by
   simp only[scr]
   split
   ·rename_i hc
    generalize hq:AV.aref id n=q at h
    cases h with
    | iv=>cases hq
    | agg=>cases hq
    | loc=>cases hq
    | eloc=>cases hq
    | nilr=>cases hq
    | mref=>cases hq
    | oref=>cases hq
    | omap=>cases hq
    | orow=>cases hq
    | obytes=>cases hq
    | belem=>cases hq
    | clo=>cases hq
    | tup=>cases hq
    | cb=>cases hq
    | aref i2 e2 sz2 es2 mv2 v2 xs hob2 hL hsl =>
      injection hq with hq1 hq2
      subst hq1 hq2
      have:=RepA.aref (ok:=ok') (w:=w) id e2 sz2 (es2.map (scrL ids)) mv2 v xs (hlo id _ hc hob2) hL hsl
      rwa [List.length_map] at this
    | old i2 n2 e2 sz2 es2 mv2 v2 _ xs hob2 hL hsl hn2 hv =>
      injection hq with hq1 hq2
      subst hq1 hq2
      refine .old id n e2 sz2 (es2.map (scrL ids)) mv2 v2 v xs (hlo id _ hc hob2) hL hsl (by simpa using hn2) fun hm=>?_
      rcases hv hm with h | ⟨b,cap,h1,h2,h3,h4⟩
      ·exact .inl h
      ·exact .inr ⟨b,cap,h1,h2,h3,fun k hk=>⟨(h4 k hk).1.imp (hok b) (fun h=>h),(h4 k hk).2⟩⟩
   ·exact .iv _ _ (.any _)
 | .eloc id n i off,v,h=>by
   simp only[scr]
   split
   ·rename_i hc
    cases h with
    | eloc _ _ _ _ e2 sz2 es2 mv2 v2 xs b hob2 hL hn2 hv =>
      refine .eloc id n i off e2 sz2 (es2.map (scrL ids)) mv2 v2 xs b (hlo id _ hc hob2) hL (by simpa using hn2) fun hm=>?_
      obtain ⟨h1,h2,h3⟩:=hv hm
      exact ⟨h1,fun e=>h2 (by simpa using e),fun k hk=>⟨(h3 k hk).1.imp (hok b) (fun h=>h),(h3 k hk).2⟩⟩
   ·exact .iv _ _ (.any _)
 | .nilr sz,v,h=>by
   cases h with
   | nilr=>exact .nilr sz
 | .mref id k n,v,h=>by
   simp only[scr]
   split
   ·rename_i hc
    cases h with
    | mref _ _ _ e2 sz2 kvs pend b vals _ ho hL hs hnn hv=>exact .mref id k n e2 sz2 kvs pend b vals v (hlo id _ hc ho) hL hs hnn hv
   ·exact .iv _ _ (.any _)
 | .oref id,v,h=>by
   simp only[scr]
   split
   ·rename_i hc
    cases h with
    | oref _ b ob ho hn hL=>exact .oref id b _ (hlo id _ hc ho) (by cases ob<;>first | exact hn | cases hn) hL
    | omap _ b kvs ho hL=>exact .omap id b kvs (hlo id _ hc ho) hL
    | orow _ b e2 sz2 kvs pend vals ho hL=>exact .orow id b e2 sz2 kvs pend vals (hlo id _ hc ho) hL
    | obytes _ b cap s ho hL=>exact .obytes id b cap s (hlo id _ hc ho) hL
   ·exact .iv _ _ (.any _)
 | .belem id i,v,h=>by
   simp only[scr]
   split
   ·rename_i hc
    cases h with
    | belem _ _ b s ho hL hi=>exact .belem id i b s (hlo id _ hc ho) hL hi
   ·exact .iv _ _ (.any _)
 | .clo g fs cs,v,h=>by
   cases h with
   | clo _ _ _ us vs h1 h2 hf hc =>
     simp only[scr]
     obtain ⟨a1,a2⟩:=scrL_rep hok hlo h1 hf
     obtain ⟨b1,b2⟩:=scrL_rep hok hlo h2 hc
     exact .clo g _ _ us vs a1 b1 a2 b2
 | .tup cs,v,h=>by
   cases h with
   | tup _ vs hl hx =>
     simp only[scr]
     obtain ⟨h2,h3⟩:=scrL_rep hok hlo hl hx
     exact .tup _ vs h2 h3
 | .cb id,v,h=>by
   simp only[scr]
   split
   ·rename_i hc
    cases h with
    | cb _ s O D ho hL=>exact .cb id s O D (hlo id _ hc ho) hL
   ·exact .iv _ _ (.any _)
theorem scrL_rep {ok ok':Nat→Prop} {lo lo':Nat→Option AO} {ids:List Nat} (hok:∀ b,ok b→ok' b) (hlo:∀ id o,ids.contains id=true→lo id=some o→lo' id=some (scrO ids o)) :
  ∀ {cs:List AV} {vs:List Value},vs.length=cs.length→(∀ (k:Nat) (x:AV) (u:Value),cs[k]?=some x→vs[k]?=some u→RepA ok w lo L x u) →
   vs.length=(scrL ids cs).length∧∀ (k:Nat) (x:AV) (u:Value),(scrL ids cs)[k]?=some x→vs[k]?=some u→RepA ok' w lo' L x u
 | [],vs,hl,_=>⟨by simpa[scrL] using hl,by simp[scrL]⟩
 | x::r,[],hl,_=>by simp at hl
 | x::r,v::vs,hl,hx=>by
   obtain ⟨h1,h2⟩:=scrL_rep hok hlo (cs:=r) (vs:=vs) (by simpa using hl) (fun k y u hy hu=>hx (k+1) y u (by simpa using hy) (by simpa using hu))
   refine ⟨by simp[scrL,h1],fun k y u hy hu=>?_⟩
   cases k with
   | zero =>
     simp[scrL] at hy hu
     subst hy hu
     exact scr_rep hok hlo (hx 0 x v (by simp) (by simp))
   | succ k=>exact h2 k y u (by simpa[scrL] using hy) (by simpa using hu)
end
theorem scrL_len (ids:List Nat):∀ cs:List AV,(scrL ids cs).length=cs.length
 | []=>rfl
 | x::r=>by simp[scrL,scrL_len ids r]
theorem look_keepE (ids:List Nat) (e:Env):∀ (ks:List Nat) (t:Nat),look (keepE ks ids e) t=.iv .any∨look (keepE ks ids e) t=scr ids (look e t)
 | [],t=>.inl rfl
 | k::r,t=>by
   simp only[keepE,List.map_cons,look]
   split
   ·rename_i h;subst h;exact .inr rfl
   ·exact look_keepE ids e r t
theorem lookO_keepO (all:List Nat) (o:Objs):∀ (l:List Nat) (id:Nat),lookO (keepO all o l) id=if l.contains id then (lookO o id).map (scrO all) else none
 | [],id=>by simp[keepO,lookO]
 | i::r,id=>by
   simp only[keepO]
   split
   ·rename_i x hx
    simp only[lookO,lookO_keepO all o r id]
    by_cases h:id=i
    ·subst h;simp[hx]
    ·simp[h]
   ·rename_i hx
    rw[lookO_keepO all o r id]
    by_cases h:id=i
    ·subst h;simp[hx]
    ·simp[h]
theorem Rel.keep {e:Env} {o:Objs} (h:Rel ok0 N w0 (look e) (lookO o) a w L) (ks ids:List Nat):Rel ok0 N w0 (look (keepE ks ids e)) (lookO (keepO ids o ids)) a w L:=by
 have hlo:∀ id ob,ids.contains id=true→lookO o id=some ob→lookO (keepO ids o ids) id=some (scrO ids ob):=by
  intro id ob hc hob
  rw[lookO_keepO,if_pos hc,hob];rfl
 have hinv:∀ id ob,lookO (keepO ids o ids) id=some ob→∃ ob0,lookO o id=some ob0∧ob=scrO ids ob0:=by
  intro id ob hob
  rw[lookO_keepO] at hob
  split at hob
  ·cases hq:lookO o id with
   | none=>simp[hq] at hob
   | some q=>simp[hq] at hob;exact ⟨q,rfl,hob.symm⟩
  ·cases hob
 have hok:∀ b,okL ok0 (lookO o) L b→okL ok0 (lookO (keepO ids o ids)) L b:=fun b hb =>
  ⟨hb.1,fun id ob hob=>by obtain ⟨q,hq,_⟩:=hinv id ob hob;exact hb.2 id q hq⟩
 refine ⟨h.below,h.defers.stay (fun _ _ _=>rfl) (fun r _ hn i oi hi=>by obtain ⟨q,hq,_⟩:=hinv i oi hi;exact hn i q hq),h.size,fun t=>?_,fun id ob hob=>?_,fun i j oi oj b hij hi hj=>?_,h.pin⟩
 ·rcases look_keepE ids e ks t with hq | hq
  ·rw[hq];exact .iv _ _ (.any _)
  ·rw[hq];exact scr_rep hok hlo (h.env t)
 ·obtain ⟨q,hq,rfl⟩:=hinv id ob hob
  have:=h.objs id q hq
  revert this
  generalize L id=l
  intro this
  have dat:q.data=true→scrO ids q=q→ObjRep w0.fr (okL ok0 (lookO (keepO ids o ids)) L) w (lookO (keepO ids o ids)) L (scrO ids q) l:=fun hd he=>by
   rw[he]
   exact this.stay (Keep.refl _ _) h.frl (fun _ _ _=>rfl) (fun b hb _=>⟨hok b hb,rfl⟩) (fun hf=>by rw[hd] at hf;cases hf)
  cases q with
  | mapd kvs=>exact dat rfl rfl
  | mapr e sz kvs pend=>exact dat rfl rfl
  | siter s pos=>exact dat rfl rfl
  | miter kvs seen=>exact dat rfl rfl
  | bytes s=>exact dat rfl rfl
  | ext s=>exact dat rfl rfl
  | box cs =>
    cases l with
    | arr v xs=>exact this
    | one b=>exact this
    | map b vals=>exact this
    | ext O D=>exact this
    | box b =>
      obtain ⟨hB,t,vs,hb,hl,h1,hx⟩:=this
      obtain ⟨h2,h3⟩:=scrL_rep hok hlo hl hx
      exact ⟨hB,t,vs,hb,h2,h1,h3⟩
  | arr e sz es mv =>
    cases l with
    | box b=>exact this
    | one b=>exact this
    | map b vals=>exact this
    | ext O D=>exact this
    | arr v xs =>
      obtain ⟨hown,hm,hs,h1,hx⟩:=this
      refine ⟨by rw[List.length_map];exact hown,by rw[List.length_map];exact hm,fun c hc=>?_,h1,fun i j c x u hi hj hu=>?_⟩
      ·obtain ⟨d,hd,rfl⟩:=List.mem_map.1 hc
       rw[scrL_len];exact hs d hd
      ·rw[List.getElem?_map,Option.map_eq_some_iff] at hi
       obtain ⟨d,hd,rfl⟩:=hi
       have hjl:j<d.length:=by rw[← scrL_len ids];exact (List.getElem?_eq_some_iff.1 hj).1
       have hds:d.length=sz:=hs d (List.mem_of_getElem? hd)
       have hil:i<es.length:=(List.getElem?_eq_some_iff.1 hd).1
       -- the cells of this element
       have hvl:((xs.drop (i*sz)).take sz).length=d.length:=by
        have hxl:xs.length=es.length*sz:=hown.own.1
        have:(i+1)*sz≤es.length*sz:=Nat.mul_le_mul_right sz hil
        rw[Nat.add_mul] at this
        simp;omega
       obtain ⟨_,h3⟩:=scrL_rep (cs:=d) (vs:=(xs.drop (i*sz)).take sz) hok hlo hvl (fun k y u' hy hu'=>by
        rw[List.getElem?_take] at hu'
        split at hu'
        ·rw[List.getElem?_drop] at hu'
         exact hx i k d y u' hd hy hu'
        ·cases hu')
       refine h3 j x u hj ?_
       rw[List.getElem?_take,if_pos (by omega),List.getElem?_drop]
       exact hu
 ·obtain ⟨p,hp,_⟩:=hinv i oi hi
  obtain ⟨q,hq,_⟩:=hinv j oj hj
  exact h.apart i j p q b hij hp hq
end
end Go.Ev

/- A range over a function: its record, its rounds. -/
namespace Go.Ev
open Go Go.RowKit
def Around (b:Frame) (w0:Base):Prop:=∀ l,b.roundOf=some l→w0.fr l∧∃ r,w0.w.heap[l]?=some (.loop r)
theorem Around.le {b:Frame} {w0 w1:Base} (h:Around b w0) (hl:w0.le w1):Around b w1:=fun l hb=>by
 obtain ⟨h1,r,h2⟩:=h l hb
 exact ⟨hl.fr l h1,r,(hl.keep.block l h1).trans h2⟩
def AtWay (tl:List Item):Way→List Item→Prop
 | .fall,k=>k=tl
 | .ret,k=>∃ k1,k=.code .ret::k1
 | .exit id,k=>∃ k1,k=.code (.exit id)::k1∧exitTo id k1=none
def Ends (P:Program) (F:Way→Env→Objs→Prop) (b:Frame) (cs:List Frame) (tl:List Item) (N:Fm) (ok0:Nat→Prop) (w0:Base) (m:Machine):Prop :=
 ∃ wy e o a w w1 L k,F wy e o∧w0.le w1∧Rel ok0 N w1 (look e) (lookO o) a w L∧AtWay tl wy k∧Steps P m (lone (b.atR a k) cs w)
theorem Ends.steps {P:Program} {F:Way→Env→Objs→Prop} {b:Frame} {cs:List Frame} {tl:List Item} {N:Fm} {ok0:Nat→Prop} {w0 w1:Base} {m m':Machine} (hs:Steps P m m') (hl:w0.le w1) (h:Ends P F b cs tl N ok0 w1 m'):Ends P F b cs tl N ok0 w0 m:=by
 obtain ⟨wy,e,o,a,w,w2,L,k,h1,h2,h3,h4,h5⟩:=h
 exact ⟨wy,e,o,a,w,w2,L,k,h1,hl.trans h2,h3,h4,hs.trans h5⟩
def SemRun (P:Program) (K:World→Prop) (F:Way→Env→Objs→Prop) (k:List AI) (e:Env) (o:Objs):Prop :=
 ∀ (b:Frame) (cs:List Frame) (tl:List Item) (_:∀ id,exitTo id tl=none) (N:Fm) (ok0:Nat→Prop) (w0:Base) (_:Ctx P K ok0 w0) (_:Around b w0) (k':List Item) (a:Act) (w:World) (L:Nat→Lay),
  Fit P N tl k k'→Rel ok0 N w0 (look e) (lookO o) a w L→Ends P F b cs tl N ok0 w0 (lone (b.atR a k') cs w)
theorem Below.trans' {n:Nat} {a b c:World} (h:Below n a b) (k:Below b.heap.size b c) (hn:n≤b.heap.size):Below n a c :=
 ⟨k.os.trans h.os,k.tape.trans h.tape,k.output.trans h.output,Nat.le_trans h.size k.size,fun i hi=>(k.block i (Nat.lt_of_lt_of_le hi hn)).trans (h.block i hi)⟩
section
variable {P:Program} {K:World→Prop} {ok0:Nat→Prop} {N:Fm} {w0:Base} {lk:Nat→AV} {lo:Nat→Option AO} {a:Act} {w:World} {L:Nat→Lay} {b:Frame}
theorem Rel.redefer {ds:List Deferred} (h:Rel ok0 N w0 lk lo a w L) (hd:Marks w0.fr lo L w ds):Rel ok0 N w0 lk lo { a with defers:=ds } w L :=
 ⟨h.below,hd,h.size,h.env,h.objs,h.apart,h.pin⟩
theorem enter_rel (hro:Around b w0) (h:Rel ok0 N w0 lk lo a w L) (ps:Array Tmp) (assign body:Code) :
  ∃ (l:Nat) (mk:List Deferred) (w2:World) (r:Loop),(Instr.enterLoop b.fn a.tmps ps assign body b.roundOf).run P w=.ok (l,mk) w2∧Below w.heap.size w w2∧w.heap.size≤l∧w2.heap[l]?=some (.loop r) ∧
   (r.fn=b.fn∧r.tmps=a.tmps∧r.params=ps∧r.assign=assign∧r.body=body∧r.state=.ready∧r.pending=none) ∧
   Rel ok0 N w0 lk lo { a with defers:=mk++a.defers } w2 L∧mark l ∉ mk++a.defers:=by
 have old:∀ x,mark x∈a.defers→x<w.heap.size:=by
  intro x hx
  obtain ⟨rs,h1,h2,h3⟩:=h.defers
  rw[h1] at hx
  obtain ⟨y,hy,he⟩:=List.mem_map.1 hx
  have:y=x:=by injection he with he;injection he
  subst this
  exact (Array.getElem?_eq_some_iff.1 (h3 y hy).1).1
 cases hb:b.roundOf with
 | none =>
   let w1:=w.alloc (.deferred (some []))
   let r:Loop:={ state:=.ready,pending:=none,fn:=b.fn,tmps:=a.tmps,params:=ps,assign,body,defers:=w.heap.size }
   have hb1:Below w.heap.size w w1:=below_alloc w _
   have hs1:w1.heap.size=w.heap.size+1:=World.size_alloc ..
   have hb2:Below w.heap.size w (w1.alloc (.loop r)):=Below.trans' hb1 (below_alloc w1 _) hb1.size
   refine ⟨w.heap.size+1,[mark w.heap.size],w1.alloc (.loop r),r,run_enterLoop_outer _ _ _ _ _,hb2,Nat.le_succ _,?_,⟨rfl,rfl,rfl,rfl,rfl,rfl,rfl⟩,?_,?_⟩
   ·rw[← hs1];exact World.alloc_heap_new w1 _
   ·have hr:=h.ext hb2
    refine hr.redefer ?_
    obtain ⟨rs,h1,h2,h3⟩:=hr.defers
    refine ⟨w.heap.size::rs,by rw[h1];rfl,List.nodup_cons.2 ⟨fun hm=>?_,h2⟩,fun x hx=>?_⟩
    ·have:=old w.heap.size (by rw[h1];exact List.mem_map.2 ⟨_,hm,rfl⟩)
     omega
    ·rcases List.mem_cons.1 hx with rfl | hx
     ·refine ⟨?_,h.frlt (Nat.le_refl _),fun id o ho hbad=>?_⟩
      ·have h4:=(below_alloc w1 (.loop r)).block w.heap.size (by omega)
       rw[h4]
       exact World.alloc_heap_new w _
      ·have:=((h.objs id o ho).lt hbad).2
       omega
     ·exact h3 x hx
   ·intro hm
    rcases List.mem_append.1 hm with hm | hm
    ·simp[mark] at hm
    ·have:=old _ hm
     omega
 | some l0 =>
   obtain ⟨hf0,r0,hr0⟩:=hro l0 hb
   have hr0':w.heap[l0]?=some (.loop r0):=(h.below.block l0 hf0).trans hr0
   let r:Loop:={ state:=.ready,pending:=none,fn:=b.fn,tmps:=a.tmps,params:=ps,assign,body,defers:=r0.defers }
   have hb1:Below w.heap.size w (w.alloc (.loop r)):=below_alloc w _
   refine ⟨w.heap.size,[],w.alloc (.loop r),r,?_,hb1,Nat.le_refl _,World.alloc_heap_new w _,⟨rfl,rfl,rfl,rfl,rfl,rfl,rfl⟩,h.ext hb1,fun hm=>?_⟩
   ·unfold Instr.enterLoop
    simp only[Sem.run_bind,run_getLoop hr0',run_newObj_alloc,Result.andThen,Sem.run_pure]
    rfl
   ·have:=old _ hm
    omega
theorem look_cons (p:Nat) (x:AV) (e:Env):look ((p,x)::e)=setK (look e) (some p) x:=rfl
theorem Rel.params:∀ (ps:List Nat) (xs:List IV) (vs:List Value) (e:Env) (a:Act),Rel ok0 N w0 (look e) lo a w L→(∀ p∈ps,N.dst p=true)→vs.length=xs.length →
  (∀ (k:Nat) (x:IV) (u:Value),xs[k]?=some x→vs[k]?=some u→RepI (okL ok0 lo L) w x u)→Rel ok0 N w0 (look (bindP ps xs e)) lo { a with tmps:=(ps.zip vs).foldl (fun t p=>t.setIfInBounds p.1 p.2) a.tmps } w L
 | [],xs,vs,e,a,h,_,_,_=>by simpa[bindP] using h
 | p::ps,[],[],e,a,h,_,_,_=>by simpa[bindP] using h
 | p::ps,[],v::vs,e,a,h,_,hl,_=>by simp at hl
 | p::ps,x::xs,[],e,a,h,_,hl,_=>by simp at hl
 | p::ps,x::xs,v::vs,e,a,h,hp,hl,hx=>by
   have h1:=h.put (some p) (fun t ht=>by injection ht with ht;subst ht;exact hp p (by simp)) (x:=.iv x) (v:=v) (.iv _ _ (hx 0 x v rfl rfl))
   rw[← look_cons] at h1
   have:=Rel.params ps xs vs _ _ h1 (fun q hq=>hp q (by simp[hq])) (by simpa using hl) (fun k y u h2 h3=>hx (k+1) y u (by simpa using h2) (by simpa using h3))
   simpa[bindP,Act.put] using this
/-! ### The loop as a callback -/
def Way.code:Way→Option Code
 | .fall=>none
 | .ret=>some .ret
 | .exit id=>some (.exit id)
def recOf (r:Loop) (wy:Way):Loop:={ r with state:=if wy.code.isNone then .ready else .done,pending:=wy.code }
def LoopJ (N:Fm) (a:Act) (eK:Env) (r:Loop) (l:Nat) (o:Objs) (wy:Way) (O D:Nat→Prop) (W:World):Prop :=
 ∃ (L:Nat→Lay) (hlt:∀ b,D b→b<W.heap.size),Rel D N ⟨W,fun b=>D b∧¬ O b,fun b hb=>hlt b hb.1,fun t=>a.tmps.getD t undef⟩ (look eK) (lookO o) a W L∧W.heap[l]?=some (.loop (recOf r wy)) ∧
  (∀ b,O b↔b=l∨mark b∈a.defers∨∃ id ob,lookO o id=some ob∧(L id).has b)∧(∀ b,O b→D b)∧(∀ id ob,lookO o id=some ob→¬ (L id).has l)∧mark l ∉ a.defers
theorem Marks.block {fr:Nat→Prop} {ds:List Deferred} {x:Nat} (h:Marks fr lo L w ds) (hx:mark x∈ds):w.heap[x]?=some (.deferred (some []))∧¬ fr x∧∀ id o,lo id=some o→¬ (L id).has x:=by
 obtain ⟨rs,h1,h2,h3⟩:=h
 rw[h1] at hx
 obtain ⟨y,hy,he⟩:=List.mem_map.1 hx
 have:y=x:=by injection he with he;injection he
 subst this
 exact h3 y hy
theorem Marks.as {fr fr':Nat→Prop} {lo':Nat→Option AO} {L':Nat→Lay} {w':World} {ds:List Deferred} (h:Marks fr lo L w ds) (hx:∀ x,mark x∈ds→w'.heap[x]?=w.heap[x]?∧¬ fr' x∧∀ id o,lo' id=some o→¬ (L' id).has x):Marks fr' lo' L' w' ds:=by
 obtain ⟨rs,h1,h2,h3⟩:=h
 refine ⟨rs,h1,h2,fun x hm=>?_⟩
 obtain ⟨h4,h5,h6⟩:=hx x (by rw[h1];exact List.mem_map.2 ⟨x,hm,rfl⟩)
 exact ⟨h4.trans (h3 x hm).1,h5,h6⟩
theorem not_plain {x:Nat} {o:Obj} (h:w.heap[x]?=some o) (ho:(∀ c t f,o≠.cells c t f)∧∀ es k,o≠.map es k):¬ plainB w x:=by
 rintro (⟨c,t,f,h1⟩ | ⟨es,k,h1⟩)<;>rw[h] at h1<;>injection h1 with h1
 ·exact ho.1 _ _ _ h1
 ·exact ho.2 _ _ h1
theorem LoopJ.stay {eK:Env} {r:Loop} {l:Nat} {o:Objs} {wy:Way} {O D:Nat→Prop} {W W':World} (h:LoopJ N a eK r l o wy O D W) (hk:Keep D W W'):LoopJ N a eK r l o wy O D W':=by
 obtain ⟨L,hlt,h1,h2,h3,h4,h5,h6⟩:=h
 have hO:∀ x,O x→W'.heap[x]?=W.heap[x]?:=fun x hx=>hk.block x (h4 x hx)
 refine ⟨L,fun b hb=>Nat.lt_of_lt_of_le (hlt b hb) hk.size,?_,(hO l ((h3 l).2 (.inl rfl))).trans h2,h3,h4,h5,h6⟩
 refine h1.move ⟨hk.os,hk.tape,hk.output,hk.size⟩ (Keep.refl _ _) (h1.defers.as fun x hx=>?_) h1.size h1.env (fun t ht=>rfl) (fun b hb _=>⟨hb.1,hk.block b hb.1⟩) (fun id ob b ho hb=>?_) (fun b hb _=>⟨hb,hb.1,hk.block b hb.1⟩)
 ·have:=h1.defers.block hx
  exact ⟨hO x ((h3 x).2 (.inr (.inl hx))),this.2.1,this.2.2⟩
 ·have:O b:=(h3 b).2 (.inr (.inr ⟨id,ob,ho,hb⟩))
  exact ⟨fun hf=>hf.2 this,hO b this⟩
def loopE (N:Fm) (a:Act) (eK:Env) (r:Loop) (l:Nat) (o:Objs) (wy:Way):Ext :=
 ⟨.func (.yield l) #[] #[],rfl,LoopJ N a eK r l o wy,fun _ _ _ _ h hk=>h.stay hk⟩
theorem zip_fold (ps:Array Tmp) (vs:List Value) (t0:Array Value):(ps.zip vs.toArray).foldl (fun tmps (t,a)=>tmps.setIfInBounds t a) t0=(ps.toList.zip vs).foldl (fun t p=>t.setIfInBounds p.1 p.2) t0:=by
 rw[← Array.foldl_toList,Array.toList_zip]
end
end Go.Ev

/- One round of a range over a function, as a callback. -/
namespace Go.Ev
open Go Go.RowKit
theorem putObj_size (w:World) (l:Nat) (o:Obj):(w.putObj l o).heap.size=w.heap.size:=World.putObj_size
theorem putObj_other {w:World} {l x:Nat} {o:Obj} (h:x≠l):(w.putObj l o).heap[x]?=w.heap[x]?:=World.putObj_heap_other h
theorem putObj_same {w:World} {l:Nat} {r o:Obj} (h:w.heap[l]?=some r):(w.putObj l o).heap[l]?=some o:=World.putObj_heap_same (Array.getElem?_eq_some_iff.1 h).1
theorem Keep.put {Fr:Nat→Prop} (w:World) (l:Nat) (o:Obj) (h:¬ Fr l):Keep Fr w (w.putObj l o) :=
 ⟨rfl,rfl,rfl,by rw[putObj_size];exact Nat.le_refl _,fun k hk=>putObj_other (fun e=>h (e▸hk))⟩
section
variable {P:Program} {K:World→Prop} {N:Fm} {a:Act}
theorem round_end {b c:Frame} {cs:List Frame} {ac:Act} {l:Nat} {w:World} {r:Loop} {wy:Way} {k:List Item} (hb:b.roundOf=some l) (hk:b.kind=.normal) (hw:AtWay [] wy k) (hr:w.heap[l]?=some (.loop r)) :
  step P (lone (b.atR ac k) (c::cs) w)=.next (lone (c.finish (.bool wy.code.isNone)) cs (w.putObj l (.loop { r with state:=if wy.code.isNone then .ready else .done,pending:=wy.code }))):=by
 have he:=run_endRound (P:=P) wy.code hr
 cases wy with
 | fall =>
   have hk':k=[]:=hw
   subst hk'
   exact stepR_round_end hb hk he
 | ret =>
   obtain ⟨k1,rfl⟩:=hw
   exact stepR_round_ret hb hk he
 | exit id =>
   obtain ⟨k1,rfl,hx⟩:=hw
   exact stepR_round_exit hb hk hx he
theorem round_gives {eK:Env} {r:Loop} {l:Nat} {o o':Objs} {wy:Way} {ps:List Nat} {ks ids:List Nat} {asn body:AC} {casn cbody:Code} {x:List IV} {M:Env→Objs→Prop}
  (hks:∀ t,ks.contains t=false→look eK t=.iv .any)
  (hps:∀ p∈ps,p<N.n∧ks.contains p=false) (hr1:r.tmps=a.tmps) (hr2:r.params=ps.toArray) (hr3:r.assign=casn) (hr4:r.body=cbody)
  (hc1:codeFits P ⟨N.n,ks⟩ asn casn=true) (hc2:codeFits P ⟨N.n,ks⟩ body cbody=true) (hx:x.length=ps.length)
  (h1:SemRun P K (fun wy e1 o1=>wy=.fall∧M e1 o1) [.code asn] (bindP ps x eK) o)
  (h2:∀ e1 o1,M e1 o1→SemRun P K (fun w2 e2 o2=>w2=wy∧keepE ks ids e2=eK∧keepO ids o2 ids=o') [.code body] e1 o1) :
  CbGives P K (loopE N a eK r l o .fall) x (.bool wy.code.isNone) (loopE N a eK r l o' wy):=by
 refine ⟨rfl,fun ok O D w vs hp=>?_⟩
 obtain ⟨L,hlt,hrel,hrec,hO,hOD,hnl,hml⟩:=hp.J
 have hOl:O l:=(hO l).2 (.inl rfl)
 have hlsz:l<w.heap.size:=hlt l (hOD l hOl)
 have hmk:∀ y,mark y∈a.defers→O y∧y≠l:=fun y hy=>⟨(hO y).2 (.inr (.inl hy)),fun e=>hml (e▸hy)⟩
 have hob:∀ id ob y,lookO o id=some ob→(L id).has y→O y:=fun id ob y h3 h4=>(hO y).2 (.inr (.inr ⟨id,ob,h3,h4⟩))
 -- the round's frame
 let bR:Frame:={ (default:Frame) with fn:=r.fn,kind:=.normal,roundOf:=some l }
 have hrec':w.heap[l]?=some (.loop (recOf r .fall)):=hrec
 have hsz:vs.toArray.size=(recOf r .fall).params.size:=by simp[recOf,hr2,hp.len,hx]
 let tm:Array Value:=(ps.zip vs).foldl (fun t p=>t.setIfInBounds p.1 p.2) a.tmps
 have hyrun:(Instr.yield l vs.toArray).run P w=.ok (.round l r.fn tm casn cbody) w:=by
  rw[run_yield hrec' hsz,zip_fold]
  simp[recOf,hr2,hr1,hr3,hr4,tm]
 refine ⟨_,.yield l vs w r.fn tm casn cbody hyrun,fun c cs=>?_⟩
 have hbegun:begun P c cs w (.round l r.fn tm casn cbody)=lone (bR.atR { tmps:=tm,defers:=[] } [.code casn,.beginRound,.code cbody]) (c::cs) w:=by
  simp[begun,Frame.round,Frame.atR,bR]
 rw[hbegun]
 -- the round's base
 let frR:Nat→Prop:=fun y=>y<w.heap.size∧(¬ O y∨y=l∨mark y∈a.defers)
 let wR:Base:={ w:=w,fr:=frR,lt:=fun y hy=>hy.1,pin:=fun t=>a.tmps.getD t undef }
 let okR:Nat→Prop:=fun y=>ok y∧y≠l∧mark y ∉ a.defers
 have hDok:∀ y,D y→ok y:=fun y hy=>(hp.okd y hy).elim (hp.own y) (fun h=>h)
 have hctx:Ctx P K okR wR:=by
  refine ⟨fun w' hk=>hp.hK w' (hk.mono fun y hy=>⟨hy.1,.inl hy.2⟩),fun y hy=>?_⟩
  by_cases hys:y<w.heap.size
  ·have h3:O y:=Classical.byContradiction fun hn=>hy ⟨hys,.inl hn⟩
   exact ⟨hp.own y h3,fun e=>hy ⟨hys,.inr (.inl e)⟩,fun e=>hy ⟨hys,.inr (.inr e)⟩⟩
  ·refine ⟨hp.new y (Nat.not_lt.1 hys),fun e=>by omega,fun e=>?_⟩
   have:=(hrel.defers.block e).1
   have:=(Array.getElem?_eq_some_iff.1 this).1
   omega
 have hfrl:frR l:=⟨hlsz,.inr (.inl rfl)⟩
 have harR:Around bR wR:=fun l' hl'=>by
  have:l=l':=by injection hl'
  subst this
  exact ⟨hfrl,_,hrec'⟩
 have hrel0:Rel okR ⟨N.n,ks⟩ wR (look eK) (lookO o) { tmps:=a.tmps,defers:=[] } w L:=by
  refine hrel.move ⟨rfl,rfl,rfl,Nat.le_refl _⟩ (Keep.refl _ _) ⟨[],rfl,List.nodup_nil,by simp⟩ hrel.size hrel.env (fun t _=>rfl) (fun y hy hpl=>⟨⟨hDok y hy.1,?_,?_⟩,rfl⟩) (fun id ob y ho hy=>⟨?_,rfl⟩) (fun y hy hok=>⟨⟨hlt y hy.1,.inl hy.2⟩,⟨hDok y hy.1,?_,?_⟩,rfl⟩)
  ·rintro rfl
   exact not_plain hrec' ⟨by simp,by simp⟩ hpl
  ·intro hm
   exact not_plain (hrel.defers.block hm).1 ⟨by simp,by simp⟩ hpl
  ·rintro ⟨_,h3 | rfl | h3⟩
   ·exact h3 (hob id ob y ho hy)
   ·exact hnl id ob ho hy
   ·exact (hrel.defers.block h3).2.2 id ob ho hy
  ·rintro rfl
   exact hy.2 hOl
  ·intro hm
   exact hy.2 (hmk y hm).1
 have hrelP:=Rel.params ps x vs eK _ hrel0 (fun p hp'=>by have h3:=(hps p hp').2;simp only[Fm.dst,(hps p hp').1,h3];rfl) hp.len (fun k z u h3 h4=>(hp.args k z u h3 h4).move fun y hy hpl=>⟨⟨⟨hy.1,fun e=>hy.2 (e▸hOl),fun hm=>hy.2 (hmk y hm).1⟩,fun id ob ho hb=>hy.2 (hob id ob y ho hb)⟩,rfl⟩)
 obtain ⟨wy1,e1,o1,a1,w1,wB,L1,k1,⟨rfl,hM⟩,hle1,hr1',hat1,hst1⟩:=h1 bR (c::cs) [.beginRound,.code cbody] (fun id=>by simp[exitTo]) ⟨N.n,ks⟩ okR wR hctx harR _ _ w L (.code asn casn [] _ hc1 .nil) hrelP
 have hk1:k1=[.beginRound,.code cbody]:=hat1
 subst hk1
 -- the record is busy
 have hkR1:Keep frR w w1:=hle1.keeps hr1'.below
 have hrec1:w1.heap[l]?=some (.loop (recOf r .fall)):=(hkR1.block l hfrl).trans hrec'
 have hready:(recOf r .fall).state=.ready:=rfl
 have hbegin:=stepR_beginRound (P:=P) (b:=bR) (a:=a1) (k:=[.code cbody]) (cs:=c::cs) (l:=l) rfl (run_beginRound hrec1 hready)
 let w1':World:=w1.putObj l (.loop { recOf r .fall with state:=.busy })
 have hs1':w1'.heap.size=w1.heap.size:=putObj_size _ _ _
 have hfB:∀ y,frR y→wB.fr y:=hle1.fr
 let wB':Base:={ w:=w1',fr:=wB.fr,lt:=fun y hy=>by rw[hs1'];exact hr1'.frl y hy,pin:=wB.pin }
 have hrec1':w1'.heap[l]?=some (.loop { recOf r .fall with state:=.busy }):=putObj_same hrec1
 have hkO1:Keep (fun y=>y<w.heap.size∧¬ O y) w w1':=(hkR1.mono fun y hy=>⟨hy.1,.inl hy.2⟩).trans (Keep.put w1 l _ fun hf=>hf.2 hOl)
 have hctx':Ctx P K okR wB':=⟨fun w' hk=>hp.hK w' (hkO1.trans (hk.mono fun y hy=>hfB y ⟨hy.1,.inl hy.2⟩)),fun y hy=>(hctx.le hle1).ok y hy⟩
 have harB':Around bR wB':=fun l' hl'=>by
  have:l=l':=by injection hl'
  subst this
  exact ⟨hfB l hfrl,_,hrec1'⟩
 have hrelB:Rel okR ⟨N.n,ks⟩ wB' (look e1) (lookO o1) a1 w1' L1:=by
  have hne:∀ y,okR y→y≠l:=fun y hy=>hy.2.1
  refine hr1'.move ⟨rfl,rfl,rfl,by rw[hs1'];exact Nat.le_refl _⟩ (Keep.refl _ _) (hr1'.defers.as fun y hy=>?_) hr1'.size hr1'.env hr1'.pin (fun y hy _=>⟨hy.1,putObj_other (hne y hy.1)⟩) (fun id ob y ho hy=>?_) (fun y hy hok=>⟨hy,hok.1,putObj_other (hne y hok.1)⟩)
  ·have h3:=hr1'.defers.block hy
   exact ⟨putObj_other (fun e=>by rw[e,hrec1] at h3;cases h3.1),h3.2.1,h3.2.2⟩
  ·have h3:=((hr1'.objs id ob ho).lt hy).1
   exact ⟨h3,putObj_other fun e=>h3 (e▸hfB l hfrl)⟩
 obtain ⟨wy2,e2,o2,a3,w3,wC,L3,k3,⟨hwy,hkE,hkO⟩,hle2,hr3',hat3,hst3⟩:=h2 e1 o1 hM bR (c::cs) [] (fun id=>by simp[exitTo]) ⟨N.n,ks⟩ okR wB' hctx' harB' _ a1 w1' L1 (.code body cbody [] _ hc2 .nil) hrelB
 subst hwy
 have hfC:∀ y,frR y→wC.fr y:=fun y hy=>hle2.fr y (hfB y hy)
 have hkB3:Keep wB.fr w1' w3:=hle2.keeps hr3'.below
 have hrec3:w3.heap[l]?=some (.loop { recOf r .fall with state:=.busy }):=(hkB3.block l (hfB l hfrl)).trans hrec1'
 have hend:=round_end (P:=P) (b:=bR) (c:=c) (cs:=cs) (ac:=a3) (l:=l) rfl rfl hat3 hrec3
 let w4:World:=w3.putObj l (.loop { recOf r .fall with state:=if wy2.code.isNone then .ready else .done,pending:=wy2.code })
 have hs4:w4.heap.size=w3.heap.size:=putObj_size _ _ _
 have hother:∀ y,y≠l→w4.heap[y]?=w3.heap[y]?:=fun y hy=>putObj_other hy
 have hkO4:Keep (fun y=>y<w.heap.size∧¬ O y) w w4:=(hkO1.trans (hkB3.mono fun y hy=>hfB y ⟨hy.1,.inl hy.2⟩)).trans (Keep.put w3 l _ fun hf=>hf.2 hOl)
 refine ⟨.bool wy2.code.isNone,w4,?_,(hst1.trans (.head hbegin hst3)).trans (.one hend)⟩
 -- what is left
 have hr3k:=hr3'.keep ks ids
 rw[hkE,hkO] at hr3k
 have hnC:∀ id ob y,lookO o' id=some ob→(L3 id).has y→¬ wC.fr y:=fun id ob y ho hy=>((hr3k.objs id ob ho).lt hy).1
 have hmC:∀ y,mark y∈a.defers→wC.fr y:=fun y hy=>hfC y ⟨hlt y (hOD y (hmk y hy).1),.inr (.inr hy)⟩
 let O':Nat→Prop:=fun y=>y=l∨mark y∈a.defers∨∃ id ob,lookO o' id=some ob∧(L3 id).has y
 have hlt4:∀ y,O' y→y<w4.heap.size:=by
  rintro y (rfl | hy | ⟨id,ob,ho,hy⟩)
  ·rw[hs4];exact (Array.getElem?_eq_some_iff.1 hrec3).1
  ·rw[hs4];exact hr3'.frl y (hmC y hy)
  ·rw[hs4];exact ((hr3k.objs id ob ho).lt hy).2
 let D':Nat→Prop:=fun y=>y<w4.heap.size∧(O' y∨ok y)
 refine ⟨O',D',scalar_rep (ok:=fun _=>True) rfl (.bool _),hkO4,?_,?_,fun y hy=>⟨hlt4 y hy,.inl hy⟩,fun y hy=>hy.1,fun y hy=>hy.2⟩
 ·refine ⟨L3,fun y hy=>hy.1,?_,?_,fun y=>Iff.rfl,fun y hy=>⟨hlt4 y hy,.inl hy⟩,fun id ob ho hb=>hnC id ob l ho hb (hfC l hfrl),hml⟩
  ·refine hr3k.move ⟨rfl,rfl,rfl,by rw[hs4];exact Nat.le_refl _⟩ (Keep.refl _ _) (hrel.defers.as fun y hy=>?_) hrel.size (fun t=>?_) (fun t _=>rfl) (fun y hy hpl=>⟨⟨by rw[hs4];exact hpl.lt,.inr hy.1.1⟩,hother y hy.1.2.1⟩) (fun id ob y ho hy=>⟨fun hf=>hf.2 (.inr (.inr ⟨id,ob,ho,hy⟩)),hother y fun e=>hnC id ob y ho hy (e▸hfC l hfrl)⟩)
    (fun y hy hok=>⟨⟨⟨by rw[hs4];exact hr3'.frl y hy,.inr hok.1.1⟩,?_⟩,⟨by rw[hs4];exact hr3'.frl y hy,.inr hok.1.1⟩,hother y hok.1.2.1⟩)
   ·have hyl:=(hmk y hy).2
    have hfy:frR y:=⟨hlt y (hOD y (hmk y hy).1),.inr (.inr hy)⟩
    refine ⟨(hother y hyl).trans ((hkB3.block y (hfB y hfy)).trans ((putObj_other hyl).trans (hkR1.block y hfy))),fun hf=>hf.2 (.inr (.inl hy)),fun id ob ho hb=>hnC id ob y ho hb (hmC y hy)⟩
   ·by_cases ht:ks.contains t=true
    ·have h3:=hr3k.env t
     have h4:=hr3'.pin t ht
     have hpin:wC.pin t=a.tmps.getD t undef:=by
      rw[hle2.pin]
      show wB.pin t=_
      rw[hle1.pin]
     rw[h4,hpin] at h3
     exact h3
    ·rw[hks t (by simpa using ht)]
     exact .iv _ _ (.any _)
   ·rintro (h3 | h3 | ⟨id,ob,ho,hb⟩)
    ·exact hok.1.2.1 h3
    ·exact hok.1.2.2 h3
    ·exact hok.2 id ob ho hb
  ·rw[show w4.heap[l]?=_ from putObj_same hrec3]
   rfl
 ·rintro y (rfl | hy | ⟨id,ob,ho,hy⟩)
  ·exact .inl hOl
  ·exact .inl (hmk y hy).1
  ·by_cases hys:y<w.heap.size
   ·exact .inl (Classical.byContradiction fun hn=>hnC id ob y ho hy (hfC y ⟨hys,.inl hn⟩))
   ·exact .inr (Nat.not_lt.1 hys)
end
end Go.Ev

/- The statement 'for .. range f', with its rounds. -/
namespace Go.Ev
open Go Go.RowKit
theorem look_keepE_out (ids:List Nat) (e:Env):∀ (ks:List Nat) (t:Nat),ks.contains t=false→look (keepE ks ids e) t=.iv .any
 | [],t,_=>rfl
 | k::r,t,h=>by
   simp only[List.contains_cons,Bool.or_eq_false_iff,beq_eq_false_iff_ne,ne_eq] at h
   simp only[keepE,List.map_cons,look,h.1,if_false]
   exact look_keepE_out ids e r t h.2
theorem clo_val {ok:Nat→Prop} {w:World} {lo:Nat→Option AO} {L:Nat→Lay} {x:AV} {v:Value} {g:FuncId} {fs cs:List IV} (h:cloOf x=some (g,fs,cs)) (hr:RepA ok w lo L x v) :
  ∃ us vs:List Value,v=.func (.func g) us.toArray vs.toArray∧us.length=fs.length∧vs.length=cs.length∧(∀ (k:Nat) (x:IV) (u:Value),fs[k]?=some x→us[k]?=some u→RepI ok w x u) ∧
   (∀ (k:Nat) (x:IV) (u:Value),cs[k]?=some x→vs[k]?=some u→RepI ok w x u):=by
 unfold cloOf at h
 split at h
 ·injection h with h
  injection h with h1 h2
  injection h2 with h2 h3
  subst h1 h2 h3
  cases hr with
  | iv _ _ r =>
    cases r
    exact ⟨[],[],rfl,rfl,rfl,by simp,by simp⟩
 ·injection h with h
  injection h with h1 h2
  injection h2 with h2 h3
  subst h1 h2 h3
  cases hr with
  | iv _ _ r =>
    cases r with
    | clo _ _ _ us vs l1 l2 hf hc=>exact ⟨us,vs,rfl,l1,l2,hf,hc⟩
 ·cases h
section
variable {P:Program} {K:World→Prop}
theorem range_invoke {a:Act} {f':Operand} {g:FuncId} {us vs:List Value} {l:Nat} {w:World} (hc:callee P g=true) (hv:a.eval f'=.func (.func g) us.toArray vs.toArray) :
  ∃ d:Deferred,(resolve a.eval (rangeCall f' l) 0).run P w=.ok d w∧(invoke d.target d.args).run P w=.ok (.enter g (us++.func (.yield l) #[] #[]::vs).toArray) w:=by
 refine ⟨{ target:=.fn (.func g) vs.toArray,args:=us.toArray++#[.func (.yield l) #[] #[]] },?_,?_⟩
 ·have e:a.eval (.const (.func (.yield l) #[] #[]))=.func (.yield l) #[] #[]:=rfl
  simp[resolve,hv,Deferred.ofValue,e]
 ·unfold callee at hc
  split at hc
  ·rename_i fn hfn
   simp only[Bool.and_eq_true,Bool.not_eq_true',beq_eq_false_iff_ne,ne_eq] at hc
   obtain ⟨hb,hn⟩:=hc
   have hb':fn.body≠none:=by cases h:fn.body<;>simp_all
   simp[invoke,callFunc,program,Sem.run,hfn,hn,hb']
  ·cases hc
theorem fit_jump {N:Fm} {tl:List Item} {k:List AI} {k1:List Item} (wy:Way) (h:Fit P N tl k k1):Fit P N tl (jumpK wy k) ((wy.code.map Item.code).toList++k1):=by
 cases wy with
 | fall=>exact h
 | ret=>exact .code .ret .ret _ _ rfl h
 | exit id=>exact .code (.exit id) (.exit id) _ _ (by simp[codeFits]) h
theorem range_sem {F:Way→Env→Objs→Prop} {f:Opd} {ps:List Nat} {asn body:AC} {ks ids:List Nat} {k:List AI} {e:Env} {o:Objs} {g:FuncId} {fs cs:List IV} {Lx:List (List IV)} {St:Nat→Objs} {Wy:Nat→Way} {m:Nat} {M:Nat→Env→Objs→Prop}
  (hf:cloOf (f.av (look e))=some (g,fs,cs)) (hc:callee P g=true) (hit:IterX P K g fs cs Lx) (h0:St 0=keepO ids o ids) (hm:m≤Lx.length) (hall:∀ i,i+1<m→Wy i=.fall) (hend:m=Lx.length∨(0<m∧Wy (m-1)≠.fall))
  (hlen:∀ i x,i<m→Lx[i]?=some x→x.length=ps.length)
  (h1:∀ i x,i<m→Lx[i]?=some x→SemRun P K (fun wy e1 o1=>wy=.fall∧M i e1 o1) [.code asn] (bindP ps x (keepE ks ids e)) (St i))
  (h2:∀ i e1 o1,i<m→M i e1 o1→SemRun P K (fun wy e2 o2=>wy=Wy i∧keepE ks ids e2=keepE ks ids e∧keepO ids o2 ids=St (i+1)) [.code body] e1 o1)
  (h3:SemRun P K F (jumpK (if m=0 then .fall else Wy (m-1)) k) (keepE ks ids e) (St m)):SemRun P K F (.code (.range f ps asn body ks ids)::k) e o:=by
 intro b fr tl htl N ok0 w0 c hro k' a w L hfit hr
 cases hfit with
 | code _ c' _ k1 h hk =>
   cases c'<;>simp only[codeFits,Bool.false_eq_true] at h
   rename_i f' ps' casn cbody
   simp only[Bool.and_eq_true,beq_iff_eq,List.all_eq_true,decide_eq_true_eq,Bool.not_eq_true'] at h
   obtain ⟨⟨⟨⟨hff,hps'⟩,hps⟩,hc1⟩,hc2⟩:=h
   obtain ⟨us,vs,hv,lu,lv,hus,hvs⟩:=clo_val hf (Opd.rep hr hff)
   have hr1:=hr.keep ks ids
   rw[← h0] at hr1
   obtain ⟨l,mk,w2,r,henter,hbel,hlw,hrec,⟨hr_fn,hr_tmps,hr_params,hr_assign,hr_body,hr_state,hr_pend⟩,hr2,hml⟩:=enter_rel hro hr1 ps' casn cbody
   obtain ⟨d,hres,hinv⟩:=range_invoke (a:=a) (f':=f') (l:=l) (w:=w2) hc hv
   have hstep:=stepR_rangeFunc (P:=P) (b:=b) (a:=a) (k:=k1) (cs:=fr) (w:=w) henter hres hinv
   generalize ha2:({ a with defers:=mk++a.defers }:Act)=a2 at hr2 hstep
   have hat:a2.tmps=a.tmps:=by rw[← ha2]
   have had:a2.defers=mk++a.defers:=by rw[← ha2]
   rw[← had] at hml
   generalize heK:keepE ks ids e=eK at hr1 hr2 h1 h2 h3
   have hks:∀ t,ks.contains t=false→look eK t=.iv .any:=fun t ht=>by rw[← heK];exact look_keepE_out ids e ks t ht
   let WyAt:Nat→Way:=fun i=>if i=0 then .fall else Wy (i-1)
   let E:Nat→Ext:=fun i=>loopE N a2 eK r l (St i) (WyAt i)
   have hrnd:∀ i x,i<m→Lx[i]?=some x→CbGives P K (E i) x (.bool (Wy i).code.isNone) (E (i+1)):=by
    intro i x hi hx
    have hfall:WyAt i=.fall:=by
     show (if i=0 then Way.fall else Wy (i-1))=.fall
     split
     ·rfl
     ·exact hall (i-1) (by omega)
    have:=round_gives (N:=N) (a:=a2) (eK:=eK) (r:=r) (l:=l) (o:=St i) (o':=St (i+1)) (wy:=Wy i) (ps:=ps) (ks:=ks) (ids:=ids) (x:=x) (M:=M i) hks hps (by rw[hat];exact hr_tmps) (by rw[hr_params,hps']) hr_assign hr_body hc1 hc2 (hlen i x hi hx) (h1 i x hi hx) (fun e1 o1=>h2 i e1 o1 hi)
    show CbGives P K (loopE N a2 eK r l (St i) (WyAt i)) x _ (loopE N a2 eK r l (St (i+1)) (WyAt (i+1)))
    rw[hfall]
    exact this
   have hfeeds:∀ n i,i+n=m→(n=0→m=Lx.length)→∃ bb,Feeds P K (Lx.drop i) (E i) bb (E m):=by
    intro n
    induction n with
    | zero =>
      intro i hi hn
      have:Lx.drop i=[]:=List.drop_eq_nil_of_le (by have:=hn rfl;omega)
      rw[this]
      have him:i=m:=by omega
      subst him
      exact ⟨true,.nil _⟩
    | succ n ih =>
      intro i hi _
      have hil:i<Lx.length:=by omega
      have hx:=List.getElem?_eq_getElem hil
      rw[List.drop_eq_getElem_cons hil]
      have hg:=hrnd i _ (by omega) hx
      by_cases hw:Wy i=.fall
      ·rw[hw] at hg
       obtain ⟨bb,hb⟩:=ih (i+1) (by omega) (fun hn=>by
        rcases hend with h | ⟨_,h⟩
        ·exact h
        ·have:m-1=i:=by omega
         rw[this] at h
         exact absurd hw h)
       exact ⟨bb,.next _ _ _ _ _ _ hg hb⟩
      ·have him:i+1=m:=Classical.byContradiction fun hn=>hw (hall i (by omega))
       have hfalse:(Wy i).code.isNone=false:=by cases hwy:Wy i<;>first | exact absurd hwy hw | rfl
       rw[hfalse] at hg
       rw[him] at hg
       exact ⟨false,.stop _ _ _ _ hg⟩
   obtain ⟨bb,hfd⟩:=hfeeds m 0 (by omega) (fun hm0=>by rcases hend with h | ⟨h,_⟩;exact h;omega)
   rw[List.drop_zero] at hfd
   have hgood:=hit _ _ _ hfd
   -- what the call is handed
   have hmk:∀ y,mark y∈a2.defers→w2.heap[y]?=some (.deferred (some []))∧¬ w0.fr y∧∀ id ob,lookO (St 0) id=some ob→¬ (L id).has y:=fun y hy=>hr2.defers.block hy
   let O:Nat→Prop:=fun y=>y=l∨mark y∈a2.defers∨∃ id ob,lookO (St 0) id=some ob∧(L id).has y
   let D:Nat→Prop:=fun y=>y<w2.heap.size∧(O y∨ok0 y)
   have hnl0:∀ id ob,lookO (St 0) id=some ob→¬ (L id).has l:=fun id ob ho hb=>by
    have:=((hr1.objs id ob ho).lt hb).2
    omega
   have hOf:∀ y,O y→¬ w0.fr y:=by
    rintro y (rfl | hy | ⟨id,ob,ho,hy⟩)
    ·exact hr1.frlt hlw
    ·exact (hmk y hy).2.1
    ·exact ((hr1.objs id ob ho).lt hy).1
   have hOlt:∀ y,O y→y<w2.heap.size:=by
    rintro y (rfl | hy | ⟨id,ob,ho,hy⟩)
    ·exact (Array.getElem?_eq_some_iff.1 hrec).1
    ·exact (Array.getElem?_eq_some_iff.1 (hmk y hy).1).1
    ·exact ((hr2.objs id ob ho).lt hy).2
   have hargs:∀ (k:Nat) (x:IV) (u:Value),(fs++cs)[k]?=some x→(us++vs)[k]?=some u→RepI (fun y=>ok0 y∧¬ O y) w2 x u:=by
    have one:∀ (x:IV) (u:Value),RepI (okL ok0 (lookO o) L) w x u→RepI (fun y=>ok0 y∧¬ O y) w2 x u:=fun x u hxu=>hxu.move fun y hy hpl=>by
     have hylt:=hpl.lt
     refine ⟨⟨hy.1,?_⟩,hbel.block y hylt⟩
     rintro (rfl | hm | ⟨id,ob,ho,hb⟩)
     ·omega
     ·have h4:=(hmk y hm).1
      rw[hbel.block y hylt] at h4
      exact not_plain h4 ⟨by simp,by simp⟩ hpl
     ·rw[h0,lookO_keepO] at ho
      split at ho
      ·cases hq:lookO o id with
       | none=>simp[hq] at ho
       | some q=>exact hy.2 id q hq hb
      ·cases ho
    intro j x u hx hu
    by_cases hj:j<fs.length
    ·rw[List.getElem?_append_left hj] at hx
     rw[List.getElem?_append_left (by omega)] at hu
     exact one x u (hus j x u hx hu)
    ·rw[List.getElem?_append_right (by omega)] at hx
     rw[List.getElem?_append_right (by omega),lu] at hu
     exact one x u (hvs _ x u hx hu)
   have hpre:CbPre K ok0 O D w2 (E 0) (fs++cs) (us++vs):=by
    refine ⟨fun w' hk=>c.hK w' (hr2.below.trans (hk.mono fun y hy=>⟨hr2.frl y hy,fun ho=>hOf y ho hy⟩)),?_,fun y hy=>⟨hOlt y hy,.inl hy⟩,fun y hy=>hy.1,fun y hy=>hy.2,fun y hy=>c.ok y (hr2.frlt hy),fun y hy=>c.ok y (hOf y hy),by simp[lu,lv],hargs⟩
    refine ⟨L,fun y hy=>hy.1,?_,?_,fun y=>Iff.rfl,fun y hy=>⟨hOlt y hy,.inl hy⟩,hnl0,hml⟩
    ·refine hr2.move ⟨rfl,rfl,rfl,Nat.le_refl _⟩ (Keep.refl _ _) (hr2.defers.as fun y hy=>⟨rfl,fun hf=>hf.2 (.inr (.inl hy)),(hmk y hy).2.2⟩) hr2.size hr2.env (fun t _=>rfl) (fun y hy hpl=>⟨⟨hpl.lt,.inr hy.1⟩,rfl⟩) (fun id ob y ho hy=>⟨fun hf=>hf.2 (.inr (.inr ⟨id,ob,ho,hy⟩)),rfl⟩)
      (fun y hy hok=>⟨⟨⟨hr2.frl y hy,.inr hok.1⟩,fun ho=>hOf y ho hy⟩,⟨hr2.frl y hy,.inr hok.1⟩,rfl⟩)
    ·show w2.heap[l]?=some (.loop (recOf r .fall))
     rw[hrec]
     cases r
     simp only[recOf,Way.code] at hr_state hr_pend ⊢
     subst hr_state hr_pend
     rfl
   obtain ⟨en,w3,frx,⟨v,rfl,O',D',hpost⟩,hcomes,_,hleave⟩:=hgood.2 ok0 O D w2 us vs hpre lu (b.atR a2 (.inRangeFunc l::k1)::fr)
   obtain ⟨L',hlt',hrelE,hrecE,hOE,hODE,hnlE,_⟩:=hpost.J
   have hsz3:=hpost.keep.size
   have hback:step P (lone frx (b.atR a2 (.inRangeFunc l::k1)::fr) w3)=.next (lone (b.atR a2 (.endRangeFunc l::k1)) fr w3):=by
    rw[← finish_atR_inRangeFunc l v]
    exact step_leave_returned hleave
   have hnb:(recOf r (WyAt m)).state≠.busy:=by
    simp only[recOf]
    split<;>simp
   have hendl:=stepR_endRangeFunc (P:=P) (b:=b) (a:=a2) (k:=k1) (cs:=fr) (run_endLoop hrecE hnb)
   let w4:World:=w3.putObj l (.loop { recOf r (WyAt m) with state:=.exhausted })
   have hs4:w4.heap.size=w3.heap.size:=putObj_size _ _ _
   have hOl':O' l:=(hOE l).2 (.inl rfl)
   have hnew:∀ y,O' y→¬ w0.fr y:=fun y hy=>(hpost.new y hy).elim (hOf y) (fun h4=>hr2.frlt h4)
   have hk23:Keep w0.fr w2 w3:=hpost.keep.mono fun y hy=>⟨hr2.frl y hy,fun ho=>hOf y ho hy⟩
   have hk04:Keep w0.fr w0.w w4:=(hr2.below.trans hk23).trans (Keep.put w3 l _ (hnew l hOl'))
   have hlt5:∀ y,(w0.fr y∨(D' y∧¬ O' y))→y<w4.heap.size:=by
    intro y hy
    rw[hs4]
    rcases hy with hy | hy
    ·exact Nat.lt_of_lt_of_le (hr2.frl y hy) hsz3
    ·exact hlt' y hy.1
   let w5:Base:={ w:=w4,fr:=fun y=>w0.fr y∨(D' y∧¬ O' y),lt:=hlt5,pin:=w0.pin }
   have hle5:w0.le w5:=⟨hk04,fun y hy=>.inl hy,rfl⟩
   have hO5:∀ y,O' y→¬ w5.fr y:=fun y hy hf=>hf.elim (hnew y hy) (fun h4=>h4.2 hy)
   have hrel5:Rel ok0 N w5 (look eK) (lookO (St m)) a2 w4 L':=by
    refine hrelE.move ⟨rfl,rfl,rfl,by rw[hs4];exact Nat.le_refl _⟩ (Keep.refl _ _) (hrelE.defers.as fun y hy=>?_) hrelE.size hrelE.env (fun t ht=>?_) (fun y hy hpl=>?_) (fun id ob y ho hy=>?_) (fun y hy hok=>?_)
    ·have h4:=hrelE.defers.block hy
     have hyO:O' y:=(hOE y).2 (.inr (.inl hy))
     exact ⟨putObj_other fun e=>hml (e▸hy),hO5 y hyO,h4.2.2⟩
    ·rw[hat];exact hr.pin t ht
    ·have hyl:y≠l:=fun e=>by subst e;exact not_plain hrecE ⟨by simp,by simp⟩ hpl
     refine ⟨?_,putObj_other hyl⟩
     rcases hpost.okd y hy.1 with h4 | h4
     ·exact c.ok y (hnew y h4)
     ·exact h4
    ·have hyO:O' y:=(hOE y).2 (.inr (.inr ⟨id,ob,ho,hy⟩))
     exact ⟨hO5 y hyO,putObj_other fun e=>hnlE id ob ho (e▸hy)⟩
    ·exact ⟨.inr hy,(hpost.okd y hy.1).resolve_left hy.2,putObj_other fun e=>hy.2 (e▸hOl')⟩
   have hends:=h3 b fr tl htl N ok0 w5 (c.le hle5) (hro.le hle5) _ a2 w4 L' (fit_jump (WyAt m) hk) hrel5
   exact Ends.steps (.head hstep (hcomes.trans (.head hback (.one hendl)))) hle5 hends
end
end Go.Ev

/- Soundness: a run of the evaluator over a function's body shows what a call of the function returns. -/
namespace Go.Ev
open Go Go.RowKit
section
variable {P:Program} {K:World→Prop} {ok0:Nat→Prop} {N:Fm} {w0:Base} {a:Act} {w:World} {L:Nat→Lay} {e:Env} {o:Objs}
def resRun (tmps:Array Value):ResultVar→Sem Value
 | .tmp t=>pure (tmps.getD t undef)
 | .cell a t=>do loadVar t (← asAddr (tmps.getD a undef))
theorem resV_run (h:Rel ok0 N w0 (look e) (lookO o) a w L) (hok0:∀ b,¬ w0.fr b→ok0 b) {x:ARes} {rs:ResultVar} {y:IV}
  (hf:resFits P [x] [rs]=true) (hv:resV e o x=some y):∃ v,(resRun a.tmps rs).run P w=.ok v w∧RepI ok0 w y v:=by
 have isound:=imm_sound h hok0 (lo':=lookO o) (fun _ _ h=>h) 40
 cases x with
 | tmp t =>
   cases rs with
   | cell=>simp[resFits] at hf
   | tmp t' =>
     simp only[resFits,Bool.and_true,beq_iff_eq] at hf
     subst hf
     exact ⟨a.tmps.getD t undef,rfl,isound.1 _ _ y (h.env t) hv⟩
 | cell t n ag =>
   cases rs with
   | tmp=>simp[resFits] at hf
   | cell t' T =>
     simp only[resFits,Bool.and_true,Bool.and_eq_true,beq_iff_eq] at hf
     obtain ⟨⟨rfl,hag⟩,hn⟩:=hf
     simp only[resV] at hv
     have het:=h.env t
     generalize look e t=xv at hv het
     split at hv
     ·rename_i id off
      split at hv
      ·rename_i cs hcs
       have hob:=h.objs _ _ hcs
       generalize hpv:a.tmps.getD t undef=pv at het
       cases het with
       | loc _ _ cs' b hob' hL =>
         rw[hcs] at hob'
         injection hob' with hob'
         injection hob' with hob'
         subst hob'
         rw[hL] at hob
         obtain ⟨hB,ty,vs,hb,hl,h1,hxx⟩:=hob
         have cell:∀ (k:Nat) (u:Value),(vs.drop off)[k]?=some u→w.cell? ⟨b,off+k,none⟩=some u:=by
          intro k u hu
          rw[cell_of_row w b (off+k) _ ty (0,0) hb]
          simpa[List.getElem?_drop] using hu
         split at hv
         ·split at hv
          ·rename_i hfit
           simp only[Option.map_eq_some_iff] at hv
           obtain ⟨ys,hys,rfl⟩:=hv
           obtain ⟨hyl,hyx⟩:=isound.2 _ ys hys
           have hlen:((vs.drop off).take n).length=n:=by simp;omega
           have hload:=run_loadVar (w:=w) hag hn b off ((vs.drop off).take n) hlen (by simp) (fun k u hu=>cell k u (by
            rw[List.getElem?_take] at hu;split at hu<;>first | exact hu | cases hu))
           refine ⟨.agg ((vs.drop off).take n).toArray,?_,.agg ys _ ?_ (fun u hu=>h1 u (List.mem_of_mem_drop (List.mem_of_mem_take hu))) (fun k y u hy hu=>?_)⟩
           ·simp[resRun,hpv,asAddr,hload]
           ·rw[hlen,hyl];simp;omega
           ·have hk:k<((cs.drop off).take n).length:=by rw[← hyl];exact (List.getElem?_eq_some_iff.1 hy).1
            have hck:=List.getElem?_eq_getElem hk
            refine hyx k _ y u hck hy ?_
            rw[List.getElem?_take] at hck hu
            split at hck
            ·rename_i hkn
             rw[if_pos hkn] at hu
             rw[List.getElem?_drop] at hck hu
             exact hxx _ _ u hck hu
            ·cases hck
          ·cases hv
         ·split at hv
          ·rename_i hn1
           subst hn1
           obtain ⟨c,hc,hy⟩:∃ c,cs[off]?=some c∧imm (lookO o) 40 c=some y:=by
            split at hv
            ·rename_i c hc;exact ⟨c,hc,hv⟩
            ·cases hv
           have hlt:off<vs.length:=by rw[hl];exact (List.getElem?_eq_some_iff.1 hc).1
           have hload:=run_loadVar (w:=w) hag hn b off [vs[off]] rfl (by simp) (fun k u hu=>by
            cases k with
            | zero=>simp at hu;subst hu;exact cell 0 _ (by simp[List.getElem?_drop,hlt])
            | succ k=>simp at hu)
           refine ⟨vs[off],?_,isound.1 _ _ y (hxx off c _ hc (List.getElem?_eq_getElem hlt)) hy⟩
           simp[resRun,hpv,asAddr,hload]
          ·cases hv
      ·cases hv
     ·cases hv
theorem resFits_cons {x:ARes} {r:List ARes} {rs:ResultVar} {s:List ResultVar} (h:resFits P (x::r) (rs::s)=true):resFits P [x] [rs]=true∧resFits P r s=true:=by
 cases x<;>cases rs<;>simp_all[resFits]
theorem resVs_run (h:Rel ok0 N w0 (look e) (lookO o) a w L) (hok0:∀ b,¬ w0.fr b→ok0 b):∀ {res:List ARes} {rs:List ResultVar} {ys:List IV},
  resFits P res rs=true→resVs e o res=some ys→∃ vs,(rs.mapM (resRun a.tmps)).run P w=.ok vs w∧vs.length=ys.length ∧
   ∀ (k:Nat) (y:IV) (v:Value),ys[k]?=some y→vs[k]?=some v→RepI ok0 w y v
 | [],[],ys,_,hv=>by
   simp only[resVs,Option.some.injEq] at hv
   subst hv
   exact ⟨[],by simp,rfl,by simp⟩
 | x::r,rs::s,ys,hf,hv=>by
   obtain ⟨h1,h2⟩:=resFits_cons hf
   simp only[resVs] at hv
   split at hv
   ·rename_i y ys' hy hys
    injection hv with hv
    subst hv
    obtain ⟨v,hr,hrep⟩:=resV_run h hok0 h1 hy
    obtain ⟨vs,hrs,hl,hreps⟩:=resVs_run h hok0 h2 hys
    refine ⟨v::vs,by simp[List.mapM_cons,hr,hrs],by simp[hl],fun k z u hz hu=>?_⟩
    cases k with
    | zero=>simp at hz hu;subst hz hu;exact hrep
    | succ k=>exact hreps k z u (by simpa using hz) (by simpa using hu)
   ·cases hv
 | [],_::_,ys,hf,_=>by simp[resFits] at hf
 | x::_,[],ys,hf,_=>by cases x<;>simp[resFits] at hf
theorem results_run {fn:Func} {res:List ARes} {r:IV} (h:Rel ok0 N w0 (look e) (lookO o) a w L) (hok0:∀ b,¬ w0.fr b→ok0 b) (hf:resFits P res fn.results.toList=true) (hv:retV res e o=some r) :
  ∃ v,(results fn a.tmps).run P w=.ok v w∧RepI ok0 w r v:=by
 have hfun:results fn a.tmps=(do
   let vs ← fn.results.mapM (resRun a.tmps)
   pure (if h:vs.size=1 then vs[0] else .tuple vs)):=by
  unfold results
  congr 1
 rw[hfun,Array.mapM_eq_mapM_toList]
 unfold retV at hv
 split at hv
 ·rename_i x hx
  injection hv with hv
  subst hv
  obtain ⟨vs,hrs,hl,hreps⟩:=resVs_run h hok0 hf hx
  obtain ⟨v,rfl⟩:∃ v,vs=[v]:=by
   cases vs with
   | nil=>simp at hl
   | cons v r=>cases r with
     | nil=>exact ⟨v,rfl⟩
     | cons=>simp at hl
  exact ⟨v,by simp[hrs],hreps 0 x v (by simp) (by simp)⟩
 ·rename_i xs hxs hne
  injection hv with hv
  subst hv
  obtain ⟨vs,hrs,hl,hreps⟩:=resVs_run h hok0 hf hne
  have hsz:¬ (vs.length=1):=by
   intro h1
   rw[hl] at h1
   cases xs with
   | nil=>simp at h1
   | cons x r=>cases r with
     | nil=>exact hxs x rfl
     | cons=>simp at h1
  exact ⟨.tuple vs.toArray,by simp[hrs,hsz],.tup xs vs hl hreps⟩
 ·cases hv
theorem Rel.frz {t id:Nat} {ks ids:List Nat} {cs:List AV} {xs:List IV} (h:Rel ok0 N w0 (look e) (lookO o) a w L) (hok0:∀ b,¬ w0.fr b→ok0 b) (ht:look e t=.loc id 0) (hb:lookO o id=some (.box cs)) (hc:ivs cs=some xs) (hn:ids.contains id=false) :
  Rel ok0 N w0 (look (bnd (some t) (.iv (.ptr xs)) (keepE ks ids e))) (lookO (keepO ids o ids)) a w L:=by
 have hk:=h.keep ks ids
 have hinv:∀ i ob,lookO (keepO ids o ids) i=some ob→ids.contains i=true∧∃ ob0,lookO o i=some ob0:=by
  intro i ob hob
  rw[lookO_keepO] at hob
  split at hob
  ·rename_i hi
   cases hq:lookO o i with
   | none=>simp[hq] at hob
   | some q=>exact ⟨hi,q,rfl⟩
  ·cases hob
 refine ⟨hk.below,hk.defers,hk.size,fun u=>?_,hk.objs,hk.apart,hk.pin⟩
 rw[look_bnd]
 simp only[setK]
 split
 ·rename_i hu
  subst hu
  have het:=h.env u
  rw[ht] at het
  generalize a.tmps.getD u undef=pv at het
  cases het with
  | loc _ _ cs' b hob' hL =>
    rw[hb] at hob'
    injection hob' with hob'
    injection hob' with hob'
    subst hob'
    have hob:=h.objs id _ hb
    rw[hL] at hob
    obtain ⟨hB,ty,vs,hbk,hl,h1,hx⟩:=hob
    have hxs:=ivs_spec hc
    have hokb:okL ok0 (lookO (keepO ids o ids)) L b:=⟨hok0 b hB,fun i oi hi hbad=>by
     obtain ⟨hi1,q,hq⟩:=hinv i oi hi
     have hne:i≠id:=fun e=>by rw[e,hn] at hi1;cases hi1
     exact h.apart i id q _ b hne hq hb hbad (by rw[hL];rfl)⟩
    have hlen:vs.length=xs.length:=by rw[hl,hxs,List.length_map]
    refine .iv _ _ (.ptr xs b 0 (fun k=>vs.getD k undef) (fun k hk'=>⟨hokb,?_,?_⟩) (fun k x hx'=>?_))
    ·rw[cell_of_row w b (0+k) _ ty (0,0) hbk]
     simp[List.getD_eq_getElem?_getD,show k<vs.length by omega]
    ·have hlt:k<vs.length:=by omega
     simp only[List.getD_eq_getElem?_getD,List.getElem?_eq_getElem hlt,Option.getD_some]
     exact h1 _ (List.getElem_mem hlt)
    ·have hlt:k<vs.length:=by rw[hlen];exact (List.getElem?_eq_some_iff.1 hx').1
     simp only[List.getD_eq_getElem?_getD,List.getElem?_eq_getElem hlt,Option.getD_some]
     have:=hx k (.iv x) _ (by rw[hxs];simp[hx']) (List.getElem?_eq_getElem hlt)
     cases this with
     | iv _ _ r=>exact r.mono fun y hy _=>⟨⟨hy.1,fun i oi hi=>by obtain ⟨_,q,hq⟩:=hinv i oi hi;exact hy.2 i q hq⟩,rfl⟩
 ·exact hk.env u
theorem subL_map (lod:Nat→Option AO) (ids:List Nat):∀ cs:List AV,subL lod ids cs=cs.map (subA lod ids)
 | []=>rfl
 | x::r=>by simp[subL,subL_map lod ids r]
theorem look_subE (lod:Nat→Option AO) (ids:List Nat) (e:Env):∀ (ks:List Nat) (t:Nat),look (subE lod ks ids e) t=.iv .any∨look (subE lod ks ids e) t=subA lod ids (look e t)
 | [],t=>.inl rfl
 | k::r,t=>by
   simp only[subE,look]
   split
   ·rename_i h
    subst h
    exact .inr rfl
   ·exact look_subE lod ids e r t
theorem lookO_subOs (lod:Nat→Option AO) (all:List Nat) (o:Objs):∀ (l:List Nat) (id:Nat),lookO (subOs lod all o l) id=if l.contains id then (lookO o id).map (subO lod all) else none
 | [],id=>rfl
 | k::r,id=>by
   have ih:=lookO_subOs lod all o r id
   simp only[subOs]
   by_cases hk:id=k
   ·subst hk
    cases hq:lookO o id with
    | none =>
      simp only[List.contains_cons,beq_self_eq_true,Bool.true_or,if_true,Option.map_none]
      rw[ih,hq]
      split<;>rfl
    | some x =>
      simp only[lookO,if_true,List.contains_cons,beq_self_eq_true,Bool.true_or,Option.map_some]
   ·have hne:(id==k)=false:=by simpa using hk
    simp only[List.contains_cons,hne,Bool.false_or]
    cases hq:lookO o k with
    | none=>exact ih
    | some x =>
      simp only[lookO,hk,if_false]
      exact ih
def Like:AO→AO→Prop
 | .box _,.box _=>True
 | .arr e sz es mv,.arr e' sz' es' mv'=>e'=e∧sz'=sz∧es'.length=es.length∧mv'=mv
 | a,b=>b=a
theorem like_subO (lod:Nat→Option AO) (ids:List Nat) (o:AO):Like o (subO lod ids o):=by
 cases o<;>simp[Like,subO]
theorem scr_like {ok ok':Nat→Prop} {lo lo':Nat→Option AO} {ids:List Nat} (hok:∀ b,ok b→ok' b) (hlo:∀ id o,ids.contains id=true→lo id=some o→∃ o',lo' id=some o'∧Like o o') {x:AV} {v:Value} (h:RepA ok w lo L x v):RepA ok' w lo' L (scr ids x) v:=by
 induction h with
 | iv x v h=>simp only[scr];exact .iv x v (h.mono fun b hb _=>⟨hok b hb,rfl⟩)
 | agg cs vs hl h1 _ ih =>
   simp only[scr]
   refine .agg _ vs (by rw[scrL_len'];exact hl) h1 fun k x u hx hu=>?_
   rw[scrL_get,Option.map_eq_some_iff] at hx
   obtain ⟨y,hy,rfl⟩:=hx
   exact ih k y u hy hu
 | loc id off cs b ho hL =>
   simp only[scr]
   split
   ·rename_i hc
    obtain ⟨o',h1,h2⟩:=hlo id _ hc ho
    cases o'<;>first | (cases h2;done) | skip
    exact .loc id off _ b h1 hL
   ·exact .iv _ _ (.any _)
 | aref id e sz es mv v xs ho hL hsl =>
   simp only[scr]
   split
   ·rename_i hc
    obtain ⟨o',h1,h2⟩:=hlo id _ hc ho
    cases o'<;>first | (cases h2;done) | skip
    obtain ⟨e1,e2,e3,e4⟩:=h2
    rw[← e3]
    exact .aref id _ _ _ _ v xs h1 hL hsl
   ·exact .iv _ _ (.any _)
 | old id n e sz es mv v v' xs ho hL hsl hn hv =>
   simp only[scr]
   split
   ·rename_i hc
    obtain ⟨o',h1,h2⟩:=hlo id _ hc ho
    cases o'<;>first | (cases h2;done) | skip
    obtain ⟨e1,e2,e3,e4⟩:=h2
    subst e1 e2 e4
    refine .old id n _ _ _ _ v v' xs h1 hL hsl (by omega) fun hm=>?_
    rcases hv hm with h | ⟨b,cap,g1,g2,g3,g4⟩
    ·exact .inl h
    ·exact .inr ⟨b,cap,g1,g2,g3,fun k hk=>⟨(g4 k hk).1.imp (hok b) (fun h=>h),(g4 k hk).2⟩⟩
   ·exact .iv _ _ (.any _)
 | eloc id n i off e sz es mv v xs b ho hL hn hv =>
   simp only[scr]
   split
   ·rename_i hc
    obtain ⟨o',h1,h2⟩:=hlo id _ hc ho
    cases o'<;>first | (cases h2;done) | skip
    obtain ⟨e1,e2,e3,e4⟩:=h2
    subst e1 e2 e4
    refine .eloc id n i off _ _ _ _ v xs b h1 hL (by omega) fun hm=>?_
    obtain ⟨g1,g2,g3⟩:=hv hm
    exact ⟨g1,fun e=>g2 (by omega),fun k hk=>⟨(g3 k hk).1.imp (hok b) (fun h=>h),(g3 k hk).2⟩⟩
   ·exact .iv _ _ (.any _)
 | nilr sz=>simp only[scr];exact .nilr sz
 | mref id k n e sz kvs pend b vals v ho hL h1 hn hv =>
   simp only[scr]
   split
   ·rename_i hc
    obtain ⟨o',g1,g2⟩:=hlo id _ hc ho
    cases g2
    exact .mref id k n e sz kvs pend b vals v g1 hL h1 hn hv
   ·exact .iv _ _ (.any _)
 | oref id b o ho hn hL =>
   simp only[scr]
   split
   ·rename_i hc
    obtain ⟨o',g1,g2⟩:=hlo id _ hc ho
    exact .oref id b o' g1 (by cases o<;>simp only[AO.isIter,Bool.false_eq_true] at hn<;>cases g2<;>rfl) hL
   ·exact .iv _ _ (.any _)
 | omap id b kvs ho hL =>
   simp only[scr]
   split
   ·rename_i hc
    obtain ⟨o',g1,g2⟩:=hlo id _ hc ho
    cases g2
    exact .omap id b kvs g1 hL
   ·exact .iv _ _ (.any _)
 | orow id b e sz kvs pend vals ho hL =>
   simp only[scr]
   split
   ·rename_i hc
    obtain ⟨o',g1,g2⟩:=hlo id _ hc ho
    cases g2
    exact .orow id b e sz kvs pend vals g1 hL
   ·exact .iv _ _ (.any _)
 | obytes id b cap s ho hL =>
   simp only[scr]
   split
   ·rename_i hc
    obtain ⟨o',g1,g2⟩:=hlo id _ hc ho
    cases g2
    exact .obytes id b cap s g1 hL
   ·exact .iv _ _ (.any _)
 | belem id i b s ho hL hi =>
   simp only[scr]
   split
   ·rename_i hc
    obtain ⟨o',g1,g2⟩:=hlo id _ hc ho
    cases g2
    exact .belem id i b s g1 hL hi
   ·exact .iv _ _ (.any _)
 | clo g fs cs us vs h1 h2 _ _ ih1 ih2 =>
   simp only[scr]
   refine .clo g _ _ us vs (by rw[scrL_len'];exact h1) (by rw[scrL_len'];exact h2) (fun k x u hx hu=>?_) (fun k x u hx hu=>?_)
   ·rw[scrL_get,Option.map_eq_some_iff] at hx
    obtain ⟨y,hy,rfl⟩:=hx
    exact ih1 k y u hy hu
   ·rw[scrL_get,Option.map_eq_some_iff] at hx
    obtain ⟨y,hy,rfl⟩:=hx
    exact ih2 k y u hy hu
 | tup cs vs hl _ ih =>
   simp only[scr]
   refine .tup _ vs (by rw[scrL_len'];exact hl) fun k x u hx hu=>?_
   rw[scrL_get,Option.map_eq_some_iff] at hx
   obtain ⟨y,hy,rfl⟩:=hx
   exact ih k y u hy hu
 | cb id s O D ho hL =>
   simp only[scr]
   split
   ·rename_i hc
    obtain ⟨o',g1,g2⟩:=hlo id _ hc ho
    cases g2
    exact .cb id s O D g1 hL
   ·exact .iv _ _ (.any _)
theorem Rel.fz {ks ids:List Nat} (h:Rel ok0 N w0 (look e) (lookO o) a w L) (hok0:∀ b,¬ w0.fr b→ok0 b) :
  Rel ok0 N w0 (look (subE (lodO ids o) ks ids e)) (lookO (subOs (lodO ids o) ids o ids)) a w L:=by
 have hlo:∀ id ob,ids.contains id=true→lookO o id=some ob→∃ o',lookO (subOs (lodO ids o) ids o ids) id=some o'∧Like ob o':=by
  intro id ob hc hob
  exact ⟨_,by rw[lookO_subOs,if_pos hc,hob];rfl,like_subO _ _ ob⟩
 have hinv:∀ id ob,lookO (subOs (lodO ids o) ids o ids) id=some ob→ids.contains id=true∧∃ ob0,lookO o id=some ob0∧ob=subO (lodO ids o) ids ob0:=by
  intro id ob hob
  rw[lookO_subOs] at hob
  split at hob
  ·rename_i hi
   cases hq:lookO o id with
   | none=>simp[hq] at hob
   | some q=>simp[hq] at hob;exact ⟨hi,q,rfl,hob.symm⟩
  ·cases hob
 have hok:∀ b,okL ok0 (lookO o) L b→okL ok0 (lookO (subOs (lodO ids o) ids o ids)) L b:=fun b hb =>
  ⟨hb.1,fun id ob hob=>by obtain ⟨_,q,hq,_⟩:=hinv id ob hob;exact hb.2 id q hq⟩
 have hs:=imm_soundG h hok (lo':=lodO ids o)
  (fun id ob hob=>by
    unfold lodO at hob
    split at hob
    ·cases hob
    ·exact hob)
  (fun id ob b hob hb=>by
    unfold lodO at hob
    split at hob
    ·cases hob
    ·rename_i hni
     refine ⟨hok0 b ((h.objs id ob hob).lt hb).1,fun i oi hi hbb=>?_⟩
     obtain ⟨hi1,q,hq,_⟩:=hinv i oi hi
     exact h.apart i id q ob b (fun e=>hni (by rw[← e];exact hi1)) hq hob hbb hb) 40
 have all:∀ x v,RepA (okL ok0 (lookO o) L) w (lookO o) L x v→RepA (okL ok0 (lookO (subOs (lodO ids o) ids o ids)) L) w (lookO (subOs (lodO ids o) ids o ids)) L (subA (lodO ids o) ids x) v:=fun x v hx=>by
  unfold subA
  split
  ·rename_i y hy
   exact .iv _ _ (hs.1 x v y hx hy)
  ·exact scr_like hok hlo hx
 refine ⟨h.below,h.defers.stay (fun _ _ _=>rfl) (fun r _ hn i oi hi=>by obtain ⟨_,q,hq,_⟩:=hinv i oi hi;exact hn i q hq),h.size,fun t=>?_,fun id ob hob=>?_,fun i j oi oj b hij hi hj=>?_,h.pin⟩
 ·rcases look_subE (lodO ids o) ids e ks t with hq | hq
  ·rw[hq];exact .iv _ _ (.any _)
  ·rw[hq];exact all _ _ (h.env t)
 ·obtain ⟨_,q,hq,rfl⟩:=hinv id ob hob
  have:=h.objs id q hq
  revert this
  generalize L id=l
  intro this
  have dat:q.data=true→subO (lodO ids o) ids q=q→ObjRep w0.fr (okL ok0 (lookO (subOs (lodO ids o) ids o ids)) L) w (lookO (subOs (lodO ids o) ids o ids)) L (subO (lodO ids o) ids q) l:=fun hd he=>by
   rw[he]
   exact this.stay (Keep.refl _ _) h.frl (fun _ _ _=>rfl) (fun b hb _=>⟨hok b hb,rfl⟩) (fun hf=>by rw[hd] at hf;cases hf)
  cases q with
  | mapd kvs=>exact dat rfl rfl
  | mapr e sz kvs pend=>exact dat rfl rfl
  | siter s pos=>exact dat rfl rfl
  | miter kvs seen=>exact dat rfl rfl
  | bytes s=>exact dat rfl rfl
  | ext s=>exact dat rfl rfl
  | box cs =>
    cases l with
    | box b =>
      obtain ⟨hB,t,vs,hb,hl,h1,hx⟩:=this
      refine ⟨hB,t,vs,hb,by rw[subL_map];simpa using hl,h1,fun k x u h2 h3=>?_⟩
      simp only[subL_map,List.getElem?_map,Option.map_eq_some_iff] at h2
      obtain ⟨y,hy,rfl⟩:=h2
      exact all _ _ (hx k y u hy h3)
    | _=>exact this.elim
  | arr e sz es mv =>
    cases l with
    | arr v xs =>
      obtain ⟨ho,hm,hz,h1,hx⟩:=this
      refine ⟨by rw[List.length_map];exact ho,by rw[List.length_map];exact hm,fun c hc=>?_,h1,fun i j c x u h2 h3 h4=>?_⟩
      ·obtain ⟨d,hd,rfl⟩:=List.mem_map.1 hc
       rw[subL_map,List.length_map];exact hz d hd
      ·rw[List.getElem?_map,Option.map_eq_some_iff] at h2
       obtain ⟨d,hd,rfl⟩:=h2
       rw[subL_map,List.getElem?_map,Option.map_eq_some_iff] at h3
       obtain ⟨y,hy,rfl⟩:=h3
       exact all _ _ (hx i j d y u hd hy h4)
    | _=>exact this.elim
 ·obtain ⟨_,q,hq,_⟩:=hinv i oi hi
  obtain ⟨_,q',hq',_⟩:=hinv j oj hj
  exact h.apart i j q q' b hij hq hq'
theorem stepR_scope {b:Frame} {c:Code} {k:List Item} {cs:List Frame}:step P (lone (b.atR a (.code (.scope c)::k)) cs w)=.next (lone (b.atR a (.code c::.inScope c::k)) cs w) :=
 step_lone_go (by simp[stepG,stepG.exec,Frame.atR])
theorem stepR_inScope {b:Frame} {c:Code} {k:List Item} {cs:List Frame}:step P (lone (b.atR a (.inScope c::k)) cs w)=.next (lone (b.atR a k) cs w) :=
 step_lone_go (by simp[stepG,stepG.exec,Frame.atR])
theorem wp_sem {F:Way→Env→Objs→Prop} {k:List AI} {e:Env} {o:Objs} (h:WpF P K F k e o):SemRun P K F k e o:=by
 induction h with
 | skip F k e o _ ih =>
   intro b cs tl htl N ok0 w0 c hro k' a w L hfit hr
   cases hfit with
   | code _ c' _ k' h hk =>
     cases c'<;>simp only[codeFits,Bool.false_eq_true] at h
     exact .steps (.one stepR_skip) (.refl _) (ih b cs tl htl N ok0 w0 c hro k' a w L hk hr)
 | region F l draw k e o C hrun _ ih =>
   intro b cs tl htl N ok0 w0 c hro k' a w L hfit hr
   cases hfit with
   | code _ c' _ k' h hk =>
     cases c'<;>simp only[codeFits,Bool.false_eq_true,Bool.and_eq_true,beq_iff_eq] at h
     rename_i id ops d
     obtain ⟨rfl,h⟩:=h
     have hof:=h
     simp only[regionFits,Bool.and_eq_true] at hof
     obtain ⟨e',o',hp,hc⟩:=extract l ops.toList e o w0 c a w L hof.1 hr hrun
     obtain ⟨a',w',⟨w1,L',hle,hr'⟩,hst⟩:=region_steps (id:=id) c h hr hp b k' cs
     exact .steps hst hle (ih e' o' hc b cs tl htl N ok0 w1 (c.le hle) (hro.le hle) k' a' w' L' hk hr')
 | seq F x y k e o _ ih =>
   intro b cs tl htl N ok0 w0 c hro k' a w L hfit hr
   cases hfit with
   | code _ c' _ k' h hk =>
     cases c'<;>simp only[codeFits,Bool.false_eq_true,Bool.and_eq_true] at h
     exact .steps (.one stepR_seq) (.refl _) (ih b cs tl htl N ok0 w0 c hro _ a w L (.code _ _ _ _ h.1 (.code _ _ _ _ h.2 hk)) hr)
 | cond F cc x y k e o bb hc _ _ iht ihf =>
   intro b cs tl htl N ok0 w0 c hro k' a w L hfit hr
   cases hfit with
   | code _ c' _ k' h hk =>
     cases c'<;>simp only[codeFits,Bool.false_eq_true,Bool.and_eq_true] at h
     obtain ⟨⟨h1,h2⟩,h3⟩:=h
     have hv:=Opd.rep hr h1
     rw[hc] at hv
     have hv:=inv_bool hv
     refine .steps (.one (stepR_cond hv)) (.refl _) ?_
     cases bb
     ·exact ihf rfl b cs tl htl N ok0 w0 c hro _ a w L (.code _ _ _ _ h3 hk) hr
     ·exact iht rfl b cs tl htl N ok0 w0 c hro _ a w L (.code _ _ _ _ h2 hk) hr
 | block F id cc k e o _ ih =>
   intro b cs tl htl N ok0 w0 c hro k' a w L hfit hr
   cases hfit with
   | code _ c' _ k' h hk =>
     cases c'<;>simp only[codeFits,Bool.false_eq_true,Bool.and_eq_true,beq_iff_eq] at h
     obtain ⟨rfl,h⟩:=h
     exact .steps (.one stepR_block) (.refl _) (ih b cs tl htl N ok0 w0 c hro _ a w L (.code _ _ _ _ h (.inBlock _ _ _ hk)) hr)
 | inBlock F id k e o _ ih =>
   intro b cs tl htl N ok0 w0 c hro k' a w L hfit hr
   cases hfit with
   | inBlock _ _ k' hk=>exact .steps (.one stepR_inBlock) (.refl _) (ih b cs tl htl N ok0 w0 c hro _ a w L hk hr)
 | scope F cc k e o _ ih =>
   intro b cs tl htl N ok0 w0 c hro k' a w L hfit hr
   cases hfit with
   | code _ c' _ k' h hk =>
     cases c'<;>simp only[codeFits,Bool.false_eq_true] at h
     exact .steps (.one stepR_scope) (.refl _) (ih b cs tl htl N ok0 w0 c hro _ a w L (.code _ _ _ _ h (.inScope _ _ _ hk)) hr)
 | inScope F k e o _ ih =>
   intro b cs tl htl N ok0 w0 c hro k' a w L hfit hr
   cases hfit with
   | inScope _ _ k' hk=>exact .steps (.one stepR_inScope) (.refl _) (ih b cs tl htl N ok0 w0 c hro _ a w L hk hr)
 | label F l k e o _ ih =>
   intro b cs tl htl N ok0 w0 c hro k' a w L hfit hr
   cases hfit with
   | code _ c' _ k' h hk =>
     cases c'<;>simp only[codeFits,Bool.false_eq_true,beq_iff_eq] at h
     exact .steps (.one stepR_label) (.refl _) (ih b cs tl htl N ok0 w0 c hro _ a w L hk hr)
 | loop F cc ks ids k e o _ ih =>
   intro b cs tl htl N ok0 w0 c hro k' a w L hfit hr
   cases hfit with
   | code _ c' _ k' h hk =>
     cases c'<;>simp only[codeFits,Bool.false_eq_true] at h
     exact .steps (.one stepR_loop) (.refl _) (ih b cs tl htl N ok0 w0 c hro _ a w L (.code _ _ _ _ h (.inLoop _ _ _ _ _ _ h hk)) (hr.keep ks ids))
 | inLoop F cc ks ids k e o _ ih =>
   intro b cs tl htl N ok0 w0 c hro k' a w L hfit hr
   cases hfit with
   | inLoop _ c' _ _ _ k' h hk=>exact .steps (.one stepR_inLoop) (.refl _) (ih b cs tl htl N ok0 w0 c hro _ a w L (.code _ _ _ _ h (.inLoop _ _ _ _ _ _ h hk)) (hr.keep ks ids))
 | exit F id k j e o hk _ ih =>
   intro b cs tl htl N ok0 w0 c hro k' a w L hfit hr
   cases hfit with
   | code _ c' _ k' h hkk =>
     cases c'<;>simp only[codeFits,Bool.false_eq_true,beq_iff_eq] at h
     subst h
     obtain ⟨j',h1,h2⟩:=hkk.exit hk
     exact .steps (.one (stepR_exit h1)) (.refl _) (ih b cs tl htl N ok0 w0 c hro j' a w L h2 hr)
 | nxt F d dx x id k e o kvs seen hx ho _ _ ihe ihm =>
   intro b cs tl htl N ok0 w0 c hro k' a w L hfit hr
   cases hfit with
   | code _ c' _ k' h hk =>
     cases c'<;>simp only[codeFits,Bool.false_eq_true,Bool.and_eq_true,Bool.not_eq_true'] at h
     rename_i cid ops d'
     obtain ⟨rfl,h⟩:=h
     obtain ⟨a',w',hq,harr⟩:=nxt_steps (cid:=cid) (Q:=fun a' w'=>Ends P F b cs tl N ok0 w0 (lone (b.atR a' k') cs w')) c hr h hx ho
      (fun hall a' w' L' hr'=>ihe hall b cs tl htl N ok0 w0 c hro _ a' w' L' hk (by rw[look_bnd,look_bnd];exact hr'))
      (fun i q hi hns a' w' L' hr'=>ihm i q hi hns b cs tl htl N ok0 w0 c hro _ a' w' L' hk (by rw[look_bnd,look_bnd,lookO_setOL];exact hr')) b k' cs
     exact .steps harr (.refl _) hq
 | gh F id bid off t sz c k e o cs hid hb hc _ ih =>
   intro b fr tl htl N ok0 w0 c hro k' a w L hfit hr
   cases hfit with
   | code _ c' _ k' h hk =>
     simp only[codeFits] at h
     obtain ⟨L',hr'⟩:=gh_rel (e:=t) hr hid hb hc
     exact ih b fr tl htl N ok0 w0 c hro _ a w L' (.code _ _ _ _ h hk) (by rw[lookO_setOL,lookO_setOL];exact hr')
 | ret F k e o hv =>
   intro b cs tl htl N ok0 w0 c hro k' a w L hfit hr
   cases hfit with
   | code _ c' _ k' h hk =>
     cases c'<;>simp only[codeFits,Bool.false_eq_true] at h
     exact ⟨.ret,e,o,a,w,w0,L,_,hv,.refl _,hr,⟨k',rfl⟩,Steps.refl _ _⟩
 | done F e o hv =>
   intro b cs tl htl N ok0 w0 c hro k' a w L hfit hr
   cases hfit
   exact ⟨.fall,e,o,a,w,w0,L,_,hv,.refl _,hr,rfl,Steps.refl _ _⟩
 | exitOut F id k e o hk hv =>
   intro b cs tl htl N ok0 w0 c hro k' a w L hfit hr
   cases hfit with
   | code _ c' _ k' h hkk =>
     cases c'<;>simp only[codeFits,Bool.false_eq_true,beq_iff_eq] at h
     subst h
     exact ⟨.exit id,e,o,a,w,w0,L,_,hv,.refl _,hr,⟨k',rfl,hkk.exitOut (htl id) hk⟩,Steps.refl _ _⟩
 | frz F t id ks ids cc k e o cs xs ht hb hc hn _ ih =>
   intro b fr tl htl N ok0 w0 c hro k' a w L hfit hr
   cases hfit with
   | code _ c' _ k' h hk =>
     simp only[codeFits] at h
     exact ih b fr tl htl N ok0 w0 c hro _ a w L (.code _ _ _ _ h hk) (hr.frz c.ok ht hb hc hn)
 | fz F ks ids cc k e o _ ih =>
   intro b fr tl htl N ok0 w0 c hro k' a w L hfit hr
   cases hfit with
   | code _ c' _ k' h hk =>
     simp only[codeFits] at h
     exact ih b fr tl htl N ok0 w0 c hro _ a w L (.code _ _ _ _ h hk) (hr.fz c.ok)
 | range F f ps asn body ks ids k e o g fs cs Lx St Wy m M hf hc hit h0 hm hall hend hlen _ _ _ ih1 ih2 ih3 =>
   exact range_sem hf hc hit h0 hm hall hend hlen ih1 ih2 ih3
def FnF (F:Env→Objs→Prop):Way→Env→Objs→Prop
 | .exit _,_,_=>False
 | _,e,o=>F e o
theorem mark_inj:∀ {xs ys:List Nat},xs.map mark=ys.map mark→xs=ys
 | [],[],_=>rfl
 | [],y::ys,h=>by simp at h
 | x::xs,[],h=>by simp at h
 | x::xs,y::ys,h=>by
   simp only[List.map_cons,List.cons.injEq] at h
   have:x=y:=by have h1:=h.1;injection h1 with h1;injection h1
   rw[this,mark_inj h.2]
theorem unmark {b:Frame} {cs:List Frame} {todo:List Item} {lk:Nat→AV} {lo:Nat→Option AO}:∀ (rs:List Nat) (a:Act) (w:World),a.defers=rs.map mark→Rel ok0 N w0 lk lo a w L →
  ∃ w',Rel ok0 N w0 lk lo { a with defers:=[] } w' L∧Steps P (lone { b.atR a todo with mode:=.returning } cs w) (lone { b.atR { a with defers:=[] } todo with mode:=.returning } cs w')
 | [],a,w,hd,h=>by
   have:a={ a with defers:=[] }:=by cases a;simp_all
   rw[← this]
   exact ⟨w,h,Steps.refl _ _⟩
 | r::rs,a,w,hd,h=>by
   obtain ⟨rs',h1,h2,h3⟩:=h.defers
   have hrs:rs'=r::rs:=mark_inj (h1.symm.trans hd)
   subst hrs
   obtain ⟨h4,h5,h6⟩:=h3 r (by simp)
   have hnp:=not_plain h4 ⟨by simp,by simp⟩
   have hne:∀ x,plainB w x→x≠r:=fun x hx e=>hnp (e▸hx)
   have hrel:Rel ok0 N w0 lk lo { a with defers:=rs.map mark } (w.putObj r (.deferred none)) L:=by
    refine h.move ⟨rfl,rfl,rfl,by rw[putObj_size];exact Nat.le_refl _⟩ (h.below.trans (Keep.put w r _ h5)) ⟨rs,rfl,(List.nodup_cons.1 h2).2,fun x hx=>?_⟩ h.size h.env h.pin (fun x hx hp=>⟨hx.1,putObj_other (hne x hp)⟩) (fun id ob x ho hx=>⟨((h.objs id ob ho).lt hx).1,putObj_other fun e=>h6 id ob ho (e▸hx)⟩) (fun x hx hok=>⟨hx,hok.1,putObj_other fun e=>h5 (e▸hx)⟩)
    obtain ⟨g1,g2,g3⟩:=h3 x (by simp[hx])
    exact ⟨(putObj_other fun e=>(List.nodup_cons.1 h2).1 (by rw[← e];exact hx)).trans g1,g2,g3⟩
   have hstep:=step_collected (P:=P) (fr:={ b.atR a todo with mode:=.returning }) (cs:=cs) (d:=mark r) (r:=r) (ds:=rs.map mark) (calls:=[]) (by simp) (by rw[← List.map_cons,← hd];rfl) rfl (run_takeDeferred h4)
   obtain ⟨w',h7,h8⟩:=unmark (b:=b) (cs:=cs) (todo:=todo) rs { a with defers:=rs.map mark } _ rfl hrel
   exact ⟨w',h7,.head hstep h8⟩
theorem wp_fn {f:FuncId} {fn:Func} {code:Code} {ac:AC} {args:Array Value} {F:Env→Objs→Prop} {R:Value→World→Prop} (c:Ctx P K ok0 w0) (hfn:P.funcs[f]?=some fn) (hbody:fn.body=some code) (hfit:codeFits P N ac code=true)
  (hrel:Rel ok0 N w0 (look e) (lookO o) { tmps:=args++Array.replicate (fn.ntmps-args.size) undef,defers:=[] } w L) (h:WpF P K (FnF F) [.code ac] e o)
  (hF:∀ (w1:Base) (e':Env) (o':Objs) (a':Act) (w':World) (L':Nat→Lay),w0.le w1→F e' o'→Rel ok0 N w1 (look e') (lookO o') a' w' L'→∃ v,(results fn a'.tmps).run P w'=.ok v w'∧R v w') :
  Calls P f args w (fun e w'=>∃ v,e=.returned v∧R v w'):=by
 intro cs
 let b:Frame:={ (default:Frame) with fn:=f,kind:=.normal,roundOf:=none }
 have henter:Frame.enter P f args .normal=b.atR { tmps:=args++Array.replicate (fn.ntmps-args.size) undef,defers:=[] } [.code code]:=by
  simp[Frame.enter,Frame.atR,hfn,hbody,b]
 obtain ⟨wy,e',o',a',w',w1,L',k,hf,hle,hr',hat,hst⟩:=wp_sem h b cs [] (fun id=>rfl) N ok0 w0 c (fun l hl=>by cases hl) [.code code] _ w L (.code _ _ _ _ hfit .nil) hrel
 have hout:step P (lone (b.atR a' k) cs w')=.next (lone { b.atR a' k with mode:=.returning } cs w')∧F e' o':=by
  cases wy with
  | fall =>
    have hk:k=[]:=hat
    subst hk
    exact ⟨stepR_end rfl,hf⟩
  | ret =>
    obtain ⟨k1,rfl⟩:=hat
    exact ⟨stepR_ret rfl,hf⟩
  | exit id=>exact hf.elim
 obtain ⟨rs,hd,_⟩:=hr'.defers
 obtain ⟨w2,hr2,hst2⟩:=unmark (P:=P) (b:=b) (cs:=cs) (todo:=k) rs a' w' hd hr'
 obtain ⟨v,hv,hR⟩:=hF w1 e' o' _ w2 L' hle hout.2 hr2
 refine ⟨.returned v,w2,{ b.atR { a' with defers:=[] } k with mode:=.returning },⟨v,rfl,hR⟩,?_,rfl,⟨rfl,rfl,rfl,fn,hfn,hv⟩⟩
 rw[henter]
 exact (hst.trans (.head hout.1 hst2))
structure AFn where
 nt:Nat
 res:List ARes
 code:AC
def fnFits (P:Program) (fn:Func) (A:AFn):Bool :=
 (match fn.body with | some c=>codeFits P ⟨A.nt,[]⟩ A.code c | none=>false)&&fn.ntmps==A.nt&&resFits P A.res fn.results.toList
def FnOk (P:Program) (f:FuncId) (A:AFn):Prop:=∃ fn,P.funcs[f]?=some fn∧fnFits P fn A=true
def argEnv:Nat→List IV→Env
 | _,[]=>[]
 | i,x::r=>(i,.iv x)::argEnv (i+1) r
theorem look_argEnv:∀ (xs:List IV) (i t:Nat),look (argEnv i xs) t=.iv .any∨∃ x,i≤t∧xs[t-i]?=some x∧look (argEnv i xs) t=.iv x
 | [],i,t=>.inl rfl
 | x::r,i,t=>by
   simp only[argEnv,look]
   split
   ·rename_i h
    subst h
    exact .inr ⟨x,Nat.le_refl _,by simp,rfl⟩
   ·rename_i h
    rcases look_argEnv r (i+1) t with h1 | ⟨y,h1,h2,h3⟩
    ·exact .inl h1
    ·refine .inr ⟨y,by omega,?_,h3⟩
     have:t-i=(t-(i+1))+1:=by omega
     rw[this]
     simpa using h2
theorem calls_of_wp {f:FuncId} {A:AFn} {xs:List IV} {F:Env→Objs→Prop} (hK:∀ w w',K w→Below w.heap.size w w'→K w') (hok:FnOk P f A) (hlen:xs.length≤A.nt)
  (h:WpF P K (FnF F) [.code A.code] (argEnv 0 xs) []) (w:World) (ok:Nat→Prop) (vs:List Value) (R:Value→World→Prop) (hk:K w) (hnew:∀ b,w.heap.size≤b→ok b) (hvl:vs.length=xs.length)
  (hvs:∀ (k:Nat) (x:IV) (u:Value),xs[k]?=some x→vs[k]?=some u→RepI ok w x u)
  (hF:∀ (fn:Func) (w1:Base) (e:Env) (o:Objs) (a:Act) (w':World) (L:Nat→Lay),resFits P A.res fn.results.toList=true→F e o→Base.le ⟨w,fun b=>b<w.heap.size,fun _ h=>h,fun _=>undef⟩ w1→Rel ok ⟨A.nt,[]⟩ w1 (look e) (lookO o) a w' L→∃ v,(results fn a.tmps).run P w'=.ok v w'∧R v w') :
  Calls P f vs.toArray w (fun e w'=>∃ v,e=.returned v∧R v w'):=by
 obtain ⟨fn,hfn,hok⟩:=hok
 unfold fnFits at hok
 ·split at hok
  ·rename_i c hbody
   simp only[Bool.and_eq_true,beq_iff_eq] at hok
   obtain ⟨⟨hfit,hnt⟩,hres⟩:=hok
   let a:Act:={ tmps:=vs.toArray++Array.replicate (fn.ntmps-vs.toArray.size) undef,defers:=[] }
   let w0:Base:=⟨w,fun b=>b<w.heap.size,fun _ h=>h,fun _=>undef⟩
   have hctx:Ctx P K ok w0:=⟨fun w' h=>hK w w' hk h.below,fun b hb=>hnew b (Nat.not_lt.1 hb)⟩
   have hrel:Rel ok ⟨A.nt,[]⟩ w0 (look (argEnv 0 xs)) (lookO []) a w (fun _=>.box 0):=by
    refine ⟨Keep.refl _ _,⟨[],rfl,List.nodup_nil,by simp⟩,?_,fun t=>?_,fun id o ho=>by simp[lookO] at ho,fun i j oi oj b hij hi=>by simp[lookO] at hi,fun t ht=>by simp at ht⟩
    ·simp[a,hnt];omega
    ·rcases look_argEnv xs 0 t with h1 | ⟨x,_,h2,h3⟩
     ·rw[h1];exact .iv _ _ (.any _)
     ·rw[h3]
      simp only[Nat.sub_zero] at h2
      have hlt:t<vs.length:=by rw[hvl];exact (List.getElem?_eq_some_iff.1 h2).1
      have hget:a.tmps.getD t undef=vs[t]:=by
       simp[a,Array.getD_eq_getD_getElem?,Array.getElem?_append,hlt]
      rw[hget]
      exact .iv _ _ ((hvs t x _ h2 (List.getElem?_eq_getElem hlt)).mono fun b hb _=>⟨⟨hb,fun id o ho=>by simp[lookO] at ho⟩,rfl⟩)
   exact wp_fn (ac:=A.code) hctx hfn hbody hfit hrel h (fun w1 e' o' a' w' L' hle hf hr'=>hF fn w1 e' o' a' w' L' hres hf hle hr')
  ·simp at hok
theorem good_of_wp {f:FuncId} {A:AFn} {xs:List IV} {r:IV} (hK:∀ w w',K w→Below w.heap.size w w'→K w') (hok:FnOk P f A) (hlen:xs.length≤A.nt)
  (h:WpF P K (FnF (RetIs A.res r)) [.code A.code] (argEnv 0 xs) []):Good P K f xs r:=by
 intro w ok vs hk hnew hvl hvs
 refine calls_of_wp hK hok hlen h w ok vs (fun v w'=>RepI ok w' r v∧Below w.heap.size w w') hk hnew hvl hvs (fun fn w1 e o a w' L hres hv hle hr=>?_)
 obtain ⟨v,h1,h2⟩:=results_run hr (fun b hb=>hnew b (Nat.not_lt.1 fun h=>hb (hle.fr b h))) hres hv
 exact ⟨v,h1,h2,(hle.keeps hr.below).below⟩
def retA (e:Env) (o:Objs):ARes→Option AV
 | .tmp t=>some (look e t)
 | .cell t n ag=>match look e t with
   | .loc id off=>match lookO o id with
     | some (.box cs)=>match ag with
       | true=>if off+n≤cs.length then some (mkAgg ((cs.drop off).take n)) else none
       | false=>if n=1 then cs[off]? else none
     | _=>none
   | _=>none
theorem resA_run (h:Rel ok0 N w0 (look e) (lookO o) a w L) {x:ARes} {rs:ResultVar} {y:AV}
  (hf:resFits P [x] [rs]=true) (hv:retA e o x=some y):∃ v,(resRun a.tmps rs).run P w=.ok v w∧RepA (okL ok0 (lookO o) L) w (lookO o) L y v:=by
 cases x with
 | tmp t =>
   cases rs with
   | cell=>simp[resFits] at hf
   | tmp t' =>
     simp only[resFits,Bool.and_true,beq_iff_eq] at hf
     subst hf
     simp only[retA,Option.some.injEq] at hv
     subst hv
     exact ⟨a.tmps.getD t undef,rfl,h.env t⟩
 | cell t n ag =>
   cases rs with
   | tmp=>simp[resFits] at hf
   | cell t' T =>
     simp only[resFits,Bool.and_true,Bool.and_eq_true,beq_iff_eq] at hf
     obtain ⟨⟨rfl,hag⟩,hn⟩:=hf
     simp only[retA] at hv
     have het:=h.env t
     generalize look e t=xv at hv het
     split at hv
     ·rename_i id off
      split at hv
      ·rename_i cs hcs
       have hob:=h.objs _ _ hcs
       generalize hpv:a.tmps.getD t undef=pv at het
       cases het with
       | loc _ _ cs' b hob' hL =>
         rw[hcs] at hob'
         injection hob' with hob'
         injection hob' with hob'
         subst hob'
         rw[hL] at hob
         obtain ⟨hB,ty,vs,hb,hl,h1,hxx⟩:=hob
         have cell:∀ (k:Nat) (u:Value),(vs.drop off)[k]?=some u→w.cell? ⟨b,off+k,none⟩=some u:=by
          intro k u hu
          rw[cell_of_row w b (off+k) _ ty (0,0) hb]
          simpa[List.getElem?_drop] using hu
         split at hv
         ·split at hv
          ·rename_i hfit
           injection hv with hv
           subst hv
           have hlen:((vs.drop off).take n).length=n:=by simp;omega
           have hload:=run_loadVar (w:=w) hag hn b off ((vs.drop off).take n) hlen (by simp) (fun k u hu=>cell k u (by
            rw[List.getElem?_take] at hu;split at hu<;>first | exact hu | cases hu))
           refine ⟨.agg ((vs.drop off).take n).toArray,?_,rep_mkAgg (by simp;omega) (fun u hu=>h1 u (List.mem_of_mem_drop (List.mem_of_mem_take hu))) (fun k y u hy hu=>?_)⟩
           ·simp[resRun,hpv,asAddr,hload]
           ·rw[List.getElem?_take] at hy hu
            split at hy
            ·rename_i hkn
             rw[if_pos hkn] at hu
             rw[List.getElem?_drop] at hy hu
             exact hxx _ _ u hy hu
            ·cases hy
          ·cases hv
         ·split at hv
          ·rename_i hn1
           subst hn1
           have hlt:off<vs.length:=by rw[hl];exact (List.getElem?_eq_some_iff.1 hv).1
           have hload:=run_loadVar (w:=w) hag hn b off [vs[off]] rfl (by simp) (fun k u hu=>by
            cases k with
            | zero=>simp at hu;subst hu;exact cell 0 _ (by simp[List.getElem?_drop,hlt])
            | succ k=>simp at hu)
           refine ⟨vs[off],?_,hxx off _ _ hv (List.getElem?_eq_getElem hlt)⟩
           simp[resRun,hpv,asAddr,hload]
          ·cases hv
      ·cases hv
     ·cases hv
def EndO (x:ARes) (id:Nat) (q:AV) (ob:AO) (e:Env) (o:Objs):Prop:=retA e o x=some (ren id q)∧lookO o id=some ob
theorem goodo_of_wp {f:FuncId} {A:AFn} {xs:List IV} {q:AV} {e:TypeId} {sz:Nat} {rows:List (List IV)} {mv:Nat} (x:ARes) (id:Nat) (hK:∀ w w',K w→Below w.heap.size w w'→K w') (hok:FnOk P f A) (hlen:xs.length≤A.nt)
  (hres:A.res=[x]) (h:WpF P K (FnF (EndO x id q (rowO e sz rows mv))) [.code A.code] (argEnv 0 xs) []):GoodO P K f xs q e sz rows mv:=by
 intro w ok vs hk hnew hvl hvs
 have:=calls_of_wp hK hok hlen h w ok vs (fun v w'=>∃ l,ObjRep (fun b=>b<w.heap.size) (okL ok (one (rowO e sz rows mv)) (fun _=>l)) w' (one (rowO e sz rows mv)) (fun _=>l) (rowO e sz rows mv) l ∧
   RepA (okL ok (one (rowO e sz rows mv)) (fun _=>l)) w' (one (rowO e sz rows mv)) (fun _=>l) (ren 0 q) v∧Below w.heap.size w w') hk hnew hvl hvs (fun fn w1 e' o a w' L hres' hv hle hr=>?_)
 ·refine this.mono fun x w' ⟨v,hx,l,h1,h2,h3⟩=>⟨v,l,hx,h1,h2,h3⟩
 ·rw[hres] at hres'
  obtain ⟨h1,h2⟩:=hv
  obtain ⟨rs,hrs⟩:∃ rs,fn.results.toList=[rs]:=by
   match hfr:fn.results.toList,hres' with
   | [r],h=>exact ⟨r,rfl⟩
   | [],h=>cases x<;>simp[resFits] at h
   | r::_::_,h=>cases x<;>cases r<;>simp[resFits] at h
  rw[hrs] at hres'
  obtain ⟨v,hv1,hv2⟩:=resA_run hr hres' h1
  have hrun:(results fn a.tmps).run P w'=.ok v w':=by
   have hfun:results fn a.tmps=(do
     let vs ← fn.results.mapM (resRun a.tmps)
     pure (if h:vs.size=1 then vs[0] else .tuple vs)):=by
    unfold results
    congr 1
   rw[hfun,Array.mapM_eq_mapM_toList,hrs]
   simp[List.mapM_cons,hv1]
  have hokk:∀ b,okL ok (lookO o) L b→okL ok (one (rowO e sz rows mv)) (fun _=>L id) b:=by
   intro b hb
   refine ⟨hb.1,fun i oi _=>hb.2 id _ h2⟩
  refine ⟨_,hrun,L id,rowO_rep (fun b hb h=>hb (hle.fr b h)) hokk (hr.objs id _ h2),ren_rep (lo':=one (rowO e sz rows mv)) (j:=0) hokk h2 rfl rfl hv2,(hle.keeps hr.below).below⟩
/-! ### Functions that hand a row back -/
def rowIs (e:TypeId) (sz:Nat) (rows:List (List IV)):Option AO→Prop
 | some (.arr e' sz' es _)=>e'=e∧sz'=sz∧es=rows.map (List.map AV.iv)
 | _=>False
def EndR (t:Nat) (ty:TypeId) (sz:Nat) (rows':List (List IV)) (e:Env) (o:Objs):Prop:=look e t=.aref 0 rows'.length∧rowIs ty sz rows' (lookO o 0)
def KRow (K:World→Prop) (sz:Nat) (rows:List (List IV)) (v0:Value) (w:World):Prop:=K w∧RepI (fun _=>True) w (.sl sz rows) v0
theorem KRow.stay {sz:Nat} {rows:List (List IV)} {v0:Value} (hK:∀ w w',K w→Below w.heap.size w w'→K w'):∀ w w',KRow K sz rows v0 w→Below w.heap.size w w'→KRow K sz rows v0 w' :=
 fun w w' h hb=>⟨hK w w' h.1 hb,h.2.mono fun b _ hlt=>⟨trivial,hb.block b hlt⟩⟩
end
end Go.Ev

/- How a run of the evaluator is reckoned by simp. -/
namespace Go.Ev
open Go Go.RowKit
def AOp.isCall:AOp→Bool
 | .call _ _ _ | .callo _ _ _ _ | .calld _ _ _ | .callr _ _ _ _ | .callb _ _ _ | .callx _ _ _ | .callh _ _ _ | .caldh _ _ _ | .cpy _ _ _=>true
 | .yy _=>false
 | .mov _ | .nilo _ _ _ | .pick _ _ _ | .ext _ _ | .not _ | .bin _ _ _ | .beq _ _ _ | .cvi _ _ | .cvs _ | .b2s _ | .i2s _ | .nilc _ | .fld _ _ | .ldi _ _ _ | .ldo _ _ _ _ | .sto _ _ _ _ | .ixi _ _ _ | .ixo _ _ _ _
 | .ixs _ _ | .sli _ _ _ _ | .sls _ _ _ | .boxi _ | .boxo _ _ | .alo _ _ | .bld _ _ | .bsl _ _ | .bso _ _ _ _ | .len _ | .leno _ _ | .lst _ | .app _ _ _ _ _ _=>false
theorem ivs_map:∀ (l:List IV),ivs (l.map AV.iv)=some l
 | []=>rfl
 | a::l=>by simp[ivs,ivs_map l,AV.iv?]
theorem ivss_map:∀ (L:List (List IV)),ivss (L.map (List.map AV.iv))=some L
 | []=>rfl
 | a::l=>by simp[ivss,ivss_map l,ivs_map]
section
variable {P:Program} {K:World→Prop} {F:Way→Env→Objs→Prop}
def opK (P:Program) (K:World→Prop) (C:Env→Objs→Prop) (d:Option Nat) (l:List AOper) (e:Env) (o:Objs):Res→Prop
 | .ok s f v up=>s∧(f→runOps P K C l (bnd d v e) (upL up o))
 | .no=>False
def gK (P:Program) (K:World→Prop) (C:Env→Objs→Prop) (d:Option Nat) (t:Nat) (b:Bool) (op:AOp) (l:List AOper) (e:Env) (o:Objs):AV→Prop
 | .iv (.bool c)=>(c=b→runOps P K C (⟨d,none,op⟩::l) (setE t (.iv (.bool b)) e) o)∧(c=!b→runOps P K C l (bnd d (.iv (.tup [])) (setE t (.iv (.bool (!b))) e)) o)
 | .iv (.tup [])=>runOps P K C l (bnd d (.iv (.tup [])) (setE t (.iv (.tup [])) e)) o
 | _=>False
def callK (P:Program) (K:World→Prop) (C:Env→Objs→Prop) (d:Option Nat) (g:FuncId) (own:Bool) (l:List AOper) (e:Env) (o:Objs) (xs:Option (List IV)):Prop :=
 ∃ ys r,xs=some ys∧Good P K g ys r∧(own=false∨scalar r=true)∧runOps P K C l (bnd d (.iv r) e) o
def callO (P:Program) (K:World→Prop) (C:Env→Objs→Prop) (d:Option Nat) (g:FuncId) (id:Nat) (ids:List Nat) (l:List AOper) (e:Env) (o:Objs) (xs:Option (List IV)):Prop :=
 ∃ ys q t sz rows mv,ids=[]∧xs=some ys∧GoodO P K g ys q t sz rows mv∧lookO o id=none∧runOps P K C l (bnd d (ren id q) e) (setOL id (rowO t sz rows mv) o)
def condK (X Y:Prop):AV→Prop
 | .iv (.bool b)=>(b=true→X)∧(b=false→Y)
 | _=>False
@[simp] theorem gK_skip (C:Env→Objs→Prop) (d:Option Nat) (t:Nat) (b:Bool) (op:AOp) (l:List AOper) (e:Env) (o:Objs):gK P K C d t b op l e o (.iv (.tup []))=runOps P K C l (bnd d (.iv (.tup [])) (setE t (.iv (.tup [])) e)) o:=rfl
@[simp] theorem opK_ok (C:Env→Objs→Prop) (d:Option Nat) (l:List AOper) (e:Env) (o:Objs) (s f:Prop) (v:AV) (up:Option (Nat × AO)) :
  opK P K C d l e o (.ok s f v up)=(s∧(f→runOps P K C l (bnd d v e) (upL up o))):=rfl
@[simp] theorem opK_no (C:Env→Objs→Prop) (d:Option Nat) (l:List AOper) (e:Env) (o:Objs):opK P K C d l e o .no=False:=rfl
@[simp] theorem gK_tt (C:Env→Objs→Prop) (d:Option Nat) (t:Nat) (c:Bool) (op:AOp) (l:List AOper) (e:Env) (o:Objs) (h:c=true):gK P K C d t true op l e o (.iv (.bool c))=runOps P K C (⟨d,none,op⟩::l) (setE t (.iv (.bool true)) e) o:=by subst h;simp[gK]
@[simp] theorem gK_tf (C:Env→Objs→Prop) (d:Option Nat) (t:Nat) (c:Bool) (op:AOp) (l:List AOper) (e:Env) (o:Objs) (h:c=false):gK P K C d t true op l e o (.iv (.bool c))=runOps P K C l (bnd d (.iv (.tup [])) (setE t (.iv (.bool false)) e)) o:=by subst h;simp[gK]
@[simp] theorem gK_ff (C:Env→Objs→Prop) (d:Option Nat) (t:Nat) (c:Bool) (op:AOp) (l:List AOper) (e:Env) (o:Objs) (h:c=false):gK P K C d t false op l e o (.iv (.bool c))=runOps P K C (⟨d,none,op⟩::l) (setE t (.iv (.bool false)) e) o:=by subst h;simp[gK]
@[simp] theorem gK_ft (C:Env→Objs→Prop) (d:Option Nat) (t:Nat) (c:Bool) (op:AOp) (l:List AOper) (e:Env) (o:Objs) (h:c=true):gK P K C d t false op l e o (.iv (.bool c))=runOps P K C l (bnd d (.iv (.tup [])) (setE t (.iv (.bool true)) e)) o:=by subst h;simp[gK]
@[simp] theorem gK_bt (C:Env→Objs→Prop) (d:Option Nat) (t:Nat) (c:Bool) (op:AOp) (l:List AOper) (e:Env) (o:Objs):gK P K C d t true op l e o (.iv (.bool c)) =
  ((c=true→runOps P K C (⟨d,none,op⟩::l) (setE t (.iv (.bool true)) e) o)∧(c=false→runOps P K C l (bnd d (.iv (.tup [])) (setE t (.iv (.bool false)) e)) o)):=rfl
@[simp] theorem gK_bf (C:Env→Objs→Prop) (d:Option Nat) (t:Nat) (c:Bool) (op:AOp) (l:List AOper) (e:Env) (o:Objs):gK P K C d t false op l e o (.iv (.bool c)) =
  ((c=false→runOps P K C (⟨d,none,op⟩::l) (setE t (.iv (.bool false)) e) o)∧(c=true→runOps P K C l (bnd d (.iv (.tup [])) (setE t (.iv (.bool true)) e)) o)):=rfl
@[simp] theorem condK_true (X Y:Prop) (b:Bool) (h:b=true):condK X Y (.iv (.bool b))=X:=by subst h;simp[condK]
@[simp] theorem condK_false (X Y:Prop) (b:Bool) (h:b=false):condK X Y (.iv (.bool b))=Y:=by subst h;simp[condK]
@[simp] theorem condK_bool (X Y:Prop) (b:Bool):condK X Y (.iv (.bool b))=((b=true→X)∧(b=false→Y)):=rfl
theorem runOps_nil (C:Env→Objs→Prop) (e:Env) (o:Objs):runOps P K C [] e o=C e o:=rfl
theorem runOps_plain (C:Env→Objs→Prop) (d:Option Nat) (op:AOp) (l:List AOper) (e:Env) (o:Objs) (h:op.isCall=false) :
  runOps P K C (⟨d,none,op⟩::l) e o=opK P K C d l e o (ev (look e) (lookO o) op):=by
 simp only[runOps]
 cases op with
 | call g args ids=>simp[AOp.isCall] at h
 | callo g args ids id=>simp[AOp.isCall] at h
 | calld x args ids=>simp[AOp.isCall] at h
 | callr g x args id=>simp[AOp.isCall] at h
 | callb x args id=>simp[AOp.isCall] at h
 | callx g args id=>simp[AOp.isCall] at h
 | callh g args ids=>simp[AOp.isCall] at h
 | cpy id x y=>simp[AOp.isCall] at h
 | caldh x args ids=>simp[AOp.isCall] at h
 | _ =>
   simp only[run1]
   unfold evK opK
   rfl
theorem st_mov (C:Env→Objs→Prop) (d:Option Nat) (x:Opd) (l:List AOper) (e:Env) (o:Objs):runOps P K C (⟨d,none,.mov x⟩::l) e o=opK P K C d l e o (ev (look e) (lookO o) (.mov x)):=runOps_plain C d _ l e o rfl
theorem st_nilo (C:Env→Objs→Prop) (d:Option Nat) (id:Nat) (t:Nat) (sz:Nat) (l:List AOper) (e:Env) (o:Objs):runOps P K C (⟨d,none,.nilo id t sz⟩::l) e o=opK P K C d l e o (ev (look e) (lookO o) (.nilo id t sz)):=runOps_plain C d _ l e o rfl
theorem st_pick (C:Env→Objs→Prop) (d:Option Nat) (c:Opd) (x:Opd) (y:Opd) (l:List AOper) (e:Env) (o:Objs):runOps P K C (⟨d,none,.pick c x y⟩::l) e o=opK P K C d l e o (ev (look e) (lookO o) (.pick c x y)):=runOps_plain C d _ l e o rfl
theorem st_ext (C:Env→Objs→Prop) (d:Option Nat) (x:Opd) (i:Nat) (l:List AOper) (e:Env) (o:Objs):runOps P K C (⟨d,none,.ext x i⟩::l) e o=opK P K C d l e o (ev (look e) (lookO o) (.ext x i)):=runOps_plain C d _ l e o rfl
theorem st_not (C:Env→Objs→Prop) (d:Option Nat) (x:Opd) (l:List AOper) (e:Env) (o:Objs):runOps P K C (⟨d,none,.not x⟩::l) e o=opK P K C d l e o (ev (look e) (lookO o) (.not x)):=runOps_plain C d _ l e o rfl
theorem st_bin (C:Env→Objs→Prop) (d:Option Nat) (b:BinOp) (x:Opd) (y:Opd) (l:List AOper) (e:Env) (o:Objs):runOps P K C (⟨d,none,.bin b x y⟩::l) e o=opK P K C d l e o (ev (look e) (lookO o) (.bin b x y)):=runOps_plain C d _ l e o rfl
theorem st_beq (C:Env→Objs→Prop) (d:Option Nat) (n:Bool) (x:Opd) (y:Opd) (l:List AOper) (e:Env) (o:Objs):runOps P K C (⟨d,none,.beq n x y⟩::l) e o=opK P K C d l e o (ev (look e) (lookO o) (.beq n x y)):=runOps_plain C d _ l e o rfl
theorem st_cvi (C:Env→Objs→Prop) (d:Option Nat) (k:IntKind) (x:Opd) (l:List AOper) (e:Env) (o:Objs):runOps P K C (⟨d,none,.cvi k x⟩::l) e o=opK P K C d l e o (ev (look e) (lookO o) (.cvi k x)):=runOps_plain C d _ l e o rfl
theorem st_cvs (C:Env→Objs→Prop) (d:Option Nat) (x:Opd) (l:List AOper) (e:Env) (o:Objs):runOps P K C (⟨d,none,.cvs x⟩::l) e o=opK P K C d l e o (ev (look e) (lookO o) (.cvs x)):=runOps_plain C d _ l e o rfl
theorem st_b2s (C:Env→Objs→Prop) (d:Option Nat) (x:Opd) (l:List AOper) (e:Env) (o:Objs):runOps P K C (⟨d,none,.b2s x⟩::l) e o=opK P K C d l e o (ev (look e) (lookO o) (.b2s x)):=runOps_plain C d _ l e o rfl
theorem st_i2s (C:Env→Objs→Prop) (d:Option Nat) (x:Opd) (l:List AOper) (e:Env) (o:Objs):runOps P K C (⟨d,none,.i2s x⟩::l) e o=opK P K C d l e o (ev (look e) (lookO o) (.i2s x)):=runOps_plain C d _ l e o rfl
theorem st_nilc (C:Env→Objs→Prop) (d:Option Nat) (x:Opd) (l:List AOper) (e:Env) (o:Objs):runOps P K C (⟨d,none,.nilc x⟩::l) e o=opK P K C d l e o (ev (look e) (lookO o) (.nilc x)):=runOps_plain C d _ l e o rfl
theorem st_fld (C:Env→Objs→Prop) (d:Option Nat) (n:Nat) (x:Opd) (l:List AOper) (e:Env) (o:Objs):runOps P K C (⟨d,none,.fld n x⟩::l) e o=opK P K C d l e o (ev (look e) (lookO o) (.fld n x)):=runOps_plain C d _ l e o rfl
theorem st_ldi (C:Env→Objs→Prop) (d:Option Nat) (n:Nat) (g:Bool) (x:Opd) (l:List AOper) (e:Env) (o:Objs):runOps P K C (⟨d,none,.ldi n g x⟩::l) e o=opK P K C d l e o (ev (look e) (lookO o) (.ldi n g x)):=runOps_plain C d _ l e o rfl
theorem st_ldo (C:Env→Objs→Prop) (d:Option Nat) (id:Nat) (n:Nat) (g:Bool) (x:Opd) (l:List AOper) (e:Env) (o:Objs):runOps P K C (⟨d,none,.ldo id n g x⟩::l) e o=opK P K C d l e o (ev (look e) (lookO o) (.ldo id n g x)):=runOps_plain C d _ l e o rfl
theorem st_sto (C:Env→Objs→Prop) (d:Option Nat) (id:Nat) (n:Nat) (x:Opd) (y:Opd) (l:List AOper) (e:Env) (o:Objs):runOps P K C (⟨d,none,.sto id n x y⟩::l) e o=opK P K C d l e o (ev (look e) (lookO o) (.sto id n x y)):=runOps_plain C d _ l e o rfl
theorem st_ixi (C:Env→Objs→Prop) (d:Option Nat) (sz:Nat) (x:Opd) (i:Opd) (l:List AOper) (e:Env) (o:Objs):runOps P K C (⟨d,none,.ixi sz x i⟩::l) e o=opK P K C d l e o (ev (look e) (lookO o) (.ixi sz x i)):=runOps_plain C d _ l e o rfl
theorem st_ixo (C:Env→Objs→Prop) (d:Option Nat) (id:Nat) (sz:Nat) (x:Opd) (i:Opd) (l:List AOper) (e:Env) (o:Objs):runOps P K C (⟨d,none,.ixo id sz x i⟩::l) e o=opK P K C d l e o (ev (look e) (lookO o) (.ixo id sz x i)):=runOps_plain C d _ l e o rfl
theorem st_ixs (C:Env→Objs→Prop) (d:Option Nat) (x:Opd) (i:Opd) (l:List AOper) (e:Env) (o:Objs):runOps P K C (⟨d,none,.ixs x i⟩::l) e o=opK P K C d l e o (ev (look e) (lookO o) (.ixs x i)):=runOps_plain C d _ l e o rfl
theorem st_sli (C:Env→Objs→Prop) (d:Option Nat) (sz:Nat) (x:Opd) (i:Option Opd) (j:Option Opd) (l:List AOper) (e:Env) (o:Objs):runOps P K C (⟨d,none,.sli sz x i j⟩::l) e o=opK P K C d l e o (ev (look e) (lookO o) (.sli sz x i j)):=runOps_plain C d _ l e o rfl
theorem st_sls (C:Env→Objs→Prop) (d:Option Nat) (x:Opd) (i:Option Opd) (j:Option Opd) (l:List AOper) (e:Env) (o:Objs):runOps P K C (⟨d,none,.sls x i j⟩::l) e o=opK P K C d l e o (ev (look e) (lookO o) (.sls x i j)):=runOps_plain C d _ l e o rfl
theorem st_boxi (C:Env→Objs→Prop) (d:Option Nat) (x:Opd) (l:List AOper) (e:Env) (o:Objs):runOps P K C (⟨d,none,.boxi x⟩::l) e o=opK P K C d l e o (ev (look e) (lookO o) (.boxi x)):=runOps_plain C d _ l e o rfl
theorem st_boxo (C:Env→Objs→Prop) (d:Option Nat) (id:Nat) (x:Opd) (l:List AOper) (e:Env) (o:Objs):runOps P K C (⟨d,none,.boxo id x⟩::l) e o=opK P K C d l e o (ev (look e) (lookO o) (.boxo id x)):=runOps_plain C d _ l e o rfl
theorem st_alo (C:Env→Objs→Prop) (d:Option Nat) (id:Nat) (zs:List Opd) (l:List AOper) (e:Env) (o:Objs):runOps P K C (⟨d,none,.alo id zs⟩::l) e o=opK P K C d l e o (ev (look e) (lookO o) (.alo id zs)):=runOps_plain C d _ l e o rfl
theorem st_bld (C:Env→Objs→Prop) (d:Option Nat) (zs:List Opd) (ps:List (Nat × Nat × Opd)) (l:List AOper) (e:Env) (o:Objs):runOps P K C (⟨d,none,.bld zs ps⟩::l) e o=opK P K C d l e o (ev (look e) (lookO o) (.bld zs ps)):=runOps_plain C d _ l e o rfl
theorem st_bsl (C:Env→Objs→Prop) (d:Option Nat) (sz:Nat) (ps:List Opd) (l:List AOper) (e:Env) (o:Objs):runOps P K C (⟨d,none,.bsl sz ps⟩::l) e o=opK P K C d l e o (ev (look e) (lookO o) (.bsl sz ps)):=runOps_plain C d _ l e o rfl
theorem st_bso (C:Env→Objs→Prop) (d:Option Nat) (id:Nat) (t:Nat) (sz:Nat) (ps:List Opd) (l:List AOper) (e:Env) (o:Objs):runOps P K C (⟨d,none,.bso id t sz ps⟩::l) e o=opK P K C d l e o (ev (look e) (lookO o) (.bso id t sz ps)):=runOps_plain C d _ l e o rfl
theorem st_len (C:Env→Objs→Prop) (d:Option Nat) (x:Opd) (l:List AOper) (e:Env) (o:Objs):runOps P K C (⟨d,none,.len x⟩::l) e o=opK P K C d l e o (ev (look e) (lookO o) (.len x)):=runOps_plain C d _ l e o rfl
theorem st_leno (C:Env→Objs→Prop) (d:Option Nat) (id:Nat) (x:Opd) (l:List AOper) (e:Env) (o:Objs):runOps P K C (⟨d,none,.leno id x⟩::l) e o=opK P K C d l e o (ev (look e) (lookO o) (.leno id x)):=runOps_plain C d _ l e o rfl
theorem st_lst (C:Env→Objs→Prop) (d:Option Nat) (x:Opd) (l:List AOper) (e:Env) (o:Objs):runOps P K C (⟨d,none,.lst x⟩::l) e o=opK P K C d l e o (ev (look e) (lookO o) (.lst x)):=runOps_plain C d _ l e o rfl
theorem st_app (C:Env→Objs→Prop) (d:Option Nat) (id:Nat) (t:Nat) (sz:Nat) (n:Nat) (x:Opd) (y:Opd) (l:List AOper) (e:Env) (o:Objs):runOps P K C (⟨d,none,.app id t sz n x y⟩::l) e o=opK P K C d l e o (ev (look e) (lookO o) (.app id t sz n x y)):=runOps_plain C d _ l e o rfl
theorem runOps_call (C:Env→Objs→Prop) (d:Option Nat) (g:FuncId) (args:List Opd) (ids:List Nat) (l:List AOper) (e:Env) (o:Objs) :
  runOps P K C (⟨d,none,.call g args ids⟩::l) e o=callK P K C d g (!ids.isEmpty) l e o (peek (lookO o) ids (args.map (·.av (look e)))):=by
 simp only[runOps,AOp.isH,run1,callK,upL]
 congr
 funext xs
 congr
 funext r
 cases ids<;>simp
theorem st_yy (C:Env→Objs→Prop) (d:Option Nat) (op:YOp) (l:List AOper) (e:Env) (o:Objs):runOps P K C (⟨d,none,.yy op⟩::l) e o=opK P K C d l e o (evY (look e) (lookO o) op):=runOps_plain C d _ l e o rfl
def callC (P:Program) (K:World→Prop) (C:Env→Objs→Prop) (d:Option Nat) (own:Bool) (l:List AOper) (e:Env) (o:Objs):Option (List IV)→Prop
 | some (.clo g fs cs::ys)=>callee P g=true∧callK P K C d g own l e o (some (fs++ys++cs))
 | _=>False
def callD (P:Program) (K:World→Prop) (C:Env→Objs→Prop) (d:Option Nat) (own:Bool) (l:List AOper) (e:Env) (o:Objs) (xs xsc:Option (List IV)):AV→Prop
 | .iv (.fn g)=>callee P g=true∧callK P K C d g own l e o xs
 | _=>callC P K C d own l e o xsc
@[simp] theorem callD_fn (C:Env→Objs→Prop) (d:Option Nat) (own:Bool) (l:List AOper) (e:Env) (o:Objs) (xs xsc:Option (List IV)) (g:FuncId):callD P K C d own l e o xs xsc (.iv (.fn g))=(callee P g=true∧callK P K C d g own l e o xs):=rfl
@[simp] theorem callD_iclo (C:Env→Objs→Prop) (d:Option Nat) (own:Bool) (l:List AOper) (e:Env) (o:Objs) (xs xsc:Option (List IV)) (g:FuncId) (fs cs:List IV):callD P K C d own l e o xs xsc (.iv (.clo g fs cs))=callC P K C d own l e o xsc:=rfl
@[simp] theorem callD_clo (C:Env→Objs→Prop) (d:Option Nat) (own:Bool) (l:List AOper) (e:Env) (o:Objs) (xs xsc:Option (List IV)) (g:FuncId) (fs cs:List AV):callD P K C d own l e o xs xsc (.clo g fs cs)=callC P K C d own l e o xsc:=rfl
@[simp] theorem callC_some (C:Env→Objs→Prop) (d:Option Nat) (own:Bool) (l:List AOper) (e:Env) (o:Objs) (g:FuncId) (fs cs ys:List IV):callC P K C d own l e o (some (.clo g fs cs::ys))=(callee P g=true∧callK P K C d g own l e o (some (fs++ys++cs))):=rfl
theorem runOps_calld (C:Env→Objs→Prop) (d:Option Nat) (x:Opd) (args:List Opd) (ids:List Nat) (l:List AOper) (e:Env) (o:Objs) :
  runOps P K C (⟨d,none,.calld x args ids⟩::l) e o=callD P K C d (!ids.isEmpty) l e o (peek (lookO o) ids (args.map (·.av (look e)))) (peek (lookO o) ids (x.av (look e)::args.map (·.av (look e)))) (x.av (look e)):=by
 have aux:∀ r,(ids=[]∨scalar r=true)↔((!ids.isEmpty)=false∨scalar r=true):=fun r=>by cases ids<;>simp
 apply propext
 simp only[runOps,AOp.isH,run1]
 generalize x.av (look e)=xv
 have clo:∀ ys,ys=peek (lookO o) ids (xv::args.map (·.av (look e)))→((∃ g fs cs xs r,callee P g=true∧ys=some (.clo g fs cs::xs)∧Good P K g (fs++xs++cs) r∧(ids=[]∨scalar r=true)∧runOps P K C l (bnd d (.iv r) e) (upL none o))↔callC P K C d (!ids.isEmpty) l e o ys):=by
  intro ys _
  constructor
  ·rintro ⟨g,fs,cs,xs,r,h1,rfl,h3,h4,h5⟩
   exact ⟨h1,_,r,rfl,h3,(aux r).1 h4,h5⟩
  ·intro h
   cases ys with
   | none=>exact h.elim
   | some us =>
     cases us with
     | nil=>exact h.elim
     | cons z xs =>
       cases z with
       | clo g fs cs =>
         obtain ⟨h1,zs,r,h2,h3,h4,h5⟩:=h
         injection h2 with h2
         subst h2
         exact ⟨g,fs,cs,xs,r,h1,rfl,h3,(aux r).2 h4,h5⟩
       | _=>exact h.elim
 have fn:∀ g,xv=.iv (.fn g)→((∃ xs r,callee P g=true∧peek (lookO o) ids (args.map (·.av (look e)))=some xs∧Good P K g xs r∧(ids=[]∨scalar r=true)∧runOps P K C l (bnd d (.iv r) e) (upL none o))↔(callee P g=true∧callK P K C d g (!ids.isEmpty) l e o (peek (lookO o) ids (args.map (·.av (look e)))))):=by
  intro g _
  constructor
  ·rintro ⟨xs,r,h1,h2,h3,h4,h5⟩
   exact ⟨h1,xs,r,h2,h3,(aux r).1 h4,h5⟩
  ·rintro ⟨h1,xs,r,h2,h3,h4,h5⟩
   exact ⟨xs,r,h1,h2,h3,(aux r).2 h4,h5⟩
 cases xv with
 | iv x =>
   cases x with
   | fn g=>exact fn g rfl
   | _=>exact clo _ rfl
 | _=>exact clo _ rfl
def callB (P:Program) (K:World→Prop) (C:Env→Objs→Prop) (d:Option Nat) (id:Nat) (l:List AOper) (e:Env) (o:Objs) (x:AV) (ob:Option AO) (xs:Option (List IV)):Prop :=
 ∃ ys s s' y,x=.cb id∧ob=some (.ext s)∧xs=some ys∧CbGives P K s ys y s'∧scalar y=true∧runOps P K C l (bnd d (.iv y) e) (setOL id (.ext s') o)
def callX (P:Program) (K:World→Prop) (C:Env→Objs→Prop) (d:Option Nat) (g:FuncId) (id:Nat) (l:List AOper) (e:Env) (o:Objs) (x:Option AV) (ob:Option AO) (xs:Option (List IV)):Prop :=
 ∃ ys s s' y,x=some (.cb id)∧ob=some (.ext s)∧xs=some ys∧GoodX P K g ys [] s y s'∧scalar y=true∧runOps P K C l (bnd d (.iv y) e) (setOL id (.ext s') o)
theorem runOps_callb (C:Env→Objs→Prop) (d:Option Nat) (x:Opd) (args:List Opd) (id:Nat) (l:List AOper) (e:Env) (o:Objs) :
  runOps P K C (⟨d,none,.callb x args id⟩::l) e o=callB P K C d id l e o (x.av (look e)) (lookO o id) (ivs (args.map (·.av (look e)))):=rfl
theorem runOps_callx (C:Env→Objs→Prop) (d:Option Nat) (g:FuncId) (args:List Opd) (id:Nat) (l:List AOper) (e:Env) (o:Objs) :
  runOps P K C (⟨d,none,.callx g args id⟩::l) e o=callX P K C d g id l e o ((args.getLast?).map (·.av (look e))) (lookO o id) (ivs (args.dropLast.map (·.av (look e)))):=rfl
theorem callB_of {C:Env→Objs→Prop} {d:Option Nat} {id:Nat} {l:List AOper} {e:Env} {o:Objs} {ys:List IV} {s s':Ext} {y:IV} (hg:CbGives P K s ys y s') (hy:scalar y=true) (h:runOps P K C l (bnd d (.iv y) e) (setOL id (.ext s') o)) :
  callB P K C d id l e o (.cb id) (some (.ext s)) (some ys):=⟨ys,s,s',y,rfl,rfl,rfl,hg,hy,h⟩
theorem callX_of {C:Env→Objs→Prop} {d:Option Nat} {g:FuncId} {id:Nat} {l:List AOper} {e:Env} {o:Objs} {ys:List IV} {s s':Ext} {y:IV} (hg:GoodX P K g ys [] s y s') (hy:scalar y=true) (h:runOps P K C l (bnd d (.iv y) e) (setOL id (.ext s') o)) :
  callX P K C d g id l e o (some (.cb id)) (some (.ext s)) (some ys):=⟨ys,s,s',y,rfl,rfl,rfl,hg,hy,h⟩
def callRK (P:Program) (K:World→Prop) (C:Env→Objs→Prop) (d:Option Nat) (g:FuncId) (id:Nat) (l:List AOper) (e:Env) (o:Objs) (xs:Option (List IV)) (x:AV) (ob:Option AO):Prop :=
 rowK P K g id (fun v up=>runOps P K C l (bnd d v e) (upL up o)) xs x ob
theorem runOps_callr (C:Env→Objs→Prop) (d:Option Nat) (g:FuncId) (x:Opd) (args:List Opd) (id:Nat) (l:List AOper) (e:Env) (o:Objs) :
  runOps P K C (⟨d,none,.callr g x args id⟩::l) e o=callRK P K C d g id l e o (ivs (args.map (·.av (look e)))) (x.av (look e)) (lookO o id):=rfl
theorem runOps_callo (C:Env→Objs→Prop) (d:Option Nat) (g:FuncId) (args:List Opd) (ids:List Nat) (id:Nat) (l:List AOper) (e:Env) (o:Objs) :
  runOps P K C (⟨d,none,.callo g args ids id⟩::l) e o=callO P K C d g id ids l e o (ivs (args.map (·.av (look e)))):=rfl
theorem callO_of {C:Env→Objs→Prop} {d:Option Nat} {g:FuncId} {id:Nat} {l:List AOper} {e:Env} {o:Objs} {ys:List IV} {q:AV} {t:TypeId} {sz:Nat} {rows:List (List IV)} {mv:Nat} (hg:GoodO P K g ys q t sz rows mv) (hid:lookO o id=none)
  (h:runOps P K C l (bnd d (ren id q) e) (setOL id (.arr t sz (rows.map (List.map AV.iv)) mv) o)):callO P K C d g id [] l e o (some ys):=⟨ys,q,t,sz,rows,mv,rfl,rfl,hg,hid,h⟩
theorem runOps_guard (C:Env→Objs→Prop) (d:Option Nat) (t:Nat) (b:Bool) (op:AOp) (l:List AOper) (e:Env) (o:Objs) :
  runOps P K C (⟨d,some (t,b),op⟩::l) e o=gK P K C d t b op l e o (look e t):=by
 simp only[runOps]
 generalize look e t=v
 cases v with
 | iv x =>
   cases x with
   | tup cs=>cases cs<;>rfl
   | bool c=>rfl
   | _=>rfl
 | _=>rfl
theorem callK_of {C:Env→Objs→Prop} {d:Option Nat} {g:FuncId} {own:Bool} {l:List AOper} {e:Env} {o:Objs} {ys:List IV} {r:IV} (hg:Good P K g ys r) (hs:own=false∨scalar r=true)
  (h:runOps P K C l (bnd d (.iv r) e) o):callK P K C d g own l e o (some ys):=⟨ys,r,rfl,hg,hs,h⟩
theorem Wp_skip (k:List AI) (e:Env) (o:Objs):WpF P K F (.code .skip::k) e o↔WpF P K F k e o :=
 ⟨fun h=>by cases h;assumption,.skip _ k e o⟩
theorem Wp_seq (x y:AC) (k:List AI) (e:Env) (o:Objs):WpF P K F (.code (.seq x y)::k) e o↔WpF P K F (.code x::.code y::k) e o :=
 ⟨fun h=>by cases h;assumption,.seq _ x y k e o⟩
theorem Wp_ops (l:List AOper) (draw:Bool) (k:List AI) (e:Env) (o:Objs):WpF P K F (.code (.ops l draw)::k) e o↔runOps P K (WpF P K F k) l e o :=
 ⟨fun h=>by cases h with | region _ _ _ _ _ _ C h hC=>exact runOps_mono hC l e o h,fun h=>.region _ l draw k e o _ h fun _ _ h=>h⟩
theorem Wp_cond (c:Opd) (x y:AC) (k:List AI) (e:Env) (o:Objs):WpF P K F (.code (.cond c x y)::k) e o↔condK (WpF P K F (.code x::k) e o) (WpF P K F (.code y::k) e o) (c.av (look e)):=by
 constructor
 ·intro h
  cases h with
  | cond _ _ _ _ _ _ _ b hc ht hf=>rw[hc];exact ⟨ht,hf⟩
 ·intro h
  unfold condK at h
  split at h
  ·rename_i b hb
   exact .cond _ c x y k e o b hb h.1 h.2
  ·exact h.elim
theorem Wp_block (id:Nat) (c:AC) (k:List AI) (e:Env) (o:Objs):WpF P K F (.code (.block id c)::k) e o↔WpF P K F (.code c::.inBlock id::k) e o :=
 ⟨fun h=>by cases h;assumption,.block _ id c k e o⟩
theorem Wp_inBlock (id:Nat) (k:List AI) (e:Env) (o:Objs):WpF P K F (.inBlock id::k) e o↔WpF P K F k e o :=
 ⟨fun h=>by cases h;assumption,.inBlock _ id k e o⟩
theorem Wp_scope (c:AC) (k:List AI) (e:Env) (o:Objs):WpF P K F (.code (.scope c)::k) e o↔WpF P K F (.code c::.inScope::k) e o :=
 ⟨fun h=>by cases h;assumption,.scope _ c k e o⟩
theorem Wp_inScope (k:List AI) (e:Env) (o:Objs):WpF P K F (.inScope::k) e o↔WpF P K F k e o :=
 ⟨fun h=>by cases h;assumption,.inScope _ k e o⟩
theorem Wp_label (l:Nat) (k:List AI) (e:Env) (o:Objs):WpF P K F (.code (.label l)::k) e o↔WpF P K F k e o :=
 ⟨fun h=>by cases h;assumption,.label _ l k e o⟩
theorem Wp_ret (k:List AI) (e:Env) (o:Objs):WpF P K F (.code .ret::k) e o↔F .ret e o :=
 ⟨fun h=>by cases h;assumption,.ret _ k e o⟩
theorem Wp_nil (e:Env) (o:Objs):WpF P K F [] e o↔F .fall e o :=
 ⟨fun h=>by cases h;assumption,.done _ e o⟩
def nxtK (P:Program) (K:World→Prop) (F:Way→Env→Objs→Prop) (d dx id:Nat) (k:List AI) (e:Env) (o:Objs):AV→Option AO→Prop
 | .oref i,some (.miter kvs seen)=>i=id∧((∀ i,i<kvs.length→i∈seen)→WpF P K F k ((dx,.iv (.bool false))::(d,.iv (.tup [.bool false]))::e) o) ∧
   (∀ i q,kvs[i]?=some q→i ∉ seen→WpF P K F k ((dx,.iv (.bool true))::(d,.iv (.tup [.bool true,q.1.iv,q.2]))::e) (setOL id (.miter kvs (i::seen)) o))
 | _,_=>False
@[simp] theorem nxtK_iter (d dx id:Nat) (k:List AI) (e:Env) (o:Objs) (i:Nat) (kvs:List (MK × IV)) (seen:List Nat):nxtK P K F d dx id k e o (.oref i) (some (.miter kvs seen)) =
  (i=id∧((∀ i,i<kvs.length→i∈seen)→WpF P K F k ((dx,.iv (.bool false))::(d,.iv (.tup [.bool false]))::e) o) ∧
    (∀ i q,kvs[i]?=some q→i ∉ seen→WpF P K F k ((dx,.iv (.bool true))::(d,.iv (.tup [.bool true,q.1.iv,q.2]))::e) (setOL id (.miter kvs (i::seen)) o))):=rfl
theorem Wp_nxt (d dx:Nat) (x:Opd) (id:Nat) (k:List AI) (e:Env) (o:Objs):WpF P K F (.code (.nxt d dx x id)::k) e o↔nxtK P K F d dx id k e o (x.av (look e)) (lookO o id):=by
 constructor
 ·intro h
  cases h with
  | nxt _ _ _ _ _ _ _ _ kvs seen hx ho hend hmore =>
    rw[hx,ho]
    exact ⟨rfl,hend,hmore⟩
 ·intro h
  generalize hx:x.av (look e)=xv at h
  generalize ho:lookO o id=ov at h
  unfold nxtK at h
  split at h
  ·obtain ⟨rfl,h1,h2⟩:=h
   exact .nxt _ d dx x _ k e o _ _ hx ho h1 h2
  ·exact h.elim
def ghK (P:Program) (K:World→Prop) (F:Way→Env→Objs→Prop) (id bid off:Nat) (t:TypeId) (sz:Nat) (c:AC) (k:List AI) (e:Env) (o:Objs):Option AO→Option AO→Prop
 | none,some (.box cs)=>cs[off]?=some (.nilr sz)∧WpF P K F (.code c::k) e (setOL bid (.box (cs.set off (.aref id 0))) (setOL id (.arr t sz [] 0) o))
 | _,_=>False
@[simp] theorem ghK_box (id bid off:Nat) (t:TypeId) (sz:Nat) (c:AC) (k:List AI) (e:Env) (o:Objs) (cs:List AV):ghK P K F id bid off t sz c k e o none (some (.box cs)) =
  (cs[off]?=some (.nilr sz)∧WpF P K F (.code c::k) e (setOL bid (.box (cs.set off (.aref id 0))) (setOL id (.arr t sz [] 0) o))):=rfl
theorem Wp_gh (id bid off:Nat) (t:TypeId) (sz:Nat) (c:AC) (k:List AI) (e:Env) (o:Objs):WpF P K F (.code (.gh id bid off t sz c)::k) e o↔ghK P K F id bid off t sz c k e o (lookO o id) (lookO o bid):=by
 constructor
 ·intro h
  cases h with
  | gh _ _ _ _ _ _ _ _ _ _ cs hid hb hc h =>
    rw[hid,hb]
    exact ⟨hc,h⟩
 ·intro h
  generalize hx:lookO o id=xv at h
  generalize ho:lookO o bid=ov at h
  unfold ghK at h
  split at h
  ·exact .gh _ id bid off t sz c k e o _ hx ho h.1 h.2
  ·exact h.elim
def exitK (P:Program) (K:World→Prop) (F:Way→Env→Objs→Prop) (id:Nat) (e:Env) (o:Objs):Option (List AI)→Prop
 | some k=>WpF P K F k e o
 | none=>F (.exit id) e o
@[simp] theorem exitK_some (id:Nat) (k:List AI) (e:Env) (o:Objs):exitK P K F id e o (some k)=WpF P K F k e o:=rfl
@[simp] theorem exitK_none (id:Nat) (e:Env) (o:Objs):exitK P K F id e o none=F (.exit id) e o:=rfl
theorem Wp_exit (id:Nat) (k:List AI) (e:Env) (o:Objs):WpF P K F (.code (.exit id)::k) e o↔exitK P K F id e o (exitA id k):=by
 constructor
 ·intro h
  cases h with
  | exit _ _ _ k' _ _ hk h=>rw[hk];exact h
  | exitOut _ _ _ _ _ hk h=>rw[hk];exact h
 ·intro h
  unfold exitK at h
  split at h
  ·rename_i k' hk
   exact .exit _ id k k' e o hk h
  ·rename_i hk
   exact .exitOut _ id k e o hk h
def frzK (P:Program) (K:World→Prop) (F:Way→Env→Objs→Prop) (t id:Nat) (ks ids:List Nat) (c:AC) (k:List AI) (e:Env) (o:Objs):AV→Option AO→Prop
 | .loc i 0,some (.box cs)=>i=id∧ids.contains id=false∧∃ xs,ivs cs=some xs∧WpF P K F (.code c::k) ((t,.iv (.ptr xs))::keepE ks ids e) (keepO ids o ids)
 | _,_=>False
@[simp] theorem frzK_box (t id:Nat) (ks ids:List Nat) (c:AC) (k:List AI) (e:Env) (o:Objs) (i:Nat) (cs:List AV):frzK P K F t id ks ids c k e o (.loc i 0) (some (.box cs)) =
  (i=id∧ids.contains id=false∧∃ xs,ivs cs=some xs∧WpF P K F (.code c::k) ((t,.iv (.ptr xs))::keepE ks ids e) (keepO ids o ids)):=rfl
theorem Wp_frz (t id:Nat) (ks ids:List Nat) (c:AC) (k:List AI) (e:Env) (o:Objs) (h:frzK P K F t id ks ids c k e o (look e t) (lookO o id)):WpF P K F (.code (.frz t id ks ids c)::k) e o:=by
 generalize hx:look e t=xv at h
 generalize ho:lookO o id=ov at h
 unfold frzK at h
 split at h
 ·obtain ⟨rfl,h1,xs,h2,h3⟩:=h
  exact .frz _ t _ ks ids c k e o _ xs hx ho h2 h1 h3
 ·exact h.elim
theorem Wp_fz (ks ids:List Nat) (c:AC) (k:List AI) (e:Env) (o:Objs):WpF P K F (.code (.fz ks ids c)::k) e o↔WpF P K F (.code c::k) (subE (lodO ids o) ks ids e) (subOs (lodO ids o) ids o ids) :=
 ⟨fun h=>by cases h;assumption,fun h=>.fz _ ks ids c k e o h⟩
theorem subA_iv (lod:Nat→Option AO) (ids:List Nat) (x:IV):subA lod ids (.iv x)=.iv x:=by simp[subA,imm]
theorem subL_iv (lod:Nat→Option AO) (ids:List Nat):∀ xs:List IV,subL lod ids (xs.map AV.iv)=xs.map AV.iv
 | []=>rfl
 | x::r=>by simp[subL,subA_iv,subL_iv lod ids r]
theorem subLL_iv (lod:Nat→Option AO) (ids:List Nat):∀ xs:List (List IV),(xs.map (List.map AV.iv)).map (subL lod ids)=xs.map (List.map AV.iv)
 | []=>rfl
 | x::r=>by
   have:=subLL_iv lod ids r
   simp only[List.map_cons,subL_iv,this]
@[simp] theorem subO_row (lod:Nat→Option AO) (ids:List Nat) (e:TypeId) (sz:Nat) (xs:List (List IV)) (mv:Nat):subO lod ids (.arr e sz (xs.map (List.map AV.iv)) mv)=.arr e sz (xs.map (List.map AV.iv)) mv:=by simp only[subO,subLL_iv]
def cpyC (P:Program) (K:World→Prop) (C:Env→Objs→Prop) (d:Option Nat) (id:Nat) (l:List AOper) (e:Env) (o:Objs) (x y:AV) (ob:Option AO):Prop:=cpyK id (fun v up=>runOps P K C l (bnd d v e) (upL up o)) x y ob
theorem runOps_cpy (C:Env→Objs→Prop) (d:Option Nat) (id:Nat) (x y:Opd) (l:List AOper) (e:Env) (o:Objs) :
  runOps P K C (⟨d,none,.cpy id x y⟩::l) e o=cpyC P K C d id l e o (x.av (look e)) (y.av (look e)) (lookO o id):=rfl
theorem cpyC_of {C:Env→Objs→Prop} {d:Option Nat} {id:Nat} {l:List AOper} {e:Env} {o:Objs} {n mv:Nat} {t:TypeId} {es:List (List AV)} {rows ys:List (List IV)} (hr:ivss es=some rows) (hn:n=es.length) (hl:ys.length=n)
  (h:runOps P K C l (bnd d (.iv (.int .i64 n)) e) (setOL id (.arr t 1 (ys.map (List.map AV.iv)) ys.length) o)):cpyC P K C d id l e o (.aref id n) (.iv (.sl 1 ys)) (some (.arr t 1 es mv)) :=
 ⟨rfl,hn,⟨rows,hr⟩,rfl,rfl,hl,h⟩
theorem runOps_callh (C:Env→Objs→Prop) (d:Option Nat) (g:FuncId) (args:List Opd) (ids:List Nat) (l:List AOper) (e:Env) (o:Objs) :
  runOps P K C (⟨d,none,.callh g args ids⟩::l) e o=HK P K g ids d (runOps P K C l) e o (args.map (·.av (look e))):=rfl
theorem runOps_caldh (C:Env→Objs→Prop) (d:Option Nat) (x:Opd) (args:List Opd) (ids:List Nat) (l:List AOper) (e:Env) (o:Objs) :
  runOps P K C (⟨d,none,.caldh x args ids⟩::l) e o=caldHK P K ids d (runOps P K C l) e o (args.map (·.av (look e))) (x.av (look e)):=rfl
theorem caldHK_of {ids:List Nat} {d:Option Nat} {C:Env→Objs→Prop} {e:Env} {o:Objs} {avs:List AV} {x:AV} {g:FuncId} {fs cs:List AV} (hx:cloAV x=some (g,fs,cs)):caldHK P K ids d C e o avs x=(callee P g=true∧HK P K g ids d C e o (fs++avs++cs)):=by
 apply propext
 constructor
 ·rintro ⟨g',fs',cs',h1,h2,h3⟩
  rw[hx] at h1
  injection h1 with h1
  injection h1 with e1 e2
  injection e2 with e2 e3
  subst e1 e2 e3
  exact ⟨h2,h3⟩
 ·rintro ⟨h2,h3⟩
  exact ⟨g,fs,cs,hx,h2,h3⟩
@[simp] theorem caldHK_clo (ids:List Nat) (d:Option Nat) (C:Env→Objs→Prop) (e:Env) (o:Objs) (avs:List AV) (g:FuncId) (fs cs:List AV):caldHK P K ids d C e o avs (.clo g fs cs)=(callee P g=true∧HK P K g ids d C e o (fs++avs++cs)):=caldHK_of rfl
@[simp] theorem caldHK_cloi (ids:List Nat) (d:Option Nat) (C:Env→Objs→Prop) (e:Env) (o:Objs) (avs:List AV) (g:FuncId) (fs cs:List IV):caldHK P K ids d C e o avs (.iv (.clo g fs cs))=(callee P g=true∧HK P K g ids d C e o (fs.map AV.iv++avs++cs.map AV.iv)):=caldHK_of rfl
@[simp] theorem caldHK_fn (ids:List Nat) (d:Option Nat) (C:Env→Objs→Prop) (e:Env) (o:Objs) (avs:List AV) (g:FuncId):caldHK P K ids d C e o avs (.iv (.fn g))=(callee P g=true∧HK P K g ids d C e o avs):=by
 rw[caldHK_of rfl];simp
theorem callH_of {C:Env→Objs→Prop} {g:FuncId} {ids:List Nat} {d:Option Nat} {e:Env} {o:Objs} {avs args0:List AV} {o0 o1:Objs} {st:List Nat} {y:AV} (hg:GoodH P K g args0 o0 st y o1) (h1:avs=args0.map (rn (nth ids))) (h2:HOk ids args0 o o0 o1)
  (h:C (bnd d (rn (nth ids) y) (scrE (keepOf ids st o) e)) (newO ids (keepOf ids st o) o o1)):HK P K g ids d C e o avs:=⟨args0,o0,st,y,o1,h1,h2,hg,h⟩
theorem rnL_iv (m:Nat→Nat):∀ xs:List IV,rnL m (xs.map AV.iv)=xs.map AV.iv
 | []=>rfl
 | x::r=>by simp[rnL,rn,rnL_iv m r]
theorem rnLL_iv (m:Nat→Nat):∀ xs:List (List IV),(xs.map (List.map AV.iv)).map (rnL m)=xs.map (List.map AV.iv)
 | []=>rfl
 | x::r=>by simp[rnL_iv,rnLL_iv m r]
theorem clAL_iv (dom:List Nat):∀ xs:List IV,clAL dom (xs.map AV.iv)=true
 | []=>rfl
 | x::r=>by simp[clAL,clA,clAL_iv dom r]
theorem clALL_iv (dom:List Nat):∀ xs:List (List IV),(xs.map (List.map AV.iv)).all (clAL dom)=true
 | []=>rfl
 | x::r=>by simp[clAL_iv,clALL_iv dom r]
theorem scrL_ivs (m:List Nat):∀ xs:List IV,scrL m (xs.map AV.iv)=xs.map AV.iv
 | []=>rfl
 | x::r=>by simp[scrL,scr,scrL_ivs m r]
theorem scrLL_ivs (m:List Nat):∀ xs:List (List IV),(xs.map (List.map AV.iv)).map (scrL m)=xs.map (List.map AV.iv)
 | []=>rfl
 | x::r=>by simp[scrL_ivs,scrLL_ivs m r]
@[simp] theorem rnO_row (m:Nat→Nat) (e:TypeId) (sz:Nat) (xs:List (List IV)) (mv:Nat):rnO m (.arr e sz (xs.map (List.map AV.iv)) mv)=.arr e sz (xs.map (List.map AV.iv)) mv:=by simp only[rnO,rnLL_iv]
@[simp] theorem clO_row (dom:List Nat) (e:TypeId) (sz:Nat) (xs:List (List IV)) (mv:Nat):clO dom (.arr e sz (xs.map (List.map AV.iv)) mv)=true:=by simp only[clO,clALL_iv]
@[simp] theorem rnO_rowO (m:Nat→Nat) (e:TypeId) (sz:Nat) (xs:List (List IV)) (mv:Nat):rnO m (rowO e sz xs mv)=rowO e sz xs mv:=rnO_row m e sz xs mv
@[simp] theorem clO_rowO (dom:List Nat) (e:TypeId) (sz:Nat) (xs:List (List IV)) (mv:Nat):clO dom (rowO e sz xs mv)=true:=clO_row dom e sz xs mv
@[simp] theorem scrO_row (m:List Nat) (e:TypeId) (sz:Nat) (xs:List (List IV)) (mv:Nat):scrO m (.arr e sz (xs.map (List.map AV.iv)) mv)=.arr e sz (xs.map (List.map AV.iv)) mv:=by simp only[scrO,scrLL_ivs]
@[simp] theorem nth_zero (x:Nat) (r:List Nat):nth (x::r) 0=x:=rfl
@[simp] theorem nth_succ (x:Nat) (r:List Nat) (i:Nat):nth (x::r) (i+1)=nth r i:=by simp[nth]
@[simp] theorem nth_one (x y:Nat) (r:List Nat):nth (x::y::r) 1=y:=rfl
@[simp] theorem nth_two (x y z:Nat) (r:List Nat):nth (x::y::z::r) 2=z:=rfl
@[simp] theorem nth_three (x y z u:Nat) (r:List Nat):nth (x::y::z::u::r) 3=u:=rfl
theorem Wp_loop (c:AC) (ks ids:List Nat) (k:List AI) (e:Env) (o:Objs):WpF P K F (.code (.loop c ks ids)::k) e o↔WpF P K F (.inLoop c ks ids::k) e o :=
 ⟨fun h=>by cases h;exact .inLoop _ _ _ _ _ _ _ (by assumption),fun h=>by cases h;exact .loop _ _ _ _ _ _ _ (by assumption)⟩
theorem Wp_inLoop_keep (c:AC) (ks ids:List Nat) (k:List AI) (e:Env) (o:Objs):WpF P K F (.inLoop c ks ids::k) e o↔WpF P K F (.code c::.inLoop c ks ids::k) (keepE ks ids e) (keepO ids o ids) :=
 ⟨fun h=>by cases h;assumption,fun h=>.inLoop _ _ _ _ _ _ _ h⟩
def LoopF (P:Program) (K:World→Prop) (F:Way→Env→Objs→Prop) (c:AC) (ks ids:List Nat) (k:List AI) (e:Env) (o:Objs):Prop :=
 WpF P K F (.code c::.inLoop c ks ids::k) e o
theorem RetIs_eq (res:List ARes) (r:IV) (e:Env) (o:Objs):RetIs res r e o=(retV res e o=some r):=rfl
theorem Wp_inLoop (c:AC) (ks ids:List Nat) (k:List AI) (e:Env) (o:Objs):WpF P K F (.inLoop c ks ids::k) e o↔LoopF P K F c ks ids k (keepE ks ids e) (keepO ids o ids):=Wp_inLoop_keep c ks ids k e o
end
attribute [simp] st_mov st_nilo st_pick st_ext st_not st_bin st_beq st_cvi st_cvs st_b2s st_i2s st_nilc st_fld st_ldi st_ldo st_sto st_ixi st_ixo st_ixs st_sli st_sls st_boxi st_boxo st_alo st_bld st_bsl st_bso st_len st_leno st_lst st_app st_yy
@[simp] theorem FnF_fall (F:Env→Objs→Prop) (e:Env) (o:Objs):FnF F .fall e o=F e o:=rfl
@[simp] theorem FnF_ret (F:Env→Objs→Prop) (e:Env) (o:Objs):FnF F .ret e o=F e o:=rfl
@[simp] theorem FnF_exit (F:Env→Objs→Prop) (id:Nat) (e:Env) (o:Objs):FnF F (.exit id) e o=False:=rfl
attribute [simp] RetIs_eq runOps_nil runOps_call runOps_callo runOps_calld runOps_callr runOps_callb runOps_callx runOps_callh runOps_caldh runOps_cpy runOps_guard Wp_nxt Wp_gh Wp_fz Wp_skip Wp_seq Wp_scope Wp_inScope Wp_label Wp_ops Wp_cond Wp_block Wp_inBlock Wp_ret Wp_nil Wp_exit Wp_loop Wp_inLoop
attribute [simp] look lookO bnd setE setOL upL ev Opd.av evPick evExt evNot evBin evInt evBeq evCvi evCvs evB2s evI2s evNilc evFld evLdi evLdo evSto evIxi evIxo evIxs evSli evSls evBoxi evBoxo evLen evLeno evLst evApp evY eqIV eqIVs keyOf MK.iv MK.kind
attribute [simp] lodO subA subL subE subOs subO keepOf scrE restO newO HOk idxO rn rnL rnO clA clAL clO noExt bindP
attribute [simp] AV.iv? ivs mkAgg AV.cells fillA rowsA ivss byteOf bytesOf optNat mkClo exitA keepE keepO scr scrL scrO resV resVs retV imm imms immss argEnv peek scalar scalars ren renL retA EndO
end Go.Ev

/- Rules for loops, and for how numbers are reckoned. -/
namespace Go.Ev
open Go Go.RowKit
section
variable {P:Program} {K:World→Prop} {F:Way→Env→Objs→Prop}
theorem loop_q {c:AC} {ks ids:List Nat} {k:List AI} (st:Nat→Env) (so:Nat→Objs) (n:Nat) (Q:Nat→Prop) (h0:Q 0)
  (hn:Q n→LoopF P K F c ks ids k (st n) (so n))
  (hs:∀ i,i<n→Q i→(Q (i+1)→LoopF P K F c ks ids k (st (i+1)) (so (i+1)))→LoopF P K F c ks ids k (st i) (so i)):LoopF P K F c ks ids k (st 0) (so 0):=by
 have:∀ m,m≤n→Q (n-m)→LoopF P K F c ks ids k (st (n-m)) (so (n-m)):=by
  intro m
  induction m with
  | zero=>intro _ h;simpa using hn (by simpa using h)
  | succ m ih =>
    intro hm hq
    have h1:=ih (by omega)
    have e1:n-m=(n-(m+1))+1:=by omega
    rw[e1] at h1
    exact hs _ (by omega) hq h1
 have:=this n (Nat.le_refl _)
 simp at this
 exact this h0
theorem loop_i {c:AC} {ks ids:List Nat} {k:List AI} (n:Nat) (I:Nat→Env→Objs→Prop)
  (hn:∀ e o,I n e o→LoopF P K F c ks ids k e o)
  (hs:∀ i e o,i<n→I i e o→(∀ e' o',I (i+1) e' o'→LoopF P K F c ks ids k e' o')→LoopF P K F c ks ids k e o)
  (e:Env) (o:Objs) (h0:I 0 e o):LoopF P K F c ks ids k e o:=by
 have:∀ m,m≤n→∀ e o,I (n-m) e o→LoopF P K F c ks ids k e o:=by
  intro m
  induction m with
  | zero=>intro _ e o h;exact hn e o (by simpa using h)
  | succ m ih =>
    intro hm e o hi
    have h1:=ih (by omega)
    have e1:n-m=(n-(m+1))+1:=by omega
    rw[e1] at h1
    exact hs _ e o (by omega) hi h1
 exact this n (Nat.le_refl _) e o (by simpa using h0)
end
section
variable {P:Program} {K:World→Prop} {F:Way→Env→Objs→Prop}
end
section
variable {P:Program} {K:World→Prop} {F:Way→Env→Objs→Prop}
theorem LoopAt_enter {c c':AC} (h:c=c') (ks ids:List Nat) (k:List AI) (e:Env) (o:Objs):LoopF P K F c ks ids k e o↔WpF P K F (.code c'::.inLoop c ks ids::k) e o:=by subst h;exact Iff.rfl
end
@[simp] theorem inR_i64 (n:Int):IntKind.inR .i64 n ↔ -9223372036854775808≤n∧n≤9223372036854775807:=Iff.rfl
@[simp] theorem inR_u64 (n:Int):IntKind.inR .u64 n↔0≤n∧n≤18446744073709551615:=Iff.rfl
@[simp] theorem inR_u8 (n:Int):IntKind.inR .u8 n↔0≤n∧n≤255:=Iff.rfl
@[simp] theorem inR_i32 (n:Int):IntKind.inR .i32 n ↔ -2147483648≤n∧n≤2147483647:=Iff.rfl
theorem maxLen_val:maxLen=9223372036854775807:=rfl
theorem wrap_i64 {n:Int} (h : -9223372036854775808≤n) (h':n≤9223372036854775807):IntKind.wrap .i64 n=n:=by
 unfold IntKind.wrap
 simp[IntKind.bits,IntKind.signed]
 omega
theorem wrap_u64 {n:Int} (h:0≤n) (h':n≤18446744073709551615):IntKind.wrap .u64 n=n:=by
 unfold IntKind.wrap
 simp[IntKind.bits,IntKind.signed]
 omega
end Go.Ev

/- How shifts and bits are reckoned, on natural numbers. -/
namespace Go.Ev
open Go Go.RowKit
theorem shr_nat (k:IntKind) (hk:k.bits=64) (a i:Nat) (ha:a<2 ^ 64):shrV k (a:Int) (i:Int)=((a >>> i:Nat):Int):=by
 unfold shrV
 rw[hk]
 have:((i:Int)).toNat=i:=rfl
 rw[this]
 have e:(2 ^ (min i 64):Int)=((2 ^ (min i 64):Nat):Int):=by push_cast;rfl
 rw[e,Int.fdiv_eq_ediv_of_nonneg _ (Int.natCast_nonneg _),← Int.natCast_ediv,Nat.shiftRight_eq_div_pow]
 by_cases h:i≤64
 ·rw[Nat.min_eq_left h]
 ·rw[Nat.min_eq_right (by omega),Nat.div_eq_of_lt ha,Nat.div_eq_of_lt]
  exact Nat.lt_of_lt_of_le ha (Nat.pow_le_pow_right (by omega) (by omega))
theorem shl_u64 (a i:Nat) (hi:i<64) (ha:a*2 ^ i<2 ^ 64):shlV .u64 (a:Int) (i:Int)=((a*2 ^ i:Nat):Int):=by
 unfold shlV
 have:((i:Int)).toNat=i:=rfl
 rw[this,show (IntKind.u64).bits=64 from rfl,Nat.min_eq_left (by omega)]
 have e:(a:Int)*(2 ^ i:Int)=((a*2 ^ i:Nat):Int):=by push_cast;rfl
 rw[e]
 exact wrap_u64 (Int.natCast_nonneg _) (by omega)
theorem ofInt_toNat (a:Nat) (ha:a<2 ^ 64):(BitVec.ofInt 64 (a:Int)).toNat=a:=by
 simp
 omega
theorem and_u64 (a b:Nat) (ha:a<2 ^ 64) (hb:b<2 ^ 64):bitOp .and .u64 (a:Int) (b:Int)=((a &&& b:Nat):Int):=by
 show IntKind.wrap .u64 ((BitVec.ofInt 64 (a:Int) &&& BitVec.ofInt 64 (b:Int)).toNat:Int)=_
 rw[BitVec.toNat_and,ofInt_toNat a (by omega),ofInt_toNat b (by omega)]
 have:a &&& b<2 ^ 64:=Nat.and_lt_two_pow _ hb
 exact wrap_u64 (Int.natCast_nonneg _) (by omega)
theorem or_u64 (a b:Nat) (ha:a<2 ^ 64) (hb:b<2 ^ 64):bitOp .or .u64 (a:Int) (b:Int)=((a ||| b:Nat):Int):=by
 show IntKind.wrap .u64 ((BitVec.ofInt 64 (a:Int) ||| BitVec.ofInt 64 (b:Int)).toNat:Int)=_
 rw[BitVec.toNat_or,ofInt_toNat a (by omega),ofInt_toNat b (by omega)]
 have:a ||| b<2 ^ 64:=Nat.or_lt_two_pow ha hb
 exact wrap_u64 (Int.natCast_nonneg _) (by omega)
theorem and_i64 (a b:Nat) (ha:a<2 ^ 63) (hb:b<2 ^ 63):bitOp .and .i64 (a:Int) (b:Int)=((a &&& b:Nat):Int):=by
 show IntKind.wrap .i64 ((BitVec.ofInt 64 (a:Int) &&& BitVec.ofInt 64 (b:Int)).toNat:Int)=_
 rw[BitVec.toNat_and,ofInt_toNat a (by omega),ofInt_toNat b (by omega)]
 have:a &&& b<2 ^ 63:=Nat.and_lt_two_pow _ hb
 exact wrap_i64 (by omega) (by omega)
theorem and_one (a:Nat) (i:Nat):(a >>> i) &&& 1=(a.testBit i).toNat:=by
 rw[Nat.testBit,Nat.and_comm]
 have h:=Nat.one_and_eq_mod_two (a >>> i)
 rw[h]
 rcases Nat.mod_two_eq_zero_or_one (a >>> i) with e | e<;>simp[e]
theorem bit_i64 (a i:Nat) (ha:a<2 ^ 63):bitOp .and .i64 (shrV .i64 (a:Int) (i:Int)) 1=((a.testBit i).toNat:Int):=by
 rw[shr_nat _ rfl a i (by omega)]
 have h:a >>> i<2 ^ 63:=Nat.lt_of_le_of_lt (by rw[Nat.shiftRight_eq_div_pow];exact Nat.div_le_self _ _) ha
 have:=and_i64 (a >>> i) 1 h (by omega)
 rw[and_one] at this
 simpa using this
end Go.Ev

/- Rows of data inside an own object. -/
namespace Go.Ev
open Go Go.RowKit
def emb (L:List (List IV)):List (List AV):=L.map (List.map AV.iv)
@[simp] theorem emb_length (L:List (List IV)):(emb L).length=L.length:=by simp[emb]
@[simp] theorem emb_app (L ys:List (List IV)):emb L++List.map (List.map AV.iv) ys=emb (L++ys):=by simp[emb]
@[simp] theorem emb_app1 (L:List (List IV)) (a:IV):emb L++[[.iv a]]=emb (L++[[a]]):=by simp[emb]
@[simp] theorem emb_app2 (L:List (List IV)) (a b:IV):emb L++[[.iv a,.iv b]]=emb (L++[[a,b]]):=by simp[emb]
@[simp] theorem emb_app3 (L:List (List IV)) (a b c:IV):emb L++[[.iv a,.iv b,.iv c]]=emb (L++[[a,b,c]]):=by simp[emb]
@[simp] theorem emb_app4 (L:List (List IV)) (a b c d:IV):emb L++[[.iv a,.iv b,.iv c,.iv d]]=emb (L++[[a,b,c,d]]):=by simp[emb]
@[simp] theorem emb_app0 (L:List (List IV)):emb L++[]=emb L:=List.append_nil _
@[simp] theorem emb_take (L:List (List IV)) (n:Nat):(emb L).take n=emb (L.take n):=by simp[emb,List.map_take]
@[simp] theorem emb_get (L:List (List IV)) (n:Nat):(emb L)[n]?=(L[n]?).map (List.map AV.iv):=by simp[emb]
@[simp] theorem emb_getElem (L:List (List IV)) (n:Nat) (h:n<(emb L).length):(emb L)[n]=(L[n]'(by simpa using h)).map AV.iv:=by simp[emb]
@[simp] theorem emb_set1 (L:List (List IV)) (n:Nat) (a:IV):(emb L).set n [.iv a]=emb (L.set n [a]):=by simp[emb,List.map_set]
@[simp] theorem emb_set2 (L:List (List IV)) (n:Nat) (a b:IV):(emb L).set n [.iv a,.iv b]=emb (L.set n [a,b]):=by simp[emb,List.map_set]
@[simp] theorem ivs_iv (l:List IV):ivs (l.map AV.iv)=some l:=by
 induction l with
 | nil=>rfl
 | cons a l ih=>simp[ivs,ih,AV.iv?]
@[simp] theorem ivss_emb (L:List (List IV)):ivss (emb L)=some L:=by
 induction L with
 | nil=>rfl
 | cons a l ih =>
   show (match ivs (a.map AV.iv),ivss (emb l) with
   | some y,some ys=>some (y::ys)
   | _,_=>none)=_
   rw[ih,ivs_iv]
theorem scrL_iv (ids:List Nat) (c:List IV):scrL ids (c.map AV.iv)=c.map AV.iv:=by
 induction c with
 | nil=>rfl
 | cons a l ih=>simp[scrL,scr,ih]
@[simp] theorem scr_emb (ids:List Nat) (L:List (List IV)):List.map (scrL ids) (emb L)=emb L:=by
 simp only[emb,List.map_map]
 apply List.map_congr_left
 intro c _
 exact scrL_iv ids c
@[simp] theorem take_map_len {α β:Type} (f:α→β) (l:List α):List.take l.length (l.map f)=l.map f:=by
 rw[List.take_of_length_le]
 simp
theorem emb_nil:emb []=[]:=rfl
section
variable {P:Program} {K:World→Prop}
theorem callO_emb {C:Env→Objs→Prop} {d:Option Nat} {g:FuncId} {id:Nat} {l:List AOper} {e:Env} {o:Objs} {ys:List IV} {q:AV} {t:TypeId} {sz:Nat} {rows:List (List IV)} {mv:Nat} (hg:GoodO P K g ys q t sz rows mv) (hid:lookO o id=none)
  (h:runOps P K C l (bnd d (ren id q) e) (setOL id (.arr t sz (emb rows) mv) o)):callO P K C d g id [] l e o (some ys):=callO_of hg hid h
end
@[simp] theorem sub_emb (lod:Nat→Option AO) (ids:List Nat) (L:List (List IV)):List.map (subL lod ids) (emb L)=emb L:=subLL_iv lod ids L
@[simp] theorem rn_emb (m:Nat→Nat) (L:List (List IV)):List.map (rnL m) (emb L)=emb L:=rnLL_iv m L
@[simp] theorem cl_emb (dom:List Nat) (L:List (List IV)):(emb L).all (clAL dom)=true:=clALL_iv dom L
end Go.Ev

/- A function that is handed a callback: its contract out of a run of the evaluator. -/
namespace Go.Ev
open Go Go.RowKit
def EndX (res:List ARes) (y:IV) (s':Ext) (e:Env) (o:Objs):Prop:=retV res e o=some y∧lookO o 0=some (.ext s')
def cbEnv (pre post:List IV):Env:=(pre.length,.cb 0)::(argEnv 0 pre++argEnv (pre.length+1) post)
theorem look_append (e f:Env) (t:Nat) (h:∀ v,(t,v) ∉ e):look (e++f) t=look f t:=by
 induction e with
 | nil=>rfl
 | cons p r ih =>
   obtain ⟨k,v⟩:=p
   simp only[List.cons_append,look]
   rw[if_neg (fun e=>h v (by simp[e])),ih (fun v hv=>h v (by simp[hv]))]
theorem look_in (e f:Env) (t:Nat) (h:∃ v,(t,v)∈e):look (e++f) t=look e t:=by
 induction e with
 | nil=>simp at h
 | cons p r ih =>
   obtain ⟨k,v⟩:=p
   simp only[List.cons_append,look]
   split
   ·rfl
   ·rename_i hne
    obtain ⟨v',hv'⟩:=h
    refine ih ⟨v',?_⟩
    rcases List.mem_cons.1 hv' with h | h
    ·injection h with h1 h2
     exact absurd h1 hne
    ·exact h
section
variable {P:Program} {K:World→Prop}
theorem goodx_of_wp {f:FuncId} {A:AFn} {pre post:List IV} {s s':Ext} {y:IV} (hok:FnOk P f A) (hlen:pre.length+post.length+1≤A.nt) (hv:s'.v=s.v) (hy:scalar y=true)
  (h:WpF P K (FnF (EndX A.res y s')) [.code A.code] (cbEnv pre post) [(0,.ext s)]):GoodX P K f pre post s y s':=by
 refine ⟨hv,fun ok O D w us vs hp hul=>?_⟩
 obtain ⟨fn,hfn,hok⟩:=hok
 unfold fnFits at hok
 split at hok
 ·rename_i c hbody
  simp only[Bool.and_eq_true,beq_iff_eq] at hok
  obtain ⟨⟨hfit,hnt⟩,hres⟩:=hok
  have hvl:vs.length=post.length:=by
   have:=hp.len
   simp only[List.length_append] at this
   omega
  let args:List Value:=us++s.v::vs
  let a:Act:={ tmps:=args.toArray++Array.replicate (fn.ntmps-args.toArray.size) undef,defers:=[] }
  let w0:Base:=⟨w,fun b=>b<w.heap.size∧¬ O b,fun _ h=>h.1,fun _=>undef⟩
  have hctx:Ctx P K ok w0:=⟨fun w' h=>hp.hK w' h,fun b hb=>by
   by_cases hbl:b<w.heap.size
   ·exact hp.own b (Classical.byContradiction fun hn=>hb ⟨hbl,hn⟩)
   ·exact hp.new b (Nat.not_lt.1 hbl)⟩
  let lo:Nat→Option AO:=lookO [(0,.ext s)]
  have hlo:∀ i ob,lo i=some ob→i=0∧ob=.ext s:=by
   intro i ob hi
   simp only[lo,lookO] at hi
   split at hi
   ·rename_i h0;injection hi with hi;exact ⟨h0,hi.symm⟩
   ·cases hi
  have hokk:∀ b,ok b∧¬ O b→okL ok lo (fun _=>.ext O D) b:=fun b hb=>⟨hb.1,fun i ob _ hbad=>hb.2 hbad⟩
  have hdata:∀ (k:Nat) (x:IV) (u:Value),(pre++post)[k]?=some x→(us++vs)[k]?=some u→RepI (okL ok lo (fun _=>.ext O D)) w x u:=fun k x u h1 h2=>(hp.args k x u h1 h2).mono fun b hb _=>⟨hokk b hb,rfl⟩
  have htmp:∀ (t:Nat) (u:Value),args[t]?=some u→a.tmps.getD t undef=u:=fun t u hu=>by
   have hlt:t<args.length:=(List.getElem?_eq_some_iff.1 hu).1
   simp only[a,Array.getD_eq_getD_getElem?,Array.getElem?_append,List.size_toArray,hlt,if_true,List.getElem?_toArray,hu,Option.getD_some]
  have hrel:Rel ok ⟨A.nt,[]⟩ w0 (look (cbEnv pre post)) lo a w (fun _=>.ext O D):=by
   refine ⟨Keep.refl _ _,⟨[],rfl,List.nodup_nil,by simp⟩,?_,fun t=>?_,fun i ob hi=>?_,fun i j oi oj b hij hi hj=>?_,fun t ht=>by simp at ht⟩
   ·simp[a,args,hnt];omega
   ·simp only[cbEnv,look]
    split
    ·rename_i ht
     subst ht
     rw[htmp pre.length s.v (by simp[args,← hul])]
     exact .cb 0 s O D rfl rfl
    ·rename_i ht
     by_cases hin:∃ v,(t,v)∈argEnv 0 pre
     ·rw[look_in _ _ _ hin]
      rcases look_argEnv pre 0 t with h1 | ⟨x,_,h2,h3⟩
      ·rw[h1];exact .iv _ _ (.any _)
      ·rw[h3]
       simp only[Nat.sub_zero] at h2
       have hlt:t<us.length:=by rw[hul];exact (List.getElem?_eq_some_iff.1 h2).1
       rw[htmp t us[t] (by simp only[args];rw[List.getElem?_append_left hlt];exact List.getElem?_eq_getElem hlt)]
       exact .iv _ _ (hdata t x _ (by rw[List.getElem?_append_left (by omega)];exact h2) (by rw[List.getElem?_append_left hlt];exact List.getElem?_eq_getElem hlt))
     ·rw[look_append _ _ _ (fun v hv=>hin ⟨v,hv⟩)]
      rcases look_argEnv post (pre.length+1) t with h1 | ⟨x,hle,h2,h3⟩
      ·rw[h1];exact .iv _ _ (.any _)
      ·rw[h3]
       have hlt:t-(pre.length+1)<vs.length:=by rw[hvl];exact (List.getElem?_eq_some_iff.1 h2).1
       have hg:=List.getElem?_eq_getElem hlt
       rw[htmp t vs[t-(pre.length+1)] (by
        simp only[args]
        rw[List.getElem?_append_right (by omega),hul,List.getElem?_cons,if_neg (by omega)]
        rw[← hg]
        congr 1)]
       exact .iv _ _ (hdata (t-1) x _ (by rw[List.getElem?_append_right (by omega)];rw[← h2];congr 1;omega) (by rw[List.getElem?_append_right (by omega),← hg];congr 1;omega))
   ·obtain ⟨rfl,rfl⟩:=hlo i ob hi
    refine ⟨fun b hb=>⟨fun hf=>hf.2 hb,hp.lt b (hp.sub b hb),hp.sub b hb⟩,fun b hb=>?_,hp.J⟩
    by_cases hbo:O b
    ·exact .inl hbo
    ·exact .inr ⟨⟨hp.lt b hb,hbo⟩,hokk b ⟨(hp.okd b hb).resolve_left hbo,hbo⟩⟩
   ·obtain ⟨rfl,_⟩:=hlo i oi hi
    obtain ⟨rfl,_⟩:=hlo j oj hj
    exact absurd rfl hij
  refine wp_fn (ac:=A.code) (R:=fun v w'=>∃ O' D',CbPost ok O w s' y O' D' v w') hctx hfn hbody hfit hrel h (fun w1 e' o' a' w' L' hle hf hr'=>?_)
  obtain ⟨hf1,hf2⟩:=hf
  obtain ⟨v,h1,h2⟩:=results_run hr' (fun b hb=>hctx.ok b fun h=>hb (hle.fr b h)) hres hf1
  refine ⟨v,h1,?_⟩
  have hob:=hr'.objs 0 _ hf2
  cases hL:L' 0 with
  | ext O' D' =>
    rw[hL] at hob
    obtain ⟨g1,g2,g3⟩:=hob
    refine ⟨O',D',scalar_rep hy h2,hle.keeps hr'.below,g3,fun b hb=>?_,fun b hb=>(g1 b hb).2.2,fun b hb=>?_,fun b hb=>?_⟩
    ·by_cases hbl:b<w.heap.size
     ·exact .inl (Classical.byContradiction fun hn=>(g1 b hb).1 (hle.fr b ⟨hbl,hn⟩))
     ·exact .inr (Nat.not_lt.1 hbl)
    ·rcases g2 b hb with h | ⟨h,_⟩
     ·exact (g1 b h).2.1
     ·exact hr'.frl b h
    ·exact (g2 b hb).imp (fun h=>h) (fun h=>h.2.1)
  | _=>rw[hL] at hob;exact hob.elim
 ·simp at hok
end
end Go.Ev

/- Rounds over a list. -/
namespace Go.Ev
open Go Go.RowKit
section
variable {P:Program} {K:World→Prop}
def Rnd (P:Program) (K:World→Prop) (ps:List Nat) (asn body:AC) (ks ids:List Nat) (eK:Env) (x:List IV) (o:Objs) (wy:Way) (o':Objs):Prop :=
 x.length=ps.length∧WpF P K (fun w1 e1 o1=>w1=.fall∧WpF P K (fun w2 e2 o2=>w2=wy∧keepE ks ids e2=eK∧keepO ids o2 ids=o') [.code body] e1 o1) [.code asn] (bindP ps x eK) o
inductive Rnds (P:Program) (K:World→Prop) (ps:List Nat) (asn body:AC) (ks ids:List Nat) (eK:Env):List (List IV)→Objs→Way→Objs→Prop
 | nil (o:Objs):Rnds P K ps asn body ks ids eK [] o .fall o
 | stop (x:List IV) (r:List (List IV)) (o o':Objs) (wy:Way) (hn:wy≠.fall) (h:Rnd P K ps asn body ks ids eK x o wy o'):Rnds P K ps asn body ks ids eK (x::r) o wy o'
 | next (x:List IV) (r:List (List IV)) (o o1 o':Objs) (wy:Way) (h:Rnd P K ps asn body ks ids eK x o .fall o1) (hr:Rnds P K ps asn body ks ids eK r o1 wy o'):Rnds P K ps asn body ks ids eK (x::r) o wy o'
theorem Rnds.index {ps:List Nat} {asn body:AC} {ks ids:List Nat} {eK:Env} {L:List (List IV)} {o o':Objs} {wy:Way} (h:Rnds P K ps asn body ks ids eK L o wy o') :
  ∃ (St:Nat→Objs) (Wy:Nat→Way) (m:Nat),St 0=o∧St m=o'∧(if m=0 then .fall else Wy (m-1))=wy∧m≤L.length∧(∀ i,i+1<m→Wy i=.fall)∧(m=L.length∨(0<m∧Wy (m-1)≠.fall)) ∧
   ∀ i x,i<m→L[i]?=some x→Rnd P K ps asn body ks ids eK x (St i) (Wy i) (St (i+1)):=by
 induction h with
 | nil o=>exact ⟨fun _=>o,fun _=>.fall,0,rfl,rfl,rfl,Nat.le_refl _,fun _ _=>rfl,.inl rfl,fun i x hi=>absurd hi (Nat.not_lt_zero _)⟩
 | stop x r o o' wy hn h =>
   refine ⟨fun i=>if i=0 then o else o',fun _=>wy,1,rfl,rfl,rfl,by simp,fun i hi=>by omega,.inr ⟨by omega,hn⟩,fun i y hi hy=>?_⟩
   have:i=0:=by omega
   subst this
   simp at hy
   subst hy
   exact h
 | next x r o o1 o' wy h _ ih =>
   obtain ⟨St,Wy,m,h1,h2,h3,h4,h5,h6,h7⟩:=ih
   refine ⟨fun i=>if i=0 then o else St (i-1),fun i=>if i=0 then .fall else Wy (i-1),m+1,rfl,by simp[h2],?_,by simp;omega,fun i hi=>?_,?_,fun i y hi hy=>?_⟩
   ·simp only[Nat.add_one_ne_zero,if_false,Nat.add_sub_cancel]
    exact h3
   ·show (if i=0 then Way.fall else Wy (i-1))=.fall
    split
    ·rfl
    ·exact h5 (i-1) (by omega)
   ·rcases h6 with h6 | ⟨h6,h8⟩
    ·exact .inl (by simp[h6])
    ·refine .inr ⟨by omega,?_⟩
     simp only[Nat.add_sub_cancel]
     rw[if_neg (by omega)]
     exact h8
   ·cases i with
    | zero =>
      simp at hy
      subst hy
      simpa[h1] using h
    | succ i =>
      have:=h7 i y (by omega) (by simpa using hy)
      simpa using this
theorem Wp_range {F:Way→Env→Objs→Prop} {f:Opd} {ps:List Nat} {asn body:AC} {ks ids:List Nat} {k:List AI} {e:Env} {o o':Objs} {g:FuncId} {fs cs:List IV} {L:List (List IV)} {wy:Way}
  (hf:cloOf (f.av (look e))=some (g,fs,cs)) (hc:callee P g=true) (hit:IterX P K g fs cs L) (hr:Rnds P K ps asn body ks ids (keepE ks ids e) L (keepO ids o ids) wy o')
  (h:WpF P K F (jumpK wy k) (keepE ks ids e) o'):WpF P K F (.code (.range f ps asn body ks ids)::k) e o:=by
 obtain ⟨St,Wy,m,h1,h2,h3,h4,h5,h6,h7⟩:=hr.index
 refine .range F f ps asn body ks ids k e o g fs cs L St Wy m (fun i e1 o1=>WpF P K (fun w2 e2 o2=>w2=Wy i∧keepE ks ids e2=keepE ks ids e∧keepO ids o2 ids=St (i+1)) [.code body] e1 o1) hf hc hit h1 h4 h5 h6 (fun i x hi hx=>(h7 i x hi hx).1) (fun i x hi hx=>(h7 i x hi hx).2) (fun i e1 o1 _ hM=>hM) ?_
 rw[h3,h2]
 exact h
theorem Rnds.all {ps:List Nat} {asn body:AC} {ks ids:List Nat} {eK:Env}:∀ (L:List (List IV)) (so:Nat→Objs),(∀ i x,L[i]?=some x→Rnd P K ps asn body ks ids eK x (so i) .fall (so (i+1)))→Rnds P K ps asn body ks ids eK L (so 0) .fall (so L.length)
 | [],so,_=>.nil _
 | x::r,so,h=>by
   refine .next x r _ _ _ _ (h 0 x rfl) ?_
   have:=Rnds.all r (fun i=>so (i+1)) (fun i y hy=>h (i+1) y (by simpa using hy))
   simpa using this
@[simp] theorem jumpK_fall (k:List AI):jumpK .fall k=k:=rfl
@[simp] theorem jumpK_ret (k:List AI):jumpK .ret k=.code .ret::k:=rfl
@[simp] theorem jumpK_exit (id:Nat) (k:List AI):jumpK (.exit id) k=.code (.exit id)::k:=rfl
attribute [simp] cloOf bindP EndX cbEnv
end
end Go.Ev

/- Objects numbered anew: see EvPf. -/


/- The contract of a call that is handed objects of the caller's own, from a run. -/
namespace Go.Ev
open Go Go.RowKit
def argEnvA:Nat→List AV→Env
 | _,[]=>[]
 | i,x::r=>(i,x)::argEnvA (i+1) r
theorem look_argEnvA:∀ (xs:List AV) (i t:Nat),look (argEnvA i xs) t=.iv .any∨∃ x,i≤t∧xs[t-i]?=some x∧look (argEnvA i xs) t=x
 | [],i,t=>.inl rfl
 | x::r,i,t=>by
   simp only[argEnvA,look]
   split
   ·rename_i h
    subst h
    exact .inr ⟨x,Nat.le_refl _,by simp,rfl⟩
   ·rename_i h
    rcases look_argEnvA r (i+1) t with h1 | ⟨y,h1,h2,h3⟩
    ·exact .inl h1
    ·refine .inr ⟨y,by omega,?_,h3⟩
     have:t-i=(t-(i+1))+1:=by omega
     rw[this]
     simpa using h2
def fnFitsP (P:Program) (fn:Func) (A:AFn) (pins:List Nat):Bool :=
 (match fn.body with | some c=>codeFits P ⟨A.nt,pins⟩ A.code c | none=>false)&&fn.ntmps==A.nt&&resFits P A.res fn.results.toList
def FnOkP (P:Program) (f:FuncId) (A:AFn) (pins:List Nat):Prop:=∃ fn,P.funcs[f]?=some fn∧fnFitsP P fn A pins=true
theorem FnOk.p {P:Program} {f:FuncId} {A:AFn} (h:FnOk P f A):FnOkP P f A []:=by
 obtain ⟨fn,h1,h2⟩:=h
 exact ⟨fn,h1,h2⟩
def retAs (e:Env) (o:Objs):List ARes→Option (List AV)
 | []=>some []
 | x::r=>match retA e o x,retAs e o r with
   | some y,some ys=>some (y::ys)
   | _,_=>none
def retH (res:List ARes) (e:Env) (o:Objs):Option AV :=
 match res with
 | []=>some (.iv (.tup []))
 | [x]=>retA e o x
 | xs=>(retAs e o xs).map .tup
def resH (ids:List Nat) (o:Objs) (y:AV) (z:AV):Prop :=
 match y with
 | .iv r=>imm (fun i=>if ids.contains i then none else lookO o i) 40 z=some r
 | y=>z=rn (nth ids) y
@[simp] theorem resH_iv (ids:List Nat) (o:Objs) (r:IV) (z:AV):resH ids o (.iv r) z=(imm (fun i=>if ids.contains i then none else lookO o i) 40 z=some r):=rfl
@[simp] theorem resH_aref (ids:List Nat) (o:Objs) (i n:Nat) (z:AV):resH ids o (.aref i n) z=(z=.aref (nth ids i) n):=rfl
@[simp] theorem resH_loc (ids:List Nat) (o:Objs) (i n:Nat) (z:AV):resH ids o (.loc i n) z=(z=.loc (nth ids i) n):=rfl
@[simp] theorem resH_agg (ids:List Nat) (o:Objs) (cs:List AV) (z:AV):resH ids o (.agg cs) z=(z=.agg (rnL (nth ids) cs)):=rfl
def EndH (res:List ARes) (ids:List Nat) (pe:List (Nat × Nat × Nat)) (y:AV) (o1:Objs) (e:Env) (o:Objs):Prop :=
 (∃ z,retH res e o=some z∧resH ids o y z)∧(∀ p∈o1,lookO o (nth ids p.1)=some (rnO (nth ids) p.2))∧(∀ q∈pe,look e q.1=.loc q.2.1 q.2.2)
section
variable {P:Program} {K:World→Prop}
theorem results_one {fn:Func} {rs:ResultVar} {tmps:Array Value} {v:Value} {w:World} (hrs:fn.results.toList=[rs]) (hv:(resRun tmps rs).run P w=.ok v w):(results fn tmps).run P w=.ok v w:=by
 have hfun:results fn tmps=(do
   let vs ← fn.results.mapM (resRun tmps)
   pure (if h:vs.size=1 then vs[0] else .tuple vs)):=by
  unfold results
  congr 1
 rw[hfun,Array.mapM_eq_mapM_toList,hrs]
 simp[List.mapM_cons,hv]
theorem results_none {fn:Func} {tmps:Array Value} {w:World} (hrs:fn.results.toList=[]):(results fn tmps).run P w=.ok undef w:=by
 have hfun:results fn tmps=(do
   let vs ← fn.results.mapM (resRun tmps)
   pure (if h:vs.size=1 then vs[0] else .tuple vs)):=by
  unfold results
  congr 1
 rw[hfun,Array.mapM_eq_mapM_toList,hrs]
 simp[undef]
theorem retH_run {ok0:Nat→Prop} {N:Fm} {w0:Base} {a:Act} {w:World} {L:Nat→Lay} {e:Env} {o:Objs} {fn:Func} {res:List ARes} {z:AV} (h:Rel ok0 N w0 (look e) (lookO o) a w L) (hf:resFits P res fn.results.toList=true) (hv:retH res e o=some z) :
  ∃ v,(results fn a.tmps).run P w=.ok v w∧RepA (okL ok0 (lookO o) L) w (lookO o) L z v:=by
 match res,hv with
 | [],hv =>
   simp only[retH,Option.some.injEq] at hv
   subst hv
   have hrs:fn.results.toList=[]:=by
    generalize fn.results.toList=l at hf
    cases l with
    | nil=>rfl
    | cons r s=>simp[resFits] at hf
   exact ⟨undef,results_none hrs,.iv _ _ rep_undef⟩
 | [x],hv =>
   obtain ⟨rs,hrs⟩:∃ rs,fn.results.toList=[rs]:=by
    generalize fn.results.toList=l at hf
    match l,hf with
    | [r],h=>exact ⟨r,rfl⟩
    | [],h=>cases x<;>simp[resFits] at h
    | r::_::_,h=>cases x<;>cases r<;>simp[resFits] at h
   rw[hrs] at hf
   obtain ⟨v,hv1,hv2⟩:=resA_run h hf hv
   exact ⟨v,results_one hrs hv1,hv2⟩
 | x::x2::r,hv =>
   simp only[retH,Option.map_eq_some_iff] at hv
   obtain ⟨zs,hzs,rfl⟩:=hv
   have many:∀ (res:List ARes) (rs:List ResultVar) (zs:List AV),resFits P res rs=true→retAs e o res=some zs→∃ vs,(rs.mapM (resRun a.tmps)).run P w=.ok vs w∧vs.length=zs.length ∧
     ∀ (k:Nat) (z:AV) (v:Value),zs[k]?=some z→vs[k]?=some v→RepA (okL ok0 (lookO o) L) w (lookO o) L z v:=by
    intro res
    induction res with
    | nil =>
      intro rs zs hf hv
      cases rs with
      | cons=>simp[resFits] at hf
      | nil =>
        simp only[retAs,Option.some.injEq] at hv
        subst hv
        exact ⟨[],by simp,rfl,by simp⟩
    | cons y r ih =>
      intro rs zs hf hv
      cases rs with
      | nil=>cases y<;>simp[resFits] at hf
      | cons s rs =>
        obtain ⟨h1,h2⟩:=resFits_cons hf
        simp only[retAs] at hv
        split at hv
        ·rename_i u us hu hus
         injection hv with hv
         subst hv
         obtain ⟨v,hr,hrep⟩:=resA_run h h1 hu
         obtain ⟨vs,hrs,hl,hreps⟩:=ih rs us h2 hus
         refine ⟨v::vs,by simp[List.mapM_cons,hr,hrs],by simp[hl],fun k z u hz hu=>?_⟩
         cases k with
         | zero=>simp at hz hu;subst hz hu;exact hrep
         | succ k=>exact hreps k z u (by simpa using hz) (by simpa using hu)
        ·cases hv
   obtain ⟨vs,hrs,hl,hreps⟩:=many _ _ _ hf hzs
   have hzl:2≤zs.length:=by
    simp only[retAs] at hzs
    split at hzs
    ·rename_i u us hu hus
     injection hzs with hzs
     subst hzs
     split at hus
     ·injection hus with hus
      subst hus
      simp
     ·cases hus
    ·cases hzs
   refine ⟨.tuple vs.toArray,?_,.tup _ _ hl hreps⟩
   have hfun:results fn a.tmps=(do
     let vs ← fn.results.mapM (resRun a.tmps)
     pure (if h:vs.size=1 then vs[0] else .tuple vs)):=by
    unfold results
    congr 1
   rw[hfun,Array.mapM_eq_mapM_toList]
   have hsz:¬ (vs.length=1):=by omega
   simp[hrs,hsz]
theorem goodh_of_wp {f:FuncId} {A:AFn} {args:List AV} {o o1:Objs} {y:AV} (ids st pins:List Nat) (pe:List (Nat × Nat × Nat)) (hok:FnOkP P f A pins) (hlen:args.length≤A.nt) (hnd:ids.Nodup)
  (ho1:∀ p∈o1,p.1<ids.length∧noExt p.2=true∧clO (o1.map (·.1)) p.2=true) (hy:clA (o1.map (·.1)) y=true)
  (hst:∀ i∈st,nth ids i=i∧(∃ cs,lookO o i=some (.box cs))∧(∃ cs,lookO o1 i=some (.box cs))∧∃ t off,(t,i,off)∈pe∧pins.contains t=true∧args[t]?=some (.loc i off))
  (h:WpF P K (FnF (EndH A.res ids pe y o1)) [.code A.code] (argEnvA 0 args) o):GoodH P K f args o st y o1:=by
 intro w ok L vs hK hnew hown hlaid hvl hvs
 obtain ⟨fn,hfn,hok⟩:=hok
 unfold fnFitsP at hok
 split at hok
 ·rename_i c hbody
  simp only[Bool.and_eq_true,beq_iff_eq] at hok
  obtain ⟨⟨hfit,hnt⟩,hresf⟩:=hok
  let a:Act:={ tmps:=vs.toArray++Array.replicate (fn.ntmps-vs.toArray.size) undef,defers:=[] }
  let w0:Base:=⟨w,FrO w (lookO o) L,fun _ h=>h.1,fun t=>a.tmps.getD t undef⟩
  have hctx:Ctx P K ok w0:=⟨fun w' h=>hK w' h,fun b hb=>by
   by_cases hbl:b<w.heap.size
   ·exact hown b (Classical.byContradiction fun hn=>hb ⟨hbl,hn⟩)
   ·exact hnew b (Nat.not_lt.1 hbl)⟩
  have hget:∀ t (hlt:t<vs.length),a.tmps.getD t undef=vs[t]:=fun t hlt=>by
   simp[a,Array.getD_eq_getD_getElem?,Array.getElem?_append,hlt]
  have hrel:Rel ok ⟨A.nt,pins⟩ w0 (look (argEnvA 0 args)) (lookO o) a w L:=by
   refine ⟨Keep.refl _ _,⟨[],rfl,List.nodup_nil,by simp⟩,?_,fun t=>?_,hlaid.objs,hlaid.apart,fun t _=>rfl⟩
   ·simp[a,hnt];omega
   ·rcases look_argEnvA args 0 t with h1 | ⟨z,_,h2,h3⟩
    ·rw[h1];exact .iv _ _ (.any _)
    ·rw[h3]
     simp only[Nat.sub_zero] at h2
     have hlt:t<vs.length:=by rw[hvl];exact (List.getElem?_eq_some_iff.1 h2).1
     rw[hget t hlt]
     exact hvs t z _ h2 (List.getElem?_eq_getElem hlt)
  refine (wp_fn (ac:=A.code) (R:=fun v w'=>∃ L',Laid (FrO w (lookO o) L) ok w' (lookO o1) L'∧RepA (okL ok (lookO o1) L') w' (lookO o1) L' y v∧Keep (FrO w (lookO o) L) w w'∧∀ i∈st,∀ ob,lookO o i=some ob→∃ ob',lookO o1 i=some ob'∧StayO ob ob' (L i) (L' i)) hctx hfn hbody hfit hrel h (fun w1 e1 o2 a1 w' L' hle hf hr'=>?_)).mono fun e w' ⟨v,he,L',h1⟩=>⟨v,L',he,h1⟩
  obtain ⟨⟨z,hz,hzy⟩,hobs,hpe⟩:=hf
  obtain ⟨v,hrun,hrep⟩:=retH_run hr' hresf hz
  let m:=nth ids
  let L1:Nat→Lay:=fun j=>L' (m j)
  have hinj:∀ i j,i<ids.length→j<ids.length→m i=m j→i=j:=fun i j hi hj e=>by
   have h1:=idxO_nth hnd hi
   have h2:=idxO_nth hnd hj
   have e':nth ids i=nth ids j:=e
   rw[e',h2] at h1
   injection h1 with h1
   exact h1.symm
  have hlo1:∀ i ob,lookO o1 i=some ob→lookO o2 (m i)=some (rnO m ob)∧L1 i=L' (m i):=fun i ob hob=>⟨hobs (i,ob) (lookO_some_mem hob),rfl⟩
  have hdom:∀ i,(o1.map (·.1)).contains i=true→(lookO o1 i).isSome=true:=fun i hi=>by
   obtain ⟨ob,hob⟩:=lookO_mem_some (o:=o1) (by simpa using hi)
   rw[hob];rfl
  have hlt1:∀ i ob,lookO o1 i=some ob→i<ids.length:=fun i ob hob=>(ho1 (i,ob) (lookO_some_mem hob)).1
  have hokc:∀ b,okL ok (lookO o2) L' b→okL ok (lookO o1) L1 b:=fun b hb=>⟨hb.1,fun i ob hob hbb=>hb.2 _ _ (hlo1 i ob hob).1 hbb⟩
  have hFr:∀ b,FrO w (lookO o) L b→w1.fr b:=fun b hb=>hle.fr b hb
  refine ⟨v,hrun,L1,⟨fun i ob hob=>?_,fun i j oi oj b hij hi hj h1 h2=>?_⟩,?_,hle.keeps hr'.below,fun i hi ob hob=>?_⟩
  ·obtain ⟨_,h2,h3⟩:=ho1 (i,ob) (lookO_some_mem hob)
   exact rnO_back hokc hdom hlo1 h3 h2 (fun b hb hf=>((hr'.objs _ _ (hlo1 i ob hob).1).lt hb).1 (hFr b hf)) (hr'.objs _ _ (hlo1 i ob hob).1)
  ·exact hr'.apart (m i) (m j) _ _ b (fun e=>hij (hinj i j (hlt1 i oi hi) (hlt1 j oj hj) e)) (hlo1 i oi hi).1 (hlo1 j oj hj).1 h1 h2
  ·unfold resH at hzy
   split at hzy
   ·rename_i r
    have hs:=(imm_soundG hr' (ok1:=okL ok (lookO o1) L1) hokc (lo':=fun i=>if ids.contains i then none else lookO o2 i)
     (fun id ob hob=>by
       split at hob
       ·cases hob
       ·exact hob)
     (fun id ob b hob hb=>by
       split at hob
       ·cases hob
       ·rename_i hni
        refine ⟨(hctx.le hle).ok b ((hr'.objs id ob hob).lt hb).1,fun i oi hi hbb=>?_⟩
        refine hr'.apart (m i) id _ ob b (fun e=>hni ?_) (hlo1 i oi hi).1 hob hbb hb
        rw[← e]
        have hil:=hlt1 i oi hi
        simp only[m,nth,List.getD_eq_getElem?_getD,List.getElem?_eq_getElem hil,Option.getD_some,List.contains_eq_mem,decide_eq_true_eq]
        exact List.getElem_mem hil) 40).1 z v r hrep hzy
    exact .iv _ _ hs
   ·subst hzy
    exact rn_back hokc hdom hlo1 hy hrep
  ·obtain ⟨hmi,⟨cs,hcs⟩,⟨cs',hcs'⟩,t,off,hpm,hpin,hat⟩:=hst i hi
   refine ⟨_,hcs',?_⟩
   rw[hcs] at hob
   injection hob with hob
   subst hob
   have hlt:t<vs.length:=by rw[hvl];exact (List.getElem?_eq_some_iff.1 hat).1
   have hr0:=hvs t _ _ hat (List.getElem?_eq_getElem hlt)
   have hr1:=hr'.env t
   rw[hpe (t,i,off) hpm] at hr1
   rw[hr'.pin t hpin] at hr1
   have hpv:w1.pin t=vs[t]:=by rw[hle.pin];exact hget t hlt
   rw[hpv] at hr1
   have hL1:L1 i=L' i:=by show L' (nth ids i)=L' i;rw[hmi]
   generalize vs[t]=pv at hr0 hr1
   cases hr0 with
   | loc _ _ c0 b0 g1 g2 =>
     cases hr1 with
     | loc _ _ c1 _ g3 g4 =>
       rw[g2,hL1,g4]
       simp only[StayO]
 ·simp at hok
theorem GoodH.none {f:FuncId} {args:List AV} {o o':Objs} {st:List Nat} {y:AV} (h:GoodH P K f args o st y o'):GoodH P K f args o [] y o' :=
 fun w ok L vs h1 h2 h3 h4 h5 h6=>(h w ok L vs h1 h2 h3 h4 h5 h6).mono fun _ _ ⟨v,L',a,b,c,d,_⟩=>⟨v,L',a,b,c,d,fun _ h=>by simp at h⟩
@[simp] theorem resH_tup (ids:List Nat) (o:Objs) (cs:List AV) (z:AV):resH ids o (.tup cs) z=(z=.tup (rnL (nth ids) cs)):=rfl
attribute [simp] retH retAs EndH argEnvA
end
end Go.Ev

/- A closure over own objects, handed to a function that calls it with the items of a list. -/
namespace Go.Ev
open Go Go.RowKit
mutual
theorem scr_cl {st:List Nat}:∀ {x:AV},clA st x=true→scr st x=x
 | .iv x,_=>rfl
 | .agg cs,h=>by simp only[clA] at h;simp only[scr,scrL_cl h]
 | .loc id off,h=>by simp only[clA] at h;simp only[scr,h,if_true]
 | .eloc id n i off,h=>by simp only[clA] at h;simp only[scr,h,if_true]
 | .aref id n,h=>by simp only[clA] at h;simp only[scr,h,if_true]
 | .mref id k n,h=>by simp only[clA] at h;simp only[scr,h,if_true]
 | .nilr sz,_=>rfl
 | .oref id,h=>by simp only[clA] at h;simp only[scr,h,if_true]
 | .belem id i,h=>by simp only[clA] at h;simp only[scr,h,if_true]
 | .clo g fs cs,h=>by
   simp only[clA,Bool.and_eq_true] at h
   simp only[scr,scrL_cl h.1,scrL_cl h.2]
 | .cb id,h=>by simp only[clA] at h;simp only[scr,h,if_true]
 | .tup cs,h=>by simp only[clA] at h;simp only[scr,scrL_cl h]
theorem scrL_cl {st:List Nat}:∀ {cs:List AV},clAL st cs=true→scrL st cs=cs
 | [],_=>rfl
 | x::r,h=>by
   simp only[clAL,Bool.and_eq_true] at h
   simp only[scrL,scr_cl h.1,scrL_cl h.2]
end
theorem StayO.trans {a b c:AO} {x y z:Lay} (h:StayO a b x y) (k:StayO b c y z):StayO a c x z:=by
 cases a<;>cases b<;>cases x<;>cases y<;>first | exact h.elim | skip
 all_goals cases c<;>cases z<;>first | exact k.elim | skip
 all_goals simp only[StayO] at h k ⊢
 ·rw[k,h]
 ·obtain ⟨a1,a2,a3,a4,a5⟩:=h
  obtain ⟨b1,b2,b3,b4,b5⟩:=k
  exact ⟨b1.trans a1,b2.trans a2,b3.trans a3,b4.trans a4,b5⟩
 ·rw[k,h]
section
variable {P:Program} {K:World→Prop}
inductive HRounds (P:Program) (K:World→Prop) (gc:FuncId) (fs cs:List AV) (st:List Nat):List (List IV)→Objs→Bool→Objs→Prop
 | nil (o:Objs):HRounds P K gc fs cs st [] o true o
 | stop (x:List IV) (r:List (List IV)) (o o':Objs) (h:GoodH P K gc (fs++x.map AV.iv++cs) o st (.iv (.bool false)) o') (hn:∀ p∈o',noExt p.2=true):HRounds P K gc fs cs st (x::r) o false o'
 | next (x:List IV) (r:List (List IV)) (o o' o'':Objs) (b:Bool) (h:GoodH P K gc (fs++x.map AV.iv++cs) o st (.iv (.bool true)) o') (hn:∀ p∈o',noExt p.2=true) (hr:HRounds P K gc fs cs st r o' b o''):HRounds P K gc fs cs st (x::r) o b o''
def CloJ (fs cs:List AV) (us vs:List Value) (st:List Nat) (o0:Objs) (L0:Nat→Lay) (o:Objs) (O D:Nat→Prop) (w:World):Prop :=
 ∃ L,(∀ b,O b↔Owned (lookO o) L b)∧(∀ b,O b→D b)∧(∀ b,D b→b<w.heap.size)∧Laid (fun b=>D b∧¬ O b) D w (lookO o) L∧(∀ p∈o,noExt p.2=true) ∧
  (∀ (k:Nat) (x:AV) (u:Value),fs[k]?=some x→us[k]?=some u→RepA (okL D (lookO o) L) w (lookO o) L x u) ∧
  (∀ (k:Nat) (x:AV) (u:Value),cs[k]?=some x→vs[k]?=some u→RepA (okL D (lookO o) L) w (lookO o) L x u) ∧
  ∀ i∈st,∀ ob,lookO o0 i=some ob→∃ ob',lookO o i=some ob'∧StayO ob ob' (L0 i) (L i)
theorem noExt_of {o:Objs} (h:∀ p∈o,noExt p.2=true) {i:Nat} {ob:AO} (ho:lookO o i=some ob):noExt ob=true:=h (i,ob) (lookO_some_mem ho)
theorem CloJ.stay {fs cs:List AV} {us vs:List Value} {st:List Nat} {o0 o:Objs} {L0:Nat→Lay} {O D:Nat→Prop} {w w':World} (h:CloJ fs cs us vs st o0 L0 o O D w) (hk:Keep D w w'):CloJ fs cs us vs st o0 L0 o O D w':=by
 obtain ⟨L,h1,h2,h3,h4,h5,h6,h7,h8⟩:=h
 have hok:∀ b,okL D (lookO o) L b→plainB w b→okL D (lookO o) L b∧w'.heap[b]?=w.heap[b]?:=fun b hb _=>⟨hb,hk.block b hb.1⟩
 have hown:∀ id ob b,lookO o id=some ob→(L id).has b→w'.heap[b]?=w.heap[b]?:=fun id ob b ho hb=>hk.block b (h2 b ((h1 b).2 ⟨id,ob,ho,hb⟩))
 have all:∀ x v,RepA (okL D (lookO o) L) w (lookO o) L x v→RepA (okL D (lookO o) L) w' (lookO o) L x v:=fun x v hx=>hx.move hok hown
 refine ⟨L,h1,h2,fun b hb=>Nat.lt_of_lt_of_le (h3 b hb) hk.size,⟨fun id ob ho=>?_,h4.apart⟩,h5,fun k x u a b=>all _ _ (h6 k x u a b),fun k x u a b=>all _ _ (h7 k x u a b),h8⟩
 exact (h4.objs id ob ho).move ⟨hk.os,hk.tape,hk.output,hk.size⟩ hok (fun b hb=>⟨fun hf=>hf.2 ((h1 b).2 ⟨id,ob,ho,hb⟩),hown id ob b ho hb⟩) (fun b hb hb'=>⟨hb,hb',hk.block b hb.1⟩) all
def cloE (g:FuncId) (fs cs:List AV) (us vs:List Value) (st:List Nat) (o0:Objs) (L0:Nat→Lay) (o:Objs):Ext :=
 ⟨.func (.func g) us.toArray vs.toArray,rfl,CloJ fs cs us vs st o0 L0 o,fun _ _ _ _ h hk=>h.stay hk⟩
theorem clo_gives {gc:FuncId} {fs cs:List AV} {us vs:List Value} {st:List Nat} {o0 o o':Objs} {L0:Nat→Lay} {x:List IV} {y:IV} (hc:callee P gc=true) (lu:us.length=fs.length) (lv:vs.length=cs.length) (hfs:clAL st fs=true) (hcs:clAL st cs=true)
  (hg:GoodH P K gc (fs++x.map AV.iv++cs) o st (.iv y) o') (hn:∀ p∈o',noExt p.2=true):CbGives P K (cloE gc fs cs us vs st o0 L0 o) x y (cloE gc fs cs us vs st o0 L0 o'):=by
 refine ⟨rfl,fun ok O D w zs hp=>?_⟩
 obtain ⟨L,h1,h2,h3,h4,h5,h6,h7,h8⟩:=hp.J
 have hD:∀ b,okL D (lookO o) L b→okL ok (lookO o) L b:=fun b hb=>⟨(hp.okd b hb.1).resolve_left fun ho=>by
  obtain ⟨i,ob,g1,g2⟩:=(h1 b).1 ho
  exact hb.2 i ob g1 g2,hb.2⟩
 have mono:∀ z u,RepA (okL D (lookO o) L) w (lookO o) L z u→RepA (okL ok (lookO o) L) w (lookO o) L z u:=fun z u hz=>hz.move (fun b hb _=>⟨hD b hb,rfl⟩) (fun _ _ _ _ _=>rfl)
 have hlaid:Laid (FrO w (lookO o) L) ok w (lookO o) L:=⟨fun id ob ho=>((h4.objs id ob ho).frameN' (noExt_of h5 ho) (B':=FrO w (lookO o) L) fun b hb hf=>hf.2 ⟨id,ob,ho,hb⟩).move ⟨rfl,rfl,rfl,Nat.le_refl _⟩ (fun b hb _=>⟨hD b hb,rfl⟩) (fun b hb=>⟨fun hf=>hf.2 ⟨id,ob,ho,hb⟩,rfl⟩)
   (fun b hb hb'=>⟨hb,hD b hb',rfl⟩) mono,h4.apart⟩
 have hFO:∀ b,FrO w (lookO o) L b↔b<w.heap.size∧¬ O b:=fun b=>by unfold FrO;rw[h1 b]
 refine Ans.of_calls hc ((hg w ok L (us++zs++vs) (fun w' hk=>hp.hK w' (hk.mono fun b hb=>(hFO b).2 hb)) hp.new (fun b hb=>hp.own b ((h1 b).2 hb)) hlaid (by simp[lu,lv,hp.len]) (fun k z u hz hu=>?_)).mono ?_)
 ·by_cases k1:k<fs.length
  ·rw[List.append_assoc,List.getElem?_append_left k1] at hz
   rw[List.append_assoc,List.getElem?_append_left (by omega)] at hu
   exact mono _ _ (h6 k z u hz hu)
  ·rw[List.append_assoc,List.getElem?_append_right (by omega)] at hz
   rw[List.append_assoc,List.getElem?_append_right (by omega),lu] at hu
   by_cases k2:k-fs.length<x.length
   ·rw[List.getElem?_append_left (by simpa using k2)] at hz
    rw[List.getElem?_append_left (by rw[hp.len];exact k2)] at hu
    rw[List.getElem?_map,Option.map_eq_some_iff] at hz
    obtain ⟨q,hq,rfl⟩:=hz
    exact .iv _ _ ((hp.args _ q u hq hu).mono fun b hb _=>⟨⟨hb.1,fun i ob ho hbb=>hb.2 ((h1 b).2 ⟨i,ob,ho,hbb⟩)⟩,rfl⟩)
   ·rw[List.getElem?_append_right (by simpa using k2)] at hz
    rw[List.getElem?_append_right (by rw[hp.len];omega)] at hu
    simp only[List.length_map,hp.len] at hz hu
    exact mono _ _ (h7 _ z u hz hu)
 ·rintro e w' ⟨v,L',rfl,hlaid',hrep,hk,hstay⟩
  let O':Nat→Prop:=Owned (lookO o') L'
  let D':Nat→Prop:=fun b=>b<w'.heap.size∧(O' b∨ok b)
  have hO'lt:∀ b,O' b→b<w'.heap.size:=fun b ⟨i,ob,ho,hb⟩=>((hlaid'.objs i ob ho).lt hb).2
  have hO'fr:∀ b,O' b→¬ FrO w (lookO o) L b:=fun b ⟨i,ob,ho,hb⟩=>((hlaid'.objs i ob ho).lt hb).1
  have hnew:∀ b,O' b→O b∨w.heap.size≤b:=fun b hb=>by
   have:=hO'fr b hb
   rw[hFO] at this
   by_cases hs:b<w.heap.size
   ·exact .inl (Classical.byContradiction fun hn=>this ⟨hs,hn⟩)
   ·exact .inr (Nat.not_lt.1 hs)
  have hmv:∀ id e sz es mv,lookO o id=some (.arr e sz es mv)→mv≤es.length:=fun id e sz es mv ho=>by
   have hob:=hlaid.objs id _ ho
   cases hL:L id with
   | arr v xs=>rw[hL] at hob;exact hob.2.1
   | _=>rw[hL] at hob;exact hob.elim
  have hokD:∀ b,okL ok (lookO o') L' b→plainB w' b→okL D' (lookO o') L' b∧w'.heap[b]?=w'.heap[b]?:=fun b hb hpl=>⟨⟨⟨hpl.lt,.inr hb.1⟩,hb.2⟩,rfl⟩
  have all':∀ z u,RepA (okL ok (lookO o') L') w' (lookO o') L' z u→RepA (okL D' (lookO o') L') w' (lookO o') L' z u:=fun z u hz=>hz.move hokD (fun _ _ _ _ _=>rfl)
  have turn:∀ z u,clA st z=true→RepA (okL ok (lookO o) L) w (lookO o) L z u→RepA (okL D' (lookO o') L') w' (lookO o') L' z u:=fun z u hz hr=>by
   have:=scr_turn (Fr:=FrO w (lookO o) L) (ok':=okL ok (lookO o') L') (ok'':=okL ok (lookO o') L') (w':=w') (lo':=lookO o') (L':=L') (keep:=st) (fun b hb hbs=>by
    have hnO:¬ O b:=fun ho=>by
     obtain ⟨i,ob,g1,g2⟩:=(h1 b).1 ho
     exact hb.2 i ob g1 g2
    refine ⟨⟨hb.1,fun i ob ho hbb=>?_⟩,hk.block b ((hFO b).2 ⟨hbs,hnO⟩)⟩
    rcases hnew b ⟨i,ob,ho,hbb⟩ with h | h
    ·exact hnO h
    ·omega) hmv (fun id ob hc ho=>by
    obtain ⟨ob',g1,g2⟩:=hstay id (by simpa using hc) ob ho
    exact .inr ⟨ob',g1,g2,hlaid'.objs id ob' g1⟩) hr
   rw[scr_cl hz] at this
   exact all' _ _ this
  refine ⟨v,rfl,O',D',?_,hk.mono fun b hb=>(hFO b).2 hb,⟨L',fun b=>Iff.rfl,fun b hb=>⟨hO'lt b hb,.inl hb⟩,fun b hb=>hb.1,⟨fun id ob ho=>?_,hlaid'.apart⟩,hn,fun k z u hz hu=>?_,fun k z u hz hu=>?_,fun i hi ob hob=>?_⟩,hnew,fun b hb=>⟨hO'lt b hb,.inl hb⟩,fun b hb=>hb.1,fun b hb=>hb.2⟩
  ·cases hrep with
   | iv _ _ r=>exact r.mono fun b hb _=>⟨⟨hb.1,fun ⟨i,ob,ho,hbb⟩=>hb.2 i ob ho hbb⟩,rfl⟩
  ·exact ((hlaid'.objs id ob ho).frameN' (noExt_of hn ho) (B':=fun b=>D' b∧¬ O' b) fun b hb hf=>hf.2 ⟨id,ob,ho,hb⟩).move ⟨rfl,rfl,rfl,Nat.le_refl _⟩ hokD (fun b hb=>⟨fun hf=>hf.2 ⟨id,ob,ho,hb⟩,rfl⟩) (fun b hb hb'=>⟨hb,⟨hb.1,hb'.2⟩,rfl⟩) all'
  ·exact turn z u (clAL_get hfs hz) (mono _ _ (h6 k z u hz hu))
  ·exact turn z u (clAL_get hcs hz) (mono _ _ (h7 k z u hz hu))
  ·obtain ⟨ob',g1,g2⟩:=h8 i hi ob hob
   obtain ⟨ob'',g3,g4⟩:=hstay i hi ob' g1
   exact ⟨ob'',g3,g2.trans g4⟩
theorem HRounds.feeds {gc:FuncId} {fs cs:List AV} {us vs:List Value} {st:List Nat} {o0:Objs} {L0:Nat→Lay} (hc:callee P gc=true) (lu:us.length=fs.length) (lv:vs.length=cs.length) (hfs:clAL st fs=true) (hcs:clAL st cs=true)
  {Ls:List (List IV)} {o o':Objs} {b:Bool} (h:HRounds P K gc fs cs st Ls o b o'):Feeds P K Ls (cloE gc fs cs us vs st o0 L0 o) b (cloE gc fs cs us vs st o0 L0 o'):=by
 induction h with
 | nil o=>exact .nil _
 | stop x r o o' h hn=>exact .stop _ _ _ _ (clo_gives hc lu lv hfs hcs h hn)
 | next x r o o' o'' b h hn _ ih=>exact .next _ _ _ _ _ _ (clo_gives hc lu lv hfs hcs h hn) ih
theorem goodh_of_iter {g gc:FuncId} {pre post:List IV} {Ls:List (List IV)} {yf:Bool→IV} {fs cs:List AV} {st:List Nat} {o o':Objs} {b:Bool} (hit:IterY P K g pre post Ls yf) (hc:callee P gc=true) (hfs:clAL st fs=true) (hcs:clAL st cs=true)
  (hst:∀ i∈st,∃ bs,lookO o i=some (.box bs)) (hn:∀ p∈o,noExt p.2=true) (hr:HRounds P K gc fs cs st Ls o b o'):GoodH P K g (pre.map AV.iv++.clo gc fs cs::post.map AV.iv) o st (.iv (yf b)) o':=by
 intro w ok L ws hK hnew hown hlaid hwl hws
 have hwl':ws.length=pre.length+(1+post.length):=by rw[hwl];simp;omega
 -- the values
 have hdec:ws=ws.take pre.length++ws[pre.length]'(by omega)::ws.drop (pre.length+1):=by
  rw[List.getElem_cons_drop,List.take_append_drop]
 have hcv:=hws pre.length (.clo gc fs cs) _ (by simp) (List.getElem?_eq_getElem (by omega))
 generalize ws[pre.length]'(by omega)=cv at hdec hcv
 cases hcv with
 | clo _ _ _ us vs lu lv hfx hcx =>
   let O:Nat→Prop:=Owned (lookO o) L
   let D:Nat→Prop:=fun b=>b<w.heap.size∧(O b∨ok b)
   have hOlt:∀ b,O b→b<w.heap.size:=fun b ⟨i,ob,ho,hb⟩=>((hlaid.objs i ob ho).lt hb).2
   have hokD:∀ b,okL ok (lookO o) L b→plainB w b→okL D (lookO o) L b∧w.heap[b]?=w.heap[b]?:=fun b hb hpl=>⟨⟨⟨hpl.lt,.inr hb.1⟩,hb.2⟩,rfl⟩
   have all:∀ z u,RepA (okL ok (lookO o) L) w (lookO o) L z u→RepA (okL D (lookO o) L) w (lookO o) L z u:=fun z u hz=>hz.move hokD (fun _ _ _ _ _=>rfl)
   have hJ:CloJ fs cs us vs st o L o O D w:=by
    refine ⟨L,fun b=>Iff.rfl,fun b hb=>⟨hOlt b hb,.inl hb⟩,fun b hb=>hb.1,⟨fun id ob ho=>?_,hlaid.apart⟩,hn,fun k z u hz hu=>all _ _ (hfx k z u hz hu),fun k z u hz hu=>all _ _ (hcx k z u hz hu),fun i hi ob hob=>?_⟩
    ·exact ((hlaid.objs id ob ho).frameN' (noExt_of hn ho) (B':=fun b=>D b∧¬ O b) fun b hb hf=>hf.2 ⟨id,ob,ho,hb⟩).move ⟨rfl,rfl,rfl,Nat.le_refl _⟩ hokD (fun b hb=>⟨fun hf=>hf.2 ⟨id,ob,ho,hb⟩,rfl⟩) (fun b hb hb'=>⟨hb,⟨hb.1,hb'.2⟩,rfl⟩) all
    ·obtain ⟨bs,h1⟩:=hst i hi
     rw[hob] at h1
     injection h1 with h1
     subst h1
     refine ⟨_,hob,?_⟩
     have hob2:=hlaid.objs i _ hob
     cases hL:L i with
     | box b=>rfl
     | _=>rw[hL] at hob2;exact hob2.elim
   have hgx:=hit _ _ _ (hr.feeds (us:=us) (vs:=vs) (o0:=o) (L0:=L) hc lu lv hfs hcs)
   have hpre:CbPre K ok O D w (cloE gc fs cs us vs st o L o) (pre++post) (ws.take pre.length++ws.drop (pre.length+1)):=by
    refine ⟨fun w' hk=>hK w' (hk.mono fun b hb=>hb),hJ,fun b hb=>⟨hOlt b hb,.inl hb⟩,fun b hb=>hb.1,fun b hb=>hb.2,hnew,hown,by simp;omega,fun k x u hx hu=>?_⟩
    have arg:∀ k x u,(pre.map AV.iv++AV.clo gc fs cs::post.map AV.iv)[k]?=some (AV.iv x)→ws[k]?=some u→RepI (fun b=>ok b∧¬ O b) w x u:=fun k x u h1 h2=>by
     have:=hws k _ u h1 h2
     cases this with
     | iv _ _ r=>exact r.mono fun b hb _=>⟨⟨hb.1,fun ⟨i,ob,ho,hbb⟩=>hb.2 i ob ho hbb⟩,rfl⟩
    by_cases hk:k<pre.length
    ·rw[List.getElem?_append_left hk] at hx
     rw[List.getElem?_append_left (by simp;omega),List.getElem?_take] at hu
     rw[if_pos hk] at hu
     exact arg k x u (by rw[List.getElem?_append_left (by simpa using hk),List.getElem?_map,hx];rfl) hu
    ·rw[List.getElem?_append_right (by omega)] at hx
     have hmin:(ws.take pre.length).length=pre.length:=by rw[List.length_take];omega
     rw[List.getElem?_append_right (by rw[hmin];omega),hmin,List.getElem?_drop] at hu
     refine arg (pre.length+1+(k-pre.length)) x u ?_ hu
     rw[List.getElem?_append_right (by simp;omega)]
     have e:pre.length+1+(k-pre.length)-(pre.map AV.iv).length=(k-pre.length)+1:=by simp;omega
     rw[e,List.getElem?_cons_succ,List.getElem?_map,hx]
     rfl
   have hcall:=hgx.2 ok O D w (ws.take pre.length) (ws.drop (pre.length+1)) hpre (by simp;omega)
   have hws2:(ws.take pre.length++(cloE gc fs cs us vs st o L o).v::ws.drop (pre.length+1)).toArray=ws.toArray:=congrArg List.toArray hdec.symm
   rw[hws2] at hcall
   refine hcall.mono ?_
   rintro e w' ⟨v,rfl,O',D',hpost⟩
   obtain ⟨L',h1,h2,h3,h4,h5,h6,h7,h8⟩:=hpost.J
   have hokn:∀ b,okL D' (lookO o') L' b→okL ok (lookO o') L' b:=fun b hb=>⟨(hpost.okd b hb.1).resolve_left fun ho=>by
    obtain ⟨i,ob,g1,g2⟩:=(h1 b).1 ho
    exact hb.2 i ob g1 g2,hb.2⟩
   have allb:∀ z u,RepA (okL D' (lookO o') L') w' (lookO o') L' z u→RepA (okL ok (lookO o') L') w' (lookO o') L' z u:=fun z u hz=>hz.move (fun b hb _=>⟨hokn b hb,rfl⟩) (fun _ _ _ _ _=>rfl)
   have hfr:∀ id ob b,lookO o' id=some ob→(L' id).has b→¬ FrO w (lookO o) L b:=fun id ob b ho hb hf=>by
    rcases hpost.new b ((h1 b).2 ⟨id,ob,ho,hb⟩) with h | h
    ·exact hf.2 h
    ·have:=hf.1;omega
   refine ⟨v,L',rfl,⟨fun id ob ho=>?_,h4.apart⟩,RepA.iv _ _ (hpost.rep.mono fun b hb _=>⟨⟨hb.1,fun i ob ho hbb=>hb.2 ((h1 b).2 ⟨i,ob,ho,hbb⟩)⟩,rfl⟩),hpost.keep,fun i hi ob hob=>?_⟩
   ·exact ((h4.objs id ob ho).frameN' (noExt_of h5 ho) (B':=FrO w (lookO o) L) fun b hb=>hfr id ob b ho hb).move ⟨rfl,rfl,rfl,Nat.le_refl _⟩ (fun b hb _=>⟨hokn b hb,rfl⟩) (fun b hb=>⟨hfr id ob b ho hb,rfl⟩) (fun b hb hb'=>⟨hb,hokn b hb',rfl⟩) allb
   ·exact h8 i hi ob hob
end
end Go.Ev

/- A function that takes data may be handed rows and boxes of the caller's own: they are given up. -/
namespace Go.Ev
open Go Go.RowKit
section
variable {P:Program} {K:World→Prop}
end
end Go.Ev
