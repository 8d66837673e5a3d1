/- Every operation of the evaluator does zp the translation's operation does; which slots and objects an operation looks at. -/
import Derived.Test.YtpiohpigfaahcaaGreatDoorPartOne
import Derived.RangeFuncRecord
import Derived.AtR
import Derived.Laws.CopyRow
import Derived.Laws.IdiomCopy
import Derived.RangeFuncIn
import Derived.Scope
set_option linter.all false
namespace Go.Ev
open Go Go.RowKit
section
variable{P:Program}{ok0:Nat->Prop}{N:Fm}{w0:XS}{lk:Nat->AV}{lo:Nat->Option AO}{a:Act}{w:World}{L:Nat->Lay}{o:Oper}
variable{s f:Prop}{v:AV}{up:Option (Nat×AO)}
def QmD{op}(h:Rel ok0 N w0 lk lo a w L)(hok0:∀b,¬w0.fr b->ok0 b)(hf:op.fits P o.op=true)
  (he:ev lk lo op=.ok s f v up)(hs:s):f/\Q6 P o ok0 N w0 lk lo a w v up:=by
 cases op with
 |xg x=>simp only[ev] at he;injection he with e1 e2 e3 e4;subst e2 e3 e4;exact⟨trivial,Qu4 h hf⟩
 |nilo id e sz=>
  simp only[ev] at he;split at he
  .rename_i hid;injection he with e1 e2 e3 e4;subst e2 e3 e4;exact⟨trivial,QrK h hid hf⟩
  cases he
 |pick c x y=>exact QrI h hf he
 |ext x i=>exact Qvq h hf he
 |not x=>exact Qu2 h hf he
 |bin op x y=>exact Qvx h hf he hs
 |cvi k x=>exact Qvt h hf he
 |b2s x=>exact Qvy h hf he hs
 |i2s x=>exact Qvo h hf he hs
 |nilc x=>exact QrL h hf he
 |fld off x=>exact Qvp h hf he hs
 |ldi n ag x=>exact Qvf h hf he hs
 |ldo id n ag x=>exact Qve h hf he hs
 |sto id n x y=>exact QuW h hf he hs
 |ixi sz x i=>exact Qvj h hf he hs
 |ixo id sz x i=>exact Qvi h hf he hs
 |ixs x i=>exact Qvh h hf he hs
 |sli sz x l h'=>exact QuZ h hf he hs
 |sls x l h'=>exact QuY h hf he hs
 |boxi x=>exact QrR h hok0 hf he
 |boxo id x=>exact QrQ h hf he
 |alo id zs=>
  simp only[ev] at he;split at he
  .rename_i hid;injection he with e1 e2 e3 e4;subst e2 e3 e4;exact⟨trivial,QvA h hid hf⟩
  cases he
 |bld zs parts=>
  simp only[ev] at he;split at he
  .rename_i cs hcs;injection he with e1 e2 e3 e4;subst e2 e3 e4;exact⟨trivial,Qvw h hf hcs⟩
  cases he
 |bsl sz parts=>
  simp only[ev] at he;split at he
  .rename_i rows hr;split at he
   .rename_i es hes;injection he with e1 e2 e3 e4;subst e2 e3 e4;exact⟨trivial,Qvv h hok0 hf hr hes⟩
   cases he
  cases he
 |bso id e sz parts=>
  simp only[ev] at he;split at he
  .rename_i rows hid hr;injection he with e1 e2 e3 e4;subst e2 e3 e4;exact⟨trivial,Qvu h hid hf hr⟩
  cases he
 |len x=>exact Qvd h hf he
 |leno id x=>exact QrO h hf he hs
 |lst x=>exact Qu8 h hf he
 |app id e sz bytes x y=>exact Qvz h hok0 hf he hs
 |call g args ids=>cases he
 |y2 g args ids id=>cases he
 |y1 x args ids=>cases he
 |yx g x args id=>cases he
 |yw x args id=>cases he
 |yu g args id=>cases he
 |yz g args ids=>cases he
 |cpy id x y=>cases he
 |y3 x args ids=>cases he
 |yy op=>exact QAR h hf he hs
end
def Opd.tmps:Opd->List Nat
 | .t n=>[n]
 |_=>[]
def QHD:Option Opd->List Nat
 |some x=>x.tmps
 |none=>[]
def YOp.tmps:YOp->List Nat
 | .no| .mkm _ _| .zslv _=>[]
 | .s2b _ x| .b2so _ x| .ldb _ x| .r2s x| .rngs _ x| .nxts _ x| .rngm _ x| .ent _ x=>x.tmps
 | .ixb _ x y| .stb _ x y| .mx _ x y| .lkr _ _ x y| .ixg _ x y=>x.tmps++y.tmps
 | .mks _ _ _ zs n=>zs.flatMap (·.tmps)++n.tmps
 | .lki _ z x k| .lkd _ _ z x k=>z.tmps++x.tmps++k.tmps
 | .mupd _ _ x k v| .mupr _ _ x k v=>x.tmps++k.tmps++v.tmps
 | .mkf _ fs cs=>fs.flatMap (·.tmps)++cs.flatMap (·.tmps)
 | .neg x| .lenm x| .lenmo _ x=>x.tmps
 | .eqs _ _ x y| .ixa _ _ x y=>x.tmps++y.tmps
 | .isn _ x=>x.tmps
 | .lkc _ zs x k=>zs.flatMap (·.tmps)++x.tmps++k.tmps
def YOp.y8:YOp->List Nat
 | .s2b id _| .b2so id _| .ixb id _ _| .ldb id _| .stb id _ _| .mks id _ _ _ _| .rngs id _| .nxts id _| .mkm id _| .lkd id _ _ _ _| .lkr id _ _ _| .mupd id _ _ _ _| .mupr id _ _ _ _| .rngm id _| .ent id _| .lenmo id _=>[id]
 |_=>[]
def YOp.sets:YOp->List Nat
 | .s2b id _| .stb id _ _| .mks id _ _ _ _| .rngs id _| .nxts id _| .mkm id _| .mupd id _ _ _ _| .mupr id _ _ _ _| .rngm id _=>[id]
 |_=>[]
def AOp.tmps:AOp->List Nat
 | .xg x| .ext x _| .not x| .cvi _ x| .b2s x| .i2s x| .nilc x| .fld _ x| .ldi _ _ x| .ldo _ _ _ x| .boxi x| .boxo _ x| .len x| .leno _ x| .lst x=>x.tmps
 | .nilo _ _ _=>[]
 | .pick c x y=>c.tmps++x.tmps++y.tmps
 | .bin _ x y| .sto _ _ x y| .ixi _ x y| .ixo _ _ x y| .ixs x y| .app _ _ _ _ x y| .cpy _ x y=>x.tmps++y.tmps
 | .sli _ x l h| .sls x l h=>x.tmps++QHD l++QHD h
 | .alo _ zs=>zs.flatMap (·.tmps)
 | .bld zs parts=>zs.flatMap (·.tmps)++parts.flatMap (·.2.2.tmps)
 | .bsl _ parts| .bso _ _ _ parts| .call _ parts _| .y2 _ parts _ _| .yu _ parts _| .yz _ parts _=>parts.flatMap (·.tmps)
 | .y3 x parts _=>x.tmps++parts.flatMap (·.tmps)
 | .y1 x parts _| .yx _ x parts _| .yw x parts _=>x.tmps++parts.flatMap (·.tmps)
 | .yy op=>op.tmps
def AOp.y8:AOp->List Nat
 | .nilo id _ _| .ldo id _ _ _| .sto id _ _ _| .ixo id _ _ _| .boxo id _| .alo id _| .bso id _ _ _| .leno id _| .app id _ _ _ _ _=>[id]
 | .call _ _ ids=>ids
 | .y2 _ _ ids id=>id::ids
 | .y1 _ _ ids=>ids
 | .yx _ _ _ id=>[id]
 | .yw _ _ id=>[id]
 | .yu _ _ id=>[id]
 | .yz _ _ ids=>ids
 | .cpy id _ _=>[id]
 | .y3 _ _ ids=>ids
 | .yy op=>op.y8
 |_=>[]
def AOp.sets:AOp->List Nat
 | .nilo id _ _| .sto id _ _ _| .boxo id _| .alo id _| .bso id _ _ _| .app id _ _ _ _ _| .y2 _ _ _ id| .yx _ _ _ id| .yw _ _ id| .yu _ _ id| .cpy id _ _=>[id]
 | .yy op=>op.sets
 |_=>[]
def Opd.av_congr{lk lk':Nat->AV}{x:Opd}(h:∀t∈x.tmps,lk' t=lk t):x.av lk'=x.av lk:=by cases x<;>first|rfl|exact h _ (by simp[Opd.tmps])
def Qhg{lk lk':Nat->AV}{d:Nat}{x:Option Opd}(h:∀t∈QHD x,lk' t=lk t):Jf lk' d x=Jf lk d x:=by
 cases x with
 |none=>rfl
 |some x=>simp only[Jf,Opd.av_congr (x:=x) h]
theorem Q2{lk lk':Nat->AV}:∀{xs:List Opd},(∀t∈xs.flatMap (·.tmps),lk' t=lk t)->xs.map (·.av lk')=xs.map (·.av lk)
 |[],_=>rfl
 |x::r,h=>by simp only[QPb,QOc] at h;simp only[QOk,Opd.av_congr (x:=x) (λt ht=>h t (.inl ht)),Q2 (xs:=r) (λt ht=>h t (.inr ht))]
theorem Qcr{lk lk':Nat->AV}:∀{xs:List (Nat×Nat×Opd)},(∀t∈xs.flatMap (·.2.2.tmps),lk' t=lk t) ->
  (xs.map λ(o,s,x)=>(o,s,x.av lk'))=xs.map λ(o,s,x)=>(o,s,x.av lk)
 |[],_=>rfl
 |(o,s,x)::r,h=>by simp only[QPb,QOc] at h;simp only[QOk,Opd.av_congr (x:=x) (λt ht=>h t (.inl ht)),Qcr (xs:=r) (λt ht=>h t (.inr ht))]
def Qrq{lk lk':Nat->AV}{lo lo':Nat->Option AO}{op:YOp}(h:∀t∈op.tmps,lk' t=lk t)(h':∀i∈op.y8,lo' i=lo i):evY lk' lo' op=evY lk lo op:=by
 have one:∀x:Opd,(∀t∈x.tmps,t∈op.tmps)->x.av lk'=x.av lk:=λx hx=>Opd.av_congr λt ht=>h t (hx t ht);have lst:∀xs:List Opd,(∀t∈xs.flatMap (·.tmps),t∈op.tmps)->xs.map (·.av lk')=xs.map (·.av lk):=λxs hx=>Q2 λt ht=>h t (hx t ht);have obj:∀i∈op.y8,lo' i=lo i:=h';cases op with
 |no=>rfl
 |s2b id x=>simp only[evY,one x (by simp[YOp.tmps]),obj id (by simp[YOp.y8])]
 |b2so id x=>simp only[evY,one x (by simp[YOp.tmps]),obj id (by simp[YOp.y8])]
 |ldb id x=>simp only[evY,one x (by simp[YOp.tmps]),obj id (by simp[YOp.y8])]
 |r2s x=>simp only[evY,one x (by simp[YOp.tmps])]
 |rngs id x=>simp only[evY,one x (by simp[YOp.tmps]),obj id (by simp[YOp.y8])]
 |nxts id x=>simp only[evY,one x (by simp[YOp.tmps]),obj id (by simp[YOp.y8])]
 |rngm id x=>simp only[evY,one x (by simp[YOp.tmps]),obj id (by simp[YOp.y8])]
 |ent id x=>simp only[evY,one x (by simp[YOp.tmps]),obj id (by simp[YOp.y8])]
 |ixb id x y=>simp only[evY,one x (by simp +contextual [YOp.tmps]),one y (by simp +contextual [YOp.tmps]),obj id (by simp[YOp.y8])]
 |stb id x y=>simp only[evY,one x (by simp +contextual [YOp.tmps]),one y (by simp +contextual [YOp.tmps]),obj id (by simp[YOp.y8])]
 |mx mn x y=>simp only[evY,one x (by simp +contextual [YOp.tmps]),one y (by simp +contextual [YOp.tmps])]
 |ixg len x y=>simp only[evY,one x (by simp +contextual [YOp.tmps]),one y (by simp +contextual [YOp.tmps])]
 |lkr id kk x y=>simp only[evY,one x (by simp +contextual [YOp.tmps]),one y (by simp +contextual [YOp.tmps]),obj id (by simp[YOp.y8])]
 |mks id e b zs n=>simp only[evY,lst zs (by simp +contextual [YOp.tmps]),one n (by simp +contextual [YOp.tmps]),obj id (by simp[YOp.y8])]
 |mkm id r=>simp only[evY,obj id (by simp[YOp.y8])]
 |lki kk z x k=>simp only[evY,one z (by simp +contextual [YOp.tmps]),one x (by simp +contextual [YOp.tmps]),one k (by simp +contextual [YOp.tmps])]
 |lkd id kk z x k=>simp only[evY,one z (by simp +contextual [YOp.tmps]),one x (by simp +contextual [YOp.tmps]),one k (by simp +contextual [YOp.tmps]),obj id (by simp[YOp.y8])]
 |mupd id kk x k v=>simp only[evY,one v (by simp +contextual [YOp.tmps]),one x (by simp +contextual [YOp.tmps]),one k (by simp +contextual [YOp.tmps]),obj id (by simp[YOp.y8])]
 |mupr id kk x k v=>simp only[evY,one v (by simp +contextual [YOp.tmps]),one x (by simp +contextual [YOp.tmps]),one k (by simp +contextual [YOp.tmps]),obj id (by simp[YOp.y8])]
 |neg x=>simp only[evY,one x (by simp[YOp.tmps])]
 |lenm x=>simp only[evY,one x (by simp[YOp.tmps])]
 |lenmo id x=>simp only[evY,one x (by simp[YOp.tmps]),obj id (by simp[YOp.y8])]
 |eqs n m x y=>simp only[evY,one x (by simp +contextual [YOp.tmps]),one y (by simp +contextual [YOp.tmps])]
 |ixa len sz x y=>simp only[evY,one x (by simp +contextual [YOp.tmps]),one y (by simp +contextual [YOp.tmps])]
 |zslv sz=>rfl
 |isn ne x=>simp only[evY,one x (by simp[YOp.tmps])]
 |lkc kk zs x y=>simp only[evY,lst zs (by simp +contextual [YOp.tmps]),one x (by simp +contextual [YOp.tmps]),one y (by simp +contextual [YOp.tmps])]
 |mkf g fs cs=>simp only[evY,lst fs (by simp +contextual [YOp.tmps]),lst cs (by simp +contextual [YOp.tmps])]
def QuQ{lk lk':Nat->AV}{lo lo':Nat->Option AO}{op:AOp}(h:∀t∈op.tmps,lk' t=lk t)(h':∀i∈op.y8,lo' i=lo i):ev lk' lo' op=ev lk lo op:=by
 have one:∀x:Opd,(∀t∈x.tmps,t∈op.tmps)->x.av lk'=x.av lk:=λx hx=>Opd.av_congr λt ht=>h t (hx t ht);have opt:∀d x,(∀t∈QHD x,t∈op.tmps)->Jf lk' d x=Jf lk d x:=λd x hx=>Qhg λt ht=>h t (hx t ht);have lst:∀xs:List Opd,(∀t∈xs.flatMap (·.tmps),t∈op.tmps)->xs.map (·.av lk')=xs.map (·.av lk):=λxs hx=>Q2 λt ht=>h t (hx t ht);have obj:∀i∈op.y8,lo' i=lo i:=h';cases op with
 |xg x=>simp only[ev,one x (by simp[AOp.tmps])]
 |nilo id e sz=>simp only[ev,obj id (by simp[AOp.y8])]
 |pick c x y=>simp only[ev,one c (by simp +contextual [AOp.tmps]),one x (by simp +contextual [AOp.tmps]),one y (by simp +contextual [AOp.tmps])]
 |ext x i=>simp only[ev,one x (by simp[AOp.tmps])]
 |not x=>simp only[ev,one x (by simp[AOp.tmps])]
 |bin o x y=>simp only[ev,one x (by simp +contextual [AOp.tmps]),one y (by simp +contextual [AOp.tmps])]
 |cvi k x=>simp only[ev,one x (by simp[AOp.tmps])]
 |b2s x=>simp only[ev,one x (by simp[AOp.tmps])]
 |i2s x=>simp only[ev,one x (by simp[AOp.tmps])]
 |nilc x=>simp only[ev,one x (by simp[AOp.tmps])]
 |fld o x=>simp only[ev,one x (by simp[AOp.tmps])]
 |ldi n ag x=>simp only[ev,one x (by simp[AOp.tmps])]
 |ldo id n ag x=>simp only[ev,one x (by simp[AOp.tmps]),Qoy,obj id (by simp[AOp.y8])]
 |sto id n x y=>simp only[ev,one x (by simp +contextual [AOp.tmps]),one y (by simp +contextual [AOp.tmps]),Qov,obj id (by simp[AOp.y8])]
 |ixi sz x i=>simp only[ev,one x (by simp +contextual [AOp.tmps]),one i (by simp +contextual [AOp.tmps])]
 |ixo id sz x i=>simp only[ev,one x (by simp +contextual [AOp.tmps]),one i (by simp +contextual [AOp.tmps]),Qoz,obj id (by simp[AOp.y8])]
 |ixs x i=>simp only[ev,one x (by simp +contextual [AOp.tmps]),one i (by simp +contextual [AOp.tmps])]
 |sli sz x l r=>simp only[ev,one x (by simp +contextual [AOp.tmps]),Qox,λd=>opt d l (by simp +contextual [AOp.tmps]),λd=>opt d r (by simp +contextual [AOp.tmps])]
 |sls x l r=>simp only[ev,one x (by simp +contextual [AOp.tmps]),Qow,λd=>opt d l (by simp +contextual [AOp.tmps]),λd=>opt d r (by simp +contextual [AOp.tmps])]
 |boxi x=>simp only[ev,one x (by simp[AOp.tmps])]
 |boxo id x=>simp only[ev,one x (by simp[AOp.tmps]),QeH,obj id (by simp[AOp.y8])]
 |alo id zs=>simp only[ev,lst zs (by simp[AOp.tmps]),obj id (by simp[AOp.y8])]
 |bld zs parts=>have hp:=Qcr (lk:=lk) (lk':=lk') (xs:=parts) λt ht=>h t (by simp only[AOp.tmps,QOc];exact .inr ht);simp only[ev,lst zs (by simp +contextual [AOp.tmps]),hp]
 |bsl sz parts=>simp only[ev,lst parts (by simp[AOp.tmps])]
 |bso id e sz parts=>simp only[ev,lst parts (by simp[AOp.tmps]),obj id (by simp[AOp.y8])]
 |len x=>simp only[ev,one x (by simp[AOp.tmps])]
 |leno id x=>simp only[ev,one x (by simp[AOp.tmps]),QeG,obj id (by simp[AOp.y8])]
 |lst x=>simp only[ev,one x (by simp[AOp.tmps])]
 |app id e sz bytes x y=>simp only[ev,one x (by simp +contextual [AOp.tmps]),one y (by simp +contextual [AOp.tmps]),WG,obj id (by simp[AOp.y8])]
 |call f args ids=>simp only[ev]
 |y2 f args ids id=>simp only[ev]
 |y1 x args ids=>simp only[ev]
 |yx f x args id=>simp only[ev]
 |yw x args id=>simp only[ev]
 |yu f args id=>simp only[ev]
 |yz f args ids=>simp only[ev]
 |cpy id x y=>simp only[ev]
 |y3 x args ids=>simp only[ev]
 |yy op=>simp only[ev,Qrq (op:=op) (λt ht=>h t (by simpa[AOp.tmps] using ht)) (λi hi=>h' i (by simpa[AOp.y8] using hi))]
def Good(P:Program)(K:World->Prop)(f:FuncId)(args:List IV)(r:IV):Prop:=∀(w:World)(ok:Nat->Prop)(vs:List Value),K w->(∀b,w.heap.size<=b->ok b)->vs.length=args.length ->(∀(k:Nat)x u,args[k]?=some x->vs[k]?=some u->QZ ok w x u) ->Calls P f vs.toArray w (λe w'=>∃v,e=.returned v/\QZ ok w' r v/\Below w.heap.size w w')
mutual
def ren(j:Nat):AV->AV
 | .iv x=>.iv x
 | .agg cs=>.agg (renL j cs)
 | .loc _ off=>.loc j off
 | .yj _ n i off=>.yj j n i off
 | .yl _ n=>.yl j n
 | .yn _ k n=>.yn j k n
 | .ym sz=>.ym sz
 | .zsl sz=>.zsl sz
 | .yk _=>.yk j
 | .yr _ i=>.yr j i
 | .clo _ _ _=>.iv .any
 | .cb _=>.iv .any
 | .xf _=>.iv .any
def renL(j:Nat):List AV->List AV
 |[]=>[]
 |x::r=>ren j x::renL j r
end
def one(ob:AO):Nat->Option AO:=λi=>if i=0 then some ob else none
def ZG(e:TypeId)(sz:Nat)(rows:List (List IV))(mv:Nat):AO:=.arr e sz (rows.map (List.map AV.iv)) mv
def QdU(P:Program)(K:World->Prop)(f:FuncId)(args:List IV)(q:AV)(e:TypeId)(sz:Nat)(rows:List (List IV))(mv:Nat):Prop:=∀(w:World)(ok:Nat->Prop)(vs:List Value),K w->(∀b,w.heap.size<=b->ok b)->vs.length=args.length ->(∀(k:Nat)x u,args[k]?=some x->vs[k]?=some u->QZ ok w x u) ->Calls P f vs.toArray w (λx w'=>∃v l,x=.returned v/\QK (λb=>b<w.heap.size) (okL ok (one (ZG e sz rows mv)) (λ_=>l)) w' (one (ZG e sz rows mv)) (λ_=>l) (ZG e sz rows mv) l /\
   QG (okL ok (one (ZG e sz rows mv)) (λ_=>l)) w' (one (ZG e sz rows mv)) (λ_=>l) (ren 0 q) v/\Below w.heap.size w w')
mutual
theorem Qfl{ok ok' w lo lo' L L' i j ob}(hok:∀b,ok b->ok' b)(h1:lo i=some ob)(h2:lo' j=some ob)(h3:L' j=L i):
  ∀{x v},QG ok w lo L (ren i x) v->QG ok' w lo' L' (ren j x) v
 | .iv x,v,h=>by
   cases h with
   |iv _ _ r=>exact .iv _ _ (r.mono λb hb _=>⟨hok b hb,rfl⟩)
 | .agg cs,v,h=>by
   simp only[ren] at h |-;cases h with
   |agg _ vs hl hc hx=>have⟨h4,h5⟩:=renL_rep hok h1 h2 h3 (cs:=cs) hl hx;exact .agg _ vs h4 hc h5
 | .loc id off,v,h=>by
   simp only[ren] at h |-
   grind
 | .yl id n,v,h=>by
   simp only[ren] at h |-
   grind
 | .yj id n k off,v,h=>by
   simp only[ren] at h |-
   grind
 | .ym sz,v,h=>by
   simp only[ren] at h |-;cases h with
   |ym=>exact .ym sz
 | .zsl sz,v,h=>by
   simp only[ren] at h |-;cases h with
   |zsl _ _ h=>exact .zsl sz v h
 | .yn id k n,v,h=>by
   simp only[ren] at h |-
   grind
 | .yk id,v,h=>by
   simp only[ren] at h |-
   grind
 | .yr id i,v,h=>by
   simp only[ren] at h |-
   grind
 | .clo g fs cs,v,h=>.iv _ _ (.any _)
 | .cb id,v,h=>.iv _ _ (.any _)
 | .xf cs,v,h=>.iv _ _ (.any _)
theorem renL_rep{ok ok' w lo lo' L L' i j ob}(hok:∀b,ok b->ok' b)(h1:lo i=some ob)(h2:lo' j=some ob)(h3:L' j=L i):∀{cs:List AV}{vs:List Value},vs.length=(renL i cs).length->(∀(k:Nat)x u,(renL i cs)[k]?=some x->vs[k]?=some u->QG ok w lo L x u) ->
   vs.length=(renL j cs).length/\∀(k:Nat)x u,(renL j cs)[k]?=some x->vs[k]?=some u->QG ok' w lo' L' x u
 |[],vs,hl,_=>⟨by simpa[renL] using hl,by simp[renL]⟩
 |x::r,[],hl,_=>by simp[renL] at hl
 |x::r,v::vs,hl,hx=>by
  obtain⟨h4,h5⟩:=renL_rep hok h1 h2 h3 (cs:=r) (vs:=vs) (by simpa[renL] using hl) (λk y u hy hu=>hx (k+1) y u (by simpa[renL] using hy) (by simpa using hu));refine⟨by simp[renL,h4],λk y u hy hu=>?_⟩;cases k with
  |zero=>simp[renL] at hy hu;subst hy hu;exact Qfl hok h1 h2 h3 (hx 0 (ren i x) v (by simp[renL]) (by simp))
  |succ k=>exact h5 k y u (by simpa[renL] using hy) (by simpa using hu)
end
def Qms{B B' ok ok' w lo lo' L L' e sz rows mv l}(hB:∀b,¬B b->¬B' b)(hok:∀b,ok b->ok' b)
  (h:QK B ok w lo L (ZG e sz rows mv) l):QK B' ok' w lo' L' (ZG e sz rows mv) l:=by
 unfold ZG at *;cases l with
 |box b=>exact h
 |one b=>exact h
 |map b vals=>exact h
 |ext O D=>exact h
 |arr v xs=>
  have⟨h1,h2,h3,h4,h5⟩:=h;refine⟨⟨h1.own,λb hb=>hB b (h1.free b hb)⟩,h2,h3,h4,λi j c x u hi hj hu=>?_⟩;have:=h5 i j c x u hi hj hu;rw[QN6,QN2] at hi;obtain⟨d,_,rfl⟩:=hi;rw[QN6,QN2] at hj;obtain⟨y,_,rfl⟩:=hj;cases this with
  |iv _ _ r=>exact .iv _ _ (r.mono λb hb _=>⟨hok b hb,rfl⟩)
mutual
def imm(lo:Nat->Option AO):Nat->AV->Option IV
 |0,_=>none
 |_+1,.iv x=>some x
 |n+1,.agg cs=>(imms lo n cs).map .agg
 |n+1,.loc id off=>match lo id with
  |some (.box cs)=>(imms lo n cs).map λxs=>.ptr (xs.drop off)
  |_=>none
 |n+1,.yl id m=>match lo id with
  |some (.arr _ sz es mv)=>if mv<=m/\m<=es.length then(immss lo n (es.take m)).map (.sl sz) else none
  |_=>none
 |_+1,.yj _ _ _ _=>none
 |_+1,.yn _ _ _=>none
 |_+1,.ym sz=>some (.sl sz [])
 |_+1,.zsl sz=>some (.sl sz [])
 |_+1,.yr _ _=>none
 |_+1,.yk id=>match lo id with
  |some (.xh kvs)=>some (.map kvs)
  |some (.yo _ sz kvs pend)=>if pend=none then some (.map (kvs.map λp=>(p.1,.sl sz p.2))) else none
  |_=>none
 |n+1,.clo g fs cs=>match imms lo n fs,imms lo n cs with
  |some ys,some zs=>some (.clo g ys zs)
  |_,_=>none
 |_+1,.cb _=>none
 |n+1,.xf cs=>(imms lo n cs).map .xf
def imms(lo:Nat->Option AO):Nat->List AV->Option (List IV)
 |0,_=>none
 |_+1,[]=>some []
 |n+1,x::r=>match imm lo n x,imms lo n r with
  |some y,some ys=>some (y::ys)
  |_,_=>none
def immss(lo:Nat->Option AO):Nat->List (List AV)->Option (List (List IV))
 |0,_=>none
 |_+1,rows=>Qhx rows
end
mutual
def Zh:IV->Bool
 | .any| .bool _| .int _ _| .str _| .nilp=>true
 | .xf cs=>scalars cs
 |_=>false
def scalars:List IV->Bool
 |[]=>true
 |x::r=>Zh x&&scalars r
end
def Qbg(lo:Nat->Option AO)(ids:List Nat)(xs:List AV):Option (List IV):=
 match ids with
 |[]=>ivs xs
 |_=>imms (λi=>if ids.contains i then lo i else none) 40 xs
section
variable{P:Program}{K:World->Prop}{ok0:Nat->Prop}{N:Fm}{w0:XS}{lk:Nat->AV}{lo:Nat->Option AO}{a:Act}{w:World}{L:Nat->Lay}{o:Oper}
variable{s f:Prop}{v:AV}{up:Option (Nat×AO)}
def QuR{op id ob}(he:evY lk lo op=.ok s f v (some (id,ob))):id∈op.sets:=by
 cases op<;>simp only[evY] at he<;>simp only[YOp.sets] <;>
  (repeat' (split at he)) <;>
  first
   |(cases he;done)
   |(injection he with _ _ _ e;injection e with e;injection e with e _;simp[e])
def QAN{op id ob}(he:ev lk lo op=.ok s f v (some (id,ob))):id∈op.sets:=by
 by_cases hy:∃y,op=.yy y
 .obtain⟨y,rfl⟩:=hy;exact QuR he
 have hy':∀y,op≠.yy y:=λy e=>hy ⟨y,e⟩;clear hy
 cases op<;>simp only[ev] at he<;>simp only[AOp.sets]<;>(try exact absurd rfl (hy' _)) <;>
  (try simp only[Qh4,QoB,Qrr,Qry,QuS,QGr,Qrx,QGq,Qrz,Qrw,Qh5,QoA,Qf0,Qoy,Qov,Qrv,Qoz,Qru,Qox,Qow,Qh6,QeH,Qrt,QeG,Qrs,WG] at he) <;>
  (repeat' (split at he)) <;>
  first
   |(cases he;done)
   |(injection he with _ _ _ e;injection e with e;injection e with e _;simp[e])
def Qqh{ok1}(h:Rel ok0 N w0 lk lo a w L)(hsub:∀b,okL ok0 lo L b->ok1 b){id n e sz mv es ys vv}
  (hob:lo id=some (.arr e sz es mv))(hblk:∀b,(L id).has b->ok1 b)(hmv:mv<=n)(hn:n<=es.length)(hys:es.take n=ys.map (List.map AV.iv))(hr:QG (okL ok0 lo L) w lo L (.yl id n) vv):QZ ok1 w (.sl sz ys) vv:=by
 have hor:=h.y8 _ _ hob;have hyl:ys.length=n:=by have:=congrArg List.length hys;simp at this;omega
 have fin:∀b cap v xs,L id=.arr v xs->vv=.slice (some ⟨b,0,none⟩) n cap->n<=cap->cap<=maxLen ->
   (∀k,k<n*sz->(okL ok0 lo L b\/v.ownBlock=some b)/\∃u,w.cell? ⟨b,k,none⟩=some u/\xs[k]?=some u)->QZ ok1 w (.sl sz ys) vv:=by
  intro b cap v xs hL hvv hnc hcm hcells;rw[hL] at hor;have⟨hown,hmv2,hsz,h1,hxx⟩:=hor;have hys2:∀(i:Nat)(c:List IV),ys[i]?=some c->es[i]?=some (c.map AV.iv):=by
   intro i c hc;have:(es.take n)[i]?=some (c.map AV.iv):=by rw[hys];simp[hc]
   grind
  have hcl:∀c∈ys,c.length=sz:=by intro c hc;have⟨i,hi⟩:=QOF hc;have:=hsz _ (QOh (hys2 i c hi));simpa using this
  rw[hvv,<- hyl];refine .sl sz ys b 0 cap (λk=>xs.getD k undef) (by omega) hcm hcl (λk hk=>?_) (λi j c x hi hj=>?_)
  .grind
  have hil:i<n:=by rw[<- hyl];exact(QNY.1 hi).1
  have hjl:j<sz:=by grind
  have⟨_,u,_,hx⟩:=hcells (i*sz+j) (QcQ hil hjl);have e:xs.getD (i*sz+j) undef=u:=by simp[List.getD,hx]
  rw[e];have:=hxx i j _ (.iv x) u (hys2 i c hi) (by simp[hj]) hx;cases this with
  |iv _ _ r=>exact r.mono λb hb _=>⟨hsub b hb,rfl⟩
 have nil:n=0->vv=.slice none 0 0->QZ ok1 w (.sl sz ys) vv:=by intro h0 hv;have:ys=[]:=QN4 (by omega);rw[this,hv];exact .nils sz
 generalize hq:AV.yl id n=q at hr;cases hr with
 |yl i2 e2 sz2 es2 mv2 v2 xs hob2 hL hsl=>
  injection hq with hq1 hq2;subst hq1;rw[hob] at hob2;injection hob2 with hob2;injection hob2 with g1 g2 g3 g4;subst g1 g2 g3 g4;have hor':=hor;rw[hL] at hor';have⟨hown,_⟩:=hor';rcases hown.own.2 with ⟨hv',h00⟩|⟨g,cap,cur,hv',hB,hgg,hnc,hcm,hcs',htake⟩
  .exact nil (by omega) hv'
  refine fin g cap _ xs hL (by rw[hq2];exact hv') (by omega) hcm λk hk=>⟨.inr (by rw[hv'];rfl),?_⟩;have hk':k<xs.length:=by rw[hown.own.1,<- hq2];exact hk
  refine⟨xs[k],?_,QNX hk'⟩;have:=hown.own.cells (g:=g) (by rw[hv'];rfl) k xs[k] (QNX hk')
  rwa [addr_add,QOn] at this
 |_=>grind
def Qmq{ok0 Fr w e sz v xs rows}(h:YK Fr w e sz v rows.length xs)(hok:∀b,v.ownBlock=some b->ok0 b)
  (hsz:∀c∈rows,c.length=sz)(h1:∀u∈xs,u.oneCell'=true)
  (hx:∀i j c x u,rows[i]?=some c->c[j]?=some x->xs[i*sz+j]?=some u->QZ ok0 w x u):QZ ok0 w (.sl sz rows) v:=by
 rcases h.own.2 with ⟨hv,h0⟩|⟨g,cap,cur,hv,_,hg,hn,hc,hcs,htake⟩
 .have:rows=[]:=QN4 h0;subst this hv;exact .nils sz
 .have hgb:v.ownBlock=some g:=by rw[hv];rfl
  have hxl:=h.own.1;rw[hv];refine .sl sz rows g 0 cap (λk=>xs.getD k undef) hn hc hsz (λk hk=>?_) (λi j c x hi hj=>?_)
  .have hk':k<xs.length:=by omega
   have e:xs.getD k undef=xs[k]:=by simp[List.getD,hk']
   rw[e];refine⟨hok g hgb,?_,h1 _ (QN0 hk')⟩;have:=h.own.cells hgb k xs[k] (QNX hk')
   rwa [addr_add] at this
  .have hil:i<rows.length:=(QNY.1 hi).1;have hjl:j<sz:=by grind
   have hk':i*sz+j<xs.length:=by rw[hxl];exact QcQ hil hjl
   grind
def Yj{ok1}(h:Rel ok0 N w0 lk lo a w L)(hsub:∀b,okL ok0 lo L b->ok1 b){lo'}(xc:∀id o,lo' id=some o->lo id=some o)(hown:∀id o b,lo' id=some o->(L id).has b->ok1 b):∀n,(∀x v y,QG (okL ok0 lo L) w lo L x v->imm lo' n x=some y->QZ ok1 w y v) /\(∀(cs:List AV)(ys:List IV),imms lo' n cs=some ys->ys.length=cs.length/\∀(k:Nat)(x:AV)(y:IV)(v:Value),cs[k]?=some x->ys[k]?=some y->QG (okL ok0 lo L) w lo L x v->QZ ok1 w y v):=by
 intro n;induction n with
 |zero=>exact⟨λx v y _ hi=>by simp[imm] at hi,λcs ys hi=>by simp[imms] at hi⟩
 |succ n ih=>
  refine⟨λx v y hr hi=>?_,λcs ys hi=>?_⟩
  .cases x with
   |iv z=>
    simp only[imm,Option.some.injEq] at hi;subst hi;cases hr with
    |iv _ _ r=>exact r.mono λb hb _=>⟨hsub b hb,rfl⟩
   |agg cs=>
    simp only[imm,QN2] at hi;obtain⟨ys,hys,rfl⟩:=hi;have⟨hl,hx⟩:=ih.2 cs ys hys;cases hr with
    |agg _ vs hvl h1 hxx=>
     refine .agg ys vs (by omega) h1 λk y u hy hu=>?_;have hk:k<cs.length:=by rw[<- hl];exact(QNY.1 hy).1
     exact hx k cs[k] y u (QNX hk) hy (hxx k _ u (QNX hk) hu)
   |loc id off=>
    simp only[imm] at hi;split at hi
    .rename_i cs hcs;simp only[QN2] at hi;obtain⟨ys,hys,rfl⟩:=hi;have⟨hl,hx⟩:=ih.2 cs ys hys;have hob:=h.y8 _ _ (xc _ _ hcs);cases hr with
     |loc _ _ cs' b hob' hL=>
      rw[hL] at hob;have⟨hB,ty,vs,hb,hvl,h1,hxx⟩:=hob;refine .ptr _ b off (λk=>vs.getD (off+k) undef) (λk hk=>?_) (λk y hy=>?_)
      .have hk':off+k<vs.length:=by simp at hk;omega
       refine⟨hown _ _ b hcs (by rw[hL];rfl),?_,h1 _ (QOh (getD_some (d:=undef) hk'))⟩;rw[cell_of_row _ _ _ _ ty (0,0) hb];simpa using getD_some (d:=undef) hk'
      rw[QPy] at hy;have hk:off+k<cs.length:=by rw[<- hl];exact(QNY.1 hy).1
      have hk':off+k<vs.length:=by omega
      exact hx _ cs[off+k] y _ (QNX hk) hy (hxx _ _ _ (QNX hk) (getD_some hk'))
    cases hi
   |yj=>simp[imm] at hi
   |yn=>simp[imm] at hi
   |ym sz=>
    simp only[imm,Option.some.injEq] at hi;subst hi;cases hr with
    |ym=>exact .nils sz
   |zsl sz=>
    simp only[imm,Option.some.injEq] at hi;subst hi;cases hr with
    |zsl _ _ h=>
     obtain⟨a,rfl⟩:=Qcv h;cases a with
     |none=>exact .nils sz
     |some a=>exact .nilz sz a
   |yr=>simp[imm] at hi
   |cb=>simp[imm] at hi
   |xf cs=>
    simp only[imm,QN2] at hi;obtain⟨ys,hys,rfl⟩:=hi;have⟨hl,hx⟩:=ih.2 cs ys hys;cases hr with
    |xf _ vs hvl hxx=>
     refine .xf ys vs (by omega) λk y u hy hu=>?_;have hk:k<cs.length:=by rw[<- hl];exact(QNY.1 hy).1
     exact hx k cs[k] y u (QNX hk) hy (hxx k _ u (QNX hk) hu)
   |clo g fs cs=>
    simp only[imm] at hi;split at hi
    .rename_i ys zs hys hzs;injection hi with hi;subst hi;have⟨hl,hx⟩:=ih.2 fs ys hys;have⟨hl2,hx2⟩:=ih.2 cs zs hzs;cases hr with
     |clo _ _ _ us vs h1 h2 hf hc=>
      refine .clo g ys zs us vs (by omega) (by omega) (λk y u hy hu=>?_) (λk y u hy hu=>?_)
      .have hk:k<fs.length:=by rw[<- hl];exact(QNY.1 hy).1
       exact hx k fs[k] y u (QNX hk) hy (hf k _ u (QNX hk) hu)
      have hk:k<cs.length:=by rw[<- hl2];exact(QNY.1 hy).1
      exact hx2 k cs[k] y u (QNX hk) hy (hc k _ u (QNX hk) hu)
    cases hi
   |yk id=>
    simp only[imm] at hi;split at hi
    .rename_i kvs hob;injection hi with hi;subst hi;have hob':=xc _ _ hob;have hor:=h.y8 _ _ hob';cases hr with
     |omap _ b kvs2 ho hL=>rw[hL] at hor;have⟨hB,es,clock,hb,hm,hd,hx⟩:=hor;exact .map kvs b es clock (hown _ _ b hob (by rw[hL];rfl)) hb hm hd λi e p h1 h2=>(hx i e p h1 h2).mono λb hb _=>⟨hsub b hb,rfl⟩
     |_=>grind
    .rename_i e sz kvs pend hob;split at hi
     .rename_i hpn;subst hpn;injection hi with hi;subst hi;have hob':=xc _ _ hob;have hor:=h.y8 _ _ hob';cases hr with
      |orow _ b e2 sz2 kvs2 pend2 vals ho hL=>
       rw[hL] at hor;have⟨hB,⟨es,clock,hb,m,hmn,hm,hnew,hval⟩,hd,hk,hrow,ha⟩:=hor;have hmk:m=kvs.length:=by
        rcases QPi m kvs.length with y9|hge
        .have:=hnew m _ (QNX y9) (QN3 _);cases this
        omega
       subst hmk;refine .map _ b es clock (hown _ _ b hob (by rw[hL];exact .inl rfl)) hb ?_ (λi j p q hp hq hpq=>?_) (λi e2 p he hp=>?_)
       .grind
       .grind
       rw[QN6,QN2] at hp;obtain⟨p',hp',rfl⟩:=hp;have hvl:vals.length=kvs.length:=by have:=congrArg List.length hk;simpa using this
       have hil:i<vals.length:=by rw[hvl];exact(QNY.1 hp').1
       have hq:=QNX hil;rw[hval i e2 _ he hq (by simp)];have⟨xs,h1,h2,h3,h4,h5⟩:=hrow i p' _ hp' hq;exact Qmq h1 (λb' hb'=>hown _ _ b' hob (by rw[hL];exact .inr ⟨_,QOh hq,hb'⟩)) h3 h4 λi j c x u a1 a2 a3=>(h5 i j c x u a1 a2 a3).mono λb hb _=>⟨hsub b hb,rfl⟩
      |_=>grind
     cases hi
    cases hi
   |yl id m=>
    simp only[imm] at hi;split at hi
    .rename_i e sz es mv hob;split at hi
     .rename_i hm;simp only[QN2] at hi;obtain⟨ys,hys,rfl⟩:=hi;cases n with
      |zero=>simp[immss] at hys
      |succ n=>simp only[immss] at hys;exact Qqh h hsub (xc _ _ hob) (λb hb=>hown _ _ b hob hb) hm.1 hm.2 (Uk hys) hr
     cases hi
    cases hi
  .cases cs with
   |nil=>simp only[imms,Option.some.injEq] at hi;subst hi;exact⟨rfl,by simp⟩
   |cons x r=>
    simp only[imms] at hi;split at hi
    .rename_i y ys' h1 h2;injection hi with hi;subst hi;have⟨hl,hx⟩:=ih.2 r ys' h2;refine⟨by simp[hl],λk z y' v hz hy hr=>?_⟩;cases k with
     |_=>grind
    .cases hi
def QhG(h:Rel ok0 N w0 lk lo a w L)(hok0:∀b,¬w0.fr b->ok0 b){lo'}(xc:∀id o,lo' id=some o->lo id=some o):∀n,(∀x v y,QG (okL ok0 lo L) w lo L x v->imm lo' n x=some y->QZ ok0 w y v) /\(∀(cs:List AV)(ys:List IV),imms lo' n cs=some ys->ys.length=cs.length/\∀(k:Nat)(x:AV)(y:IV)(v:Value),cs[k]?=some x->ys[k]?=some y->QG (okL ok0 lo L) w lo L x v->QZ ok0 w y v):=Yj h (λ_ h=>h.1) xc (λid o b ho hb=>hok0 b ((h.y8 id o (xc id o ho)).lt hb).1)
mutual
theorem Y3{ok ok'}:∀{x v},Zh x=true->QZ ok w x v->QZ ok' w x v
 | .any,_,_,h=>by cases h;exact .any _
 | .bool _,_,_,h=>by cases h;exact .bool _
 | .int _ _,_,_,h=>by cases h;exact .int _ _
 | .str _,_,_,h=>by cases h;exact .str _
 | .nilp,_,_,h=>by cases h;exact .nilp
 | .sl _ _,_,hs,_=>by simp[Zh] at hs
 | .ptr _,_,hs,_=>by simp[Zh] at hs
 | .agg _,_,hs,_=>by simp[Zh] at hs
 | .xf cs,_,hs,h=>by
   simp only[Zh] at hs;cases h with
   |xf _ vs hl hx=>exact .xf cs vs hl λk x u h1 h2=>scalars_rep hs k x u h1 (hx k x u h1 h2)
theorem scalars_rep{ok ok':Nat->Prop}:∀{cs:List IV},scalars cs=true->∀(k:Nat)x u,cs[k]?=some x->QZ ok w x u->QZ ok' w x u
 |[],_,k,x,u,h,_=>by simp at h
 |y::r,hs,k,x,u,h,hr=>by
  simp only[scalars,QNZ] at hs;cases k with
  |zero=>simp at h;subst h;exact Y3 hs.1 hr
  |succ k=>exact scalars_rep hs.2 k x u (by simpa using h) hr
end
theorem Xm(h:Rel ok0 N w0 lk lo a w L):∀{xs}{ys:List Operand},VA xs ys=true->ys.length=xs.length /\
  ∀(k:Nat)x u,(xs.map (·.av lk))[k]?=some x->(ys.map a.eval)[k]?=some u->QG (okL ok0 lo L) w lo L x u
 |[],[],_=>by simp
 |x::r,y::t,hi=>by
  simp only[VA,QNZ] at hi;have⟨hl,hx⟩:=Xm h hi.2;refine⟨by simp[hl],λk z u hz hu=>?_⟩;cases k with
  |zero=>simp at hz hu;subst hz hu;exact Opd.rep h hi.1
  |succ k=>exact hx k z u (by simpa using hz) (by simpa using hu)
 |[],_::_,hi=>by simp[VA] at hi
 |_::_,[],hi=>by simp[VA] at hi
def Qr2{x g args ids}(h:Rel ok0 N w0 lk lo a w L)(hf:AOp.fits P (.y1 x args ids) o.op=true)(hx:x.av lk=.iv (.fn g))(hc:callee P g=true):∃az:List Operand,VA args az=true/\(execOp a.eval o).run P w=.ok (.enter g (az.map a.eval).toArray) w:=by
 simp only[AOp.fits] at hf;unfold Qh3 at hf;split at hf
 .rename_i m az ts ho;simp only[QNZ] at hf;have⟨hxm,ha⟩:=hf;refine⟨az.toList,ha,?_⟩;have hxm':x.is (.tmp m)=true:=hxm;have rx:=Opd.rep h hxm';rw[hx] at rx;generalize hey:a.eval (.tmp m)=yv at rx;have hyv:yv=.func (.func g) #[] #[]:=by
   cases rx with
   |iv _ _ r=>cases r;rfl
  subst hyv;unfold callee at hc;split at hc
  .rename_i fn hfn;simp only[QNZ,QOD,beq_eq_false_iff_ne,ne_eq] at hc;have⟨hb,hn⟩:=hc;have hb':fn.body≠none:=by cases h:fn.body<;>simp_all
   simp[execOp,ho,resolve,hey,Deferred.ofValue,invoke,callFunc,program,Sem.run,hfn,hn,hb'];apply Array.ext';simp
  cases hc
 .cases hf
def WL{x args}{op:Op}{ids}(hf:AOp.fits P (.y1 x args ids) op=true):∃(m:Nat)(az:Array Operand)(ts:Array TypeId),op=.call { callee:=.value (.tmp m),args:=az,argTypes:=ts }/\x.is (.tmp m)=true/\VA args az.toList=true:=by
 simp only[AOp.fits] at hf;unfold Qh3 at hf;split at hf
 .rename_i m az ts;simp only[QNZ] at hf;exact⟨m,az,ts,rfl,hf.1,hf.2⟩
 .cases hf
def qF{g args ids}(hf:AOp.fits P (.call g args ids) o.op=true):∃az:List Operand,VA args az=true/\(execOp a.eval o).run P w=.ok (.enter g (az.map a.eval).toArray) w:=by
 simp only[AOp.fits] at hf;unfold Qot at hf;split at hf
 .rename_i f' az ts ho;simp only[QNZ,beq_iff_eq] at hf;obtain⟨⟨rfl,ha⟩,hc⟩:=hf;refine⟨az.toList,ha,?_⟩;unfold callee at hc;split at hc
  .rename_i fn hfn;simp only[QNZ,QOD,beq_eq_false_iff_ne,ne_eq] at hc;have⟨hb,hn⟩:=hc;have hb':fn.body≠none:=by cases h:fn.body<;>simp_all
   simp[execOp,ho,resolve,Deferred.ofValue,invoke,callFunc,program,Sem.run,hfn,hn,Act.eval,hb'];apply Array.ext';simp
  cases hc
 .cases hf
end
def QaG(P:Program)(K:World->Prop)(f:FuncId)(e:TypeId)(sz:Nat)(rows:List (List IV))(args:List IV)(rows':List (List IV)):Prop:=∀(w:World)(ok:Nat->Prop)(v0:Value)(xs vs:List Value),(∀w',Zv (Fr0 w v0) w w'->K w')->(∀b,w.heap.size<=b->ok b) ->w.ownsRow 0 e sz v0 rows.length xs->(∀c∈rows,c.length=sz)->(∀u∈xs,u.oneCell'=true) ->(∀(i j:Nat)c x u,rows[i]?=some c->c[j]?=some x->xs[i*sz+j]?=some u->QZ (λb=>ok b/\v0.ownBlock≠some b) w x u) ->
  vs.length=args.length->(∀(k:Nat)x u,args[k]?=some x->vs[k]?=some u->QZ (λb=>ok b/\v0.ownBlock≠some b) w x u) ->
  Calls P f (v0::vs).toArray w (λx w'=>∃v' xs',x=.returned v'/\UA w ok e sz rows v0 rows' v' xs' w')
section
variable{P:Program}{ok0:Nat->Prop}{N:Fm}{w0:XS}{lk:Nat->AV}{lo:Nat->Option AO}{a:Act}{w:World}{L:Nat->Lay}
def Um{id e sz mv rows v0 u xs ok}(hid:lo id=some (ZG e sz rows mv))(hL:L id=.arr v0 xs)(hr:QG ok w lo L (.yl id rows.length) u):u=v0:=by
 generalize hq:AV.yl id rows.length=q at hr;cases hr with
 |old i2 n2 e2 sz2 es2 mv2 v2 _ xs2 hob2 hL2 hsl hn2 hv=>injection hq with hq1 hq2;subst hq1 hq2;rw[hid] at hob2;injection hob2 with hob2;injection hob2 with g1 g2 g3 g4;subst g3;rw[QN9] at hn2;omega
 |_=>grind
def Qny{id mv e sz rows rows' v0 v' xs xs' w'}(h:Rel ok0 N w0 lk lo a w L)(hok0:∀b,¬w0.fr b->ok0 b)
  (hid:lo id=some (ZG e sz rows mv))(hL:L id=.arr v0 xs)(hr:UA w (okL ok0 lo L) e sz rows v0 rows' v' xs' w'):
  Rel ok0 N w0 lk (Zn lo id (ZG e sz rows' rows'.length)) a w' (Q7 L id (.arr v' xs')) /\
  QG (okL ok0 (Zn lo id (ZG e sz rows' rows'.length)) (Q7 L id (.arr v' xs'))) w' (Zn lo id (ZG e sz rows' rows'.length)) (Q7 L id (.arr v' xs')) (.yl id rows'.length) v':=by
 have hob:=h.y8 _ _ hid;rw[hL] at hob;have⟨hown,hmv,hsz,h1,hxx⟩:=hob;rw[QN9] at hown hmv;have h0:∀b,v0.ownBlock=some b->(L id).has b/\¬w0.fr b:=λb hb=>⟨by rw[hL];exact hb,hown.free b hb⟩;have hl':∀b,(Lay.arr v' xs').has b->(L id).has b\/w.heap.size<=b:=λb hb=>(hr.blk b hb).imp (λh=>(h0 b h).1) (λh=>h);have hg:Qix (L id).has w w':=⟨hr.keep.os,hr.keep.tape,hr.keep.output,hr.keep.size,λk hk hn=>hr.keep.block k ⟨hk,λe=>hn (h0 k e).1⟩⟩;have hlen':(rows'.map (List.map AV.iv)).length=rows'.length:=by simp
 have hlen:(rows.map (List.map AV.iv)).length=rows.length:=by simp
 have hsl':=Yz hr.own;have res:∀ok,QG ok w' (Zn lo id (ZG e sz rows' rows'.length)) (Q7 L id (.arr v' xs')) (.yl id rows'.length) v':=λok=>by
  have:=QG.yl (ok:=ok) (w:=w') (lo:=Zn lo id (ZG e sz rows' rows'.length)) (L:=Q7 L id (.arr v' xs')) id e sz (rows'.map (List.map AV.iv)) rows'.length v' xs' (by simp[Zn,ZG]) (by simp[Q7]) hsl'
  rwa [hlen'] at this
 refine⟨h.turn id hid hg hl' (λz u hz hu=>?_) (λ_=>?_),res _⟩
 .cases hu with
  |yl jj e2 sz2 es2 mv2 v2 xs2 ho' hL' hsl2=>
   have:jj=id:=by simpa[AV.refs] using hz
   subst this;rw[hid] at ho';injection ho' with ho';injection ho' with g1 g2 g3 g4;subst g1 g2 g3 g4;rw[hL] at hL';injection hL' with g1 g2;subst g1 g2;rw[hlen];by_cases hs:rows'.length=rows.length
   .have:=res (okL ok0 (Zn lo jj (ZG e sz rows' rows'.length)) (Q7 L jj (.arr v' xs')));rw[hs,hr.same hs] at this;rw[hr.same hs];rw[hs];exact this
   have hle:=hr.le;exact .old jj rows.length e sz (rows'.map (List.map AV.iv)) rows'.length v' v0 xs' (by simp[Zn,ZG]) (by simp[Q7]) hsl2 (by rw[hlen'];omega) (λhm=>by omega)
  |old jj n' e2 sz2 es2 mv2 v2 v2' xs2 ho' hL' hsl2 hn' hv2=>
   have:jj=id:=by simpa[AV.refs] using hz
   subst this;rw[hid] at ho';injection ho' with ho';injection ho' with g1 g2 g3 g4;subst g1 g2 g3 g4;rw[hlen] at hn';have hle:=hr.le;exact .old jj n' e sz (rows'.map (List.map AV.iv)) rows'.length v' _ xs' (by simp[Zn,ZG]) (by simp[Q7]) hsl2 (by rw[hlen'];omega) (λhm=>by omega)
  |yj jj n' i' off' e2 sz2 es2 mv2 v2 xs2 b2 ho' hL' hn' hv2=>
   have:jj=id:=by simpa[AV.refs] using hz
   subst this;rw[hid] at ho';injection ho' with ho';injection ho' with g1 g2 g3 g4;subst g1 g2 g3 g4;rw[hL] at hL';injection hL' with g1 g2;subst g1 g2;rw[hlen] at hn' hv2;have hle:=hr.le;refine .yj jj n' i' off' e sz (rows'.map (List.map AV.iv)) rows'.length v' xs' b2 (by simp[Zn,ZG]) (by simp[Q7]) (by rw[hlen'];omega) (λhm=>?_);have hs:rows'.length=rows.length:=by omega
   have hnr:n'=rows.length:=by omega
   obtain⟨k1,k2,k3⟩:=hv2 (by omega);have hb2:v'.ownBlock=some b2:=by rw[hr.same hs];exact k2 hnr
   refine⟨k1,λ_=>hb2,λk hk=>⟨.inr hb2,?_⟩⟩;have hk':k<xs'.length:=by rw[hr.own.1,hs,<- hnr];exact hk
   refine⟨xs'[k],?_,QNX hk'⟩;have:=hr.own.cells (g:=b2) hb2 k xs'[k] (QNX hk')
   rwa [addr_add,QOn] at this
  |_=>grind
 .refine⟨by rw[hlen'];exact⟨hr.own,λb hb=>(hr.blk b hb).elim (λh1=>hown.free b h1) (λh2=>h.frlt h2)⟩,by rw[hlen'];exact QN3 _,λc hc=>?_,hr.one,λi j c x u hi hj hu=>?_⟩
  .obtain⟨d,hd,rfl⟩:=QOb.1 hc;rw[QN9];exact hr.size d hd
  .rw[QN6,QN2] at hi;obtain⟨d,hd,rfl⟩:=hi;rw[QN6,QN2] at hj;obtain⟨y,hy,rfl⟩:=hj;exact .iv _ _ ((hr.cells i j d y u hd hy hu).mono λb hb _=>⟨QmE (l':=.arr v' xs') h hok0 hid h0 (λb hb=>.inl hb) hb,rfl⟩)
end
inductive Enters(P:Program):Value->List Value->World->Next->Prop
 |clo(g us cs vs w)(hc:callee P g=true):Enters P (.func (.func g) us.toArray cs.toArray) vs w (.enter g (us++vs++cs).toArray)
 |yield(l vs w f tmps az body)(h:(Instr.yield l vs.toArray).run P w=.ok (.round l f tmps az body) w):Enters P (.func (.yield l) #[] #[]) vs w (.round l f tmps az body)
def begun(P:Program)(c:Frame)(cs:List Frame)(w:World):Next->Machine
 | .enter f args=>lone (Frame.enter P f args .normal) (c::cs) w
 | .round l f tmps az body=>lone (Frame.round l f tmps az body .normal) (c::cs) w
 |_=>lone c cs w
def Ans(P:Program)(fv:Value)(vs:List Value)(w:World)(R:Value->World->Prop):Prop:=∃n,Enters P fv vs w n/\∀c cs,∃v w',R v w'/\Steps P (begun P c cs w n) (lone (c.finish v) cs w')
def Ans.mono{P fv vs w R R'}(h:Ans P fv vs w R)(hr:∀v w',R v w'->R' v w'):Ans P fv vs w R':=by have⟨n,h1,h2⟩:=h;refine⟨n,h1,λc cs=>?_⟩;have⟨v,w',h3,h4⟩:=h2 c cs;exact⟨v,w',hr _ _ h3,h4⟩
def Ans.of_calls{P g us cs vs w R}(hc:callee P g=true)
  (h:Calls P g (us++vs++cs).toArray w (λe w'=>∃v,e=.returned v/\R v w')):Ans P (.func (.func g) us.toArray cs.toArray) vs w R:=by
 refine⟨_,.clo g us cs vs w hc,λc fs=>?_⟩;obtain⟨e,w',fr,⟨v,rfl,hR⟩,h1,h2,h3⟩:=h (c::fs);exact⟨v,w',hR,Steps.trans h1 (.one (step_leave_returned h3))⟩
def Qdh{P:Program}{a:Act}{o:Oper}{m:Nat}{az:Array Operand}{ts:Array TypeId}{w:World}{fv:Value}{n:Next}(ho:o.op=.call { callee:=.value (.tmp m),args:=az,argTypes:=ts })
  (hv:a.eval (.tmp m)=fv)(h:Enters P fv (az.toList.map a.eval) w n):(execOp a.eval o).run P w=.ok n w:=by
 cases h with
 |clo g us cs _ _ hc=>
  unfold callee at hc;split at hc
  .rename_i fn hfn;simp only[QNZ,QOD,beq_eq_false_iff_ne,ne_eq] at hc;have⟨hb,hn⟩:=hc;have hb':fn.body≠none:=by cases h:fn.body<;>simp_all
   simp[execOp,ho,resolve,hv,Deferred.ofValue,invoke,callFunc,program,Sem.run,hfn,hn,hb']
  cases hc
 |yield l _ _ f tmps az' body h=>
  have e:(Array.map a.eval az)=((az.toList.map a.eval).toArray):=by apply Array.ext';simp
  simp[execOp,ho,resolve,hv,Deferred.ofValue,invoke];rw[e];exact h
def qL(P:Program)(ops:Array Oper)(i:Nat)(C:Act->World->Prop)(a:Act)(w:World):Prop:=∀(b:Frame)(rest:List Nat)(k:List Item)(cs:List Frame),∃a' w',C a' w'/\Steps P (lone (b.atR a (.inRegion ops (i::rest)::k)) cs w) (lone (b.atR a' (.inRegion ops rest::k)) cs w')
section
variable{P:Program}{ops:Array Oper}{C:Act->World->Prop}{a:Act}{w:World}{i:Nat}{o:Oper}
def qL.mono{C':Act->World->Prop}(h:∀a w,C a w->C' a w)(hh:qL P ops i C a w):qL P ops i C' a w:=λb rest k cs=>
 let⟨a',w',h1,h2⟩:=hh b rest k cs
 ⟨a',w',h _ _ h1,h2⟩
def QnS(ho:ops[i]?=none)(h:C a w):qL P ops i C a w:=λb rest k cs=>by have hs:=stepR_op_skip (P:=P) (b:=b) (a:=a) (k:=k) (cs:=cs) (w:=w) (ops:=ops) (i:=i) (rest:=rest) (by simp[ho]);simp only[ho,Option.bind_none,Act.put] at hs;exact⟨a,w,h,.one hs⟩
def QnR(ho:ops[i]?=some o)(hw:Region.wanted o (yielded ops a.tmps)=false)(h:C (a.put o.dst undef) w):qL P ops i C a w:=λb rest k cs=>by have hs:=stepR_op_skip (P:=P) (b:=b) (a:=a) (k:=k) (cs:=cs) (w:=w) (ops:=ops) (i:=i) (rest:=rest) (by simp[ho,hw]);simp only[ho,Option.bind_some] at hs;exact⟨_,w,h,.one hs⟩
def UB(ho:ops[i]?=some o)(hw:Region.wanted o (yielded ops a.tmps)=true)(hnd:∀c,o.op≠.defer c)(h:o.wp P a w C (λ_ _ _=>False)):qL P ops i C a w:=by
 intro b rest k cs;simp only[Oper.wp,Oper.upon] at h;have hg:=stepGR_op (P:=P) (b:=b) (k:=k) (cs:=cs) (w:=w) (rest:=rest) ho hw;rw[Oper.semAt_eq _ _ _ hnd] at hg;have hfin:∀v,(b.atR a (.inRegion ops (i::rest)::k)).finish v=b.atR (a.put o.dst v) (.inRegion ops rest::k):=by intro v;rw[Frame.finish_atR,ho];rfl
 split at h
 .rename_i v w' hr;refine⟨_,_,h,.one (step_lone_go ?_)⟩;rw[hg,<- hfin];simp[stepG.apply,hr]
 .rename_i w' hr;refine⟨_,_,h,.one (step_lone_go ?_)⟩;rw[hg,<- hfin];simp[stepG.apply,hr]
 .rename_i d w' hr;refine⟨_,_,h,.one (step_lone_go ?_)⟩
  have:({ b.atR a (.inRegion ops (i::rest)::k) with defers:=d::a.defers }:Frame).finish undef =
    b.atR ({ a with defers:=d::a.defers }.put o.dst undef) (.inRegion ops rest::k):=by
   have:=Frame.finish_atR b { a with defers:=d::a.defers } ops i rest k undef;rw[ho] at this;exact this
  rw[hg];simp only[stepG.apply,Sem.runT_eq,hr,GStep.bare_after];exact congrArg (λfr=>GStep.go { frame:=fr,callers:=cs,status:=.running,dying:=none } w') this
 .rename_i f args w' hr;have⟨e,w'',fr,hR,hsteps,_,hleave⟩:=h (b.atR a (.inRegion ops (i::rest)::k)::cs)
  have henter:step P (lone (b.atR a (.inRegion ops (i::rest)::k)) cs w) =
    .next (lone (Frame.enter P f args .normal) (b.atR a (.inRegion ops (i::rest)::k)::cs) w'):=
   step_lone_go (by rw[hg];simp[stepG.apply,hr,Frame.atR])
  cases e with
  |returned v=>refine⟨_,_,hR,.head henter (Steps.trans hsteps (.one ?_))⟩;rw[<- hfin];exact step_leave_returned hleave
  |panicked zc=>exact hR.elim
  |outgrown=>have⟨_,_,hq⟩:=hR;exact hq.elim
 .rename_i row args w' hr;have⟨v,w'',hR,hsteps⟩:=h (b.atR a (.inRegion ops (i::rest)::k)) cs
  have henter:step P (lone (b.atR a (.inRegion ops (i::rest)::k)) cs w) =
    .next (lone (Frame.ofRow P row args .normal) (b.atR a (.inRegion ops (i::rest)::k)::cs) w'):=
   step_lone_go (by rw[hg];simp[stepG.apply,hr,Frame.atR])
  refine⟨_,_,hR,.head henter ?_⟩;rw[<- hfin];exact hsteps
 .exact h.elim
 .exact h.elim
def QnT{m:Nat}{az:Array Operand}{ts:Array TypeId}{fv:Value}{R:Value->World->Prop}(ho:ops[i]?=some o)(hw:Region.wanted o (yielded ops a.tmps)=true)
  (hop:o.op=.call { callee:=.value (.tmp m),args:=az,argTypes:=ts })(hv:a.eval (.tmp m)=fv)(h:Ans P fv (az.toList.map a.eval) w R)(hC:∀v w',R v w'->C (a.put o.dst v) w'):qL P ops i C a w:=by
 intro b rest k cs;have⟨n,hen,hans⟩:=h;have hr:=Qdh hop hv hen;have hg:=stepGR_op (P:=P) (b:=b) (k:=k) (cs:=cs) (w:=w) (rest:=rest) ho hw;rw[Oper.semAt_eq _ _ _ (λc=>by rw[hop];simp)] at hg;have hfin:∀v,(b.atR a (.inRegion ops (i::rest)::k)).finish v=b.atR (a.put o.dst v) (.inRegion ops rest::k):=by intro v;rw[Frame.finish_atR,ho];rfl
 have⟨v,w',hR,hst⟩:=hans (b.atR a (.inRegion ops (i::rest)::k)) cs;refine⟨_,w',hC v w' hR,?_⟩;rw[hfin] at hst;refine .head ?_ hst;cases hen with
 |clo g us cs' _ _ hc=>exact step_lone_go (by rw[hg];simp[stepG.apply,hr,Frame.atR])
 |yield l _ _ f tmps az' body h=>exact step_lone_go (by rw[hg];simp[stepG.apply,hr])
def QdI(P:Program)(ops:Array Oper)(Q:Act->World->Prop):List Nat->Act->World->Prop
 |[]=>Q
 |i::r=>qL P ops i (QdI P ops Q r)
def QuF(P:Program)(md:Region.Mode)(ops:Array Oper)(Q:Act->World->Prop):Nat->Array Bool->Act->World->Prop
 |0,listed,a,w=>Region.ready md ops listed=[]/\Q a w
 |fuel+1,listed,a,w=>
  (Region.ready md ops listed=[]->Q a w) /\
  ∀i∈Region.ready md ops listed,qL P ops i (QuF P md ops Q fuel (listed.setIfInBounds i true)) a w
def Qj3{md:Region.Mode}{Q}:∀fuel t listed a w,QuF P md ops Q fuel listed a w ->QdI P ops Q (Region.linearise.go md ops fuel t listed []) a w:=by
 intro fuel;induction fuel with
 |zero=>intro t listed a w h;simpa[Region.linearise.go,QdI] using h.2
 |succ fuel ih=>
  intro t listed a w h;have⟨h₀,h₁⟩:=h;simp only[Region.linearise.go]
  change QdI P ops Q (match(Region.ready md ops listed)[t % (Region.ready md ops listed).length]? with
   |some i=>Region.linearise.go md ops fuel (t / (Region.ready md ops listed).length) (listed.setIfInBounds i true) [i]
   |none=>[].reverse) a w
  cases hi:(Region.ready md ops listed)[t % (Region.ready md ops listed).length]? with
  |none=>
   have hnil:Region.ready md ops listed=[]:=by
    cases hr:Region.ready md ops listed with
    |nil=>rfl
    |cons x xs=>rw[hr] at hi;have y9:t % (x::xs).length<(x::xs).length:=Nat.mod_lt _ (by simp);simp at hi;simp at y9;omega
   simpa[QdI] using h₀ hnil
  |some i=>simp only[];rw[linearise_go_acc,List.reverse_singleton,List.singleton_append];simp only[QdI];exact qL.mono (λa w=>ih _ _ a w) (h₁ i (QOh hi))
theorem WD{Q:Act->World->Prop}:∀(l:List Nat)(a:Act)(w:World),QdI P ops Q l a w->∀(b:Frame)(k:List Item)(cs:List Frame),
  ∃a' w',Q a' w'/\Steps P (lone (b.atR a (.inRegion ops l::k)) cs w) (lone (b.atR a' k) cs w')
 |[],a,w,h,b,k,cs=>⟨a,w,h,.one stepR_region_end⟩
 |i::r,a,w,h,b,k,cs=>by have⟨a1,w1,h1,h2⟩:=h b r k cs;have⟨a2,w2,h3,h4⟩:=WD r a1 w1 h1 b k cs;exact⟨a2,w2,h3,Steps.trans h2 h4⟩
def Qg8{id:Nat}{Q:Act->World->Prop}(h:QdI P ops Q (List.range ops.size) a w)(b:Frame)(k:List Item)(cs:List Frame):∃a' w',Q a' w'/\Steps P (lone (b.atR a (.code (.region id ops false)::k)) cs w) (lone (b.atR a' k) cs w'):=by have⟨a',w',h1,h2⟩:=WD _ a w h b k cs;exact⟨a',w',h1,.head stepR_region h2⟩
def Qfm{id:Nat}{Q:Act->World->Prop}(hm:P.follows .mixedOrders=true)(h:QuF P .any ops Q ops.size (Array.replicate ops.size false) a { w with drawn:=w.drawn+1 })
  (b:Frame)(k:List Item)(cs:List Frame):
  ∃a' w',Q a' w'/\Steps P (lone (b.atR a (.code (.region id ops true)::k)) cs w) (lone (b.atR a' k) cs w'):=by
 have h1:=Qj3 (Q:=Q) ops.size (w.tape w.drawn (.order b.fn id)) _ a _ h;have⟨a',w',h2,h3⟩:=WD _ a _ h1 b k cs;refine⟨a',w',h2,.head stepR_region_draw ?_⟩;simp only[Region.schedule,hm,Bool.true_or,if_true];exact h3
end
def Je(w:World)(b:Nat):Prop:=(∃c t f,w.heap[b]?=some (.cells c t f))\/∃es k,w.heap[b]?=some (.map es k)
def Vq{w b o u}(h:w.cell? ⟨b,o,none⟩=some u):Je w b:=by
 unfold World.cell? at h;split at h
 .rename_i c t f hb;exact .inl ⟨c,t,f,hb⟩
 .cases h
def Je.lt{w b}(h:Je w b):b<w.heap.size:=by rcases h with ⟨c,t,f,h⟩|⟨es,k,h⟩<;>exact(QN8.1 h).1
def QZ.plain{ok w x v}(h:QZ ok w x v):QZ (λb=>ok b/\Je w b) w x v:=by
 induction h with
 |any v=>exact .any v
 |bool b=>exact .bool b
 |int k n=>exact .int k n
 |str s=>exact .str s
 |nilp=>exact .nilp
 |nils sz=>exact .nils sz
 |nilz sz a=>exact .nilz sz a
 |sl sz es b off cap u hl hc hs hu _ ih=>refine .sl sz es b off cap u hl hc hs (λk hk=>?_) (λi j c x h1 h2=>ih i j c x h1 h2);have⟨h1,h2,h3⟩:=hu k hk;exact⟨⟨h1,Vq h2⟩,h2,h3⟩
 |ptr cs b off u hu _ ih=>refine .ptr cs b off u (λk hk=>?_) (λk x h1=>ih k x h1);have⟨h1,h2,h3⟩:=hu k hk;exact⟨⟨h1,Vq h2⟩,h2,h3⟩
 |agg cs vs hl h1 _ ih=>exact .agg cs vs hl h1 (λk x u h1 h2=>ih k x u h1 h2)
 |xf cs vs hl _ ih=>exact .xf cs vs hl (λk x u h1 h2=>ih k x u h1 h2)
 |fn f=>exact .fn f
 |lit v=>exact .lit v
 |ifn v h=>exact .ifn v h
 |mapn=>exact .mapn
 |map kvs r es clock hr0 hr hm hd _ ih=>exact .map kvs r es clock ⟨hr0,.inr ⟨es,clock,hr⟩⟩ hr hm hd (λi e p h3 h4=>ih i e p h3 h4)
 |clo g fs cs us vs h1 h2 _ _ ih1 ih2=>exact .clo g fs cs us vs h1 h2 (λk x u a b=>ih1 k x u a b) (λk x u a b=>ih2 k x u a b)
structure Qit(ok:Nat->Prop)(O:Nat->Prop)(w:World)(s':Ext)(y:IV)(O' D':Nat->Prop)(v:Value)(w':World):Prop where
 rep:QZ (λb=>ok b/\¬O' b) w' y v
 keep:Zv (λb=>b<w.heap.size/\¬O b) w w'
 J:s'.J O' D' w'
 new:∀b,O' b->O b\/w.heap.size<=b
 sub:∀b,O' b->D' b
 lt:∀b,D' b->b<w'.heap.size
 okd:∀b,D' b->O' b\/ok b
structure Qtd(K:World->Prop)(ok:Nat->Prop)(O D:Nat->Prop)(w:World)(s:Ext)(xs:List IV)(vs:List Value):Prop where
 hK:∀w',Zv (λb=>b<w.heap.size/\¬O b) w w'->K w'
 J:s.J O D w
 sub:∀b,O b->D b
 lt:∀b,D b->b<w.heap.size
 okd:∀b,D b->O b\/ok b
 new:∀b,w.heap.size<=b->ok b
 own:∀b,O b->ok b
 len:vs.length=xs.length
 args:∀(k:Nat)x u,xs[k]?=some x->vs[k]?=some u->QZ (λb=>ok b/\¬O b) w x u
def VS(P:Program)(K:World->Prop)(s:Ext)(xs:List IV)(y:IV)(s':Ext):Prop:=s'.v=s.v/\∀(ok O D:Nat->Prop)(w:World)(vs:List Value),Qtd K ok O D w s xs vs ->Ans P s.v vs w (λv w'=>∃O' D',Qit ok O w s' y O' D' v w')
def QoQ(P:Program)(K:World->Prop)(g:FuncId)(pre post:List IV)(s:Ext)(y:IV)(s':Ext):Prop:=s'.v=s.v/\∀(ok O D:Nat->Prop)(w:World)(us vs:List Value),Qtd K ok O D w s (pre++post) (us++vs)->us.length=pre.length ->Calls P g (us++s.v::vs).toArray w (λe w'=>∃v,e=.returned v/\∃O' D',Qit ok O w s' y O' D' v w')
inductive Z2(P:Program)(K:World->Prop):List (List IV)->Ext->Bool->Ext->Prop
 |nil(s):Z2 P K [] s true s
 |stop(x r s s')(h:VS P K s x (.bool false) s'):Z2 P K (x::r) s false s'
 |next(x r s s' s'' b)(h:VS P K s x (.bool true) s')(hr:Z2 P K r s' b s''):Z2 P K (x::r) s b s''
def Qbr(P:Program)(K:World->Prop)(g:FuncId)(pre post:List IV)(L:List (List IV))(y:Bool->IV):Prop:=∀s b s',Z2 P K L s b s'->QoQ P K g pre post s (y b) s'
def Qbs(P:Program)(K:World->Prop)(g:FuncId)(pre post:List IV)(L:List (List IV)):Prop:=Qbr P K g pre post L (λ_=>.xf [])
theorem Z2.v{P K L s s' b}(h:Z2 P K L s b s'):s'.v=s.v:=by
 induction h with
 |nil=>rfl
 |stop _ _ _ _ h=>exact h.1
 |next _ _ _ _ _ _ h _ ih=>exact ih.trans h.1
def Z2.append{P K l r s s' b}(h:Z2 P K (l++r) s b s'):(∃s1,Z2 P K l s true s1/\Z2 P K r s1 b s')\/(b=false/\Z2 P K l s false s'):=by
 induction l generalizing s with
 |nil=>exact .inl ⟨s,.nil s,h⟩
 |cons x l ih=>
  cases h with
  |stop _ _ _ _ h=>exact .inr ⟨rfl,.stop _ _ _ _ h⟩
  |next _ _ _ s1 _ _ h hr=>
   rcases ih hr with ⟨s2,h1,h2⟩|⟨h1,h2⟩
   .exact .inl ⟨s2,.next _ _ _ _ _ _ h h1,h2⟩
   .exact .inr ⟨h1,.next _ _ _ _ _ _ h h2⟩
structure XS.le(w0 w1:XS):Prop where
 keep:Zv w0.fr w0.w w1.w
 fr:∀b,w0.fr b->w1.fr b
 pin:w1.pin=w0.pin
theorem XS.le.refl(w0:XS):w0.le w0:=⟨Zv.refl _ _,λ_ h=>h,rfl⟩
theorem XS.le.trans{w0 w1 w2:XS}(h:w0.le w1)(k:w1.le w2):w0.le w2:=⟨h.keep.trans (k.keep.mono h.fr),λb hb=>k.fr b (h.fr b hb),k.pin.trans h.pin⟩
def XS.le.keeps{w0 w1:XS}{w:World}(h:w0.le w1)(hk:Zv w1.fr w1.w w):Zv w0.fr w0.w w:=h.keep.trans (hk.mono h.fr)
def QK.frame{B B' ok w lo L o l}(h:QK B ok w lo L o l)(hn:∀b,l.has b->¬B' b)(hs:∀b,B b->B' b):QK B' ok w lo L o l:=by
 cases o with
 |box cs=>
  cases l with
  |box b=>exact⟨hn b rfl,h.2⟩
  |_=>exact h.elim
 |arr e sz es mv=>
  cases l with
  |arr v xs=>exact⟨⟨h.1.own,λb hb=>hn b hb⟩,h.2⟩
  |_=>exact h.elim
 |xh kvs=>
  cases l with
  |one b=>exact⟨hn b rfl,h.2⟩
  |_=>exact h.elim
 |yo e sz kvs pend=>
  cases l with
  |map b vals=>have⟨hB,hc,hd,hk,hr,ha⟩:=h;refine⟨hn b (.inl rfl),hc,hd,hk,λi p q hp hq=>?_,ha⟩;have⟨xs,h1,h2⟩:=hr i p q hp hq;exact⟨xs,⟨h1.own,λb hb=>hn b (.inr ⟨q,QOh hq,hb⟩)⟩,h2⟩
  |_=>exact h.elim
 |siter s pos=>
  cases l with
  |one b=>exact⟨hn b rfl,h.2⟩
  |_=>exact h.elim
 |yq kvs seen=>
  cases l with
  |one b=>exact⟨hn b rfl,h.2⟩
  |_=>exact h.elim
 |bytes s=>
  cases l with
  |one b=>exact⟨hn b rfl,h.2⟩
  |_=>exact h.elim
 |ext s=>
  cases l with
  |ext O D=>exact⟨λb hb=>⟨hn b hb,(h.1 b hb).2⟩,λb hb=>(h.2.1 b hb).imp (λh=>h) (λ⟨h1,h2⟩=>⟨hs b h1,h2⟩),h.2.2⟩
  |_=>exact h.elim
section
variable{P:Program}{K:World->Prop}{ok0:Nat->Prop}{N:Fm}{w0:XS}{lk:Nat->AV}{lo:Nat->Option AO}{a:Act}{w:World}{L:Nat->Lay}
def Qmw{id s x u ok}(hid:lo id=some (.ext s))(hx:AV.refs id x=true)(hr:QG ok w lo L x u):x=.cb id/\u=s.v:=by
 cases hr with
 |_=>grind
def okC(ok:Nat->Prop)(D:Nat->Prop)(w:World)(b:Nat):Prop:=D b\/(ok b/\Je w b)\/w.heap.size<=b
def QA7{id s s' O D O' D' y v w'}(hok0:∀b,¬w0.fr b->ok0 b)(h:Rel ok0 N w0 lk lo a w L)(hid:lo id=some (.ext s))(hL:L id=.ext O D)
  (hv:s'.v=s.v)(hp:Qit (okC (okL ok0 lo L) D w) O w s' y O' D' v w'):
  ∃w1,w0.le w1/\Rel ok0 N w1 lk (Zn lo id (.ext s')) a w' (Q7 L id (.ext O' D')):=by
 have hob:=h.y8 id _ hid;rw[hL] at hob;have⟨hO,hD,hJ⟩:=hob;have hLO:∀b,(L id).has b↔O b:=λb=>by rw[hL];exact Iff.rfl
 have hfrO:∀b,w0.fr b->b<w.heap.size/\¬O b:=λb hb=>⟨h.frl b hb,λho=>(hO b ho).1 hb⟩;have hkw:Zv w0.fr w w':=hp.keep.mono hfrO;have hk0:Zv w0.fr w0.w w':=h.below.trans hkw
 let w1:XS:={ w:=w',fr:=λb=>w0.fr b\/(D' b/\¬O' b),lt:=λb hb=>hb.elim (λhb=>QOM (h.frl b hb) hp.keep.size) (λhb=>hp.lt b hb.1),pin:=w0.pin }
 have hle:w0.le w1:=⟨hk0,λb hb=>.inl hb,rfl⟩;have xc:∀i,i≠id->Zn lo id (.ext s') i=lo i/\Q7 L id (.ext O' D') i=L i:=λi hi=>by simp[Zn,Q7,hi]
 have hsame:∀b,b<w.heap.size->¬O b->w'.heap[b]?=w.heap[b]?:=λb h1 h2=>hp.keep.block b ⟨h1,h2⟩;have hoth:∀b,D' b->¬O' b->∀i oi,i≠id->lo i=some oi->¬(L i).has b:=by
  intro b hb hnb i oi hi hoi hbad;rcases hp.okd b hb with h1|h1|⟨h1,_⟩|h1
  .exact hnb h1
  .rcases hD b h1 with h2|⟨h2,h3⟩
   .exact h.apart i id oi _ b hi hoi hid hbad ((hLO b).2 h2)
   exact h3.2 i oi hoi hbad
  .exact h1.2 i oi hoi hbad
  have:=((h.y8 i oi hoi).lt hbad).2;omega
 have hok:∀b,okL ok0 lo L b->b<w.heap.size->okL ok0 (Zn lo id (.ext s')) (Q7 L id (.ext O' D')) b:=by
  intro b hb y9;refine⟨hb.1,λi oi hi he=>?_⟩;by_cases hii:i=id
  .subst hii;simp only[Q7,if_true,Lay.has] at he;rcases hp.new b he with h1|h1
   .exact hb.2 _ _ hid ((hLO b).2 h1)
   omega
  grind
 have all:∀x v,QG (okL ok0 lo L) w lo L x v->QG (okL ok0 (Zn lo id (.ext s')) (Q7 L id (.ext O' D'))) w' (Zn lo id (.ext s')) (Q7 L id (.ext O' D')) x v:=by intro x v hx;refine hx.turn ⟨_,hid⟩ xc h.apart (λb h1 h2=>hsame b h1 (λho=>h2 ((hLO b).2 ho))) hok (λx v hr hx=>?_);grind
 refine⟨w1,hle,Zv.refl _ _,?_,h.size,λt=>all _ _ (h.env t),λi oi hi=>?_,λi j oi oj b hij hi hj h1 h2=>?_,h.pin⟩
 .obtain⟨rs,e1,e2,e3⟩:=h.defers;refine⟨rs,e1,e2,λr hr=>?_⟩;have⟨g1,g2,g3⟩:=e3 r hr;have y9:=(QN8.1 g1).1;have hnO:¬O r:=λho=>g3 id _ hid ((hLO r).2 ho);refine⟨(hsame r y9 hnO).trans g1,?_,λi oi hi he=>?_⟩
  .rintro (hf|⟨hf,hnf⟩)
   .exact g2 hf
   rcases hp.okd r hf with h1|h1|⟨_,h1⟩|h1
   .exact hnf h1
   .grind
   .rcases h1 with ⟨c,t,f,h1⟩|⟨es,k,h1⟩<;>rw[g1] at h1<;>cases h1
   omega
  grind
 .by_cases hii:i=id
  .subst hii;simp only[Zn,if_true,Option.some.injEq] at hi;subst hi;simp only[Q7,if_true];refine⟨λb hb=>⟨?_,hp.lt b (hp.sub b hb),hp.sub b hb⟩,λb hb=>?_,hp.J⟩
   .rintro (hf|⟨_,hf⟩)
    .rcases hp.new b hb with h1|h1
     .exact(hO b h1).1 hf
     exact h.frlt h1 hf
    exact hf hb
   by_cases hbo:O' b
   .exact .inl hbo
   refine .inr ⟨.inr ⟨hb,hbo⟩,?_,λj oj hj he=>?_⟩
   .rcases hp.okd b hb with h1|h1|⟨h1,_⟩|h1
    all_goals grind
   grind
  simp only[Zn,hii,if_false] at hi;simp only[Q7,hii,if_false];have hne:∀b,(L i).has b->¬O b:=λb hb ho=>h.apart i id oi _ b hii hi hid hb ((hLO b).2 ho);refine((h.y8 i oi hi).stay hkw h.frl (λb hb y9=>hsame b y9 (hne b hb)) (λb hb y9=>⟨hok b hb y9,hsame b y9 (λho=>hb.2 id _ hid ((hLO b).2 ho))⟩) (λ_=>all)).frame (λb hb=>?_) (λb hb=>.inl hb);rintro (hf|⟨hf,hnf⟩)
  .exact((h.y8 i oi hi).lt hb).1 hf
  exact hoth b hf hnf i oi hii hi hb
 .by_cases hii:i=id
  .have hjj:j≠id:=λe=>hij (hii.trans e.symm);simp only[Q7,hii,if_true,Lay.has] at h1;simp only[Zn,hjj,if_false] at hj;simp only[Q7,hjj,if_false] at h2;rcases hp.new b h1 with h3|h3
   .exact h.apart id j _ oj b (λe=>hjj e.symm) hid hj ((hLO b).2 h3) h2
   have:=((h.y8 j oj hj).lt h2).2;omega
  .simp only[Zn,hii,if_false] at hi;simp only[Q7,hii,if_false] at h1;by_cases hjj:j=id
   .simp only[Q7,hjj,if_true,Lay.has] at h2;rcases hp.new b h2 with h3|h3
    .exact h.apart i id oi _ b hii hi hid h1 ((hLO b).2 h3)
    have:=((h.y8 i oi hi).lt h1).2;omega
   .simp only[Zn,hjj,if_false] at hj;simp only[Q7,hjj,if_false] at h2;exact h.apart i j oi oj b hij hi hj h1 h2
end
def QZ.move{ok ok' w w' x v}(h:QZ ok w x v)(hok:∀b,ok b->Je w b->ok' b/\w'.heap[b]?=w.heap[b]?):QZ ok' w' x v:=h.plain.mono λb hb _=>hok b hb.1 hb.2
theorem QG.move{ok ok' w w' lo L x v}(h:QG ok w lo L x v)
  (hok:∀b,ok b->Je w b->ok' b/\w'.heap[b]?=w.heap[b]?)(hown:∀id o b,lo id=some o->(L id).has b->w'.heap[b]?=w.heap[b]?):QG ok' w' lo L x v:=by
 have cell:∀id b k v u(xs:List Value)o,lo id=some o->L id=.arr v xs->(ok b\/v.ownBlock=some b)->w.cell? ⟨b,k,none⟩=some u ->
   (ok' b\/v.ownBlock=some b)/\w'.cell? ⟨b,k,none⟩=some u:=by
  intro id b k v u xs o ho hL h1 h2;have:=hok b;have:=Vq h2;have:=@QPo w w' ⟨b,k,none⟩;grind
 induction h with
 |iv x v h=>exact .iv x v (h.move hok)
 |_=>grind
structure Qte(w w':World):Prop where
 os:w'.os=w.os
 tape:w'.tape=w.tape
 output:w'.output=w.output
 size:w.heap.size<=w'.heap.size
theorem QK.move{B B' ok ok' w w' lo L o l}(h:QK B ok w lo L o l)(hw:Qte w w')
  (hok:∀b,ok b->Je w b->ok' b/\w'.heap[b]?=w.heap[b]?)(hl:∀b,l.has b->¬B' b/\w'.heap[b]?=w.heap[b]?)
  (hfr:∀b,B b->ok b->B' b/\ok' b/\w'.heap[b]?=w.heap[b]?)
  (all:∀x v,QG ok w lo L x v->QG ok' w' lo L x v):QK B' ok' w' lo L o l:=by
 have row:∀{e sz n v xs},YK B w e sz v n xs->(∀b,v.ownBlock=some b->l.has b)->YK B' w' e sz v n xs:=λh1 h2=>⟨(YK.stay (Fr:=B) h1 λb hb=>(hl b (h2 b hb)).2).own,λb hb=>(hl b (h2 b hb)).1⟩
 have mv:=λx v(h:QZ ok w x v)=>h.move hok;unfold QK at h;split at h
 case h_2=>exact⟨row h.1 λb hb=>hb,h.2.1,h.2.2.1,h.2.2.2.1,by grind⟩
 case h_4 b vals=>have⟨hB,⟨es,clock,hb,hm⟩,hd,hk,hr,ha⟩:=h;refine⟨(hl b (.inl rfl)).1,⟨es,clock,(hl b (.inl rfl)).2.trans hb,hm⟩,hd,hk,λi p q hp hq=>?_,ha⟩;have⟨xs,h1,h2,h3,h4,h5⟩:=hr i p q hp hq;exact⟨xs,row h1 λb' hb'=>.inr ⟨q,QOh hq,hb'⟩,h2,h3,h4,by grind⟩
 case h_5=>
  have⟨hB,r,since,sn,hb,hi⟩:=h;refine⟨(hl _ rfl).1,r,since,sn,(hl _ rfl).2.trans hb,?_⟩;cases r with
  |none=>exact hi
  |some r=>have⟨es,h1,h2,h3,h4,h5,h6⟩:=hi;have⟨h7,h8⟩:=hok r h1 (.inr ⟨_,_,h2⟩);exact⟨es,h7,h8.trans h2,h3,by grind,h5,h6⟩
 case h_6=>have⟨h1,h2,h3⟩:=h;exact⟨by have:=hw.size;grind,by grind,Ext.stay _ _ _ w w' h3 ⟨hw.os,hw.tape,hw.output,hw.size,by grind⟩⟩
 all_goals grind [QK]
section
variable{ok0:Nat->Prop}{N:Fm}{w0:XS}{lk:Nat->AV}{lo:Nat->Option AO}{a:Act}{w:World}{L:Nat->Lay}
theorem Rel.move{ok1 N1 w1 lk1 a1 w'}(h:Rel ok0 N w0 lk lo a w L)(hw:Qte w w')(hk:Zv w1.fr w1.w w')
  (hd:Qbq w1.fr lo L w' a1.defers)(hs:a1.tmps.size=N1.n)(ht:∀t,QG (okL ok0 lo L) w lo L (lk1 t) (a1.tmps.getD t undef))(hp:∀t,N1.pins.contains t=true->a1.tmps.getD t undef=w1.pin t)
  (hok:∀b,okL ok0 lo L b->Je w b->ok1 b/\w'.heap[b]?=w.heap[b]?)(hown:∀id o b,lo id=some o->(L id).has b->¬w1.fr b/\w'.heap[b]?=w.heap[b]?)
  (hfr:∀b,w0.fr b->okL ok0 lo L b->w1.fr b/\ok1 b/\w'.heap[b]?=w.heap[b]?):Rel ok1 N1 w1 lk1 lo a1 w' L:=by
 have hok':∀b,okL ok0 lo L b->Je w b->okL ok1 lo L b/\w'.heap[b]?=w.heap[b]?:=λb h1 h2=>⟨⟨(hok b h1 h2).1,h1.2⟩,(hok b h1 h2).2⟩;have all:∀x v,QG (okL ok0 lo L) w lo L x v->QG (okL ok1 lo L) w' lo L x v:=λx v hx=>hx.move hok' (λid o b h1 h2=>(hown id o b h1 h2).2);exact⟨hk,hd,hs,λt=>all _ _ (ht t),λid o ho=>(h.y8 id o ho).move hw hok' (λb hb=>hown id o b ho hb) (λb h1 h2=>⟨(hfr b h1 h2).1,⟨(hfr b h1 h2).2.1,h2.2⟩,(hfr b h1 h2).2.2⟩) all,h.apart,hp⟩
end
mutual
def scr(ids:List Nat):AV->AV
 | .iv x=>.iv x
 | .agg cs=>.agg (scrL ids cs)
 | .loc id off=>if ids.contains id then .loc id off else .iv .any
 | .yj id n i off=>if ids.contains id then .yj id n i off else .iv .any
 | .yn id k n=>if ids.contains id then .yn id k n else .iv .any
 | .ym sz=>.ym sz
 | .zsl sz=>.zsl sz
 | .yk id=>if ids.contains id then .yk id else .iv .any
 | .yr id i=>if ids.contains id then .yr id i else .iv .any
 | .clo g fs cs=>.clo g (scrL ids fs) (scrL ids cs)
 | .xf cs=>.xf (scrL ids cs)
 | .cb id=>if ids.contains id then .cb id else .iv .any
 | .yl id n=>if ids.contains id then .yl id n else .iv .any
def scrL(ids:List Nat):List AV->List AV
 |[]=>[]
 |x::r=>scr ids x::scrL ids r
end
def Qgt(ids:List Nat):AO->AO
 | .box cs=>.box (scrL ids cs)
 | .arr e sz es mv=>.arr e sz (es.map (scrL ids)) mv
 | .xh kvs=>.xh kvs
 | .yo e sz kvs pend=>.yo e sz kvs pend
 | .siter s pos=>.siter s pos
 | .yq kvs seen=>.yq kvs seen
 | .bytes s=>.bytes s
 | .ext s=>.ext s
mutual
def rn(m:Nat->Nat):AV->AV
 | .iv x=>.iv x
 | .agg cs=>.agg (rnL m cs)
 | .loc id off=>.loc (m id) off
 | .yj id n i off=>.yj (m id) n i off
 | .yl id n=>.yl (m id) n
 | .yn id k n=>.yn (m id) k n
 | .ym sz=>.ym sz
 | .zsl sz=>.zsl sz
 | .yk id=>.yk (m id)
 | .yr id i=>.yr (m id) i
 | .clo g fs cs=>.clo g (rnL m fs) (rnL m cs)
 | .xf cs=>.xf (rnL m cs)
 | .cb id=>.cb (m id)
def rnL(m:Nat->Nat):List AV->List AV
 |[]=>[]
 |x::r=>rn m x::rnL m r
end
def rnO(m:Nat->Nat):AO->AO
 | .box cs=>.box (rnL m cs)
 | .arr e sz es mv=>.arr e sz (es.map (rnL m)) mv
 |o=>o
theorem QiV(m):∀cs,rnL m cs=cs.map (rn m)
 |[]=>rfl
 |x::r=>by simp[rnL,QiV m r]
theorem Qcf(m cs):(rnL m cs).length=cs.length:=by simp[QiV]
theorem Qcg(m:Nat->Nat)(cs:List AV)(k:Nat):(rnL m cs)[k]?=(cs[k]?).map (rn m):=by simp[QiV]
def QwH{ok ok' w lo lo' L L' m}(hok:∀b,ok b->ok' b)(xc:∀id o,lo id=some o->lo' (m id)=some (rnO m o)/\L' (m id)=L id){x v}
  (h:QG ok w lo L x v):QG ok' w lo' L' (rn m x) v:=by
 induction h with
 |iv x v h=>exact .iv x v (h.mono λb hb _=>⟨hok b hb,rfl⟩)
 |yl id e sz es mv v xs ho hL h1=>
  have:=QG.yl (ok:=ok') (w:=w) (lo:=lo') (L:=L') (m id) e sz (es.map (rnL m)) mv v xs (xc id _ ho).1 ((xc id _ ho).2.trans hL) h1
  rwa [QN9] at this
 |yk id b o ho hn hL=>exact .yk (m id) b _ (xc id _ ho).1 (by cases o<;>first|exact hn|cases hn) ((xc id _ ho).2.trans hL)
 |_=>grind [rn,rnO,Qcf,Qcg]
def QxV{B ok ok' w lo lo' L L' m}(hok:∀b,ok b->ok' b)(xc:∀id o,lo id=some o->lo' (m id)=some (rnO m o)/\L' (m id)=L id){o l}
  (h:QK B ok w lo L o l):QK B ok' w lo' L' (rnO m o) l:=by
 have all:=λx v=>QwH (w:=w) (x:=x) (v:=v) hok xc;have mono:∀x v,QZ ok w x v->QZ ok' w x v:=λ_ _ h=>h.mono λb hb _=>⟨hok b hb,rfl⟩;have it:∀kvs seen r since sn,JV ok w kvs seen r since sn->JV ok' w kvs seen r since sn:=λ_ _ _ _ _ h=>h.mono λb hb _=>⟨hok b hb,rfl⟩;unfold QK at h;split at h<;>grind [QK,rnO,Qcf,Qcg]
theorem QbC(ids):∀cs,scrL ids cs=cs.map (scr ids)
 |[]=>rfl
 |x::r=>by simp[scrL,QbC ids r]
theorem WX(ids:List Nat)(cs:List AV)(k:Nat):(scrL ids cs)[k]?=(cs[k]?).map (scr ids):=by simp[QbC]
theorem Ua(ids cs):(scrL ids cs).length=cs.length:=by simp[QbC]
def QaF(lo:Nat->Option AO)(L:Nat->Lay)(b:Nat):Prop:=∃id ob,lo id=some ob/\(L id).has b
structure QoR(Fr ok:Nat->Prop)(w:World)(lo:Nat->Option AO)(L:Nat->Lay):Prop where
 y8:∀id o,lo id=some o->QK Fr (okL ok lo L) w lo L o (L id)
 apart:∀i j oi oj b,i≠j->lo i=some oi->lo j=some oj->(L i).has b->¬(L j).has b
def FrO(w:World)(lo:Nat->Option AO)(L:Nat->Lay)(b:Nat):Prop:=b<w.heap.size/\¬QaF lo L b
def VR:AO->AO->Lay->Lay->Prop
 | .box _,.box _,.box b,.box b'=>b'=b
 | .arr e sz es _,.arr e' sz' es' mv',.arr v _,.arr v' _=>v'=v/\e'=e/\sz'=sz/\es'.length=es.length/\mv'=es'.length
 | .xh _,.xh _,.one b,.one b'=>b'=b
 |_,_,_,_=>False
def Zt:AO->Bool
 | .ext _=>false
 |_=>true
def Qxn(P:Program)(K:World->Prop)(f:FuncId)(args:List AV)(lo:Nat->Option AO)(st:List Nat)(y:AV)(lo':Nat->Option AO):Prop:=∀(w:World)(ok:Nat->Prop)(L:Nat->Lay)(vs:List Value),(∀w',Zv (FrO w lo L) w w'->K w')->(∀b,w.heap.size<=b->ok b)->(∀b,QaF lo L b->ok b) ->QoR (FrO w lo L) ok w lo L->vs.length=args.length->(∀(k:Nat)x u,args[k]?=some x->vs[k]?=some u->QG (okL ok lo L) w lo L x u) ->Calls P f vs.toArray w (λe w'=>∃v L',e=.returned v/\QoR (FrO w lo L) ok w' lo' L'/\QG (okL ok lo' L') w' lo' L' y v/\Zv (FrO w lo L) w w' /\
   ∀i∈st,∀o,lo i=some o->∃o',lo' i=some o'/\VR o o' (L i) (L' i))
mutual
def clA(dom:List Nat):AV->Bool
 | .iv _=>true
 | .agg cs=>clAL dom cs
 | .loc id _=>dom.contains id
 | .yj id _ _ _=>dom.contains id
 | .yl id _=>dom.contains id
 | .yn id _ _=>dom.contains id
 | .ym _=>true
 | .zsl _=>true
 | .yk id=>dom.contains id
 | .yr id _=>dom.contains id
 | .clo _ fs cs=>clAL dom fs&&clAL dom cs
 | .xf cs=>clAL dom cs
 | .cb id=>dom.contains id
def clAL(dom:List Nat):List AV->Bool
 |[]=>true
 |x::r=>clA dom x&&clAL dom r
end
theorem qD{dom:List Nat}:∀{cs:List AV}{k:Nat}{x:AV},clAL dom cs=true->cs[k]?=some x->clA dom x=true
 |[],k,x,_,h=>by simp at h
 |y::r,k,x,h,hx=>by
  simp only[clAL,QNZ] at h;cases k with
  |zero=>simp at hx;subst hx;exact h.1
  |succ k=>exact qD h.2 (by simpa using hx)
def clO(dom:List Nat):AO->Bool
 | .box cs=>clAL dom cs
 | .arr _ _ es _=>es.all (clAL dom)
 |_=>true
def nth(ids:List Nat)(i:Nat):Nat:=ids.getD i 0
def U9:List Nat->Nat->Option Nat
 |[],_=>none
 |x::r,i=>if i=x then some 0 else(U9 r i).map (·+1)
theorem qq:∀{ids i j},U9 ids i=some j->j<ids.length/\nth ids j=i
 |[],i,j,h=>by simp[U9] at h
 |x::r,i,j,h=>by have:=@qq r i;cases h:U9 r i<;>grind [U9,nth]
theorem JF:∀{ids j},ids.Nodup->j<ids.length->U9 ids (nth ids j)=some j
 |[],j,_,h=>by simp at h
 |x::r,j,hn,h=>by
  cases j with
  |zero=>simp[nth,U9]
  |succ j=>
   have:=@JF r j;have:j<r.length->r[j]!∈r:=λh=>by simp[h]
   grind [U9,nth]
structure HG(P:Program)(K:World->Prop)(g:FuncId)(avs:List AV)(ids keep:List Nat)(lo:Nat->Option AO)(y':AV)(lo':Nat->Option AO)(args:List AV)(lo0:Nat->Option AO)(st:List Nat)(y:AV)(lo1:Nat->Option AO)(dom:List Nat):Prop where
 nd:ids.Nodup
 hargs:avs=args.map (rn (nth ids))
 cla:args.all (clA dom)=true
 dom0:∀i,dom.contains i=true↔(lo0 i).isSome=true
 xc:∀i o,lo0 i=some o->i<ids.length/\lo (nth ids i)=some (rnO (nth ids) o)/\clO dom o=true/\Zt o=true
 xd:∀i,i<ids.length->lo0 i=none->lo (nth ids i)=none
 hg:Qxn P K g args lo0 st y lo1
 y9:∀i o,lo1 i=some o->i<ids.length/\Zt o=true
 hy:y'=rn (nth ids) y
 hlo':∀i,lo' i=match U9 ids i with
  |some j=>(lo1 j).map (rnO (nth ids))
  |none=>if keep.contains i then(lo i).map (Qgt keep) else none
 y4:∀i,keep.contains i=true->∀j,U9 ids i=some j->j∈st
section
variable{P:Program}{K:World->Prop}{ok0:Nat->Prop}{N:Fm}{w0:XS}{lk:Nat->AV}{lo:Nat->Option AO}{a:Act}{w:World}{L:Nat->Lay}
def QiU{ok ok' lo0 L0 m dom}(hok:∀b,ok b->ok' b)(hd:∀i,dom.contains i=true->(lo0 i).isSome=true)(xc:∀i o,lo0 i=some o->lo (m i)=some (rnO m o)/\L0 i=L (m i))
  {x v}(hc:clA dom x=true)(h:QG ok w lo L (rn m x) v):QG ok' w lo0 L0 x v:=by
 have ex:∀i,dom.contains i=true->∃o,lo0 i=some o/\lo (m i)=some (rnO m o)/\L0 i=L (m i):=λi hi=>by have⟨o,ho⟩:=QOC.1 (hd i hi);exact⟨o,ho,xc i o ho⟩
 have gl:=@qD dom;generalize hq:rn m x=y at h;induction h generalizing x with
 |iv z v h=>cases x<;>simp only[rn,reduceCtorEq,AV.iv.injEq] at hq;subst hq;exact .iv _ _ (h.mono λb hb _=>⟨hok b hb,rfl⟩)
 |_=>cases x<;>simp only[rn,reduceCtorEq] at hq<;>first|grind [clA,Qcg,Qcf]|(have⟨o,_,_,_⟩:=ex _ hc;cases o<;>grind [rnO])
def Qmu{B B' ok ok' lo0 L0 m dom}(hok:∀b,ok b->ok' b)(hd:∀i,dom.contains i=true->(lo0 i).isSome=true)(xc:∀i o,lo0 i=some o->lo (m i)=some (rnO m o)/\L0 i=L (m i))
  {o l}(hc:clO dom o=true)(hne:Zt o=true)(hB:∀b,l.has b->¬B' b)(h:QK B ok w lo L (rnO m o) l):QK B' ok' w lo0 L0 o l:=by
 have all:=λx v=>QiU (w:=w) (x:=x) (v:=v) hok hd xc;have mono:∀x v,QZ ok w x v->QZ ok' w x v:=λ_ _ h=>h.mono λb hb _=>⟨hok b hb,rfl⟩;have it:∀kvs seen r since sn,JV ok w kvs seen r since sn->JV ok' w kvs seen r since sn:=λ_ _ _ _ _ h=>h.mono λb hb _=>⟨hok b hb,rfl⟩;have gl:=@qD dom;cases o with
 |arr e sz es mv=>
  cases l with
  |arr v xs=>
   have⟨ho,hm,hz,h1,hx⟩:=h;rw[QN9] at ho hm;refine⟨⟨ho.own,λb hb=>hB b hb⟩,hm,λc hcm=>?_,h1,λi j c x u h2 h3 h4=>?_⟩
   .have:=hz (rnL m c) (QOb.2 ⟨c,hcm,rfl⟩)
    rwa [Qcf] at this
   exact all _ _ (gl (QOt.1 hc c (QOh h2)) h3) (hx i j (rnL m c) (rn m x) u (by simp[h2]) (by simp[Qcg,h3]) h4)
  |_=>exact h.elim
 |yo e sz kvs pend=>
  cases l with
  |map b vals=>have⟨_,hcm,hd',hk,hr,ha⟩:=h;refine⟨hB b (.inl rfl),hcm,hd',hk,λi p q hp hq=>?_,ha⟩;have⟨xs,h1,h2,h3,h4,h5⟩:=hr i p q hp hq;exact⟨xs,⟨h1.own,λb' hb'=>hB b' (.inr ⟨q,QOh hq,hb'⟩)⟩,h2,h3,h4,by grind⟩
  |_=>exact h.elim
 |xh kvs=>
  cases l with
  |one b=>have⟨_,es,clock,hb,hm,hd',hx⟩:=h;exact⟨hB b rfl,es,clock,hb,hm,hd',by grind⟩
  |_=>exact h.elim
 |_=>cases l<;>simp only[QK,rnO] at h |-<;>first|exact h.elim|grind [clO,Qcg,Qcf,Zt]
end
def QK.frameN'{B B' ok w lo L o l}(h:QK B ok w lo L o l)(hx:Zt o=true)(hn:∀b,l.has b->¬B' b):QK B' ok w lo L o l:=by
 cases o with
 |yo e sz kvs pend=>
  cases l with
  |map b vals=>have⟨hB,hc,hd,hk,hr,ha⟩:=h;refine⟨hn b (.inl rfl),hc,hd,hk,λi p q hp hq=>?_,ha⟩;have⟨xs,h1,h2⟩:=hr i p q hp hq;exact⟨xs,⟨h1.own,λb hb=>hn b (.inr ⟨q,QOh hq,hb⟩)⟩,h2⟩
  |_=>exact h.elim
 |arr e sz es mv=>
  cases l with
  |arr v xs=>exact⟨⟨h.1.own,λb hb=>hn b hb⟩,h.2⟩
  |_=>exact h.elim
 |_=>cases l<;>grind [QK,Zt]
section
variable{P:Program}{K:World->Prop}{ok0:Nat->Prop}{N:Fm}{w0:XS}{lk:Nat->AV}{lo:Nat->Option AO}{a:Act}{w:World}{L:Nat->Lay}
def Qxm(Fr ok':Nat->Prop)(keep:List Nat)(w w':World)(lo lo':Nat->Option AO)(L L':Nat->Lay)(id:Nat)(o:AO):Prop:=(lo' id=some (Qgt keep o)/\L' id=L id/\∀b,(L id).has b->w'.heap[b]?=w.heap[b]?) \/(∃o',lo' id=some o'/\VR o o' (L id) (L' id)/\QK Fr ok' w' lo' L' o' (L' id))
def Qfb{o o' l l'}(h:VR o o' l l'):(∃c c' b,o=.box c/\o'=.box c'/\l=.box b/\l'=.box b)\/(∃e sz es m es' v x x',o=.arr e sz es m/\o'=.arr e sz es' es'.length/\l=.arr v x/\l'=.arr v x'/\es'.length=es.length)\/(∃k k' b,o=.xh k/\o'=.xh k'/\l=.one b/\l'=.one b):=by
 unfold VR at h;split at h
 .exact .inl ⟨_,_,_,rfl,rfl,rfl,by rw[h]⟩
 .obtain⟨rfl,rfl,rfl,e,rfl⟩:=h;exact .inr (.inl ⟨_,_,_,_,_,_,_,_,rfl,rfl,rfl,rfl,e⟩)
 .exact .inr (.inr ⟨_,_,_,rfl,rfl,rfl,by rw[h]⟩)
 .cases h
def Qmn{Fr ok ok' ok'' w' lo' L' keep}(hok:∀b,ok b->b<w.heap.size->ok' b/\w'.heap[b]?=w.heap[b]?)
  (hmv:∀id e sz es mv,lo id=some (.arr e sz es mv)->mv<=es.length)
  (y4:∀id o,keep.contains id=true->lo id=some o->Qxm Fr ok'' keep w w' lo lo' L L' id o){x v}(h:QG ok w lo L x v):QG ok' w' lo' L' (scr keep x) v:=by
 have cell:∀id b k v u(xs:List Value),L id=.arr v xs->(∀b,(L id).has b->w'.heap[b]?=w.heap[b]?)->(ok b\/v.ownBlock=some b)->w.cell? ⟨b,k,none⟩=some u ->
   ((ok' b\/v.ownBlock=some b)/\w'.cell? ⟨b,k,none⟩=some u):=by
  intro id b k v u xs hL hs h1 h2;have:=hok b;have:=QO0 w ⟨b,k,none⟩ h2;have:=@QPo w w' ⟨b,k,none⟩;grind
 induction h with
 |iv x v h=>simp only[scr];exact .iv x v (h.mono hok)
 |yj id n i off e sz es mv v xs b ho hL hn hv=>
  simp only[scr];split
  .rename_i hc;rcases y4 id _ hc ho with ⟨h1,h2,h3⟩|⟨o',h1,h2,h3⟩
   .grind [Qgt]
   have:=Qfb h2;obtain⟨es',x',rfl,hl',e4⟩:∃es' x',o'=.arr e sz es' es'.length/\L' id=.arr v x'/\es'.length=es.length:=by grind
   refine .yj id n i off _ _ _ _ _ _ b h1 hl' (by omega) λhm=>?_;have hn':n=es.length:=by omega
   obtain⟨g1,g2,g3⟩:=hv (by have:=hmv id _ _ _ _ ho;omega);have hob:=g2 hn';refine⟨g1,λ_=>hob,λk hk=>⟨.inr hob,?_⟩⟩;rw[hl'] at h3;have⟨hown,_⟩:=h3;have hk':=hk;rw[hn',<- e4,<- hown.own.1] at hk';refine⟨_,?_,QNX hk'⟩;have:=hown.own.cells (g:=b) hob k _ (QNX hk')
   rwa [addr_add,QOn] at this
  exact .iv _ _ (.any _)
 |yk id b o ho hn hL=>
  simp only[scr];split
  .rename_i hc;have:=y4 id _ hc ho;cases o<;>cases hn<;>rcases this with ⟨g1,g2,_⟩|⟨o',g1,g2,_⟩<;>first|(have:=Qfb g2;grind)|grind [Qgt]
  exact .iv _ _ (.any _)
 |_=>
  simp only[scr]
  try split
  all_goals first|exact .iv _ _ (.any _)|grind [WX,Ua]|(rename_i hc;rcases y4 _ _ hc ‹_› with ⟨h1,h2,h3⟩|⟨o',h1,h2,_⟩;grind [Qgt];have:=Qfb h2;grind)
def QgQ{B B' ok ok' w' lo' L' keep o l}(hw:Qte w w')(hok:∀b,ok b->b<w.heap.size->ok' b/\w'.heap[b]?=w.heap[b]?)
  (hl:∀b,l.has b->¬B' b/\w'.heap[b]?=w.heap[b]?)(hfr:∀b,B b->ok b->B' b/\ok' b/\w'.heap[b]?=w.heap[b]?)
  (all:∀x v,QG ok w lo L x v->QG ok' w' lo' L' (scr keep x) v)(h:QK B ok w lo L o l):QK B' ok' w' lo' L' (Qgt keep o) l:=by
 have row:∀{e sz n v xs},YK B w e sz v n xs->(∀b,v.ownBlock=some b->l.has b)->YK B' w' e sz v n xs:=λh1 h2=>⟨(YK.stay (Fr:=B) h1 λb hb=>(hl b (h2 b hb)).2).own,λb hb=>(hl b (h2 b hb)).1⟩
 have mv:=λx v(h:QZ ok w x v)=>h.mono hok;have it:=λkvs seen r since sn(h:JV ok w kvs seen r since sn)=>h.mono hok;cases o with
 |arr e sz es mv=>
  cases l with
  |arr v xs=>have⟨ho,hm,hz,h1,hx⟩:=h;refine⟨by rw[QN9];exact row ho λb hb=>hb,by rw[QN9];exact hm,?_,h1,?_⟩<;>grind [WX,Ua]
  |_=>exact h.elim
 |yo e sz kvs pend=>
  cases l with
  |map b vals=>have⟨hB,⟨es,clock,hb,hm⟩,hd,hk,hr,ha⟩:=h;refine⟨(hl b (.inl rfl)).1,⟨es,clock,(hl b (.inl rfl)).2.trans hb,hm⟩,hd,hk,λi p q hp hq=>?_,ha⟩;have⟨xs,h1,h2,h3,h4,h5⟩:=hr i p q hp hq;exact⟨xs,row h1 λb' hb'=>.inr ⟨q,QOh hq,hb'⟩,h2,h3,h4,by grind⟩
  |_=>exact h.elim
 |ext s=>
  cases l with
  |ext O D=>have⟨h1,h2,h3⟩:=h;exact⟨by have:=hw.size;grind,by grind,s.stay O D w w' h3 ⟨hw.os,hw.tape,hw.output,hw.size,by grind⟩⟩
  |_=>exact h.elim
 |xh kvs=>
  cases l with
  |one b=>have⟨_,es,clock,hb,hm,hd',hx⟩:=h;exact⟨(hl b rfl).1,es,clock,(hl b rfl).2.trans hb,hm,hd',by grind⟩
  |_=>exact h.elim
 |_=>cases l<;>simp only[QK,Qgt] at h |-<;>first|exact h.elim|grind [WX,Ua]
def QmS{g:FuncId}{avs args:List AV}{ids keep st dom:List Nat}{y y':AV}{lo' lo0 lo1:Nat->Option AO}{vs:List Value}(hK:∀w',Zv w0.fr w0.w w'->K w')(hok0:∀b,¬w0.fr b->ok0 b)(h:Rel ok0 N w0 lk lo a w L)
  (hh:HG P K g avs ids keep lo y' lo' args lo0 st y lo1 dom)(hl:vs.length=avs.length)(hx:∀(k:Nat)x u,avs[k]?=some x->vs[k]?=some u->QG (okL ok0 lo L) w lo L x u):
  Calls P g vs.toArray w (λe w'=>∃v L',e=.returned v/\Rel ok0 N w0 (λt=>scr keep (lk t)) lo' a w' L'/\QG (okL ok0 lo' L') w' lo' L' y' v):=by
 let m:=nth ids
 let L0:Nat->Lay:=λi=>L (m i)
 have hinj:∀i j,i<ids.length->j<ids.length->m i=m j->i=j:=λi j hi hj e=>by have h1:=JF hh.nd hi;have h2:=JF hh.nd hj;grind
 have hdom:∀i,dom.contains i=true->(lo0 i).isSome=true:=λi hi=>(hh.dom0 i).1 hi;have hlo0:∀i o,lo0 i=some o->lo (m i)=some (rnO m o)/\L0 i=L (m i):=λi o ho=>⟨(hh.xc i o ho).2.1,rfl⟩;have hlt0:∀i o,lo0 i=some o->i<ids.length:=λi o ho=>(hh.xc i o ho).1;have hown:∀b,QaF lo0 L0 b->∃i o,lo0 i=some o/\lo (m i)=some (rnO m o)/\(L (m i)).has b:=λb ⟨i,o,ho,hb⟩=>⟨i,o,ho,(hlo0 i o ho).1,hb⟩;have hownfr:∀b,QaF lo0 L0 b->¬w0.fr b/\b<w.heap.size:=λb hb=>by have⟨i,o,_,h1,h2⟩:=hown b hb;exact(h.y8 _ _ h1).lt h2
 let okc:Nat->Prop:=λb=>okL ok0 lo L b\/QaF lo0 L0 b
 have hokc:∀b,okL ok0 lo L b->okL okc lo0 L0 b:=λb hb=>⟨.inl hb,λi o ho hbb=>hb.2 _ _ (hlo0 i o ho).1 hbb⟩;have hlaid:QoR (FrO w lo0 L0) okc w lo0 L0:=by
  refine⟨λi o ho=>?_,λi j oi oj b hij hi hj h1 h2=>?_⟩
  .obtain⟨_,h2,h3,h4⟩:=hh.xc i o ho;exact Qmu hokc hdom hlo0 h3 h4 (λb hb hf=>hf.2 ⟨i,o,ho,hb⟩) (h.y8 _ _ h2)
  exact h.apart (m i) (m j) _ _ b (λe=>hij (hinj i j (hlt0 i oi hi) (hlt0 j oj hj) e)) (hlo0 i oi hi).1 (hlo0 j oj hj).1 h1 h2
 have hal:vs.length=args.length:=by rw[hl,hh.hargs,QN9]
 have hfrO:∀b,w0.fr b->FrO w lo0 L0 b:=λb hb=>⟨h.frl b hb,λho=>(hownfr b ho).1 hb⟩;refine(hh.hg w okc L0 vs (λw' hk=>hK w' (h.below.trans (hk.mono hfrO))) (λb hb=>.inl ⟨hok0 b (h.frlt hb),λi o ho hbb=>by have:=((h.y8 i o ho).lt hbb).2;omega⟩) (λb hb=>.inr hb) hlaid hal (λk x u hxk hu=>?_)).mono ?_
 .have hcl:clA dom x=true:=QOt.1 hh.cla x (QOh hxk);exact QiU hokc hdom hlo0 hcl (hx k (rn m x) u (by rw[hh.hargs,QN6,hxk];rfl) hu)
 rintro e w' ⟨v,L1,rfl,hlaid1,hrep,hk,hst⟩
 let L':Nat->Lay:=λi=>match U9 ids i with
  |some j=>L1 j
  |none=>L i
 have hlom:∀j,j<ids.length->lo' (m j)=(lo1 j).map (rnO m)/\L' (m j)=L1 j:=λj hj=>by have:=JF hh.nd hj;refine⟨by rw[hh.hlo'];simp only[m,this],by simp only[L',m,this]⟩
 have hsame:∀b,b<w.heap.size->¬QaF lo0 L0 b->w'.heap[b]?=w.heap[b]?:=λb h1 h2=>hk.block b ⟨h1,h2⟩;have hnew:∀j o b,lo1 j=some o->(L1 j).has b->QaF lo0 L0 b\/w.heap.size<=b:=λj o b ho hb=>by
  have h1:=((hlaid1.y8 j o ho).lt hb).1;by_cases hbs:b<w.heap.size
  .exact .inl (Classical.byContradiction λhn=>h1 ⟨hbs,hn⟩)
  exact .inr (QO9.1 hbs)
 have hother:∀i o,U9 ids i=none->lo i=some o->∀b,(L i).has b->¬QaF lo0 L0 b/\b<w.heap.size/\¬w0.fr b:=λi o hi ho b hb=>by
  have⟨h1,h2⟩:=(h.y8 i o ho).lt hb;refine⟨λhown'=>?_,h2,h1⟩;have⟨j,oj,hj,hj',hjb⟩:=hown b hown';have hne:i≠m j:=λe=>by have hidx:=JF hh.nd (hlt0 j oj hj);have e':i=nth ids j:=e;rw[<- e',hi] at hidx;cases hidx
  exact h.apart i (m j) o _ b hne ho hj' hb hjb
 have hkept:∀i o,U9 ids i=none->lo' i=some o->keep.contains i=true/\∃o0,lo i=some o0/\o=Qgt keep o0:=λi o hi ho=>by
  rw[hh.hlo',hi] at ho;simp only at ho;split at ho
  .rename_i hc;rw[QN2] at ho;have⟨o0,h1,h2⟩:=ho;exact⟨hc,o0,h1,h2.symm⟩
  cases ho
 have hin:∀i j o,U9 ids i=some j->lo' i=some o->j<ids.length/\i=m j/\∃o1,lo1 j=some o1/\o=rnO m o1:=λi j o hi ho=>by have⟨h1,h2⟩:=qq hi;rw[hh.hlo',hi] at ho;simp only[QN2] at ho;have⟨o1,h3,h4⟩:=ho;exact⟨h1,h2.symm,o1,h3,h4.symm⟩
 have hLn:∀i,U9 ids i=none->L' i=L i:=λi hi=>by simp only[L',hi]
 have hok:∀b,okL ok0 lo L b->b<w.heap.size->okL ok0 lo' L' b/\w'.heap[b]?=w.heap[b]?:=λb hb hbs=>by
  have hno:¬QaF lo0 L0 b:=λho=>by have⟨i,o,_,h1,h2⟩:=hown b ho;exact hb.2 _ _ h1 h2
  refine⟨⟨hb.1,λi o ho hbb=>?_⟩,hsame b hbs hno⟩;cases hi:U9 ids i with
  |none=>have⟨_,o0,h1,_⟩:=hkept i o hi ho;rw[hLn i hi] at hbb;exact hb.2 i o0 h1 hbb
  |some j=>obtain⟨h1,rfl,o1,h2,_⟩:=hin i j o hi ho;grind
 have hokn:∀b,okL okc lo1 L1 b->okL ok0 lo' L' b:=λb hb=>by
  refine⟨?_,λi o ho hbb=>?_⟩
  .grind
  cases hi:U9 ids i with
  |none=>have⟨_,o0,h1,_⟩:=hkept i o hi ho;grind
  |some j=>obtain⟨h1,rfl,o1,h2,_⟩:=hin i j o hi ho;rw[(hlom j h1).2] at hbb;exact hb.2 j o1 h2 hbb
 have hrn:∀j o,lo1 j=some o->lo' (m j)=some (rnO m o)/\L' (m j)=L1 j:=λj o ho=>by have⟨h1,h2⟩:=hlom j (hh.y9 j o ho).1;exact⟨by rw[h1,ho];rfl,h2⟩
 have hobj1:∀j o,lo1 j=some o->QK w0.fr (okL ok0 lo' L') w' lo' L' (rnO m o) (L1 j):=λj o ho=>by
  have h1:=QxV hokn hrn (hlaid1.y8 j o ho);have hne:=(hh.y9 j o ho).2;refine h1.frameN' (by cases o<;>first|rfl|cases hne) λb hb hf=>?_;rcases hnew j o b ho hb with h3|h3
  .exact(hownfr b h3).1 hf
  exact h.frlt h3 hf
 have hkeeps:∀i o,keep.contains i=true->lo i=some o->Qxm w0.fr (okL ok0 lo' L') keep w w' lo lo' L L' i o:=λi o hc ho=>by
  cases hi:U9 ids i with
  |none=>exact .inl ⟨by rw[hh.hlo',hi];simp only[hc,if_true,ho,QPf],hLn i hi,λb hb=>hsame b (hother i o hi ho b hb).2.1 (hother i o hi ho b hb).1⟩
  |some j=>
   have⟨h1,h2⟩:=qq hi;have hjs:=hh.y4 i hc j hi;cases hlo0j:lo0 j with
   |none=>have:=hh.xd j h1 hlo0j;rw[h2,ho] at this;cases this
   |some o0=>
    have⟨o',h3,h4⟩:=hst j hjs o0 hlo0j;have h5:=(hlo0 j o0 hlo0j).1;have h5':lo i=some (rnO m o0):=by rw[<- h2];exact h5
    rw[ho] at h5';injection h5' with h5';subst h5';have⟨h6,h7⟩:=hrn j o' h3;have h6':lo' i=some (rnO m o'):=by rw[<- h2];exact h6
    have h7':L' i=L1 j:=by rw[<- h2];exact h7
    have hLi:L i=L0 j:=by show L i=L (m j);rw[<- h2]
    refine .inr ⟨rnO m o',h6',?_,by rw[h7'];exact hobj1 j o' h3⟩;rw[h7',hLi]
    revert h4
    generalize L0 j=l0;generalize L1 j=l1;cases o0<;>cases o'<;>cases l0<;>cases l1<;>simp only[VR,rnO,QN9,imp_self,false_implies]
 have hmvle:∀id e sz es mv,lo id=some (.arr e sz es mv)->mv<=es.length:=λid e sz es mv ho=>by
  have hob:=h.y8 id _ ho;cases hL:L id with
  |arr v xs=>rw[hL] at hob;exact hob.2.1
  |_=>rw[hL] at hob;exact hob.elim
 have all:∀x v,QG (okL ok0 lo L) w lo L x v->QG (okL ok0 lo' L') w' lo' L' (scr keep x) v:=λx v hr=>Qmn (Fr:=w0.fr) hok hmvle hkeeps hr;have hkw:Zv w0.fr w w':=hk.mono hfrO;refine⟨v,L',rfl,⟨h.below.trans hkw,?_,h.size,λt=>all _ _ (h.env t),λi o ho=>?_,λi j oi oj b hij hi hj h1 h2=>?_,h.pin⟩,?_⟩
 .refine h.defers.stay (λr hr hno=>hsame r hr λho=>?_) (λr hr hno i o ho hb=>?_)
  .obtain⟨i,o,_,h1,h2⟩:=hown r ho;exact hno _ _ h1 h2
  cases hi:U9 ids i with
  |none=>have⟨_,o0,h1,_⟩:=hkept i o hi ho;rw[hLn i hi] at hb;exact hno i o0 h1 hb
  |some j=>obtain⟨h1,rfl,o1,h2,_⟩:=hin i j o hi ho;grind
 .cases hi:U9 ids i with
  |none=>
   obtain⟨_,o0,h1,rfl⟩:=hkept i o hi ho;rw[hLn i hi]
   exact QgQ ⟨hk.os,hk.tape,hk.output,hk.size⟩ hok (λb hb=>⟨(hother i o0 hi h1 b hb).2.2,hsame b (hother i o0 hi h1 b hb).2.1 (hother i o0 hi h1 b hb).1⟩)
    (λb hb hbok=>⟨hb,(hok b hbok (h.frl b hb)).1,(hok b hbok (h.frl b hb)).2⟩) all (h.y8 i o0 h1)
  |some j=>obtain⟨h1,rfl,o1,h2,rfl⟩:=hin i j o hi ho;rw[(hlom j h1).2];exact hobj1 j o1 h2
 .cases hi':U9 ids i with
  |none=>
   have⟨_,oi0,hi1,_⟩:=hkept i oi hi' hi;rw[hLn i hi'] at h1;cases hj':U9 ids j with
   |none=>have⟨_,oj0,hj1,_⟩:=hkept j oj hj' hj;rw[hLn j hj'] at h2;exact h.apart i j oi0 oj0 b hij hi1 hj1 h1 h2
   |some q=>obtain⟨g1,rfl,o1,g2,_⟩:=hin j q oj hj' hj;grind
  |some p=>
   obtain⟨f1,rfl,p1,f2,_⟩:=hin i p oi hi' hi;rw[(hlom p f1).2] at h1;cases hj':U9 ids j with
   |none=>have⟨_,oj0,hj1,_⟩:=hkept j oj hj' hj;grind
   |some q=>obtain⟨g1,rfl,o1,g2,_⟩:=hin j q oj hj' hj;rw[(hlom q g1).2] at h2;exact hlaid1.apart p q p1 o1 b (λe=>hij (by rw[e])) f2 g2 h1 h2
 .rw[hh.hy]
  exact QwH hokn hrn hrep
end
structure Fs where
 lk:Nat->AV
 lo:Nat->Option AO
def Fs.app(σ:Fs)(d:Option Nat)(v:AV)(up:Option (Nat×AO)):Fs:=⟨JW σ.lk d v,upO σ.lo up⟩
inductive YP(P:Program)(K:World->Prop):AOp->Fs->AV->Option (Nat×AO)->Prop
 |plain(op σ s f v up)(he:ev σ.lk σ.lo op=.ok s f v up)(hs:s):YP P K op σ v up
 |call(g args ids σ xs r)(hp:Qbg σ.lo ids (args.map (·.av σ.lk))=some xs)(hg:Good P K g xs r)(hr:ids=[]\/Zh r=true):YP P K (.call g args ids) σ (.iv r) none
 |y2(g args id σ xs q e sz rows mv)(hp:ivs (args.map (·.av σ.lk))=some xs)(hg:QdU P K g xs q e sz rows mv)(hid:σ.lo id=none):
  YP P K (.y2 g args [] id) σ (ren id q) (some (id,ZG e sz rows mv))
 |y1(x g args ids σ xs r)(hx:x.av σ.lk=.iv (.fn g))(hc:callee P g=true)(hp:Qbg σ.lo ids (args.map (·.av σ.lk))=some xs)(hg:Good P K g xs r)(hr:ids=[]\/Zh r=true):
  YP P K (.y1 x args ids) σ (.iv r) none
 |yx(g:FuncId)(x:Opd)(args:List Opd)(id:Nat)(σ:Fs)(xs:List IV)(e:TypeId)(sz:Nat)(rows rows':List (List IV))(mv:Nat)(hx:x.av σ.lk=.yl id rows.length)(hid:σ.lo id=some (ZG e sz rows mv))(hp:ivs (args.map (·.av σ.lk))=some xs)(hg:QaG P K g e sz rows xs rows'):
  YP P K (.yx g x args id) σ (.yl id rows'.length) (some (id,ZG e sz rows' rows'.length))
 |callm(g:FuncId)(x:Opd)(args:List Opd)(id:Nat)(σ:Fs)(xs:List IV)(e:TypeId)(sz:Nat)(kvs:List (MK×List (List IV)))(k:MK)(n:Nat)(rows':List (List IV))(hx:x.av σ.lk=.yn id k n)(hn:((Qv k kvs).getD []).length=n)(hid:σ.lo id=some (.yo e sz kvs none))
  (hp:ivs (args.map (·.av σ.lk))=some xs)(hg:QaG P K g e sz ((Qv k kvs).getD []) xs rows'):
  YP P K (.yx g x args id) σ (.yn id k rows'.length) (some (id,.yo e sz (zn k rows' kvs) (some k)))
 |caldc(x:Opd)(g:FuncId)(fs cs:List IV)(args:List Opd)(ids:List Nat)(σ:Fs)(xs:List IV)(r:IV)(hc:callee P g=true)(hp:Qbg σ.lo ids (x.av σ.lk::args.map (·.av σ.lk))=some (.clo g fs cs::xs))(hg:Good P K g (fs++xs++cs) r)(hr:ids=[]\/Zh r=true):
  YP P K (.y1 x args ids) σ (.iv r) none
 |yw(x:Opd)(args:List Opd)(id:Nat)(σ:Fs)(xs:List IV)(s s':Ext)(y:IV)(hx:x.av σ.lk=.cb id)(hid:σ.lo id=some (.ext s))(hp:ivs (args.map (·.av σ.lk))=some xs)(hg:VS P K s xs y s')(hy:Zh y=true):
  YP P K (.yw x args id) σ (.iv y) (some (id,.ext s'))
 |yu(g:FuncId)(args:List Opd)(x:Opd)(id:Nat)(σ:Fs)(xs:List IV)(s s':Ext)(y:IV)(hx:x.av σ.lk=.cb id)(hid:σ.lo id=some (.ext s))(hp:ivs (args.map (·.av σ.lk))=some xs)(hg:QoQ P K g xs [] s y s')(hy:Zh y=true):
  YP P K (.yu g (args++[x]) id) σ (.iv y) (some (id,.ext s'))
 |cpy(id:Nat)(x y:Opd)(σ:Fs)(e:TypeId)(rows rows':List (List IV))(mv:Nat)(hx:x.av σ.lk=.yl id rows.length)(hid:σ.lo id=some (ZG e 1 rows mv))(hy:y.av σ.lk=.iv (.sl 1 rows'))(hl:rows'.length=rows.length):YP P K (.cpy id x y) σ (.iv (.int .i64 rows.length)) (some (id,ZG e 1 rows' rows'.length))
def AOp.isCb:AOp->Bool
 | .yw _ _ _| .yu _ _ _=>true
 |_=>false
def Yields(P:Program)(K:World->Prop)(A:Zi)(σ:Fs)(v:AV)(up:Option (Nat×AO)):Prop:=
 match A.g with
 |none=>YP P K A.op σ v up
 |some (t,b)=>(σ.lk t=.iv (.bool b)/\YP P K A.op σ v up)\/((σ.lk t=.iv (.bool (!b))\/σ.lk t=.iv (.xf []))/\v=.iv (.xf [])/\up=none)
def QrY:AV->Option (FuncId×List AV×List AV)
 | .iv (.fn g)=>some (g,[],[])
 | .iv (.clo g fs cs)=>some (g,fs.map .iv,cs.map .iv)
 | .clo g fs cs=>some (g,fs,cs)
 |_=>none
def AOp.isH:AOp->Bool
 | .yz _ _ _| .y3 _ _ _=>true
 |_=>false
inductive Wi(P:Program)(K:World->Prop)(d:Option Nat)(σ:Fs):AOp->Fs->Prop
 |yz(g args ids keep y' lo' args0 lo0 st y lo1 dom)
  (h:HG P K g (args.map (·.av σ.lk)) ids keep σ.lo y' lo' args0 lo0 st y lo1 dom):Wi P K d σ (.yz g args ids) ⟨JW (λt=>scr keep (σ.lk t)) d y',lo'⟩
 |y3(x g fs cs args ids keep y' lo' args0 lo0 st y lo1 dom)
  (hx:QrY (x.av σ.lk)=some (g,fs,cs))(hc:callee P g=true)(h:HG P K g (fs++args.map (·.av σ.lk)++cs) ids keep σ.lo y' lo' args0 lo0 st y lo1 dom):Wi P K d σ (.y3 x args ids) ⟨JW (λt=>scr keep (σ.lk t)) d y',lo'⟩
inductive qM(P:Program)(K:World->Prop)(A:Zi)(σ:Fs):Fs->Prop
 |app(v up)(hy:Yields P K A σ v up):qM P K A σ (σ.app A.d v up)
 |h(σ')(hg:A.g=none\/∃t b,A.g=some (t,b)/\σ.lk t=.iv (.bool b))(hh:Wi P K A.d σ A.op σ'):qM P K A σ σ'
theorem Wi.isH{P K d σ σ' op}(h:Wi P K d σ op σ'):op.isH=true:=by cases h<;>rfl
def Zi.tmps(A:Zi):List Nat:=A.op.tmps++(match A.g with|some (t,_)=>[t]|none=>[])
def Qac{lo lo' ids xs}(h:∀i∈ids,lo' i=lo i):Qbg lo' ids xs=Qbg lo ids xs:=by unfold Qbg;grind
section
variable{P:Program}{K:World->Prop}
def YP.congr{op σ σ' v up}(h:YP P K op σ v up)(h1:∀t∈op.tmps,σ'.lk t=σ.lk t)(h2:∀i∈op.y8,σ'.lo i=σ.lo i):YP P K op σ' v up:=by
 cases h with
 |plain op σ s f v up he hs=>exact .plain _ _ s f _ _ (by rw[QuQ h1 h2];exact he) hs
 |call g args ids _ xs r hp hg hr=>refine .call g args ids σ' xs r ?_ hg hr;rw[Q2 (lk:=σ.lk) (lk':=σ'.lk) (by simpa[AOp.tmps] using h1),Qac (lo:=σ.lo) (by simpa[AOp.y8] using h2)];exact hp
 |y2 g args id _ xs q e sz rows mv hp hg hid=>
  refine .y2 g args id σ' xs q e sz rows mv ?_ hg ?_
  .rw[Q2 (lk:=σ.lk) (lk':=σ'.lk) (by simpa[AOp.tmps] using h1)]
   exact hp
  rw[h2 id (by simp[AOp.y8])]
  exact hid
 |y1 x g args ids _ xs r hx hc hp hg hr=>
  refine .y1 x g args ids σ' xs r ?_ hc ?_ hg hr
  .rw[Opd.av_congr (lk:=σ.lk) (λt ht=>h1 t (by simp[AOp.tmps,ht]))]
   exact hx
  rw[Q2 (lk:=σ.lk) (lk':=σ'.lk) (λt ht=>h1 t (by simp only[AOp.tmps,QOc];exact .inr ht)),Qac (lo:=σ.lo) (by simpa[AOp.y8] using h2)]
  exact hp
 |yx g x args id _ xs e sz rows rows' mv hx hid hp hg=>
  refine .yx g x args id σ' xs e sz rows rows' mv ?_ ?_ ?_ hg
  .rw[Opd.av_congr (lk:=σ.lk) (λt ht=>h1 t (by simp[AOp.tmps,ht]))]
   exact hx
  .rw[h2 id (by simp[AOp.y8])]
   exact hid
  rw[Q2 (lk:=σ.lk) (lk':=σ'.lk) (λt ht=>h1 t (by simp only[AOp.tmps,QOc];exact .inr ht))]
  exact hp
 |callm g x args id _ xs e sz kvs k n rows' hx hn hid hp hg=>
  refine .callm g x args id σ' xs e sz kvs k n rows' ?_ hn ?_ ?_ hg
  .rw[Opd.av_congr (lk:=σ.lk) (λt ht=>h1 t (by simp[AOp.tmps,ht]))]
   exact hx
  .rw[h2 id (by simp[AOp.y8])]
   exact hid
  .rw[Q2 (lk:=σ.lk) (lk':=σ'.lk) (λt ht=>h1 t (by simp only[AOp.tmps,QOc];exact .inr ht))]
   exact hp
 |caldc x g fs cs args ids _ xs r hc hp hg hr=>refine .caldc x g fs cs args ids σ' xs r hc ?_ hg hr;rw[Opd.av_congr (lk:=σ.lk) (λt ht=>h1 t (by simp[AOp.tmps,ht])),Q2 (lk:=σ.lk) (lk':=σ'.lk) (λt ht=>h1 t (by simp only[AOp.tmps,QOc];exact .inr ht)),Qac (lo:=σ.lo) (by simpa[AOp.y8] using h2)];exact hp
 |yw x args id _ xs s s' y hx hid hp hg hy=>
  refine .yw x args id σ' xs s s' y ?_ ?_ ?_ hg hy
  .rw[Opd.av_congr (lk:=σ.lk) (λt ht=>h1 t (by simp[AOp.tmps,ht]))]
   exact hx
  .rw[h2 id (by simp[AOp.y8])]
   exact hid
  rw[Q2 (lk:=σ.lk) (lk':=σ'.lk) (λt ht=>h1 t (by simp only[AOp.tmps,QOc];exact .inr ht))]
  exact hp
 |yu g args x id _ xs s s' y hx hid hp hg hy=>
  refine .yu g args x id σ' xs s s' y ?_ ?_ ?_ hg hy
  .rw[Opd.av_congr (lk:=σ.lk) (λt ht=>h1 t (by simp only[AOp.tmps,QPP,QOc];exact .inr (by simp[ht])))]
   exact hx
  .rw[h2 id (by simp[AOp.y8])]
   exact hid
  rw[Q2 (lk:=σ.lk) (lk':=σ'.lk) (λt ht=>h1 t (by simp only[AOp.tmps,QPP,QOc];exact .inl ht))]
  exact hp
 |cpy id x y _ e rows rows' mv hx hid hy hl=>
  refine .cpy id x y σ' e rows rows' mv ?_ ?_ ?_ hl
  .rw[Opd.av_congr (lk:=σ.lk) (λt ht=>h1 t (by simp[AOp.tmps,ht]))]
   exact hx
  .rw[h2 id (by simp[AOp.y8])]
   exact hid
  .rw[Opd.av_congr (lk:=σ.lk) (λt ht=>h1 t (by simp[AOp.tmps,ht]))]
   exact hy
theorem YP.sets{op σ v id ob}(h:YP P K op σ v (some (id,ob))):id∈op.sets:=by
 cases h with
 |plain _ _ s f _ _ he hs=>exact QAN he
 |y2=>simp[AOp.sets]
 |yx=>simp[AOp.sets]
 |callm=>simp[AOp.sets]
 |yw=>simp[AOp.sets]
 |yu=>simp[AOp.sets]
 |cpy=>simp[AOp.sets]
theorem Yields.congr{A σ σ' v up}(h:Yields P K A σ v up)(h1:∀t∈A.tmps,σ'.lk t=σ.lk t)(h2:∀i∈A.op.y8,σ'.lo i=σ.lo i):Yields P K A σ' v up:=by
 unfold Yields Zi.tmps at *;cases hg:A.g with
 |none=>simp[hg] at h h1 |-;exact h.congr (λt ht=>h1 t (by simp[ht])) h2
 |some tb=>have⟨t,b⟩:=tb;simp[hg] at h h1 |-;have ht:=h1 t (by simp);rw[ht];exact h.imp (λ⟨h3,h4⟩=>⟨h3,h4.congr (λt ht=>h1 t (by simp[ht])) h2⟩) id
theorem Yields.sets{A σ v id ob}(h:Yields P K A σ v (some (id,ob))):id∈A.op.sets:=by
 unfold Yields at h;split at h
 .exact h.sets
 .rcases h with ⟨_,h⟩|⟨_,_,h⟩
  .exact h.sets
  .cases h
def Qil(A B:Zi):Bool:=
 !A.op.isH&&!B.op.isH &&
 (match A.d with|some d=>!B.tmps.contains d&&B.d != some d|none=>true) &&
 (match B.d with|some d=>!A.tmps.contains d|none=>true) &&
 A.op.sets.all (λi=>!B.op.y8.contains i&&!B.op.sets.contains i) &&
 B.op.sets.all (λi=>!A.op.y8.contains i)
def Qdq{A B}(h:Qil A B=true):A.op.isH=false/\B.op.isH=false/\(∀d,A.d=some d->d∉B.tmps/\B.d≠some d)/\(∀d,B.d=some d->d∉A.tmps) /\(∀i∈A.op.sets,i∉B.op.y8/\i∉B.op.sets)/\(∀i∈B.op.sets,i∉A.op.y8):=by simp[Qil,QNZ,QOt,QOD] at h;grind
def J5{lk d v t}(h:∀x,d=some x->x≠t):JW lk d v t=lk t:=by
 cases d with
 |none=>rfl
 |some x=>simp[JW,Ne.symm (h x rfl)]
def Qme{lo up i}(h:∀x o,up=some (x,o)->x≠i):upO lo up i=lo i:=by
 cases up with
 |none=>rfl
 |some p=>have⟨x,o⟩:=p;simp[upO,Zn,Ne.symm (h x o rfl)]
def Qwi{A B:Zi}(h:Qil A B=true){σ:Fs}{v u:AV}{up uq:Option (Nat×AO)}(hs:∀i o,up=some (i,o)->i∈A.op.sets)(hs':∀i o,uq=some (i,o)->i∈B.op.sets):(σ.app A.d v up).app B.d u uq=(σ.app B.d u uq).app A.d v up:=by
 have⟨_,_,h1,h2,h3,h4⟩:=Qdq h;unfold Fs.app;congr 1
 .funext t;cases hA:A.d with
  |none=>rfl
  |some d=>
   cases hB:B.d with
   |none=>rfl
   |some d'=>simp only[JW];by_cases e1:t=d'<;>by_cases e2:t=d<;>simp_all
 .funext i;cases up with
  |none=>rfl
  |some p=>
   cases uq with
   |none=>rfl
   |some q=>have⟨x,ox⟩:=p;have⟨y,oy⟩:=q;simp only[upO,Zn];by_cases e1:i=y<;>by_cases e2:i=x<;>simp_all
variable{ops:Array Oper}{az:List Zi}{md:Region.Mode}
def Qgn(P:Program)(K:World->Prop)(az:List Zi)(i:Nat)(C:Fs->Prop)(σ:Fs):Prop:=
 match az[i]? with
 |none=>C σ
 |some A=>∃σ',qM P K A σ σ'/\C σ'
def Qs0{i C C' σ}(h:∀σ,C σ->C' σ)(hh:Qgn P K az i C σ):Qgn P K az i C' σ:=by
 unfold Qgn at *
 grind
def QgA(P:Program)(K:World->Prop)(md:Region.Mode)(ops:Array Oper)(az:List Zi)(Q:Fs->Prop):Nat->Array Bool->Fs->Prop
 |0,listed,σ=>Region.ready md ops listed=[]/\Q σ
 |fuel+1,listed,σ=>
  (Region.ready md ops listed=[]->Q σ) /\
  ∀i∈Region.ready md ops listed,Qgn P K az i (QgA P K md ops az Q fuel (listed.setIfInBounds i true)) σ
def Qwg{j:Nat}{Ai Aj:Zi}(hj:az[j]?=some Aj)(hap:Qil Ai Aj=true){C:Fs->Prop}{σ σ1:Fs}
  (hy:qM P K Ai σ σ1)(h:Qgn P K az j C σ1):
  Qgn P K az j (λσ'=>∃σ2,qM P K Ai σ' σ2/\C σ2) σ:=by
 have⟨g1,g2,h1,h2,h3,h4⟩:=Qdq hap;cases hy with
 |h _ _ hh=>rw[hh.isH] at g1;cases g1
 |app v up hy=>
  have hsi:∀i o,up=some (i,o)->i∈Ai.op.sets:=λi o e=>by subst e;exact hy.sets
  unfold Qgn at *;simp only[hj] at *;obtain⟨σ',hm,hc⟩:=h;cases hm with
  |h _ _ hh=>rw[hh.isH] at g2;cases g2
  |app u uq hu=>
   have hu':Yields P K Aj σ u uq:=by
    refine hu.congr (λt ht=>?_) (λi hi=>?_)
    .simp only[Fs.app];exact(J5 λx hx e=>(h1 x hx).1 (e▸ht)).symm
    simp only[Fs.app];exact(Qme λx o hx e=>(h3 x (hsi x o hx)).1 (e▸hi)).symm
   have hsj:∀i o,uq=some (i,o)->i∈Aj.op.sets:=λi o e=>by subst e;exact hu.sets
   refine⟨_,.app u uq hu',_,.app v up (hy.congr (λt ht=>?_) (λi hi=>?_)),?_⟩
   .simp only[Fs.app];exact J5 λx hx e=>h2 x hx (e▸ht)
   .simp only[Fs.app];exact Qme λx o hx e=>h4 x (hsj x o hx) (e▸hi)
   .rw[<- Qwi hap hsi hsj]
    exact hc
def AOp.quiet(d:Option Nat):AOp->Bool
 | .xg (.t s)=>d != some s
 | .ldi _ _ x=>x.tmps.all λs=>d != some s
 | .yy (.zslv _)=>true
 | .bsl _ ps=>(ps.flatMap (·.tmps)).isEmpty
 |_=>false
def QgP{op:AOp}{dj:Option Nat}{keep:List Nat}{y':AV}{lk:Nat->AV}{lo lo':Nat->Option AO}{s f:Prop}{v:AV}{up:Option (Nat×AO)}(hq:op.quiet dj=true)(he:ev lk lo op=.ok s f v up):up=none/\ev (JW (λt=>scr keep (lk t)) dj y') lo' op=.ok s f (scr keep v) none:=by
 have hav:∀x:Opd,(∀t∈x.tmps,dj≠some t)->x.av (JW (λt=>scr keep (lk t)) dj y')=match x with| .t t=>scr keep (lk t)|_=>x.av lk:=by
  intro x hx;cases x with
  |t t=>simp only[Opd.av];exact J5 λz hz e=>hx t (by simp[Opd.tmps]) (by rw[hz,e])
  |_=>rfl
 cases op with
 |xg x=>
  cases x with
  |t t=>simp only[AOp.quiet,bne_iff_ne,ne_eq] at hq;simp only[ev,Opd.av,Res.ok.injEq] at he;obtain⟨rfl,rfl,rfl,rfl⟩:=he;refine⟨rfl,?_⟩;simp only[ev,hav (.t t) (by simpa[Opd.tmps] using hq)]
  |_=>simp[AOp.quiet] at hq
 |ldi n ag x=>
  simp only[AOp.quiet,QOt,bne_iff_ne,ne_eq] at hq;have hx:=hav x hq;have hsame:∀cs,x.av lk=.iv (.ptr cs)->x.av (JW (λt=>scr keep (lk t)) dj y')=.iv (.ptr cs):=by
   intro cs hcs;rw[hx];cases x with
   |t t=>simp only[Opd.av] at hcs;simp only[hcs,scr]
   |_=>exact hcs
  simp only[ev] at he |-;unfold Qf0 at he;split at he
  .rename_i cs hcs;rw[hsame cs hcs];unfold Qf0;cases ag with
   |true=>simp only[Res.ok.injEq] at he;obtain⟨rfl,rfl,rfl,rfl⟩:=he;exact⟨rfl,by simp only[scr]⟩
   |false=>
    cases cs with
    |nil=>cases he
    |cons c r=>simp only[Res.ok.injEq] at he;obtain⟨rfl,rfl,rfl,rfl⟩:=he;exact⟨rfl,by simp only[scr]⟩
  cases he
 |bsl sz ps=>
  simp only[AOp.quiet,List.isEmpty_iff] at hq;simp only[ev] at he |-;rw[Q2 (lk:=lk) (by rw[hq];simp)];split at he
  .rename_i rows h1;split at he
   .rename_i es h2;simp only[Res.ok.injEq] at he;obtain⟨rfl,rfl,rfl,rfl⟩:=he;exact⟨rfl,by simp only[scr]⟩
   cases he
  cases he
 |yy op=>
  cases op with
  |zslv sz=>simp only[ev,evY] at he |-;cases he;exact⟨rfl,by simp only[scr]⟩
  |_=>simp[AOp.quiet] at hq
 |_=>simp[AOp.quiet] at hq
def Qs2(A B:Zi):Bool:=
 match B.op with
 | .yz _ _ _=>A.g==none&&B.g==none&&(match A.d with|some d=>!B.tmps.contains d&&B.d != some d|none=>true)&&A.op.quiet B.d
 |_=>false
def QsY{j Ai Aj}(hj:az[j]?=some Aj)(hap:Qs2 Ai Aj=true){C σ σ1}
  (hy:qM P K Ai σ σ1)(h:Qgn P K az j C σ1):
  Qgn P K az j (λσ'=>∃σ2,qM P K Ai σ' σ2/\C σ2) σ:=by
 have⟨di,gi,opi⟩:=Ai;have⟨dj,gj,opj⟩:=Aj;unfold Qs2 at hap;simp only at hap;split at hap
 .rename_i g args ids;simp only[QNZ,beq_iff_eq] at hap;obtain⟨⟨⟨rfl,rfl⟩,h1⟩,h2⟩:=hap;have hd:∀d,di=some d->d∉(args.flatMap (·.tmps))/\dj≠some d:=λd e=>by
   subst e;simpa[Zi.tmps,AOp.tmps] using h1
  cases hy with
  |h _ _ hh=>cases hh<;>simp[AOp.quiet] at h2
  |app v up hy=>
   cases hy with
   |plain _ _ st ft _ _ he hs=>
    obtain⟨rfl,_⟩:=QgP (keep:=[]) (y':=.ym 0) (lo':=σ.lo) h2 he;unfold Qgn at *;simp only[hj] at *;obtain⟨σ',hm,hc⟩:=h;cases hm with
    |app u uq hu=>
     simp only[Yields] at hu;cases hu with
     |plain _ _ _ _ _ _ he _=>simp[ev] at he
    |h _ hg hh=>
     cases hh with
     |yz _ _ _ keep y' lo' args0 lo0 st0 y lo1 dom hhg=>
      have hargs:args.map (·.av (σ.app di v none).lk)=args.map (·.av σ.lk):=by refine QO6 λx hx=>Opd.av_congr λt ht=>?_;simp only[Fs.app];exact J5 λd hdd e=>(hd d hdd).1 (QOK.2 ⟨x,hx,e▸ht⟩)
      rw[hargs] at hhg;refine⟨_,.h _ (.inl rfl) (.yz g args ids keep y' lo' args0 lo0 st0 y lo1 dom hhg),_,.app (scr keep v) none ?_,?_⟩
      .exact .plain _ _ st ft _ _ (QgP h2 he).2 hs
      have:(Fs.app ⟨JW (λt=>scr keep (σ.lk t)) dj y',lo'⟩ di (scr keep v) none)=⟨JW (λt=>scr keep ((σ.app di v none).lk t)) dj y',lo'⟩:=by
       unfold Fs.app;congr 1;funext t;cases di with
       |none=>rfl
       |some d=>
        have hne:=(hd d rfl).2;cases dj with
        |none=>simp only[JW];split<;>rfl
        |some d'=>have hne':d'≠d:=λe=>hne (by rw[e]);simp only[JW];by_cases e1:t=d'<;>by_cases e2:t=d<;>simp_all
      rw[this];exact hc
   |_=>simp[AOp.quiet] at h2
 .cases hap
def QwC{keep x y}(h:scr keep x=.iv y)(hy:y≠.any):x=.iv y:=by
 cases x with
 |iv z=>exact h
 |agg|ym|zsl|clo|xf=>simp[scr] at h
 |_=>simp[scr] at h;grind
def AOp.quietR(d:Option Nat):AOp->Bool
 | .fld _ x=>x.tmps.all λs=>d != some s
 |op=>op.quiet d
def Qrp{op:AOp}{dj:Option Nat}{keep:List Nat}{y':AV}{lk:Nat->AV}{lo lo':Nat->Option AO}{s f:Prop}{v:AV}{up:Option (Nat×AO)}(hq:op.quietR dj=true)(he:ev (JW (λt=>scr keep (lk t)) dj y') lo' op=.ok s f v up):
  up=none/\∃v0,v=scr keep v0/\ev lk lo op=.ok s f v0 none:=by
 have hav:∀x:Opd,(∀t∈x.tmps,dj≠some t)->x.av (JW (λt=>scr keep (lk t)) dj y')=match x with| .t t=>scr keep (lk t)|_=>x.av lk:=by
  intro x hx;cases x with
  |t t=>simp only[Opd.av];exact J5 λz hz e=>hx t (by simp[Opd.tmps]) (by rw[hz,e])
  |_=>rfl
 cases op with
 |xg x=>
  cases x with
  |t t=>simp only[AOp.quietR,AOp.quiet,bne_iff_ne,ne_eq] at hq;simp only[ev,hav (.t t) (by simpa[Opd.tmps] using hq),Res.ok.injEq] at he;obtain⟨rfl,rfl,rfl,rfl⟩:=he;exact⟨rfl,lk t,rfl,rfl⟩
  |_=>simp[AOp.quietR,AOp.quiet] at hq
 |ldi n ag x=>
  simp only[AOp.quietR,AOp.quiet,QOt,bne_iff_ne,ne_eq] at hq;have hx:=hav x hq;have hsame:∀cs,x.av (JW (λt=>scr keep (lk t)) dj y')=.iv (.ptr cs)->x.av lk=.iv (.ptr cs):=by
   intro cs hcs;rw[hx] at hcs;cases x with
   |t t=>exact QwC hcs (by simp)
   |_=>exact hcs
  simp only[ev] at he |-;unfold Qf0 at he;split at he
  .rename_i cs hcs;rw[hsame cs hcs];unfold Qf0;cases ag with
   |true=>simp only[Res.ok.injEq] at he;obtain⟨rfl,rfl,rfl,rfl⟩:=he;exact⟨rfl,_,by simp only[scr],rfl⟩
   |false=>
    cases cs with
    |nil=>cases he
    |cons c r=>simp only[Res.ok.injEq] at he;obtain⟨rfl,rfl,rfl,rfl⟩:=he;exact⟨rfl,_,by simp only[scr],rfl⟩
  cases he
 |fld off x=>
  simp only[AOp.quietR,QOt,bne_iff_ne,ne_eq] at hq;have hx:=hav x hq;simp only[ev] at he |-;unfold QoA at he;have hback:∀z,x.av (JW (λt=>scr keep (lk t)) dj y')=z->z≠.iv .any->(∀cs,z=.iv (.ptr cs)->x.av lk=z)/\(∀i o,z=.loc i o->x.av lk=z/\scr keep (.loc i (o+off))=.loc i (o+off))/\(∀i n j o,z=.yj i n j o->x.av lk=z/\scr keep (.yj i n j (o+off))=.yj i n j (o+off)):=by
   intro z hz _;rw[hx] at hz;cases x with
   |t t=>
    simp only at hz;refine⟨λcs e=>by subst e;exact QwC hz (by simp),λi o e=>?_,λi n j o e=>?_⟩
    .subst e;simp only[Opd.av];generalize lk t=w at hz;cases w with
     |loc i' o'=>
      simp only[scr] at hz |-
      grind
     |iv|agg|ym|zsl|clo|xf=>simp[scr] at hz
     |_=>simp only[scr] at hz;split at hz<;>cases hz
    subst e;simp only[Opd.av];generalize lk t=w at hz;cases w with
    |yj i' n' j' o'=>
     simp only[scr] at hz |-
     grind
    |iv|agg|ym|zsl|clo|xf=>simp[scr] at hz
    |_=>simp only[scr] at hz;split at hz<;>cases hz
   |_=>simp only at hz;refine⟨λcs _=>hz,λi o e=>?_,λi n j o e=>?_⟩<;>(subst e;simp[Opd.av] at hz)
  split at he
  .rename_i cs hcs;rw[(hback _ hcs (by simp)).1 cs rfl]
   simp only[Res.ok.injEq] at he;obtain⟨rfl,rfl,rfl,rfl⟩:=he;exact⟨rfl,.iv (.ptr (cs.drop off)),by simp only[scr],rfl⟩
  .rename_i id o hcs;obtain⟨h1,h2⟩:=(hback _ hcs (by simp)).2.1 id o rfl;rw[h1];simp only[Res.ok.injEq] at he;obtain⟨rfl,rfl,rfl,rfl⟩:=he;exact⟨rfl,.loc id (o+off),h2.symm,rfl⟩
  .rename_i id n i o hcs;obtain⟨h1,h2⟩:=(hback _ hcs (by simp)).2.2 id n i o rfl;rw[h1];simp only[Res.ok.injEq] at he;obtain⟨rfl,rfl,rfl,rfl⟩:=he;exact⟨rfl,.yj id n i (o+off),h2.symm,rfl⟩
  cases he
 |bsl sz ps=>
  simp only[AOp.quietR,AOp.quiet,List.isEmpty_iff] at hq;simp only[ev] at he |-;rw[Q2 (lk:=lk) (by rw[hq];simp)] at he;split at he
  .rename_i rows h1;split at he
   .rename_i es h2;simp only[Res.ok.injEq] at he;obtain⟨rfl,rfl,rfl,rfl⟩:=he;exact⟨rfl,.iv (.sl sz es),by simp only[scr],rfl⟩
   cases he
  cases he
 |yy op=>
  cases op with
  |zslv sz=>simp only[ev,evY] at he |-;cases he;exact⟨rfl,.zsl sz,by simp only[scr],rfl⟩
  |_=>simp[AOp.quietR,AOp.quiet] at hq
 |_=>simp[AOp.quietR,AOp.quiet] at hq
def Qs1(A B:Zi):Bool:=
 match A.op with
 | .yz _ _ _=>B.g==none&&A.g==none&&(match B.d with|some d=>!A.tmps.contains d&&A.d != some d|none=>true)&&B.op.quietR A.d
 |_=>false
def QsX{j Ai Aj}(hj:az[j]?=some Aj)(hap:Qs1 Ai Aj=true){C σ σ1}
  (hy:qM P K Ai σ σ1)(h:Qgn P K az j C σ1):
  Qgn P K az j (λσ'=>∃σ2,qM P K Ai σ' σ2/\C σ2) σ:=by
 have⟨di,gi,opi⟩:=Ai;have⟨dj,gj,opj⟩:=Aj;unfold Qs1 at hap;simp only at hap;split at hap
 .rename_i g args ids;simp only[QNZ,beq_iff_eq] at hap;obtain⟨⟨⟨rfl,rfl⟩,h1⟩,h2⟩:=hap;have hd:∀d,dj=some d->d∉(args.flatMap (·.tmps))/\di≠some d:=λd e=>by
   subst e;simpa[Zi.tmps,AOp.tmps] using h1
  unfold Qgn at *;simp only[hj] at *;obtain⟨σ',hm,hc⟩:=h;cases hy with
  |app v up hy=>
   cases hy with
   |plain _ _ _ _ _ _ he _=>simp[ev] at he
  |h _ hg hh=>
   cases hh with
   |yz _ _ _ keep y' lo' args0 lo0 st0 y lo1 dom hhg=>
    cases hm with
    |h _ _ hh=>cases hh<;>simp[AOp.quietR,AOp.quiet] at h2
    |app v up hu=>
     cases hu with
     |plain _ _ st ft _ _ he hs=>
      obtain⟨rfl,v0,rfl,he0⟩:=Qrp (lo:=σ.lo) h2 he;have hargs:args.map (·.av (σ.app dj v0 none).lk)=args.map (·.av σ.lk):=by refine QO6 λx hx=>Opd.av_congr λt ht=>?_;exact J5 λd hdd e=>(hd d hdd).1 (QOK.2 ⟨x,hx,e▸ht⟩)
      refine⟨_,.app v0 none (.plain _ _ st ft _ _ he0 hs),_,.h _ (.inl rfl) (.yz g args ids keep y' lo' args0 lo0 st0 y lo1 dom (by rw[hargs];exact hhg)),?_⟩;have:(Fs.app ⟨JW (λt=>scr keep (σ.lk t)) di y',lo'⟩ dj (scr keep v0) none)=⟨JW (λt=>scr keep ((σ.app dj v0 none).lk t)) di y',lo'⟩:=by
       unfold Fs.app;congr 1;funext t;cases dj with
       |none=>rfl
       |some d=>
        have hne:=(hd d rfl).2;cases di with
        |none=>simp only[JW];split<;>rfl
        |some d'=>have hne':d'≠d:=λe=>hne (by rw[e]);simp only[JW];by_cases e1:t=d'<;>by_cases e2:t=d<;>simp_all
      rw[<- this];exact hc
     |_=>simp[AOp.quietR,AOp.quiet] at h2
 .cases hap
def Qdr(A B:Zi):Bool:=Qil A B||Qs2 A B||Qs1 A B
def QsZ{j Ai Aj}(hj:az[j]?=some Aj)(hap:Qdr Ai Aj=true){C σ σ1}
  (hy:qM P K Ai σ σ1)(h:Qgn P K az j C σ1):
  Qgn P K az j (λσ'=>∃σ2,qM P K Ai σ' σ2/\C σ2) σ:=by
 simp[Qdr,QO8] at hap;rcases hap with (hap|hap)|hap
 .exact Qwg hj hap hy h
 .exact QsY hj hap hy h
 .exact QsX hj hap hy h
def Xp(md:Region.Mode)(ops:Array Oper):Nat->Nat->Nat->Bool
 |0,_,_=>false
 |n+1,i,j=>match ops[j]? with
  |none=>false
  |some o=>o.after.any (λe=>Region.binds md e&&e.on==i)||o.after.any (λe=>Region.binds md e&&decide (i<e.on)&&Xp md ops n i e.on)
def Clo(md:Region.Mode)(ops:Array Oper)(listed:Array Bool):Prop:=∀j o,ops[j]?=some o->listed.getD j false=true->∀e∈o.after,Region.binds md e=true->listed.getD e.on false=true
theorem Clo.not_reaches{listed i}(hc:Clo md ops listed)(hi:listed.getD i false=false):∀n j o,ops[j]?=some o->(∀e∈o.after,Region.binds md e=true->listed.getD e.on false=true)->Xp md ops n i j=false
 |0,_,_,_,_=>rfl
 |n+1,j,o,hj,xd=>by
  simp only[Xp,hj,Bool.or_eq_false_iff];rw[Array.any_eq_false',Array.any_eq_false'];refine⟨λe he hb=>?_,λe he hb=>?_⟩
  .grind
  .simp only[QNZ] at hb;obtain⟨⟨hb,_⟩,h⟩:=hb;have hl:=xd e he hb;cases ho:ops[e.on]? with
   |none=>
    cases n with
    |zero=>simp[Xp] at h
    |succ n=>simp[Xp,ho] at h
   |some o'=>rw[hc.not_reaches hi n e.on o' ho (hc e.on o' ho hl)] at h;cases h
def Clo.set{listed j}(hc:Clo md ops listed)(hj:j∈Region.ready md ops listed):Clo md ops (listed.setIfInBounds j true):=by
 intro k o ho hk e he hb;have⟨_,oj,hoj,xd⟩:=mem_ready.1 hj;by_cases hjk:j=k
 .subst hjk;rw[ho] at hoj;injection hoj with hoj;subst hoj;exact getD_set_true (xd e he hb)
 .rw[getD_set_ne _ hjk] at hk;exact getD_set_true (hc k o ho hk e he hb)
def Qon{listed:Array Bool}{i:Nat}(h:listed.getD i true=false):listed.getD i false=false:=by grind
def Qgz{Q:Fs->Prop}{i:Nat}{Ai:Zi}(hlen:ops.size=az.length)(hi:az[i]?=some Ai):∀(fuel:Nat)(listed:Array Bool)(σ σ1:Fs),(∀j Aj oj,az[j]?=some Aj->ops[j]?=some oj->j≠i->listed.getD j true=false->(∀n,Xp md ops n i j=false)->Qdr Ai Aj=true) ->Clo md ops listed->i∈Region.ready md ops listed->qM P K Ai σ σ1 ->QgA P K md ops az Q fuel (listed.setIfInBounds i true) σ1->QgA P K md ops az Q (fuel+1) listed σ:=by
 intro fuel;induction fuel with
 |zero=>
  intro listed σ σ1 _ _ hr hy H;refine⟨λh=>(by rw[h] at hr;cases hr),λj hj=>?_⟩;by_cases hji:j=i
  .subst hji;unfold Qgn;simp only[hi];exact⟨σ1,hy,H⟩
  have:=ready_mono hj hji;rw[H.1] at this;cases this
 |succ fuel ih=>
  intro listed σ σ1 hfree hcl hr hy H;refine⟨λh=>(by rw[h] at hr;cases hr),λj hj=>?_⟩;by_cases hji:j=i
  .subst hji;unfold Qgn;simp only[hi];exact⟨σ1,hy,H⟩
  .have h1:=H.2 j (ready_mono hj hji);have⟨hjun,oj,hoj,xd⟩:=mem_ready.1 hj;have hjlt:j<az.length:=by
    have:=(QN8.1 hoj).1;omega
   have hAj:az[j]?=some az[j]:=QNX hjlt;have hnot:∀n,Xp md ops n i j=false:=λn=>hcl.not_reaches (Qon (mem_ready.1 hr).1) n j oj hoj xd;have h2:=QsZ hAj (hfree j _ oj hAj hoj hji hjun hnot) hy h1
   have hfree':∀k Ak ok,az[k]?=some Ak->ops[k]?=some ok->k≠i->(listed.setIfInBounds j true).getD k true=false ->
     (∀n,Xp md ops n i k=false)->Qdr Ai Ak=true:=λk Ak ok hAk hok hki hun hno=>by
    refine hfree k Ak ok hAk hok hki ?_ hno;by_cases hjk:j=k
    .subst hjk;exact hjun
    rw[getD_set_ne true hjk] at hun;exact hun
   refine Qs0 (λσ' ⟨σ2,hm,hw⟩=>ih (listed.setIfInBounds j true) σ' σ2 hfree' (hcl.set hj) (ready_mono hr (Ne.symm hji)) hm ?_) h2;rw[Array.setIfInBounds_comm _ _ hji];exact hw
inductive Qto(P:Program)(K:World->Prop):List Zi->Fs->Fs->Prop
 |nil(σ):Qto P K [] σ σ
 |cons(A l σ σ1 σ')(hy:qM P K A σ σ1)(h:Qto P K l σ1 σ'):Qto P K (A::l) σ σ'
def QwL(j:Nat)(ms:List Nat)(o:Oper):Nat:=o.after.toList.foldr (λe m=>if Region.binds .any e&&decide (e.on<j)&&!m.testBit e.on then m ||| 2 ^ e.on ||| ms.getD e.on 0 else m) 0
def Qi9:Nat->List Nat->List Oper->List Nat
 |_,ms,[]=>ms
 |j,ms,o::r=>Qi9 (j+1) (ms++[QwL j ms o]) r
def Ui:Nat->List Zi->List Nat->Bool
 |i,A::r,_::ms=>(r.zip ms).all (λp=>p.2.testBit i||Qdr A p.1)&&Ui (i+1) r ms
 |_,[],_=>true
 |_,_::_,[]=>false
def Qi3(ops:Array Oper)(az:List Zi):Bool:=Ui 0 az (Qi9 0 [] ops.toList)
def Qja{j:Nat}{ms:List Nat}{o:Oper}(hj:ops[j]?=some o)(hms:∀k i,(ms.getD k 0).testBit i=true->i<k/\∃n,Xp .any ops n i k=true):∀i,(QwL j ms o).testBit i=true->i<j/\∃n,Xp .any ops n i j=true:=by
 have key:∀(l:List Edge),(∀e∈l,e∈o.after)->∀i,(l.foldr (λe m=>if Region.binds .any e&&decide (e.on<j)&&!m.testBit e.on then m ||| 2 ^ e.on ||| ms.getD e.on 0 else m) 0).testBit i=true ->
   i<j/\∃n,Xp .any ops n i j=true:=λl=>by
  induction l with
  |nil=>intro _ i h;simp at h
  |cons e l ih=>
   intro hl i h;have ih:=ih (λe he=>hl e (by simp[he])) i;simp only[List.foldr_cons] at h;split at h
   .rename_i hc;simp only[QNZ,decide_eq_true_eq] at hc;rw[Nat.testBit_or,Nat.testBit_or,QO8,QO8] at h;rcases h with (h|h)|h
    .exact ih h
    .rw[Nat.testBit_two_pow] at h;have h:=of_decide_eq_true h;refine⟨by omega,1,?_⟩;simp only[Xp,hj,QO8];exact .inl (Array.any_eq_true'.2 ⟨e,hl e (by simp),by simp[hc.1.1,h]⟩)
    have⟨h1,n,h2⟩:=hms _ _ h;refine⟨by omega,n+1,?_⟩;simp only[Xp,hj,QO8];exact .inr (Array.any_eq_true'.2 ⟨e,hl e (by simp),by simp[hc.1.1,h1,h2]⟩)
   exact ih h
 exact key _ λe he=>by simpa using he
theorem Qa6:∀(l:List Oper)(j:Nat)(ms:List Nat),ms.length=j->(∀k,ops[j+k]?=l[k]?)->(∀k i,(ms.getD k 0).testBit i=true->i<k/\∃n,Xp .any ops n i k=true) ->
  ∀k i,((Qi9 j ms l).getD k 0).testBit i=true->i<k/\∃n,Xp .any ops n i k=true
 |[],_,_,_,_,h=>h
 |o::r,j,ms,hl,ho,h=>by
  have hj:ops[j]?=some o:=by simpa using ho 0
  refine Qa6 r (j+1) _ (by simp[hl]) (λk=>by have:=ho (k+1);simpa[QPa,Nat.add_comm 1 k] using this) λk i hk=>?_;rw[List.getD_eq_getElem?_getD] at hk;by_cases h1:k<ms.length
  .rw[QOs h1,<- List.getD_eq_getElem?_getD] at hk;exact h k i hk
  .by_cases h2:k=ms.length
   .subst h2;simp at hk;rw[hl];exact Qja hj h i hk
   .rw[QPx (by simp;omega)] at hk;simp at hk
theorem Qa3:∀(az:List Zi)(ms:List Nat)(i0:Nat),Ui i0 az ms=true->∀(i j:Nat)(A B:Zi),az[i]?=some A->az[j]?=some B->i<j->(ms.getD j 0).testBit (i0+i)=true\/Qdr A B=true
 |[],_,_,_,i,j,A,B,hi,_,_=>by simp at hi
 |_::_,[],_,h,_,_,_,_,_,_,_=>by simp[Ui] at h
 |C::r,m::ms,i0,h,i,j,A,B,hi,hj,hij=>by
  simp only[Ui,QNZ] at h;obtain⟨j,rfl⟩:∃k,j=k+1:=⟨j-1,by omega⟩;simp only[List.getElem?_cons_succ] at hj;have hlen:∀(az:List Zi)(ms:List Nat)(i0:Nat),Ui i0 az ms=true->az.length<=ms.length:=λaz=>by
   induction az with
   |nil=>intro ms _ _;simp
   |cons a az ih=>
    intro ms i0 h;cases ms with
    |nil=>simp[Ui] at h
    |cons m ms=>simp only[Ui,QNZ] at h;have:=ih ms _ h.2;simp;omega
  have hl:=hlen _ _ _ h.2;have hjr:=(QNY.1 hj).1;cases i with
  |zero=>injection hi with hi;subst hi;have hm:ms[j]?=some ms[j]:=QNX (by omega);have h1:=QOt.1 h.1 (B,ms[j]) (List.mem_iff_getElem?.2 ⟨j,by rw[List.getElem?_zip_eq_some];exact⟨hj,hm⟩⟩);simp only[QO8] at h1;simpa[hm] using h1
  |succ i=>have:=Qa3 r ms (i0+1) h.2 i j A B (by simpa using hi) hj (by omega);simpa[QPa,Nat.add_comm 1 i] using this
def Qhe(h:Qi3 ops az=true){i j A B}(hi:az[i]?=some A)(hj:az[j]?=some B)(hij:i<j)
  (hn:∀n,Xp .any ops n i j=false):Qdr A B=true:=by
 rcases Qa3 _ _ 0 h i j A B hi hj hij with h1|h1
 .rw[QOn] at h1;obtain⟨_,n,h2⟩:=Qa6 (ops:=ops) _ 0 _ rfl (λk=>by simp) (λk i h=>by simp at h) j i h1;rw[hn n] at h2;cases h2
 .exact h1
def Qwd:Nat->List Oper->Bool
 |_,[]=>true
 |k,o::r=>o.after.all (λe=>!Region.binds .any e||decide (e.on<k))&&Qwd (k+1) r
theorem QeQ:∀(l:List Oper)(k0:Nat),Qwd k0 l=true->∀(k:Nat)(o:Oper),l[k]?=some o->∀e∈o.after,Region.binds .any e=true->e.on<k0+k
 |[],_,_,k,o,h,_,_,_=>by simp at h
 |x::r,k0,hb,k,o,h,e,he,hbi=>by
  simp only[Qwd,QNZ] at hb;cases k with
  |zero=>injection h with h;subst h;have:=Array.all_eq_true_iff_forall_mem.1 hb.1 e he;simpa[hbi] using this
  |succ k=>have:=QeQ r (k0+1) hb.2 k o (by simpa using h) e he hbi;omega
theorem QdW{Q}(hlen:ops.size=az.length)(hpairs:Qi3 ops az=true)(hback:∀(k:Nat)(o:Oper),ops[k]?=some o->∀e∈o.after,Region.binds .any e=true->e.on<k):∀l k listed σ σ',(∀j,l[j]?=az[k+j]?) ->
  (∀j,j<k->listed.getD j true=true)->(∀j,k<=j->j<ops.size->listed.getD j true=false)->listed.size=ops.size->Clo .any ops listed->Qto P K l σ σ'->Q σ'->QgA P K .any ops az Q l.length listed σ
 |[],k,listed,σ,σ',hl,hlist,hun,hsz,_,hp,h=>by
  cases hp;refine⟨List.eq_nil_iff_forall_not_mem.2 λj hj=>?_,h⟩;have⟨h1,o,h2,_⟩:=mem_ready.1 hj;have h3:=(QN8.1 h2).1;by_cases h4:j<k
  .rw[hlist j h4] at h1;cases h1
  have:=hl (j-k);rw[show k+(j-k)=j by omega,QNX (show j<az.length by omega)] at this;simp at this
 |A::l,k,listed,σ,σ',hl,hlist,hun,hsz,hcl,hp,h=>by
  have h0:az[k]?=some A:=by simpa using(hl 0).symm
  have hk:k<ops.size:=by have:=(QNY.1 h0).1;omega
  have hr':k∈Region.ready .any ops listed:=mem_ready.2 ⟨hun k (QN3 _) hk,ops[k],by simp[hk],λe he hb=>by
   have h1:=hback k _ (by simp[hk]) e he hb;have h2:=hlist e.on h1;simp only[Array.getD,show e.on<listed.size by omega,dite_true] at h2 |-
   exact h2⟩
  cases hp with
  |cons _ _ _ σ1 _ hy hp=>
   refine Qgz hlen h0 l.length listed σ σ1 (λj Aj oj hAj hoj hji hun' hno=>?_) hcl hr' hy
    (QdW hlen hpairs hback l (k+1) _ _ σ' (λj=>by have:=hl (j+1);simpa[QPa,Nat.add_comm 1 j] using this) (λj hj=>?_) (λj hj hj2=>?_) (by simpa using hsz) (hcl.set hr') hp h)
   .have hjk:k<j:=by
     grind
    exact Qhe hpairs h0 hAj hjk hno
   .by_cases hjk:j=k
    .subst hjk;by_cases hs:j<listed.size
     .simp[hs]
     simp[Array.getElem?_eq_none (Nat.le_of_not_lt hs)]
    rw[getD_set_ne true (Ne.symm hjk)];exact hlist j (by omega)
   .rw[getD_set_ne true (by omega)]
    exact hun j (by omega) hj2
def QA0(n):Clo md ops (Array.replicate n false):=by intro j o _ hj;simp[Array.getElem?_replicate] at hj;split at hj<;>simp at hj
end
def QcS(ops:Array Oper):Option (Nat×Bool)->Option (Nat×Bool)->Bool
 |none,none=>true
 |some (t,b),some (j,c)=>b==c&&((ops[j]?).bind (·.dst))==some t
 |_,_=>false
def VK(N:Fm):Option Nat->Option Nat->Bool
 |none,none=>true
 |some d,some d'=>d==d'&&N.dst d
 |_,_=>false
def Vu(P:Program)(N:Fm)(ops:Array Oper)(A:Zi)(o:Oper):Bool:=VK N A.d o.dst&&QcS ops A.g o.guard&&A.op.fits P o.op
def X0(P:Program)(N:Fm)(ops:Array Oper):List Zi->List Oper->Bool
 |[],[]=>true
 |A::r,o::s=>Vu P N ops A o&&X0 P N ops r s
 |_,_=>false
theorem JC{P N ops}:∀{az l},X0 P N ops az l=true->l.length=az.length /\
  ∀(i:Nat)(A:Zi)(o:Oper),az[i]?=some A->l[i]?=some o->Vu P N ops A o=true
 |[],[],_=>by simp
 |A::r,o::s,h=>by simp[X0,QNZ] at h;have⟨h1,h2⟩:=JC h.2;grind
 |[],_::_,h=>by simp[X0] at h
 |_::_,[],h=>by simp[X0] at h
structure Ctx(P:Program)(K:World->Prop)(ok0:Nat->Prop)(w0:XS):Prop where
 hK:∀w,Zv w0.fr w0.w w->K w
 ok:∀b,¬w0.fr b->ok0 b
section
variable{P:Program}{K:World->Prop}{ok0:Nat->Prop}{N:Fm}{w0:XS}{a:Act}{w:World}{L:Nat->Lay}{o:Oper}{A:Zi}{σ:Fs}{v:AV}{up:Option (Nat×AO)}
def qy{x y}(h:VK N x y=true):x=y/\∀t,y=some t->N.dst t=true:=by unfold VK at h;grind
def Qi6{ok0 lk lo}(c:Ctx P K ok0 w0)(h:Rel ok0 N w0 lk lo a w L):∀b,w.heap.size<=b->okL ok0 lo L b:=λb hb=>⟨c.ok b (h.frlt hb),λid ob hob hbad=>by have:=((h.y8 _ _ hob).lt hbad).2;omega⟩
def QmB{ids:List Nat}{xs:List AV}{ys:List IV}{us:List Value}{r:IV}{lk:Nat->AV}{lo:Nat->Option AO}(c:Ctx P K ok0 w0)(h:Rel ok0 N w0 lk lo a w L)(hp:Qbg lo ids xs=some ys)(hl:us.length=xs.length)
  (hx:∀(k:Nat)x u,xs[k]?=some x->us[k]?=some u->QG (okL ok0 lo L) w lo L x u)(hr:ids=[]\/Zh r=true):
  ∃ok:Nat->Prop,(∀b,w.heap.size<=b->ok b)/\us.length=ys.length/\(∀(k:Nat)(y:IV)(u:Value),ys[k]?=some y->us[k]?=some u->QZ ok w y u)/\(∀w' u,QZ ok w' r u->QZ (okL ok0 lo L) w' r u):=by
 by_cases hids:ids=[]
 .subst hids;simp only[Qbg] at hp;have⟨h5,h6⟩:=Qan hp hl hx;exact⟨okL ok0 lo L,Qi6 c h,h5,h6,λ_ _ h=>h⟩
 .have hsc:Zh r=true:=hr.resolve_left hids;have hp':imms (λi=>if ids.contains i then lo i else none) 40 xs=some ys:=by
   unfold Qbg at hp;split at hp
   .exact absurd rfl hids
   exact hp
  obtain⟨h5,h6⟩:=(QhG h c.ok (lo':=λi=>if ids.contains i then lo i else none) (λid ob hob=>by
   split at hob
   .exact hob
   cases hob) 40).2 _ _ hp'
  refine⟨ok0,λb hb=>c.ok b (h.frlt hb),by simp[h5,hl],λk x u hx' hu=>?_,λw' u hu=>Y3 hsc hu⟩;have hk:k<xs.length:=by rw[<- h5];exact(QNY.1 hx').1
  exact h6 k _ x u (QNX hk) hx' (hx k _ u (QNX hk) hu)
def QAW{id x y e rows rows' mv}(c:Ctx P K ok0 w0)(h:Rel ok0 N w0 σ.lk σ.lo a w L)(hf:QI7 P x y o.op=true)
  (hx:x.av σ.lk=.yl id rows.length)(hid:σ.lo id=some (ZG e 1 rows mv))(hy:y.av σ.lk=.iv (.sl 1 rows'))(hl:rows'.length=rows.length):
  ∃w' v0 xs' ys,L id=.arr v0 ys/\(execOp a.eval o).run P w=.ok (.value (goInt rows.length)) w'/\UA w (okL ok0 σ.lo L) e 1 rows v0 rows' v0 xs' w':=by
 unfold QI7 at hf;split at hf
 .rename_i az ts ho;split at hf
  .rename_i p q t t2 has hts;simp only[QNZ] at hf;have⟨⟨hp,hq⟩,hty⟩:=hf;split at hty
   .rename_i el hu;have hsz:(P.info? el).map (·.size)=some 1:=by simpa using hty
    have hob:=h.y8 _ _ hid;cases hL:L id with
    |box b=>rw[hL] at hob;exact hob.elim
    |one b=>rw[hL] at hob;exact hob.elim
    |map b vals=>rw[hL] at hob;exact hob.elim
    |ext O D=>rw[hL] at hob;exact hob.elim
    |arr v0 ys=>
     rw[hL] at hob;have⟨hown,hmv,hrs,h1,hxx⟩:=hob;rw[QN9] at hown;have rx:=Opd.rep h hp;rw[hx] at rx;have hvp:=Um hid hL rx;have ry:=Opd.rep h hq;rw[hy] at ry;have ry:=VZ ry;have hexec:∀r w',(Builtin.copy_ #[t,t2] o.type #[a.eval p,a.eval q]).run P w=.ok r w'->(execOp a.eval o).run P w=.ok (.value r) w':=λr w' hr=>by
      have has':az=#[p,q]:=by rw[<- Array.toArray_toList (xs:=az),has]
      have hts':ts=#[t,t2]:=by rw[<- Array.toArray_toList (xs:=ts),hts]
      subst has' hts';simp[execOp,ho,resolve,invoke,builtin,hr,Result.andThen]
     have keepw:∀xs',rows=[]->rows'=[]->xs'=ys->UA w (okL ok0 σ.lo L) e 1 rows v0 rows' v0 xs' w:=λxs' e1 e2 e3=>by subst e1 e2 e3;exact⟨Zv.refl _ _,hown.own,λb hb=>.inl hb,by simp,h1,by simp,QN3 _,λ_=>rfl⟩
     by_cases hz:rows.length=0
     .have e1:rows=[]:=QN4 hz;have e2:rows'=[]:=QN4 (by omega);refine⟨w,v0,ys,ys,rfl,?_,keepw ys e1 e2 rfl⟩;obtain⟨d,dl,dc,hv,hdl⟩:∃d dl dc,v0=.slice d dl dc/\dl=0:=by
       rcases hown.own.2 with ⟨hv,_⟩|⟨g,cap,cur,hv,_⟩
       all_goals grind
      obtain⟨s,sl,sc,hs⟩:∃s sl sc,a.eval q=.slice s sl sc:=by generalize a.eval q=u at ry;cases ry<;>exact⟨_,_,_,rfl⟩
      have:=run_copy_none (P:=P) w t t2 o.type el d s dl dc sl sc hu hsz (by rw[hdl];exact Nat.min_zero _);rw[hz];exact hexec _ _ (by rw[hvp,hv,hs];exact this)
     rcases hown.own.2 with ⟨_,h00⟩|⟨g,cap,cur,hv,_,hg,hnc,hcm,hcs,htake⟩
     .exact absurd h00 hz
     have hgb:v0.ownBlock=some g:=by rw[hv];rfl
     cases hq2:a.eval q with
     |slice sa sn sc=>
      rw[hq2] at ry;cases ry with
      |nils=>simp at hl;omega
      |nilz=>simp at hl;omega
      |sl _ _ b off _ u hlc hcc hs hu2 hx2=>
       simp only[QPF] at hu2 hx2 hown htake hcs
       let cs:List Value:=(List.range rows'.length).map u
       have hcl:cs.length=rows'.length:=by simp[cs]
       have hcget:∀j v,cs[j]?=some v->j<rows'.length/\v=u j:=λj v hj=>by grind
       have hrun:=run_copy_row (P:=P) w t t2 o.type el g 0 rows.length cap ⟨b,off,none⟩ rows'.length sc cur e cs hu hsz hg (by rw[hcl,hl];exact(Nat.min_self _).symm) (λj v hj=>by
        obtain⟨h1',rfl⟩:=hcget j v hj;rw[addr_add];exact(hu2 j h1').2.1) (by rw[hcl,hcs];omega) (λv hv'=>by
        grind)
       simp only[hcl,hl] at hrun;refine⟨_,v0,cs,ys,rfl,hexec _ _ (by rw[hvp,hv,hq2,hl];exact hrun),?_⟩;have hset:=setRow_heap w g cur (cur.toList.take 0++cs++cur.toList.drop (0+rows.length)).toArray e (0,0) hg;refine⟨⟨rfl,rfl,rfl,by simp[World.setRow],λk hk=>setRow_other w g k _ (λe=>hk.2 (by rw[hgb,e]))⟩,⟨by rw[hcl,QPF],.inr ⟨g,cap,_,by rw[hv,hl],QPk _,hset,by omega,hcm,?_,?_⟩⟩,λb hb=>.inl hb,hs,λv hv'=>?_,λi j c z v hi hj hv'=>?_,by omega,λ_=>rfl⟩
       .simp[hcl];omega
       .simp[hcl]
       .grind
       have hj0:j=0:=by grind
       subst hj0;rw[QPF,QPd] at hv';obtain⟨_,rfl⟩:=hcget i v hv';have hr:=hx2 i 0 c z hi hj;refine hr.mono λb' hb' y9=>?_;have hne:b'≠g:=λe=>hb'.2 id _ hid (by rw[hL,e];exact hgb);exact⟨⟨.inl hb',by rw[hgb];exact λe=>hne (by injection e with e;exact e.symm)⟩,setRow_other w g b' _ hne⟩
     |_=>rw[hq2] at ry;cases ry
   cases hty
  cases hf
 .cases hf
def Qm1{C:Act->World->Prop}{Q:Exit->Act->World->Prop}(c:Ctx P K ok0 w0)(h:Rel ok0 N w0 σ.lk σ.lo a w L)(hd:VK N A.d o.dst=true)(hf:A.op.fits P o.op=true)
  (hy:YP P K A.op σ v up)(hncb:A.op.isCb=false)(hC:∀a' w' L',Rel ok0 N w0 (σ.app A.d v up).lk (σ.app A.d v up).lo a' w' L'->C a' w'):o.wp P a w C Q:=by
 have⟨hde,hdlt⟩:=qy hd
 have fixedV:∀(g:FuncId)(xs:List IV)(us:List Value)(r:IV),(execOp a.eval o).run P w=.ok (.enter g us.toArray) w->Good P K g xs r ->(∃ok:Nat->Prop,(∀b,w.heap.size<=b->ok b)/\us.length=xs.length/\(∀(k:Nat)x u,xs[k]?=some x->us[k]?=some u->QZ ok w x u) /\
     (∀w' u,QZ ok w' r u->QZ (okL ok0 σ.lo L) w' r u))->v=.iv r->up=none->o.wp P a w C Q:=by
  rintro g xs us r hrun hg ⟨ok,h1,h2,h3,h4⟩ hv hu;subst hu;have hkw:K w:=c.hK _ h.below;unfold Oper.wp;rw[hrun];simp only[Oper.upon];refine(hg w ok _ hkw h1 h2 h3).mono λe w' hew=>?_;obtain⟨u,rfl,hu,hb⟩:=hew;have hrel:=h.ext hb;have hput:=hrel.put o.dst hdlt (x:=.iv r) (v:=u) (.iv _ _ (h4 w' u hu));refine hC _ _ L ?_;rw[hv,hde];exact hput
 have fixed:∀(g:FuncId)(args:List Opd)(ids:List Nat)(xs:List IV)(r:IV)(bs:List Operand),VA args bs=true->(execOp a.eval o).run P w=.ok (.enter g (bs.map a.eval).toArray) w->Qbg σ.lo ids (args.map (·.av σ.lk))=some xs->Good P K g xs r->(ids=[]\/Zh r=true) ->
   v=.iv r->up=none->o.wp P a w C Q:=by
  intro g args ids xs r bs xd hrun hp hg hr hv hu;have⟨hbl,hbx⟩:=Xm h xd;exact fixedV g xs _ r hrun hg (QmB c h hp (by simpa using hbl) hbx hr) hv hu
 have back:∀(g:FuncId)(x:Opd)(args:List Opd)(id:Nat)(xs:List IV)(e:TypeId)(sz:Nat)(rows rows':List (List IV))(v0:Value)(ys:List Value),A.op=.yx g x args id->ivs (args.map (·.av σ.lk))=some xs->QaG P K g e sz rows xs rows' ->
   (∀u,QG (okL ok0 σ.lo L) w σ.lo L (x.av σ.lk) u->u=v0)->YK w0.fr w e sz v0 rows.length ys->(∀b,v0.ownBlock=some b->(∃ob,σ.lo id=some ob)/\(L id).has b)->(∀c∈rows,c.length=sz)->(∀u∈ys,u.oneCell'=true) ->
   (∀(i j:Nat)c x u,rows[i]?=some c->c[j]?=some x->ys[i*sz+j]?=some u->QZ (okL ok0 σ.lo L) w x u) ->
   (∀v' xs' w',UA w (okL ok0 σ.lo L) e sz rows v0 rows' v' xs' w'->∃L',Rel ok0 N w0 (σ.app A.d v up).lk (σ.app A.d v up).lo (a.put o.dst v') w' L')->o.wp P a w C Q:=by
  intro g x args id xs e sz rows rows' v0 ys hop hp hg hx hown hhas hsz h1 hcx hfin;rw[hop] at hf;have hf':AOp.fits P (.call g (x::args) []) o.op=true:=hf;have⟨bs,xd,hrun⟩:=qF (a:=a) (w:=w) hf';obtain⟨b0,bs',rfl⟩:∃b0 bs',bs=b0::bs':=by
   cases bs with
   |nil=>simp[VA] at xd
   |cons b0 bs'=>exact⟨b0,bs',rfl⟩
  simp only[VA,QNZ] at xd;obtain⟨hall0,xd⟩:=xd;have⟨hbl,hbx⟩:=Xm h xd;obtain⟨h5,h6⟩:=Qan hp (by simpa using hbl) hbx;have hv0:=hx _ (Opd.rep h hall0);have hnot:∀b,okL ok0 σ.lo L b->v0.ownBlock≠some b:=λb hb hbad=>by have⟨⟨ob,hob⟩,hh⟩:=hhas b hbad;exact hb.2 id ob hob hh
  unfold Oper.wp;rw[hrun];simp only[Oper.upon,QOk,hv0]
  refine(hg w (okL ok0 σ.lo L) v0 ys _ (λw' hk=>c.hK _ (h.below.trans (hk.mono λk hfr=>⟨QOM (w0.lt k hfr) h.le,λe=>hown.free k e hfr⟩))) (Qi6 c h) hown.own hsz h1
   (λi j c x u a1 a2 a3=>(hcx i j c x u a1 a2 a3).mono λb hb _=>⟨⟨hb,hnot b hb⟩,rfl⟩) h5 (λk x u a1 a2=>(h6 k x u a1 a2).mono λb hb _=>⟨⟨hb,hnot b hb⟩,rfl⟩)).mono λy w' hew=>?_
  grind
 generalize hop:A.op=op at hy;cases hy with
 |plain _ _ s f _ _ he hs=>
  rw[hop] at hf;have⟨_,n,u,w',L',hrun,hn,hrel,hrep⟩:=QmD h c.ok hf he hs;have hput:=hrel.put o.dst hdlt hrep;unfold Oper.wp;rw[hrun];rcases hn with rfl|⟨rfl,rfl⟩
  .simp only[Oper.upon];exact hC _ _ L' (by rw[hde];exact hput)
  exact hC _ _ L' (by rw[hde];exact hput)
 |y2 g args id _ xs q e sz rows mv hp hg hid=>
  rw[hop] at hf;have hf':AOp.fits P (.call g args []) o.op=true:=hf;have⟨bs,xd,hrun⟩:=qF (a:=a) (w:=w) hf';have⟨hbl,hbx⟩:=Xm h xd;have hkw:K w:=c.hK _ h.below;obtain⟨h5,h6⟩:=Qan hp (by simpa using hbl) hbx;unfold Oper.wp;rw[hrun];refine(hg w (okL ok0 σ.lo L) _ hkw (Qi6 c h) h5 h6).mono λx w' hew=>?_;obtain⟨u,l,rfl,hob,hrep,hb⟩:=hew;have hokk:∀b,okL (okL ok0 σ.lo L) (one (ZG e sz rows mv)) (λ_=>l) b->okL ok0 (Zn σ.lo id (ZG e sz rows mv)) (Q7 L id l) b:=by
   intro b hb;refine⟨hb.1.1,λi oi hi=>?_⟩;by_cases hii:i=id
   .subst hii;simp only[Q7,if_true];exact hb.2 0 (ZG e sz rows mv) (by simp[one])
   grind
  have hrel:=h.new id hid (ZG e sz rows mv) l hb (λb hbb=>QO9.1 (hob.lt hbb).1) (Qms (λb hb=>h.frlt (QO9.1 hb)) hokk hob);have hput:=hrel.put o.dst hdlt (x:=ren id q) (v:=u) (Qfl hokk (i:=0) (ob:=ZG e sz rows mv) (by simp[one]) (by simp[Zn]) (by simp[Q7]) hrep);refine hC _ _ (Q7 L id l) ?_;rw[hde];exact hput
 |call g args ids _ xs r hp hg hr=>rw[hop] at hf;have⟨bs,xd,hrun⟩:=qF (a:=a) (w:=w) hf;exact fixed g args ids xs r bs xd hrun hp hg hr rfl rfl
 |y1 x g args ids _ xs r hx hc hp hg hr=>rw[hop] at hf;have⟨bs,xd,hrun⟩:=Qr2 h hf hx hc;exact fixed g args ids xs r bs xd hrun hp hg hr rfl rfl
 |caldc x g fs cs args ids _ xs r hc hp hg hr=>
  rw[hop] at hf;have⟨m,az,ts,ho,hxm,xd⟩:=WL hf;have⟨hbl,hbx⟩:=Xm h xd
  obtain⟨ok,h1,h2,h3,h4⟩:=QmB (us:=a.eval (.tmp m)::az.toList.map a.eval) c h hp (by simp[hbl]) (λk z u hz hu=>by
   cases k with
   |zero=>simp at hz hu;subst hz hu;exact Opd.rep h (x:=x) (y:=.tmp m) hxm
   |succ k=>exact hbx k z u (by simpa using hz) (by simpa using hu)) hr
  have hclo:=h3 0 _ _ rfl rfl;generalize hev:a.eval (.tmp m)=xv at hclo;cases hclo with
  |clo _ _ _ us vs l1 l2 hfx hcx=>
   refine fixedV g (fs++xs++cs) (us++az.toList.map a.eval++vs) r (Qdh ho hev (.clo g us vs _ w hc)) hg ⟨ok,h1,?_,λk z u hz hu=>?_,h4⟩ rfl rfl
   .grind
   simp only[QOi,Nat.add_right_cancel_iff] at h2;by_cases k1:k<fs.length
   .grind
   rw[QPc,QOm (by omega)] at hz;rw[QPc,QOm (by omega),l1] at hu;by_cases k2:k-fs.length<xs.length
   .rw[QOs k2] at hz;rw[QOs (by rw[h2];exact k2)] at hu;exact h3 (k-fs.length+1) z u (by simpa using hz) (by simpa using hu)
   grind
 |cpy id x y _ e rows rows' mv hx hid hy hl=>rw[hop] at hf;have⟨w',v0,xs',ys,hL,hrun,hrb⟩:=QAW c h hf hx hid hy hl;have⟨h5,h6⟩:=Qny h c.ok hid hL hrb;unfold Oper.wp;rw[hrun];simp only[Oper.upon];refine hC _ _ (Q7 L id (.arr v0 xs')) ?_;have:=h5.put o.dst hdlt (x:=.iv (.int .i64 rows.length)) (v:=goInt rows.length) (.iv _ _ (.int .i64 rows.length));rw[hde];exact this
 |yw=>rw[hop] at hncb;cases hncb
 |yu=>rw[hop] at hncb;cases hncb
 |yx g x args id _ xs e sz rows rows' mv hx hid hp hg=>
  have hob:=h.y8 _ _ hid;cases hL:L id with
  |box b=>rw[hL] at hob;exact hob.elim
  |one b=>rw[hL] at hob;exact hob.elim
  |map b vals=>rw[hL] at hob;exact hob.elim
  |ext O D=>rw[hL] at hob;exact hob.elim
  |arr v0 ys=>
   rw[hL] at hob;have⟨hown,hmv,hsz,h1,hxx⟩:=hob;rw[QN9] at hown hmv;refine back g x args id xs e sz rows rows' v0 ys hop hp hg (λu hu=>?_) hown (λb hb=>⟨⟨_,hid⟩,by rw[hL];exact hb⟩) (λc hc=>?_) h1 (λi j c x u a1 a2 a3=>?_) (λv' xs' w' hrb=>?_)
   .rw[hx] at hu;exact Um hid hL hu
   .have:=hsz (c.map AV.iv) (QOb.2 ⟨c,hc,rfl⟩);simpa using this
   .exact VZ (hxx i j (c.map AV.iv) (.iv x) u (by simp[a1]) (by simp[a2]) a3)
   have⟨h5,h6⟩:=Qny h c.ok hid hL hrb;refine⟨Q7 L id (.arr v' xs'),?_⟩;rw[<- hde];exact h5.put A.d (by rw[hde];exact hdlt) h6
 |callm g x args id _ xs e sz kvs k n rows' hx hn hid hp hg=>
  have hob:=h.y8 _ _ hid;cases hL:L id with
  |box b=>rw[hL] at hob;exact hob.elim
  |one b=>rw[hL] at hob;exact hob.elim
  |arr v ys=>rw[hL] at hob;exact hob.elim
  |ext O D=>rw[hL] at hob;exact hob.elim
  |map b vals=>
   have⟨ys,g1,g2,g3,g4,g5,g6⟩:=Qjb h hid hL k;refine back g x args id xs e sz _ rows' _ ys hop hp hg (λu hu=>?_) g1 (λb hb=>⟨⟨_,hid⟩,(g6 b hb).1⟩) g3 g4 g5 (λv' xs' w' hrb=>?_)
   .grind
   .obtain⟨h5,h6⟩:=Qnx h c.ok hid hL hrb;refine⟨Q7 L id (.map b (zn k v' vals)),?_⟩;rw[<- hde];exact h5.put A.d (by rw[hde];exact hdlt) (h6 _)
def qP{ops t j b}(h:Rel ok0 N w0 σ.lk σ.lo a w L)(ht:σ.lk t=.iv (.bool b))(hj:((ops[j]?).bind (·.dst))=some t):yielded ops a.tmps j=some b:=by
 have r:=h.env t;rw[ht] at r;have hv:=QbF r;unfold yielded;rw[hj];simp[Option.bind_some];cases hg:a.tmps[t]? with
 |none=>simp[QOL,hg,undef] at hv
 |some u=>simp[QOL,hg] at hv;subst hv;rfl
def Qck{ok w}:QZ ok w (.xf []) undef:=.xf _ _ rfl (λ_ _ _ h=>by simp at h)
def Qyi{ok lo u}(r:QG ok w lo L (.iv (.xf [])) u):u=undef:=by
 cases r with
 |iv _ _ h=>
  cases h with
  |xf _ vs hl _=>
   have:=by simpa using hl
   subst this;rfl
def Qgw{ops t j}(h:Rel ok0 N w0 σ.lk σ.lo a w L)(ht:σ.lk t=.iv (.xf []))(hj:((ops[j]?).bind (·.dst))=some t):yielded ops a.tmps j=none:=by
 have r:=h.env t;rw[ht] at r;have hv:=Qyi r;unfold yielded;rw[hj];simp[Option.bind_some];cases hg:a.tmps[t]? with
 |none=>rfl
 |some u=>simp[QOL,hg] at hv;subst hv;rfl
def Qaw(op:AOp)(c:Call):op.fits P (.defer c)=false:=by
 cases op with
 |yy op=>cases op<;>rfl
 |_=>rfl
theorem Ctx.le{w1}(c:Ctx P K ok0 w0)(h:w0.le w1):Ctx P K ok0 w1:=⟨λw hw=>c.hK w (h.keeps hw),λb hb=>c.ok b (λhf=>hb (h.fr b hf))⟩
def Qxd{id s O D xs vs lk lo}(c:Ctx P K ok0 w0)(h:Rel ok0 N w0 lk lo a w L)(hid:lo id=some (.ext s))(hL:L id=.ext O D)
  (hl:vs.length=xs.length)(hx:∀(k:Nat)x u,xs[k]?=some x->vs[k]?=some u->QZ (okL ok0 lo L) w x u):Qtd K (okC (okL ok0 lo L) D w) O D w s xs vs:=by
 have hob:=h.y8 _ _ hid;rw[hL] at hob;have⟨hO,hD,hJ⟩:=hob;refine⟨λw' hk=>c.hK _ (h.below.trans (hk.mono λb hb=>⟨h.frl b hb,λho=>(hO b ho).1 hb⟩)),hJ,λb hb=>(hO b hb).2.2,λb hb=>?_,λb hb=>.inr (.inl hb),λb hb=>.inr (.inr hb),λb hb=>.inl (hO b hb).2.2,hl,λk x u h1 h2=>(hx k x u h1 h2).plain.mono λb hb _=>⟨⟨.inr (.inl hb),λho=>hb.1.2 _ _ hid (by rw[hL];exact ho)⟩,rfl⟩⟩;rcases hD b hb with h1|⟨h1,_⟩
 .exact(hO b h1).2.1
 .exact h.frl b h1
def QfW{ops:Array Oper}{i:Nat}{C:Act->World->Prop}(c:Ctx P K ok0 w0)(h:Rel ok0 N w0 σ.lk σ.lo a w L)(ho:ops[i]?=some o)(hw:Region.wanted o (yielded ops a.tmps)=true)(hd:VK N A.d o.dst=true)(hf:A.op.fits P o.op=true)
  (hy:YP P K A.op σ v up)(hC:∀w1 a' w' L',w0.le w1->Rel ok0 N w1 (σ.app A.d v up).lk (σ.app A.d v up).lo a' w' L'->C a' w'):qL P ops i C a w:=by
 have hnd:∀c,o.op≠.defer c:=λc e=>by rw[e,Qaw] at hf;cases hf
 cases hcb:A.op.isCb with
 |false=>exact UB ho hw hnd (Qm1 c h hd hf hy hcb (λa' w' L' hr=>hC w0 a' w' L' (XS.le.refl w0) hr))
 |true=>
  have⟨hde,hdlt⟩:=qy hd;generalize hop:A.op=op at hy hcb hf
  have fin:∀(id:Nat)(s s':Ext)(y:IV)(O D:Nat->Prop)(u:Value)(w':World),σ.lo id=some (.ext s)->L id=.ext O D->s'.v=s.v->Zh y=true->v=.iv y->up=some (id,.ext s') ->
    (∃O' D',Qit (okC (okL ok0 σ.lo L) D w) O w s' y O' D' u w')->C (a.put o.dst u) w':=by
   rintro id s s' y O D u w' hid hL hv hsy rfl rfl ⟨O',D',hp⟩;have⟨w1,hle,hrel⟩:=QA7 c.ok h hid hL hv hp;refine hC w1 _ w' (Q7 L id (.ext O' D')) hle ?_;have:=hrel.put o.dst hdlt (x:=.iv y) (v:=u) (.iv _ _ (Y3 hsy hp.rep));rw[hde];exact this
  cases hy with
  |yw x args id _ xs s s' y hx hid hp hg hsc=>
   have⟨m,az,ts,hoo,hxm,xd⟩:=WL (P:=P) (ids:=[]) hf;have⟨hbl,hbx⟩:=Xm h xd;obtain⟨h5,h6⟩:=Qan hp (by simpa using hbl) hbx;have hob:=h.y8 id _ hid;cases hL:L id with
   |ext O D=>have rx:=Opd.rep h (x:=x) (y:=.tmp m) hxm;rw[hx] at rx;obtain⟨_,hsv⟩:=Qmw hid (by simp[AV.refs]) rx;exact QnT ho hw hoo hsv (hg.2 _ O D w _ (Qxd c h hid hL h5 h6)) (λu w' hR=>fin id s s' y O D u w' hid hL hg.1 hsc rfl rfl hR)
   |_=>rw[hL] at hob;exact hob.elim
  |yu g args x id _ xs s s' y hx hid hp hg hsc=>
   have hf':AOp.fits P (.call g (args++[x]) []) o.op=true:=hf;have⟨bs,xd,hrun⟩:=qF (a:=a) (w:=w) hf';have⟨hbl,hbx⟩:=Xm h xd;have hbl':(bs.map a.eval).length=args.length+1:=by simp[hbl]
   obtain⟨vs,u0,hvs⟩:∃vs u0,bs.map a.eval=vs++[u0]:=by refine⟨(bs.map a.eval).dropLast,(bs.map a.eval).getLast (λe=>by rw[e] at hbl';simp at hbl'),?_⟩;exact(QPh _).symm
   have hvl:vs.length=args.length:=by grind
   rw[hvs] at hbx;obtain⟨h5,h6⟩:=Qan (vs:=vs) hp (by simpa using hvl) (λk z u h1 h2=>hbx k z u (by grind) (by rw[QOs (QNY.1 h2).1];exact h2));have hob:=h.y8 id _ hid;cases hL:L id with
   |ext O D=>
    have rx:QG (okL ok0 σ.lo L) w σ.lo L (.cb id) u0:=by
     have:=hbx args.length (x.av σ.lk) u0 (by simp) (by rw[QOm (by omega)];simp[hvl])
     rwa [hx] at this
    obtain⟨_,rfl⟩:=Qmw hid (by simp[AV.refs]) rx;apply UB ho hw hnd;unfold Oper.wp;rw[hrun,hvs];refine(hg.2 _ O D w vs [] (by rw[QOl,QOl];exact Qxd c h hid hL h5 h6) h5).mono λe w' hew=>?_;obtain⟨u,rfl,hpost⟩:=hew;exact fin id s s' y O D u w' hid hL hg.1 hsc rfl rfl hpost
   |_=>rw[hL] at hob;exact hob.elim
  |plain _ _ s f _ _ he hs=>cases op<;>first|(cases hcb;done)|(cases he;done)
  |_=>cases hcb
def QoV{ops i C}(c:Ctx P K ok0 w0)(h:Rel ok0 N w0 σ.lk σ.lo a w L)(ho:ops[i]?=some o)(hf:Vu P N ops A o=true)
  (hy:Yields P K A σ v up)(hC:∀w1 a' w' L',w0.le w1->Rel ok0 N w1 (σ.app A.d v up).lk (σ.app A.d v up).lo a' w' L'->C a' w'):qL P ops i C a w:=by
 simp only[Vu,QNZ] at hf;have⟨⟨hd,hg⟩,hop⟩:=hf;unfold Yields at hy;unfold QcS at hg;split at hy
 .rename_i hag;rw[hag] at hg;split at hg
  .rename_i hog;exact QfW c h ho (by simp[Region.wanted,hog]) hd hop hy hC
  .rename_i heq _;cases heq
  cases hg
 .rename_i t b hag;rw[hag] at hg;split at hg
  .rename_i heq _;cases heq
  .rename_i t' b' j b'' heq hog;injection heq with heq;injection heq with e1 e2;subst e1 e2;simp only[QNZ,beq_iff_eq] at hg;obtain⟨rfl,hj⟩:=hg;rcases hy with ⟨ht,hgv⟩|⟨ht,rfl,rfl⟩
   .have hyd:=qP h ht hj;exact QfW c h ho (by simp[Region.wanted,hog,hyd]) hd hop hgv hC
   have hwf:Region.wanted o (yielded ops a.tmps)=false:=by
    rcases ht with ht|ht
    .have hyd:=qP h ht hj;simp[Region.wanted,hog,hyd]
    have hyd:=Qgw h ht hj;simp[Region.wanted,hog,hyd]
   have⟨hde,hdlt⟩:=qy hd;refine QnR ho hwf (hC w0 _ _ L (XS.le.refl w0) ?_);have:=h.put o.dst hdlt (x:=.iv (.xf [])) (v:=undef) (.iv _ _ Qck);rw[<- hde] at this;rw[<- hde];exact this
  .cases hg
def Qjq{x:Opd}{v:Value}{ok:Nat->Prop}{lo:Nat->Option AO}{lk:Nat->AV}{g:FuncId}{fs cs:List AV}(hc:callee P g=true)(hx:QrY (x.av lk)=some (g,fs,cs))(hr:QG ok w lo L (x.av lk) v):∃us vs:List Value,(∀args:List Value,Enters P v args w (.enter g (us++args++vs).toArray))/\us.length=fs.length/\vs.length=cs.length/\(∀(k:Nat)(y:AV)(u:Value),fs[k]?=some y->us[k]?=some u->QG ok w lo L y u) /\(∀(k:Nat)(y:AV)(u:Value),cs[k]?=some y->vs[k]?=some u->QG ok w lo L y u):=by
 generalize x.av _=xv at hx hr;unfold QrY at hx;split at hx
 .injection hx with hx;injection hx with e1 e2;injection e2 with e2 e3;subst e1 e2 e3;cases hr with
  |iv _ _ r=>
   cases r with
   |fn=>exact⟨[],[],λargs=>.clo _ _ _ _ w hc,rfl,rfl,by simp,by simp⟩
 .injection hx with hx;injection hx with e1 e2;injection e2 with e2 e3;subst e1 e2 e3;cases hr with
  |iv _ _ r=>
   cases r with
   |clo _ _ _ us vs l1 l2 hf hcx=>
    refine⟨us,vs,λargs=>.clo _ _ _ _ w hc,by simp[l1],by simp[l2],λk y u hy hu=>?_,λk y u hy hu=>?_⟩
    all_goals grind
 .injection hx with hx;injection hx with e1 e2;injection e2 with e2 e3;subst e1 e2 e3;cases hr with
  |clo _ _ _ us vs l1 l2 hf hcx=>exact⟨us,vs,λargs=>.clo _ _ _ _ w hc,l1,l2,hf,hcx⟩
 .cases hx
def QhJ{C:Act->World->Prop}{Q:Exit->Act->World->Prop}{σ':Fs}(c:Ctx P K ok0 w0)(h:Rel ok0 N w0 σ.lk σ.lo a w L)(hd:VK N A.d o.dst=true)(hf:A.op.fits P o.op=true)
  (hy:Wi P K A.d σ A.op σ')(hC:∀a' w' L',Rel ok0 N w0 σ'.lk σ'.lo a' w' L'->C a' w'):o.wp P a w C Q:=by
 have⟨hde,hdlt⟩:=qy hd;generalize hop:A.op=op at hy;cases hy with
 |yz g args ids keep y' lo' args0 lo0 st y lo1 dom hh=>rw[hop] at hf;have hf':AOp.fits P (.call g args []) o.op=true:=hf;have⟨bs,xd,hrun⟩:=qF (a:=a) (w:=w) hf';have⟨hbl,hbx⟩:=Xm h xd;unfold Oper.wp;rw[hrun];refine(QmS c.hK c.ok h hh (by simpa using hbl) hbx).mono λx w' hew=>?_;obtain⟨u,L',rfl,hrel,hrep⟩:=hew;have hput:=hrel.put o.dst hdlt (x:=y') (v:=u) hrep;refine hC _ _ L' ?_;rw[hde];exact hput
 |y3 x g fs cs args ids keep y' lo' args0 lo0 st y lo1 dom hx hc hh=>
  rw[hop] at hf;have⟨m,az,ts,ho,hxm,xd⟩:=WL (P:=P) (ids:=[]) (x:=x) (args:=args) hf;have⟨hbl,hbx⟩:=Xm h xd;have⟨us,vs,hent,l1,l2,hfx,hcx⟩:=Qjq hc hx (Opd.rep h (x:=x) (y:=.tmp m) hxm);have hrun:=Qdh (a:=a) ho rfl (hent (az.toList.map a.eval));unfold Oper.wp;rw[hrun];refine(QmS (vs:=us++az.toList.map a.eval++vs) c.hK c.ok h hh (by simp[l1,l2,hbl]) (λk z u hz hu=>?_)).mono λx w' hew=>?_
  .grind
  .obtain⟨u,L',rfl,hrel,hrep⟩:=hew;have hput:=hrel.put o.dst hdlt (x:=y') (v:=u) hrep;refine hC _ _ L' ?_;rw[hde];exact hput
def QmG{ops:Array Oper}{i:Nat}{σ':Fs}{C:Act->World->Prop}(c:Ctx P K ok0 w0)(h:Rel ok0 N w0 σ.lk σ.lo a w L)(ho:ops[i]?=some o)(hf:Vu P N ops A o=true)
  (hy:qM P K A σ σ')(hC:∀w1 a' w' L',w0.le w1->Rel ok0 N w1 σ'.lk σ'.lo a' w' L'->C a' w'):qL P ops i C a w:=by
 cases hy with
 |app v up hy=>exact QoV c h ho hf hy hC
 |h _ hag hh=>
  simp only[Vu,QNZ] at hf;have⟨⟨hd,hg⟩,hop⟩:=hf;have fin:Region.wanted o (yielded ops a.tmps)=true->qL P ops i C a w:=λhw=>UB ho hw (λc e=>by rw[e,Qaw] at hop;cases hop) (QhJ c h hd hop hh (λa' w' L' hr=>hC w0 a' w' L' (XS.le.refl w0) hr));unfold QcS at hg;rcases hag with hag|⟨t,b,hag,ht⟩
  .rw[hag] at hg;split at hg
   .rename_i hog;exact fin (by simp[Region.wanted,hog])
   .rename_i heq _;cases heq
   cases hg
  .rw[hag] at hg;split at hg
   .rename_i heq _;cases heq
   .rename_i t' b' j b'' heq hog;injection heq with heq;injection heq with e1 e2;subst e1 e2;simp only[QNZ,beq_iff_eq] at hg;obtain⟨rfl,hj⟩:=hg;have hyd:=qP h ht hj;exact fin (by simp[Region.wanted,hog,hyd])
   .cases hg
theorem Qav{ops:Array Oper}{az:List Zi}{Q:Fs->Prop}{Q':Act->World->Prop}(c:Ctx P K ok0 w0)(hfit:X0 P N ops az ops.toList=true)
  (hQ:∀σ a w w1 L,w0.le w1->Rel ok0 N w1 σ.lk σ.lo a w L->Q σ->Q' a w):∀(fuel:Nat)(listed:Array Bool)(σ:Fs)(a:Act)(w:World)(w1:XS)(L:Nat->Lay),w0.le w1->Rel ok0 N w1 σ.lk σ.lo a w L ->QgA P K .any ops az Q fuel listed σ->QuF P .any ops Q' fuel listed a w
 |0,_,_,_,_,_,_,hl,hr,h=>⟨h.1,hQ _ _ _ _ _ hl hr h.2⟩
 |fuel+1,listed,σ,a,w,w1,L,hl,hr,h=>by
  refine⟨λh0=>hQ _ _ _ _ _ hl hr (h.1 h0),λi hi=>?_⟩;have h2:=h.2 i hi;have⟨hlen,hget⟩:=JC hfit;cases ho:ops[i]? with
  |none=>
   have hA:az[i]?=none:=by grind
   simp only[Qgn,hA] at h2;exact QnS ho (Qav c hfit hQ fuel _ σ a w w1 L hl hr h2)
  |some o=>
   have y9:i<az.length:=by have:=(QN8.1 ho).1;simp at hlen;omega
   have hA:az[i]?=some az[i]:=QNX y9;simp only[Qgn,hA] at h2;obtain⟨σ1,hy,hc⟩:=h2;exact QmG (c.le hl) hr ho (hget i _ o hA (by simpa using ho)) hy (λw2 a' w' L' hl' hr'=>Qav c hfit hQ fuel _ _ a' w' w2 L' (hl.trans hl') hr' hc)
theorem qu{ops:Array Oper}{az:List Zi}{Q':Act->World->Prop}{σ':Fs}(c:Ctx P K ok0 w0)(hfit:X0 P N ops az ops.toList=true)
  (hQ:∀a w w1 L,w0.le w1->Rel ok0 N w1 σ'.lk σ'.lo a w L->Q' a w):∀(l:List Zi)(k:Nat)(σ:Fs)(a:Act)(w:World)(w1:XS)(L:Nat->Lay),(∀j,l[j]?=az[k+j]?)->w0.le w1->Rel ok0 N w1 σ.lk σ.lo a w L ->Qto P K l σ σ'->QdI P ops Q' (List.range' k l.length) a w
 |[],_,σ,a,w,w1,L,_,hle,hr,hp=>by cases hp;exact hQ _ _ _ _ hle hr
 |A::l,k,σ,a,w,w1,L,hl,hle,hr,hp=>by
  have⟨hlen,hget⟩:=JC hfit;cases hp with
  |cons _ _ _ σ1 _ hy hp=>
   have hA:az[k]?=some A:=by simpa using(hl 0).symm
   have y9:k<ops.toList.length:=by rw[hlen];exact(QNY.1 hA).1
   have ho:ops[k]?=some (ops.toList[k]):=by simpa using this
   exact QmG (c.le hle) hr ho (hget k A _ hA (QNX y9)) hy
    (λw2 a' w' L' hl' hr'=>qu c hfit hQ l (k+1) _ a' w' w2 L' (λj=>by have:=hl (j+1);simpa[QPa,Nat.add_comm 1 j] using this) (hle.trans hl') hr' hp)
def UK(P:Program)(N:Fm)(az:List Zi)(ops:Array Oper)(draw:Bool):Bool:=X0 P N ops az ops.toList&&(!draw||(P.follows .mixedOrders&&Qwd 0 ops.toList&&Qi3 ops az))
def Qg7{ops:Array Oper}{az:List Zi}{id:Nat}{draw:Bool}{σ σ':Fs}(c:Ctx P K ok0 w0)(hfit:UK P N az ops draw=true)
  (hr:Rel ok0 N w0 σ.lk σ.lo a w L)(hp:Qto P K az σ σ')(b:Frame)(k:List Item)(cs:List Frame):
  ∃a' w',(∃w1 L',w0.le w1/\Rel ok0 N w1 σ'.lk σ'.lo a' w' L')/\Steps P (lone (b.atR a (.code (.region id ops draw)::k)) cs w) (lone (b.atR a' k) cs w'):=by
 simp only[UK,QNZ] at hfit;obtain⟨hfit,hdraw⟩:=hfit;have⟨hlen,_⟩:=JC hfit;have hlen':ops.size=az.length:=by simpa using hlen
 cases draw with
 |false=>refine Qg8 (Q:=λa' w'=>∃w1 L',w0.le w1/\Rel ok0 N w1 σ'.lk σ'.lo a' w' L') ?_ b k cs;have:=qu (Q':=λa' w'=>∃w1 L',w0.le w1/\Rel ok0 N w1 σ'.lk σ'.lo a' w' L') c hfit (λa w w1 L hl hr=>⟨w1,L,hl,hr⟩) az 0 σ a w w0 L (by simp) (XS.le.refl w0) hr hp;rw[hlen',List.range_eq_range'];exact this
 |true=>simp only[Bool.not_true,Bool.false_or,QNZ] at hdraw;have⟨⟨hm,hB⟩,hpairs⟩:=hdraw;have hB:=λk o ho=>QeQ ops.toList 0 hB k o (by simpa using ho);simp only[QOn] at hB;refine Qfm (Q:=λa' w'=>∃w1 L',w0.le w1/\Rel ok0 N w1 σ'.lk σ'.lo a' w' L') hm ?_ b k cs;have hr':Rel ok0 N w0 σ.lk σ.lo a { w with drawn:=w.drawn+1 } L:=hr.ext ⟨rfl,rfl,rfl,QN3 _,λ_ _=>rfl⟩;apply Qav (Q:=λσ=>σ=σ') c hfit (λτ a' w' w1 L' hl h1 h2=>by subst h2;exact⟨w1,L',hl,h1⟩) _ _ σ a _ w0 L (XS.le.refl w0) hr';have:=QdW (P:=P) (K:=K) (Q:=λσ=>σ=σ') hlen' hpairs hB az 0 (Array.replicate ops.size false) σ σ' (by simp) (by simp) (λj _ hj=>by simp[hj]) (by simp) (QA0 _) hp rfl;rw[<- hlen'] at this;exact this
end
abbrev Env:=List (Nat×AV)
abbrev Qz:=List (Nat×AO)
def look:Env->Nat->AV
 |[],_=>.iv .any
 |(k,v)::r,t=>if t=k then v else look r t
def Qc:Qz->Nat->Option AO
 |[],_=>none
 |(k,o)::r,i=>if i=k then some o else Qc r i
def bnd(d:Option Nat)(v:AV)(e:Env):Env:=
 match d with
 |none=>e
 |some d=>(d,v)::e
def QbB(t:Nat)(v:AV):Env->Env
 |[]=>[]
 |(k,x)::r=>if t=k then(k,v)::r else(k,x)::QbB t v r
def Yu(id:Nat)(o:AO):Qz->Qz
 |[]=>[(id,o)]
 |(k,x)::r=>if id=k then(k,o)::r else(k,x)::Yu id o r
def upL(up:Option (Nat×AO))(os:Qz):Qz:=
 match up with
 |none=>os
 |some (id,o)=>Yu id o os
def JD(d v e):look (bnd d v e)=JW (look e) d v:=by cases d<;>rfl
theorem Jk(id o):∀os,Qc (Yu id o os)=Zn (Qc os) id o
 |[]=>by funext i;simp[Yu,Qc,Zn]
 |(k,x)::r=>by
  funext i;simp only[Yu];split
  .rename_i h;subst h;simp only[Qc,Zn];split<;>rfl
  .rename_i h;simp only[Qc,Jk id o r,Zn];by_cases h1:i=k<;>by_cases h2:i=id<;>simp_all
def QpZ(up os):Qc (upL up os)=upO (Qc os) up:=by
 cases up with
 |none=>rfl
 |some p=>have⟨id,o⟩:=p;exact Jk id o os
theorem qd{t v}:∀{e},look e t=v->look (QbB t v e)=look e
 |[],_=>rfl
 |(k,x)::r,h=>by
  funext u;simp only[look] at h;simp only[QbB];split
  .rename_i hk;rw[if_pos hk] at h;subst h;rfl
  .rename_i hk;rw[if_neg hk] at h;simp only[look];split
   .rfl
   .exact congrFun (qd h) u
def sig(e:Env)(o:Qz):Fs:=⟨look e,Qc o⟩
def Qpe(e o d v up):(sig e o).app d v up=sig (bnd d v e) (upL up o):=by simp[sig,Fs.app,JD,QpZ]
def evK(C:AV->Option (Nat×AO)->Prop):Res->Prop
 | .ok s f v up=>s/\(f->C v up)
 | .no=>False
def QHx(P:Program)(K:World->Prop)(g:FuncId)(id:Nat)(C:AV->Option (Nat×AO)->Prop)(xs:Option (List IV)):AV->Option AO->Prop
 | .yl i n,some (.arr t sz es mv)=>∃ys rows rows',i=id/\xs=some ys/\Qhx es=some rows/\n=es.length/\QaG P K g t sz rows ys rows'/\C (.yl id rows'.length) (some (id,ZG t sz rows' rows'.length))
 | .yn i k n,some (.yo t sz kvs none)=>∃ys rows',i=id/\xs=some ys/\((Qv k kvs).getD []).length=n/\QaG P K g t sz ((Qv k kvs).getD []) ys rows'/\C (.yn id k rows'.length) (some (id,.yo t sz (zn k rows' kvs) (some k)))
 |_,_=>False
def QHT(id:Nat)(C:AV->Option (Nat×AO)->Prop):AV->AV->Option AO->Prop
 | .yl i n,.iv (.sl s ys),some (.arr t sz es _)=>i=id/\n=es.length/\(∃rows,Qhx es=some rows)/\s=1/\sz=1/\ys.length=n/\C (.iv (.int .i64 n)) (some (id,ZG t 1 ys ys.length))
 |_,_,_=>False
def Qr3(P:Program)(K:World->Prop)(lo:Nat->Option AO)(ids:List Nat)(args:List AV)(C:AV->Option (Nat×AO)->Prop):AV->Prop
 | .iv (.fn g)=>∃xs r,callee P g=true/\Qbg lo ids args=some xs/\Good P K g xs r/\(ids=[]\/Zh r=true)/\C (.iv r) none
 |x=>∃g fs cs xs r,callee P g=true/\Qbg lo ids (x::args)=some (.clo g fs cs::xs)/\Good P K g (fs++xs++cs) r/\(ids=[]\/Zh r=true)/\C (.iv r) none
def QiP(P:Program)(K:World->Prop)(op:AOp)(C:AV->Option (Nat×AO)->Prop)(e:Env)(o:Qz):Prop:=
 match op with
 | .call g args ids=>∃xs r,Qbg (Qc o) ids (args.map (·.av (look e)))=some xs/\Good P K g xs r/\(ids=[]\/Zh r=true)/\C (.iv r) none
 | .y2 g args ids id=>∃xs q t sz rows mv,ids=[]/\ivs (args.map (·.av (look e)))=some xs/\QdU P K g xs q t sz rows mv/\Qc o id=none/\C (ren id q) (some (id,ZG t sz rows mv))
 | .y1 x args ids=>Qr3 P K (Qc o) ids (args.map (·.av (look e))) C (x.av (look e))
 | .yw x args id=>∃xs s s' y,x.av (look e)=.cb id/\Qc o id=some (.ext s)/\ivs (args.map (·.av (look e)))=some xs/\VS P K s xs y s'/\Zh y=true/\C (.iv y) (some (id,.ext s'))
 | .yu g args id=>∃xs s s' y,(args.getLast?).map (·.av (look e))=some (.cb id)/\Qc o id=some (.ext s)/\ivs (args.dropLast.map (·.av (look e)))=some xs/\QoQ P K g xs [] s y s'/\Zh y=true/\C (.iv y) (some (id,.ext s'))
 | .yx g x args id=>QHx P K g id C (ivs (args.map (·.av (look e)))) (x.av (look e)) (Qc o id)
 | .cpy id x y=>QHT id C (x.av (look e)) (y.av (look e)) (Qc o id)
 |op=>evK C (ev (look e) (Qc o) op)
def Y0(P:Program)(K:World->Prop)(f:FuncId)(args:List AV)(o:Qz)(st:List Nat)(y:AV)(o':Qz):Prop:=Qxn P K f args (Qc o) st y (Qc o')
def X2(ids st:List Nat)(o:Qz):List Nat:=(o.map (·.1)).filter λi=>match U9 ids i with
 |some j=>st.contains j
 |none=>true
def Qpi(keep:List Nat)(e:Env):Env:=e.map λp=>(p.1,scr keep p.2)
def QiZ(ids keep:List Nat):Qz->Qz
 |[]=>[]
 |(i,ob)::r=>match U9 ids i with
  |some _=>QiZ ids keep r
  |none=>(i,Qgt keep ob)::QiZ ids keep r
def QtQ(ids keep:List Nat)(o o1:Qz):Qz:=QiZ ids keep o++o1.map λp=>(nth ids p.1,rnO (nth ids) p.2)
def HOk(ids:List Nat)(args0:List AV)(o o0 o1:Qz):Prop:=
 ids.Nodup/\args0.all (clA (o0.map (·.1)))=true/\(∀p∈o0,p.1<ids.length/\Qc o (nth ids p.1)=some (rnO (nth ids) p.2)/\clO (o0.map (·.1)) p.2=true/\Zt p.2=true) /\
 (∀i∈List.range ids.length,Qc o0 i=none->Qc o (nth ids i)=none)/\(∀p∈o1,p.1<ids.length/\Zt p.2=true)
def HK(P:Program)(K:World->Prop)(g:FuncId)(ids:List Nat)(d:Option Nat)(C:Env->Qz->Prop)(e:Env)(o:Qz)(avs:List AV):Prop:=∃args0 o0 st y o1,avs=args0.map (rn (nth ids))/\HOk ids args0 o o0 o1/\Y0 P K g args0 o0 st y o1/\C (bnd d (rn (nth ids) y) (Qpi (X2 ids st o) e)) (QtQ ids (X2 ids st o) o o1)
def QeM(P:Program)(K:World->Prop)(ids:List Nat)(d:Option Nat)(C:Env->Qz->Prop)(e:Env)(o:Qz)(avs:List AV)(x:AV):Prop:=∃g fs cs,QrY x=some (g,fs,cs)/\callee P g=true/\HK P K g ids d C e o (fs++avs++cs)
def Qiu(P:Program)(K:World->Prop)(op:AOp)(d:Option Nat)(C:Env->Qz->Prop)(e:Env)(o:Qz):Prop:=
 match op with
 | .yz g args ids=>HK P K g ids d C e o (args.map (·.av (look e)))
 | .y3 x args ids=>QeM P K ids d C e o (args.map (·.av (look e))) (x.av (look e))
 |_=>False
def Qqo(b:Bool)(C:Bool->AV->Prop):AV->Prop
 | .iv (.bool c)=>(c=b->C true (.iv (.bool b)))/\(c=!b->C false (.iv (.bool (!b))))
 | .iv (.xf [])=>C false (.iv (.xf []))
 |_=>False
def Qy(P:Program)(K:World->Prop)(C:Env->Qz->Prop):List Zi->Env->Qz->Prop
 |[],e,o=>C e o
 |A::l,e,o=>
  match A.g with
  |none=>match A.op.isH with
   |true=>Qiu P K A.op A.d (Qy P K C l) e o
   |false=>QiP P K A.op (λv up=>Qy P K C l (bnd A.d v e) (upL up o)) e o
  |some (t,b)=>Qqo b (λw u=>match w with
   |true=>match A.op.isH with
    |true=>Qiu P K A.op A.d (Qy P K C l) (QbB t u e) o
    |false=>QiP P K A.op (λv up=>Qy P K C l (bnd A.d v (QbB t u e)) (upL up o)) (QbB t u e) o
   |false=>Qy P K C l (bnd A.d (.iv (.xf [])) (QbB t u e)) o) (look e t)
section
variable{P:Program}{K:World->Prop}{ok0:Nat->Prop}{N:Fm}{w0:XS}{a:Act}{w:World}{L:Nat->Lay}
def Qg0{op C C' e o}(h:∀v up,C v up->C' v up)(hh:QiP P K op C e o):QiP P K op C' e o:=by
 have plain:∀r,evK C r->evK C' r:=by
  intro r hr;cases r with
  |no=>exact hr
  |ok s f v up=>exact⟨hr.1,λhf=>h _ _ (hr.2 hf)⟩
 cases op with
 |call g args ids=>have⟨xs,r,h1,h2,h3,h4⟩:=hh;exact⟨xs,r,h1,h2,h3,h _ _ h4⟩
 |y2 g args ids id=>have⟨xs,q,t,sz,rows,mv,h0,h1,h2,h3,h4⟩:=hh;exact⟨xs,q,t,sz,rows,mv,h0,h1,h2,h3,h _ _ h4⟩
 |y1 x args ids=>
  simp only[QiP] at hh |-;unfold Qr3 at hh |-
  grind
 |yw x args id=>have⟨xs,s,s',y,h1,h2,h3,h4,h5,h6⟩:=hh;exact⟨xs,s,s',y,h1,h2,h3,h4,h5,h _ _ h6⟩
 |yu g args id=>have⟨xs,s,s',y,h1,h2,h3,h4,h5,h6⟩:=hh;exact⟨xs,s,s',y,h1,h2,h3,h4,h5,h _ _ h6⟩
 |yx g x args id=>
  simp only[QiP] at hh |-;unfold QHx at hh |-
  grind
 |cpy id x y=>
  simp only[QiP] at hh |-;unfold QHT at hh |-
  grind
 |_=>simp only[QiP] at hh |-;exact plain _ hh
def Qtc{C C' g ids d e o avs}(h:∀e o,C e o->C' e o)(hh:HK P K g ids d C e o avs):HK P K g ids d C' e o avs:=by have⟨args0,o0,st,y,o1,h1,h2,h3,h4⟩:=hh;exact⟨args0,o0,st,y,o1,h1,h2,h3,h _ _ h4⟩
def QgZ{op d C C' e o}(h:∀e o,C e o->C' e o)(hh:Qiu P K op d C e o):Qiu P K op d C' e o:=by
 unfold Qiu at hh |-;split at hh
 .exact Qtc h hh
 .obtain⟨g,fs,cs,h1,h2,h3⟩:=hh;exact⟨g,fs,cs,h1,h2,Qtc h h3⟩
 .exact hh.elim
theorem QcE(keep):∀e t,look (Qpi keep e) t=scr keep (look e t)
 |[],t=>by simp[Qpi,look,scr]
 |(k,v)::r,t=>by
  have:=QcE keep r t;simp only[Qpi,QOk,look];split
  .rfl
  .exact this
theorem Zl:∀{o i ob},Qc o i=some ob->(i,ob)∈o
 |[],i,ob,h=>by simp[Qc] at h
 |(k,x)::r,i,ob,h=>by
  simp only[Qc] at h;split at h
  .rename_i hk;injection h with h;subst h hk;simp
  .exact QO2 _ (Zl h)
theorem JQ:∀{o i},i∈o.map (·.1)->∃ob,Qc o i=some ob
 |(k,x)::r,i,h=>by
  simp only[Qc];split
  .exact⟨x,rfl⟩
  .rename_i hk;simp only[QOk,QN7,hk,false_or] at h;exact JQ h
def Qhq(a b i):Qc (a++b) i=match Qc a i with|some x=>some x|none=>Qc b i:=by
 induction a with
 |nil=>rfl
 |cons p r ih=>
  have⟨k,x⟩:=p;simp only[QOa,Qc];split
  .rfl
  .exact ih
theorem QcF(ids keep i):∀o,Qc (QiZ ids keep o) i=match U9 ids i with|some _=>none|none=>(Qc o i).map (Qgt keep)
 |[]=>by simp[QiZ,Qc];split<;>rfl
 |(k,x)::r=>by
  have ih:=QcF ids keep i r;simp only[QiZ];cases hk:U9 ids k with
  |some j=>simp only[Qc];grind
  |none=>simp only[Qc];grind
theorem Qhp(ids i)(hnd:ids.Nodup):∀o1,(∀p∈o1,p.1<ids.length)->Qc (o1.map λp=>(nth ids p.1,rnO (nth ids) p.2)) i=match U9 ids i with
  |some j=>(Qc o1 j).map (rnO (nth ids))
  |none=>none
 |[],_=>by simp[Qc];split<;>rfl
 |(k,x)::r,h=>by
  have ih:=Qhp ids i hnd r (λp hp=>h p (QO2 _ hp));have hk:k<ids.length:=h (k,x) (by simp);simp only[QOk,Qc];rw[ih];by_cases hik:i=nth ids k
  .have hx:U9 ids i=some k:=by rw[hik];exact JF hnd hk
   simp only[hik,if_true];rw[<- hik,hx];simp
  .simp only[hik,if_false];cases hx:U9 ids i with
   |none=>rfl
   |some j=>have:=(qq hx).2;grind
def QHt{C g ids d e o avs}(hh:HK P K g ids d C e o avs):∃keep y' lo' args0 lo0 st y lo1 dom e' o',HG P K g avs ids keep (Qc o) y' lo' args0 lo0 st y lo1 dom/\look e'=JW (λt=>scr keep (look e t)) d y'/\Qc o'=lo'/\C e' o':=by
 have⟨args0,o0,st,y,o1,h1,⟨k1,k2,k3,k4,k5⟩,h3,h4⟩:=hh;refine⟨X2 ids st o,_,_,args0,Qc o0,st,y,Qc o1,o0.map (·.1),_,_,⟨k1,h1,k2,λi=>?_,λi ob hob=>?_,λi hi hn=>?_,h3,λi ob hob=>?_,rfl,λi=>?_,λi hi j hj=>?_⟩,?_,rfl,h4⟩
 .constructor
  .intro hc;obtain⟨ob,hob⟩:=JQ (o:=o0) (by simpa using hc);rw[hob];rfl
  intro hs;have⟨ob,hob⟩:=QOC.1 hs;have:=Zl hob;grind
 .exact k3 (i,ob) (Zl hob)
 .exact k4 i (QOr.2 hi) hn
 .exact k5 (i,ob) (Zl hob)
 .rw[QtQ,Qhq,QcF,Qhp ids i k1 o1 (λp hp=>(k5 p hp).1)]
  cases hx:U9 ids i with
  |some j=>rfl
  |none=>
   cases ho:Qc o i with
   |none=>simp
   |some ob=>
    have hmem:(X2 ids st o).contains i=true:=by simp only[X2,List.contains_eq_mem,decide_eq_true_eq,QOx,QOb];exact⟨⟨_,Zl ho,rfl⟩,by simp[hx]⟩
    grind
 .simp only[X2,List.contains_eq_mem,decide_eq_true_eq,QOx,hj] at hi;simpa using hi.2
 .rw[JD]
  funext t;cases d with
  |none=>exact QcE _ e t
  |some d=>
   simp only[JW];split
   .rfl
   .exact QcE _ e t
theorem XD{C C'}(h:∀e o,C e o->C' e o):∀l e o,Qy P K C l e o->Qy P K C' l e o
 |[],e,o,hh=>h _ _ hh
 |A::l,e,o,hh=>by
  simp only[Qy] at hh |-;split at hh
  .split at hh
   .exact QgZ (λe o=>XD h l e o) hh
   exact Qg0 (λv up=>XD h l _ _) hh
  .rename_i t b _;unfold Qqo at hh |-;split at hh
   .refine⟨λhc=>?_,λhc=>XD h l _ _ (hh.2 hc)⟩;have hh1:=hh.1 hc;dsimp only at hh1 |-
    split at hh1
    .exact QgZ (λe o=>XD h l e o) hh1
    exact Qg0 (λv up=>XD h l _ _) hh1
   .exact XD h l _ _ hh
   .exact hh
def QnZ{A:Zi}{p:Oper}{C:AV->Option (Nat×AO)->Prop}{e:Env}{o:Qz}(c:Ctx P K ok0 w0)(h:Rel ok0 N w0 (look e) (Qc o) a w L)(hf:A.op.fits P p.op=true)
  (hh:QiP P K A.op C e o):∃v up,YP P K A.op (sig e o) v up/\C v up:=by
 have plain:evK C (ev (look e) (Qc o) A.op)->∃v up,YP P K A.op (sig e o) v up/\C v up:=by
  intro hk;cases hr:ev (look e) (Qc o) A.op with
  |no=>rw[hr] at hk;exact hk.elim
  |ok s f v up=>rw[hr] at hk;have⟨hf',_⟩:=QmD h c.ok hf hr hk.1;exact⟨v,up,.plain _ _ s f _ _ hr hk.1,hk.2 hf'⟩
 cases hop:A.op with
 |call g args ids=>rw[hop] at hh;have⟨xs,r,h1,h2,h3,h4⟩:=hh;exact⟨.iv r,none,.call g args ids _ xs r h1 h2 h3,h4⟩
 |y2 g args ids id=>rw[hop] at hh;have⟨xs,q,t,sz,rows,mv,h0,h1,h2,h3,h4⟩:=hh;subst h0;exact⟨_,_,.y2 g args id _ xs q t sz rows mv h1 h2 h3,h4⟩
 |y1 x args ids=>
  rw[hop] at hh;simp only[QiP] at hh;generalize hxv:x.av (look e)=xv at hh;unfold Qr3 at hh;split at hh
  .rename_i g;have⟨xs,r,h1,h2,h3,h4,h5⟩:=hh;exact⟨.iv r,none,.y1 x g args ids _ xs r hxv h1 h2 h3 h4,h5⟩
  have⟨g,fs,cs,xs,r,h1,h2,h3,h4,h5⟩:=hh;exact⟨.iv r,none,.caldc x g fs cs args ids _ xs r h1 (by show Qbg (Qc o) ids (x.av (look e)::_)=_;rw[hxv];exact h2) h3 h4,h5⟩
 |yw x args id=>rw[hop] at hh;have⟨xs,s,s',y,h1,h2,h3,h4,h5,h6⟩:=hh;exact⟨.iv y,some (id,.ext s'),.yw x args id _ xs s s' y h1 h2 h3 h4 h5,h6⟩
 |yu g args id=>
  rw[hop] at hh;have⟨xs,s,s',y,h1,h2,h3,h4,h5,h6⟩:=hh;have⟨x,hx,hxv⟩:=QN2.1 h1;have hargs:args=args.dropLast++[x]:=by have⟨hne,hx'⟩:=List.getLast?_eq_some_iff.1 hx;rw[hx'];simp
  refine⟨.iv y,some (id,.ext s'),?_,h6⟩;have:=YP.yu (P:=P) (K:=K) g args.dropLast x id (sig e o) xs s s' y hxv h2 h3 h4 h5;rw[<- hargs] at this;exact this
 |yx g x args id=>
  rw[hop] at hh;simp only[QiP] at hh;generalize hxv:x.av (look e)=xv at hh;generalize hov:Qc o id=ov at hh;unfold QHx at hh;split at hh
  .rename_i i n t sz es mv;obtain⟨ys,rows,rows',rfl,h1,h2,rfl,h4,h5⟩:=hh;have hes:=Uk h2;exact⟨_,_,.yx g x args i _ ys t sz rows rows' mv (by show x.av (look e)=_;rw[hxv,hes,QN9]) (by show Qc o i=_;rw[hov,hes];rfl) h1 h4,h5⟩
  .rename_i i k n t sz kvs;obtain⟨ys,rows',rfl,h1,h2,h3,h4⟩:=hh;exact⟨_,_,.callm g x args i _ ys t sz kvs k n rows' hxv h2 hov h1 h3,h4⟩
  exact hh.elim
 |cpy id x y=>
  rw[hop] at hh;simp only[QiP] at hh;generalize hxv:x.av (look e)=xv at hh;generalize hyv:y.av (look e)=yv at hh;generalize hov:Qc o id=ov at hh;unfold QHT at hh;split at hh
  .rename_i i n s ys t sz es mv;obtain⟨rfl,rfl,⟨rows,h2⟩,rfl,rfl,h5,h6⟩:=hh;have hes:=Uk h2;refine⟨_,_,?_,h6⟩;have hlr:es.length=rows.length:=by rw[hes,QN9]
   have:=YP.cpy (P:=P) (K:=K) i x y (sig e o) t rows ys mv (by show x.av (look e)=_;rw[hxv,hlr]) (by show Qc o i=_;rw[hov,hes];rfl) hyv (by rw[h5,hlr]);rw[<- hlr] at this;exact this
  exact hh.elim
 |_=>rw[<- hop];exact plain (by rw[hop] at hh |-;exact hh)
def Qom{A:Zi}{p:Oper}{σ:Fs}{v:AV}{up:Option (Nat×AO)}(c:Ctx P K ok0 w0)(h:Rel ok0 N w0 σ.lk σ.lo a w L)(hd:VK N A.d p.dst=true)(hf:A.op.fits P p.op=true)
  (hy:YP P K A.op σ v up):∃w1 a' w' L',w0.le w1/\Rel ok0 N w1 (σ.app A.d v up).lk (σ.app A.d v up).lo a' w' L':=by
 have:=QfW (ops:=#[{ p with guard:=none }]) (i:=0) (o:={ p with guard:=none }) (C:=λa' w'=>∃w1 L',w0.le w1/\Rel ok0 N w1 (σ.app A.d v up).lk (σ.app A.d v up).lo a' w' L') c h rfl (by simp[Region.wanted]) hd hf hy
  (λw1 a' w' L' hl hr=>⟨w1,L',hl,hr⟩)
 have⟨a',w',⟨w1,L',hl,hr⟩,_⟩:=this default [] [] [];exact⟨w1,a',w',L',hl,hr⟩
def Qjs{A:Zi}{p:Oper}{σ σ':Fs}(c:Ctx P K ok0 w0)(h:Rel ok0 N w0 σ.lk σ.lo a w L)(hd:VK N A.d p.dst=true)(hf:A.op.fits P p.op=true)
  (hy:Wi P K A.d σ A.op σ'):∃a' w' L',Rel ok0 N w0 σ'.lk σ'.lo a' w' L':=by
 have hnd:∀c,p.op≠.defer c:=λc e=>by rw[e,Qaw] at hf;cases hf
 have:=UB (ops:=#[{ p with guard:=none }]) (i:=0) (o:={ p with guard:=none }) (C:=λa' w'=>∃L',Rel ok0 N w0 σ'.lk σ'.lo a' w' L') (a:=a) (w:=w) rfl (by simp[Region.wanted]) hnd (QhJ (o:={ p with guard:=none }) c h hd hf hy (λa' w' L' hr=>⟨L',hr⟩));have⟨a',w',⟨L',hr⟩,_⟩:=this default [] [] [];exact⟨a',w',L',hr⟩
theorem extract{ops:Array Oper}{C:Env->Qz->Prop}:∀(l:List Zi)(ps:List Oper)(e:Env)(o:Qz)(w0:XS)(c:Ctx P K ok0 w0)(a:Act)(w:World)(L:Nat->Lay),X0 P N ops l ps=true ->
  Rel ok0 N w0 (look e) (Qc o) a w L->Qy P K C l e o->∃e' o',Qto P K l (sig e o) (sig e' o')/\C e' o'
 |[],ps,e,o,w0,c,a,w,L,_,_,hh=>⟨e,o,.nil _,hh⟩
 |A::l,[],e,o,w0,c,a,w,L,hf,_,_=>by simp[X0] at hf
 |A::l,p::ps,e,o,w0,c,a,w,L,hf,hr,hh=>by
  simp only[X0,QNZ] at hf;obtain⟨hop,hf⟩:=hf;have hop':=hop;simp only[Vu,QNZ] at hop';have⟨⟨hd,hg⟩,hfit⟩:=hop';simp only[Qy] at hh
  have wanted:∀e1:Env,look e1=look e->QiP P K A.op (λv up=>Qy P K C l (bnd A.d v e1) (upL up o)) e1 o ->
    (∀v up,YP P K A.op (sig e o) v up->Yields P K A (sig e o) v up)->∃e' o',Qto P K (A::l) (sig e o) (sig e' o')/\C e' o':=by
   intro e1 he1 h1 hy;have hr1:Rel ok0 N w0 (look e1) (Qc o) a w L:=by rw[he1];exact hr
   have⟨v,up,hgv,hc⟩:=QnZ c hr1 hfit h1;have hs1:sig e1 o=sig e o:=by simp[sig,he1]
   rw[hs1] at hgv;have⟨w1,a',w',L',hle,hr'⟩:=Qom (σ:=sig e o) c hr hd hfit hgv;have hs2:(sig e o).app A.d v up=sig (bnd A.d v e1) (upL up o):=by rw[<- hs1,Qpe]
   rw[hs2] at hr';have⟨e',o',hp,hc'⟩:=extract l ps _ _ w1 (c.le hle) a' w' L' hf hr' hc;exact⟨e',o',.cons A l _ _ _ (.app v up (hy v up hgv)) (by rw[hs2];exact hp),hc'⟩
  have unwanted:∀(t:Nat)(b:Bool),A.g=some (t,b)->∀x:AV,look e t=x->(look e t=.iv (.bool (!b))\/look e t=.iv (.xf []))->Qy P K C l (bnd A.d (.iv (.xf [])) (QbB t x e)) o ->
    ∃e' o',Qto P K (A::l) (sig e o) (sig e' o')/\C e' o':=by
   intro t b hag x hx hor hun;have hle:=qd (e:=e) hx;have hs:(sig e o).app A.d (.iv (.xf [])) none=sig (bnd A.d (.iv (.xf [])) (QbB t x e)) o:=by
    have:sig e o=sig (QbB t x e) o:=by simp[sig,hle]
    rw[this,Qpe];rfl
   have⟨hde,hdlt⟩:=qy hd;have hr':=hr.put p.dst hdlt (x:=.iv (.xf [])) (v:=undef) (.iv _ _ Qck);rw[<- hde] at hr';have hr2:Rel ok0 N w0 (look (bnd A.d (.iv (.xf [])) (QbB t x e))) (Qc o) (a.put A.d undef) w L:=by rw[JD,hle];exact hr'
   have⟨e',o',hp,hc'⟩:=extract l ps _ _ w0 c _ w L hf hr2 hun;exact⟨e',o',.cons A l _ _ _ (.app (.iv (.xf [])) none (by unfold Yields;rw[hag];exact .inr ⟨hor,rfl,rfl⟩)) (by rw[hs];exact hp),hc'⟩
  have hwant:∀e1:Env,look e1=look e->(A.g=none\/∃t b,A.g=some (t,b)/\(sig e o).lk t=.iv (.bool b))->Qiu P K A.op A.d (Qy P K C l) e1 o->∃e' o',Qto P K (A::l) (sig e o) (sig e' o')/\C e' o':=by
   intro e1 he1 hag hh;have hse:sig e1 o=sig e o:=by simp[sig,he1]
   obtain⟨σ',hgv,e',o',hs,hc⟩:∃σ',Wi P K A.d (sig e o) A.op σ'/\∃e' o',sig e' o'=σ'/\Qy P K C l e' o':=by
    rw[<- hse];unfold Qiu at hh;split at hh
    .obtain⟨keep,y',lo',args0,lo0,st,y,lo1,dom,e',o',h1,h2,h3,h4⟩:=QHt hh;rename_i hAop;rw[hAop];refine⟨_,Wi.yz _ _ _ keep y' lo' args0 lo0 st y lo1 dom h1,e',o',?_,h4⟩;simp[sig,h2,h3]
    .obtain⟨g,fs,cs,hx,hcal,hh⟩:=hh;have⟨keep,y',lo',args0,lo0,st,y,lo1,dom,e',o',h1,h2,h3,h4⟩:=QHt hh;rename_i hAop;rw[hAop];refine⟨_,Wi.y3 _ g fs cs _ _ keep y' lo' args0 lo0 st y lo1 dom hx hcal h1,e',o',?_,h4⟩;simp[sig,h2,h3]
    exact hh.elim
   have⟨a',w',L',hr'⟩:=Qjs (σ:=sig e o) c hr hd hfit hgv;rw[<- hs] at hr';have⟨e2,o2,hp,hc'⟩:=extract l ps e' o' w0 c a' w' L' hf hr' hc;exact⟨e2,o2,.cons A l _ _ _ (.h σ' hag hgv) (by rw[<- hs];exact hp),hc'⟩
  split at hh
  .rename_i hag;split at hh
   .exact hwant e rfl (.inl hag) hh
   exact wanted e rfl hh (λv up h=>by unfold Yields;rw[hag];exact h)
  .rename_i t b hag;unfold Qqo at hh;split at hh
   .rename_i cb hcb;by_cases hbc:cb=b
    .subst hbc;have hh1:=hh.1 rfl;dsimp only at hh1;split at hh1
     .exact hwant _ (qd hcb) (.inr ⟨_,_,hag,hcb⟩) hh1
     exact wanted _ (qd hcb) hh1 (λv up h=>by unfold Yields;rw[hag];exact .inl ⟨hcb,h⟩)
    have hcb':cb=!b:=by cases cb<;>cases b<;>simp_all
    grind
   all_goals grind
end
def Qi7(N:Fm)(d dx:Nat)(x:Opd)(ops:Array Oper):Bool:=
 match ops.toList with
 |[p,q]=>p.dst==some d&&q.dst==some dx&&N.dst d&&N.dst dx&&p.guard.isNone&&q.guard.isNone &&
  (match p.op with| .next y s=>x.is y&&!s|_=>false)&&(match q.op with| .extract (.tmp m) j=>m==d&&j==0|_=>false)
 |_=>false
section
variable{P:Program}{K:World->Prop}{ok0:Nat->Prop}{N:Fm}{w0:XS}{lk:Nat->AV}{lo:Nat->Option AO}{a:Act}{w:World}{L:Nat->Lay}
def QpN{p:Oper}{y:Operand}{x:Opd}{d id:Nat}{kvs:List (MK×IV)}{seen:List Nat}(h:Rel ok0 N w0 lk lo a w L)(hd:p.dst=some d)(hdN:N.dst d=true)(ho:p.op=.next y false)(hx:x.is y=true)(hxv:x.av lk=.yk id)(hid:lo id=some (.yq kvs seen)):∃u w' L',(execOp a.eval p).run P w=.ok (.value u) w' /\(((∀i,i<kvs.length->i∈seen)/\Rel ok0 N w0 (JW lk (some d) (.iv (.xf [.bool false]))) lo (a.put p.dst u) w' L') \/∃i q,kvs[i]?=some q/\i∉seen/\Rel ok0 N w0 (JW lk (some d) (.iv (.xf [.bool true,q.1.iv,q.2]))) (Zn lo id (.yq kvs (i::seen))) (a.put p.dst u) w' L'):=by
 have rx:=Opd.rep h hx;rw[hxv] at rx;have⟨_,b,hL,hv⟩:=Qed hid (Yv id) rx;have hob:=h.y8 _ _ hid;rw[hL] at hob;have⟨hF,r,since,sn,hb,hit⟩:=hob
 have over:(∀i,i<kvs.length->i∈seen)->(Instr.next (.pointer (some ⟨b,0,none⟩)) false p.type).run P w=.ok (.tuple #[.bool false]) w ->∃u w' L',(execOp a.eval p).run P w=.ok (.value u) w' /\(((∀i,i<kvs.length->i∈seen)/\Rel ok0 N w0 (JW lk (some d) (.iv (.xf [.bool false]))) lo (a.put p.dst u) w' L') \/
    ∃i q,kvs[i]?=some q/\i∉seen/\Rel ok0 N w0 (JW lk (some d) (.iv (.xf [.bool true,q.1.iv,q.2]))) (Zn lo id (.yq kvs (i::seen))) (a.put p.dst u) w' L'):=by
  intro xd hrun;refine⟨.tuple #[.bool false],w,L,by simp[execOp,ho,hv,hrun],.inl ⟨xd,?_⟩⟩;rw[hd];refine h.put (some d) (λt ht=>by injection ht with ht;subst ht;exact hdN) (.iv _ _ (.xf _ [_] rfl λk x u hk hu=>?_))
  match k with
  |0=>simp at hk hu;subst hk hu;exact .bool _
  |k+1=>simp at hk
 cases r with
 |none=>have hk:kvs=[]:=hit;subst hk;refine over (λi hi=>by simp at hi) ?_;have hb':w.heap[b]?=some (.mapIter none since sn since):=hb;simp[Instr.next,getObj,Sem.run,hb']
 |some r=>
  have⟨es,h1,h2,h3,h4,h5,h6⟩:=hit;have hold:∀x∈es.toList,x.born<since:=λx hx=>by have⟨i,hi⟩:=QOF hx;exact h3.born i x (by simpa using hi)
  have stamp:∀(i:Nat)(e:MapEntry),es[i]?=some e->(sn.contains e.born=true↔i∈seen):=by
   intro i e he;constructor
   .intro hc;simp only[Array.contains_iff_mem] at hc;have⟨j,hj⟩:=Array.getElem?_of_mem hc;have hjl:j<seen.reverse.length:=by rw[List.length_reverse,<- h5];exact(QN8.1 hj).1
    have⟨e',h7,h8⟩:=h6 j _ (QNX hjl);rw[hj] at h8;injection h8 with h8;have:=h3.apart i _ e e' he h7 h8;rw[this,<- List.mem_reverse];exact QN0 hjl
   intro hm;rw[<- List.mem_reverse] at hm;have⟨j,hj⟩:=QOF hm;grind
  rcases run_next_at (P:=P) w p.type b r since since sn es since hb h2 hold (QN3 _) with ⟨h7,hrun⟩|⟨e,he,w1,hw1,hrun⟩
  .refine over (λi hi=>?_) hrun;have hi':i<es.size:=by rw[h3.size];exact hi
   have hel:es[i]∉(leftOf es sn).toList:=by grind
   simp only[leftOf,Array.mem_toList_iff,Array.mem_filter,Array.getElem_mem,true_and,QOD,Bool.not_eq_false] at hel;exact(stamp i _ (QOR hi')).1 hel
  .simp only[leftOf,Array.mem_toList_iff,Array.mem_filter,QOD] at he;have⟨i,hi⟩:=Array.getElem?_of_mem he.1;have hil:i<kvs.length:=by rw[<- h3.size];exact(QN8.1 hi).1
   have hq:=QNX hil;have hns:i∉seen:=λhm=>by have:=(stamp i e hi).2 hm;rw[he.2] at this;cases this
   have⟨k',hk1,hk2⟩:=h3.keys i e hi;rw[hq] at hk1;injection hk1 with hk1;have hw1h:w1.heap=w.heap:=by rcases hw1 with rfl|rfl<;>rfl
   have hblt:b<w.heap.size:=(QN8.1 hb).1;have hg:Qix (λk=>b=k) w (ChangeMaps.setBlock w1 b (.mapIter (some r) since (sn.push e.born) since)):=by refine⟨?_,?_,?_,by simp[ChangeMaps.setBlock,hw1h],λk _ hn=>by simp[ChangeMaps.setBlock,hw1h,QPr,hn]⟩<;>rcases hw1 with rfl|rfl<;>rfl
   refine⟨.tuple #[.bool true,e.key,e.val],_,Q7 L id (.one b),by simp[execOp,ho,hv,hrun];rfl,.inr ⟨i,kvs[i],hq,hns,?_⟩⟩
   have hrel:=h.turnOne (ob':=.yq kvs (i::seen)) hid hL hg (λok lo' L' x' v' a1 a2 hx' hr=>by
    grind) (λok lo' L' hok _=>by
    have hrne:r≠b:=λe=>by rw[e,hb] at h2;cases h2
    refine⟨hF,some r,since,sn.push e.born,by simp[ChangeMaps.setBlock,hw1h,hblt],es,(hok r h1 (QN8.1 h2).1).1,(hok r h1 (QN8.1 h2).1).2.trans h2,h3,λi e p a1 a2=>(h4 i e p a1 a2).mono λb' hb' y9=>hok b' hb' y9,by simp[h5],λj x hj=>?_⟩;rw[List.reverse_cons,List.getElem?_append] at hj;rw[QPv];split at hj
    .grind
    grind)
   rw[hd];refine hrel.put (some d) (λt ht=>by injection ht with ht;subst ht;exact hdN) (.iv _ _ (.xf _ [_,_,_] rfl λk x u hk hu=>?_))
   match k with
   |0=>simp at hk hu;subst hk hu;exact .bool _
   |1=>simp at hk hu;subst hk hu;rw[hk2,<- hk1];exact Qpx _ _ _
   |2=>simp at hk hu;subst hk hu;refine(h4 i e kvs[i] hi hq).mono λb' hb' y9=>⟨h.okL_turn hid (λk hk=>.inl (by rw[hL];exact hk)) hb' y9,hg.block b' y9 λe=>?_⟩;subst e;exact hb'.2 id _ hid (by rw[hL];rfl)
   |k+3=>simp at hk
def QpJ{ops:Array Oper}{d dx cid id:Nat}{x:Opd}{kvs:List (MK×IV)}{seen:List Nat}{Q:Act->World->Prop}(c:Ctx P K ok0 w0)(h:Rel ok0 N w0 lk lo a w L)(hf:Qi7 N d dx x ops=true)(hxv:x.av lk=.yk id)(hid:lo id=some (.yq kvs seen))
  (hend:(∀i,i<kvs.length->i∈seen)->∀a' w' L',Rel ok0 N w0 (JW (JW lk (some d) (.iv (.xf [.bool false]))) (some dx) (.iv (.bool false))) lo a' w' L'->Q a' w')
  (hmore:∀i q,kvs[i]?=some q->i∉seen->∀a' w' L',Rel ok0 N w0 (JW (JW lk (some d) (.iv (.xf [.bool true,q.1.iv,q.2]))) (some dx) (.iv (.bool true))) (Zn lo id (.yq kvs (i::seen))) a' w' L'->Q a' w')
  (b:Frame)(k:List Item)(cs:List Frame):∃a' w',Q a' w'/\Steps P (lone (b.atR a (.code (.region cid ops false)::k)) cs w) (lone (b.atR a' k) cs w'):=by
 unfold Qi7 at hf;split at hf
 .rename_i p q hops;simp only[QNZ,beq_iff_eq,Option.isNone_iff_eq_none] at hf;have⟨⟨⟨⟨⟨⟨⟨hpd,hqd⟩,hdN⟩,hdxN⟩,hpg⟩,hqg⟩,hp⟩,hq⟩:=hf;have hops':ops=#[p,q]:=by rw[<- Array.toList_inj];exact hops
  subst hops';split at hp
  .rename_i y s hpo;simp only[QNZ,QOD] at hp;obtain⟨hx,rfl⟩:=hp;split at hq
   .rename_i m j hqo;simp only[QNZ,beq_iff_eq] at hq;obtain⟨rfl,rfl⟩:=hq;refine Qg8 (Q:=Q) ?_ b k cs;have hr2:List.range (#[p,q]:Array Oper).size=[0,1]:=rfl;rw[hr2];have⟨u,w1,L1,hrun,hor⟩:=QpN (P:=P) h hpd hdN hpo hx hxv hid;have w1t:Region.wanted p (yielded #[p,q] a.tmps)=true:=by simp[Region.wanted,hpg]
    simp only[QdI];apply UB (o:=p) rfl w1t (λc e=>by rw[hpo] at e;cases e);unfold Oper.wp;rw[hrun];simp only[Oper.upon];have w2t:Region.wanted q (yielded #[p,q] (a.put p.dst u).tmps)=true:=by simp[Region.wanted,hqg]
    apply UB (o:=q) rfl w2t (λc e=>by rw[hqo] at e;cases e)
    have ext:∀(lk1:Nat->AV)(lo1:Nat->Option AO)(cs:List IV)(bv:Bool),Rel ok0 N w0 (JW lk1 (some m) (.iv (.xf (.bool bv::cs)))) lo1 (a.put p.dst u) w1 L1 ->(∀a' w' L',Rel ok0 N w0 (JW (JW lk1 (some m) (.iv (.xf (.bool bv::cs)))) (some dx) (.iv (.bool bv))) lo1 a' w' L'->Q a' w') ->
      q.wp P (a.put p.dst u) w1 Q (λ_ _ _=>False):=by
     intro lk1 lo1 cs bv hr hQ
     exact Qm1 (A:=⟨some dx,none,.ext (.t m) 0⟩) (σ:=⟨JW lk1 (some m) (.iv (.xf (.bool bv::cs))),lo1⟩) (v:=.iv (.bool bv)) (up:=none) c hr (by simp[VK,hqd,hdxN]) (by simp[AOp.fits,hqo,QHJ,Opd.is,Opd.isTmp])
      (.plain _ _ True True _ _ (by simp[ev,Opd.av,JW,QoB]) trivial) rfl (λa' w' L' h=>hQ a' w' L' h)
    grind
   cases hq
  cases hp
 .cases hf
def QGi{id bid off e sz cs}(h:Rel ok0 N w0 lk lo a w L)(hid:lo id=none)(hb:lo bid=some (.box cs))(hc:cs[off]?=some (.ym sz)):∃L',Rel ok0 N w0 lk (Zn (Zn lo id (.arr e sz [] 0)) bid (.box (cs.set off (.yl id 0)))) a w L':=by
 have hne:bid≠id:=λe=>by rw[e,hid] at hb;cases hb
 have h1:=h.new id hid (.arr e sz [] 0) (.arr (.slice none 0 0) []) (Below.refl _ w) (λb hb=>by simp[Lay.has,Value.ownBlock] at hb)
  ⟨⟨⟨by simp,.inl ⟨rfl,rfl⟩⟩,λb hb=>by simp[Value.ownBlock] at hb⟩,QN3 _,by simp,by simp,by simp⟩
 have hb1:Zn lo id (.arr e sz [] 0) bid=some (.box cs):=by simp[Zn,hne,hb]
 have hob:=h1.y8 _ _ hb1
 have hok:∀k,okL ok0 (Zn lo id (.arr e sz [] 0)) (Q7 L id (.arr (.slice none 0 0) [])) k->k<w.heap.size->okL ok0 (Zn (Zn lo id (.arr e sz [] 0)) bid (.box (cs.set off (.yl id 0)))) (Q7 (Q7 L id (.arr (.slice none 0 0) [])) bid (Q7 L id (.arr (.slice none 0 0) []) bid)) k:=λk hk y9=>h1.okL_turn hb1 (λb hb=>.inl hb) hk y9
 refine⟨_,h1.turn (o':=.box (cs.set off (.yl id 0))) (l':=Q7 L id (.arr (.slice none 0 0) []) bid) bid hb1 ⟨rfl,rfl,rfl,QN3 _,λ_ _ _=>rfl⟩ (λb hb=>.inl hb) (λz u hz hu=>?_) (λall=>?_)⟩
 .cases hu with
  |_=>grind
 revert hob all
 generalize Q7 L id (.arr (.slice none 0 0) []) bid=l;intro hob all;cases l with
 |box b=>
  have⟨hB,t,vs,hbk,hl,h1',hx⟩:=hob;refine⟨hB,t,vs,hbk,by rw[List.length_set];exact hl,h1',λk x u hk hu=>?_⟩;rw[List.getElem?_set] at hk;split at hk
  .rename_i hko;subst hko;have hk':x=.yl id 0:=by
    grind
   subst hk';have hu':u=.slice none 0 0:=by have:=hx off _ u hc hu;cases this;rfl
   subst hu';exact .yl id e sz [] 0 (.slice none 0 0) [] (by simp[Zn,Ne.symm hne]) (by simp[Q7,Ne.symm hne]) rfl
  exact all _ _ (hx k x u hk hu)
 |_=>exact hob.elim
end
inductive AC where
 |skip
 |ops(l:List Zi)(draw:Bool)
 |seq(x y:AC)
 |cond(c:Opd)(x y:AC)
 |block(id:Nat)(c:AC)
 |loop(c:AC)(ks ids:List Nat)
 |exit(id:Nat)
 |scope(c:AC)
 |label(l:Nat)
 |ret
 |nxt(d dx:Nat)(x:Opd)(id:Nat)
 |gh(id bid off:Nat)(e:TypeId)(sz:Nat)(c:AC)
 |frz(t id:Nat)(ks ids:List Nat)(c:AC)
 |range(f:Opd)(ps:List Nat)(asn body:AC)(ks ids:List Nat)
 |fz(ks ids:List Nat)(c:AC)
 deriving Inhabited
inductive Way where
 |fall
 |ret
 |exit(id:Nat)
 deriving DecidableEq
inductive AI where
 |code(c:AC)
 |inBlock(id:Nat)
 |inLoop(c:AC)(ks ids:List Nat)
 |inScope
inductive Qbu where
 |tmp(t:Nat)
 |cell(t n:Nat)(ag:Bool)
def QA(P:Program)(N:Fm):AC->Code->Bool
 | .gh _ _ _ _ _ c,c'=>QA P N c c'
 | .frz _ _ _ _ c,c'=>QA P N c c'
 | .fz _ _ c,c'=>QA P N c c'
 | .range f ps x y ks _,.rangeFunc f' ps' x' y'=>f.is f'&&ps==ps'.toList&&ps.all (λp=>decide (p<N.n)&&!ks.contains p)&&QA P ⟨N.n,ks⟩ x x'&&QA P ⟨N.n,ks⟩ y y'
 | .nxt d dx x _,.region _ ops d'=>!d'&&Qi7 N d dx x ops
 | .skip,.skip=>true
 | .ops l d,.region _ ops d'=>d==d'&&UK P N l ops d
 | .seq x y,.seq x' y'=>QA P N x x'&&QA P N y y'
 | .cond c x y,.cond c' x' y'=>c.is c'&&QA P N x x'&&QA P N y y'
 | .block id c,.block id' c'=>id==id'&&QA P N c c'
 | .loop c _ _,.loop c'=>QA P N c c'
 | .exit id,.exit id'=>id==id'
 | .scope c,.scope c'=>QA P N c c'
 | .label l,.label l'=>l==l'
 | .ret,.ret=>true
 |_,_=>false
def Uu(id:Nat):List AI->Option (List AI)
 | .inBlock id'::k=>if id'==id then some k else Uu id k
 |_::k=>Uu id k
 |[]=>none
def ZN(ks ids:List Nat)(e:Env):Env:=ks.map λt=>(t,scr ids (look e t))
def XU(all:List Nat)(o:Qz):List Nat->Qz
 |[]=>[]
 |id::r=>match Qc o id with
  |some x=>(id,Qgt all x)::XU all o r
  |none=>XU all o r
def QtT(ids:List Nat)(o:Qz):Nat->Option AO:=λi=>if ids.contains i then none else Qc o i
def Qtx(lod:Nat->Option AO)(ids:List Nat)(x:AV):AV:=match imm lod 40 x with
 |some y=>.iv y
 |none=>scr ids x
def Qpa(lod:Nat->Option AO)(ids:List Nat):List AV->List AV
 |[]=>[]
 |x::r=>Qtx lod ids x::Qpa lod ids r
def QEC(lod:Nat->Option AO)(ids:List Nat):AO->AO
 | .box cs=>.box (Qpa lod ids cs)
 | .arr e sz es mv=>.arr e sz (es.map (Qpa lod ids)) mv
 |o=>o
def Qwy(lod:Nat->Option AO)(ks ids:List Nat)(e:Env):Env:=match ks with
 |[]=>[]
 |t::r=>(t,Qtx lod ids (look e t))::Qwy lod r ids e
def qU(lod:Nat->Option AO)(all:List Nat)(o:Qz):List Nat->Qz
 |[]=>[]
 |id::r=>match Qc o id with
  |some x=>(id,QEC lod all x)::qU lod all o r
  |none=>qU lod all o r
def QHz(e:Env)(o:Qz):Qbu->Option IV
 | .tmp t=>imm (Qc o) 40 (look e t)
 | .cell t n ag=>match look e t with
   | .loc id off=>match Qc o id with
     |some (.box cs)=>match ag with
      |true=>if off+n<=cs.length then(imms (Qc o) 40 ((cs.drop off).take n)).map .agg else none
      |false=>if n=1 then(match cs[off]? with|some c=>imm (Qc o) 40 c|none=>none) else none
     |_=>none
   |_=>none
def Qn5(e:Env)(o:Qz):List Qbu->Option (List IV)
 |[]=>some []
 |x::r=>match QHz e o x,Qn5 e o r with
  |some y,some ys=>some (y::ys)
  |_,_=>none
def QED(res:List Qbu)(e:Env)(o:Qz):Option IV:=
 match Qn5 e o res with
 |some [x]=>some x
 |some xs=>some (.xf xs)
 |none=>none
def QP(P:Program):List Qbu->List ResultVar->Bool
 |[],[]=>true
 | .tmp t::r,.tmp t'::s=>t==t'&&QP P r s
 | .cell t n ag::r,.cell t' T::s=>t==t'&&Program.agg P T==some ag&&Program.sizeIs P T n&&QP P r s
 |_,_=>false
def Qdp:List Nat->List IV->Env->Env
 |p::ps,x::xs,e=>Qdp ps xs ((p,.iv x)::e)
 |_,_,e=>e
def QoE:AV->Option (FuncId×List IV×List IV)
 | .iv (.fn g)=>some (g,[],[])
 | .iv (.clo g fs cs)=>some (g,fs,cs)
 |_=>none
def Way.jump:Way->Option AC
 | .fall=>none
 | .ret=>some .ret
 | .exit id=>some (.exit id)
def Qjm(wy:Way)(k:List AI):List AI:=
 match wy.jump with
 |none=>k
 |some c=>.code c::k
inductive WpF(P:Program)(K:World->Prop):(Way->Env->Qz->Prop)->List AI->Env->Qz->Prop
 |skip(F:Way->Env->Qz->Prop)(k:List AI)(e:Env)(o:Qz)(h:WpF P K F k e o):WpF P K F (.code .skip::k) e o
 |region(F:Way->Env->Qz->Prop)(l:List Zi)(draw:Bool)(k:List AI)(e:Env)(o:Qz)(C:Env->Qz->Prop)(h:Qy P K C l e o)(hC:∀e o,C e o->WpF P K F k e o):WpF P K F (.code (.ops l draw)::k) e o
 |seq(F:Way->Env->Qz->Prop)(x y:AC)(k:List AI)(e:Env)(o:Qz)(h:WpF P K F (.code x::.code y::k) e o):WpF P K F (.code (.seq x y)::k) e o
 |cond(F:Way->Env->Qz->Prop)(c:Opd)(x y:AC)(k:List AI)(e:Env)(o:Qz)(b:Bool)(hc:c.av (look e)=.iv (.bool b))(ht:b=true->WpF P K F (.code x::k) e o)(hf:b=false->WpF P K F (.code y::k) e o):WpF P K F (.code (.cond c x y)::k) e o
 |block(F:Way->Env->Qz->Prop)(id:Nat)(c:AC)(k:List AI)(e:Env)(o:Qz)(h:WpF P K F (.code c::.inBlock id::k) e o):WpF P K F (.code (.block id c)::k) e o
 |inBlock(F:Way->Env->Qz->Prop)(id:Nat)(k:List AI)(e:Env)(o:Qz)(h:WpF P K F k e o):WpF P K F (.inBlock id::k) e o
 |loop(F:Way->Env->Qz->Prop)(c:AC)(ks ids:List Nat)(k:List AI)(e:Env)(o:Qz)(h:WpF P K F (.code c::.inLoop c ks ids::k) (ZN ks ids e) (XU ids o ids)):WpF P K F (.code (.loop c ks ids)::k) e o
 |inLoop(F:Way->Env->Qz->Prop)(c:AC)(ks ids:List Nat)(k:List AI)(e:Env)(o:Qz)(h:WpF P K F (.code c::.inLoop c ks ids::k) (ZN ks ids e) (XU ids o ids)):WpF P K F (.inLoop c ks ids::k) e o
 |scope(F:Way->Env->Qz->Prop)(c:AC)(k:List AI)(e:Env)(o:Qz)(h:WpF P K F (.code c::.inScope::k) e o):WpF P K F (.code (.scope c)::k) e o
 |inScope(F:Way->Env->Qz->Prop)(k:List AI)(e:Env)(o:Qz)(h:WpF P K F k e o):WpF P K F (.inScope::k) e o
 |label(F:Way->Env->Qz->Prop)(l:Nat)(k:List AI)(e:Env)(o:Qz)(h:WpF P K F k e o):WpF P K F (.code (.label l)::k) e o
 |exit(F:Way->Env->Qz->Prop)(id:Nat)(k k':List AI)(e:Env)(o:Qz)(hk:Uu id k=some k')(h:WpF P K F k' e o):WpF P K F (.code (.exit id)::k) e o
 |nxt(F:Way->Env->Qz->Prop)(d dx:Nat)(x:Opd)(id:Nat)(k:List AI)(e:Env)(o:Qz)(kvs:List (MK×IV))(seen:List Nat)(hx:x.av (look e)=.yk id)(ho:Qc o id=some (.yq kvs seen))
  (hend:(∀i,i<kvs.length->i∈seen)->WpF P K F k (bnd (some dx) (.iv (.bool false)) (bnd (some d) (.iv (.xf [.bool false])) e)) o)
  (hmore:∀i q,kvs[i]?=some q->i∉seen->WpF P K F k (bnd (some dx) (.iv (.bool true)) (bnd (some d) (.iv (.xf [.bool true,q.1.iv,q.2])) e)) (Yu id (.yq kvs (i::seen)) o)):WpF P K F (.code (.nxt d dx x id)::k) e o
 |gh(F:Way->Env->Qz->Prop)(id bid off:Nat)(t:TypeId)(sz:Nat)(c:AC)(k:List AI)(e:Env)(o:Qz)(cs:List AV)(hid:Qc o id=none)(hb:Qc o bid=some (.box cs))(hc:cs[off]?=some (.ym sz))
  (h:WpF P K F (.code c::k) e (Yu bid (.box (cs.set off (.yl id 0))) (Yu id (.arr t sz [] 0) o))):WpF P K F (.code (.gh id bid off t sz c)::k) e o
 |ret(F:Way->Env->Qz->Prop)(k:List AI)(e:Env)(o:Qz)(h:F .ret e o):WpF P K F (.code .ret::k) e o
 |done(F:Way->Env->Qz->Prop)(e:Env)(o:Qz)(h:F .fall e o):WpF P K F [] e o
 |exitOut(F:Way->Env->Qz->Prop)(id:Nat)(k:List AI)(e:Env)(o:Qz)(hk:Uu id k=none)(h:F (.exit id) e o):WpF P K F (.code (.exit id)::k) e o
 |frz(F:Way->Env->Qz->Prop)(t id:Nat)(ks ids:List Nat)(c:AC)(k:List AI)(e:Env)(o:Qz)(cs:List AV)(xs:List IV)(ht:look e t=.loc id 0)(hb:Qc o id=some (.box cs))(hc:ivs cs=some xs)(hn:ids.contains id=false)
  (h:WpF P K F (.code c::k) (bnd (some t) (.iv (.ptr xs)) (ZN ks ids e)) (XU ids o ids)):WpF P K F (.code (.frz t id ks ids c)::k) e o
 |range(F:Way->Env->Qz->Prop)(f:Opd)(ps:List Nat)(asn body:AC)(ks ids:List Nat)(k:List AI)(e:Env)(o:Qz)(g:FuncId)(fs cs:List IV)(L:List (List IV))(St:Nat->Qz)(Wy:Nat->Way)(m:Nat)(M:Nat->Env->Qz->Prop)
  (hf:QoE (f.av (look e))=some (g,fs,cs))(hc:callee P g=true)(hit:Qbs P K g fs cs L)(h0:St 0=XU ids o ids)(hm:m<=L.length)(xd:∀i,i+1<m->Wy i=.fall)(hend:m=L.length\/(0<m/\Wy (m-1)≠.fall))
  (hlen:∀i x,i<m->L[i]?=some x->x.length=ps.length)
  (h1:∀i x,i<m->L[i]?=some x->WpF P K (λwy e1 o1=>wy=.fall/\M i e1 o1) [.code asn] (Qdp ps x (ZN ks ids e)) (St i))
  (h2:∀i e1 o1,i<m->M i e1 o1->WpF P K (λwy e2 o2=>wy=Wy i/\ZN ks ids e2=ZN ks ids e/\XU ids o2 ids=St (i+1)) [.code body] e1 o1)
  (h3:WpF P K F (Qjm (if m=0 then .fall else Wy (m-1)) k) (ZN ks ids e) (St m)):WpF P K F (.code (.range f ps asn body ks ids)::k) e o
 |fz(F:Way->Env->Qz->Prop)(ks ids:List Nat)(c:AC)(k:List AI)(e:Env)(o:Qz)
  (h:WpF P K F (.code c::k) (Qwy (QtT ids o) ks ids e) (qU (QtT ids o) ids o ids)):WpF P K F (.code (.fz ks ids c)::k) e o
def QdT(res:List Qbu)(r:IV)(e:Env)(o:Qz):Prop:=QED res e o=some r
inductive Fit(P:Program)(N:Fm)(tl:List Item):List AI->List Item->Prop
 |nil:Fit P N tl [] tl
 |code(c:AC)(c':Code)(k:List AI)(k':List Item)(h:QA P N c c'=true)(hk:Fit P N tl k k'):Fit P N tl (.code c::k) (.code c'::k')
 |inBlock(id:Nat)(k:List AI)(k':List Item)(hk:Fit P N tl k k'):Fit P N tl (.inBlock id::k) (.inBlock id::k')
 |inScope(c':Code)(k:List AI)(k':List Item)(hk:Fit P N tl k k'):Fit P N tl (.inScope::k) (.inScope c'::k')
 |inLoop(c:AC)(c':Code)(ks ids:List Nat)(k:List AI)(k':List Item)(h:QA P N c c'=true)(hk:Fit P N tl k k'):Fit P N tl (.inLoop c ks ids::k) (.inLoop c'::k')
def Fit.exit{P:Program}{N:Fm}{tl:List Item}{id:Nat}{k:List AI}{k':List Item}(h:Fit P N tl k k'):∀{j:List AI},Uu id k=some j->∃j',exitTo id k'=some j'/\Fit P N tl j j':=by
 induction h with
 |nil=>intro j hj;simp[Uu] at hj
 |code c c' k k' h hk ih=>intro j hj;simp only[Uu] at hj;simp only[exitTo];exact ih hj
 |inBlock id' k k' hk ih=>intro j hj;simp only[Uu] at hj;simp only[exitTo];grind
 |inScope c' k k' hk ih=>intro j hj;simp only[Uu] at hj;simp only[exitTo];exact ih hj
 |inLoop c c' ks ids k k' h hk ih=>intro j hj;simp only[Uu] at hj;simp only[exitTo];exact ih hj
def Fit.exitOut{P:Program}{N:Fm}{tl:List Item}{id:Nat}(htl:exitTo id tl=none){k:List AI}{k':List Item}(h:Fit P N tl k k')(hj:Uu id k=none):exitTo id k'=none:=by
 induction h with
 |nil=>exact htl
 |code c c' k k' h hk ih=>simp only[Uu] at hj;simp only[exitTo];exact ih hj
 |inBlock id' k k' hk ih=>simp only[Uu] at hj;simp only[exitTo];grind
 |inScope c' k k' hk ih=>simp only[Uu] at hj;simp only[exitTo];exact ih hj
 |inLoop c c' ks ids k k' h hk ih=>simp only[Uu] at hj;simp only[exitTo];exact ih hj
def Reach(P:Program)(f:FuncId)(cs:List Frame)(m:Machine)(R:Value->World->Prop):Prop:=∃w' fr v,Steps P m (lone fr cs w')/\fr.fn=f/\fr.leaving P w' (.returned v)/\R v w'
def Reach.steps{P f cs m m' R}(h:Steps P m m')(hr:Reach P f cs m' R):Reach P f cs m R:=
 let⟨w',fr,v,h1,h2⟩:=hr
 ⟨w',fr,v,h.trans h1,h2⟩
section
variable{P:Program}{K:World->Prop}{ok0:Nat->Prop}{N:Fm}{w0:XS}{a:Act}{w:World}{L:Nat->Lay}
def Qph{ok ok' lo lo' ids}(hok:∀b,ok b->ok' b)(xc:∀id o,ids.contains id=true->lo id=some o->lo' id=some (Qgt ids o)){x v}(h:QG ok w lo L x v):QG ok' w lo' L (scr ids x) v:=by
 induction h with
 |iv x v h=>simp only[scr];exact .iv _ _ (h.mono λb hb _=>⟨hok b hb,rfl⟩)
 |yk id b o ho hn hL=>
  simp only[scr];split
  .cases o<;>cases hn<;>grind [Qgt]
  exact .iv _ _ (.any _)
 |_=>
  simp only[scr]
  try split
  all_goals first|exact .iv _ _ (.any _)|grind [Qgt,WX,Ua]
theorem Qen(ids e):∀ks t,look (ZN ks ids e) t=.iv .any\/look (ZN ks ids e) t=scr ids (look e t)
 |[],t=>.inl rfl
 |k::r,t=>by
  simp only[ZN,QOk,look];split
  .rename_i h;subst h;exact .inr rfl
  .exact Qen ids e r t
theorem Ye(all o):∀l id,Qc (XU all o l) id=if l.contains id then(Qc o id).map (Qgt all) else none
 |[],id=>by simp[XU,Qc]
 |i::r,id=>by
  simp only[XU];split
  .rename_i x hx;simp only[Qc,Ye all o r id];by_cases h:id=i
   .subst h;simp[hx]
   simp[h]
  .rename_i hx;rw[Ye all o r id];by_cases h:id=i
   .subst h;simp[hx]
   .simp[h]
def Rel.keep{e o}(h:Rel ok0 N w0 (look e) (Qc o) a w L)(ks ids):Rel ok0 N w0 (look (ZN ks ids e)) (Qc (XU ids o ids)) a w L:=by
 have xc:∀id ob,ids.contains id=true->Qc o id=some ob->Qc (XU ids o ids) id=some (Qgt ids ob):=by intro id ob hc hob;rw[Ye,if_pos hc,hob];rfl
 have hinv:∀id ob,Qc (XU ids o ids) id=some ob->∃ob0,Qc o id=some ob0/\ob=Qgt ids ob0:=by
  intro id ob hob;rw[Ye] at hob;split at hob
  .cases hq:Qc o id with
   |_=>grind
  cases hob
 have hok:∀b,okL ok0 (Qc o) L b->okL ok0 (Qc (XU ids o ids)) L b:=λb hb=>⟨hb.1,λid ob hob=>by have⟨q,hq,_⟩:=hinv id ob hob;exact hb.2 id q hq⟩
 refine⟨h.below,h.defers.stay (λ_ _ _=>rfl) (λr _ hn i oi hi=>by have⟨q,hq,_⟩:=hinv i oi hi;exact hn i q hq),h.size,λt=>?_,λid ob hob=>?_,λi j oi oj b hij hi hj=>?_,h.pin⟩
 .rcases Qen ids e ks t with hq|hq
  .rw[hq];exact .iv _ _ (.any _)
  rw[hq];exact Qph hok xc (h.env t)
 .obtain⟨q,hq,rfl⟩:=hinv id ob hob;exact QgQ ⟨rfl,rfl,rfl,QN3 _⟩ (λb hb _=>⟨hok b hb,rfl⟩) (λb hb=>⟨((h.y8 id q hq).lt hb).1,rfl⟩) (λb h1 h2=>⟨h1,hok b h2,rfl⟩) (λx v hx=>Qph hok xc hx) (h.y8 id q hq)
 .obtain⟨p,hp,_⟩:=hinv i oi hi;have⟨q,hq,_⟩:=hinv j oj hj;exact h.apart i j p q b hij hp hq
end
def Qdv(b:Frame)(w0:XS):Prop:=∀l,b.roundOf=some l->w0.fr l/\∃r,w0.w.heap[l]?=some (.loop r)
theorem Qdv.le{b w0 w1}(h:Qdv b w0)(hl:w0.le w1):Qdv b w1:=λl hb=>by have⟨h1,r,h2⟩:=h l hb;exact⟨hl.fr l h1,r,(hl.keep.block l h1).trans h2⟩
def QHv(tl:List Item):Way->List Item->Prop
 | .fall,k=>k=tl
 | .ret,k=>∃k1,k=.code .ret::k1
 | .exit id,k=>∃k1,k=.code (.exit id)::k1/\exitTo id k1=none
def Ends(P:Program)(F:Way->Env->Qz->Prop)(b:Frame)(cs:List Frame)(tl:List Item)(N:Fm)(ok0:Nat->Prop)(w0:XS)(m:Machine):Prop:=∃wy e o a w w1 L k,F wy e o/\w0.le w1/\Rel ok0 N w1 (look e) (Qc o) a w L/\QHv tl wy k/\Steps P m (lone (b.atR a k) cs w)
def Ends.steps{P F b cs tl N ok0 w0 w1 m m'}(hs:Steps P m m')(hl:w0.le w1)(h:Ends P F b cs tl N ok0 w1 m'):Ends P F b cs tl N ok0 w0 m:=by have⟨wy,e,o,a,w,w2,L,k,h1,h2,h3,h4,h5⟩:=h;exact⟨wy,e,o,a,w,w2,L,k,h1,hl.trans h2,h3,h4,hs.trans h5⟩
def Qdt(P:Program)(K:World->Prop)(F:Way->Env->Qz->Prop)(k:List AI)(e:Env)(o:Qz):Prop:=∀(b cs tl)(_:∀id,exitTo id tl=none)(N ok0 w0)(_:Ctx P K ok0 w0)(_:Qdv b w0)(k' a w L),Fit P N tl k k'->Rel ok0 N w0 (look e) (Qc o) a w L->Ends P F b cs tl N ok0 w0 (lone (b.atR a k') cs w)
def Below.trans'{n a b c}(h:Below n a b)(k:Below b.heap.size b c)(hn:n<=b.heap.size):Below n a c:=⟨k.os.trans h.os,k.tape.trans h.tape,k.output.trans h.output,QOz h.size k.size,λi hi=>(k.block i (QOM hi hn)).trans (h.block i hi)⟩
section
variable{P:Program}{K:World->Prop}{ok0:Nat->Prop}{N:Fm}{w0:XS}{lk:Nat->AV}{lo:Nat->Option AO}{a:Act}{w:World}{L:Nat->Lay}{b:Frame}
def Rel.redefer{ds}(h:Rel ok0 N w0 lk lo a w L)(hd:Qbq w0.fr lo L w ds):Rel ok0 N w0 lk lo { a with defers:=ds } w L:=⟨h.below,hd,h.size,h.env,h.y8,h.apart,h.pin⟩
def QrA(hro:Qdv b w0)(h:Rel ok0 N w0 lk lo a w L)(ps:Array Tmp)(assign body):∃(l:Nat)(mk:List Deferred)(w2:World)(r:Loop),(Instr.enterLoop b.fn a.tmps ps assign body b.roundOf).run P w=.ok (l,mk) w2/\Below w.heap.size w w2/\w.heap.size<=l/\w2.heap[l]?=some (.loop r) /\
   (r.fn=b.fn/\r.tmps=a.tmps/\r.params=ps/\r.assign=assign/\r.body=body/\r.state=.ready/\r.pending=none) /\
   Rel ok0 N w0 lk lo { a with defers:=mk++a.defers } w2 L/\mark l∉mk++a.defers:=by
 have old:∀x,mark x∈a.defers->x<w.heap.size:=by
  intro x hx;have⟨rs,h1,h2,h3⟩:=h.defers;rw[h1] at hx;have⟨y,hy,he⟩:=QOb.1 hx;have:y=x:=by injection he with he;injection he
  subst this;exact(QN8.1 (h3 y hy).1).1
 cases hb:b.roundOf with
 |none=>
  let w1:=w.alloc (.deferred (some []))
  let r:Loop:={ state:=.ready,pending:=none,fn:=b.fn,tmps:=a.tmps,params:=ps,assign,body,defers:=w.heap.size }
  have hb1:Below w.heap.size w w1:=QF w _;have hs1:w1.heap.size=w.heap.size+1:=World.size_alloc ..;have hb2:Below w.heap.size w (w1.alloc (.loop r)):=Below.trans' hb1 (QF w1 _) hb1.size;refine⟨w.heap.size+1,[mark w.heap.size],w1.alloc (.loop r),r,run_enterLoop_outer _ _ _ _ _,hb2,Nat.le_succ _,?_,⟨rfl,rfl,rfl,rfl,rfl,rfl,rfl⟩,?_,?_⟩
  .rw[<- hs1];exact World.alloc_heap_new w1 _
  .have hr:=h.ext hb2;refine hr.redefer ?_;have⟨rs,h1,h2,h3⟩:=hr.defers;refine⟨w.heap.size::rs,by rw[h1];rfl,QPL.2 ⟨λhm=>?_,h2⟩,λx hx=>?_⟩
   .have:=old w.heap.size (by rw[h1];exact QOb.2 ⟨_,hm,rfl⟩);omega
   rcases QN7.1 hx with rfl|hx
   .refine⟨?_,h.frlt (QN3 _),λid o ho hbad=>?_⟩
    .have h4:=(QF w1 (.loop r)).block w.heap.size (by omega);rw[h4];exact World.alloc_heap_new w _
    have:=((h.y8 id o ho).lt hbad).2;omega
   exact h3 x hx
  intro hm;rcases QOc.1 hm with hm|hm
  .simp[mark] at hm
  have:=old _ hm;omega
 |some l0=>
  have⟨hf0,r0,hr0⟩:=hro l0 hb;have hr0':w.heap[l0]?=some (.loop r0):=(h.below.block l0 hf0).trans hr0
  let r:Loop:={ state:=.ready,pending:=none,fn:=b.fn,tmps:=a.tmps,params:=ps,assign,body,defers:=r0.defers }
  have hb1:Below w.heap.size w (w.alloc (.loop r)):=QF w _;refine⟨w.heap.size,[],w.alloc (.loop r),r,?_,hb1,QN3 _,World.alloc_heap_new w _,⟨rfl,rfl,rfl,rfl,rfl,rfl,rfl⟩,h.ext hb1,λhm=>?_⟩
  .unfold Instr.enterLoop;simp only[Sem.run_bind,run_getLoop hr0',run_newObj_alloc,Result.andThen,Sem.run_pure];rfl
  .have:=old _ hm;omega
def QpY(p x e):look ((p,x)::e)=JW (look e) (some p) x:=rfl
theorem Rel.params:∀ps xs vs e a,Rel ok0 N w0 (look e) lo a w L->(∀p∈ps,N.dst p=true)->vs.length=xs.length ->
  (∀(k:Nat)x u,xs[k]?=some x->vs[k]?=some u->QZ (okL ok0 lo L) w x u)->Rel ok0 N w0 (look (Qdp ps xs e)) lo { a with tmps:=(ps.zip vs).foldl (λt p=>t.setIfInBounds p.1 p.2) a.tmps } w L
 |[],xs,vs,e,a,h,_,_,_=>by simpa[Qdp] using h
 |p::ps,[],[],e,a,h,_,_,_=>by simpa[Qdp] using h
 |p::ps,[],v::vs,e,a,h,_,hl,_=>by simp at hl
 |p::ps,x::xs,[],e,a,h,_,hl,_=>by simp at hl
 |p::ps,x::xs,v::vs,e,a,h,hp,hl,hx=>by have h1:=h.put (some p) (λt ht=>by injection ht with ht;subst ht;exact hp p (by simp)) (x:=.iv x) (v:=v) (.iv _ _ (hx 0 x v rfl rfl));rw[<- QpY] at h1;have:=Rel.params ps xs vs _ _ h1 (λq hq=>hp q (by simp[hq])) (by simpa using hl) (λk y u h2 h3=>hx (k+1) y u (by simpa using h2) (by simpa using h3));simpa[Qdp,Act.put] using this
def Way.code:Way->Option Code
 | .fall=>none
 | .ret=>some .ret
 | .exit id=>some (.exit id)
def UX(r:Loop)(wy:Way):Loop:={ r with state:=if wy.code.isNone then .ready else .done,pending:=wy.code }
def Qwr(N:Fm)(a:Act)(eK:Env)(r:Loop)(l:Nat)(o:Qz)(wy:Way)(O D:Nat->Prop)(W:World):Prop:=∃(L:Nat->Lay)(y9:∀b,D b->b<W.heap.size),Rel D N ⟨W,λb=>D b/\¬O b,λb hb=>y9 b hb.1,λt=>a.tmps.getD t undef⟩ (look eK) (Qc o) a W L/\W.heap[l]?=some (.loop (UX r wy)) /\
  (∀b,O b↔b=l\/mark b∈a.defers\/∃id ob,Qc o id=some ob/\(L id).has b)/\(∀b,O b->D b)/\(∀id ob,Qc o id=some ob->¬(L id).has l)/\mark l∉a.defers
def Qbq.block{fr ds x}(h:Qbq fr lo L w ds)(hx:mark x∈ds):w.heap[x]?=some (.deferred (some []))/\¬fr x/\∀id o,lo id=some o->¬(L id).has x:=by
 have⟨rs,h1,h2,h3⟩:=h;rw[h1] at hx;have⟨y,hy,he⟩:=QOb.1 hx;have:y=x:=by injection he with he;injection he
 subst this;exact h3 y hy
def Qbq.az{fr fr' lo' L' w' ds}(h:Qbq fr lo L w ds)(hx:∀x,mark x∈ds->w'.heap[x]?=w.heap[x]?/\¬fr' x/\∀id o,lo' id=some o->¬(L' id).has x):Qbq fr' lo' L' w' ds:=by have⟨rs,h1,h2,h3⟩:=h;refine⟨rs,h1,h2,λx hm=>?_⟩;grind
def Uj{x o}(h:w.heap[x]?=some o)(ho:(∀c t f,o≠.cells c t f)/\∀es k,o≠.map es k):¬Je w x:=by
 rintro (⟨c,t,f,h1⟩|⟨es,k,h1⟩)<;>rw[h] at h1<;>injection h1 with h1
 .exact ho.1 _ _ _ h1
 .exact ho.2 _ _ h1
def Qwr.stay{eK r l o wy O D W W'}(h:Qwr N a eK r l o wy O D W)(hk:Zv D W W'):Qwr N a eK r l o wy O D W':=by
 have⟨L,y9,h1,h2,h3,h4,h5,h6⟩:=h;have hO:∀x,O x->W'.heap[x]?=W.heap[x]?:=λx hx=>hk.block x (h4 x hx);refine⟨L,λb hb=>QOM (y9 b hb) hk.size,?_,(hO l ((h3 l).2 (.inl rfl))).trans h2,h3,h4,h5,h6⟩;refine h1.move ⟨hk.os,hk.tape,hk.output,hk.size⟩ (Zv.refl _ _) (h1.defers.az λx hx=>?_) h1.size h1.env (λt ht=>rfl) (λb hb _=>⟨hb.1,hk.block b hb.1⟩) (λid ob b ho hb=>?_) (λb hb _=>⟨hb,hb.1,hk.block b hb.1⟩)
 .have:=h1.defers.block hx;exact⟨hO x ((h3 x).2 (.inr (.inl hx))),this.2.1,this.2.2⟩
 grind
def Qx8(N:Fm)(a:Act)(eK:Env)(r:Loop)(l:Nat)(o:Qz)(wy:Way):Ext:=⟨.func (.yield l) #[] #[],rfl,Qwr N a eK r l o wy,λ_ _ _ _ h hk=>h.stay hk⟩
def Qtp(ps:Array Tmp)(vs:List Value)(t0:Array Value):(ps.zip vs.toArray).foldl (λtmps(t,a)=>tmps.setIfInBounds t a) t0=(ps.toList.zip vs).foldl (λt p=>t.setIfInBounds p.1 p.2) t0:=by rw[<- Array.foldl_toList,Array.toList_zip]
end
theorem putObj_size(w:World)(l:Nat)(o:Obj):(w.putObj l o).heap.size=w.heap.size:=World.putObj_size
def QU{w:World}{l x:Nat}{o:Obj}(h:x≠l):(w.putObj l o).heap[x]?=w.heap[x]?:=World.putObj_heap_other h
def Qco{w:World}{l:Nat}{r o:Obj}(h:w.heap[l]?=some r):(w.putObj l o).heap[l]?=some o:=World.putObj_heap_same (QN8.1 h).1
def Zv.put{Fr:Nat->Prop}(w:World)(l:Nat)(o:Obj)(h:¬Fr l):Zv Fr w (w.putObj l o):=⟨rfl,rfl,rfl,by rw[putObj_size];exact QN3 _,λk hk=>QU (λe=>h (e▸hk))⟩
section
variable{P:Program}{K:World->Prop}{N:Fm}{a:Act}
def Qpt{b c:Frame}{cs:List Frame}{ac:Act}{l:Nat}{w:World}{r:Loop}{wy:Way}{k:List Item}(hb:b.roundOf=some l)(hk:b.kind=.normal)(hw:QHv [] wy k)(hr:w.heap[l]?=some (.loop r)):
  step P (lone (b.atR ac k) (c::cs) w)=.next (lone (c.finish (.bool wy.code.isNone)) cs (w.putObj l (.loop { r with state:=if wy.code.isNone then .ready else .done,pending:=wy.code }))):=by
 have he:=run_endRound (P:=P) wy.code hr;cases wy with
 |fall=>have hk':k=[]:=hw;subst hk';exact stepR_round_end hb hk he
 |ret=>obtain⟨k1,rfl⟩:=hw;exact stepR_round_ret hb hk he
 |exit id=>obtain⟨k1,rfl,hx⟩:=hw;exact stepR_round_exit hb hk hx he
def QiT{eK:Env}{r:Loop}{l:Nat}{o o':Qz}{wy:Way}{ps:List Nat}{ks ids:List Nat}{asn body:AC}{casn cbody:Code}{x:List IV}{M:Env->Qz->Prop}
  (hks:∀t,ks.contains t=false->look eK t=.iv .any)
  (hps:∀p∈ps,p<N.n/\ks.contains p=false)(hr1:r.tmps=a.tmps)(hr2:r.params=ps.toArray)(hr3:r.assign=casn)(hr4:r.body=cbody)
  (hc1:QA P ⟨N.n,ks⟩ asn casn=true)(hc2:QA P ⟨N.n,ks⟩ body cbody=true)(hx:x.length=ps.length)
  (h1:Qdt P K (λwy e1 o1=>wy=.fall/\M e1 o1) [.code asn] (Qdp ps x eK) o)
  (h2:∀e1 o1,M e1 o1->Qdt P K (λw2 e2 o2=>w2=wy/\ZN ks ids e2=eK/\XU ids o2 ids=o') [.code body] e1 o1):
  VS P K (Qx8 N a eK r l o .fall) x (.bool wy.code.isNone) (Qx8 N a eK r l o' wy):=by
 refine⟨rfl,λok O D w vs hp=>?_⟩;have⟨L,y9,hrel,hrec,hO,hOD,hnl,hml⟩:=hp.J;have hOl:O l:=(hO l).2 (.inl rfl);have hlsz:l<w.heap.size:=y9 l (hOD l hOl);have hmk:∀y,mark y∈a.defers->O y/\y≠l:=λy hy=>⟨(hO y).2 (.inr (.inl hy)),λe=>hml (e▸hy)⟩;have hob:∀id ob y,Qc o id=some ob->(L id).has y->O y:=λid ob y h3 h4=>(hO y).2 (.inr (.inr ⟨id,ob,h3,h4⟩))
 let bR:Frame:={ (default:Frame) with fn:=r.fn,kind:=.normal,roundOf:=some l }
 have hrec':w.heap[l]?=some (.loop (UX r .fall)):=hrec;have hsz:vs.toArray.size=(UX r .fall).params.size:=by simp[UX,hr2,hp.len,hx]
 let tm:Array Value:=(ps.zip vs).foldl (λt p=>t.setIfInBounds p.1 p.2) a.tmps
 have hyrun:(Instr.yield l vs.toArray).run P w=.ok (.round l r.fn tm casn cbody) w:=by rw[run_yield hrec' hsz,Qtp];simp[UX,hr2,hr1,hr3,hr4,tm]
 refine⟨_,.yield l vs w r.fn tm casn cbody hyrun,λc cs=>?_⟩;have hbegun:begun P c cs w (.round l r.fn tm casn cbody)=lone (bR.atR { tmps:=tm,defers:=[] } [.code casn,.beginRound,.code cbody]) (c::cs) w:=by simp[begun,Frame.round,Frame.atR,bR]
 rw[hbegun]
 let frR:Nat->Prop:=λy=>y<w.heap.size/\(¬O y\/y=l\/mark y∈a.defers)
 let wR:XS:={ w:=w,fr:=frR,lt:=λy hy=>hy.1,pin:=λt=>a.tmps.getD t undef }
 let okR:Nat->Prop:=λy=>ok y/\y≠l/\mark y∉a.defers
 have hDok:∀y,D y->ok y:=λy hy=>(hp.okd y hy).elim (hp.own y) (λh=>h);have hctx:Ctx P K okR wR:=by
  refine⟨λw' hk=>hp.hK w' (hk.mono λy hy=>⟨hy.1,.inl hy.2⟩),λy hy=>?_⟩;by_cases hys:y<w.heap.size
  .grind
  refine⟨hp.new y (QO9.1 hys),λe=>by omega,λe=>?_⟩;grind
 have hfrl:frR l:=⟨hlsz,.inr (.inl rfl)⟩;have harR:Qdv bR wR:=λl' hl'=>by grind
 have hrel0:Rel okR ⟨N.n,ks⟩ wR (look eK) (Qc o) { tmps:=a.tmps,defers:=[] } w L:=by
  refine hrel.move ⟨rfl,rfl,rfl,QN3 _⟩ (Zv.refl _ _) ⟨[],rfl,QPA,by simp⟩ hrel.size hrel.env (λt _=>rfl) (λy hy hpl=>⟨⟨hDok y hy.1,?_,?_⟩,rfl⟩) (λid ob y ho hy=>⟨?_,rfl⟩) (λy hy hok=>⟨⟨y9 y hy.1,.inl hy.2⟩,⟨hDok y hy.1,?_,?_⟩,rfl⟩)
  .rintro rfl;exact Uj hrec' ⟨by simp,by simp⟩ hpl
  .intro hm;exact Uj (hrel.defers.block hm).1 ⟨by simp,by simp⟩ hpl
  .rintro⟨_,h3|rfl|h3⟩
   .exact h3 (hob id ob y ho hy)
   .exact hnl id ob ho hy
   exact(hrel.defers.block h3).2.2 id ob ho hy
  all_goals grind
 have hrelP:=Rel.params ps x vs eK _ hrel0 (λp hp'=>by have h3:=(hps p hp').2;simp only[Fm.dst,(hps p hp').1,h3];rfl) hp.len (λk z u h3 h4=>(hp.args k z u h3 h4).move λy hy hpl=>⟨⟨⟨hy.1,λe=>hy.2 (e▸hOl),λhm=>hy.2 (hmk y hm).1⟩,λid ob ho hb=>hy.2 (hob id ob y ho hb)⟩,rfl⟩);obtain⟨wy1,e1,o1,a1,w1,wB,L1,k1,⟨rfl,hM⟩,hle1,hr1',hat1,hst1⟩:=h1 bR (c::cs) [.beginRound,.code cbody] (λid=>by simp[exitTo]) ⟨N.n,ks⟩ okR wR hctx harR _ _ w L (.code asn casn [] _ hc1 .nil) hrelP;have hk1:k1=[.beginRound,.code cbody]:=hat1;subst hk1;have hkR1:Zv frR w w1:=hle1.keeps hr1'.below;have hrec1:w1.heap[l]?=some (.loop (UX r .fall)):=(hkR1.block l hfrl).trans hrec';have hready:(UX r .fall).state=.ready:=rfl;have hbegin:=stepR_beginRound (P:=P) (b:=bR) (a:=a1) (k:=[.code cbody]) (cs:=c::cs) (l:=l) rfl (run_beginRound hrec1 hready)
 let w1':World:=w1.putObj l (.loop { UX r .fall with state:=.busy })
 have hs1':w1'.heap.size=w1.heap.size:=putObj_size _ _ _;have hfB:∀y,frR y->wB.fr y:=hle1.fr
 let wB':XS:={ w:=w1',fr:=wB.fr,lt:=λy hy=>by rw[hs1'];exact hr1'.frl y hy,pin:=wB.pin }
 have hrec1':w1'.heap[l]?=some (.loop { UX r .fall with state:=.busy }):=Qco hrec1;have hkO1:Zv (λy=>y<w.heap.size/\¬O y) w w1':=(hkR1.mono λy hy=>⟨hy.1,.inl hy.2⟩).trans (Zv.put w1 l _ λhf=>hf.2 hOl);have hctx':Ctx P K okR wB':=⟨λw' hk=>hp.hK w' (hkO1.trans (hk.mono λy hy=>hfB y ⟨hy.1,.inl hy.2⟩)),λy hy=>(hctx.le hle1).ok y hy⟩;have harB':Qdv bR wB':=λl' hl'=>by grind
 have hrelB:Rel okR ⟨N.n,ks⟩ wB' (look e1) (Qc o1) a1 w1' L1:=by
  have hne:∀y,okR y->y≠l:=λy hy=>hy.2.1;refine hr1'.move ⟨rfl,rfl,rfl,by rw[hs1'];exact QN3 _⟩ (Zv.refl _ _) (hr1'.defers.az λy hy=>?_) hr1'.size hr1'.env hr1'.pin (λy hy _=>⟨hy.1,QU (hne y hy.1)⟩) (λid ob y ho hy=>?_) (λy hy hok=>⟨hy,hok.1,QU (hne y hok.1)⟩)
  .have h3:=hr1'.defers.block hy;exact⟨QU (λe=>by rw[e,hrec1] at h3;cases h3.1),h3.2.1,h3.2.2⟩
  have h3:=((hr1'.y8 id ob ho).lt hy).1;exact⟨h3,QU λe=>h3 (e▸hfB l hfrl)⟩
 obtain⟨wy2,e2,o2,a3,w3,wC,L3,k3,⟨hwy,hkE,hkO⟩,hle2,hr3',hat3,hst3⟩:=h2 e1 o1 hM bR (c::cs) [] (λid=>by simp[exitTo]) ⟨N.n,ks⟩ okR wB' hctx' harB' _ a1 w1' L1 (.code body cbody [] _ hc2 .nil) hrelB;subst hwy;have hfC:∀y,frR y->wC.fr y:=λy hy=>hle2.fr y (hfB y hy);have hkB3:Zv wB.fr w1' w3:=hle2.keeps hr3'.below;have hrec3:w3.heap[l]?=some (.loop { UX r .fall with state:=.busy }):=(hkB3.block l (hfB l hfrl)).trans hrec1';have hend:=Qpt (P:=P) (b:=bR) (c:=c) (cs:=cs) (ac:=a3) (l:=l) rfl rfl hat3 hrec3
 let w4:World:=w3.putObj l (.loop { UX r .fall with state:=if wy2.code.isNone then .ready else .done,pending:=wy2.code })
 have hs4:w4.heap.size=w3.heap.size:=putObj_size _ _ _;have hother:∀y,y≠l->w4.heap[y]?=w3.heap[y]?:=λy hy=>QU hy;have hkO4:Zv (λy=>y<w.heap.size/\¬O y) w w4:=(hkO1.trans (hkB3.mono λy hy=>hfB y ⟨hy.1,.inl hy.2⟩)).trans (Zv.put w3 l _ λhf=>hf.2 hOl);refine⟨.bool wy2.code.isNone,w4,?_,(hst1.trans (.head hbegin hst3)).trans (.one hend)⟩;have hr3k:=hr3'.keep ks ids;rw[hkE,hkO] at hr3k;have hnC:∀id ob y,Qc o' id=some ob->(L3 id).has y->¬wC.fr y:=λid ob y ho hy=>((hr3k.y8 id ob ho).lt hy).1;have hmC:∀y,mark y∈a.defers->wC.fr y:=λy hy=>hfC y ⟨y9 y (hOD y (hmk y hy).1),.inr (.inr hy)⟩
 let O':Nat->Prop:=λy=>y=l\/mark y∈a.defers\/∃id ob,Qc o' id=some ob/\(L3 id).has y
 have hlt4:∀y,O' y->y<w4.heap.size:=by
  rintro y (rfl|hy|⟨id,ob,ho,hy⟩)
  .rw[hs4];exact(QN8.1 hrec3).1
  .rw[hs4];exact hr3'.frl y (hmC y hy)
  rw[hs4];exact((hr3k.y8 id ob ho).lt hy).2
 let D':Nat->Prop:=λy=>y<w4.heap.size/\(O' y\/ok y)
 refine⟨O',D',Y3 (ok:=λ_=>True) rfl (.bool _),hkO4,?_,?_,λy hy=>⟨hlt4 y hy,.inl hy⟩,λy hy=>hy.1,λy hy=>hy.2⟩
 .refine⟨L3,λy hy=>hy.1,?_,?_,λy=>Iff.rfl,λy hy=>⟨hlt4 y hy,.inl hy⟩,λid ob ho hb=>hnC id ob l ho hb (hfC l hfrl),hml⟩
  .refine hr3k.move ⟨rfl,rfl,rfl,by rw[hs4];exact QN3 _⟩ (Zv.refl _ _) (hrel.defers.az λy hy=>?_) hrel.size (λt=>?_) (λt _=>rfl) (λy hy hpl=>⟨⟨by rw[hs4];exact hpl.lt,.inr hy.1.1⟩,hother y hy.1.2.1⟩) (λid ob y ho hy=>⟨λhf=>hf.2 (.inr (.inr ⟨id,ob,ho,hy⟩)),hother y λe=>hnC id ob y ho hy (e▸hfC l hfrl)⟩)
    (λy hy hok=>⟨⟨⟨by rw[hs4];exact hr3'.frl y hy,.inr hok.1.1⟩,?_⟩,⟨by rw[hs4];exact hr3'.frl y hy,.inr hok.1.1⟩,hother y hok.1.2.1⟩)
   .have hyl:=(hmk y hy).2;have hfy:frR y:=⟨y9 y (hOD y (hmk y hy).1),.inr (.inr hy)⟩;refine⟨(hother y hyl).trans ((hkB3.block y (hfB y hfy)).trans ((QU hyl).trans (hkR1.block y hfy))),λhf=>hf.2 (.inr (.inl hy)),λid ob ho hb=>hnC id ob y ho hb (hmC y hy)⟩
   .by_cases ht:ks.contains t=true
    .have h3:=hr3k.env t;have h4:=hr3'.pin t ht;have hpin:wC.pin t=a.tmps.getD t undef:=by
      rw[hle2.pin];show wB.pin t=_;rw[hle1.pin]
     rw[h4,hpin] at h3;exact h3
    rw[hks t (by simpa using ht)]
    exact .iv _ _ (.any _)
   grind
  rw[show w4.heap[l]?=_ from Qco hrec3]
  rfl
 grind
end
theorem U6(ids e):∀ks t,ks.contains t=false->look (ZN ks ids e) t=.iv .any
 |[],t,_=>rfl
 |k::r,t,h=>by simp only[List.contains_cons,Bool.or_eq_false_iff,beq_eq_false_iff_ne,ne_eq] at h;simp only[ZN,QOk,look,h.1,if_false];exact U6 ids e r t h.2
def QAZ{ok:Nat->Prop}{w:World}{lo:Nat->Option AO}{L:Nat->Lay}{x:AV}{v:Value}{g:FuncId}{fs cs:List IV}(h:QoE x=some (g,fs,cs))(hr:QG ok w lo L x v):∃us vs:List Value,v=.func (.func g) us.toArray vs.toArray/\us.length=fs.length/\vs.length=cs.length/\(∀(k:Nat)x u,fs[k]?=some x->us[k]?=some u->QZ ok w x u) /\(∀(k:Nat)x u,cs[k]?=some x->vs[k]?=some u->QZ ok w x u):=by
 unfold QoE at h;split at h
 .injection h with h;injection h with h1 h2;injection h2 with h2 h3;subst h1 h2 h3;cases hr with
  |iv _ _ r=>cases r;exact⟨[],[],rfl,rfl,rfl,by simp,by simp⟩
 .injection h with h;injection h with h1 h2;injection h2 with h2 h3;subst h1 h2 h3;cases hr with
  |iv _ _ r=>
   cases r with
   |clo _ _ _ us vs l1 l2 hf hc=>exact⟨us,vs,rfl,l1,l2,hf,hc⟩
 .cases h
section
variable{P:Program}{K:World->Prop}
def Qha{a:Act}{f':Operand}{g:FuncId}{us vs:List Value}{l:Nat}{w:World}(hc:callee P g=true)(hv:a.eval f'=.func (.func g) us.toArray vs.toArray):∃d:Deferred,(resolve a.eval (rangeCall f' l) 0).run P w=.ok d w/\(invoke d.target d.args).run P w=.ok (.enter g (us++.func (.yield l) #[] #[]::vs).toArray) w:=by
 refine⟨{ target:=.fn (.func g) vs.toArray,args:=us.toArray++#[.func (.yield l) #[] #[]] },?_,?_⟩
 .have e:a.eval (.const (.func (.yield l) #[] #[]))=.func (.yield l) #[] #[]:=rfl;simp[resolve,hv,Deferred.ofValue,e]
 .unfold callee at hc;split at hc
  .rename_i fn hfn;simp only[QNZ,QOD,beq_eq_false_iff_ne,ne_eq] at hc;have⟨hb,hn⟩:=hc;have hb':fn.body≠none:=by cases h:fn.body<;>simp_all
   simp[invoke,callFunc,program,Sem.run,hfn,hn,hb']
  .cases hc
def QuJ{N tl k k1}(wy)(h:Fit P N tl k k1):Fit P N tl (Qjm wy k) ((wy.code.map Item.code).toList++k1):=by
 cases wy with
 |fall=>exact h
 |ret=>exact .code .ret .ret _ _ rfl h
 |exit id=>exact .code (.exit id) (.exit id) _ _ (by simp[QA]) h
def Qpy{F:Way->Env->Qz->Prop}{f:Opd}{ps:List Nat}{asn body:AC}{ks ids:List Nat}{k:List AI}{e:Env}{o:Qz}{g:FuncId}{fs cs:List IV}{Lx:List (List IV)}{St:Nat->Qz}{Wy:Nat->Way}{m:Nat}{M:Nat->Env->Qz->Prop}
  (hf:QoE (f.av (look e))=some (g,fs,cs))(hc:callee P g=true)(hit:Qbs P K g fs cs Lx)(h0:St 0=XU ids o ids)(hm:m<=Lx.length)(xd:∀i,i+1<m->Wy i=.fall)(hend:m=Lx.length\/(0<m/\Wy (m-1)≠.fall))
  (hlen:∀i x,i<m->Lx[i]?=some x->x.length=ps.length)
  (h1:∀i x,i<m->Lx[i]?=some x->Qdt P K (λwy e1 o1=>wy=.fall/\M i e1 o1) [.code asn] (Qdp ps x (ZN ks ids e)) (St i))
  (h2:∀i e1 o1,i<m->M i e1 o1->Qdt P K (λwy e2 o2=>wy=Wy i/\ZN ks ids e2=ZN ks ids e/\XU ids o2 ids=St (i+1)) [.code body] e1 o1)
  (h3:Qdt P K F (Qjm (if m=0 then .fall else Wy (m-1)) k) (ZN ks ids e) (St m)):Qdt P K F (.code (.range f ps asn body ks ids)::k) e o:=by
 intro b fr tl htl N ok0 w0 c hro k' a w L hfit hr;cases hfit with
 |code _ c' _ k1 h hk=>
  cases c'<;>simp only[QA,QOo] at h;rename_i f' ps' casn cbody;simp only[QNZ,beq_iff_eq,QOt,decide_eq_true_eq,QOD] at h;obtain⟨⟨⟨⟨hff,hps'⟩,hps⟩,hc1⟩,hc2⟩:=h;obtain⟨us,vs,hv,lu,lv,hus,hvs⟩:=QAZ hf (Opd.rep hr hff);have hr1:=hr.keep ks ids;rw[<- h0] at hr1;obtain⟨l,mk,w2,r,henter,hbel,hlw,hrec,⟨hr_fn,hr_tmps,hr_params,hr_assign,hr_body,hr_state,hr_pend⟩,hr2,hml⟩:=QrA hro hr1 ps' casn cbody;obtain⟨d,hres,hinv⟩:=Qha (a:=a) (f':=f') (l:=l) (w:=w2) hc hv;have hstep:=stepR_rangeFunc (P:=P) (b:=b) (a:=a) (k:=k1) (cs:=fr) (w:=w) henter hres hinv;generalize ha2:({ a with defers:=mk++a.defers }:Act)=a2 at hr2 hstep;have hat:a2.tmps=a.tmps:=by rw[<- ha2]
  have had:a2.defers=mk++a.defers:=by rw[<- ha2]
  rw[<- had] at hml;generalize heK:ZN ks ids e=eK at hr1 hr2 h1 h2 h3;have hks:∀t,ks.contains t=false->look eK t=.iv .any:=λt ht=>by rw[<- heK];exact U6 ids e ks t ht
  let WyAt:Nat->Way:=λi=>if i=0 then .fall else Wy (i-1)
  let E:Nat->Ext:=λi=>Qx8 N a2 eK r l (St i) (WyAt i)
  have hrnd:∀i x,i<m->Lx[i]?=some x->VS P K (E i) x (.bool (Wy i).code.isNone) (E (i+1)):=by
   intro i x hi hx;have hfall:WyAt i=.fall:=by grind
   have:=QiT (N:=N) (a:=a2) (eK:=eK) (r:=r) (l:=l) (o:=St i) (o':=St (i+1)) (wy:=Wy i) (ps:=ps) (ks:=ks) (ids:=ids) (x:=x) (M:=M i) hks hps (by rw[hat];exact hr_tmps) (by rw[hr_params,hps']) hr_assign hr_body hc1 hc2 (hlen i x hi hx) (h1 i x hi hx) (λe1 o1=>h2 i e1 o1 hi);grind
  have hfeeds:∀n i,i+n=m->(n=0->m=Lx.length)->∃bb,Z2 P K (Lx.drop i) (E i) bb (E m):=by
   intro n;induction n with
   |zero=>
    intro i hi hn;have:Lx.drop i=[]:=QOA (by have:=hn rfl;omega);rw[this];have him:i=m:=by omega
    subst him;exact⟨true,.nil _⟩
   |succ n ih=>
    intro i hi _;have hil:i<Lx.length:=by omega
    have hx:=QNX hil;rw[QOq hil];have hg:=hrnd i _ (by omega) hx;by_cases hw:Wy i=.fall
    .rw[hw] at hg
     obtain⟨bb,hb⟩:=ih (i+1) (by omega) (λhn=>by
      rcases hend with h|⟨_,h⟩
      .exact h
      have:m-1=i:=by omega
      rw[this] at h;exact absurd hw h)
     exact⟨bb,.next _ _ _ _ _ _ hg hb⟩
    have him:i+1=m:=Classical.byContradiction λhn=>hw (xd i (by omega));have hfalse:(Wy i).code.isNone=false:=by cases hwy:Wy i<;>first|exact absurd hwy hw|rfl
    rw[hfalse] at hg;rw[him] at hg;exact⟨false,.stop _ _ _ _ hg⟩
  obtain⟨bb,hfd⟩:=hfeeds m 0 (by omega) (λhm0=>by rcases hend with h|⟨h,_⟩;exact h;omega);rw[List.drop_zero] at hfd;have hgood:=hit _ _ _ hfd;have hmk:∀y,mark y∈a2.defers->w2.heap[y]?=some (.deferred (some []))/\¬w0.fr y/\∀id ob,Qc (St 0) id=some ob->¬(L id).has y:=λy hy=>hr2.defers.block hy
  let O:Nat->Prop:=λy=>y=l\/mark y∈a2.defers\/∃id ob,Qc (St 0) id=some ob/\(L id).has y
  let D:Nat->Prop:=λy=>y<w2.heap.size/\(O y\/ok0 y)
  have hnl0:∀id ob,Qc (St 0) id=some ob->¬(L id).has l:=λid ob ho hb=>by have:=((hr1.y8 id ob ho).lt hb).2;omega
  have hOf:∀y,O y->¬w0.fr y:=by
   rintro y (rfl|hy|⟨id,ob,ho,hy⟩)
   .exact hr1.frlt hlw
   .exact(hmk y hy).2.1
   exact((hr1.y8 id ob ho).lt hy).1
  have hOlt:∀y,O y->y<w2.heap.size:=by
   rintro y (rfl|hy|⟨id,ob,ho,hy⟩)
   .exact(QN8.1 hrec).1
   .exact(QN8.1 (hmk y hy).1).1
   exact((hr2.y8 id ob ho).lt hy).2
  have hargs:∀(k:Nat)x u,(fs++cs)[k]?=some x->(us++vs)[k]?=some u->QZ (λy=>ok0 y/\¬O y) w2 x u:=by
   have one:∀(x:IV)(u:Value),QZ (okL ok0 (Qc o) L) w x u->QZ (λy=>ok0 y/\¬O y) w2 x u:=λx u hxu=>hxu.move λy hy hpl=>by
    have hylt:=hpl.lt;refine⟨⟨hy.1,?_⟩,hbel.block y hylt⟩;rintro (rfl|hm|⟨id,ob,ho,hb⟩)
    .omega
    .have h4:=(hmk y hm).1;rw[hbel.block y hylt] at h4;exact Uj h4 ⟨by simp,by simp⟩ hpl
    rw[h0,Ye] at ho;split at ho
    .cases hq:Qc o id with
     |none=>simp[hq] at ho
     |some q=>exact hy.2 id q hq hb
    cases ho
   grind
  have hpre:Qtd K ok0 O D w2 (E 0) (fs++cs) (us++vs):=by
   refine⟨λw' hk=>c.hK w' (hr2.below.trans (hk.mono λy hy=>⟨hr2.frl y hy,λho=>hOf y ho hy⟩)),?_,λy hy=>⟨hOlt y hy,.inl hy⟩,λy hy=>hy.1,λy hy=>hy.2,λy hy=>c.ok y (hr2.frlt hy),λy hy=>c.ok y (hOf y hy),by simp[lu,lv],hargs⟩;refine⟨L,λy hy=>hy.1,?_,?_,λy=>Iff.rfl,λy hy=>⟨hOlt y hy,.inl hy⟩,hnl0,hml⟩
   .refine hr2.move ⟨rfl,rfl,rfl,QN3 _⟩ (Zv.refl _ _) (hr2.defers.az λy hy=>⟨rfl,λhf=>hf.2 (.inr (.inl hy)),(hmk y hy).2.2⟩) hr2.size hr2.env (λt _=>rfl) (λy hy hpl=>⟨⟨hpl.lt,.inr hy.1⟩,rfl⟩) (λid ob y ho hy=>⟨λhf=>hf.2 (.inr (.inr ⟨id,ob,ho,hy⟩)),rfl⟩)
     (λy hy hok=>⟨⟨⟨hr2.frl y hy,.inr hok.1⟩,λho=>hOf y ho hy⟩,⟨hr2.frl y hy,.inr hok.1⟩,rfl⟩)
   show w2.heap[l]?=some (.loop (UX r .fall));rw[hrec];cases r;simp only[UX,Way.code] at hr_state hr_pend |-;subst hr_state hr_pend;rfl
  obtain⟨en,w3,frx,⟨v,rfl,O',D',hpost⟩,hcomes,_,hleave⟩:=hgood.2 ok0 O D w2 us vs hpre lu (b.atR a2 (.inRangeFunc l::k1)::fr);obtain⟨L',hlt',hrelE,hrecE,hOE,hODE,hnlE,_⟩:=hpost.J;have hsz3:=hpost.keep.size;have hback:step P (lone frx (b.atR a2 (.inRangeFunc l::k1)::fr) w3)=.next (lone (b.atR a2 (.endRangeFunc l::k1)) fr w3):=by rw[<- finish_atR_inRangeFunc l v];exact step_leave_returned hleave
  have hnb:(UX r (WyAt m)).state≠.busy:=by simp only[UX];split<;>simp
  have hendl:=stepR_endRangeFunc (P:=P) (b:=b) (a:=a2) (k:=k1) (cs:=fr) (run_endLoop hrecE hnb)
  let w4:World:=w3.putObj l (.loop { UX r (WyAt m) with state:=.exhausted })
  have hs4:w4.heap.size=w3.heap.size:=putObj_size _ _ _;have hOl':O' l:=(hOE l).2 (.inl rfl);have hnew:∀y,O' y->¬w0.fr y:=λy hy=>(hpost.new y hy).elim (hOf y) (λh4=>hr2.frlt h4);have hk23:Zv w0.fr w2 w3:=hpost.keep.mono λy hy=>⟨hr2.frl y hy,λho=>hOf y ho hy⟩;have hk04:Zv w0.fr w0.w w4:=(hr2.below.trans hk23).trans (Zv.put w3 l _ (hnew l hOl'));have hlt5:∀y,(w0.fr y\/(D' y/\¬O' y))->y<w4.heap.size:=by
   intro y hy;rw[hs4];rcases hy with hy|hy
   .exact QOM (hr2.frl y hy) hsz3
   exact hlt' y hy.1
  let w5:XS:={ w:=w4,fr:=λy=>w0.fr y\/(D' y/\¬O' y),lt:=hlt5,pin:=w0.pin }
  have hle5:w0.le w5:=⟨hk04,λy hy=>.inl hy,rfl⟩;have hO5:∀y,O' y->¬w5.fr y:=λy hy hf=>hf.elim (hnew y hy) (λh4=>h4.2 hy);have hrel5:Rel ok0 N w5 (look eK) (Qc (St m)) a2 w4 L':=by
   refine hrelE.move ⟨rfl,rfl,rfl,by rw[hs4];exact QN3 _⟩ (Zv.refl _ _) (hrelE.defers.az λy hy=>?_) hrelE.size hrelE.env (λt ht=>?_) (λy hy hpl=>?_) (λid ob y ho hy=>?_) (λy hy hok=>?_)
   .have h4:=hrelE.defers.block hy;have hyO:O' y:=(hOE y).2 (.inr (.inl hy));exact⟨QU λe=>hml (e▸hy),hO5 y hyO,h4.2.2⟩
   .rw[hat];exact hr.pin t ht
   .have hyl:y≠l:=λe=>by subst e;exact Uj hrecE ⟨by simp,by simp⟩ hpl
    refine⟨?_,QU hyl⟩;rcases hpost.okd y hy.1 with h4|h4
    .exact c.ok y (hnew y h4)
    exact h4
   .have hyO:O' y:=(hOE y).2 (.inr (.inr ⟨id,ob,ho,hy⟩));exact⟨hO5 y hyO,QU λe=>hnlE id ob ho (e▸hy)⟩
   exact⟨.inr hy,(hpost.okd y hy.1).resolve_left hy.2,QU λe=>hy.2 (e▸hOl')⟩
  have hends:=h3 b fr tl htl N ok0 w5 (c.le hle5) (hro.le hle5) _ a2 w4 L' (QuJ (WyAt m) hk) hrel5;exact Ends.steps (.head hstep (hcomes.trans (.head hback (.one hendl)))) hle5 hends
end
section
variable{P:Program}{K:World->Prop}{ok0:Nat->Prop}{N:Fm}{w0:XS}{a:Act}{w:World}{L:Nat->Lay}{e:Env}{o:Qz}
def YR(tmps:Array Value):ResultVar->Sem Value
 | .tmp t=>pure (tmps.getD t undef)
 | .cell a t=>do loadVar t (<- asAddr (tmps.getD a undef))
def QtH(h:Rel ok0 N w0 (look e) (Qc o) a w L)(hok0:∀b,¬w0.fr b->ok0 b){x rs y}
  (hf:QP P [x] [rs]=true)(hv:QHz e o x=some y):∃v,(YR a.tmps rs).run P w=.ok v w/\QZ ok0 w y v:=by
 have isound:=QhG h hok0 (lo':=Qc o) (λ_ _ h=>h) 40;cases x with
 |tmp t=>
  cases rs with
  |cell=>simp[QP] at hf
  |tmp t'=>simp only[QP,Bool.and_true,beq_iff_eq] at hf;subst hf;exact⟨a.tmps.getD t undef,rfl,isound.1 _ _ y (h.env t) hv⟩
 |cell t n ag=>
  cases rs with
  |tmp=>simp[QP] at hf
  |cell t' T=>
   simp only[QP,Bool.and_true,QNZ,beq_iff_eq] at hf;obtain⟨⟨rfl,hag⟩,hn⟩:=hf;simp only[QHz] at hv;have het:=h.env t;generalize look e t=xv at hv het;split at hv
   .rename_i id off;split at hv
    .rename_i cs hcs;have hob:=h.y8 _ _ hcs;generalize hpv:a.tmps.getD t undef=pv at het;cases het with
     |loc _ _ cs' b hob' hL=>
      rw[hL] at hob;have⟨hB,ty,vs,hb,hl,h1,hxx⟩:=hob;have cell:∀k u,(vs.drop off)[k]?=some u->w.cell? ⟨b,off+k,none⟩=some u:=by intro k u hu;rw[cell_of_row w b (off+k) _ ty (0,0) hb];simpa using hu
      split at hv
      .split at hv
       .rename_i hfit;simp only[QN2] at hv;obtain⟨ys,hys,rfl⟩:=hv;have⟨hyl,hyx⟩:=isound.2 _ ys hys;have hlen:((vs.drop off).take n).length=n:=by simp;omega
        have hload:=Xd (w:=w) hag hn b off ((vs.drop off).take n) hlen (by simp) (λk u hu=>cell k u (by rw[QOS] at hu;split at hu<;>first|exact hu|cases hu))
        refine⟨.agg ((vs.drop off).take n).toArray,?_,.agg ys _ ?_ (λu hu=>h1 u (QOW (QOJ hu))) (λk y u hy hu=>?_)⟩
        .simp[YR,hpv,asAddr,hload]
        .rw[hlen,hyl];simp;omega
        have hk:k<((cs.drop off).take n).length:=by rw[<- hyl];exact(QNY.1 hy).1
        have hck:=QNX hk;grind
       cases hv
      split at hv
      .rename_i hn1;subst hn1;obtain⟨c,hc,hy⟩:∃c,cs[off]?=some c/\imm (Qc o) 40 c=some y:=by
        grind
       have y9:off<vs.length:=by rw[hl];exact(QNY.1 hc).1
       have hload:=Xd (w:=w) hag hn b off [vs[off]] rfl (by simp) (λk u hu=>by
        cases k with
        |zero=>simp at hu;subst hu;exact cell 0 _ (by simp[QPy,y9])
        |succ k=>simp at hu)
       refine⟨vs[off],?_,isound.1 _ _ y (hxx off c _ hc (QNX y9)) hy⟩;simp[YR,hpv,asAddr,hload]
      cases hv
    cases hv
   .cases hv
def QaY{x r rs s}(h:QP P (x::r) (rs::s)=true):QP P [x] [rs]=true/\QP P r s=true:=by cases x<;>cases rs<;>simp_all[QP]
theorem Qcj(h:Rel ok0 N w0 (look e) (Qc o) a w L)(hok0:∀b,¬w0.fr b->ok0 b):∀{res rs ys},QP P res rs=true->Qn5 e o res=some ys->∃vs,(rs.mapM (YR a.tmps)).run P w=.ok vs w/\vs.length=ys.length /\
   ∀(k:Nat)(y:IV)(v:Value),ys[k]?=some y->vs[k]?=some v->QZ ok0 w y v
 |[],[],ys,_,hv=>by simp only[Qn5,Option.some.injEq] at hv;subst hv;exact⟨[],by simp,rfl,by simp⟩
 |x::r,rs::s,ys,hf,hv=>by
  have⟨h1,h2⟩:=QaY hf;simp only[Qn5] at hv;split at hv
  .rename_i y ys' hy hys;injection hv with hv;subst hv;have⟨v,hr,hrep⟩:=QtH h hok0 h1 hy;have⟨vs,hrs,hl,hreps⟩:=Qcj h hok0 h2 hys;refine⟨v::vs,by simp[List.mapM_cons,hr,hrs],by simp[hl],λk z u hz hu=>?_⟩;grind
  cases hv
 |[],_::_,ys,hf,_=>by simp[QP] at hf
 |x::_,[],ys,hf,_=>by cases x<;>simp[QP] at hf
def Qci{fn:Func}{res:List Qbu}{r:IV}(h:Rel ok0 N w0 (look e) (Qc o) a w L)(hok0:∀b,¬w0.fr b->ok0 b)(hf:QP P res fn.results.toList=true)(hv:QED res e o=some r):∃v,(results fn a.tmps).run P w=.ok v w/\QZ ok0 w r v:=by
 have hfun:results fn a.tmps=(do
   let vs <- fn.results.mapM (YR a.tmps)
   pure (if h:vs.size=1 then vs[0] else .tuple vs)):=by
  unfold results;congr 1
 rw[hfun,QPm];unfold QED at hv;split at hv
 .rename_i x hx;injection hv with hv;subst hv;have⟨vs,hrs,hl,hreps⟩:=Qcj h hok0 hf hx;obtain⟨v,rfl⟩:∃v,vs=[v]:=by
   cases vs with
   |_=>grind
  exact⟨v,by simp[hrs],hreps 0 x v (by simp) (by simp)⟩
 .rename_i xs hxs hne;injection hv with hv;subst hv;have⟨vs,hrs,hl,hreps⟩:=Qcj h hok0 hf hne;have hsz:¬(vs.length=1):=by
   intro h1;rw[hl] at h1;cases xs with
   |nil=>simp at h1
   |cons x r=>cases r with
    |nil=>exact hxs x rfl
    |cons=>simp at h1
  exact⟨.tuple vs.toArray,by simp[hrs,hsz],.xf xs vs hl hreps⟩
 .cases hv
def Rel.frz{t id ks ids cs xs}(h:Rel ok0 N w0 (look e) (Qc o) a w L)(hok0:∀b,¬w0.fr b->ok0 b)(ht:look e t=.loc id 0)(hb:Qc o id=some (.box cs))(hc:ivs cs=some xs)(hn:ids.contains id=false):Rel ok0 N w0 (look (bnd (some t) (.iv (.ptr xs)) (ZN ks ids e))) (Qc (XU ids o ids)) a w L:=by
 have hk:=h.keep ks ids;have hinv:∀i ob,Qc (XU ids o ids) i=some ob->ids.contains i=true/\∃ob0,Qc o i=some ob0:=by intro i ob hob;rw[Ye] at hob;cases hq:Qc o i<;>grind
 refine⟨hk.below,hk.defers,hk.size,λu=>?_,hk.y8,hk.apart,hk.pin⟩;rw[JD];simp only[JW];split
 .rename_i hu;subst hu;have het:=h.env u;rw[ht] at het;generalize a.tmps.getD u undef=pv at het;cases het with
  |loc _ _ cs' b hob' hL=>
   rw[hb] at hob';have hob:=h.y8 id _ hb;rw[hL] at hob;have⟨hB,ty,vs,hbk,hl,h1,hx⟩:=hob;have hxs:=qk hc;have hokb:okL ok0 (Qc (XU ids o ids)) L b:=by have:=hok0 b hB;have:=h.apart;grind
   have hlen:vs.length=xs.length:=by rw[hl,hxs,QN9]
   refine .iv _ _ (.ptr xs b 0 (λk=>vs.getD k undef) (λk hk'=>⟨hokb,?_,?_⟩) (λk x hx'=>?_))
   .rw[cell_of_row w b (0+k) _ ty (0,0) hbk]
    simp[List.getD_eq_getElem?_getD,show k<vs.length by omega]
   .grind
   have y9:k<vs.length:=by rw[hlen];exact(QNY.1 hx').1
   have:=hx k (.iv x) _ (by rw[hxs];simp[hx']) (QNX y9);cases this with
   |iv _ _ r=>simpa[y9] using r.mono λy hy _=>⟨by grind,rfl⟩
 .exact hk.env u
theorem QbA(lod ids):∀cs,Qpa lod ids cs=cs.map (Qtx lod ids)
 |[]=>rfl
 |x::r=>by simp[Qpa,QbA lod ids r]
theorem Qhn(lod ids e):∀ks t,look (Qwy lod ks ids e) t=.iv .any\/look (Qwy lod ks ids e) t=Qtx lod ids (look e t)
 |[],t=>.inl rfl
 |k::r,t=>by
  simp only[Qwy,look];split
  .rename_i h;subst h;exact .inr rfl
  .exact Qhn lod ids e r t
theorem Ww(lod all o):∀l id,Qc (qU lod all o l) id=if l.contains id then(Qc o id).map (QEC lod all) else none
 |[],id=>rfl
 |k::r,id=>by have ih:=Ww lod all o r id;simp only[qU];cases hq:Qc o k<;>by_cases hk:id=k<;>cases hq2:Qc o id<;>grind [Qc]
def QET:AO->AO->Prop
 | .box _,.box _=>True
 | .arr e sz es mv,.arr e' sz' es' mv'=>e'=e/\sz'=sz/\es'.length=es.length/\mv'=mv
 |a,b=>b=a
def Qp2(lod ids o):QET o (QEC lod ids o):=by cases o<;>simp[QET,QEC]
def QtZ{o o'}(h:QET o o'):(∃c c',o=.box c/\o'=.box c')\/(∃e sz es mv es',o=.arr e sz es mv/\o'=.arr e sz es' mv/\es'.length=es.length)\/o'=o:=by unfold QET at h;split at h<;>first|exact .inr (.inr h)|exact .inl ⟨_,_,rfl,rfl⟩|(obtain⟨rfl,rfl,h,rfl⟩:=h;exact .inr (.inl ⟨_,_,_,_,_,rfl,rfl,h⟩))
def QtB{ok ok' lo lo' ids}(hok:∀b,ok b->ok' b)(xc:∀id o,ids.contains id=true->lo id=some o->∃o',lo' id=some o'/\QET o o'){x v}(h:QG ok w lo L x v):QG ok' w lo' L (scr ids x) v:=by
 induction h with
 |iv x v h=>exact .iv x v (h.mono λb hb _=>⟨hok b hb,rfl⟩)
 |_=>
  simp only[scr]
  try split
  all_goals first|exact .iv _ _ (.any _)|grind [WX,Ua]|(rename_i hc;obtain⟨o',_,h2⟩:=xc _ _ hc ‹_›;have:=QtZ h2;grind)
def Rel.fz{ks ids}(h:Rel ok0 N w0 (look e) (Qc o) a w L)(hok0:∀b,¬w0.fr b->ok0 b):Rel ok0 N w0 (look (Qwy (QtT ids o) ks ids e)) (Qc (qU (QtT ids o) ids o ids)) a w L:=by
 generalize hl:QtT ids o=lod;have hlod:∀id ob,lod id=some ob->ids.contains id=false/\Qc o id=some ob:=λid ob hob=>by rw[<- hl] at hob;unfold QtT at hob;split at hob<;>grind
 have xc:∀id ob,ids.contains id=true->Qc o id=some ob->∃o',Qc (qU lod ids o ids) id=some o'/\QET ob o':=by intro id ob hc hob;exact⟨_,by rw[Ww,if_pos hc,hob];rfl,Qp2 _ _ ob⟩
 have hinv:∀id ob,Qc (qU lod ids o ids) id=some ob->ids.contains id=true/\∃ob0,Qc o id=some ob0/\ob=QEC lod ids ob0:=by intro id ob hob;rw[Ww] at hob;cases hq:Qc o id<;>grind
 have hok:∀b,okL ok0 (Qc o) L b->okL ok0 (Qc (qU lod ids o ids)) L b:=by grind
 have hs:=Yj h hok (lo':=lod) (λid ob hob=>(hlod _ _ hob).2)
  (λid ob b hob hb=>by obtain⟨hn,hob⟩:=hlod _ _ hob;have:=((h.y8 id ob hob).lt hb).1;have:=h.apart;grind) 40
 have all:∀x v,QG (okL ok0 (Qc o) L) w (Qc o) L x v->QG (okL ok0 (Qc (qU lod ids o ids)) L) w (Qc (qU lod ids o ids)) L (Qtx lod ids x) v:=λx v hx=>by
  unfold Qtx;split
  .rename_i y hy;exact .iv _ _ (hs.1 x v y hx hy)
  exact QtB hok xc hx
 refine⟨h.below,h.defers.stay (λ_ _ _=>rfl) (by grind),h.size,λt=>?_,λid ob hob=>?_,by have:=h.apart;grind,h.pin⟩
 .rcases Qhn lod ids e ks t with hq|hq
  .rw[hq];exact .iv _ _ (.any _)
  rw[hq];exact all _ _ (h.env t)
 .obtain⟨_,q,hq,rfl⟩:=hinv id ob hob;have:=h.y8 id q hq
  revert this
  generalize L id=l;intro this;cases q with
  |box cs=>
   cases l with
   |box b=>have⟨hB,t,vs,hb,hl,h1,hx⟩:=this;refine⟨hB,t,vs,hb,by rw[QbA];simpa using hl,h1,?_⟩;grind [QbA]
   |_=>exact this.elim
  |arr e sz es mv=>
   cases l with
   |arr v xs=>have⟨ho,hm,hz,h1,hx⟩:=this;refine⟨by rw[QN9];exact ho,by rw[QN9];exact hm,?_,h1,?_⟩<;>grind [QbA]
   |_=>exact this.elim
  |_=>exact QK.stay this (Zv.refl _ _) h.frl (λ_ _ _=>rfl) (λb hb _=>⟨hok b hb,rfl⟩) (λhf=>by cases hf)
def QiH{b:Frame}{c:Code}{k:List Item}{cs:List Frame}:step P (lone (b.atR a (.code (.scope c)::k)) cs w)=.next (lone (b.atR a (.code c::.inScope c::k)) cs w):=step_lone_go rfl
def Qfa{b:Frame}{c:Code}{k:List Item}{cs:List Frame}:step P (lone (b.atR a (.inScope c::k)) cs w)=.next (lone (b.atR a k) cs w):=step_lone_go rfl
def QEV{F:Way->Env->Qz->Prop}{k:List AI}{e:Env}{o:Qz}(h:WpF P K F k e o):Qdt P K F k e o:=by
 induction h with
 |skip F k e o _ ih=>
  intro b cs tl htl N ok0 w0 c hro k' a w L hfit hr;cases hfit with
  |code _ c' _ k' h hk=>cases c'<;>simp only[QA,QOo] at h;exact .steps (.one stepR_skip) (.refl _) (ih b cs tl htl N ok0 w0 c hro k' a w L hk hr)
 |region F l draw k e o C hrun _ ih=>
  intro b cs tl htl N ok0 w0 c hro k' a w L hfit hr;cases hfit with
  |code _ c' _ k' h hk=>cases c'<;>simp only[QA,QOo,QNZ,beq_iff_eq] at h;rename_i id ops d;obtain⟨rfl,h⟩:=h;have hof:=h;simp only[UK,QNZ] at hof;have⟨e',o',hp,hc⟩:=extract l ops.toList e o w0 c a w L hof.1 hr hrun;have⟨a',w',⟨w1,L',hle,hr'⟩,hst⟩:=Qg7 (id:=id) c h hr hp b k' cs;exact .steps hst hle (ih e' o' hc b cs tl htl N ok0 w1 (c.le hle) (hro.le hle) k' a' w' L' hk hr')
 |seq F x y k e o _ ih=>
  intro b cs tl htl N ok0 w0 c hro k' a w L hfit hr;cases hfit with
  |code _ c' _ k' h hk=>cases c'<;>simp only[QA,QOo,QNZ] at h;exact .steps (.one stepR_seq) (.refl _) (ih b cs tl htl N ok0 w0 c hro _ a w L (.code _ _ _ _ h.1 (.code _ _ _ _ h.2 hk)) hr)
 |cond F cc x y k e o bb hc _ _ iht ihf=>
  intro b cs tl htl N ok0 w0 c hro k' a w L hfit hr;cases hfit with
  |code _ c' _ k' h hk=>
   cases c'<;>simp only[QA,QOo,QNZ] at h;have⟨⟨h1,h2⟩,h3⟩:=h;have hv:=Opd.rep hr h1;rw[hc] at hv;have hv:=QbF hv;refine .steps (.one (stepR_cond hv)) (.refl _) ?_;cases bb
   .exact ihf rfl b cs tl htl N ok0 w0 c hro _ a w L (.code _ _ _ _ h3 hk) hr
   exact iht rfl b cs tl htl N ok0 w0 c hro _ a w L (.code _ _ _ _ h2 hk) hr
 |block F id cc k e o _ ih=>
  intro b cs tl htl N ok0 w0 c hro k' a w L hfit hr;cases hfit with
  |code _ c' _ k' h hk=>cases c'<;>simp only[QA,QOo,QNZ,beq_iff_eq] at h;obtain⟨rfl,h⟩:=h;exact .steps (.one stepR_block) (.refl _) (ih b cs tl htl N ok0 w0 c hro _ a w L (.code _ _ _ _ h (.inBlock _ _ _ hk)) hr)
 |inBlock F id k e o _ ih=>
  intro b cs tl htl N ok0 w0 c hro k' a w L hfit hr;cases hfit with
  |inBlock _ _ k' hk=>exact .steps (.one stepR_inBlock) (.refl _) (ih b cs tl htl N ok0 w0 c hro _ a w L hk hr)
 |scope F cc k e o _ ih=>
  intro b cs tl htl N ok0 w0 c hro k' a w L hfit hr;cases hfit with
  |code _ c' _ k' h hk=>cases c'<;>simp only[QA,QOo] at h;exact .steps (.one QiH) (.refl _) (ih b cs tl htl N ok0 w0 c hro _ a w L (.code _ _ _ _ h (.inScope _ _ _ hk)) hr)
 |inScope F k e o _ ih=>
  intro b cs tl htl N ok0 w0 c hro k' a w L hfit hr;cases hfit with
  |inScope _ _ k' hk=>exact .steps (.one Qfa) (.refl _) (ih b cs tl htl N ok0 w0 c hro _ a w L hk hr)
 |label F l k e o _ ih=>
  intro b cs tl htl N ok0 w0 c hro k' a w L hfit hr;cases hfit with
  |code _ c' _ k' h hk=>cases c'<;>simp only[QA,QOo,beq_iff_eq] at h;exact .steps (.one stepR_label) (.refl _) (ih b cs tl htl N ok0 w0 c hro _ a w L hk hr)
 |loop F cc ks ids k e o _ ih=>
  intro b cs tl htl N ok0 w0 c hro k' a w L hfit hr;cases hfit with
  |code _ c' _ k' h hk=>cases c'<;>simp only[QA,QOo] at h;exact .steps (.one stepR_loop) (.refl _) (ih b cs tl htl N ok0 w0 c hro _ a w L (.code _ _ _ _ h (.inLoop _ _ _ _ _ _ h hk)) (hr.keep ks ids))
 |inLoop F cc ks ids k e o _ ih=>
  intro b cs tl htl N ok0 w0 c hro k' a w L hfit hr;cases hfit with
  |inLoop _ c' _ _ _ k' h hk=>exact .steps (.one stepR_inLoop) (.refl _) (ih b cs tl htl N ok0 w0 c hro _ a w L (.code _ _ _ _ h (.inLoop _ _ _ _ _ _ h hk)) (hr.keep ks ids))
 |exit F id k j e o hk _ ih=>
  intro b cs tl htl N ok0 w0 c hro k' a w L hfit hr;cases hfit with
  |code _ c' _ k' h hkk=>cases c'<;>simp only[QA,QOo,beq_iff_eq] at h;subst h;have⟨j',h1,h2⟩:=hkk.exit hk;exact .steps (.one (stepR_exit h1)) (.refl _) (ih b cs tl htl N ok0 w0 c hro j' a w L h2 hr)
 |nxt F d dx x id k e o kvs seen hx ho _ _ ihe ihm=>
  intro b cs tl htl N ok0 w0 c hro k' a w L hfit hr;cases hfit with
  |code _ c' _ k' h hk=>
   cases c'<;>simp only[QA,QOo,QNZ,QOD] at h;rename_i cid ops d';obtain⟨rfl,h⟩:=h
   obtain⟨a',w',hq,harr⟩:=QpJ (cid:=cid) (Q:=λa' w'=>Ends P F b cs tl N ok0 w0 (lone (b.atR a' k') cs w')) c hr h hx ho
    (λxd a' w' L' hr'=>ihe xd b cs tl htl N ok0 w0 c hro _ a' w' L' hk (by rw[JD,JD];exact hr'))
    (λi q hi hns a' w' L' hr'=>ihm i q hi hns b cs tl htl N ok0 w0 c hro _ a' w' L' hk (by rw[JD,JD,Jk];exact hr')) b k' cs
   exact .steps harr (.refl _) hq
 |gh F id bid off t sz c k e o cs hid hb hc _ ih=>
  intro b fr tl htl N ok0 w0 c hro k' a w L hfit hr;cases hfit with
  |code _ c' _ k' h hk=>simp only[QA] at h;have⟨L',hr'⟩:=QGi (e:=t) hr hid hb hc;exact ih b fr tl htl N ok0 w0 c hro _ a w L' (.code _ _ _ _ h hk) (by rw[Jk,Jk];exact hr')
 |ret F k e o hv=>
  intro b cs tl htl N ok0 w0 c hro k' a w L hfit hr;cases hfit with
  |code _ c' _ k' h hk=>cases c'<;>simp only[QA,QOo] at h;exact⟨.ret,e,o,a,w,w0,L,_,hv,.refl _,hr,⟨k',rfl⟩,Steps.refl _ _⟩
 |done F e o hv=>intro b cs tl htl N ok0 w0 c hro k' a w L hfit hr;cases hfit;exact⟨.fall,e,o,a,w,w0,L,_,hv,.refl _,hr,rfl,Steps.refl _ _⟩
 |exitOut F id k e o hk hv=>
  intro b cs tl htl N ok0 w0 c hro k' a w L hfit hr;cases hfit with
  |code _ c' _ k' h hkk=>cases c'<;>simp only[QA,QOo,beq_iff_eq] at h;subst h;exact⟨.exit id,e,o,a,w,w0,L,_,hv,.refl _,hr,⟨k',rfl,hkk.exitOut (htl id) hk⟩,Steps.refl _ _⟩
 |frz F t id ks ids cc k e o cs xs ht hb hc hn _ ih=>
  intro b fr tl htl N ok0 w0 c hro k' a w L hfit hr;cases hfit with
  |code _ c' _ k' h hk=>simp only[QA] at h;exact ih b fr tl htl N ok0 w0 c hro _ a w L (.code _ _ _ _ h hk) (hr.frz c.ok ht hb hc hn)
 |fz F ks ids cc k e o _ ih=>
  intro b fr tl htl N ok0 w0 c hro k' a w L hfit hr;cases hfit with
  |code _ c' _ k' h hk=>simp only[QA] at h;exact ih b fr tl htl N ok0 w0 c hro _ a w L (.code _ _ _ _ h hk) (hr.fz c.ok)
 |range F f ps asn body ks ids k e o g fs cs Lx St Wy m M hf hc hit h0 hm xd hend hlen _ _ _ ih1 ih2 ih3=>exact Qpy hf hc hit h0 hm xd hend hlen ih1 ih2 ih3
def FnF(F:Env->Qz->Prop):Way->Env->Qz->Prop
 | .exit _,_,_=>False
 |_,e,o=>F e o
theorem QmM:∀{xs ys:List Nat},xs.map mark=ys.map mark->xs=ys
 |[],[],_=>rfl
 |[],y::ys,h=>by simp at h
 |x::xs,[],h=>by simp at h
 |x::xs,y::ys,h=>by
  simp[QOk,List.cons.injEq] at h;have:x=y:=by have h1:=h.1;injection h1 with h1;injection h1
  rw[this,QmM h.2]
theorem Qwt{b:Frame}{cs:List Frame}{todo:List Item}{lk:Nat->AV}{lo:Nat->Option AO}:∀(rs:List Nat)(a:Act)(w:World),a.defers=rs.map mark->Rel ok0 N w0 lk lo a w L ->
  ∃w',Rel ok0 N w0 lk lo { a with defers:=[] } w' L/\Steps P (lone { b.atR a todo with mode:=.returning } cs w) (lone { b.atR { a with defers:=[] } todo with mode:=.returning } cs w')
 |[],a,w,hd,h=>by
  have:a={ a with defers:=[] }:=by cases a;simp_all
  rw[<- this];exact⟨w,h,Steps.refl _ _⟩
 |r::rs,a,w,hd,h=>by
  have⟨rs',h1,h2,h3⟩:=h.defers;have hrs:rs'=r::rs:=QmM (h1.symm.trans hd);subst hrs;obtain⟨h4,h5,h6⟩:=h3 r (by simp);have hnp:=Uj h4 ⟨by simp,by simp⟩;have hne:∀x,Je w x->x≠r:=λx hx e=>hnp (e▸hx);have hrel:Rel ok0 N w0 lk lo { a with defers:=rs.map mark } (w.putObj r (.deferred none)) L:=by refine h.move ⟨rfl,rfl,rfl,by rw[putObj_size];exact QN3 _⟩ (h.below.trans (Zv.put w r _ h5)) ⟨rs,rfl,(QPL.1 h2).2,λx hx=>?_⟩ h.size h.env h.pin (λx hx hp=>⟨hx.1,QU (hne x hp)⟩) (λid ob x ho hx=>⟨((h.y8 id ob ho).lt hx).1,QU λe=>h6 id ob ho (e▸hx)⟩) (λx hx hok=>⟨hx,hok.1,QU λe=>h5 (e▸hx)⟩);obtain⟨g1,g2,g3⟩:=h3 x (by simp[hx]);exact⟨(QU λe=>(QPL.1 h2).1 (by rw[<- e];exact hx)).trans g1,g2,g3⟩
  have hstep:=step_collected (P:=P) (fr:={ b.atR a todo with mode:=.returning }) (cs:=cs) (d:=mark r) (r:=r) (ds:=rs.map mark) (calls:=[]) (by simp) (by rw[<- QOk,<- hd];rfl) rfl (run_takeDeferred h4);have⟨w',h7,h8⟩:=Qwt (b:=b) (cs:=cs) (todo:=todo) rs { a with defers:=rs.map mark } _ rfl hrel;exact⟨w',h7,.head hstep h8⟩
def Qtq{f:FuncId}{fn:Func}{code:Code}{ac:AC}{args:Array Value}{F:Env->Qz->Prop}{R:Value->World->Prop}(c:Ctx P K ok0 w0)(hfn:P.funcs[f]?=some fn)(hbody:fn.body=some code)(hfit:QA P N ac code=true)
  (hrel:Rel ok0 N w0 (look e) (Qc o) { tmps:=args++Array.replicate (fn.ntmps-args.size) undef,defers:=[] } w L)(h:WpF P K (FnF F) [.code ac] e o)
  (hF:∀(w1:XS)(e':Env)(o':Qz)(a':Act)(w':World)(L':Nat->Lay),w0.le w1->F e' o'->Rel ok0 N w1 (look e') (Qc o') a' w' L'->∃v,(results fn a'.tmps).run P w'=.ok v w'/\R v w'):
  Calls P f args w (λe w'=>∃v,e=.returned v/\R v w'):=by
 intro cs
 let b:Frame:={ (default:Frame) with fn:=f,kind:=.normal,roundOf:=none }
 have henter:Frame.enter P f args .normal=b.atR { tmps:=args++Array.replicate (fn.ntmps-args.size) undef,defers:=[] } [.code code]:=by simp[Frame.enter,Frame.atR,hfn,hbody,b]
 obtain⟨wy,e',o',a',w',w1,L',k,hf,hle,hr',hat,hst⟩:=QEV h b cs [] (λid=>rfl) N ok0 w0 c (λl hl=>by cases hl) [.code code] _ w L (.code _ _ _ _ hfit .nil) hrel;have hout:step P (lone (b.atR a' k) cs w')=.next (lone { b.atR a' k with mode:=.returning } cs w')/\F e' o':=by
  cases wy with
  |fall=>have hk:k=[]:=hat;subst hk;exact⟨stepR_end rfl,hf⟩
  |ret=>obtain⟨k1,rfl⟩:=hat;exact⟨stepR_ret rfl,hf⟩
  |exit id=>exact hf.elim
 have⟨rs,hd,_⟩:=hr'.defers;have⟨w2,hr2,hst2⟩:=Qwt (P:=P) (b:=b) (cs:=cs) (todo:=k) rs a' w' hd hr';have⟨v,hv,hR⟩:=hF w1 e' o' _ w2 L' hle hout.2 hr2;refine⟨.returned v,w2,{ b.atR { a' with defers:=[] } k with mode:=.returning },⟨v,rfl,hR⟩,?_,rfl,⟨rfl,rfl,rfl,fn,hfn,hv⟩⟩;rw[henter];exact(hst.trans (.head hout.1 hst2))
structure AFn where
 nt:Nat
 res:List Qbu
 code:AC
def QhZ(P:Program)(fn:Func)(A:AFn):Bool:=(match fn.body with|some c=>QA P ⟨A.nt,[]⟩ A.code c|none=>false)&&fn.ntmps==A.nt&&QP P A.res fn.results.toList
def Qxo(P:Program)(f:FuncId)(A:AFn):Prop:=∃fn,P.funcs[f]?=some fn/\QhZ P fn A=true
def JL:Nat->List IV->Env
 |_,[]=>[]
 |i,x::r=>(i,.iv x)::JL (i+1) r
theorem Jj:∀xs i t,look (JL i xs) t=.iv .any\/∃x,i<=t/\xs[t-i]?=some x/\look (JL i xs) t=.iv x
 |[],i,t=>.inl rfl
 |x::r,i,t=>by
  simp only[JL,look];split
  .grind
  .rcases Jj r (i+1) t with h1|⟨y,h1,h2,h3⟩
   all_goals grind
def calls_of_wp{f:FuncId}{A:AFn}{xs:List IV}{F:Env->Qz->Prop}(hK:∀w w',K w->Below w.heap.size w w'->K w')(hok:Qxo P f A)(hlen:xs.length<=A.nt)
  (h:WpF P K (FnF F) [.code A.code] (JL 0 xs) [])(w:World)(ok:Nat->Prop)(vs:List Value)(R:Value->World->Prop)(hk:K w)(hnew:∀b,w.heap.size<=b->ok b)(hvl:vs.length=xs.length)
  (hvs:∀(k:Nat)x u,xs[k]?=some x->vs[k]?=some u->QZ ok w x u)
  (hF:∀(fn:Func)(w1:XS)(e:Env)(o:Qz)(a:Act)(w':World)(L:Nat->Lay),QP P A.res fn.results.toList=true->F e o->XS.le ⟨w,λb=>b<w.heap.size,λ_ h=>h,λ_=>undef⟩ w1->Rel ok ⟨A.nt,[]⟩ w1 (look e) (Qc o) a w' L->∃v,(results fn a.tmps).run P w'=.ok v w'/\R v w'):
  Calls P f vs.toArray w (λe w'=>∃v,e=.returned v/\R v w'):=by
 obtain⟨fn,hfn,hok⟩:=hok;unfold QhZ at hok
 .split at hok
  .rename_i c hbody;simp only[QNZ,beq_iff_eq] at hok;have⟨⟨hfit,hnt⟩,hres⟩:=hok
   let a:Act:={ tmps:=vs.toArray++Array.replicate (fn.ntmps-vs.toArray.size) undef,defers:=[] }
   let w0:XS:=⟨w,λb=>b<w.heap.size,λ_ h=>h,λ_=>undef⟩
   have hctx:Ctx P K ok w0:=⟨λw' h=>hK w w' hk h.below,λb hb=>hnew b (QO9.1 hb)⟩;have hrel:Rel ok ⟨A.nt,[]⟩ w0 (look (JL 0 xs)) (Qc []) a w (λ_=>.box 0):=by
    refine⟨Zv.refl _ _,⟨[],rfl,QPA,by simp⟩,?_,λt=>?_,λid o ho=>by simp[Qc] at ho,λi j oi oj b hij hi=>by simp[Qc] at hi,λt ht=>by simp at ht⟩
    .simp[a,hnt];omega
    rcases Jj xs 0 t with h1|⟨x,_,h2,h3⟩
    .rw[h1];exact .iv _ _ (.any _)
    rw[h3];simp only[Nat.sub_zero] at h2;have y9:t<vs.length:=by rw[hvl];exact(QNY.1 h2).1
    have hget:a.tmps.getD t undef=vs[t]:=by simp[a,QOL,QPM,y9]
    rw[hget];exact .iv _ _ ((hvs t x _ h2 (QNX y9)).mono λb hb _=>⟨⟨hb,λid o ho=>by simp[Qc] at ho⟩,rfl⟩)
   exact Qtq (ac:=A.code) hctx hfn hbody hfit hrel h (λw1 e' o' a' w' L' hle hf hr'=>hF fn w1 e' o' a' w' L' hres hf hle hr')
  .simp at hok
def Qb{f:FuncId}{A:AFn}{xs:List IV}{r:IV}(hK:∀w w',K w->Below w.heap.size w w'->K w')(hok:Qxo P f A)(hlen:xs.length<=A.nt)
  (h:WpF P K (FnF (QdT A.res r)) [.code A.code] (JL 0 xs) []):Good P K f xs r:=by
 intro w ok vs hk hnew hvl hvs;refine calls_of_wp hK hok hlen h w _ _ (λv w'=>QZ _ _ r v/\Below _ w _) hk hnew hvl hvs (λfn w1 e o a w' L hres hv hle hr=>?_);have⟨v,h1,h2⟩:=Qci hr (λb hb=>hnew b (QO9.1 λh=>hb (hle.fr b h))) hres hv;exact⟨v,h1,h2,(hle.keeps hr.below).below⟩
def QtG(e:Env)(o:Qz):Qbu->Option AV
 | .tmp t=>some (look e t)
 | .cell t n ag=>match look e t with
   | .loc id off=>match Qc o id with
     |some (.box cs)=>match ag with
      |true=>if off+n<=cs.length then some (Qcx ((cs.drop off).take n)) else none
      |false=>if n=1 then cs[off]? else none
     |_=>none
   |_=>none
def Qfj(h:Rel ok0 N w0 (look e) (Qc o) a w L){x rs y}
  (hf:QP P [x] [rs]=true)(hv:QtG e o x=some y):∃v,(YR a.tmps rs).run P w=.ok v w/\QG (okL ok0 (Qc o) L) w (Qc o) L y v:=by
 cases x with
 |tmp t=>
  cases rs with
  |cell=>simp[QP] at hf
  |tmp t'=>simp only[QP,Bool.and_true,beq_iff_eq] at hf;subst hf;simp only[QtG,Option.some.injEq] at hv;subst hv;exact⟨a.tmps.getD t undef,rfl,h.env t⟩
 |cell t n ag=>
  cases rs with
  |tmp=>simp[QP] at hf
  |cell t' T=>
   simp only[QP,Bool.and_true,QNZ,beq_iff_eq] at hf;obtain⟨⟨rfl,hag⟩,hn⟩:=hf;simp only[QtG] at hv;have het:=h.env t;generalize look e t=xv at hv het;split at hv
   .rename_i id off;split at hv
    .rename_i cs hcs;have hob:=h.y8 _ _ hcs;generalize hpv:a.tmps.getD t undef=pv at het;cases het with
     |loc _ _ cs' b hob' hL=>
      rw[hL] at hob;have⟨hB,ty,vs,hb,hl,h1,hxx⟩:=hob;have cell:∀k u,(vs.drop off)[k]?=some u->w.cell? ⟨b,off+k,none⟩=some u:=by intro k u hu;rw[cell_of_row w b (off+k) _ ty (0,0) hb];simpa using hu
      split at hv
      .split at hv
       .rename_i hfit;injection hv with hv;subst hv;have hlen:((vs.drop off).take n).length=n:=by simp;omega
        have hload:=Xd (w:=w) hag hn b off ((vs.drop off).take n) hlen (by simp) (λk u hu=>cell k u (by rw[QOS] at hu;split at hu<;>first|exact hu|cases hu))
        refine⟨.agg ((vs.drop off).take n).toArray,?_,Ue (by simp;omega) (λu hu=>h1 u (QOW (QOJ hu))) (λk y u hy hu=>?_)⟩
        .simp[YR,hpv,asAddr,hload]
        grind
       cases hv
      split at hv
      .rename_i hn1;subst hn1;have y9:off<vs.length:=by rw[hl];exact(QNY.1 hv).1
       have hload:=Xd (w:=w) hag hn b off [vs[off]] rfl (by simp) (λk u hu=>by
        cases k with
        |zero=>simp at hu;subst hu;exact cell 0 _ (by simp[QPy,y9])
        |succ k=>simp at hu)
       refine⟨vs[off],?_,hxx off _ _ hv (QNX y9)⟩;simp[YR,hpv,asAddr,hload]
      cases hv
    cases hv
   .cases hv
def QNm(x:Qbu)(id:Nat)(q:AV)(ob:AO)(e:Env)(o:Qz):Prop:=QtG e o x=some (ren id q)/\Qc o id=some ob
def WB{f:FuncId}{A:AFn}{xs:List IV}{q:AV}{e:TypeId}{sz:Nat}{rows:List (List IV)}{mv:Nat}(x:Qbu)(id:Nat)(hK:∀w w',K w->Below w.heap.size w w'->K w')(hok:Qxo P f A)(hlen:xs.length<=A.nt)
  (hres:A.res=[x])(h:WpF P K (FnF (QNm x id q (ZG e sz rows mv))) [.code A.code] (JL 0 xs) []):QdU P K f xs q e sz rows mv:=by
 intro w ok vs hk hnew hvl hvs
 have:=calls_of_wp hK hok hlen h w ok vs (λv w'=>∃l,QK (λb=>b<w.heap.size) (okL ok (one (ZG e sz rows mv)) (λ_=>l)) w' (one (ZG e sz rows mv)) (λ_=>l) (ZG e sz rows mv) l /\
   QG (okL ok (one (ZG e sz rows mv)) (λ_=>l)) w' (one (ZG e sz rows mv)) (λ_=>l) (ren 0 q) v/\Below w.heap.size w w') hk hnew hvl hvs (λfn w1 e' o a w' L hres' hv hle hr=>?_)
 .grind
 .rw[hres] at hres';have⟨h1,h2⟩:=hv;obtain⟨rs,hrs⟩:∃rs,fn.results.toList=[rs]:=by
   match hfr:fn.results.toList,hres' with
   |[r],h=>exact⟨r,rfl⟩
   |[],h=>cases x<;>simp[QP] at h
   |r::_::_,h=>cases x<;>cases r<;>simp[QP] at h
  rw[hrs] at hres';have⟨v,hv1,hv2⟩:=Qfj hr hres' h1;have hrun:(results fn a.tmps).run P w'=.ok v w':=by
   have hfun:results fn a.tmps=(do
     let vs <- fn.results.mapM (YR a.tmps)
     pure (if h:vs.size=1 then vs[0] else .tuple vs)):=by
    congr 1
   rw[hfun,QPm,hrs];simp[List.mapM_cons,hv1]
  have hokk:∀b,okL ok (Qc o) L b->okL ok (one (ZG e sz rows mv)) (λ_=>L id) b:=by intro b hb;refine⟨hb.1,λi oi _=>hb.2 id _ h2⟩
  refine⟨_,hrun,L id,Qms (λb hb h=>hb (hle.fr b h)) hokk (hr.y8 id _ h2),Qfl (lo':=one (ZG e sz rows mv)) (j:=0) hokk h2 rfl rfl hv2,(hle.keeps hr.below).below⟩
def QFp(e:TypeId)(sz:Nat)(rows:List (List IV)):Option AO->Prop
 |some (.arr e' sz' es _)=>e'=e/\sz'=sz/\es=rows.map (List.map AV.iv)
 |_=>False
def QNQ(t:Nat)(ty:TypeId)(sz:Nat)(rows':List (List IV))(e:Env)(o:Qz):Prop:=look e t=.yl 0 rows'.length/\QFp ty sz rows' (Qc o 0)
def QcT{f:FuncId}{A:AFn}{ty:TypeId}{sz:Nat}{rows rows':List (List IV)}{args:List IV}(t:Nat)(hok:Qxo P f A)(hlen:args.length+1<=A.nt)(hres:A.res=[.tmp t])(y9:rows.length<rows'.length)
  (h:WpF P K (FnF (QNQ t ty sz rows')) [.code A.code] ((0,.yl 0 rows.length)::JL 1 args) [(0,ZG ty sz rows 0)]):QaG P K f ty sz rows args rows':=by
 intro w ok v0 xs vs hk hnew hown hsz h1 hcx hvl hvs;obtain⟨fn,hfn,hok⟩:=hok;unfold QhZ at hok;split at hok
 .rename_i c hbody;simp only[QNZ,beq_iff_eq] at hok;have⟨⟨hfit,hnt⟩,hresf⟩:=hok
  let a:Act:={ tmps:=(v0::vs).toArray++Array.replicate (fn.ntmps-(v0::vs).toArray.size) undef,defers:=[] }
  let w0:XS:=⟨w,Fr0 w v0,λ_ h=>h.1,λ_=>undef⟩
  let okc:Nat->Prop:=λb=>ok b\/v0.ownBlock=some b
  have hctx:Ctx P K okc w0:=⟨λw' h=>hk w' h,λb hb=>by
   by_cases hbl:b<w.heap.size
   .by_cases hbo:v0.ownBlock=some b
    .exact .inr hbo
    exact absurd ⟨hbl,hbo⟩ hb
   exact .inl (hnew b (QO9.1 hbl))⟩
  have hokc:∀b,ok b/\v0.ownBlock≠some b->okL okc (Qc [(0,ZG ty sz rows 0)]) (λ_=>.arr v0 xs) b:=λb hb=>⟨.inl hb.1,λid o _=>hb.2⟩;have hsl:=Yz hown;have hrel:Rel okc ⟨A.nt,[]⟩ w0 (look ((0,.yl 0 rows.length)::JL 1 args)) (Qc [(0,ZG ty sz rows 0)]) a w (λ_=>.arr v0 xs):=by
   refine⟨Zv.refl _ _,⟨[],rfl,QPA,by simp⟩,?_,λt=>?_,λid o ho=>?_,λi j oi oj b hij hi hj=>?_,λt ht=>by simp at ht⟩
   .simp[a,hnt];omega
   .simp only[look];split
    .rename_i ht;subst ht;have hget:a.tmps.getD 0 undef=v0:=by simp[a,QOL,QPM]
     rw[hget];have:=QG.yl (ok:=okL okc (Qc [(0,ZG ty sz rows 0)]) (λ_=>.arr v0 xs)) (w:=w) (lo:=Qc [(0,ZG ty sz rows 0)]) (L:=λ_=>.arr v0 xs) 0 ty sz (rows.map (List.map AV.iv)) 0 v0 xs (by simp[Qc,ZG]) rfl hsl
     rwa [QN9] at this
    rcases Jj args 1 t with h1|⟨x,ht,h2,h3⟩
    .rw[h1];exact .iv _ _ (.any _)
    rw[h3];have y9:t-1<vs.length:=by rw[hvl];exact(QNY.1 h2).1
    have hget:a.tmps.getD t undef=vs[t-1]:=by obtain⟨s,rfl⟩:∃s,t=s+1:=⟨t-1,by omega⟩;simp only[Nat.add_sub_cancel] at y9 |-;simp[a,QOL,QPM,y9]
    rw[hget];exact .iv _ _ ((hvs (t-1) x _ h2 (QNX y9)).mono λb hb _=>⟨hokc b hb,rfl⟩)
   .simp only[Qc] at ho;split at ho
    .injection ho with ho;subst ho;refine⟨⟨by rw[QN9];exact hown,λb hb hf=>hf.2 hb⟩,QPk _,λc hc=>?_,h1,λi j c x u hi hj hu=>?_⟩
     .grind
     rw[QN6,QN2] at hi;obtain⟨d,hd,rfl⟩:=hi;rw[QN6,QN2] at hj;obtain⟨y,hy,rfl⟩:=hj;exact .iv _ _ ((hcx i j d y u hd hy hu).mono λb hb _=>⟨hokc b hb,rfl⟩)
    cases ho
   simp only[Qc] at hi hj;grind
  refine(Qtq (ac:=A.code) (R:=λv w'=>∃xs',UA w ok ty sz rows v0 rows' v xs' w') hctx hfn hbody hfit hrel h (λw1 e' o' a' w' L hle hv hr=>by
   have⟨hv1,hv2⟩:=hv;unfold QFp at hv2;split at hv2
   .rename_i e2 sz2 es2 mv2 hob;obtain⟨rfl,rfl,rfl⟩:=hv2;have hobj:=hr.y8 0 _ hob;rw[hres] at hresf;have hres':fn.results.toList=[.tmp t]:=by
     match hfr:fn.results.toList,hresf with
     |[.tmp t'],h=>simp[QP] at h;rw[h]
     |[.cell _ _],h=>simp[QP] at h
     |[],h=>simp[QP] at h
     | .tmp _::_::_,h=>simp[QP] at h
     | .cell _ _::_::_,h=>simp[QP] at h
    have hrun:(results fn a'.tmps).run P w'=.ok (a'.tmps.getD t undef) w':=by
     have hfun:results fn a'.tmps=(do
       let vs <- fn.results.mapM (YR a'.tmps)
       pure (if h:vs.size=1 then vs[0] else .tuple vs)):=by
      unfold results;congr 1
     rw[hfun,QPm,hres'];simp[List.mapM_cons,YR]
    have henv:=hr.env t;rw[hv1] at henv;cases hL:L 0 with
    |arr v1 xs1=>
     rw[hL] at hobj;have⟨q1,q2,q3,q4,q5⟩:=hobj;rw[QN9] at q1;have hv:=Um (rows:=rows') hob hL henv;refine⟨_,hrun,xs1,?_⟩;rw[hv];refine⟨hle.keeps hr.below,q1.own,λb hb=>?_,λc hc=>?_,q4,λi j c x u a1 a2 a3=>?_,by omega,λhs=>by omega⟩
     .by_cases hbl:b<w.heap.size
      .by_cases hbo:v0.ownBlock=some b
       .exact .inl hbo
       exact absurd (hle.fr b ⟨hbl,hbo⟩) (q1.free b hb)
      exact .inr (QO9.1 hbl)
     .have:=q3 (c.map AV.iv) (QOb.2 ⟨c,hc,rfl⟩);simpa using this
     refine(VZ (q5 i j (c.map AV.iv) (.iv x) u (by simp[a1]) (by simp[a2]) a3)).mono λb hb _=>⟨⟨hb.1,λhbad=>hb.2 0 _ hob (by rw[hL];exact hbad)⟩,rfl⟩
    |_=>grind
   exact hv2.elim)).mono λx w' ⟨v,hx,xs',hrb⟩=>⟨v,xs',hx,hrb⟩
 .simp at hok
def QEA(K:World->Prop)(sz:Nat)(rows:List (List IV))(v0:Value)(w:World):Prop:=K w/\QZ (λ_=>True) w (.sl sz rows) v0
def QEA.stay{sz rows v0}(hK:∀w w',K w->Below w.heap.size w w'->K w'):∀w w',QEA K sz rows v0 w->Below w.heap.size w w'->QEA K sz rows v0 w':=λw w' h hb=>⟨hK w _ h.1 hb,h.2.mono λb _ y9=>⟨trivial,hb.block b y9⟩⟩
def good_row{f sz rows v0 args r}(hg:Good P K f (.sl sz rows::args) r)(hr:Zh r=true):Good P (QEA K sz rows v0) f (.lit v0::args) r:=by
 intro w ok vs hk hnew hvl hvs;refine(hg w (λ_=>True) _ hk.1 (λ_ _=>trivial) hvl (λk x u hx hu=>?_)).mono λe w' ⟨v,he,hv,hb⟩=>⟨v,he,Y3 hr hv,hb⟩;cases k with
 |zero=>have:=hvs 0 _ u rfl hu;cases this;simp at hx;subst hx;exact hk.2
 |succ k=>exact(hvs _ x u hx hu).mono λ_ _ _=>⟨trivial,rfl⟩
def Qey{f:FuncId}{ty:TypeId}{sz:Nat}{rows:List (List IV)}{args:List IV}(h:∀v0,Good P (QEA K sz rows v0) f (.lit v0::args) (.lit v0)):QaG P K f ty sz rows args rows:=by
 intro w ok v0 xs vs hk hnew hown hsz h1 hcx hvl hvs;have y9:=λb hb=>(hown.lt b hb).2;have hrep:=Qmq (Fr:=λ_=>False) ⟨hown,λ_ _ h=>h⟩ (λ_ _=>trivial) hsz h1 λi j c x u a1 a2 a3=>(hcx i j c x u a1 a2 a3).mono λ_ _ _=>⟨trivial,rfl⟩;refine(h v0 w (λb=>ok b/\v0.ownBlock≠some b) (v0::vs) ⟨hk w (Zv.refl _ _),hrep⟩ (λb hb=>⟨hnew b hb,λhbad=>by grind⟩) (by simp[hvl]) (λk x u hx hu=>?_)).mono λe w' ⟨v,he,hv,hb⟩=>?_
 .cases k with
  |zero=>simp at hx hu;subst hx hu;exact .lit _
  |succ k=>exact hvs k x u (by simpa using hx) (by simpa using hu)
 .cases hv;have y4:Zv (Fr0 w v0) w w':=⟨hb.os,hb.tape,hb.output,hb.size,λk hk=>hb.block k hk.1⟩;have hst:=(YK.stay (Fr:=λ_=>False) ⟨hown,λ_ _ h=>h⟩ λb hb'=>hb.block b (y9 b hb'));exact⟨v0,xs,he,y4,hst.own,λb hb=>.inl hb,hsz,h1,λi j c x u a1 a2 a3=>(hcx i j c x u a1 a2 a3).mono λb hb' hbl=>⟨⟨.inl hb'.1,hb'.2⟩,hb.block b hbl⟩,QN3 _,λ_=>rfl⟩
end
end Go.Ev
