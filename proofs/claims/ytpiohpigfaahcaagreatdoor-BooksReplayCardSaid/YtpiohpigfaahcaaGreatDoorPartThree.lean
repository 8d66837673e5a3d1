/- How a run of the evaluator is reckoned by simp. -/
import Derived.Test.YtpiohpigfaahcaaGreatDoorPartTwo
import Derived.ChangeArms
import Derived.ChangeSlices
import Derived.OpenShut
import Derived.SizedLaws
import Derived.ChangeOld
import Derived.ShutString
import Derived.ChangeSame
import Derived.ChangeAgain
import Derived.Deep.DeepHandedRow
import Derived.Deep.DeepWitnessRowRef
import Derived.Shelf.SlGeneric
import Derived.Shelf.LaysC
import Derived.Shelf.LaysM
import Derived.Ground.NamesProg
import Derived.Ground.SlgnProg
import Derived.Shelf.SlicesE.Clone
import Derived.Shelf.Strconv.ErrVarAll
import Derived.Shelf.Strconv.Itoa3
import Derived.Shelf.Strings.Prefix
import Derived.Shelf.Strings.OnBuilder
import Derived.Shelf.Strings.SplitShaped
import Derived.Test.YtpiohpigfaahcaaGreatDoorProg
import Derived.Ground.GgzProg
import Derived.Ground.SlgmProg
import Derived.Shelf.SlIterI.Nil
import Derived.Shelf.SlicesE.Delete
import Derived.Shelf.SlicesE.Reverse
import Derived.Shelf.SortM.Plain
import Derived.Shelf.SortM.SortNone
set_option linter.all false
set_option maxRecDepth 100000
namespace Go.Ev
open Go Go.RowKit
def AOp.isCall:AOp->Bool
 | .call _ _ _| .y2 _ _ _ _| .y1 _ _ _| .yx _ _ _ _| .yw _ _ _| .yu _ _ _| .yz _ _ _| .y3 _ _ _| .cpy _ _ _=>true
 | .yy _=>false
 | .xg _| .nilo _ _ _| .pick _ _ _| .ext _ _| .not _| .bin _ _ _| .cvi _ _| .b2s _| .i2s _| .nilc _| .fld _ _| .ldi _ _ _| .ldo _ _ _ _| .sto _ _ _ _| .ixi _ _ _| .ixo _ _ _ _
 | .ixs _ _| .sli _ _ _ _| .sls _ _ _| .boxi _| .boxo _ _| .alo _ _| .bld _ _| .bsl _ _| .bso _ _ _ _| .len _| .leno _ _| .lst _| .app _ _ _ _ _ _=>false
theorem Qp9:∀l,ivs (l.map AV.iv)=some l
 |[]=>rfl
 |a::l=>by simp[ivs,Qp9 l,AV.iv?]
theorem qj:∀L,Qhx (L.map (List.map AV.iv))=some L
 |[]=>rfl
 |a::l=>by simp[Qhx,qj l,Qp9]
section
variable{P:Program}{K:World->Prop}{F:Way->Env->Qz->Prop}
def opK(P:Program)(K:World->Prop)(C:Env->Qz->Prop)(d:Option Nat)(l:List Zi)(e:Env)(o:Qz):Res->Prop
 | .ok s f v up=>s/\(f->Qy P K C l (bnd d v e) (upL up o))
 | .no=>False
def gK(P:Program)(K:World->Prop)(C:Env->Qz->Prop)(d:Option Nat)(t:Nat)(b:Bool)(op:AOp)(l:List Zi)(e:Env)(o:Qz):AV->Prop
 | .iv (.bool c)=>(c=b->Qy P K C (⟨d,none,op⟩::l) (QbB t (.iv (.bool b)) e) o)/\(c=!b->Qy P K C l (bnd d (.iv (.xf [])) (QbB t (.iv (.bool (!b))) e)) o)
 | .iv (.xf [])=>Qy P K C l (bnd d (.iv (.xf [])) (QbB t (.iv (.xf [])) e)) o
 |_=>False
def Qf6(P:Program)(K:World->Prop)(C:Env->Qz->Prop)(d:Option Nat)(g:FuncId)(own:Bool)(l:List Zi)(e:Env)(o:Qz)(xs:Option (List IV)):Prop:=∃ys r,xs=some ys/\Good P K g ys r/\(own=false\/Zh r=true)/\Qy P K C l (bnd d (.iv r) e) o
def QGC(P:Program)(K:World->Prop)(C:Env->Qz->Prop)(d:Option Nat)(g:FuncId)(id:Nat)(ids:List Nat)(l:List Zi)(e:Env)(o:Qz)(xs:Option (List IV)):Prop:=∃ys q t sz rows mv,ids=[]/\xs=some ys/\QdU P K g ys q t sz rows mv/\Qc o id=none/\Qy P K C l (bnd d (ren id q) e) (Yu id (ZG t sz rows mv) o)
def Qkd(X Y:Prop):AV->Prop
 | .iv (.bool b)=>(b=true->X)/\(b=false->Y)
 |_=>False
@[simp] theorem QIN(C d t b op l e o):gK P K C d t b op l e o (.iv (.xf []))=Qy P K C l (bnd d (.iv (.xf [])) (QbB t (.iv (.xf [])) e)) o:=rfl
@[simp] theorem QJA(C d l e o s f v up):opK P K C d l e o (.ok s f v up)=(s/\(f->Qy P K C l (bnd d v e) (upL up o))):=rfl
@[simp] theorem QJB(C d l e o):opK P K C d l e o .no=False:=rfl
@[simp] theorem QNE(C d t c op l e o)(h:c=true):gK P K C d t true op l e o (.iv (.bool c))=Qy P K C (⟨d,none,op⟩::l) (QbB t (.iv (.bool true)) e) o:=by subst h;simp[gK]
@[simp] theorem QNF(C d t c op l e o)(h:c=false):gK P K C d t true op l e o (.iv (.bool c))=Qy P K C l (bnd d (.iv (.xf [])) (QbB t (.iv (.bool false)) e)) o:=by subst h;simp[gK]
@[simp] theorem QNH(C d t c op l e o)(h:c=false):gK P K C d t false op l e o (.iv (.bool c))=Qy P K C (⟨d,none,op⟩::l) (QbB t (.iv (.bool false)) e) o:=by subst h;simp[gK]
@[simp] theorem QNG(C d t c op l e o)(h:c=true):gK P K C d t false op l e o (.iv (.bool c))=Qy P K C l (bnd d (.iv (.xf [])) (QbB t (.iv (.bool true)) e)) o:=by subst h;simp[gK]
@[simp] theorem QNI(C d t c op l e o):gK P K C d t true op l e o (.iv (.bool c)) =((c=true->Qy P K C (⟨d,none,op⟩::l) (QbB t (.iv (.bool true)) e) o)/\(c=false->Qy P K C l (bnd d (.iv (.xf [])) (QbB t (.iv (.bool false)) e)) o)):=rfl
@[simp] theorem QNJ(C d t c op l e o):gK P K C d t false op l e o (.iv (.bool c)) =((c=false->Qy P K C (⟨d,none,op⟩::l) (QbB t (.iv (.bool false)) e) o)/\(c=true->Qy P K C l (bnd d (.iv (.xf [])) (QbB t (.iv (.bool true)) e)) o)):=rfl
@[simp] theorem QEM(X Y b)(h:b=true):Qkd X Y (.iv (.bool b))=X:=by subst h;simp[Qkd]
@[simp] theorem QAY(X Y b)(h:b=false):Qkd X Y (.iv (.bool b))=Y:=by subst h;simp[Qkd]
@[simp] theorem QEN(X Y b):Qkd X Y (.iv (.bool b))=((b=true->X)/\(b=false->Y)):=rfl
def QnX(C e o):Qy P K C [] e o=C e o:=rfl
def Qi(C d op l e o)(h:op.isCall=false):Qy P K C (⟨d,none,op⟩::l) e o=opK P K C d l e o (ev (look e) (Qc o) op):=by
 cases op with
 |call g args ids=>simp[AOp.isCall] at h
 |y2 g args ids id=>simp[AOp.isCall] at h
 |y1 x args ids=>simp[AOp.isCall] at h
 |yx g x args id=>simp[AOp.isCall] at h
 |yw x args id=>simp[AOp.isCall] at h
 |yu g args id=>simp[AOp.isCall] at h
 |yz g args ids=>simp[AOp.isCall] at h
 |cpy id x y=>simp[AOp.isCall] at h
 |y3 x args ids=>simp[AOp.isCall] at h
 |_=>rfl
def QE4(C d x l e o):=Qi (P:=P) (K:=K) C d (.xg x) l e o rfl
def QxE(C d id t sz l e o):=Qi (P:=P) (K:=K) C d (.nilo id t sz) l e o rfl
def QxD(C d c x y l e o):=Qi (P:=P) (K:=K) C d (.pick c x y) l e o rfl
def QFe(C d x i l e o):=Qi (P:=P) (K:=K) C d (.ext x i) l e o rfl
def QE3(C d x l e o):=Qi (P:=P) (K:=K) C d (.not x) l e o rfl
def QFj(C d b x y l e o):=Qi (P:=P) (K:=K) C d (.bin b x y) l e o rfl
def QFf(C d k x l e o):=Qi (P:=P) (K:=K) C d (.cvi k x) l e o rfl
def QFk(C d x l e o):=Qi (P:=P) (K:=K) C d (.b2s x) l e o rfl
def QFc(C d x l e o):=Qi (P:=P) (K:=K) C d (.i2s x) l e o rfl
def QxF(C d x l e o):=Qi (P:=P) (K:=K) C d (.nilc x) l e o rfl
def QFd(C d n x l e o):=Qi (P:=P) (K:=K) C d (.fld n x) l e o rfl
def QE8(C d n g x l e o):=Qi (P:=P) (K:=K) C d (.ldi n g x) l e o rfl
def QE7(C d id n g x l e o):=Qi (P:=P) (K:=K) C d (.ldo id n g x) l e o rfl
def QE0(C d id n x y l e o):=Qi (P:=P) (K:=K) C d (.sto id n x y) l e o rfl
def QFb(C d sz x i l e o):=Qi (P:=P) (K:=K) C d (.ixi sz x i) l e o rfl
def QFa(C d id sz x i l e o):=Qi (P:=P) (K:=K) C d (.ixo id sz x i) l e o rfl
def QE9(C d x i l e o):=Qi (P:=P) (K:=K) C d (.ixs x i) l e o rfl
def QE2(C d sz x i j l e o):=Qi (P:=P) (K:=K) C d (.sli sz x i j) l e o rfl
def QE1(C d x i j l e o):=Qi (P:=P) (K:=K) C d (.sls x i j) l e o rfl
def QxI(C d x l e o):=Qi (P:=P) (K:=K) C d (.boxi x) l e o rfl
def QxH(C d id x l e o):=Qi (P:=P) (K:=K) C d (.boxo id x) l e o rfl
def QFm(C d id zs l e o):=Qi (P:=P) (K:=K) C d (.alo id zs) l e o rfl
def QFi(C d zs ps l e o):=Qi (P:=P) (K:=K) C d (.bld zs ps) l e o rfl
def QFh(C d sz ps l e o):=Qi (P:=P) (K:=K) C d (.bsl sz ps) l e o rfl
def QFg(C d id t sz ps l e o):=Qi (P:=P) (K:=K) C d (.bso id t sz ps) l e o rfl
def QE6(C d x l e o):=Qi (P:=P) (K:=K) C d (.len x) l e o rfl
def QxG(C d id x l e o):=Qi (P:=P) (K:=K) C d (.leno id x) l e o rfl
def QE5(C d x l e o):=Qi (P:=P) (K:=K) C d (.lst x) l e o rfl
def QFl(C d id t sz n x y l e o):=Qi (P:=P) (K:=K) C d (.app id t sz n x y) l e o rfl
def QiO(C d g args ids l e o):
  Qy P K C (⟨d,none,.call g args ids⟩::l) e o=Qf6 P K C d g (!ids.isEmpty) l e o (Qbg (Qc o) ids (args.map (·.av (look e)))):=by
 simp only[Qy,AOp.isH,QiP,Qf6,upL];simp
def QIw(C d op l e o):Qy P K C (⟨d,none,.yy op⟩::l) e o=opK P K C d l e o (evY (look e) (Qc o) op):=Qi C d _ l e o rfl
def Qr7(P:Program)(K:World->Prop)(C:Env->Qz->Prop)(d:Option Nat)(own:Bool)(l:List Zi)(e:Env)(o:Qz):Option (List IV)->Prop
 |some (.clo g fs cs::ys)=>callee P g=true/\Qf6 P K C d g own l e o (some (fs++ys++cs))
 |_=>False
def QvI(P:Program)(K:World->Prop)(C:Env->Qz->Prop)(d:Option Nat)(own:Bool)(l:List Zi)(e:Env)(o:Qz)(xs xsc:Option (List IV)):AV->Prop
 | .iv (.fn g)=>callee P g=true/\Qf6 P K C d g own l e o xs
 |_=>Qr7 P K C d own l e o xsc
@[simp] theorem QHW(C d own l e o xs xsc g):QvI P K C d own l e o xs xsc (.iv (.fn g))=(callee P g=true/\Qf6 P K C d g own l e o xs):=rfl
@[simp] theorem QEP(C d own l e o xs xsc g fs cs):QvI P K C d own l e o xs xsc (.iv (.clo g fs cs))=Qr7 P K C d own l e o xsc:=rfl
@[simp] theorem QGD(C d own l e o xs xsc g fs cs):QvI P K C d own l e o xs xsc (.clo g fs cs)=Qr7 P K C d own l e o xsc:=rfl
@[simp] theorem QEQ(C d own l e o g fs cs ys):Qr7 P K C d own l e o (some (.clo g fs cs::ys))=(callee P g=true/\Qf6 P K C d g own l e o (some (fs++ys++cs))):=rfl
def QgW(C d x args ids l e o):
  Qy P K C (⟨d,none,.y1 x args ids⟩::l) e o=QvI P K C d (!ids.isEmpty) l e o (Qbg (Qc o) ids (args.map (·.av (look e)))) (Qbg (Qc o) ids (x.av (look e)::args.map (·.av (look e)))) (x.av (look e)):=by
 have aux:∀r,(ids=[]\/Zh r=true)↔((!ids.isEmpty)=false\/Zh r=true):=λr=>by cases ids<;>simp
 apply propext;simp only[Qy,AOp.isH,QiP];generalize x.av (look e)=xv;have clo:∀ys,ys=Qbg (Qc o) ids (xv::args.map (·.av (look e)))->((∃g fs cs xs r,callee P g=true/\ys=some (.clo g fs cs::xs)/\Good P K g (fs++xs++cs) r/\(ids=[]\/Zh r=true)/\Qy P K C l (bnd d (.iv r) e) (upL none o))↔Qr7 P K C d (!ids.isEmpty) l e o ys):=by
  intro ys _;constructor
  .rintro⟨g,fs,cs,xs,r,h1,rfl,h3,h4,h5⟩;exact⟨h1,_,r,rfl,h3,(aux r).1 h4,h5⟩
  intro h;cases ys with
  |none=>exact h.elim
  |some us=>
   cases us with
   |nil=>exact h.elim
   |cons z xs=>
    cases z with
    |clo g fs cs=>have⟨h1,zs,r,h2,h3,h4,h5⟩:=h;injection h2 with h2;subst h2;exact⟨g,fs,cs,xs,r,h1,rfl,h3,(aux r).2 h4,h5⟩
    |_=>exact h.elim
 have fn:∀g,xv=.iv (.fn g)->((∃xs r,callee P g=true/\Qbg (Qc o) ids (args.map (·.av (look e)))=some xs/\Good P K g xs r/\(ids=[]\/Zh r=true)/\Qy P K C l (bnd d (.iv r) e) (upL none o))↔(callee P g=true/\Qf6 P K C d g (!ids.isEmpty) l e o (Qbg (Qc o) ids (args.map (·.av (look e)))))):=by
  intro g _;constructor
  .rintro⟨xs,r,h1,h2,h3,h4,h5⟩;exact⟨h1,xs,r,h2,h3,(aux r).1 h4,h5⟩
  rintro⟨h1,xs,r,h2,h3,h4,h5⟩;exact⟨xs,r,h1,h2,h3,(aux r).2 h4,h5⟩
 cases xv with
 |iv x=>
  cases x with
  |fn g=>exact fn g rfl
  |_=>exact clo _ rfl
 |_=>exact clo _ rfl
def QGE(P:Program)(K:World->Prop)(C:Env->Qz->Prop)(d:Option Nat)(id:Nat)(l:List Zi)(e:Env)(o:Qz)(x:AV)(ob:Option AO)(xs:Option (List IV)):Prop:=∃ys s s' y,x=.cb id/\ob=some (.ext s)/\xs=some ys/\VS P K s ys y s'/\Zh y=true/\Qy P K C l (bnd d (.iv y) e) (Yu id (.ext s') o)
def QGB(P:Program)(K:World->Prop)(C:Env->Qz->Prop)(d:Option Nat)(g:FuncId)(id:Nat)(l:List Zi)(e:Env)(o:Qz)(x:Option AV)(ob:Option AO)(xs:Option (List IV)):Prop:=∃ys s s' y,x=some (.cb id)/\ob=some (.ext s)/\xs=some ys/\QoQ P K g ys [] s y s'/\Zh y=true/\Qy P K C l (bnd d (.iv y) e) (Yu id (.ext s') o)
def QgX(C d x args id l e o):Qy P K C (⟨d,none,.yw x args id⟩::l) e o=QGE P K C d id l e o (x.av (look e)) (Qc o id) (ivs (args.map (·.av (look e)))):=rfl
def QgS(C d g args id l e o):Qy P K C (⟨d,none,.yu g args id⟩::l) e o=QGB P K C d g id l e o ((args.getLast?).map (·.av (look e))) (Qc o id) (ivs (args.dropLast.map (·.av (look e)))):=rfl
def Zd{C d id l e o ys s s' y}(hg:VS P K s ys y s')(hy:Zh y=true)(h:Qy P K C l (bnd d (.iv y) e) (Yu id (.ext s') o)):QGE P K C d id l e o (.cb id) (some (.ext s)) (some ys):=⟨ys,s,s',y,rfl,rfl,rfl,hg,hy,h⟩
def ZQ{C d g id l e o ys s s' y}(hg:QoQ P K g ys [] s y s')(hy:Zh y=true)(h:Qy P K C l (bnd d (.iv y) e) (Yu id (.ext s') o)):QGB P K C d g id l e o (some (.cb id)) (some (.ext s)) (some ys):=⟨ys,s,s',y,rfl,rfl,rfl,hg,hy,h⟩
def Qif(P:Program)(K:World->Prop)(C:Env->Qz->Prop)(d:Option Nat)(g:FuncId)(id:Nat)(l:List Zi)(e:Env)(o:Qz)(xs:Option (List IV))(x:AV)(ob:Option AO):Prop:=QHx P K g id (λv up=>Qy P K C l (bnd d v e) (upL up o)) xs x ob
def QgT(C:Env->Qz->Prop)(d:Option Nat)(g:FuncId)(x:Opd)(args:List Opd)(id:Nat)(l:List Zi)(e:Env)(o:Qz):Qy P K C (⟨d,none,.yx g x args id⟩::l) e o=Qif P K C d g id l e o (ivs (args.map (·.av (look e)))) (x.av (look e)) (Qc o id):=rfl
def Qr6{C:Env->Qz->Prop}{d:Option Nat}{g:FuncId}{id mv:Nat}{t:TypeId}{sz:Nat}{l:List Zi}{e:Env}{o:Qz}{ys:List IV}{rows rows':List (List IV)}(hg:QaG P K g t sz rows ys rows')
  (h:Qy P K C l (bnd d (.yl id rows'.length) e) (Yu id (.arr t sz (rows'.map (List.map AV.iv)) rows'.length) o)):Qif P K C d g id l e o (some ys) (.yl id rows.length) (some (.arr t sz (rows.map (List.map AV.iv)) mv)):=
 ⟨ys,rows,rows',rfl,rfl,qj _,by simp,hg,h⟩
def Qr4{C:Env->Qz->Prop}{d:Option Nat}{g:FuncId}{id:Nat}{t:TypeId}{sz:Nat}{l:List Zi}{e:Env}{o:Qz}{ys:List IV}{kvs:List (MK×List (List IV))}{k:MK}{n:Nat}{rows':List (List IV)}(hn:((Qv k kvs).getD []).length=n)(hg:QaG P K g t sz ((Qv k kvs).getD []) ys rows')
  (h:Qy P K C l (bnd d (.yn id k rows'.length) e) (Yu id (.yo t sz (zn k rows' kvs) (some k)) o)):Qif P K C d g id l e o (some ys) (.yn id k n) (some (.yo t sz kvs none)):=
 ⟨ys,rows',rfl,rfl,hn,hg,h⟩
def QgU(C d g args ids id l e o):Qy P K C (⟨d,none,.y2 g args ids id⟩::l) e o=QGC P K C d g id ids l e o (ivs (args.map (·.av (look e)))):=rfl
def Yt{C d g id l e o ys q t sz rows mv}(hg:QdU P K g ys q t sz rows mv)(hid:Qc o id=none)
  (h:Qy P K C l (bnd d (ren id q) e) (Yu id (.arr t sz (rows.map (List.map AV.iv)) mv) o)):QGC P K C d g id [] l e o (some ys):=⟨ys,q,t,sz,rows,mv,rfl,rfl,hg,hid,h⟩
def QgR(C d t b op l e o):Qy P K C (⟨d,some (t,b),op⟩::l) e o=gK P K C d t b op l e o (look e t):=by
 simp[Qy];generalize look e t=v;cases v with
 |iv x=>
  cases x with
  |xf cs=>rfl
  |bool c=>rfl
  |_=>rfl
 |_=>rfl
def Qd{C d g own l e o ys r}(hg:Good P K g ys r)(hs:own=false\/Zh r=true)
  (h:Qy P K C l (bnd d (.iv r) e) o):Qf6 P K C d g own l e o (some ys):=⟨ys,r,rfl,hg,hs,h⟩
def cK{C d g l e o ys r}(hg:Good P K g ys r)
  (h:Qy P K C l (bnd d (.iv r) e) o):Qf6 P K C d g false l e o (some ys):=⟨ys,r,rfl,hg,.inl rfl,h⟩
def QEw(k e o):WpF P K F (.code .skip::k) e o↔WpF P K F k e o:=
 ⟨λh=>by cases h;assumption,.skip _ k e o⟩
def QHn(x y k e o):WpF P K F (.code (.seq x y)::k) e o↔WpF P K F (.code x::.code y::k) e o:=⟨λh=>by cases h;assumption,.seq _ x y k e o⟩
def QHp(l draw k e o):WpF P K F (.code (.ops l draw)::k) e o↔Qy P K (WpF P K F k) l e o:=⟨λh=>by cases h with|region _ _ _ _ _ _ C h hC=>exact XD hC l e o h,λh=>.region _ l _ k e o _ h λ_ _ h=>h⟩
def QEz(c x y k e o):WpF P K F (.code (.cond c x y)::k) e o↔Qkd (WpF P K F (.code x::k) e o) (WpF P K F (.code y::k) e o) (c.av (look e)):=by
 constructor
 .intro h;cases h with
  |cond _ _ _ _ _ _ _ b hc ht hf=>rw[hc];exact⟨ht,hf⟩
 intro h;unfold Qkd at h;split at h
 .rename_i b hb;exact .cond _ c x y k e o b hb h.1 h.2
 exact h.elim
def Qwp(id c k e o):WpF P K F (.code (.block id c)::k) e o↔WpF P K F (.code c::.inBlock id::k) e o:=⟨λh=>by cases h;assumption,.block _ _ c k e o⟩
def QoP(id k e o):WpF P K F (.inBlock id::k) e o↔WpF P K F k e o:=⟨λh=>by cases h;assumption,.inBlock _ _ k e o⟩
def Qwn(c k e o):WpF P K F (.code (.scope c)::k) e o↔WpF P K F (.code c::.inScope::k) e o:=
 ⟨λh=>by cases h;assumption,.scope _ c k e o⟩
def QoO(k e o):WpF P K F (.inScope::k) e o↔WpF P K F k e o:=
 ⟨λh=>by cases h;assumption,.inScope _ k e o⟩
def Qwo(l k e o):WpF P K F (.code (.label l)::k) e o↔WpF P K F k e o:=⟨λh=>by cases h;assumption,.label _ l k e o⟩
def QHo(k e o):WpF P K F (.code .ret::k) e o↔F .ret e o:=
 ⟨λh=>by cases h;assumption,.ret _ k e o⟩
def QHr(e o):WpF P K F [] e o↔F .fall e o:=⟨λh=>by cases h;assumption,.done _ e o⟩
def QIA(P:Program)(K:World->Prop)(F:Way->Env->Qz->Prop)(d dx id:Nat)(k:List AI)(e:Env)(o:Qz):AV->Option AO->Prop
 | .yk i,some (.yq kvs seen)=>i=id/\((∀i,i<kvs.length->i∈seen)->WpF P K F k ((dx,.iv (.bool false))::(d,.iv (.xf [.bool false]))::e) o) /\
   (∀i q,kvs[i]?=some q->i∉seen->WpF P K F k ((dx,.iv (.bool true))::(d,.iv (.xf [.bool true,q.1.iv,q.2]))::e) (Yu id (.yq kvs (i::seen)) o))
 |_,_=>False
@[simp] theorem QFt(d dx id k e o i kvs seen):QIA P K F d dx id k e o (.yk i) (some (.yq kvs seen)) =(i=id/\((∀i,i<kvs.length->i∈seen)->WpF P K F k ((dx,.iv (.bool false))::(d,.iv (.xf [.bool false]))::e) o) /\(∀i q,kvs[i]?=some q->i∉seen->WpF P K F k ((dx,.iv (.bool true))::(d,.iv (.xf [.bool true,q.1.iv,q.2]))::e) (Yu id (.yq kvs (i::seen)) o))):=rfl
def QHq(d dx x id k e o):WpF P K F (.code (.nxt d dx x id)::k) e o↔QIA P K F d dx id k e o (x.av (look e)) (Qc o id):=by
 constructor
 .intro h;cases h with
  |nxt _ _ _ _ _ _ _ _ kvs seen hx ho hend hmore=>rw[hx,ho];exact⟨rfl,hend,hmore⟩
 .intro h;generalize hx:x.av _=xv at h;generalize ho:Qc o _=ov at h;unfold QIA at h;split at h
  .obtain⟨rfl,h1,h2⟩:=h;exact .nxt _ d _ x _ k e o _ _ hx ho h1 h2
  .exact h.elim
def ghK(P:Program)(K:World->Prop)(F:Way->Env->Qz->Prop)(id bid off:Nat)(t:TypeId)(sz:Nat)(c:AC)(k:List AI)(e:Env)(o:Qz):Option AO->Option AO->Prop
 |none,some (.box cs)=>cs[off]?=some (.ym sz)/\WpF P K F (.code c::k) e (Yu bid (.box (cs.set off (.yl id 0))) (Yu id (.arr t sz [] 0) o))
 |_,_=>False
@[simp] theorem QIM(id bid off t sz c k e o cs):ghK P K F id bid off t sz c k e o none (some (.box cs)) =(cs[off]?=some (.ym sz)/\WpF P K F (.code c::k) e (Yu bid (.box (cs.set off (.yl id 0))) (Yu id (.arr t sz [] 0) o))):=rfl
def QJr(id bid off t sz c k e o):WpF P K F (.code (.gh id bid off t sz c)::k) e o↔ghK P K F id bid off t sz c k e o (Qc o id) (Qc o bid):=by
 constructor
 .intro h;cases h with
  |gh _ _ _ _ _ _ _ _ _ _ cs hid hb hc h=>rw[hid,hb];exact⟨hc,h⟩
 .intro h;generalize hx:Qc o _=xv at h;generalize ho:Qc o _=ov at h;unfold ghK at h;split at h
  .exact .gh _ _ _ _ t _ c k e o _ hx ho h.1 h.2
  .exact h.elim
def QuL(P:Program)(K:World->Prop)(F:Way->Env->Qz->Prop)(id:Nat)(e:Env)(o:Qz):Option (List AI)->Prop
 |some k=>WpF P K F k e o
 |none=>F (.exit id) e o
@[simp] theorem QEJ(id k e o):QuL P K F id e o (some k)=WpF P K F k e o:=rfl
@[simp] theorem QEK(id e o):QuL P K F id e o none=F (.exit id) e o:=rfl
def QEy(id k e o):WpF P K F (.code (.exit id)::k) e o↔QuL P K F id e o (Uu id k):=by
 constructor
 .intro h;cases h with
  |exit _ _ _ k' _ _ hk h=>rw[hk];exact h
  |exitOut _ _ _ _ _ hk h=>rw[hk];exact h
 .intro h;unfold QuL at h;split at h
  .rename_i k' hk;exact .exit _ _ k _ e o hk h
  .rename_i hk;exact .exitOut _ _ k e o hk h
def QIO(P:Program)(K:World->Prop)(F:Way->Env->Qz->Prop)(t id:Nat)(ks ids:List Nat)(c:AC)(k:List AI)(e:Env)(o:Qz):AV->Option AO->Prop
 | .loc i 0,some (.box cs)=>i=id/\ids.contains id=false/\∃xs,ivs cs=some xs/\WpF P K F (.code c::k) ((t,.iv (.ptr xs))::ZN ks ids e) (XU ids o ids)
 |_,_=>False
@[simp] theorem QHI(t id ks ids c k e o i cs):QIO P K F t id ks ids c k e o (.loc i 0) (some (.box cs)) =(i=id/\ids.contains id=false/\∃xs,ivs cs=some xs/\WpF P K F (.code c::k) ((t,.iv (.ptr xs))::ZN ks ids e) (XU ids o ids)):=rfl
def Qiq(t id ks ids c k e o)(h:QIO P K F t id ks ids c k e o (look e t) (Qc o id)):WpF P K F (.code (.frz t id ks ids c)::k) e o:=by
 generalize hx:look e t=xv at h;generalize ho:Qc o _=ov at h;unfold QIO at h;split at h
 .obtain⟨rfl,h1,xs,h2,h3⟩:=h;exact .frz _ t _ _ _ c k e o _ _ hx ho h2 h1 h3
 .exact h.elim
def QJs(ks ids c k e o):WpF P K F (.code (.fz ks ids c)::k) e o↔WpF P K F (.code c::k) (Qwy (QtT ids o) ks ids e) (qU (QtT ids o) ids o ids):=⟨λh=>by cases h;assumption,λh=>.fz _ _ _ c k e o h⟩
def QxC(lod ids x):Qtx lod ids (.iv x)=.iv x:=by simp[Qtx,imm]
theorem QiG(lod:Nat->Option AO)(ids:List Nat):∀xs:List IV,Qpa lod ids (xs.map AV.iv)=xs.map AV.iv
 |[]=>rfl
 |x::r=>by simp[Qpa,QxC,QiG _ _ r]
theorem Qmk(lod:Nat->Option AO)(ids:List Nat):∀xs:List (List IV),(xs.map (List.map AV.iv)).map (Qpa lod ids)=xs.map (List.map AV.iv)
 |[]=>rfl
 |x::r=>by have:=Qmk lod ids r;simp[QOk,QiG,this]
def QJG(P:Program)(K:World->Prop)(C:Env->Qz->Prop)(d:Option Nat)(id:Nat)(l:List Zi)(e:Env)(o:Qz)(x y:AV)(ob:Option AO):Prop:=QHT id (λv up=>Qy P K C l (bnd d v e) (upL up o)) x y ob
def QnY(C d id x y l e o):Qy P K C (⟨d,none,.cpy id x y⟩::l) e o=QJG P K C d id l e o (x.av (look e)) (y.av (look e)) (Qc o id):=rfl
def QAX{C d id l e o n mv t es rows ys}(hr:Qhx es=some rows)(hn:n=es.length)(hl:ys.length=n)
  (h:Qy P K C l (bnd d (.iv (.int .i64 n)) e) (Yu id (.arr t 1 (ys.map (List.map AV.iv)) ys.length) o)):QJG P K C d id l e o (.yl id n) (.iv (.sl 1 ys)) (some (.arr t 1 es mv)):=
 ⟨rfl,hn,⟨rows,hr⟩,rfl,rfl,hl,h⟩
def QgV(C d g args ids l e o):Qy P K C (⟨d,none,.yz g args ids⟩::l) e o=HK P K g ids d (Qy P K C l) e o (args.map (·.av (look e))):=rfl
def QgY(C d x args ids l e o):Qy P K C (⟨d,none,.y3 x args ids⟩::l) e o=QeM P K ids d (Qy P K C l) e o (args.map (·.av (look e))) (x.av (look e)):=rfl
def Qdi{ids d C e o avs x g fs cs}(hx:QrY x=some (g,fs,cs)):QeM P K ids d C e o avs x=(callee P g=true/\HK P K g ids d C e o (fs++avs++cs)):=by
 apply propext;constructor
 .rintro⟨g',fs',cs',h1,h2,h3⟩;grind
 rintro⟨h2,h3⟩;exact⟨g,fs,cs,hx,h2,h3⟩
@[simp] theorem QER(ids d C e o avs g fs cs):QeM P K ids d C e o avs (.clo g fs cs)=(callee P g=true/\HK P K g ids d C e o (fs++avs++cs)):=Qdi rfl
@[simp] theorem QA8(ids d C e o avs g fs cs):QeM P K ids d C e o avs (.iv (.clo g fs cs))=(callee P g=true/\HK P K g ids d C e o (fs.map AV.iv++avs++cs.map AV.iv)):=Qdi rfl
@[simp] theorem QGF(ids d C e o avs g):QeM P K ids d C e o avs (.iv (.fn g))=(callee P g=true/\HK P K g ids d C e o avs):=by rw[Qdi rfl];simp
def Qo{C g ids d e o avs args0 o0 o1 st y}(hg:Y0 P K g args0 o0 st y o1)(h1:avs=args0.map (rn (nth ids)))(h2:HOk ids args0 o o0 o1)
  (h:C (bnd d (rn (nth ids) y) (Qpi (X2 ids st o) e)) (QtQ ids (X2 ids st o) o o1)):HK P K g ids d C e o avs:=⟨args0,o0,st,y,o1,h1,h2,hg,h⟩
theorem QaX(m:Nat->Nat):∀xs:List IV,rnL m (xs.map AV.iv)=xs.map AV.iv
 |[]=>rfl
 |x::r=>by simp[rnL,rn,QaX m r]
theorem Qch(m:Nat->Nat):∀xs:List (List IV),(xs.map (List.map AV.iv)).map (rnL m)=xs.map (List.map AV.iv)
 |[]=>rfl
 |x::r=>by simp[QaX,Qch m r]
theorem Qdf(dom:List Nat):∀xs:List IV,clAL dom (xs.map AV.iv)=true
 |[]=>rfl
 |x::r=>by simp[clAL,clA,Qdf _ r]
theorem Qf5(dom:List Nat):∀xs:List (List IV),(xs.map (List.map AV.iv)).all (clAL dom)=true
 |[]=>rfl
 |x::r=>by simp[Qdf,Qf5 _ r]
@[simp] theorem Qpv(m:Nat->Nat)(e:TypeId)(sz:Nat)(xs:List (List IV))(mv:Nat):rnO m (.arr e sz (xs.map (List.map AV.iv)) mv)=.arr e sz (xs.map (List.map AV.iv)) mv:=by simp only[rnO,Qch]
@[simp] theorem Qr0(dom:List Nat)(e:TypeId)(sz:Nat)(xs:List (List IV))(mv:Nat):clO dom (.arr e sz (xs.map (List.map AV.iv)) mv)=true:=by simp only[clO,Qf5]
@[simp] theorem QHy(m:Nat->Nat)(e:TypeId)(sz:Nat)(xs:List (List IV))(mv:Nat):rnO m (ZG e sz xs mv)=ZG e sz xs mv:=Qpv m e _ _ _
@[simp] theorem QHV(dom:List Nat)(e:TypeId)(sz:Nat)(xs:List (List IV))(mv:Nat):clO dom (ZG e sz xs mv)=true:=Qr0 _ e _ _ _
@[simp] theorem QHE(x r):nth (x::r) 0=x:=rfl
@[simp] theorem QHF(x r i):nth (x::r) (i+1)=nth r i:=by simp[nth]
@[simp] theorem QIC(x y r):nth (x::y::r) 1=y:=rfl
@[simp] theorem QIB(x y z r):nth (x::y::z::r) 2=z:=rfl
@[simp] theorem QFu(x y z u r):nth (x::y::z::u::r) 3=u:=rfl
def QEx(c ks ids k e o):WpF P K F (.code (.loop c ks ids)::k) e o↔WpF P K F (.inLoop c ks ids::k) e o:=⟨λh=>by cases h;exact .inLoop _ _ _ _ _ _ _ (by assumption),λh=>by cases h;exact .loop _ _ _ _ _ _ _ (by assumption)⟩
def QdR(c ks ids k e o):WpF P K F (.inLoop c ks ids::k) e o↔WpF P K F (.code c::.inLoop c ks ids::k) (ZN ks ids e) (XU ids o ids):=⟨λh=>by cases h;assumption,λh=>.inLoop _ _ _ _ _ _ _ h⟩
def XJ(P:Program)(K:World->Prop)(F:Way->Env->Qz->Prop)(c:AC)(ks ids:List Nat)(k:List AI)(e:Env)(o:Qz):Prop:=WpF P K F (.code c::.inLoop c ks ids::k) e o
def Qwq(res r e o):QdT res r e o=(QED res e o=some r):=rfl
def Qta(c ks ids k e o):WpF P K F (.inLoop c ks ids::k) e o↔XJ P K F c ks ids k (ZN ks ids e) (XU ids o ids):=QdR c _ _ k e o
def Zz{c:AC}{ks ids:List Nat}{k:List AI}(st:Nat->Env)(so:Nat->Qz)(n:Nat)(hn:XJ P K F c ks ids k (st n) (so n))
  (hs:∀i,i<n->XJ P K F c ks ids k (st (i+1)) (so (i+1))->XJ P K F c ks ids k (st i) (so i)):XJ P K F c ks ids k (st 0) (so 0):=by
 have:∀m,m<=n->XJ P K F c ks ids k (st (n-m)) (so (n-m)):=by
  intro m;induction m with
  |_=>grind
 have:=this n (QN3 _);simpa using this
end
attribute [simp] QE4 QxE QxD QFe QE3 QFj  QFf  QFk QFc QxF QFd QE8 QE7 QE0 QFb QFa QE9 QE2 QE1 QxI QxH QFm QFi QFh QFg QE6 QxG QE5 QFl QIw
@[simp] theorem QIo(F e o):FnF F .fall e o=F e o:=rfl
@[simp] theorem QJt(F e o):FnF F .ret e o=F e o:=rfl
@[simp] theorem QIp(F id e o):FnF F (.exit id) e o=False:=rfl
attribute [simp] Qwq QnX QiO QgU QgW QgT QgX QgS QgV QgY QnY QgR QHq QJr QJs QEw QHn Qwn QoO Qwo QHp QEz Qwp QoP QHo QHr QEy QEx Qta
attribute [simp] look Qc bnd QbB Yu upL ev Opd.av Qh4 QoB Qrr Qry QuS QGr Qrx QGq Qrz Qrw Qh5 QoA Qf0 Qoy Qov Qrv Qoz Qru Qox Qow Qh6 QeH Qrt QeG Qrs WG evY QHK Jy keyOf MK.iv MK.kind
attribute [simp] QtT Qtx Qpa Qwy qU QEC X2 Qpi QiZ QtQ HOk U9 rn rnL rnO clA clAL clO Zt Qdp
attribute [simp] AV.iv? ivs Qcx AV.cells Qj6 XE Qhx byteOf bytesOf Jf Qx5 Uu ZN XU scr scrL Qgt QHz Qn5 QED imm imms immss JL Qbg Zh scalars ren renL QtG QNm
section
variable{P:Program}{K:World->Prop}{F:Way->Env->Qz->Prop}
def Qe{c:AC}{ks ids:List Nat}{k:List AI}(st:Nat->Env)(so:Nat->Qz)(n:Nat)(Q:Nat->Prop)(h0:Q 0)
  (hn:Q n->XJ P K F c ks ids k (st n) (so n))
  (hs:∀i,i<n->Q i->(Q (i+1)->XJ P K F c ks ids k (st (i+1)) (so (i+1)))->XJ P K F c ks ids k (st i) (so i)):XJ P K F c ks ids k (st 0) (so 0):=by
 have:∀m,m<=n->Q (n-m)->XJ P K F c ks ids k (st (n-m)) (so (n-m)):=by
  intro m;induction m with
  |_=>grind
 have:=this n (QN3 _);simp at this;exact this h0
def YU{c:AC}{ks ids:List Nat}{k:List AI}(n:Nat)(I:Nat->Env->Qz->Prop)
  (hn:∀e o,I n e o->XJ P K F c ks ids k e o)
  (hs:∀i e o,i<n->I i e o->(∀e' o',I (i+1) e' o'->XJ P K F c ks ids k e' o')->XJ P K F c ks ids k e o)
  (e:Env)(o:Qz)(h0:I 0 e o):XJ P K F c ks ids k e o:=by
 have:∀m,m<=n->∀e o,I (n-m) e o->XJ P K F c ks ids k e o:=by
  intro m;induction m with
  |_=>grind
 exact this n (QN3 _) e o (by simpa using h0)
end
section
variable{P:Program}{K:World->Prop}{F:Way->Env->Qz->Prop}
def QpV{c:AC}{ks ids:List Nat}{k:List AI}(st:List Nat->Env)(so:List Nat->Qz)(n:Nat)(I:List Nat->Prop)
  (h:∀seen,I seen->(∀i,i<n->i∉seen->I (i::seen)->XJ P K F c ks ids k (st (i::seen)) (so (i::seen)))->XJ P K F c ks ids k (st seen) (so seen)):
  ∀seen,I seen->XJ P K F c ks ids k (st seen) (so seen):=by
 have:∀m seen,((List.range n).filter (λi=>!seen.contains i)).length<=m->I seen->XJ P K F c ks ids k (st seen) (so seen):=by
  intro m;induction m with
  |zero=>
   intro seen hm hI;refine h seen hI λi hi hns _=>?_;have:i∈(List.range n).filter (λi=>!seen.contains i):=by simp[hi,hns]
   grind
  |succ m ih=>
   intro seen hm hI;refine h seen hI λi hi hns hI'=>ih (i::seen) ?_ hI';have hsub:((List.range n).filter (λj=>!(i::seen).contains j))=((List.range n).filter (λj=>!seen.contains j)).filter (λj=>j != i):=by
    rw[List.filter_filter]
    grind
   rw[hsub];have hmem:i∈(List.range n).filter (λi=>!seen.contains i):=by simp[hi,hns]
   have:=(List.length_filter_lt_length_iff_exists (p:=λj=>j != i)).2 ⟨i,hmem,by simp⟩;omega
 exact λseen hI=>this _ seen (QN3 _) hI
end
section
variable{P:Program}{K:World->Prop}{F:Way->Env->Qz->Prop}
def Qa{c c'}(h:c=c')(ks ids k e o):XJ P K F c ks ids k e o↔WpF P K F (.code c'::.inLoop c ks ids::k) e o:=by subst h;exact Iff.rfl
end
@[simp] theorem QII(n):IntKind.inR .i64 n↔-9223372036854775808<=n/\n<=9223372036854775807:=Iff.rfl
@[simp] theorem QIH(n):IntKind.inR .u64 n↔0<=n/\n<=18446744073709551615:=Iff.rfl
@[simp] theorem QJD(n):IntKind.inR .u8 n↔0<=n/\n<=255:=Iff.rfl
@[simp] theorem QIJ(n):IntKind.inR .i32 n↔-2147483648<=n/\n<=2147483647:=Iff.rfl
def Qel:maxLen=9223372036854775807:=rfl
def wrap_i64{n}(h: -9223372036854775808<=n)(h':n<=9223372036854775807):IntKind.wrap .i64 n=n:=by unfold IntKind.wrap;simp[IntKind.bits,IntKind.signed];omega
def QeX{n}(h:0<=n)(h':n<=18446744073709551615):IntKind.wrap .u64 n=n:=by unfold IntKind.wrap;simp[IntKind.bits,IntKind.signed];omega
def QeW{n}(h:0<=n)(h':n<=255):IntKind.wrap .u8 n=n:=by unfold IntKind.wrap;simp[IntKind.bits,IntKind.signed];omega
def QxN(k:IntKind)(hk:k.bits=64)(a i:Nat)(ha:a<2 ^ 64):QwA k (a:Int) (i:Int)=((a >>> i:Nat):Int):=by
 unfold QwA;rw[hk];have:((i:Int)).toNat=i:=rfl;rw[this];have e:(2 ^ (min i 64):Int)=((2 ^ (min i 64):Nat):Int):=by push_cast;rfl
 rw[e,Int.fdiv_eq_ediv_of_nonneg _ (QPJ _),<- Int.natCast_ediv,Nat.shiftRight_eq_div_pow];by_cases h:i<=64
 .rw[QPK h]
 .rw[Nat.min_eq_right (by omega),Nat.div_eq_of_lt ha,Nat.div_eq_of_lt]
  exact QOM ha (QOV (by omega) (by omega))
def QiK(a i:Nat)(hi:i<64)(ha:a*2 ^ i<2 ^ 64):QxP .u64 (a:Int) (i:Int)=((a*2 ^ i:Nat):Int):=by
 unfold QxP;have:((i:Int)).toNat=i:=rfl;rw[this,show(IntKind.u64).bits=64 from rfl,QPK (by omega)];have e:(a:Int)*(2 ^ i:Int)=((a*2 ^ i:Nat):Int):=by push_cast;rfl
 rw[e];exact QeX (QPJ _) (by omega)
def Yb(a:Nat)(ha:a<2 ^ 64):(BitVec.ofInt 64 (a:Int)).toNat=a:=by simp;omega
def Qs3(a b:Nat)(ha:a<2 ^ 64)(hb:b<2 ^ 64):QaC .and .u64 (a:Int) (b:Int)=((a &&& b:Nat):Int):=by
 show IntKind.wrap .u64 ((BitVec.ofInt 64 (a:Int) &&& BitVec.ofInt 64 (b:Int)).toNat:Int)=_;rw[BitVec.toNat_and,Yb a (by omega),Yb b (by omega)]
 have:a &&& b<2 ^ 64:=Nat.and_lt_two_pow _ hb;exact QeX (QPJ _) (by omega)
def QmC(a b:Nat)(ha:a<2 ^ 64)(hb:b<2 ^ 64):QaC .or .u64 (a:Int) (b:Int)=((a ||| b:Nat):Int):=by
 show IntKind.wrap .u64 ((BitVec.ofInt 64 (a:Int) ||| BitVec.ofInt 64 (b:Int)).toNat:Int)=_;rw[BitVec.toNat_or,Yb a (by omega),Yb b (by omega)]
 have:a ||| b<2 ^ 64:=QPB ha hb;exact QeX (QPJ _) (by omega)
def QEu(a b:Nat)(ha:a<2 ^ 63)(hb:b<2 ^ 63):QaC .and .i64 (a:Int) (b:Int)=((a &&& b:Nat):Int):=by
 show IntKind.wrap .i64 ((BitVec.ofInt 64 (a:Int) &&& BitVec.ofInt 64 (b:Int)).toNat:Int)=_;rw[BitVec.toNat_and,Yb a (by omega),Yb b (by omega)]
 have:a &&& b<2 ^ 63:=Nat.and_lt_two_pow _ hb;exact wrap_i64 (by omega) (by omega)
def and_one(a i):(a >>> i) &&& 1=(a.testBit i).toNat:=by rw[Nat.testBit,Nat.and_comm];have h:=Nat.one_and_eq_mod_two (a >>> i);rw[h];rcases Nat.mod_two_eq_zero_or_one (a >>> i) with e|e<;>simp[e]
def QEt(a i:Nat)(ha:a<2 ^ 63):QaC .and .i64 (QwA .i64 (a:Int) (i:Int)) 1=((a.testBit i).toNat:Int):=by
 rw[QxN _ rfl a i (by omega)]
 have h:a >>> i<2 ^ 63:=QPH (by rw[Nat.shiftRight_eq_div_pow];exact Nat.div_le_self _ _) ha;have:=QEu (a >>> i) 1 h (by omega);rw[and_one] at this;simpa using this
def emb(L:List (List IV)):List (List AV):=L.map (List.map AV.iv)
@[simp] theorem QEL(L):(emb L).length=L.length:=by simp[emb]
@[simp] theorem QHR(L a):emb L++[[.iv a]]=emb (L++[[a]]):=by simp[emb]
@[simp] theorem QHQ(L a b):emb L++[[.iv a,.iv b]]=emb (L++[[a,b]]):=by simp[emb]
@[simp] theorem QHP(L a b c):emb L++[[.iv a,.iv b,.iv c]]=emb (L++[[a,b,c]]):=by simp[emb]
@[simp] theorem QHO(L a b c d):emb L++[[.iv a,.iv b,.iv c,.iv d]]=emb (L++[[a,b,c,d]]):=by simp[emb]
@[simp] theorem QHS(L):emb L++[]=emb L:=QOl _
@[simp] theorem QHL(L n):(emb L).take n=emb (L.take n):=by simp[emb,QPQ]
@[simp] theorem QJe(L:List (List IV))(n:Nat):(emb L)[n]?=(L[n]?).map (List.map AV.iv):=by simp[emb]
@[simp] theorem QAP(L n)(h:n<(emb L).length):(emb L)[n]=(L[n]'(by simpa using h)).map AV.iv:=by simp[emb]
@[simp] theorem QHM(L n a):(emb L).set n [.iv a]=emb (L.set n [a]):=by simp[emb,List.map_set]
@[simp] theorem QFF(l):ivs (l.map AV.iv)=some l:=by
 induction l with
 |nil=>rfl
 |cons a l ih=>simp[ivs,ih,AV.iv?]
@[simp] theorem QHH(L):Qhx (emb L)=some L:=by
 induction L with
 |nil=>rfl
 |cons a l ih=>
  show(match ivs (a.map AV.iv),Qhx (emb l) with
  |some y,some ys=>some (y::ys)
  |_,_=>none)=_
  rw[ih,QFF]
def QxS(ids:List Nat)(c:List IV):scrL ids (c.map AV.iv)=c.map AV.iv:=by
 induction c with
 |nil=>rfl
 |cons a l ih=>simp[scrL,scr,ih]
@[simp] theorem QIy(ids:List Nat)(L:List (List IV)):List.map (scrL ids) (emb L)=emb L:=by simp only[emb,List.map_map];apply QO6;intro c _;exact QxS ids c
@[simp] theorem Qwx{α β}(f:α->β)(l:List α):List.take l.length (l.map f)=l.map f:=by rw[QN1];simp
def QC:emb []=[]:=rfl
section
variable{P:Program}{K:World->Prop}
def Qmt(e sz rows mv):ZG e sz rows mv=.arr e sz (emb rows) mv:=rfl
end
@[simp] theorem QIv(lod ids L):List.map (Qpa lod ids) (emb L)=emb L:=Qmk lod ids L
@[simp] theorem QaW(m L):List.map (rnL m) (emb L)=emb L:=Qch m L
@[simp] theorem QJH(dom L):(emb L).all (clAL dom)=true:=Qf5 dom L
inductive Sh where
 |bool
 |int(k:IntKind)
 |str
 |sl(bytes:Nat)(es:List Sh)
inductive Qbp:Sh->IV->Prop
 |bool(b:Bool):Qbp .bool (.bool b)
 |int(k:IntKind)(n:Int)(h1:k.min<=n)(h2:n<=k.max):Qbp (.int k) (.int k n)
 |str(s:List UInt8)(h:s.length<=reachBytes):Qbp .str (.str s)
 |sl(bytes:Nat)(es:List Sh)(rows:List (List IV))(hw:rows.length*bytes<=reachBytes)(hm:rows.length<=maxLen)(hl:∀row∈rows,row.length=es.length)
  (h:∀row∈rows,∀(j:Nat)(s:Sh)(x:IV),es[j]?=some s->row[j]?=some x->Qbp s x):Qbp (.sl bytes es) (.sl es.length rows)
def Qpf(P:Program)(g:TypeId->Option (List Sh)):List Field->Nat->Option (List Sh)
 |[],_=>some []
 |f::r,off=>match g f.type,Qpf P g r (off+P.cellsOf f.type) with
  |some a,some b=>if f.offset=off/\a.length=P.cellsOf f.type then some (a++b) else none
  |_,_=>none
def shp(P:Program):Nat->TypeId->Option (List Sh)
 |0,_=>none
 |n+1,t=>match P.underlying t with
  |some .bool=>some [.bool]
  |some (.int k)=>some [.int k]
  |some .string=>some [.str]
  |some (.slice e)=>match shp P n e with
   |some (s::r)=>if(s::r).length=P.cellsOf e then some [.sl (P.bytesOf e) (s::r)] else none
   |_=>none
  |some (.struct fs)=>match Qpf P (shp P n) fs.toList 0 with
   |some ss=>if ss.length=P.cellsOf t then some ss else none
   |none=>none
  |_=>none
inductive R3(ok:Nat->Prop)(w:World):List Sh->List IV->List Value->Prop
 |nil:R3 ok w [] [] []
 |cons(s:Sh)(x:IV)(v:Value)(ss:List Sh)(xs:List IV)(vs:List Value)(h1:Qbp s x)(h2:QZ ok w x v)(h3:v.oneCell'=true)(h:R3 ok w ss xs vs):R3 ok w (s::ss) (x::xs) (v::vs)
def R3.app{ok:Nat->Prop}{w:World}{ss ss':List Sh}{xs xs':List IV}{vs vs':List Value}(h:R3 ok w ss xs vs)(h':R3 ok w ss' xs' vs'):R3 ok w (ss++ss') (xs++xs') (vs++vs'):=by
 induction h with
 |nil=>exact h'
 |cons s x v ss xs vs h1 h2 h3 _ ih=>exact .cons s x v _ _ _ h1 h2 h3 ih
def R3.len{ok:Nat->Prop}{w:World}{ss:List Sh}{xs:List IV}{vs:List Value}(h:R3 ok w ss xs vs):xs.length=ss.length/\vs.length=ss.length:=by
 induction h with
 |nil=>exact⟨rfl,rfl⟩
 |cons s x v ss xs vs _ _ _ _ ih=>simp[ih]
def R3.get{ok:Nat->Prop}{w:World}{ss:List Sh}{xs:List IV}{vs:List Value}(h:R3 ok w ss xs vs):∀(j:Nat)(s:Sh)(x:IV)(v:Value),ss[j]?=some s->xs[j]?=some x->vs[j]?=some v->Qbp s x/\QZ ok w x v/\v.oneCell'=true:=by
 induction h with
 |_=>grind
theorem Qc5{α}:∀(len)(p:Nat->α->Prop),(∀i,i<len->∃x,p i x)->∃l:List α,l.length=len/\∀i x,l[i]?=some x->p i x
 |0,_,_=>⟨[],rfl,λi x h=>by simp at h⟩
 |n+1,p,h=>by obtain⟨l,h1,h2⟩:=Qc5 n p (λi hi=>h i (by omega));obtain⟨x,hx⟩:=h n (by omega);refine⟨l++[x],by simp[h1],λi y hy=>?_⟩;grind
def Qe1{H P t e}(hu:P.underlying t=some (.slice e)){el sp:List (DataW H)}{N}(h:∀k∈(DataW.slice el sp).weights P t,k<=N):(el.length+sp.length)*P.bytesOf e<=N/\∀d∈el,∀k∈d.weights P e,k<=N:=by
 have all:∀(l:List (DataW H))(d:DataW H),d∈l->∀k∈d.weights P e,k∈DataW.weightsAll P e l:=by
  intro l;induction l with
  |nil=>intro d h;simp at h
  |cons a l ih=>intro d hd k hk;simp only[DataW.weightsAll,QOc];grind
 refine⟨h _ (by simp[DataW.weights,hu]),λd hd k hk=>h k ?_⟩;simp only[DataW.weights,hu,QN7,QOc];exact .inr (.inl (all el d hd k hk))
section
variable{H:Type}{enc:TypeId×Value->H}{P:Program}{w:World}{base:Nat}{held:Bool}
theorem Qh2{ok:Nat->Prop}{n m:Nat}(cs:List Value)(IH:∀(t:TypeId)(cs:List Value)(d:DataW H)(ps:List MemPlace)(ss:List Sh),DataW.trod enc P w base (λ_=>true) held n t cs=some (d,ps)->shp P m t=some ss ->
   (∀k∈d.weights P t,k<=reachBytes)->∃xs,R3 ok w ss xs cs):∀(l:List Field)(ys:List (DataW H×List MemPlace))(off:Nat)(ss:List Sh),ys.length=l.length ->
  (∀(i:Nat)(f:Field),l[i]?=some f->DataW.trod enc P w base (λ_=>true) held n f.type ((cs.drop f.offset).take (P.cellsOf f.type))=ys[i]?)->Qpf P (shp P m) l off=some ss ->
  (∀k∈DataW.weightsEach P (l.map (·.type)) (ys.map (·.1)),k<=reachBytes)->∃xs,R3 ok w ss xs ((cs.drop off).take ss.length)
 |[],ys,off,ss,_,_,h,_=>by simp only[Qpf,Option.some.injEq] at h;subst h;exact⟨[],by simpa using R3.nil⟩
 |f::r,ys,off,ss,hlen,hf,h,hwt=>by
  obtain⟨y,ys',rfl⟩:∃y ys',ys=y::ys':=by
   cases ys with
   |nil=>simp at hlen
   |cons y ys'=>exact⟨y,ys',rfl⟩
  simp only[Qpf] at h;split at h
  .rename_i a b ha hb;split at h
   .rename_i hc;injection h with h;subst h;have h0:=hf 0 f rfl;simp only[List.getElem?_cons_zero] at h0;simp only[QOk,DataW.weightsEach,QOc] at hwt;have⟨xs,hxs⟩:=IH f.type _ y.1 y.2 a h0 ha (λk hk=>hwt k (.inl hk));obtain⟨xs',hxs'⟩:=Qh2 cs IH r ys' (off+P.cellsOf f.type) b (by simpa using hlen) (λi g hg=>by simpa using hf (i+1) g (by simpa using hg)) hb (λk hk=>hwt k (.inr hk));refine⟨xs++xs',?_⟩;have:=hxs.app hxs';rw[hc.1,<- hc.2] at this;rw[QOf,List.take_add,List.drop_drop];exact this
   cases h
  .cases h
theorem Qcs{ok:Nat->Prop}(hok:∀b,ok b):∀(n:Nat)(t:TypeId)(cs:List Value)(d:DataW H)(ps:List MemPlace)(m:Nat)(ss:List Sh),DataW.trod enc P w base (λ_=>true) held n t cs=some (d,ps)->shp P m t=some ss ->
  (∀k∈d.weights P t,k<=reachBytes)->∃xs,R3 ok w ss xs cs
 |0,t,cs,d,ps,m,ss,h,_,_=>by simp[DataW.trod] at h
 |n+1,t,cs,d,ps,0,ss,_,h,_=>by simp[shp] at h
 |n+1,t,cs,d,ps,m+1,ss,h,hs,hwt=>by
  simp only[shp] at hs;split at hs
  .rename_i hu;injection hs with hs;subst hs;obtain⟨b,rfl,_⟩:=DataW.trod_bool hu h;exact⟨[.bool b],.cons _ _ _ _ _ _ (.bool b) (.bool b) rfl .nil⟩
  .rename_i k hu;injection hs with hs;subst hs;obtain⟨z,rfl,_,hz⟩:=DataW.trod_int hu h;simp only[Lit.wf,QNZ,decide_eq_true_eq] at hz;exact⟨[.int k z],.cons _ _ _ _ _ _ (.int k z hz.1 hz.2) (.int k z) rfl .nil⟩
  .rename_i hu;injection hs with hs;subst hs;obtain⟨s,rfl,hd,_⟩:=DataW.trod_string hu h;injection hd with hd _;subst hd;have hl:=hwt s.data.toList.length (by simp[DataW.weights]);refine⟨[.str s.data.toList],.cons _ _ _ _ _ _ (.str _ hl) ?_ rfl .nil⟩;have:=QZ.str (ok:=ok) (w:=w) s.data.toList;simpa using this
  .rename_i e hu;split at hs
   .rename_i s0 r0 he;split at hs
    .rename_i hc;injection hs with hs;subst hs;generalize hes:s0::r0=es at *;have hpos:0<es.length:=by subst hes;simp
     rcases DataW.trod_slice hu h with ⟨rfl,_⟩|⟨a,len,cap,elems,rest,n',hn,rfl,hd,hb,hl,hm,hlen,hel,hsp,_⟩
     .exact⟨[.sl es.length []],.cons _ _ _ _ _ _ (.sl _ es [] (by simp[reachBytes]) (by simp) (by simp) (by simp)) (.nils _) rfl .nil⟩
     injection hn with hn;subst hn;injection hd with hd _;subst hd;have⟨hw1,hw2⟩:=Qe1 hu hwt;simp only[QN9] at hw1;have each:∀i,i<len->∃row,∃ci,w.cells? base (a.add (i*es.length)) es.length=some ci/\R3 ok w es row ci:=by intro i hi;have h1:=hel i hi;rw[QNX (by omega),Option.bind_eq_some_iff] at h1;have⟨ci,h2,h3⟩:=h1;obtain⟨xs,hx⟩:=Qcs hok n e ci elems[i].1 elems[i].2 m es h3 he (hw2 _ (by simp;exact⟨_,QN0 (by omega)⟩));exact⟨xs,ci,by rw[hc];exact h2,hx⟩
     have⟨rows,hrl,hrows⟩:=Qc5 len _ each;have fit:Qbp (.sl (P.bytesOf e) es) (.sl es.length rows):=by
      refine .sl _ es rows ?_ (by omega) (λrow hr=>?_) (λrow hr j s x hs hx=>?_)
      .grind
      .obtain⟨i,hi⟩:=QOF hr;have⟨ci,_,h3⟩:=hrows i row hi;exact h3.len.1
      have⟨i,hi⟩:=QOF hr;have⟨ci,_,h3⟩:=hrows i row hi;have hj:=(QNY.1 hs).1;have hcl:=h3.len.2;have hjc:j<ci.length:=by omega
      exact(h3.get j s x ci[j] hs hx (QNX hjc)).1
     refine⟨[.sl es.length rows],.cons _ _ _ _ _ _ fit ?_ rfl .nil⟩;by_cases hcap:cap=0
     .have h0:len=0:=by omega
      subst hcap h0;have:rows=[]:=QN4 hrl;subst this;exact .nilz _ a
     have hspot:a.spot=none:=by
      have first:∃c0,w.cells? base (a.add (0*P.cellsOf e)) (P.cellsOf e)=some c0:=by
       by_cases h0:0<len
       .grind
       have⟨h1,h2⟩:=hsp rfl;have h3:=h2 0 (by omega);rw[QNX (by omega),Option.bind_eq_some_iff] at h3;grind
      have⟨c0,h0⟩:=first
      have⟨_,hl0,hc0⟩:=World.cells?_some h0;have h1:=hc0 0 (by omega);rw[QNX (by omega)] at h1;have h2:=World.cell?_spot h1;have⟨b,off,sp⟩:=a;cases sp with
      |none=>rfl
      |some sp=>simp[Addr.add] at h2
     have⟨b,off,sp⟩:=a;simp only at hspot;subst hspot;have cellAt:∀i j row ci,rows[i]?=some row->w.cells? base (Addr.add ⟨b,off,none⟩ (i*es.length)) es.length=some ci->j<es.length->w.cell? ⟨b,off+(i*es.length+j),none⟩=ci[j]?:=by intro i j row ci _ hci hj;have⟨_,hl0,hc0⟩:=World.cells?_some hci;have:=hc0 j hj;rw[addr_add,addr_add,QPa] at this;exact this
     have key:∀i j,i<len->j<es.length->∃row ci,rows[i]?=some row/\R3 ok w es row ci/\w.cell? ⟨b,off+(i*es.length+j),none⟩=ci[j]?:=by grind
     have hrep:=QZ.sl (ok:=ok) (w:=w) es.length rows b off cap (λk=>(w.cell? ⟨b,off+k,none⟩).getD undef) (by omega) hm (λc hc=>by have⟨i,hi⟩:=QOF hc;have⟨ci,_,h3⟩:=hrows i c hi;exact h3.len.1) (λk hk=>?_) (λi j c x hi hj=>?_)
     .rw[hrl] at hrep;exact hrep
     .rw[hrl] at hk;have hi:k / es.length<len:=Nat.div_lt_of_lt_mul (by rw[Nat.mul_comm];exact hk);have hj:k % es.length<es.length:=Nat.mod_lt _ hpos;have⟨row,ci,h1,h2,h3⟩:=key _ _ hi hj;have hk':k / es.length*es.length+k % es.length=k:=by rw[Nat.mul_comm];exact Nat.div_add_mod k es.length
      rw[hk'] at h3;have hcl:=h2.len;have hjc:k % es.length<ci.length:=by omega
      have hcj:ci[k % es.length]?=some ci[k % es.length]:=QNX hjc;rw[hcj] at h3;refine⟨hok b,by rw[h3];rfl,?_⟩;rw[h3];exact(h2.get _ _ _ _ (QNX hj) (QNX (by omega)) hcj).2.2
     have hil:=(QNY.1 hi).1;obtain⟨row,hrowlen⟩:∃r,r=c.length:=⟨_,rfl⟩;have hcl:c.length=es.length:=by have⟨ci,_,h3⟩:=hrows i c hi;exact h3.len.1
     have hjl:=(QNY.1 hj).1;obtain⟨row',ci,h1,h2,h3⟩:=key i j (by omega) (by omega);rw[hi] at h1;injection h1 with h1;subst h1;have hjc:j<ci.length:=by have:=h2.len;omega
     have hcj:ci[j]?=some ci[j]:=QNX hjc;rw[hcj] at h3;have:=(h2.get j _ x _ (QNX (by omega)) hj hcj).2.1;grind
    cases hs
   cases hs
  .rename_i fs hu;split at hs
   .rename_i ss' hfs;split at hs
    .rename_i hc;injection hs with hs;subst hs;have⟨ys,n',hn,hd,hcl,hyl,hf⟩:=DataW.trod_struct hu h;injection hn with hn;subst hn;injection hd with hd _;subst hd;have hw':∀k∈DataW.weightsEach P (fs.toList.map (·.type)) (ys.map (·.1)),k<=reachBytes:=by
      intro k hk;exact hwt k (by simpa[DataW.weights,hu] using hk)
     obtain⟨xs,hx⟩:=Qh2 (ok:=ok) (m:=m) cs (λt cs d ps ss h1 h2 h3=>Qcs hok n t cs d ps m ss h1 h2 h3) fs.toList ys 0 ss' (by simpa using hyl) (λi f hfi=>hf i f (by simpa using hfi)) hfs hw';grind
    cases hs
   cases hs
  cases hs
end
end Go.Ev
namespace Go.Ev
open Go Go.RowKit Go.ChangeShapes Go.WideShapes
def Ql4(P:Program)(t:TypeId)(x:IV):Prop:=
 ∃ss,shp P 7 t=some ss/\match P.underlying t with
  |some (.struct _)=>∃xs,x=.agg xs/\xs.length=ss.length/\∀(j:Nat)(s:Sh)(y:IV),ss[j]?=some s->xs[j]?=some y->Qbp s y
  |_=>∃s,ss=[s]/\Qbp s x
def QtL{H:Type}{enc:TypeId×Value->H}{P:Program}{W:World}{base:Nat}{ok:Nat->Prop}(hok:∀b,ok b){t:TypeId}{v:Value}{d:DataW H}{p:List MemPlace}{ss:List Sh}
  (hv:Value.okWide P W .any base t v)(h:DataW.Trod enc P W 0 (λ_=>true) true t v d p)(hs:shp P 7 t=some ss)(hw:∀k∈d.weights P t,k<=reachBytes):∃x,QZ ok W x v/\Ql4 P t x:=by
 have⟨fuel,hf⟩:=h;have⟨xs,hr⟩:=Qcs (ok:=ok) hok fuel t _ d p 7 ss hf hs hw;have hl:=hr.len;cases hu:P.underlying t with
 |none=>simp[shp,hu] at hs
 |some D=>
  have agg:∀fs,D=.struct fs->∃x,QZ ok W x v/\Ql4 P t x:=by
   intro fs hD;subst hD;obtain⟨cs,rfl,_⟩:=okWide_struct hu hv;have hc:(Value.agg cs).cells.toList=cs.toList:=rfl;rw[hc] at hr hl;refine⟨.agg xs,?_,ss,hs,?_⟩
   .have:=QZ.agg (ok:=ok) (w:=W) xs cs.toList (by omega) (λu hu=>?_) (λk x u hx hu=>?_)
    .simpa using this
    .obtain⟨j,hj⟩:=QOF hu;have hjl:=(QNY.1 hj).1;exact(hr.get j _ _ u (QNX (by omega)) (QNX (by omega)) hj).2.2
    have hjl:=(QNY.1 hx).1;exact(hr.get k _ x u (QNX (by omega)) hx hu).2.1
   rw[hu];refine⟨xs,rfl,hl.1,λj s y h1 h2=>?_⟩;have hjl:=(QNY.1 h1).1;exact(hr.get j s y _ h1 h2 (QNX (by omega))).1
  have one:(∀fs,D≠.struct fs)->v.cells=#[v]->ss.length=1->∃x,QZ ok W x v/\Ql4 P t x:=by
   intro hD hc h1;rw[hc] at hr;obtain⟨s,rfl⟩:=List.length_eq_one_iff.1 h1;cases hr with
   |cons _ x _ _ xs' _ h1 h2 h3 h=>refine⟨x,h2,[s],hs,?_⟩;grind
  cases D with
  |struct fs=>exact agg fs rfl
  |bool=>simp only[shp,hu,Option.some.injEq] at hs;obtain⟨b,rfl⟩:=okWide_bool hu hv;exact one (by simp) rfl (by rw[<- hs];rfl)
  |int k=>simp only[shp,hu,Option.some.injEq] at hs;obtain⟨n,rfl⟩:=okWide_int hu hv;exact one (by simp) rfl (by rw[<- hs];rfl)
  |string=>simp only[shp,hu,Option.some.injEq] at hs;obtain⟨n,rfl⟩:=okWide_string hu hv;exact one (by simp) rfl (by rw[<- hs];rfl)
  |slice e=>
   have h1:ss.length=1:=by simp only[shp,hu] at hs;grind
   obtain⟨a,l,c,rfl⟩:=okWide_slice hu hv;exact one (by simp) rfl h1
  |_=>simp[shp,hu] at hs
theorem Qhh{H}{enc:TypeId×Value->H}{P W base ok}(hok:∀b,ok b):∀(ts vs)(ds:List (DataW H))(p:List MemPlace),DataW.TrodAll enc P W 0 (λ_=>true) true ts vs ds p->(∀(j:Nat)t v,ts[j]?=some t->vs[j]?=some v->Value.okWide P W .any base t v)->(∀t∈ts,(shp P 7 t).isSome=true) ->
  (∀k∈DataW.weightsEach P ts ds,k<=reachBytes)->∃xs:List IV,xs.length=vs.length/\vs.length=ts.length/\ds.length=ts.length/\(∀(k:Nat)x u,xs[k]?=some x->vs[k]?=some u->QZ ok W x u)/\(∀(k:Nat)(x:IV)(t:TypeId),xs[k]?=some x->ts[k]?=some t->Ql4 P t x)
 |[],vs,ds,p,h,_,_,_=>by obtain⟨rfl,rfl,rfl⟩:=trodAll_nil h;exact⟨[],rfl,rfl,rfl,by simp,by simp⟩
 |t::ts,vs,ds,p,h,hv,hs,hw=>by
  obtain⟨v,vs',d,ds',a,b,rfl,rfl,rfl,h1,h2⟩:=trodAll_cons h;simp only[DataW.weightsEach,QOc] at hw;obtain⟨ss,hss⟩:=QOC.1 (hs t (by simp));have⟨x,hx1,hx2⟩:=QtL hok (hv 0 t v rfl rfl) h1 hss (λk hk=>hw k (.inl hk));obtain⟨xs,e1,e2,e3,e4,e5⟩:=Qhh hok ts vs' ds' b h2 (λj t v h1 h2=>hv (j+1) t v (by simpa using h1) (by simpa using h2)) (λt ht=>hs t (by simp[ht])) (λk hk=>hw k (.inr hk));refine⟨x::xs,by simp[e1],by simp[e2],by simp[e3],λk y u hy hu=>?_,λk y t' hy ht=>?_⟩
  all_goals grind
theorem QgJ{H}{enc:TypeId×Value->H}{P W W'}(hl:laidOutB P=true)(hb:Below W.heap.size W W'):∀(ts vs)(ds:List (DataW H))(p:List MemPlace),
  (∀t∈ts,P.readableRec t=true/\t<P.types.size)->DataW.TrodAll enc P W 0 (λ_=>true) true ts vs ds p->DataW.TrodAll enc P W' 0 (λb=>decide (b<W.heap.size)) true ts vs ds p
 |[],vs,ds,p,_,h=>by obtain⟨rfl,rfl,rfl⟩:=trodAll_nil h;exact trodAll_mk0
 |t::ts,vs,ds,p,hr,h=>by
  obtain⟨v,vs',d,ds',a,b,rfl,rfl,rfl,h1,h2⟩:=trodAll_cons h;have y9:∀x∈a,x.block<W.heap.size:=by have⟨m,hm⟩:=h1;exact DataW.trod_lt m _ _ _ hm
  exact trodAll_cons_mk (Below.trod hl (hr t (by simp)).1 (hr t (by simp)).2 h1 hb y9) (QgJ hl hb ts vs' ds' b (λt ht=>hr t (by simp[ht])) h2)
def QtD{H}{enc:TypeId×Value->H}{P fn N}{s:ChangeSpec}{tb}(hl:laidOutB P=true)(hvars:s.vars=[])(hres:fn.resultTypes=#[tb])(hbool:P.underlying tb=some .bool)
  (hread:∀t∈fn.params.toList,P.readableRec t=true/\t<P.types.size)(hshp:∀t∈fn.params.toList,(shp P 7 t).isSome=true)
  (hfn:∀ds:List (DataW H),ds.length=fn.params.toList.length->s.fn H ds={ results:=[.lit (.bool true)],args:=ds }){K}
  (hgood:∀xs:List IV,xs.length=fn.params.toList.length->(∀(k:Nat)(x:IV)(t:TypeId),xs[k]?=some x->fn.params.toList[k]?=some t->Ql4 P t x)->Good P K N xs (.bool true))
  (W base args)(ds gs:List (DataW H))(before:List MemPlace)
  (hval:∀(j:Nat)t v,fn.params[j]?=some t->args[j]?=some v->Value.okWide P W .any base t v)(hW:DataW.Whole enc P fn.params.toList s.vars false W args.toList ds gs before)
  (hwt:∀k∈DataW.weightsEach P fn.params.toList ds,k<=reachBytes)(hK:K W):
  Calls P N args W λe W'=>∃v,e=.returned v/\s.post enc P fn false true false false W args v W':=by
 have hW':=hW;obtain⟨p,q,hA,hV,rfl,hfz,hnd⟩:=hW;rw[hvars] at hV;obtain⟨rfl,rfl⟩:=trodVars_none hV;obtain⟨xs,e1,e2,e3,e4,e5⟩:=Qhh (ok:=λ_=>True) (λ_=>trivial) fn.params.toList args.toList ds p hA (λj t v h1 h2=>hval j t v (by simpa using h1) (by simpa using h2)) hshp hwt;have hg:=hgood xs (by omega) e5 W (λ_=>True) args.toList hK (λ_ _=>trivial) (by omega) e4;have ha:args.toList.toArray=args:=by simp
 rw[ha] at hg;refine hg.mono λe W' ⟨v,he,hr,bel⟩=>?_;subst he;cases hr;have hspec:=hfn (ds++[]) (by simpa using e3);refine⟨_,rfl,ds,[],p++[],[],p,[],hW',?_,?_,?_,bel.frame _,λh=>by cases h⟩
 .rw[hspec,hres]
  exact trodAll_mk1 (shut_bool hbool _)
 .rw[hspec]
  simpa using QgJ hl bel fn.params.toList args.toList ds p hread hA
 rw[hvars,hspec];rfl
end Go.Ev
namespace Go.Proofs
open Go.Proofs.Tryz
open Go.Shelf
def Tryz.laysM146_ren:Go.Shelf.Ren:=⟨fun|146=>139|221=>234|268=>310|138=>311|143=>312|195=>358|197=>359|218=>360|219=>361|260=>397|217=>398|225=>399|224=>400|267=>401|266=>424|314=>425|n=>n,fun|9=>9|31=>44|3=>3|4=>4|0=>0|105=>372|21=>21|5=>5|46=>259|119=>434|139=>437|138=>436|146=>438|51=>404|n=>n,fun|1=>0|3=>3|4=>4|n=>n⟩
def Tryz.laysM146:Go.Proofs.LaysM.n146 prog Tryz.laysM146_ren:=by repeat' first|kernel_rfl|(intro _;kernel_rfl)|exact λw h=>Go.Proofs.cell_of_shapedOpen_int (zero:=#[.int .i64 0]) (t:=3) h (of_decide_eq_true (by kernel_rfl)) (by kernel_rfl) rfl (by kernel_rfl) (by kernel_rfl) underlying3|constructor
def Tryz.laysM171_ren:Go.Shelf.Ren:=⟨fun|171=>236|243=>315|246=>367|283=>405|284=>406|285=>407|286=>408|129=>394|317=>428|318=>429|319=>430|320=>431|337=>436|338=>437|n=>n,fun|3=>3|9=>9|2=>2|4=>4|171=>415|0=>0|53=>406|37=>191|5=>5|173=>417|212=>445|51=>404|20=>20|213=>446|46=>259|232=>450|233=>451|n=>n,fun|17=>5|18=>6|19=>7|n=>n⟩
def Tryz.laysM171:Go.Proofs.LaysM.n171 prog Tryz.laysM171_ren:=by repeat' first|kernel_rfl|(intro _;kernel_rfl)|constructor
def Tryz.laysC172_ren:Go.Shelf.Ren:=⟨fun|172=>235|244=>313|245=>314|247=>362|279=>363|280=>364|281=>365|282=>366|287=>402|316=>403|171=>236|205=>404|321=>426|322=>427|243=>315|246=>367|283=>405|284=>406|285=>407|286=>408|129=>394|317=>428|318=>429|319=>430|320=>431|337=>436|338=>437|n=>n,fun|9=>9|3=>3|75=>274|76=>275|4=>4|5=>5|167=>375|37=>191|0=>0|85=>376|2=>2|168=>378|53=>406|175=>410|46=>259|210=>413|127=>389|145=>443|143=>441|21=>21|171=>415|173=>417|212=>445|51=>404|20=>20|213=>446|232=>450|233=>451|80=>77|n=>n,fun|15=>1|16=>2|17=>5|18=>6|19=>7|n=>n⟩
def Tryz.laysC172:Go.Proofs.LaysC.n172 prog Tryz.laysC172_ren:=by repeat' first|kernel_rfl|(intro _;kernel_rfl)|constructor
def Tryz.lays101_ren:Go.Shelf.Ren:=⟨fun|101=>237|208=>316|206=>368|n=>n,fun|9=>9|4=>4|3=>3|n=>n,fun|n=>n⟩
def Tryz.lays101:Go.Proofs.Lays.n101 prog Tryz.lays101_ren:=by repeat' first|kernel_rfl|(intro _;kernel_rfl)|constructor
def Tryz.lays156_ren:Go.Shelf.Ren:=⟨fun|156=>286|165=>339|166=>340|169=>341|240=>376|241=>377|276=>411|277=>412|n=>n,fun|31=>44|9=>9|3=>3|4=>4|0=>0|20=>20|72=>355|76=>275|70=>353|37=>191|75=>274|127=>389|164=>419|5=>5|80=>77|n=>n,fun|n=>n⟩
def Tryz.lays156:Go.Proofs.Lays.n156 prog Tryz.lays156_ren:=by repeat' first|kernel_rfl|(intro _;kernel_rfl)|constructor
def Tryz.Builder_Extra_156:Builder.Extra prog Tryz.lays156_ren:=by repeat' first|kernel_rfl|(intro _;kernel_rfl)|decide|constructor
def Tryz.clone87_ren:Go.Shelf.Ren:=⟨fun|41=>87|n=>n,fun|22=>23|23=>156|4=>4|n=>n,fun|n=>n⟩
def Tryz.clone87:Go.Proofs.SlLaysE0.n41 prog Tryz.clone87_ren:=by
 constructor
 all_goals try first|kernel_rfl|(intro _;kernel_rfl)
 exact⟨Tryz.f87.name,by decide,func87.trans (congrArg some (by kernel_rfl))⟩
def Tryz.clone89_ren:Go.Shelf.Ren:=⟨fun|41=>89|n=>n,fun|22=>29|23=>160|4=>4|n=>n,fun|n=>n⟩
def Tryz.clone89:Go.Proofs.SlLaysE0.n41 prog Tryz.clone89_ren:=by
 constructor
 all_goals try first|kernel_rfl|(intro _;kernel_rfl)
 exact⟨Tryz.f89.name,by decide,func89.trans (congrArg some (by kernel_rfl))⟩
def Tryz.clone90_ren:Go.Shelf.Ren:=⟨fun|41=>90|n=>n,fun|22=>35|23=>113|4=>4|n=>n,fun|n=>n⟩
def Tryz.clone90:Go.Proofs.SlLaysE0.n41 prog Tryz.clone90_ren:=by
 constructor
 all_goals try first|kernel_rfl|(intro _;kernel_rfl)
 exact⟨Tryz.f90.name,by decide,func90.trans (congrArg some (by kernel_rfl))⟩
def Tryz.clone91_ren:Go.Shelf.Ren:=⟨fun|41=>91|n=>n,fun|22=>36|23=>115|4=>4|n=>n,fun|n=>n⟩
def Tryz.clone91:Go.Proofs.SlLaysE0.n41 prog Tryz.clone91_ren:=by
 constructor
 all_goals try first|kernel_rfl|(intro _;kernel_rfl)
 exact⟨Tryz.f91.name,by decide,func91.trans (congrArg some (by kernel_rfl))⟩
def Tryz.clone92_ren:Go.Shelf.Ren:=⟨fun|41=>92|n=>n,fun|22=>32|23=>111|4=>4|n=>n,fun|n=>n⟩
def Tryz.clone92:Go.Proofs.SlLaysE0.n41 prog Tryz.clone92_ren:=by
 constructor
 all_goals try first|kernel_rfl|(intro _;kernel_rfl)
 exact⟨Tryz.f92.name,by decide,func92.trans (congrArg some (by kernel_rfl))⟩
def Tryz.clone86_ren:Go.Shelf.Ren:=⟨fun|41=>86|n=>n,fun|22=>22|23=>136|4=>4|n=>n,fun|n=>n⟩
def Tryz.clone86:Go.Proofs.SlLaysE0.n41 prog Tryz.clone86_ren:=by
 constructor
 all_goals try first|kernel_rfl|(intro _;kernel_rfl)
 exact⟨Tryz.f86.name,by decide,func86.trans (congrArg some (by kernel_rfl))⟩
def Tryz.clone88_ren:Go.Shelf.Ren:=⟨fun|41=>88|n=>n,fun|22=>26|23=>134|4=>4|n=>n,fun|n=>n⟩
def Tryz.clone88:Go.Proofs.SlLaysE0.n41 prog Tryz.clone88_ren:=by
 constructor
 all_goals try first|kernel_rfl|(intro _;kernel_rfl)
 exact⟨Tryz.f88.name,by decide,func88.trans (congrArg some (by kernel_rfl))⟩
def Tryz.rev381_ren:Go.Shelf.Ren:=⟨fun|35=>381|n=>n,fun|22=>218|23=>3|3=>3|4=>4|0=>0|n=>n,fun|n=>n⟩
def Tryz.rev381:Go.Proofs.SlLaysE.n35 prog Tryz.rev381_ren:=by
 constructor
 all_goals try first|kernel_rfl|(intro _;kernel_rfl)
 exact⟨Tryz.f381.name,by decide,func381.trans (congrArg some (by kernel_rfl))⟩
def Tryz.del380_ren:Go.Shelf.Ren:=⟨fun|45=>380|n=>n,fun|22=>218|23=>3|3=>3|4=>4|0=>0|n=>n,fun|n=>n⟩
def Tryz.del380:Go.Proofs.SlLaysE.n45 prog Tryz.del380_ren:=by
 constructor
 all_goals try first|kernel_rfl|(intro _;kernel_rfl)
 exact⟨Tryz.f380.name,by decide,func380.trans (congrArg some (by kernel_rfl))⟩
def Tryz.keys214_ren:Go.Shelf.Ren:=⟨fun|7=>214|10=>302|n=>n,fun|23=>79|26=>3|3=>3|28=>249|0=>0|27=>248|33=>143|4=>4|n=>n,fun|n=>n⟩
def Tryz.keys214:Go.Proofs.SlLaysZI.n7 prog Tryz.keys214_ren:=by
 constructor
 all_goals try first|kernel_rfl|(intro _;kernel_rfl)
 exact⟨Tryz.f214.name,by decide,func214.trans (congrArg some (by kernel_rfl))⟩;exact⟨Tryz.f302.name,by decide,func302.trans (congrArg some (by kernel_rfl))⟩
def Tryz.sorted213_ren:Go.Shelf.Ren:=⟨fun|6=>213|8=>300|9=>301|11=>351|13=>353|12=>352|23=>393|24=>394|14=>384|15=>385|16=>386|17=>387|18=>388|19=>389|20=>390|21=>391|22=>392|25=>415|26=>416|27=>417|28=>418|29=>419|30=>420|31=>433|n=>n,fun|26=>3|28=>249|24=>45|0=>0|3=>3|37=>259|48=>404|50=>406|4=>4|40=>398|39=>397|45=>129|5=>5|9=>9|51=>423|55=>427|57=>447|58=>117|33=>143|n=>n,fun|n=>n⟩
def Tryz.sorted213:Go.Proofs.SlLaysZI.n6 prog Tryz.sorted213_ren:=by
 constructor
 all_goals try first|kernel_rfl|(intro _;kernel_rfl)
 exact⟨Tryz.f213.name,by decide,func213.trans (congrArg some (by kernel_rfl))⟩;exact⟨Tryz.f300.name,by decide,func300.trans (congrArg some (by kernel_rfl))⟩;exact⟨Tryz.f351.name,by decide,func351.trans (congrArg some (by kernel_rfl))⟩
def Tryz.sort301_ren:Go.Shelf.Ren:=⟨fun|5=>301|8=>353|7=>352|19=>393|20=>394|10=>384|11=>385|12=>386|13=>387|14=>388|15=>389|16=>390|17=>391|18=>392|30=>415|31=>416|32=>417|33=>418|34=>419|35=>420|40=>433|n=>n,fun|23=>45|25=>3|3=>3|32=>259|22=>45|0=>0|44=>404|46=>406|4=>4|36=>398|35=>397|41=>129|5=>5|9=>9|53=>423|57=>427|63=>447|64=>117|n=>n,fun|n=>n⟩
def Tryz.sort301:Go.Proofs.SlLaysM.n5 prog Tryz.sort301_ren:=by
 constructor
 all_goals try first|kernel_rfl|(intro _;kernel_rfl)
 exact⟨Tryz.f301.name,by decide,func301.trans (congrArg some (by kernel_rfl))⟩;exact⟨Tryz.f352.name,by decide,func352.trans (congrArg some (by kernel_rfl))⟩;exact⟨Tryz.f384.name,by decide,func384.trans (congrArg some (by kernel_rfl))⟩;exact⟨Tryz.f385.name,by decide,func385.trans (congrArg some (by kernel_rfl))⟩;exact⟨Tryz.f386.name,by decide,func386.trans (congrArg some (by kernel_rfl))⟩;exact⟨Tryz.f387.name,by decide,func387.trans (congrArg some (by kernel_rfl))⟩;exact⟨Tryz.f388.name,by decide,func388.trans (congrArg some (by kernel_rfl))⟩;exact⟨Tryz.f389.name,by decide,func389.trans (congrArg some (by kernel_rfl))⟩;exact⟨Tryz.f390.name,by decide,func390.trans (congrArg some (by kernel_rfl))⟩;exact⟨Tryz.f391.name,by decide,func391.trans (congrArg some (by kernel_rfl))⟩;exact⟨Tryz.f392.name,by decide,func392.trans (congrArg some (by kernel_rfl))⟩;exact⟨Tryz.f415.name,by decide,func415.trans (congrArg some (by kernel_rfl))⟩;exact⟨Tryz.f418.name,by decide,func418.trans (congrArg some (by kernel_rfl))⟩;exact⟨Tryz.f419.name,by decide,func419.trans (congrArg some (by kernel_rfl))⟩;exact⟨Tryz.f420.name,by decide,func420.trans (congrArg some (by kernel_rfl))⟩;exact⟨Tryz.f433.name,by decide,func433.trans (congrArg some (by kernel_rfl))⟩
end Go.Proofs
namespace Go.Ev
open Go
section
variable{α β:Type}
def r1(n:Nat)(k:Nat->Nat->α):α:=k (n % 16) (n / 16)
def rD(c n:Nat)(k:Nat->Nat->α):α:=k (n % 16 ^ c) (n / 16 ^ c)
def rN(n:Nat)(k:Nat->Nat->α):α:=r1 n λv n=>if v<12 then k v n else if v<14 then r1 n λd n=>k (12+(v-12)*16+d) n else if v=14 then rD 2 n λd n=>k (44+d) n else r1 n λc n=>match c with|0=>rD 3 n k|1=>rD 4 n k|2=>rD 6 n k|_=>rD 16 n k
def rC(f:Nat->(β->Nat->α)->α):Nat->Nat->(List β->Nat->α)->α
 |0,n,k=>k [] n
 |c+1,n,k=>f n λx n=>rC f c n λl n=>k (x::l) n
def rL(f:Nat->(β->Nat->α)->α)(n:Nat)(k:List β->Nat->α):α:=rN n λc n=>rC f c n k
variable(u:Nat->UInt8)(b:List AC)
def rI(n:Nat)(k:Opd->Nat->α):α:=r1 n λv n=>
 match v with
 |0=>k .nilp n
 |1=>k .nilm n
 |2=>k .nilf n
 |3=>rN n λm n=>k (.int .i64 (-((m:Nat):Int))) n
 |4=>rN n λm n=>k (.int .u64 ((m:Nat):Int)) n
 |5=>rL rN n λs n=>k (.str (s.map u)) n
 |6=>rN n λm n=>k (.fn m) n
 |7=>rN n λm n=>k (.nilv m) n
 |8=>rN n λm n=>k (.int .i32 ((m:Nat):Int)) n
 |_=>rN n λm n=>k (.int .u8 ((m:Nat):Int)) n
def rO(l n:Nat)(k:Opd->Nat->α):α:=r1 n λv n=>
 match v with
 |7=>k (.int .i64 0) n
 |8=>k (.int .i64 1) n
 |9=>rN n λm n=>k (.t m) n
 |10=>rN n λm n=>k (.int .i64 ((m:Nat):Int)) n
 |11=>k (.bool false) n
 |12=>k (.bool true) n
 |13=>rN n λm n=>k (.nil m) n
 |14=>rI u n k
 |15=>r1 n λm n=>k (.t m) n
 |v=>k (.t (l-v)) n
def rQ(l n:Nat)(k:Option Opd->Nat->α):α:=r1 n λv n=>if v=0 then k none n else rO u l n λx n=>k (some x) n
def rB:Nat->BinOp
 |0=>.add|1=>.sub|2=>.eql|3=>.lss|4=>.gtr|5=>.geq|6=>.leq|7=>.neq|8=>.mul|9=>.quo|10=>.rem|11=>.and|12=>.or|13=>.xor|14=>.andNot|15=>.shl|_=>.shr
def rP(l n:Nat)(k:(Nat×Nat×Opd)->Nat->α):α:=rN n λa n=>rN n λb n=>rO u l n λx n=>k (a,b,x) n
def rK(n:Nat)(k:Option IntKind->Nat->α):α:=r1 n λv n=>k (match v with|0=>none|1=>some .i64|2=>some .u64|3=>some .u8|_=>some .i32) n
def rE(l n:Nat)(k:AOp->Nat->α):α:=rN n λh n=>
 match h with
 |0=>rO u l n λx n=>k (.not x) n
 |1=>rN n λa n=>rL (rO u l) n λl n=>k (.alo a l) n
 |2=>rL (rO u l) n λq n=>rL (rP u l) n λp n=>k (.bld q p) n
 |3=>rN n λa n=>rN n λb n=>rN n λc n=>rN n λd n=>rO u l n λx n=>rO u l n λy n=>k (.app a b c d x y) n
 |4=>rN n λa n=>rL (rO u l) n λl n=>k (.bsl a l) n
 |5=>rN n λg n=>rL (rO u l) n λf n=>rL (rO u l) n λc n=>k (.yy (.mkf g f c)) n
 |6=>rO u l n λx n=>k (.nilc x) n
 |7=>r1 n λa n=>rO u l n λx n=>rO u l n λy n=>k (.yy (.mx (a==1) x y)) n
 |8=>rN n λa n=>rN n λb n=>rN n λc n=>k (.nilo a b c) n
 |9=>r1 n λa n=>rN n λm n=>rO u l n λx n=>rO u l n λy n=>k (.yy (.eqs (a==1) m x y)) n
 |10=>rN n λa n=>rN n λb n=>rN n λc n=>rL (rO u l) n λl n=>k (.bso a b c l) n
 |11=>rN n λa n=>rN n λb n=>rO u l n λx n=>rO u l n λy n=>k (.ixo a b x y) n
 |12=>rN n λf n=>rL (rO u l) n λx n=>rL rN n λi n=>k (.yz f x i) n
 |13=>rO u l n λf n=>rL (rO u l) n λx n=>rL rN n λi n=>k (.y1 f x i) n
 |14=>rN n λa n=>rO u l n λx n=>k (.leno a x) n
 |15=>rO u l n λf n=>rL (rO u l) n λx n=>rN n λi n=>k (.yw f x i) n
 |16=>rN n λf n=>rL (rO u l) n λx n=>rL rN n λi n=>rN n λj n=>k (.y2 f x i j) n
 |17=>rN n λa n=>rO u l n λx n=>rQ u l n λi n=>rQ u l n λj n=>k (.sli a x i j) n
 |18=>rN n λa n=>rO u l n λx n=>k (.boxo a x) n
 |19=>rN n λa n=>rN n λe n=>rN n λz n=>k (.yy (.mkm a (if e=0 then none else some (e-1,z)))) n
 |20=>rN n λf n=>rL (rO u l) n λx n=>rN n λi n=>k (.yu f x i) n
 |21=>rN n λa n=>rK n λh n=>rO u l n λx n=>rO u l n λy n=>rO u l n λz n=>k (.yy (.mupd a h x y z)) n
 |22=>rN n λa n=>rK n λh n=>rO u l n λx n=>rO u l n λy n=>rO u l n λz n=>k (.yy (.mupr a h x y z)) n
 |23=>rN n λa n=>rK n λh n=>rO u l n λx n=>rO u l n λy n=>rO u l n λz n=>k (.yy (.lkd a h x y z)) n
 |24=>rN n λa n=>rK n λh n=>rO u l n λx n=>rO u l n λy n=>k (.yy (.lkr a h x y)) n
 |25=>rK n λh n=>rO u l n λx n=>rO u l n λy n=>rO u l n λz n=>k (.yy (.lki h x y z)) n
 |26=>r1 n λi n=>rO u l n λx n=>k (.cvi (match i with|0=>.i64|1=>.u64|2=>.i32|3=>.u8|_=>.u32) x) n
 |27=>rO u l n λx n=>k (.yy (.neg x)) n
 |28=>rN n λa n=>rO u l n λx n=>k (.yy (.rngm a x)) n
 |29=>rN n λa n=>rO u l n λx n=>k (.yy (.ent a x)) n
 |30=>rN n λa n=>rO u l n λx n=>k (.yy (.lenmo a x)) n
 |31=>rO u l n λx n=>k (.yy (.lenm x)) n
 |32=>rN n λa n=>rN n λz n=>rO u l n λx n=>rO u l n λy n=>k (.yy (.ixa a z x y)) n
 |33=>rN n λa n=>rN n λe n=>rN n λc n=>rL (rO u l) n λz n=>rO u l n λx n=>k (.yy (.mks a e c z x)) n
 |34=>rN n λa n=>rO u l n λx n=>rO u l n λy n=>k (.cpy a x y) n
 |35=>rO u l n λf n=>rL (rO u l) n λx n=>rL rN n λi n=>k (.y3 f x i) n
 |36=>rN n λa n=>k (.yy (.zslv a)) n
 |37=>rK n λh n=>rL (rO u l) n λz n=>rO u l n λx n=>rO u l n λy n=>k (.yy (.lkc h z x y)) n
 |38=>r1 n λa n=>rO u l n λx n=>k (.yy (.isn (a==1) x)) n
 |39=>rO u l n λx n=>k (.lst x) n
 |40=>rN n λa n=>rO u l n λx n=>rO u l n λy n=>k (.yy (.ixg a x y)) n
 |42=>rO u l n λx n=>rO u l n λy n=>k (.ixs x y) n
 |43=>rO u l n λx n=>rQ u l n λi n=>rQ u l n λj n=>k (.sls x i j) n
 |44=>rN n λf n=>rL (rO u l) n λx n=>rL rN n λi n=>k (.call f x i) n
 |45=>rO u l n λx n=>rO u l n λy n=>rO u l n λz n=>k (.pick x y z) n
 |46=>rO u l n λx n=>k (.i2s x) n
 |47=>rO u l n λx n=>k (.b2s x) n
 |49=>rN n λa n=>rO u l n λx n=>k (.yy (.nxts a x)) n
 |50=>rO u l n λx n=>k (.yy (.r2s x)) n
 |51=>rN n λa n=>rO u l n λx n=>k (.yy (.s2b a x)) n
 |52=>rN n λa n=>rO u l n λx n=>k (.yy (.b2so a x)) n
 |53=>rN n λa n=>rO u l n λx n=>rO u l n λy n=>k (.yy (.ixb a x y)) n
 |54=>rN n λa n=>rO u l n λx n=>k (.yy (.ldb a x)) n
 |55=>rN n λa n=>rO u l n λx n=>rO u l n λy n=>k (.yy (.stb a x y)) n
 |56=>rN n λa n=>rO u l n λx n=>k (.yy (.rngs a x)) n
 |60=>rN n λf n=>rO u l n λx n=>rL (rO u l) n λz n=>rN n λa n=>k (.yx f x z a) n
 |_=>k (.yy .no) n
def rA:Nat->Nat->Nat->Nat->Option Nat->Option (Nat×Bool)->(Zi->Nat->Nat->Option (Nat×Bool)->α)->α
 |0,n,l,_,d,g,k=>k ⟨d,g,.xg .nilp⟩ n l g
 |c+1,n,l,m,d,g,k=>
  let K:=λg x n=>k ⟨d,g,x⟩ n m g
  r1 n λh n=>
  match h with
  |0=>K g (.xg (.t l)) n
  |1=>rO u l n λx n=>K g (.xg x) n
  |2=>rN n λa n=>rO u l n λx n=>K g (.ldi (a / 2) (a % 2==1) x) n
  |3=>rN n λa n=>rO u l n λx n=>rO u l n λy n=>K g (.bin (rB a) x y) n
  |4=>rN n λa n=>rO u l n λx n=>K g (.fld a x) n
  |5=>rN n λa n=>rL (rO u l) n λx n=>K g (.call a x []) n
  |6=>rO u l n λx n=>rO u l n λy n=>rO u l n λz n=>K none (.pick x y z) n
  |7=>rO u l n λx n=>rN n λa n=>K g (.ext x a) n
  |8=>rN n λa n=>rN n λb n=>rO u l n λx n=>rO u l n λy n=>k ⟨none,g,.sto a b x y⟩ n l g
  |9=>rN n λa n=>rN n λb n=>rO u l n λx n=>K g (.ldo a (b / 2) (b % 2==1) x) n
  |10=>rO u l n λx n=>K g (.boxi x) n
  |11=>rO u l n λx n=>K g (.len x) n
  |12=>rN n λa n=>rO u l n λx n=>rO u l n λy n=>K g (.ixi a x y) n
  |13=>rE u l n (K g)
  |14=>rN n λd n=>rA c n l l (some d) g k
  |_=>r1 n λh n=>
   match h with
   |0=>rA c n l m d none k
   |1=>rA c n l m d (some (l,true)) k
   |2=>rA c n l m d (some (l,false)) k
   |3=>rN n λs n=>rA c n l m d (some (s,true)) k
   |4=>rN n λs n=>rA c n l m d (some (s,false)) k
   |5=>rA c n l l none g k
   |_=>rN n λd n=>rA c n l d (some d) g k
def rR:Nat->Nat->Nat->Option (Nat×Bool)->(List Zi->Nat->Nat->α)->α
 |0,n,l,_,k=>k [] n l
 |c+1,n,l,g,k=>rA u 4 n l (l+1) (some (l+1)) g λx n l g=>rR c n l g λq n l=>k (x::q) n l
def rT:Nat->Nat->Nat->(AC->Nat->Nat->α)->α
 |0,n,l,k=>k .skip n l
 |c+1,n,l,k=>r1 n λh n=>
  let R:=λk=>rN n λm n=>rR u m n l none k
  match h with
  |0=>k .skip n l
  |1=>R λx n l=>k (.ops x false) n l
  |2=>R λx n l=>rT c n l λy n l=>k (.seq (.ops x false) y) n l
  |3=>rT c n l λx n l=>rT c n l λy n l=>k (.seq x y) n l
  |4=>rO u l n λo n=>rT c n l λx n l=>rT c n l λy n l=>k (.cond o x y) n l
  |5=>rN n λi n=>rT c n l λx n l=>k (.block i x) n l
  |6=>rN n λi n=>rL rN n λs n=>rL rN n λd n=>k (.loop (b.getD i .skip) s d) n l
  |7=>rN n λi n=>k (.exit i) n l
  |8=>rT c n l λx n l=>k (.scope x) n l
  |9=>rN n λi n=>k (.label i) n l
  |10=>k .ret n l
  |11=>rN n λd n=>rN n λe n=>rO u l n λx n=>rN n λi n=>k (.nxt d e x i) n l
  |12=>rN n λi n=>rN n λd n=>rN n λo n=>rN n λe n=>rN n λs n=>rT c n l λx n l=>k (.gh i d o e s x) n l
  |13=>rN n λt n=>rN n λi n=>rL rN n λs n=>rL rN n λd n=>rT c n l λx n l=>k (.frz t i s d x) n l
  |14=>rO u l n λf n=>rL rN n λp n=>rN n λi n=>rL rN n λs n=>rL rN n λd n=>k (.range f p (b.getD i .skip) (b.getD (i+1) .skip) s d) n l
  |_=>r1 n λh n=>
   match h with
   |0=>rL rN n λs n=>rL rN n λd n=>rT c n l λx n l=>k (.fz s d x) n l
   |_=>rN n λm n=>rR u m n l none λx n l=>k (.ops x true) n l
end
def rF(u:Nat->UInt8)(b:List AC)(n:Nat):AFn:=rN n λt n=>
 rL (λn k=>r1 n λh n=>rN n λt n=>match h with|0=>k (.tmp t) n|_=>rN n λm n=>k (.cell t m (h==2)) n) n λs n=>
 rN n λl n=>rT u b 500 n l λc _ _=>⟨t,s,c⟩
def rS(u:Nat->UInt8)(b:List AC)(n:Nat):AC:=rN n λl n=>rT u b 500 n l λc _ _=>c
abbrev Ri{α:Sort _}(x:α):={ y:α // x=y }
abbrev U8:=Nat->UInt8
def xz:List UInt8->Nat|[]=>0|c::l=>let c:=c.toNat;c-48-c/64-c/79-c/92-c/96+71*xz l
def xq{α}(s:String)(k:Nat->α):α:=match xz s.toByteArray.data.toList with|0=>k 0|m+1=>k (m+1)
def xx{α}:List String->(Nat->α)->α|[],k=>k 0|s::r,k=>xq s λa=>xx r λb=>match a+71^100*b with|0=>k 0|m+1=>k (m+1)
@[simp] abbrev F0(n:String)(h:Ri λu:U8=>xq n (rF u [])):AFn:=h.1 UInt8.ofNat
@[simp] abbrev E0(n:List String)(h:Ri λu:U8=>xx n (rF u [])):AFn:=h.1 UInt8.ofNat
@[simp] abbrev B0(n:String)(h:Ri λu:U8=>xq n (rS u [])):AC:=h.1 UInt8.ofNat
@[simp] abbrev Fz0(n:List String)(h:Ri λu:U8=>xx n (rS u [])):AC:=h.1 UInt8.ofNat
@[simp] abbrev b0(n:Nat)(h:Ri λu:U8=>rS u [] n):AC:=h.1 UInt8.ofNat
@[simp] abbrev F1(n:String)(x:AC)(h:Ri λ(u:U8)(x:AC)=>xq n (rF u [x])):AFn:=h.1 UInt8.ofNat x
@[simp] abbrev E1(n:List String)(x:AC)(h:Ri λ(u:U8)(x:AC)=>xx n (rF u [x])):AFn:=h.1 UInt8.ofNat x
@[simp] abbrev B1(n:String)(x:AC)(h:Ri λ(u:U8)(x:AC)=>xq n (rS u [x])):AC:=h.1 UInt8.ofNat x
@[simp] abbrev Fz1(n:List String)(x:AC)(h:Ri λ(u:U8)(x:AC)=>xx n (rS u [x])):AC:=h.1 UInt8.ofNat x
@[simp] abbrev F2(n:String)(x y:AC)(h:Ri λ(u:U8)(x y:AC)=>xq n (rF u [x,y])):AFn:=h.1 UInt8.ofNat x y
@[simp] abbrev E2(n:List String)(x y:AC)(h:Ri λ(u:U8)(x y:AC)=>xx n (rF u [x,y])):AFn:=h.1 UInt8.ofNat x y
@[simp] abbrev b2(n:Nat)(x y:AC)(h:Ri λ(u:U8)(x y:AC)=>rS u [x,y] n):AC:=h.1 UInt8.ofNat x y
@[simp] abbrev f3(n:Nat)(x y z:AC)(h:Ri λ(u:U8)(x y z:AC)=>rF u [x,y,z] n):AFn:=h.1 UInt8.ofNat x y z
@[simp] abbrev b3(n:Nat)(x y z:AC)(h:Ri λ(u:U8)(x y z:AC)=>rS u [x,y,z] n):AC:=h.1 UInt8.ofNat x y z
def fk{P f fn}(h:P.funcs[f]?=some fn)(A)(k:QhZ P fn A=true):Qxo P f A:=⟨fn,h,k⟩
end Go.Ev
namespace Go.Pf
open Go Go.Ev Go.Proofs Go.RowKit Go.Proofs.Tryz
set_option maxHeartbeats 1000000
@[simp] abbrev f4(n:Nat)(x y z t:AC)(h:Ri λ(u:U8)(x y z t:AC)=>rF u [x,y,z,t] n):AFn:=h.1 UInt8.ofNat x y z t
def c3:=E0 ["K3kaW1K^TgD]Z6I>zwMCKtRbap]bHRrlanrgdWzfA<9iZod_4qDEa55wZJXLNE3d]oVu8_>ePv0T4UUq48vFqTv:fRMrnU6qvM_C","QhXATjGPWI0I8j4J60J4Q]LL?ubK=SjJnNhUAPWWF=<kNkh0bvN1_Xuypmihev8?k86x3yem_j2^VV6hFnxMFxHp94TFb=AollY=","u2KHEeAH2gN6BC^5bRl;=U2hxm2RW[PA[97NUa=KwRnBXSD9:q]xX4DrPhCXA>xr>F]bYNaYfAxZMRTTT9"] ⟨_,by conv=>lhs;reduce⟩
def QJn:=fk func3 c3 (by kernel_rfl)
def c4_b0:=B0 "DR6BmY]k4;D6aLZdyIv38vBjkEQSEkrC8oN:af5[hnS:Z<c5EsvfvV8A<U:onW8G" ⟨_,by conv=>lhs;reduce⟩
def c4:=F1 "3nA7Hw9aImurTpE;eP1ZHCzSlkUe3YXk5" c4_b0 ⟨_,by conv=>lhs;reduce⟩
def c4_ok:=fk func4 c4 (by kernel_rfl)
def c5_b0:=B0 "x5oYVj]iKNTshRcXYQTDPC6yrsS7u[Nm_?VV>BnDNr3nkM[?2d8" ⟨_,by conv=>lhs;reduce⟩
def c5:=F1 ";Rn0IEe[Xrpog6KwyXxrA2mz_Kr[C87" c5_b0 ⟨_,by conv=>lhs;reduce⟩
def c5_ok:=fk func5 c5 (by kernel_rfl)
def c6:=E0 ["<RyT>T_0e7QzkWcBU1<v7QDHgu6Aknf:eQqhgb6iKxv9qcVKRNNiqDxHm4T:9YWDA8M6looi6dA3yk;weS2NYb<d[5gmCYqbstC6","Ph;Y=q?BZ?abYXj_ISS[gnSWeFi;dU=jF2p:LbSQVGvDra10<w]UBslJLqYY4Y34l<Jg4R[H8CW5c_iDLYtxq12VXr1bsBY=f4zi","]Rz:kvUi0fE47bh5i:n7A8GnBRcaCi[Lp1?EEtF_M^:^Qxg4j<QuI69aZR1ULo8<a:N<I2I3uk;PZR4TW>kqIxd;1xks42L1tzeT","fXJbfXx?e0S;;5?P8JqbCR?]KN2XBsw3?DXUBmg?8rcT]n_N]dG9o_8XXa9i4SxsBwCX[VFUfJ:=hnzMAlVGlb:qwWZWqAnI715z","nBZb<CIIqA"] ⟨_,by conv=>lhs;reduce⟩
def c6_ok:=fk func6 c6 (by kernel_rfl)
def c7:=F0 "iW<iaVyJ[B?tFukAicdW5^bQSUDzvNDQ8kMiAGj>frkslZHXmB6kig7HDxP=xjv9no<Q]0S6" ⟨_,by conv=>lhs;reduce⟩
def c7_ok:=fk func7 c7 (by kernel_rfl)
def QBj:=B0 "^HNn_:ci3=sN5RMZfr]P:T=JmgIYeX1QVb=F:HqkZI=f:dV4MFWWbMcE" ⟨_,by conv=>lhs;reduce⟩
def QBi:=B0 "du0qTh2Rs<G7YT^1gI7MhgDM6kVQvnbnCR25gaiZ6ccRSM;XjA>K" ⟨_,by conv=>lhs;reduce⟩
def c8:=F2 "04:cwwm7MQBR5WETxpsIjsMtv?wyI];46juAbRl3TVw>CS8u=KT:NaI>Z0vIJ:]p]NzEWG<^k7Q?B8>bqGQHbo]eYzXkseD42" QBj QBi ⟨_,by conv=>lhs;reduce⟩
def QJm:=fk func8 c8 (by kernel_rfl)
def c9:=F0 "?kQbiHmqjxTQqA[oXuI3366ZH5_1g9krUuoDV:z9EC^B4^wkkD>vY_l6y1mZUB4BpVF?==D=9nC4" ⟨_,by conv=>lhs;reduce⟩
def c10:=F0 "qSvdQs?ET7QHolSU?3==8I[7r?;N9mhC<CdR?:RUTLvTsemagSapTsxlghRs<SgxkrItuYlW6EX1Phh1iX;WsUse]2RB88YDE84ZodWqr2g>Rh<i4MK<iReafAFd66" ⟨_,by conv=>lhs;reduce⟩
def QHl:=fk func10 c10 (by kernel_rfl)
def c11:=F0 "PkoVZ8hDXn]8=s8lVKYn37AJK=c2g:wIlA6dS8c?jFjvn0ThNNL]B:yzajl1qqp[=05I3eFQSQ7j_Dx:HxE:[Al<pp_BUegP3npQuB8mcI7[xpQuKMDVJ?uSAH13L" ⟨_,by conv=>lhs;reduce⟩
def QHk:=fk func11 c11 (by kernel_rfl)
def c12_b0:=B0 "E7y3E]9sWbKisjHputZ0csy_>V_3rCbAEH^6GTfwE:_1lP;ZMx6fHwYx2JdN2" ⟨_,by conv=>lhs;reduce⟩
def c12:=F1 "=jwuB4:oj3m;Hb]9EB74c]YUprIzSe4xVB3cY61<" c12_b0 ⟨_,by conv=>lhs;reduce⟩
def c12_ok:=fk func12 c12 (by kernel_rfl)
def c13:=F0 "DMMJN;Z6T;7oX2T0iHi0GYVTX:1VU5uBi5GlXvY^v2uB=bF" ⟨_,by conv=>lhs;reduce⟩
def QHj:=fk func13 c13 (by kernel_rfl)
def c14_b0:=B0 "^GHKRrS2TSt<p4xV4rF]nGy3iv99bYrCM_;HIBxTAVN1^vlE5R=<kLhBzreSM<" ⟨_,by conv=>lhs;reduce⟩
def c14_b1:=B0 "ytZjGMPhxoADM9pDQwp4wFAfWHQqoM3H0;1gNp12nBEfQag>Q5YByAYpe1" ⟨_,by conv=>lhs;reduce⟩
def c14:=E2 ["hQXAz^>eLLSr]tZdE_XGbJ62lecBV^skPmDhsCVlJfo2KQt?[6S9wFjQ]6FWDdveehQWnv?QYxLpPgnW?DtN<=f:gN6zI8gw8RJJ","y5GjKw0L]vqoHB;h7Nk821dvprVAmI[o4<TE[[RsGZnW3"] c14_b0 c14_b1 ⟨_,by conv=>lhs;reduce⟩
def c14_ok:=fk func14 c14 (by kernel_rfl)
def c15_b0:=B0 "UGKM0QQ0p^4?8:viQphE[d9yyI4SRqNJaZBjSSK:umz>lgQ?;3cQtL8l[7^NIszlvIV1w3zh1[R2k[2UIIJd7N9m4" ⟨_,by conv=>lhs;reduce⟩
def c15:=E1 ["GIHkNXwbl4<ZALyXA^:FjX858^GC0^4vQ_:Ziz6My08TEY9_XrV=S9dUpx83fhy=PzoIR=4crDg7T4a?mRIC<9DKEj7En6pQ8^m]",";tCkWqY<bJP5Y<RtieQFWKix:BU:[7LG_W_oP=L5XjXM5HZmXP0Z7Sj;KD_]kq75DXDh8QwaIM8SQdZBV[y6_I0Y?l0oRX6MCH3"] c15_b0 ⟨_,by conv=>lhs;reduce⟩
def c15_ok:=fk func15 c15 (by kernel_rfl)
def c16:=F0 "Ip:NGNIh>eRd;jg0Tc:sN;vu:=?b^sV3]M9al=y95HsvRvC2SE>" ⟨_,by conv=>lhs;reduce⟩
def c16_ok:=fk func16 c16 (by kernel_rfl)
def c17_b0:=B0 "E7y3E]9sWbKisjHputZ0csy_>V_3rCbAEH^6GTfwE:_1lP;ZMx6fHwYx2JdN2" ⟨_,by conv=>lhs;reduce⟩
def c17:=F1 "=jwuB4:oj3m;Hb]9EB74c]YUprIzSe4xVB3cY61<" c17_b0 ⟨_,by conv=>lhs;reduce⟩
def c17_ok:=fk func17 c17 (by kernel_rfl)
def c18_b0:=B0 "=UZ^64k_>5s5WGX=tw:oT4F1VZn9V5rf<ee?[lqr:Z91T7lL;Qu[DHhDFWw:XtlJDBGyuPJJ902cfZf8Vf9" ⟨_,by conv=>lhs;reduce⟩
def c18:=F1 "?oqGjgFGreHK5d:wB;HoZPe^YNJlgkvMrCDvqWUSmYbWl5MemSBsEI0JQR]qMgzoT_v1<nraTol5lY]AKlz1" c18_b0 ⟨_,by conv=>lhs;reduce⟩
def c18_ok:=fk func18 c18 (by kernel_rfl)
def c19_b0:=B0 "kKC3tI0FDd^vUBXQqzCjngYw]s39U^N]VW3dwSCuoAh]C4ezllyrgNijCNz2TtNR5Wu]nwXn<auK85" ⟨_,by conv=>lhs;reduce⟩
def c19_b1:=B1 "DH_r0p9XHg]^X77SoXh?LRSQajmLXe[3:;^czlf7" c19_b0 ⟨_,by conv=>lhs;reduce⟩
def c19_b2:=B0 "o03JRieTE8879bSDgn;A9WrbRhlIN?v6b>Bmgnsrwm4ZxX^dWZ64Dhvo<K<58jt0AoaurQgHn6pAqLo^uF<:5nlaEh:;80iEKn5l?7f2^3;SxldlvNFTd7qiq]" ⟨_,by conv=>lhs;reduce⟩
def c19:=F2 "nWi:t^^TH<XTiBkr9mkFKkqdsTZ1_E]Und:RyePfjV<UkqJ38VBkptZni;WXuDGvx0UM1p<c7:v=r4ZU4HAG;AD2hNuJ2I[t6GBK>;DBpb2]18:L" c19_b1 c19_b2 ⟨_,by conv=>lhs;reduce⟩
def c19_ok:=fk func19 c19 (by kernel_rfl)
def c20:=F0 "wm;s9MLQ[IQIHPX4;;U0>n20anKa]kbJ" ⟨_,by conv=>lhs;reduce⟩
def QHi:=fk func20 c20 (by kernel_rfl)
def c21:=F0 "ler0l_IrYXy=5HXBZA_]3Wj:eJRmi0aV=ME4x=KA9^p40^hHC" ⟨_,by conv=>lhs;reduce⟩
def QHh:=fk func21 c21 (by kernel_rfl)
def QsP:=Fz0 ["mm3VcG?^v8gl<?3kl]JIninDd]k^TgcVCz=Qxcdkuy>05A_BbSElIxK9hBdPtezspbvc0rXmE_6];;>R5Xl<[2FqNd?Vu6PbiS9e","Y15W_U1aA1:AzGe4RQ830D2NoivlT]9zha9Rl57wq6Kd4N26j6Pnx^qA6mT:fP<a?cy<nXxgzZ_:6_tiu=eiL2"] ⟨_,by conv=>lhs;reduce⟩
def c22:=F1 "[>90f5nVlfSb=f]LV6xTrlH0uoz1qJ2r2t_w7sEbnKhQ;C=Sx3" QsP ⟨_,by conv=>lhs;reduce⟩
def QHg:=fk func22 c22 (by kernel_rfl)
def c23:=F0 "ufpWV<ELCfiRWAc6XR^8ekua59:q]Wc1^vz:9KR26]G;^6sa7c]>pr;GNeP7G1GtuwceT^]kMQWUUva;x0WIqI=06DQ67L2AEZ1" ⟨_,by conv=>lhs;reduce⟩
def QLy:=fk func23 c23 (by kernel_rfl)
def c24:=F0 "uAL7>WLsGpp8IF71d1E5sQZxZcAg<vVQoY<7^PfDrzXk8g<r[q>;xq>k4Pob37xDGxRPe2U1Qhy4;Jtfj]Y1uT3U=Yx<" ⟨_,by conv=>lhs;reduce⟩
def QHf:=fk func24 c24 (by kernel_rfl)
def QsM:=B0 "hogHXM2<>jL;HbND;WKZ3s88sUoi1uWu9l6Wqrh>2uLbogn2o9c60j1" ⟨_,by conv=>lhs;reduce⟩
def c25:=E1 ["4XAVsJ5G;pEUoG3nDAPCXRlh7n?AD8Ehk?WGUJiMj;^35DdnF25ou4:d4[E<du2ALU>D<DuKsefUfp=Mb0iS^vaaUWchblTLfWKa","Z6UgGu[=kJ6tlSU<c?13VK6dZT0zN[E8Vos<HX<?pq76inuQac^my_UM^DjZjaWj?q_Xs[X6Qaj]__0YIB8J3w534l>[DJ<nd^jG","B_cl_ZcctXB]3MMRHgwh=Yz"] QsM ⟨_,by conv=>lhs;reduce⟩
def QHe:=fk func25 c25 (by kernel_rfl)
def QsK:=B0 "UP8]JFBTWjPrwKcNf40TNPb>_z<Ia5z[1ZEbd_:sf^pkw]u>WzUbjdKiQmC3DK7PI0El0;ErDkCTkSnu94[W]Dk_E2w3UR7_dzp5eiMzLt^g^bXVb;<3" ⟨_,by conv=>lhs;reduce⟩
def c26:=E1 ["HQARwwd<FdFaDKIlHmfjBj<U<e2>ekllYc6W2DT[tieZQ3[w;SfjQ4<08VKPCNDtfoHx>hmGm3]FI5eAov7b=Y^M:s_YA6spkZjJ","g<8bS_^gH0hhq2TNa=pV>Kplcs_er1>H<Xbqlt^6cQn2Rp;X7[L[JKvQ<i8qpRF2wj3HzLEP3rc]5zaDXvj:>FPjuVMM9oIjG?Q>","i9"] QsK ⟨_,by conv=>lhs;reduce⟩
def QHd:=fk func26 c26 (by kernel_rfl)
def QsJ:=B0 "uK932u^<EZcDjwGKR5?y3f588o4<YMfITkWHFmvnM?=j56BCVsgqJF]c6x31c05APG7j:AiF[e" ⟨_,by conv=>lhs;reduce⟩
def c27:=F1 "qmn23YfrX7w73ajVPQ7:QFxs6opIh<wsw;d]c8aXXIZX2XTra5z1VKzQ7sasfcJQyNDDUv2fjUu4:KIABZ[>wSA<9LeweA[Q5Jm3R^snT3:CIQhAbkEUNfe7lqfm1" QsJ ⟨_,by conv=>lhs;reduce⟩
def QHc:=fk func27 c27 (by kernel_rfl)
def QsH:=B0 "XFbcvRQYDIxP7wSK9z1>nB[dTfm5>kqDuD:=PZ5tbFqXISctxEz=d55glYl8UpN[cHy5tHZtxm" ⟨_,by conv=>lhs;reduce⟩
def QsG:=B0 "aN_rLDjbp]qHyp_HY4iGPszB<;FKbnx]ceG;DuYTh[<5JkXMu4eeX3;xcjvDk3XHf^yTixrlZPlL2" ⟨_,by conv=>lhs;reduce⟩
def c28:=E2 ["NYZCfsAtYsJN6loaQJ[Sgegt6ZPwiTnr:YdK;iN=FEAZSk6LLm1zA6JldUQgokINNpHS9]JrHI0BIgphIFG]jtR94Sp>o?3g[Un=","MQt9wq[4]20pRYHdjpBV3GS3y0lolY?"] QsH QsG ⟨_,by conv=>lhs;reduce⟩
def QHb:=fk func28 c28 (by kernel_rfl)
def c29:=F0 "Z52=q;N<ZGj8nWwhgxZ5" ⟨_,by conv=>lhs;reduce⟩
def c29_ok:=fk func29 c29 (by kernel_rfl)
def c30:=F0 "awZi;DZ:rk;GiT3t1" ⟨_,by conv=>lhs;reduce⟩
def c30_ok:=fk func30 c30 (by kernel_rfl)
def c31_b0:=B0 "sxafjfeg^[cmT;<33f;gG:VTJqy6UJ2mzyNBftL5dzT" ⟨_,by conv=>lhs;reduce⟩
def c31:=F1 "e;8CqeUIx<LzLQltG>dRv]vJxB_V;Jn7<J3n3" c31_b0 ⟨_,by conv=>lhs;reduce⟩
def c31_ok:=fk func31 c31 (by kernel_rfl)
def c32:=F0 "Aq?v8L_:zTC=x9GpvICYQmYI6RgF1jeWaYdP6uc6IxAl82V8s8B3GfqZM;zyAC" ⟨_,by conv=>lhs;reduce⟩
def c32_ok:=fk func32 c32 (by kernel_rfl)
def c33_b0:=Fz0 ["<r05>p[5RiN<j0wFz?=t3tj9>D09aGg^GBjPm1rxSWk^NzCgl?TZi;CcFc7THlP;0wb8hJghgFLCclqYNZAuRcc]sJ]uQ[Ef^LNA","bvart4CT:_aC=[uDM41V1jnvAN^bAdlTDow>F7gKhd50U08You5fWrboZA7c3ZFu>od_Qlw;URJ[VJ5Fev8MByQ[vetT]wIs:Zq<","pfkb<qL[QAH8Nj3JsmWm:;DkiDg1Pa]cp:S4b_1MS_A[sn^1J?_F[eG2Nsgf4SnV5<<Wa]nVNrF5c:UEGUY;q9<JR59FskQk55ss","[moguJ5Umm0o]klmv0yT<adY"] ⟨_,by conv=>lhs;reduce⟩
def c33:=E1 ["IA>bru1s8P1sQF1ZfA4ljN1ShjgBmRJEpgWcvWqNweK4^;[0ey868HnCRIFrXYzMBq2<XV]PRoZ02B616IY<o0_L1X0I7<UyQPV2","2INks>[hBmQhTG5X=LDGv]WGo:;K;W4?4M^I2bS=Xtk7ya>GZolItFV4"] c33_b0 ⟨_,by conv=>lhs;reduce⟩
def c33_ok:=fk func33 c33 (by kernel_rfl)
def c34_b0:=B0 "JX]Gswrd^yfk9n=T9vjTrPafvfWL212MQzFuawnT;9J4gLzRMq?q;uR47bTVxuPFviKu=3JRmE[4" ⟨_,by conv=>lhs;reduce⟩
def c34:=F1 "Ebrwuz8t:adqK04JCy?F;fuz4gVyLc02[rP:9m4d8gULWQ1" c34_b0 ⟨_,by conv=>lhs;reduce⟩
def c34_ok:=fk func34 c34 (by kernel_rfl)
def c35_b0:=B0 ";BE:Doq<Rxu<6YE5;g:cbIfxy7gJo]rHKEYN0mxkl[?yAgS=?N^ZiL8" ⟨_,by conv=>lhs;reduce⟩
def c35:=F1 "31HKsQj0iLeKTkI^yjVE7xhIJXNDgAWLePCn3" c35_b0 ⟨_,by conv=>lhs;reduce⟩
def c35_ok:=fk func35 c35 (by kernel_rfl)
def c36_b0:=Fz0 ["deu=Qiu;__2FpLMXq2aLi4YC5UPwK[B_siQwli0fqM^8CMc57yLdDTkR91EWs7;JBtHGpD43Z[vI^1_J_gRTJ86?Ek8A;_:m;9^1","7kNUvr3:k?4]1jrP]^JZYtA<C<1U16sXrpe:AlJjgakS8o3"] ⟨_,by conv=>lhs;reduce⟩
def c36:=F1 "3A>7U^:^GMFZh;q=em86M7[CBgH=t=pRl0MTY[Uj63gPKJv<R^tQU6?Crbbv91" c36_b0 ⟨_,by conv=>lhs;reduce⟩
def c36_ok:=fk func36 c36 (by kernel_rfl)
def c37:=E0 ["YCvKQtG?ULt:jmsTQ<;82N9flWua5==v9?as5;fYTYZ[:Icuy]=4M7F]zUqMKsGTxN[AM4jW^c06H2LuC;ZaaZaQWv3rJXxTV^]?","6K9Mpgs^i<GNZBfgWY7D[TfVpAyVBWUoD3t:W<4lDCGvk<]E]HldYX<F>uh3^2jH?jNq1wQUbPe_4RJ"] ⟨_,by conv=>lhs;reduce⟩
def c37_ok:=fk func37 c37 (by kernel_rfl)
def c38_b0:=B0 "^KBc1^5t6ZQaG8<Ml7nhyGLqoc[XATqLg8CU22L]>0QMQLQRj8W6W54MuJWbcviLBEUpB_A>HFZNF" ⟨_,by conv=>lhs;reduce⟩
def c38:=F1 "?fvXhhu9TZZj]]Png^ZwyBC]fxni8" c38_b0 ⟨_,by conv=>lhs;reduce⟩
def c38_ok:=fk func38 c38 (by kernel_rfl)
def c39_b0:=B0 "EZzuRTqSd8mU^i[w;?f:cpEA:_9orpPs=^t4;pVh0L9j:spMwrjg1ziw7S1T_;3;gqUfAaE8F0AEjKsSwD=fG2zHFF][]XaQ^_:B[5>zEmp]jKz29Jli48" ⟨_,by conv=>lhs;reduce⟩
def c39:=F1 "e3M:<046qeGrcoq93uP6QliYEdChh2g90Y=c^JjD=GVb06" c39_b0 ⟨_,by conv=>lhs;reduce⟩
def c39_ok:=fk func39 c39 (by kernel_rfl)
def Qsw:=B0 ">7Klty7EWqD^H<bfc78u0:q2:j=uy^qVLo?RuITVKKQ3eNRuWYG7A]>lgWp76Uu:bAVo0eZ0mlsysw57RU;Ns6atSE" ⟨_,by conv=>lhs;reduce⟩
def Qsv:=B0 "]JFrb7nidZNX;=vGT^_jT[C6T04[=qLxhdrI6p5v_ij]Nb2BIV27hei;ph2mb=LoJCzUpA5A" ⟨_,by conv=>lhs;reduce⟩
def c40:=E2 ["Ev09q_ug>eM?PV[aPiu:dFa0hqzB2TmX3i4SvQzg>QIsSuzRA?g]BlH0UoMTx;[JjGI>FldjQYJvret5h^Q2uRUVvH0uh]IvpAD[","=h]f?v<Jmuc?s^T8FU=SPuxfoIcLDr]j;"] Qsw Qsv ⟨_,by conv=>lhs;reduce⟩
def QHa:=fk func40 c40 (by kernel_rfl)
def Qsu:=B0 "7V9<^I4HFliMEho9uFgvr]P_;0^WoxmnvoT5LdzRQZikPg=]FNkIl?j6YHvQZ1" ⟨_,by conv=>lhs;reduce⟩
def Qst:=B0 "3_<uRbvylE]1ixew=cQAPgPd3]]siEvs[sxejZeblyFye37AiGcZmb[9[RZ0WYeFFQD8eVhlp?CKYPcTY=:[" ⟨_,by conv=>lhs;reduce⟩
def c41:=E2 ["uRYoxF_vIz83LHb7[RllQF<z]zsTZIr_]FL>A]Hl1B0Kv;ALYyu;r?tSdWQlNFsyLrk?_[bvzgX7Ut6ye3_l1P2Ns9Y_UI]k^VTt","jxYV^ieQWRE^T[Q<[n0lSL>xCINrcGHVdVrGi1"] Qsu Qst ⟨_,by conv=>lhs;reduce⟩
def QG9:=fk func41 c41 (by kernel_rfl)
def Qsr:=Fz0 ["1dmQaQX0C6x[05v2pQU>oPapg0lI8^iUyy:YF17den8vY^cVj9IFb][QoS]HMu=d]nRMIAR1eBPY5KWAw4WADa=dlm5>Rr>fAz:=","X743A<<fJJ_nqZUY3rZ7<=1aKJoZtxB2"] ⟨_,by conv=>lhs;reduce⟩
def c42:=E1 ["2o>6N7THxX4C8QEHaBlhbM4UXfDEbfCDlb_Iahj2^K4Vw]c8<Zg[_aj_vfri]<iiL84w9fHB1=_0Dvi9nkigW=wg70[qN5cPtaRo",">JZ02g]FWslcE=n=bdov>nVBIBnLghwmY0YC<f]:A6E^npjg>XacN?GJ^ZDEV:MQ]1"] Qsr ⟨_,by conv=>lhs;reduce⟩
def QG8:=fk func42 c42 (by kernel_rfl)
def Qsq:=Fz0 ["bkjo3gS?RdSuz]>uy]]gU_nBeqeX7fppF04lZf2F[biHAXcVz8IWLoQe5PnxYzWVCLS>lSbIz0Za3gWDATstPg2<lS8[EtmaQsJn","wzcfz6E4Yg4Y8Nc8W0gxAUII^Kr3>s6lIY_AL1"] ⟨_,by conv=>lhs;reduce⟩
def Qsp:=Fz0 ["vmC^Kp5:nBEm=g7vkfFr][d=3PynEe?[Qkj9IbnTzA6:<>NiFllXSCRsbJS5:JX<nGd?nna:=M5<]MVi_REbV]_]3blc82?]BkNI","NN5=J7cRs]RzvhBDhi;kR4K1E;Q1x=ZsA4SyAnR?dFJZ_4BxbZuI[EwBNPK[KBpi_3IKnNMF:Ic5_Z28UpF0KUcklqiiZ8dImP0X","2SkoD2Pj=v=="] ⟨_,by conv=>lhs;reduce⟩
def c43:=E2 ["q089?Tov3rU[H9^ycL[GkSxktQnBzl9=eM>RJYvFPM>WTsWpH4L_sR[jbA5UwF3Ur^vrKF0PiCGMkCq99GFnS3UF3k7i:CYW5d^1","Yq;q_e58ZX3pzCW22mPHlKwXaFnyd4u]=^5K<Nhbt5qklq2"] Qsq Qsp ⟨_,by conv=>lhs;reduce⟩
def QG7:=fk func43 c43 (by kernel_rfl)
def Qso:=B0 "FaPo53ixzJPuEf_s65?jv[UgAw7mQk^YYlN1d_pQEf97D;_ZIaP_4vjxX60M_w:GuEf1vh6nt=lwbzpP=7KPD?^G]UL" ⟨_,by conv=>lhs;reduce⟩
def c44:=F1 "1EUF<^bmfc^nP6SMr5ASEaUSDAuSXnBRFJiH[iGgvsC><JHV_dWqq[25^AHm;8?:s:DPYUr9]r4moU<" Qso ⟨_,by conv=>lhs;reduce⟩
def QG6:=fk func44 c44 (by kernel_rfl)
def c45:=E0 ["Ly:X;pr2_3CfCVc]GT[5kI]g7AQ=M<yS:niMbjDVoZdYqGJgRycV>Mo4>9pZPA691ywNguYT4GA5R^K[AAkgbZLiuhMjJhlEuApl","<9IuL0tY9DtSstudT<m7iPY?wsE4dFSQjV4;lQN5fl1>RCcThgCPR^H_hyJj>6RC7"] ⟨_,by conv=>lhs;reduce⟩
def QG5:=fk func45 c45 (by kernel_rfl)
def c46:=E0 ["GUmq]8gpiq>iS4L<s?ABlmfcmhUo3Kp18HT8]9rqy7I;skqpA6HToeizQtIo8gz<CJTLCH5W23JnEVL;?HEv0Z2hK0Wn9mKSPpDU","g>s[U]v7EE]hFN01Qy9zwg5rViAqrrXl:gFS9V51_K3hT0UFwt1IuRLqtlv2kTntXttLutKWExiik6xJN;i_2Phfs]081wSa2Lu;","PaZqji0khk>]x>Uj=>RYUIwCh5n:AtU:RT5ZSq<"] ⟨_,by conv=>lhs;reduce⟩
def QG4:=fk func46 c46 (by kernel_rfl)
def c47:=F0 "?:Gy_2uv[?UjTv;_mX_;9CqJsjhX[hiADWoI^o63Gt6QLYU1TeymIuBlsqfid8R7NA[FsW^GIYoR06<Esslz;I" ⟨_,by conv=>lhs;reduce⟩
def QG3:=fk func47 c47 (by kernel_rfl)
def c48:=F0 "H3bErus[VhBG0uTcgJ9wh4z>?i0rkAHv:THuK<oQ]QV^dnW6GgdfYaJIi7JYGTdyHFElSgkdD3rviHBTTgkmFtmMwWm" ⟨_,by conv=>lhs;reduce⟩
def QG2:=fk func48 c48 (by kernel_rfl)
def c49:=F0 "N2ocNUt;nPJHzuQ<Uj0V6TEt3]4R9I;6haXRMHR1EVWUB3d]7v" ⟨_,by conv=>lhs;reduce⟩
def QG1:=fk func49 c49 (by kernel_rfl)
def c50:=E0 ["g7=wQV0BxR_I:snkaLx2eXZx=sKQ2ty_Ta>i:<;vW9CYWI^a5CJDwqnzoM8YmE_IdZ;A8nkGkjWRvpJ22N;>jwEHkCrn39q^u[aU","aePDi6NA_c9UWN=Zq5PUHQi:1lKUo4Bd6p;^E6ZLG:trHaXR[x]Km5LZ?KkDRjuL<<hxUF6oInXSncQAej1RkQP4Cv>[re:oLvTv","bKihhBHzhX:2ci>tifRXvAM3KYCzSft18GqDs34iiYTod7WCh;IA3wehQ"] ⟨_,by conv=>lhs;reduce⟩
def QG0:=fk func50 c50 (by kernel_rfl)
def c51:=E0 ["F=?Jk<Yf;lL^_EGoZZzECSYH7n2sP?Myoa0jrpm=p2EFrEITLafqqH^Zx:RGJN?5GoI_equI<x8J?UI3lCod>hZkb<V;Xzks:KrQ","nhlyijfe9[m[cfHu^MA>Aq>Xcuda5yQ1;A3nn?g<m8P4?Rg[2Qfn1f1eeYr?B75HjXRxVFusTcL1>p1BxNh1soGo6Wuee;wa52ix","8jNJw_t59vtuM40dH2l0bxhKw7[SEGHo6M[Z6M7vBJ;[DGS:EdVqN<NBYRspPnq3_I7ztpcb65KyeV9ea5]rj>DWTjBz]Rc?jeYT","1ip^^o80mECC<7YiYhA_msvQteQXh8S1bEqg1pbXDwxNM=FaM3x2PkngrVm[vYMhsDxozfJpz8ZH3nu3Kcyb5iQ:EmuXv7_L9w:r","_W1f6tFD?gKRqJ2[d^ud1qSn>dsr0N^MGuI_fdQphaJJr7s1MnnrndM9r[Y85^K;sUZ]w[g:PJ17NWIA8iVxn2^oaf2l6f;JQa7>","WYTWubfxzzh5F1Uamll6W^1R8wSeAG_TLTjggHNP<pS6Mg]Sjf[fJ;RhBwB0?zouAbUu3RTJK135Dh;6KKb]U0WSBRB0A^h8P;[u","WvzotTxK>xXIMz3[lCtU>KAbpVo;YKw_6gvWUUxD=bPb0B?HT_paNXqlj1ffu^ts_mGsMUNg3^JdcpCGl_RHUIla>dkGTHbPf7j4","H3CGLxm<uHH1XB6EzzT1q?s:EuEzmokwxT8tw_ay?_VIj7welU"] ⟨_,by conv=>lhs;reduce⟩
def QGZ:=fk func51 c51 (by kernel_rfl)
def Qsn:=B0 "5I4Z6S_o13tCjbtEy9S]72e12ZmcQ:Bsd[a6WUNAV;ihYntjpQdHl1<gDERBV;0Vepeu:FU9LWE?6?Vowma1BK" ⟨_,by conv=>lhs;reduce⟩
def c52:=E1 ["doLN]nLBXSfalBT6ldaUhr1SMqL9PIJ]ZwJHfm>g8^:2[bzNal^;vgzFSBvand]Vt]Asyc9EtxpuW?h_?^rvsSGPa0l56Ebza6Ly","myT]1VUUL0E98oeXAfc]XIH?Xmq0ccUAXCoJ>EDFx^:GTb9vZG<67]LtV3"] Qsn ⟨_,by conv=>lhs;reduce⟩
def Qsm:=B0 "ZasDq8MzsD[fZlV8=?69x:DfjlJ>JnvYtrBVQBAams_RhJ:[?i<Z7cpL;9]?y92V5>alLJf5" ⟨_,by conv=>lhs;reduce⟩
def Qsl:=B0 "_6T[:XSt[YcFUb8QYuoJ3pfJ8?nTDQ2pd7bigo[0n[^4P;rUWmcFBQh:hSXGmAP_[zUYcLlEN_E" ⟨_,by conv=>lhs;reduce⟩
def c53:=F2 "D[ZgI^umA9Mp?zjrB1vw?SAxuQJMR5t:[TsK]Ve;lT?nV[5xBNdEFmM4ur1RhYG57DB3fRgctU<je;kJy7hX3x:nrm<T2N952" Qsm Qsl ⟨_,by conv=>lhs;reduce⟩
def QGY:=fk func53 c53 (by kernel_rfl)
def Qsk:=B0 "3Devn0A0cu9;HSNZtku?Bl7]Q;X_uLvXc:[r;Z5tbFqXISctxEz=d55glYl8UpN[cHy5tHZtxm" ⟨_,by conv=>lhs;reduce⟩
def Qsj:=B0 "h=L:tj;:70ed5oWLNmAHT<[dzZ;U1T0ab6wu;^eQH4Azyc2U?VgddwF8a>UhE0m]Iu;gso8LU6c" ⟨_,by conv=>lhs;reduce⟩
def c54:=E2 ["yC]faZFTXCPD=wzH?VkUd=Bqgf:QY4rSU?gpYQ8N6pdNPGsYGx6LiE0xPqtcHQ]WzcMP9]JrHI0BIgphIFG]jtR94Sp>o?3g[Un=","MQt9wq[4]20pRYHdjpBV3GS3y0lolY?"] Qsk Qsj ⟨_,by conv=>lhs;reduce⟩
def QGX:=fk func54 c54 (by kernel_rfl)
def c55_b0:=B0 "PW_Vp7VkFfe3>1P>AFpbTR<Dguu[[1g:s<s2tM_mFt6eH" ⟨_,by conv=>lhs;reduce⟩
def c55:=F1 "Q14V;bMl]eRPI86J<_L[TB<KKp:" c55_b0 ⟨_,by conv=>lhs;reduce⟩
def c55_ok:=fk func55 c55 (by kernel_rfl)
def c56:=F0 "gec6Ld7R4mbtY7veQdssCQDJ2CV12jo6q:vr2]c:zawS5jHiP3rH68x[g1" ⟨_,by conv=>lhs;reduce⟩
def c56_ok:=fk func56 c56 (by kernel_rfl)
def c57_b0:=B0 "VsZ9hm8wdUAYWp]TjLSlk:P1;iIim_Go6nD=sHjN_AHUeJaQCyRqDuL^mj<kAa0Yc" ⟨_,by conv=>lhs;reduce⟩
def c57:=F1 "a?u3?S;AEU6ru24zrc?HHh4]n^TBsQoC07P:awenfm=?ZaF" c57_b0 ⟨_,by conv=>lhs;reduce⟩
def c57_ok:=fk func57 c57 (by kernel_rfl)
def c58:=F0 "jXBYr5Mw>eswURf_6s0?N=^w7b:KtpbBdDf5cnT>ADL7" ⟨_,by conv=>lhs;reduce⟩
def c58_ok:=fk func58 c58 (by kernel_rfl)
def c59:=F0 "mRX257yF55c7a>kud2GVWbmzPVIkoyE4s_I0VNVvqPbJT4U_6UMAHGe>=?Iw?1" ⟨_,by conv=>lhs;reduce⟩
def c59_ok:=fk func59 c59 (by kernel_rfl)
def c60_b0:=Fz0 ["0Wq6:dYUsUYCb?[q6awvYXI1AmKQS0waV>Koav]sjS_y2czFp9XbQ=>N8w2pxDr;jYcLAifYUZ3_:ph7BCI7:J^8cvlzz8fPF6M9","[=Y8oVK5xySXwSTC;V_reUk_GI]krhLL7=Pdf9RrVe[AFq3Lap?M2bKam^_G1EhW_Y?esSup_M2SBYtLic>=_7[jjLox7]1a7;rv","[cZ1Rx;sP3td6JAT^seSarBL1U3RqxSn7<A0ET[A?4"] ⟨_,by conv=>lhs;reduce⟩
def c60:=E1 ["d[IP>yprnb]G1xP;jdsmFFNJ?6QHdfus1xPPGa7sqlP_lI3[Ip8ig]aeTrXwk6x^1b8_gPVx:XeQbIBPHY;WwvfhMm_VTBwwjYCk","LDpfrQ7WIKGIzqbSN8MnU7>4oSRNS3WWjTXFzt46rHq3IXyQag2_dxGRWgDP_mxAkGbUP4_JsgD?<0skaw7_xt_bw7Qd0]IADuVw","5JALu];1D6y2l]R=M;DRMcxkujfqPt<2<mRkM2Uoljrlb1"] c60_b0 ⟨_,by conv=>lhs;reduce⟩
def c60_ok:=fk func60 c60 (by kernel_rfl)
def c61:=F0 "7w<aC5X7;rB?vT8_;VeYGkbZ5CnimeH6zp9gHG^9EdL7" ⟨_,by conv=>lhs;reduce⟩
def c61_ok:=fk func61 c61 (by kernel_rfl)
def c62:=F0 "MowRhKH_LbzH<DGv<Iy8h6FVS:V6:SGzyLZjyrQHWrAc1" ⟨_,by conv=>lhs;reduce⟩
def c62_ok:=fk func62 c62 (by kernel_rfl)
def c63_b0:=Fz0 ["2XYV4qUAeXo;?Wk=_UKS:hna9ryLMFt^cnfQViD_5aES4]uQfQxdPYpMonf4qdTW=nmDuFlTG:vzS^?VQoFq]=Hd]5Fx2j4fL>=i","qSy[vd0QqW1?ZWuuK4If_M<NrnoF>4Wv0zZ?fXLl_jSl?3wYDNs6?iWXQ1GL=hwurHX_Liw>3"] ⟨_,by conv=>lhs;reduce⟩
def c63:=E1 ["WTqeo<F63L:?Li[3g<Et<>?Ge=He=_olnRnWkqa;hp:[t[9B^Wl7LS=3u2syFn1?dr^4zk>:cHYGDFU<:^j0vmv<1^J7QfXMm]lW","bTVxER=^cH>8CZ=x0rASEHz36_XF8VIqGa"] c63_b0 ⟨_,by conv=>lhs;reduce⟩
def c63_ok:=fk func63 c63 (by kernel_rfl)
def c64:=F0 "uJqe6x2FHf?Hm8;2Es1CyzRBq0VA:nv5]XbGv[pb0zHinFPBx3" ⟨_,by conv=>lhs;reduce⟩
def c64_ok:=fk func64 c64 (by kernel_rfl)
def c65:=F0 "H2KhB=vbkk9<UiV4UZGnUheJsszV?u[84oHLo99N2i6EvvFZi^_f:gSHuKtRYzIJTfqH8uB90MJ4jEW0kPAA_FBoaK4y2P[:<^AWZ;[N23" ⟨_,by conv=>lhs;reduce⟩
def c65_ok:=fk func65 c65 (by kernel_rfl)
def c66:=F0 "gRguS]>TCCYmeIwSR8fD2P>>kRSpozIJ]qR22_5_CYF4GFmaSReFuaL7rFK5=jBrfBZb2PPvCyYx4B7TXuX8pQ5" ⟨_,by conv=>lhs;reduce⟩
def c66_ok:=fk func66 c66 (by kernel_rfl)
def Qsi:=B0 "o_l0qp[LZQsSL;o?eMsT7NjpCPfYIMtS>aL?fP1?]bbPhXCjkgfCg_14J]C_QmuC" ⟨_,by conv=>lhs;reduce⟩
def c67:=F1 "YQR<b8HUx8w]8wHMZA_67Q16GGoj7[;M1H>B4FNSBwz>3=gvSbGXCe<=_uLIKYL9ML_Ijm:Nd;i3YzaMX?[BV1" Qsi ⟨_,by conv=>lhs;reduce⟩
def QGW:=fk func67 c67 (by kernel_rfl)
def Qsh:=B0 "w06TFxGZ?JzuXFuxWjTX?oX3<Bkd]8uJTR]DiE8e3I3wR0Bn2PHGuCcDc4o^d^bcbvBHIZEbphJVMqY2jce]XerX7=>V7877si" ⟨_,by conv=>lhs;reduce⟩
def c68:=F1 "iZ7mT[t0m3nr_T9rd0]tz:xWG<LMB;i9_oGnY>77481fpiwRn0_5mB0Gh_pM4wHLWTj6DWlSjL8ev4iTFJ7H3b44mkmz]bHxR" Qsh ⟨_,by conv=>lhs;reduce⟩
def QGV:=fk func68 c68 (by kernel_rfl)
def Qsg:=B0 "mrFIUtHcjt<^1kZKrINLgbTQancELxdzzh1KgGNpTCNGECaIXTF??^YZqkcutI7Ac" ⟨_,by conv=>lhs;reduce⟩
def c69:=F1 "ebEH2pfPmIU9[PeXl<B^tAvrV4faJSgUCxYAu7sfF7j]zZB>]PNERPG6NrNj34S4_E3wh_brPYMsZvmPzRgJYkM4xZdZor4J8IvHVNiBWdb<<KC86" Qsg ⟨_,by conv=>lhs;reduce⟩
def QGU:=fk func69 c69 (by kernel_rfl)
def Qsf:=Fz0 ["cnuXn1ZEmlCE4GqRMSPmQTXdj=]PEJXsdPbp81v][BDxaxmqK0;E:^LvsFgLRyid:;26d9Ykd7YBVeos8Sfim>RavEloK[^e2wgR","H;]zzsruAMIEN[sJCkD?HU=U^_1AKqMfNw^Lbp^W9Iquqs1"] ⟨_,by conv=>lhs;reduce⟩
def Qse:=B0 "oY[otjFmr6T19X1Ap9JtYnkmH5uoQ4_j3FzgQ6EYjc8fEmB>fzZU6oQT5JpL65Z]agn<4GfFl[rga5ZVs3:vK46kqAghd06G8BmG::sN:ARCV<m:mDE<xD0c4aHW" ⟨_,by conv=>lhs;reduce⟩
def c70:=E2 ["M7p9a1w>[;347kgZQe0GPBR_67Y>lwhlza1cz38T?83GWYV^YSoJGw0EWECH:vLlysNzJsje]h[JA:RXqp?Zx8E[QmIoMTz1zQRi","i4sUWgrrTw]WyplJwsJZtWoKxkqu9bp:jNB:<lQ8uQ7Wl"] Qsf Qse ⟨_,by conv=>lhs;reduce⟩
def QGT:=fk func70 c70 (by kernel_rfl)
def c71:=F0 "]lc>IiIrmVbYCne_RjI" ⟨_,by conv=>lhs;reduce⟩
def QGS:=fk func71 c71 (by kernel_rfl)
def Qsd:=B0 "GWzPXnbZNYyQXBoX9?umz]QJ;MZ1VmryeynBEzc8Z:Hxz_oH?VLKFMpQEo>:Tpo]oA3" ⟨_,by conv=>lhs;reduce⟩
def c72:=F1 "vgmQb]7pJJQYs:baBf^EHhDq4hlTC87" Qsd ⟨_,by conv=>lhs;reduce⟩
def QGR:=fk func72 c72 (by kernel_rfl)
def Qsc:=B0 "1mVgzGD3]HLv;S^<44I8GWAdX]q[74npslMFvXcjZoeYaWM7RLe]kRJ5R" ⟨_,by conv=>lhs;reduce⟩
def Qsb:=Fz1 ["vA1Ep^ax6lU[wMW5SaAoC??EBupt^qzE3rInHih4N=;hA2v0rv=3y1HC;iEBo9^tLjjLM7:hDe2IFWoSumD0m?lF:a]0Fc38nIlW","HepL_[DxeYdfLfe8j7[:<kN_n39:]SmlTqIh?6Ht:CfHvJ0lJxqtn8MoAC4rB5xC8V9vUos=jdkJ<S2j7b]6r^Z5Tj7hRL=Vono>","aWT:IQog:tfh1Uph7Y2S1lE5k^>D=;YR8f1clEwZpM??wE7<L3GYCqmo?KwbRKeB:FQiV]54=5CzgPdRcDvTkdDf[kWLp;m1r4rd","I8hl=ES7^2Im4bas^j1Sdv>HaI"] Qsc ⟨_,by conv=>lhs;reduce⟩
def c73:=F1 "b[J]z?z4gBJ;n3TK]ShGWLaZpBAwQD1lC[NXE2Z8kbH1k2pvw2_Dr[" Qsb ⟨_,by conv=>lhs;reduce⟩
def QGQ:=fk func73 c73 (by kernel_rfl)
def Qsa:=B0 "pQ]tAhsWli=z4TTV<0E>IN0XBoshtol8Rmmg^:GWnMn2fTrSzXeuYnYFgF8YJ1" ⟨_,by conv=>lhs;reduce⟩
def c74:=F1 "21JpAL3b_LLQc^I>ep_]h_ZK_bkTC87" Qsa ⟨_,by conv=>lhs;reduce⟩
def QGP:=fk func74 c74 (by kernel_rfl)
def c75:=F0 "Lu[_UFM6?z2z^zXy[zKXYmm0radgPV_;7p4AJUo[c5A1aQrDac1Ta21YcL" ⟨_,by conv=>lhs;reduce⟩
def QGO:=fk func75 c75 (by kernel_rfl)
def c76:=F0 "]lc>IiIrmVbYCne_RjI" ⟨_,by conv=>lhs;reduce⟩
def QGN:=fk func76 c76 (by kernel_rfl)
def c77:=F0 "tDX[9AQcb6oPaRl3[YZ7;HA" ⟨_,by conv=>lhs;reduce⟩
def QGM:=fk func77 c77 (by kernel_rfl)
def c78:=F0 "RT[JfkwHo38SrBrndfy=z8SUC]P2" ⟨_,by conv=>lhs;reduce⟩
def QGL:=fk func78 c78 (by kernel_rfl)
def Qr9:=B0 "Ql_eqioWvJSgJBme^P1:93ESw^8]NnbA7>s;<YPI<y:uzGUGN61vLD843lIeqxYk_pMCWn<C=W80uJ47rw]GhwT<W4xfvTFAWUiw<bnj^3" ⟨_,by conv=>lhs;reduce⟩
def c79:=F1 ":Sl16NK;Ik:hjtBV39cXau[^0ygRpA?wp:j5q" Qr9 ⟨_,by conv=>lhs;reduce⟩
def QGK:=fk func79 c79 (by kernel_rfl)
def Qij:=B0 "ELiaGRIFiytr]Nw78Cg1:cUhknFNGUC[q]A<>Qe2ZJ5xzq]qIISZ^I18?d02DoytCNEbPMIeW?SUP1PMT_:W][k=Q?ScBJfR[F9z?sdt3" ⟨_,by conv=>lhs;reduce⟩
def c80:=E1 ["4aAmsLcNG5?MfG?VCxhpEc8ka^2ZduRmbxGoIQSgqhpEV_oyCnaWfk4B8C9SF9JiTSJhtTr1>ympS?suhzIANprZ5yIctcNYdU=e","1tmJM0ClbP_8zPYTMCrIj8k7Nw7H6v46n<5>MW0b1^he_f]9n0CB0VCW>I4UVRjFAgt961"] Qij ⟨_,by conv=>lhs;reduce⟩
def QGJ:=fk func80 c80 (by kernel_rfl)
def c81:=E0 ["MtzT;oXA:o<^TS56oek8^Y7D1A>8pFmeVD<FzGDQ0MV311kTP9GtIFRAqa5A=tS3I:?JNmea3fT5vx]44AMqxQ_mr4hqErw6Ws;;","GgH_c^opaTa4>I3j01]o=FCXhIqjUk]Q8v6For=1pNA?te?1lVDA1PV^GR<KqNqn_^N9U=79Ss9tH5]DhFfrG_A62_B:S^Pj<jcU","MCIAeGb37:pDna>Xbok?HkBel0t9F13LnVGqr:qNVtP?:jjNXG2sgR2kddMR80m<jQqxp6hmp5^5XnoF7FX9b;RoA=4]:r_=hkzj","Q=L73CwC48BdwSFHcoUXDLVmVGli=y12]ZEKUy4Tax75aNh0Br:iweVYm^cGZkz<D1q1c7>CKwpkPEd1bS:YyACPQ5rdr:ngRoEl","WS3Ugdh=[eG;fZ?c7i<p;Q>>7qX_zj]09<MsHz<?WKeufsoJ59immZ]pHqdGyN00wTgmTI?axQGMm;I9rMjY0e4qI8xh6KR^FBVP","^42UoiaXjEGff=3zf6nm=50ZPUeQbcVKE2BUN0npdG^gbonXN7e:2A=;qU9jzQZR"] ⟨_,by conv=>lhs;reduce⟩
def QGI:=fk func81 c81 (by kernel_rfl)
def c82:=E0 ["URELsyVlSU^neLZ[j<GZL42oA31^WPe1f=McKFx^Hov<jnd0YXsC0xbxDh9a[k0?xNntarNTf?Vyqqr]ZFFf6M5ZJZUM5[F6erH7","E3PY__M:BRjX4:;4Q?f];7sYe1T6JF0lB=g<9rF]<kot>CJ]Xae6sel>MU5spo0]8p]n<JfX?J7nIchWGKz6Vmm]Kxl_NUqQpaup","NlvbiK]MxYAXs:aYkHEdNYQxQx8LQdxjhmJNu6a1Bwcsez>=n3bA]dXWJ0W43m7=Hb^?d9YS=>kWTRtiN1sgi4b2oWYa6K92mw]r","8uVK_FgR[460GvXIy<EbfAHP6<Nt36BBHDxr9EUXcp1P^Jvg^4GbkB>vr3FUZ?f0<<zBvN_WaMVSpnUCPZ;tC<1TqsBQyh363>Md","TKASLeBN6rpGX2DwwwXDo?DwmSxzmM:PYIS1<0Ly:fV2pFp;2cqi35wmDTZwi0i]JkdoF^XByrt4CaK[z4u;D?>A<Eg<L3:<2qrB","NY1mSm^qsU2Mq]Vwk95NS_1ssJfnzeC[6gopnL<TRKbc0:sCwm7jUhH9M;veyw2]u]PG;x9pD^te>0vt8>RGUrkgFlK<NVJ;T9pb","hw1fm:riym:Za]imk>U__EJ;y;3I]vbPa[[3CpMibfQPFUbDFEFTWq6jfuZAC1rDEsF81qpI;thzQDmyS4b>il:y^c_Ax7C>[W]r","[9nnpXe?s<SG;NZ>gtlyb3DvhIhqiQHqvpFLzsApDeKASJ6TtWmB>MpCyHBncg^::t5=Dm]pqRhzihkTc8BBkSB1ME7bokiRhNqg","ymRcEeoSZJ=HLsv4X5_3_G:U4ym<LbykVX3UyGMUaKAhZSDzr;7rQggzf;Dq5SpQK[MQ=RxADoqv7NXoRa<<1xRA?mL]]VaYe68T","H"] ⟨_,by conv=>lhs;reduce⟩
def YF:=fk func82 c82 (by kernel_rfl)
def c83:=E0 ["CkA;=X>Rrf4ACY7lq]2EuGZx0kyw>fNWmYusregqa5C>z6CjSHxmM]6Wr6lIcWpsACR40Vpe6ICtv68]NGKC=uAGXs<krgsuoAhc","a2fpR;FPNDs7?Jo[Y[jmgK:jnnJ8aPJ0rAIXQ1J7SZ^ZkK_yt9xvSrdAi2gqERRg7j^ISlH9Ad=n4?0;^YX;uDR1bqSV2eCsttI]","5rR6ZSFAyco;JHjBTWG85u2<KM2QKviVAhm=Hrl0qKLg0GF]F_Equ[llryy^tKqA<?:oh^p7MS>Q22Rjt]avzW8w?58U6IqpbU?j","bQYHRx:o0yLYj<7a^I6uQMaUpDy=qXl_[G9l0rGJ[[UrVqGzveCdG:]4f3QVXdBB49vVdiw2nmm02F7AtDd2dTca6cSzSVzNzFI^","1gTDFbmwfPFJC:1na[adcIGQl<xhrX9S093rJ_=WRQV5?VnwVEecETv9f7wtiP?V2C4w<yzqpe:fuM;:VISJh;1NRb?LvZR09^K_","bnElF9MkSzjEwbKhUQ3xmJdKIU4Y<Gwk3V>VEmMFSEDHI>F[Bg6MenM^3Z=V7q^4>>[ErSJ5bDB0Jxdrv^J5]EKqsJHaJJ:=o]<:","co?5edfkVdvH]r>]ANq^IEDD7>ptskcKJh0rDA>HPM>^GmcyCU>Z34iiZRFuh6?4KA_Lm93Xq;vDn1ZCAInaT808jMtBw^:Wjn2E","P337sEV6k:3vr?KFF9[:a=?EZY]Tt7<jxgY<K:[qh>ezCr_5<Wrdp<quNMG5U>amN[3n7GcujmzTvZYpK6<W?fix?Si>y3Y=8gyi","Gw]>f5]qUwumwLM>eYV]XF]EB;mY8n3:GyH994l<r:qQBjqo]tlIs2TIJa^n^2ZZYu51<>WVBpWd90elrX1NDgtYf:tc0sjSuj_w","AdENazdXzZs]doMtShwi8:G<;dV0H[<QYX1?_u^;91NyW0LL4GHkdu4P;C4b6smTfUFXYYq0dHxT=zaAC2h<RtKw]7[HHTgubBPJ","wklb1sfoQ?uEw:Zc7EusdBXs;0PSRB^0_HH<q[Ro6:Zj?oV1lni2CnhRAgo_6ExfqYlxqmrf9jBqyQiqQpS4Wmn7K[pk4LoVsxUk","HcTX=r2;GoRoHMI"] ⟨_,by conv=>lhs;reduce⟩
def Qa8:=fk func83 c83 (by kernel_rfl)
def Qdj:=B0 "Y]aN;BrN3" ⟨_,by conv=>lhs;reduce⟩
def Qii:=Fz0 ["BK;6Bw[knte2TAy2s_R3cdy7V_Ie:QGtr=yDT8xyJnLFhQ4FYpQPj3m2l8]QbI5IivZ6VW_??zS4_FzjTC:wlIR;z;Q<yV4Pqtw[","ngudfak5B_Ex6DuxRXZx[<au=E:YImjw6:W8b6;VyVC_];mjJIIrxH[:Xl"] ⟨_,by conv=>lhs;reduce⟩
def c84:=E2 ["xJFimVEt11SHmEW15xmSSaeFLVIgVJ>D1NeQ=C?6AI=[t8=jjm^QjhDBe1suABRoGqu[mo>Eg=RW0lRCpFh4KqkaA>q5vs[54d1X","S]AK2B3gIGKx2cAoF;pg6iWTGi3][?o:DDHX8?HFZ2]dk:SD>d[TecdniJcvN2"] Qdj Qii ⟨_,by conv=>lhs;reduce⟩
def QGH:=fk func84 c84 (by kernel_rfl)
def c85:=E0 [":dbAy1yHDmue5f=nnp>Y9jaRxjoNM:LN^epXWBQaC_49SkJpd<p3vXxb1Tz?2SifKRkrQRZM_L8wB4PgJV:Yy;5]ci4]eQu^5r1P","tYK6c1=f1i9q?wa3A12?QBSy8J[AIVXaztC^dAGBMK5MNnp<0zHD1QpfyfYM2:lXQn7>uYKid_q22"] ⟨_,by conv=>lhs;reduce⟩
def QGG:=fk func85 c85 (by kernel_rfl)
def c93:=F0 "wG5S>3Qm6zu_pEupPhaCPz:D5yfa^8U]LzDn06h[gtXFfsfUMfGb?p[l^3RnblGa3<" ⟨_,by conv=>lhs;reduce⟩
def c94:=F0 "bT9YkvTRyR>JIgLdQ]L>1LilCaoE1ydfKapd_GrsM?^P;bF" ⟨_,by conv=>lhs;reduce⟩
def c95:=F0 "qvfDt>8_r:K8H3^cdnjTPdhe3WsX" ⟨_,by conv=>lhs;reduce⟩
def c96:=F0 "0MEl<6Ra>ga5j=f^cQN^Z1Taqc" ⟨_,by conv=>lhs;reduce⟩
def c97:=F0 "9;Jhuv=S9JzY_?BTUHUCKYD=3LFc?En0c=i9RyEJBfychiYa6lwK;qP[AR5UAY]AumNty<cEhycXz?6a" ⟨_,by conv=>lhs;reduce⟩
def c98:=F0 "pT]rY=Z6IfzNo?f^cQN^Z1Taqc" ⟨_,by conv=>lhs;reduce⟩
def c99:=F0 "DXiuBB_Gtec6rAf^cQN^Z1Taqc" ⟨_,by conv=>lhs;reduce⟩
def QIm:=F0 "e[txvEdXSeIjtBf^cQN^Z1Taqc" ⟨_,by conv=>lhs;reduce⟩
def QIl:=F0 "yebR]ZZthY<plUHuXCFP]JB39dVih2NMIGXJD[jbJ5maK" ⟨_,by conv=>lhs;reduce⟩
def QNj:=F0 "S7Sk[IV;jL^FGoz5nX1" ⟨_,by conv=>lhs;reduce⟩
def QEs:=fk func102 QNj (by kernel_rfl)
def QNi:=F0 "x9bRqIC3HlN3lTZwoTeglsqHcUkYSRVNMDB<U]rgZ32" ⟨_,by conv=>lhs;reduce⟩
def QEr:=fk func103 QNi (by kernel_rfl)
def QIk:=F0 "hiV6Sgdr5uk?ClvY3DJ[[]lR;XawikgMIGXJD[jbJ5maK" ⟨_,by conv=>lhs;reduce⟩
def QNh:=F0 "3uSr:<<MXNonDiRdXP[toYfvYVkYSRVNMDB<U]rgZ32" ⟨_,by conv=>lhs;reduce⟩
def QEq:=fk func105 QNh (by kernel_rfl)
def QIj:=F0 "=DujRRxuH:JkQ:VwGUBByLag2r78EM]qHfwA" ⟨_,by conv=>lhs;reduce⟩
def QNg:=F0 "vmYizPMGuRvDURE3ix>hW4" ⟨_,by conv=>lhs;reduce⟩
def QEp:=fk func107 QNg (by kernel_rfl)
def QlX:=B0 "ZWXii[:gzgLSFZ:dWWNDPlvVa4i;WR_[oXGZw3LYH7pLmSPi;Vp69welQ]Gv2" ⟨_,by conv=>lhs;reduce⟩
def QNf:=F1 "k7viFzoYXPzd:0uF]BxVm_Dx?Tl3:Ucu^C?:4npuSUJM3:N=Y7AETC9Qfi7Bh9Jad5f[YRvIH]KzR8QkGP8" QlX ⟨_,by conv=>lhs;reduce⟩
def QEo:=fk func108 QNf (by kernel_rfl)
def QIi:=F0 "4<2r^jzAtbJD_AIDrni>SEA8X8mt0ftFtm6xDgK5wqgX<AF3xK^^;" ⟨_,by conv=>lhs;reduce⟩
def QNe:=F0 "w_VrU]En2=63d^:E9IwzWIuA9DMjACqk5" ⟨_,by conv=>lhs;reduce⟩
def QEn:=fk func110 QNe (by kernel_rfl)
def QbQ:=B0 "9Y5ao:TqoSZlw2" ⟨_,by conv=>lhs;reduce⟩
def Qgk:=Fz0 ["28h57uDgH]I=m<A[^Pl>JrS<1I5PyN9En<PY5SoX0[Mz;oK:^MR8:fkaUnUKmp=G3gu<<>2h5;mSw6a5PXfVG>xZr4=j?vHsGABZ","NdBY[4^6T3Ulo2unCHPvIsr7x4CR>Ke<^[U>7U0[=RvB_gF4<tX?qmg4"] ⟨_,by conv=>lhs;reduce⟩
def QNd:=E2 ["xngD>Jo0I[S1ec3QtgeryjS597_zYagDBNLLFUFST3rhx9zHTl0[5=P<gcUkJ5f33cNv2Pk4ggm24oZRmr]S^:wG8I:T3d;Nk0:=","oi_j850rjosR>_o<xr^U8GoAN<jDVD5cH;DqXIwI5"] QbQ Qgk ⟨_,by conv=>lhs;reduce⟩
def QEm:=fk func111 QNd (by kernel_rfl)
def QIh:=F0 "SFvaxi3r0[JzVM0RxVMMj><DG8FeGYXcHEDR6a>lDdL7" ⟨_,by conv=>lhs;reduce⟩
def QlW:=B0 "<k=Di0L?b2kNPpjtizeyyohwqJ[Va^LrL0oe1IVab^5?vr?K1EsmrcgzXMDn?mL1Rb0LLglpph7MAuryWL5G9" ⟨_,by conv=>lhs;reduce⟩
def QNc:=F1 "UfDzT27CVGp7lEDkmVv4rRQtcutVHpJNe06q]?1>YVfwKLUQ[FLb>6ETk_FM4ktvcPETTm5tUjb5t;n]xSID:7yahwxsKSWtBEAF4LP7?h=05^y585J>yD3" QlW ⟨_,by conv=>lhs;reduce⟩
def QEl:=fk func113 QNc (by kernel_rfl)
def QIg:=F0 "0vQaP0I4EfiddT5bcLtqX1ZFPNwZdrn1;s8m58BlDdL7" ⟨_,by conv=>lhs;reduce⟩
def QlV:=B0 "6R?IaIhz;zcv[u3J=H7T;G7LU2KDL^nnPqDrmQJwjnjYlAzdW4pwe<NVgHu_yBv[8rJwCa;IIz446JN_" ⟨_,by conv=>lhs;reduce⟩
def QNb:=E1 ["wrVEDp[FWy_oWHFFn9jEThcvgSX2>zmHQ9nqv>w0_Bjehzc?fmg3w]obPb:N;<uYNg?aNzAhNDuf1HfDM7q;YnzBI;xNrgfKkYXl","UUZZSoA06R5n>dN4]qqmwoQCh]FflIMaDKjQvvhH"] QlV ⟨_,by conv=>lhs;reduce⟩
def QEk:=fk func115 QNb (by kernel_rfl)
def QIf:=F0 "ADtQQ3Iwzu5uVkcB5;ob7STE8WE54GDgoe4" ⟨_,by conv=>lhs;reduce⟩
def Qgj:=B0 "f^xMfzD338qUCz2" ⟨_,by conv=>lhs;reduce⟩
def QlU:=B0 "HuXRhu4^PVs_Qemm=tDCzgv;8Cpgm=Y_FHwZhK?8FhctH2ryiZA2" ⟨_,by conv=>lhs;reduce⟩
def QNa:=F2 ";tFrE;FD6Nc7oXtK_F[qj?Zyqy9h_l;4m^MSxUJ_?nqwZ71_DRK[Hmw53zJGC?25byfCuHs_F<P>8Cn2Sn]_sIJ=qSzFF07oaW1AGDbh_ioNn4:L" Qgj QlU ⟨_,by conv=>lhs;reduce⟩
def QEj:=fk func117 QNa (by kernel_rfl)
def QIe:=F0 "fQyRQpdDK1?kN]hGlCHNP6Bzbk[3oHDgoe4" ⟨_,by conv=>lhs;reduce⟩
def QM9:=F0 "B8aoJH3Glz?:aVgRDLQVKuAo<53rxcFPFK5R[9ZEccZKKXFC>VdJ^gRtVgo5mo]To<8ewZV]g0Fhs<C3_W7v4k3yzZm" ⟨_,by conv=>lhs;reduce⟩
def QEi:=fk func119 QM9 (by kernel_rfl)
def QM8:=F0 "U4yNe0wyL>ogX<u;VdvhlWd3[2T3YcBYF1" ⟨_,by conv=>lhs;reduce⟩
def QEh:=fk func120 QM8 (by kernel_rfl)
def QId:=F0 "U8kEAkQ>1AmQ[Q<SxuU^xPuhY<5K>?tlwv>55tDlDdL7" ⟨_,by conv=>lhs;reduce⟩
def QM7:=F0 "oW1e?qwyopU4zaMjH^>5b^M_mB5XiN7okGqjJhM1T8zoZjTy2cVikx65XA6" ⟨_,by conv=>lhs;reduce⟩
def QEg:=fk func122 QM7 (by kernel_rfl)
def QIc:=F0 "qB8f9tT_<]1i9hX54HF=q=TQ5pl6TEDgoe4" ⟨_,by conv=>lhs;reduce⟩
def QlT:=B0 "HlY7[2b9uJG6X3DZ2^PD<0QX0phNSy[inaHYk>dWa_BlVHBhf7k:nUV00s?lJpGFeyD9a" ⟨_,by conv=>lhs;reduce⟩
def QM6:=F1 "Bp6]B_bBLG=CeyePYDn[GyE5RSxnJx2NZ]Vev?Rfanrj5ojGQfCvBSw8>KU2YI7f^dUrUy0mFZW^wr?y<]kEJRwz^VApz^Y" QlT ⟨_,by conv=>lhs;reduce⟩
def QEf:=fk func124 QM6 (by kernel_rfl)
def QIb:=F0 ";C3=8l_PV[Nor]LcBC>6:9Bzbk[3oHDgoe4" ⟨_,by conv=>lhs;reduce⟩
def QM5:=F0 "K5ehJ:0STb[Dp[IUWdvhlWd3[2T3YcBYF1" ⟨_,by conv=>lhs;reduce⟩
def QEe:=fk func126 QM5 (by kernel_rfl)
def QIa:=F0 "a;1Y8HQ:Uek5npDuhj5PPcAg]jp5SFDgoe4" ⟨_,by conv=>lhs;reduce⟩
def QsR:=B0 "^^gJB]wTIwrEAXfux]Aqbw?fN=^lkZQvWMypa_:7WnMld_Qty5M=H2" ⟨_,by conv=>lhs;reduce⟩
def QM4:=F1 "RBQ13N78D_pJP;rePAq]]0EgaQ<mF^MQEg15;oL?<k_DoF<M9sj6TWvoNDj6^dlB7jTLK1s8;P?msr;K3STFA9kAHDJzmhDkhd_k]6:t9rR5ZcD2K81gI2h0JWA^I6" QsR ⟨_,by conv=>lhs;reduce⟩
def QEd:=fk func128 QM4 (by kernel_rfl)
def QH9:=F0 "Rj2l0yNq>YpPa=U2Zj2bHdAg]jp5SFDgoe4" ⟨_,by conv=>lhs;reduce⟩
def QM3:=F0 "E709;SR?v]lbY6ljDC3E9ikqaJrI03T;Yv_5YyZZnLGYCEUGze9Y8pa]ZaBfpzgdluwt>IKFH" ⟨_,by conv=>lhs;reduce⟩
def QEc:=fk func130 QM3 (by kernel_rfl)
def QH8:=F0 "WQ9LlUh2CbGkA9tUNvZPDzk^qJ_=uxIYRA41" ⟨_,by conv=>lhs;reduce⟩
def QM2:=F0 "M68c6S]eFiNwZHSCEle<v=l1:Ha?avySYrWsX?4e]EG615KDZC7Xi[=>uQiBEtNRi" ⟨_,by conv=>lhs;reduce⟩
def QEb:=fk func132 QM2 (by kernel_rfl)
def QH7:=F0 "BGEgUMiViJ^zn;4t?x[SDFjX_FeGRoIYRA41" ⟨_,by conv=>lhs;reduce⟩
def QlS:=B0 "jNEqRj75kcYew51q>D;[BX_Fo;VnMmJsvm_l1LKskZvvz_r=:" ⟨_,by conv=>lhs;reduce⟩
def QM1:=F1 "urM0PNpe9P<nV?bjbseW^AWQlwEPUGN4S3bknaoA6kwL9LN5lc:n>yLx8ihYyyF7?cWYxlmbXeLal]1b" QlS ⟨_,by conv=>lhs;reduce⟩
def QEa:=fk func134 QM1 (by kernel_rfl)
def QH6:=F0 "hDozy04;g;oh;cSy0IiRbGhXtwxHmK^nD6K<:QTdRrAc1" ⟨_,by conv=>lhs;reduce⟩
def QM0:=F0 "8XudmDI7IC2KYbv__pvjkA0yffZrEsqoN0bk1We9XbTGLPJ0mZNPXNsNs?FY5^I<63VWDU2veYZiRLHr?4RuXzL97GL33" ⟨_,by conv=>lhs;reduce⟩
def QD9:=fk func136 QM0 (by kernel_rfl)
def QH5:=F0 "^vsiu8QkpNQ?N7gMBBX>VkFP5<T5p_vfH[IDR;FcRrAc1" ⟨_,by conv=>lhs;reduce⟩
def QMZ:=F0 "EjcPbiYpKgS;2mH??rMi3Fr1x[it:By0hmyfan:zC5TW=rNRMsJQF3t87ZA1P2]:S1_aTH<o<mLeIsqVsvj?fh:VzX9d<BUPQR7CF" ⟨_,by conv=>lhs;reduce⟩
def QD8:=fk func138 QMZ (by kernel_rfl)
def QMY:=F0 "]DWxql4PTqNH:YRkVxsRTki9?i[rc8d<3KFUcXq]Iaq7J:8dMpNLxkRAZcoGCYEZze8XAxi>tYCL?" ⟨_,by conv=>lhs;reduce⟩
def Qgi:=fk func140 QMY (by kernel_rfl)
def QMX:=F0 "J?A<k3T^ZlGIzipp[foEBxzX3cP2" ⟨_,by conv=>lhs;reduce⟩
def c141_ok:=fk func141 QMX (by kernel_rfl)
def QMW:=E0 ["7Aac2rcnfGcvNc_yinzeFke78^uy9bKZQ^lua5[_y:XSkTrrgT8;hpLmTDkvkMU?P:Gmj^KsQ94nL;nYoAsAaz_XE>c]hJlUwHfB","2kSk7sBY4BpswyBEumT?7:gitW>;eWR^69wlI8i7<T3PpPvD4KCSqRI1quRKsPXNfRk4qn?ZVLcx0];>ZuS?iN6RU]6YaQgP_[j7","Wl]yIwbJ54"] ⟨_,by conv=>lhs;reduce⟩
def c142_ok:=fk func142 QMW (by kernel_rfl)
def c143_b0:=B0 "yXtXVs6Zrw0WKa=Km2B<o80_0<T1mdRSlpI^?G=IN4S?BbqJu3" ⟨_,by conv=>lhs;reduce⟩
def QMV:=F1 "quTiKY]VUb[j>HxmMJ[p=QcQxWJ:blo[F1" c143_b0 ⟨_,by conv=>lhs;reduce⟩
def c143_ok:=fk func143 QMV (by kernel_rfl)
def QMU:=F0 "=f81xCx7=[jP[rAN<jM1Yd2R^>0Za;Z2<WPTGIeexlPeTP99DG>TlH[^D1dm]Cq30G1e5GSVGr^Aw]MCYrrJpqTlDYH[5mi1EZ1" ⟨_,by conv=>lhs;reduce⟩
def c144_ok:=fk func144 QMU (by kernel_rfl)
def QMT:=F0 "?LC:51<7DGhPqWwhgxZ5" ⟨_,by conv=>lhs;reduce⟩
def c145_ok:=fk func145 QMT (by kernel_rfl)
def QMS:=F0 "Sab]eyikgy0RqWwhgxZ5" ⟨_,by conv=>lhs;reduce⟩
def c146_ok:=fk func146 QMS (by kernel_rfl)
def QMR:=F0 "UDoGFVGP3=13Ji4HGmDn5aLjR9SiRF7UhY?[2F3[bZasVrcLd?u_M>xN6FQ45" ⟨_,by conv=>lhs;reduce⟩
def c147_ok:=fk func147 QMR (by kernel_rfl)
def QMQ:=F0 "<R[]EKKfq:vqCRp9?s9Bo2e;>1u6QAH0Pn99ExSEh0GIh;oCD6_agJox:0vKxw]RaBy3g:;3Z>;gL^zsjy]I>3cdXK3Y^D1aFe3;;SLHv7Pr7Fr64;f8Sy2I?9" ⟨_,by conv=>lhs;reduce⟩
def c148_ok:=fk func148 QMQ (by kernel_rfl)
def c149_b0:=B0 "JNpLxpUUCLEpGN1?2bDiIZ<e9<0MvhvuYxoZCWDtGhkA=Il:QY0csg<;WGie2PoCm<a:H1>ovZG" ⟨_,by conv=>lhs;reduce⟩
def QMP:=F1 "N]eI2Qa^UD:[ny<jbyyT9sPs]>DxwXq99>2ctN1W2" c149_b0 ⟨_,by conv=>lhs;reduce⟩
def c149_ok:=fk func149 QMP (by kernel_rfl)
def QMO:=F0 "sfM=BpJ6ko4]q9So]6KDHFZeHRbt85PFtKjSXq9;ADL7" ⟨_,by conv=>lhs;reduce⟩
def c150_ok:=fk func150 QMO (by kernel_rfl)
def c151_b0:=B0 "QThedPX^D?Fc?srGiSAQNwq0ZR_gUGH8M??CWVNZLK>8ITn?x^p8N1^z9geG7zI6x;" ⟨_,by conv=>lhs;reduce⟩
def QMN:=F1 "^39h?d]LDnjQDW8y1YNe?L0ZT]]6[Q" c151_b0 ⟨_,by conv=>lhs;reduce⟩
def c151_ok:=fk func151 QMN (by kernel_rfl)
def QMM:=F0 "QYc3ULqVGD]jTniKYmGiwApu0hP2" ⟨_,by conv=>lhs;reduce⟩
def QD7:=fk func152 QMM (by kernel_rfl)
def QlR:=Fz0 ["3Dk9>ma2itX4NgPGI>97WI:x7Cd5fGcYn3Zk0LSrbjMvq?^=]6qJ^fPdhu77Lnp[LBLZwwWdyuxXB8Q_Sqthi^^4XTylS[NZLKkA","kMvMTa4qZg81<jDoTEt2VS_9QSQXfIblktAq91D:7"] ⟨_,by conv=>lhs;reduce⟩
def QML:=F1 ">Gz7ScN3AD58<aab8QUDP_s2n?zasza^VJh]gcqG^" QlR ⟨_,by conv=>lhs;reduce⟩
def QD6:=fk func153 QML (by kernel_rfl)
def QMK:=F0 "tfbsEg7eq1P8axEUNHryw_CP^3CImn=iGnNeyy3KdwgZlrXp7XuBbxNZ>PSD6v=r8SJZ?p[fwyrICoS4pXvJopo2bSHUvaCGcf;klw1i938s8" ⟨_,by conv=>lhs;reduce⟩
def QD5:=fk func154 QMK (by kernel_rfl)
def QMJ:=F0 "Wn4?GFPPny2<Ate_RjI" ⟨_,by conv=>lhs;reduce⟩
def QD4:=fk func155 QMJ (by kernel_rfl)
def QMI:=F0 "B7>4o[A9]P[igEo6vomxQ5Yqw?Qb>2=l5" ⟨_,by conv=>lhs;reduce⟩
def QD3:=fk func156 QMI (by kernel_rfl)
def QMH:=F0 "T=uv??w1z?:PfVH78MgqbgC8;u^r2FLSq^:TkBvA?[aaooEFq;UN:5mlBK1Xlm<lj" ⟨_,by conv=>lhs;reduce⟩
def QD2:=fk func157 QMH (by kernel_rfl)
def QlQ:=B0 ">I6dsAiU>hGuEWP27gDc<[FAbENumQwPxRk580EQ:yjRE7;Ih3xxGEoHqCAWYr9W2;c9<0df1" ⟨_,by conv=>lhs;reduce⟩
def QMG:=F1 "b3pUTUl6f8Xu5RsWp?GnHmh;JyI:w^7U6l1paBVav_KHRLBZyja=obAX]tHKg8J5ol6rsV9jQ][rABs]4btH:R5" QlQ ⟨_,by conv=>lhs;reduce⟩
def QD1:=fk func158 QMG (by kernel_rfl)
def QlP:=B0 "[9t7jQWm8wXeQBeLAzoZaUG<E<vDanoIwRZgKACv7VTvB7;Ih3xxGEoHqCAWYr9W2;c9<0df1" ⟨_,by conv=>lhs;reduce⟩
def QMF:=F1 "JRV[7EMFmqQ1Cgmycp50pNua1kDXXhJ9bXY]0=1Y?MjoZ:RXSQC;cd]G26Y=;p8i:Geallf2SCLTHwua]67?DtbD" QlP ⟨_,by conv=>lhs;reduce⟩
def QD0:=fk func159 QMF (by kernel_rfl)
def QME:=F0 "_uyj9yy1D:ucySa?dm>hW4" ⟨_,by conv=>lhs;reduce⟩
def QDZ:=fk func160 QME (by kernel_rfl)
def QlO:=B0 "^45ldx2NnPYsZa:nrDb6^nnyUkgJgA:wS36TV0<=PNj2FTp0H4Ff1u0b<IL;8000u2:dnn7MFE:ER92toz6pGR0qj7awCTl8jSkJgooe36BKXHP1" ⟨_,by conv=>lhs;reduce⟩
def QMD:=F1 "_vbuja2;[5]zl27kQINv9Y3LWAlEew4g[:7IaFyK:4gZ4]PUjTi7m8<2" QlO ⟨_,by conv=>lhs;reduce⟩
def QDY:=fk func161 QMD (by kernel_rfl)
def QMC:=F0 "aESI^Kd<EBbqGmwsya7ANF=1uu<B9vl[F1" ⟨_,by conv=>lhs;reduce⟩
def QDX:=fk func162 QMC (by kernel_rfl)
def QlN:=Fz0 ["<FzoT<VDR8Zyv8NZQ56iI?F=aSeS?;1kQ;XT1=P3XvDj00VQYL]xr[ISjCd=nBiGHN2S?sNpNHNJA1Kg17TgfG?FM]Ag^oFon;L<","WruRpi<lClh6sK0;G=NrT9v9cHtNcT<^5Vs]hGo:IiBG46T[3No4Vtq[I"] ⟨_,by conv=>lhs;reduce⟩
def QMB:=F1 "5R:XhcAWHtz[50I]3dYZcl5G[]M5ww5gCoCG6Ega=P>pBGrI<BLWbLhwE<iAbNUbiaz5VyevyxIxx6GH<o:kQR5" QlN ⟨_,by conv=>lhs;reduce⟩
def QDW:=fk func163 QMB (by kernel_rfl)
def QlM:=B0 "nNqsNgM]RycA?SHdrARWJ0G^AZK9HkwUQhn1mXWvK]deg>W9ate]s:fyGimTyLF]gIW7yhS" ⟨_,by conv=>lhs;reduce⟩
def QMA:=F1 "d=?9JS>[eKDKgDzyQq_=u0FP9QmsC[NXNdGz=;VytXJvIL0Q;t8A4_KUH]La1sirkKXF:203W3zbq:2b]67?DtbD" QlM ⟨_,by conv=>lhs;reduce⟩
def QDV:=fk func164 QMA (by kernel_rfl)
def QMz:=F0 "HKcHc_WA0=nEhEjbKzZcj6wMJMuPXb2=LW7u=Q0Cg7[xx^xmkLaMfF3Rebg82W6Z=sPSaSj8p0imvGZPg:Dw^pw7bPe0hbXITp??oTZjfkUekRXUa5mF;?2wZ" ⟨_,by conv=>lhs;reduce⟩
def QDU:=fk func165 QMz (by kernel_rfl)
def QlL:=B0 "uHBWhAxb52QFZsLfVmNSDREqYKPbnF4;p8=grY0i<EMv5ZHE48c=4tHLAVt^PEg<_uPJriCPYo<cx_9nL1Np=8LVML6jeAMfiT6mU]SgUh8yoJRx11" ⟨_,by conv=>lhs;reduce⟩
def QMy:=F1 "b7tQQcbNUJb9tRiaPxAIPM4f=SssERxHUghdNp_>s09v4R0S6LZya=U8Znb;YekxngtzBl1" QlL ⟨_,by conv=>lhs;reduce⟩
def QDT:=fk func166 QMy (by kernel_rfl)
def QMx:=F0 "SUd9SXJzhSd7wwvT;[FTqnTHEzfEan<BBmFUohj4TK2Ev]qW5[o7pdBK5diJ]XPt5>iq[GNpByKfXMrBs:Y;gB[PG;Pk0^4sS1?MIMrm=" ⟨_,by conv=>lhs;reduce⟩
def QDS:=fk func167 QMx (by kernel_rfl)
def QlK:=B0 "8P^ns6Wr9u[Ek:PlAUL>kJ2T<0hz6CAqh_VrLjyBuqt4vIlb87eL^UdwN>hBwCyp>uWhj7" ⟨_,by conv=>lhs;reduce⟩
def QMw:=F1 "eSb<^kjM=;S^b:k]H;>xZf>8M>Iyv_cfUCJfP<d^00FEgcUWCJwJj7eTnmT4u_5:[x86ilR6jpp;h9Rz<X" QlK ⟨_,by conv=>lhs;reduce⟩
def QDR:=fk func168 QMw (by kernel_rfl)
def QlJ:=B0 "ri80hr5Qf7>xoV[=src?Ljvo__ySK[7s4Ct^yY6ZUf^kIEQ=I0wecz>;el]3rG?C=1" ⟨_,by conv=>lhs;reduce⟩
def QMv:=F1 "tw26XJ;l51Fii3ltXg=HwTcbhf>kJNfxMqwyfsSKa1y8gE?9rQDYV7py;rQI3^E<uc2eYq3=dbDS^Ej:DgUE>4_2F_A6KHJ7C7" QlJ ⟨_,by conv=>lhs;reduce⟩
def QDQ:=fk func169 QMv (by kernel_rfl)
def QlI:=B0 "D;Jko3=Zj]?MclK_LA>M?^sl0b2JIS_]uNy;nFlMRHns58dSzV:Fwh>BkJie]gNEr3ZFGthxE?6<H2;Z<wcl:g369c" ⟨_,by conv=>lhs;reduce⟩
def QlH:=B1 "RrCH8mp;R5xvJIEI5x4z5pYEgT4j:30Uz:=b0t0l[CsdX9?u9J[jt5:KQZQb?[J?s;l<tPSGMF6b54" QlI ⟨_,by conv=>lhs;reduce⟩
def QMu:=F1 "GCxnWTv6ch9_bkCfmUV5F>]M2ET;sUmA_dInZRl_[:^EAIWIy8CEMpt2vfWALe2I5AyZD28rE?NDVWv2" QlH ⟨_,by conv=>lhs;reduce⟩
def QDP:=fk func170 QMu (by kernel_rfl)
def QMt:=F0 "h^>qUDisUy]_XYq4i6FWJTayGkWy4:^DZ<jo?0D>QAsYYyEtXP7QfEaI3:BP7XR?" ⟨_,by conv=>lhs;reduce⟩
def QDO:=fk func171 QMt (by kernel_rfl)
def QlG:=B0 "=ZimbWQewkC1J7nmnp1lmfpG2<7BHda9lHFBcY1leewi?wdFKcgK3RTboJK1" ⟨_,by conv=>lhs;reduce⟩
def QMs:=F1 "Mx<Go:?TtNXjk[Bgp?9UDNUrpU2g6hP=6;bmQ1[>9I<5NJ8Gkp:nLpW^BnG3goCDxzs;3W4^eB:LT_ev;NRQ^n^nB3wHfpy_N9n1a51" QlG ⟨_,by conv=>lhs;reduce⟩
def QDN:=fk func172 QMs (by kernel_rfl)
def QMr:=F0 "HqR_N3xpjyS[3uK]?;;bD<vWiYoIpt<VV=l]jTBt4eE:8svCGhe7s6JXHnrL70hdluwt>IKFH" ⟨_,by conv=>lhs;reduce⟩
def QDM:=fk func173 QMr (by kernel_rfl)
def QMq:=F0 "KtClU^PGnMWZ2uPWRx[ah=^jYqF6y;fTtClFEa_D:<u2hkBJx3" ⟨_,by conv=>lhs;reduce⟩
def QDL:=fk func174 QMq (by kernel_rfl)
def QlF:=B0 "GL3eXcU;>cY7nwmeQaX9ZaJhz9<V70Bue3JngI1mTxBbXgpgSm<K" ⟨_,by conv=>lhs;reduce⟩
def QMp:=F1 "LmY]p6kn9s9k7Pb5jwS0MujD7?Y_:YMJT5BgBV]hFo0vR=E7u3pyXEr[cW9smJb[j" QlF ⟨_,by conv=>lhs;reduce⟩
def QDK:=fk func175 QMp (by kernel_rfl)
def QMo:=F0 "cqWf6Rv[r;0D<g0?L4R^Z>JiMdUZU0L69JSenTSlVRpcRVRzF4ws[Dvni]5d^EpTVW>xtjmV1" ⟨_,by conv=>lhs;reduce⟩
def QDJ:=fk func176 QMo (by kernel_rfl)
def QMn:=F0 "7jjG7:_WglKnnD95WBSBZlylXj;50uKu6F:rClSHjNyula5ZGxXLV>DQIu=hV7Vaka07hLP0tUm^xw[QL2" ⟨_,by conv=>lhs;reduce⟩
def QDI:=fk func177 QMn (by kernel_rfl)
def QlE:=B0 "8KkjH]GpiBXMH6m2Yxaf2ml;anxGUYwQk78[lZzH0Y:jYX5q9EFRnEMQBiS8Z?[vpkFmgzq]yx=gH6R<wvVS6I75=RFVEAYKwEXWzKHtb1yH<" ⟨_,by conv=>lhs;reduce⟩
def QlD:=Fz0 ["8X3S5:AcBMYkG8C^X:AVeWeW=fqT7iullQnFczB_1Z4UscdHv2iPc5v2l?zRaT96e<^p71BDahiEc1F>6RoWK5njRv;w55_EoRFs","?J?rcR3aUQV0W6_FoufRmKJs3dPFb8]CX1^Y]Z6?;Y4"] ⟨_,by conv=>lhs;reduce⟩
def QMm:=F2 ":qYTNrnKhSJ>ffpvCRl1ZrGRV?Ru9]Hgpgoj<2X1Xr1IWRRlPa7<za[ddh2_Nmh2DsF2o>Eq[_Wnr:hXqsTYKqbsj4PdWW_1G2b:ht;>?ktHd;NN[MQiY>" QlE QlD ⟨_,by conv=>lhs;reduce⟩
def QDH:=fk func178 QMm (by kernel_rfl)
def QMl:=E0 ["wI<_;IL;uDsNVxZ>37xJC<PqcPrKfp9dyZb=a255XlqmHg<r9RDVvVM]4RNAga9Mc2gQ26>ca^>=RG_w:<nBGBo9_4t52pI_cLEX","gj;DY8=]kHB5Mn2pT>Gy[A__P4sTzkE>bm=32t^NWwRigN[N]lg^VL[w=TUuJeqNSKtCCGGpc4J=AgfE?huU=D;"] ⟨_,by conv=>lhs;reduce⟩
def QDG:=fk func179 QMl (by kernel_rfl)
def QMk:=F0 "QYc3ULqVGD]jTniKYmGiwApu0hP2" ⟨_,by conv=>lhs;reduce⟩
def QDF:=fk func180 QMk (by kernel_rfl)
def QMj:=F0 "8I>UxKeCUxrjq4lPP" ⟨_,by conv=>lhs;reduce⟩
def QDE:=fk func181 QMj (by kernel_rfl)
def QMi:=F0 "b^3jS_9Wa5?=T=vpWNcmNM[P;N[KyPxdiwKjaNV4A;PGcc_Gv5:JI10U_=IzuUi5SEa" ⟨_,by conv=>lhs;reduce⟩
def QDD:=fk func182 QMi (by kernel_rfl)
def QMh:=F0 "^zuFVJLj;>HisynA[fx2H<Lr0;9_0Yw>[q4=k=" ⟨_,by conv=>lhs;reduce⟩
def QDC:=fk func183 QMh (by kernel_rfl)
def QMg:=F0 "BB]x85]jo:yKuAUxZyy3AKc>5CZcP8vUx>Bal4gc[TW4R2w?X7FHqeZRzoJ[gQZCjN^" ⟨_,by conv=>lhs;reduce⟩
def QDB:=fk func184 QMg (by kernel_rfl)
def QMf:=F0 "QYc3ULqVGD]jTniKYmGiwApu0hP2" ⟨_,by conv=>lhs;reduce⟩
def QDA:=fk func185 QMf (by kernel_rfl)
def QMe:=E0 ["rab4A;VM8P5M;da^lbGuYqkef^7P=5tB]pNkqRQKF><fWXlDnFb46UG9g0AjgWUSnDk7pd[KVNJudf?dmVcC68:PTQ8mifwgvj]f","vU;Bb;q3_eeBPplRnq4NW;EAYHJ17IHx]<tj7"] ⟨_,by conv=>lhs;reduce⟩
def QDz:=fk func186 QMe (by kernel_rfl)
def QMd:=F0 "tDX[9AQcb6oPaRl3[YZ7;HA" ⟨_,by conv=>lhs;reduce⟩
def QDy:=fk func187 QMd (by kernel_rfl)
def QMc:=F0 "bU>[FUmER7Z;eAvcP>06Fitn" ⟨_,by conv=>lhs;reduce⟩
def QDx:=fk func188 QMc (by kernel_rfl)
def QMb:=F0 "HJbULtYWGz0cVy]iV>06Fitn" ⟨_,by conv=>lhs;reduce⟩
def QDw:=fk func189 QMb (by kernel_rfl)
def QH4:=F0 "FriuNuics:VWCYg^cQN^Z1Taqc" ⟨_,by conv=>lhs;reduce⟩
def QH3:=E0 ["Eahv1vkzSp]Cz:94>TW]]=hmj9xLd9_W;KAcFhgYa:QoB9aGx:VrpV5n4fI3z7cadHym]YAtJr6rhxS2_7KTem>muQ:[uq0w07ac","84WY5W7Bx3iqvv0o?[LA^HqQj_RkWXij6QlrgESrF<?D[eRJ<U490t?eAlzUy]XMJ3:o^A"] ⟨_,by conv=>lhs;reduce⟩
def QH2:=F0 "yd_61s<LwB:By<ZUwPkP6LQ3<muejMErg4X=ooPeZ_vwxvMn0nZPSucT6e>5Vjwo3sY2J>fhWVBjwlhiitBCE84;XaV6M^rNU9CtnHv^<^PcJlKn0EzL=4" ⟨_,by conv=>lhs;reduce⟩
def QES:=F0 "o5l3][Vlroky;9QnDlc73n5<AJtfnUv6^VNdWDe8Y1?U:p]cI6xF^UU>]Gq2SenkhDp8<1SL[gC_om3uoB99zoHNlf9Y2w8_XguEjB9<NrBiWmkTLdR>w5X4" ⟨_,by conv=>lhs;reduce⟩
def QH1:=F0 "JVIV3GD9aBv:0]X8Gns2WhBfYt_6Q9kMTHU=:cu=yAeG1_^3rAuM260T]owxbjXx6kPDC?hYzP9hATVi<5E287KpWwQZt4P3" ⟨_,by conv=>lhs;reduce⟩
def QH0:=F0 "agL0]WIjuBib0tp8U920<i2I65v1uxv2L>U5r=EW:_V7FDCzZVAyP_NXNtPoVNc:[x<:]hivQ19IgZQA=>Id2" ⟨_,by conv=>lhs;reduce⟩
def QHZ:=F0 "=1ng4aNMue?<]Lfr?s?Jm^rHQl2hu3[EGGQ>t6viDSJ0efEM;j=x57JVoTKMa6Ph<22>3_i<^tddpIIQf;1i3yN]e<zprE9Z[k;176gi^fp5pKHIv03guobRK]wU" ⟨_,by conv=>lhs;reduce⟩
def QlC:=B0 "V35g<U4s]ogb=VS2C7;8bQbNfAW<3jepm>4XbI_L=BB;Du" ⟨_,by conv=>lhs;reduce⟩
def QMa:=F1 "^tI:kBLx8f_gj^p_SIKAE<WPek?2[=XnP_9uFh7rVy4Az6Dl?Y1Tbg6HMdnASl<P=gZLAxFt_mt4<87JLC;rv=kLSYn2kV?Ao2QF;VFJ_[u2j4K9kU2LDIap?9" QlC ⟨_,by conv=>lhs;reduce⟩
def QDv:=fk func197 QMa (by kernel_rfl)
def Qgh:=B0 "Ja0NSmY?A<fqn" ⟨_,by conv=>lhs;reduce⟩
def QlB:=B0 "9cEdjxvEC]KWPPJ^a7xc6Mg?g^BkAiPPF" ⟨_,by conv=>lhs;reduce⟩
def QL9:=F2 "HqIF?eE=wDicR3jp^lYjuU[7gClGfiMmwt?BJtF:^vzc^HHU<ho;DQsu2:iP20cRo88=nJMVq2E;;<=dQg8_3Em<5;;2WXTELK2o]ITFLP?yUzNh6D_w6d8zkBj;M" Qgh QlB ⟨_,by conv=>lhs;reduce⟩
def QDu:=fk func198 QL9 (by kernel_rfl)
def QL8:=F0 "bt<4A3^77bbwq4lPP" ⟨_,by conv=>lhs;reduce⟩
def QDt:=fk func199 QL8 (by kernel_rfl)
def QL7:=F0 "WVtea_XBrtwND3ZT<:6>ku?D=" ⟨_,by conv=>lhs;reduce⟩
def QDs:=fk func200 QL7 (by kernel_rfl)
def QL6:=F0 "u^;Nje44NrYR;1rWozAg=Wo>=KqX" ⟨_,by conv=>lhs;reduce⟩
def QDr:=fk func201 QL6 (by kernel_rfl)
def QL5:=F0 "t;[Vp0>lYGvxq4lPP" ⟨_,by conv=>lhs;reduce⟩
def QDq:=fk func202 QL5 (by kernel_rfl)
def QL4:=F0 "jlq<tvrRZP1W3aClmW3IIu?D=" ⟨_,by conv=>lhs;reduce⟩
def QDp:=fk func203 QL4 (by kernel_rfl)
def QlA:=B0 "F0J83u68dsodbTWMSDoMHkqQ>1nXulfHyVV_BRCe<;N" ⟨_,by conv=>lhs;reduce⟩
def QL3:=F1 "Q14V;bMl]eRPI86J<_L[TB<KKp:" QlA ⟨_,by conv=>lhs;reduce⟩
def QDo:=fk func204 QL3 (by kernel_rfl)
def Qlz:=B0 "qjfSxwg]ErR]=yFU1hM=F>Mld1Z1774_<gf:h^Hcr[cHxCA4uiFPv]p3Zm6miLVEiM[62vR2P" ⟨_,by conv=>lhs;reduce⟩
def QL2:=F1 "[i[ay5UAqHSI:zVTYD5S6LlseFF9xUlqbe12G0oo5S9M2m?H:q0xYKtz=myBITL7VGspn<xiEEpK?" Qlz ⟨_,by conv=>lhs;reduce⟩
def QDn:=fk func205 QL2 (by kernel_rfl)
def Qgg:=B0 "lKkg[_W1]ruP3" ⟨_,by conv=>lhs;reduce⟩
def Qly:=B0 "LL9bd6DurlqTFl3r2vdx5e9" ⟨_,by conv=>lhs;reduce⟩
def QL1:=F2 "4E2_1xx3Jn[5;e1_eU>d_JaKUxAk;pLW;ZeL8?j;npJCAX;Sx3" Qgg Qly ⟨_,by conv=>lhs;reduce⟩
def QDm:=fk func206 QL1 (by kernel_rfl)
def Qnr:=b0 0x0 ⟨_,by conv=>lhs;reduce⟩
def QsQ:=B0 "wyPP^5[oD9__D=n8" ⟨_,by conv=>lhs;reduce⟩
def QL0:=F2 "7cR9gFSaAqrXzG_vmNsH>^>Y4Lpmxn4TXArF>K0<k0<8Rh16xWcSnD8A4Yhu_C7kYnK5Z>FAQ[TGwl50v^txT6q2eX7A=u0Vh4uadyeq4>o:VEtvdt?Es" Qnr QsQ ⟨_,by conv=>lhs;reduce⟩
def QDl:=fk func207 QL0 (by kernel_rfl)
def QLZ:=F0 "^KFopEFcAjyhwbPy=b47DBH_bL6alJ1Gv?m^Inq[c5A1aQrDac1Ta21YcL" ⟨_,by conv=>lhs;reduce⟩
def QDk:=fk func208 QLZ (by kernel_rfl)
def qJ:=B0 "GETotQ0<Ai70o=W" ⟨_,by conv=>lhs;reduce⟩
def Qdn:=B0 "^=ypqSk2h1fqHV]qkPAb7j[F2Se4SlouPz5zj=" ⟨_,by conv=>lhs;reduce⟩
def QLY:=F2 "iNs=er^m9wJFl^GAusuiI65:SBd;" qJ Qdn ⟨_,by conv=>lhs;reduce⟩
def QDj:=fk func209 QLY (by kernel_rfl)
def QLX:=F0 "EBJisx^Ja^acE?jBzn]79ajP4;7dds6hLsRy?^WUvbidK" ⟨_,by conv=>lhs;reduce⟩
def QDi:=fk func210 QLX (by kernel_rfl)
def QLW:=E0 [">97JC_:=:E0y<9_H9kSBF^za_Kes]B8Ga;k]fMbZCpt4Zdp^fpPw9aUL<Jsmz?XGEStVmxTIv3bXF9>]prNQ?5PC;sHcF5AL_C6X","qcq_40?wg?oJ1s=BHVWn_Kg^vTVjje>8iPYVuBLA=?CY16P:2c;PT6QmVyNu=Z]Y9vvhojVf_EpEUyR[GgGuRAaq0YDNf9M^B5:w","fRKsHeF8mH4d7^0^W5GK:z2vvgttX4uiV7i4DMFADY"] ⟨_,by conv=>lhs;reduce⟩
def QDh:=fk func211 QLW (by kernel_rfl)
def QLV:=F0 "Ih4gk2qr4D<R0f7pB[kr1lSUC]P2" ⟨_,by conv=>lhs;reduce⟩
def QDg:=fk func212 QLV (by kernel_rfl)
def QNM:=F0 "xapz1vNffEESK5aZ6tC4e^YcfZkP>q]1" ⟨_,by conv=>lhs;reduce⟩
def QLU:=F0 "APwXsoa9=AkabJ;1hX1" ⟨_,by conv=>lhs;reduce⟩
def QDf:=fk func214 QLU (by kernel_rfl)
def Qlx:=B0 "8DUWGQAFVXFcR>JM;yC_K8^qx1Jdd4lCE1Ck>oM5_QbyYUFdxSlFIqE2" ⟨_,by conv=>lhs;reduce⟩
def Qlw:=B1 "xwRAhrspQ6s=vwuqS^8ba>BSNyMSk4M5cWX[2HWkIaI>QXAyzpzh3]nY=S5JbWl]" Qlx ⟨_,by conv=>lhs;reduce⟩
def QLT:=F1 "3:t[>o0Zsp5SVpPQf5Q8YwM" Qlw ⟨_,by conv=>lhs;reduce⟩
def QDe:=fk func215 QLT (by kernel_rfl)
def Qlv:=B0 "6ZxjilTPH0LMuhQnqFbi^4:P:4IoU]:z0d[0h]XdI0o0N" ⟨_,by conv=>lhs;reduce⟩
def QLS:=F1 "NMBRH?w=BvsQI6CKpLGk3>DBAHmnRnG4<ac4k=" Qlv ⟨_,by conv=>lhs;reduce⟩
def QDd:=fk func216 QLS (by kernel_rfl)
def QLR:=F0 "sjMkT?YEPD_o<hJ]KxAZRUmtZB>t_27kFgFu_^rpwjQwVDyTJRdV8uG2cJ52ASUxyn2" ⟨_,by conv=>lhs;reduce⟩
def QDc:=fk func217 QLR (by kernel_rfl)
def QLQ:=F0 "ywFS:]:Rt6GXaw^L2aNXbsyr74;=y1" ⟨_,by conv=>lhs;reduce⟩
def QDb:=fk func218 QLQ (by kernel_rfl)
def Qlu:=B0 "ZCW^7j8gLxBKH1wWAX:zSf:_ZnJgiWb4N99B[v_lZH1YZLW5wYmYWZmPRHpCN6u" ⟨_,by conv=>lhs;reduce⟩
def QLP:=F1 "ygizn9hbtqx23N<yq]ITa2]wKc<52FNHwU4rA73" Qlu ⟨_,by conv=>lhs;reduce⟩
def QDa:=fk func219 QLP (by kernel_rfl)
def QLO:=F0 ">Tn<;17Tfuhln_?D9G>fuh>29^2By1" ⟨_,by conv=>lhs;reduce⟩
def QC9:=fk func220 QLO (by kernel_rfl)
def Qlt:=B0 "JCSxXxLQPnFquMeoGzi;V^=SvnI:NsthqNz>u0PIcvhXx3QxZ=_2iUT1DBQA:L5kveGkYqzum6mnPdNwuhgqCGlZF;<4AdU:QU=SC=" ⟨_,by conv=>lhs;reduce⟩
def QLN:=F1 "<_k=QfDZf;CPv2^^0Clu4<Qys5[[jycvFPlyHwXjcDnaK" Qlt ⟨_,by conv=>lhs;reduce⟩
def QC8:=fk func221 QLN (by kernel_rfl)
def QLM:=F0 "LlegYPfhS[CjN2wiCw<MzNd3" ⟨_,by conv=>lhs;reduce⟩
def QC7:=fk func222 QLM (by kernel_rfl)
def Qgf:=B0 ":;6dRY7L?3AqI;" ⟨_,by conv=>lhs;reduce⟩
def Qls:=B0 "uQf<bPLr2z[sX?jA32B2qU?Y7eMwSYpKN:i;" ⟨_,by conv=>lhs;reduce⟩
def QLL:=F2 ";b6r>sJjHQSB8LlkQClGQ]Hx6HLRtLtE_kdt1tRtKRoGK3Ak?jyiS<all>:BfUVkDqz?ADaDV[ms?;hzsk^tdI" Qgf Qls ⟨_,by conv=>lhs;reduce⟩
def QC6:=fk func223 QLL (by kernel_rfl)
def QLK:=F0 "t==GcD0FXp1XTvuq[Gtkoe2?[iUB;S<Y?ADVA]rg69" ⟨_,by conv=>lhs;reduce⟩
def QC5:=fk func224 QLK (by kernel_rfl)
def QLJ:=F0 "<zAJl46ViZ8<Ru72A75Q:MPGpc" ⟨_,by conv=>lhs;reduce⟩
def QC4:=fk func225 QLJ (by kernel_rfl)
def QLI:=F0 "G2N_vf9F;?GvAXcQc4^KMVYpZ<D]rKGhEq[M0Bcx2RDhmGBJvf6E5uSfvT?GA5TnhzwPhNE9GQCz:BIc_C8" ⟨_,by conv=>lhs;reduce⟩
def QC3:=fk func226 QLI (by kernel_rfl)
def QLH:=F0 "nMg4MgXnEvqH4uWRnrH3aIMdqc" ⟨_,by conv=>lhs;reduce⟩
def QC2:=fk func227 QLH (by kernel_rfl)
def QLG:=F0 "cbD[X;Zl4k?2pQ1pNVxqHitn" ⟨_,by conv=>lhs;reduce⟩
def QC1:=fk func228 QLG (by kernel_rfl)
def Qge:=B0 ";qU4ZYnuer6C4" ⟨_,by conv=>lhs;reduce⟩
def Qlr:=B0 ":[Fd^XfASUSWCfM9mSvRByzxDaa<Daa]DG06m]4^l^lhEGnUNsT:6smCqH[K1Zr4D>zizF5=SH]31" ⟨_,by conv=>lhs;reduce⟩
def QLF:=E2 ["Bj^sj2?kcXJP1sz8U[4>=Uo]B;NA[_PqKSuq2styvk=TEXSoTLBbqiwGoinQ9JS75cA;F_bSvIQ5[h9KVSxzHerDV2Gc7KVm1WXf","^x04gT5eq>r0iqluf1Hh]9<a9V4<oI13WhxU"] Qge Qlr ⟨_,by conv=>lhs;reduce⟩
def QC0:=fk func229 QLF (by kernel_rfl)
def QLE:=E0 ["hfpm=UaKAuv7NP;[^H>Sr8xiQjFkjXfw;APm4sxbl;0<2xeMT5zHJHCdt27ucHTXk6v=;wh402C1mcb:IpamYaYkPGgy]:tZAL>1","X_3?^HV9jBvhIDjhwWcp<i2mNZn]ta8XhJjKQJ4nDex1nNpb>tWHl5LkCA_DL;l0k>pD5m3"] ⟨_,by conv=>lhs;reduce⟩
def QCZ:=fk func230 QLE (by kernel_rfl)
def Qlq:=Fz0 ["<EP6696Kjo^<5oVf;sGWY2qDRY[9sr53Drs?GuIa:WK2bZtt?ec<?oC^d[Dyuo1>rib96U6^CQaT6m?26:GAZwFDoFdgVTxK0IhU","dc<6ia[6PT>XGu[lFw:?bRwTcbQ8GLdE9gt3[h2zVl86W5hAFuaw7djL<LGrtr_Rh<YgkVSqCxLr;yployDAA"] ⟨_,by conv=>lhs;reduce⟩
def QLD:=F1 "7njk:uTHV?7X=WEozgsKeyf2EJdUyJ:T3CRi9cwi7Z:c1" Qlq ⟨_,by conv=>lhs;reduce⟩
def QCY:=fk func231 QLD (by kernel_rfl)
def Qlp:=Fz0 ["[E[<UdA=ZhgQio?:mFou3<pr6ebQ740TlSl2KEv_4r]2LL_<YTrjRCcEwflbotXqN3Yu8Zj]U]t>39q[0Y_uDn_UF0[L9jU1DJgN","br>8W[qM;Xj9Y_p1B3b54B3Dcl;yT:Bq6>]Szq?uQIk]4n]A0XLN"] ⟨_,by conv=>lhs;reduce⟩
def QLC:=F1 "mx?ftFyt:MGVXmU?r[MKSDhyoMrwCCgswZH71qGEqnbekRvK=d9m>1lEIAHBPIN0M7m1?pT;l>1" Qlp ⟨_,by conv=>lhs;reduce⟩
def QCX:=fk func232 QLC (by kernel_rfl)
def Qlo:=B0 "XaF3q_xpYc9S>Tt<X[S4B3tr^ukF5<iN3NMkll_R_[2qwAJ4^a0C<hG0mXMj]R_t=A3" ⟨_,by conv=>lhs;reduce⟩
def QLB:=F1 "JA3Cjv[HYiIxn2Kv0xfpnbHaR2dnx[NznNlL3199=AJtZMr4" Qlo ⟨_,by conv=>lhs;reduce⟩
def QCW:=fk func233 QLB (by kernel_rfl)
def QLA:=F0 "QfycNRCnm^?zp[oys?JiyRYQU=0euH>IV9Cw;4yL<_YDB>H2lpBo]FPBdN" ⟨_,by conv=>lhs;reduce⟩
def c238_ok:=fk func238 QLA (by kernel_rfl)
def c239_b0:=B0 "F0J83u68dsodbTWMSDoMHkqQ>1nXulfHyVV_BRCe<;N" ⟨_,by conv=>lhs;reduce⟩
def QLz:=F1 "Q14V;bMl]eRPI86J<_L[TB<KKp:" c239_b0 ⟨_,by conv=>lhs;reduce⟩
def c239_ok:=fk func239 QLz (by kernel_rfl)
def c240_b0:=B0 "F0J83u68dsodbTWMSDoMHkqQ>1nXulfHyVV_BRCe<;N" ⟨_,by conv=>lhs;reduce⟩
def QLx:=F1 "Q14V;bMl]eRPI86J<_L[TB<KKp:" c240_b0 ⟨_,by conv=>lhs;reduce⟩
def c240_ok:=fk func240 QLx (by kernel_rfl)
def QLw:=F0 "kmxn6KUpYqI=3jW3n<[g:bfEZvFYZ5XDbLai8iCm2B7XctFFqV<9lPwwI>ZcBju" ⟨_,by conv=>lhs;reduce⟩
def c241_ok:=fk func241 QLw (by kernel_rfl)
def c242_b0:=B0 "]4V_niRI?6VAnN:Rwm<EUSw14v0R?Y^0g7uz3EBMz5Wy9h?CdW^M8CqJ8yHX6" ⟨_,by conv=>lhs;reduce⟩
def QLv:=F1 "^nLP1euGBx2bf3mpUgIIcElHsk:" c242_b0 ⟨_,by conv=>lhs;reduce⟩
def c242_ok:=fk func242 QLv (by kernel_rfl)
def QLu:=E0 ["ga;bkhbk>vHA_SDNl]AMtlhFxoS4ojIrJc5Bqd<NKnciDjYHM9hAriGwqhSBSG0[=k>HADwQNtLH]1QWZk5A[?>IeLcbZXTyKit3","Nyq_dXry=j>jsXdc6:TA6bZryD[I_f9wU6uKkKS7xaqfP?9;AHofpsiYZcK_YxyHWki]VMyPijvNQy>?;tS6<7WzGeHXXkY9b4Lp","4uJQYV3Dsd?"] ⟨_,by conv=>lhs;reduce⟩
def QCV:=fk func243 QLu (by kernel_rfl)
def QLt:=F0 "dDh<[cZhoN;2;YJobTRuqe^YUl:" ⟨_,by conv=>lhs;reduce⟩
def QCU:=fk func244 QLt (by kernel_rfl)
def Qln:=B0 "0NQSS2xDArsmdYGNEEtR4jWw6MD9dC2Hbv2UK]jhK[V7gB6yBG<4tWPS32y<" ⟨_,by conv=>lhs;reduce⟩
def QLs:=F1 "xIwwzo?k[isq<?fcHjC7JSNNv?Fkl<h^QVW3G4N9kHQaxobaUR3apRZb>SgjACw^cf2" Qln ⟨_,by conv=>lhs;reduce⟩
def QCT:=fk func245 QLs (by kernel_rfl)
def Qlm:=B0 "fif>dFEfHEBz7KBvyYwX086up<QX0Xjk:7n<9>^=^^ro>cq7e]bsXyFfpWFAt>w_U79s7bA>4Ya[0gA02p4Ypw6" ⟨_,by conv=>lhs;reduce⟩
def QLr:=F1 "HbDE<yNURzUx9Di[Hz1iFVUvVoR7uNk>gB5An:BJ<bbm_]Mkvo=mM[Je0h4Fv=]^euGTuSPW>ViTHvEzk4gIEURt9RtxtaXRVqnB?Y89ZsrAq:bi0<RiV1o;" Qlm ⟨_,by conv=>lhs;reduce⟩
def QCS:=fk func246 QLr (by kernel_rfl)
def QLq:=F0 "xYCWqrm:]zKW5e:Lpy_vrQzBnMR5tw:ZCWGN0]YqV:WHgmnvQivC[X0eGVaeW4xSi" ⟨_,by conv=>lhs;reduce⟩
def QCR:=fk func247 QLq (by kernel_rfl)
def QLp:=F0 "3CttM^Zh1xwWVLmsgX473Y8Fkk5:>yl[F1" ⟨_,by conv=>lhs;reduce⟩
def QCQ:=fk func248 QLp (by kernel_rfl)
def Qdm:=B0 "z3__B?b8KfY>c;?A>Y4DDdtQXsM9jc>p[CUm?lEg8q:dHmWg_b>GI<AClE9" ⟨_,by conv=>lhs;reduce⟩
def QLo:=F1 "4<CoEe083=iEllDCmL]4>CrJ;>[4f<<[rE" Qdm ⟨_,by conv=>lhs;reduce⟩
def QsN:=fk func249 QLo (by kernel_rfl)
def QLn:=F0 "3CLK8htB4:^o_YG:zYfeKi81yTrQb87" ⟨_,by conv=>lhs;reduce⟩
def QCP:=fk func250 QLn (by kernel_rfl)
def Qll:=B0 "ZSKC<MPF_ehw4YwlU];orD;WqLULE8M5y_s<eepbPJXA;Sjag2B" ⟨_,by conv=>lhs;reduce⟩
def QLm:=F1 "Dz2lKs4i]M6JIK1>iuo^Y4" Qll ⟨_,by conv=>lhs;reduce⟩
def QCO:=fk func251 QLm (by kernel_rfl)
def Qlk:=B0 "ipuYdXQD;bJ<A7CCAB1>LkIcfpE^WoaaM5<nVKw_LCCDsfwUu5o09tl7L?PK" ⟨_,by conv=>lhs;reduce⟩
def QLl:=F1 "vnz_zamDZIJHQaqc7l_^zFfV_DJuat0HbjG^uyJ1NUmaYBL[SxU8JiSWcjmcZ<Ma9lk0ueyHdo_i^02QL2" Qlk ⟨_,by conv=>lhs;reduce⟩
def QCN:=fk func252 QLl (by kernel_rfl)
def Qlj:=B0 "?Hj]YWZzg>brdGqQlvfdPG=E;MD2:]<=C7MCI10usXGFUS=R:QyJFWW4Xd0[Hk78KR3TiLi>wlCL9Uj3RW6maEZ1" ⟨_,by conv=>lhs;reduce⟩
def QLk:=F1 "TS<vfEBXK>8KYmi4RRkn^0LNf_Yg1rJV=5;kj6GMFjLafXAjPmVXV9=:oG32YVWGKSBRZqD4oI5TJp8tI8euhRw[dY3=6]Qzvisssh;sZffvl;NQgFzgVSmb]" Qlj ⟨_,by conv=>lhs;reduce⟩
def QCM:=fk func253 QLk (by kernel_rfl)
def Qli:=B0 "j?aFEr7g9fzZLJxq94va:PX56QE6losMail:7Sh91u]^:wcsC1mY0<kF][ayMXU>fhDitRmAlN]V1" ⟨_,by conv=>lhs;reduce⟩
def QLj:=F1 "c>[Ebm]]TVgZd]cMpRiMH36sym?9qhRxjnz0^V3fnwY5nZYVm]slumQJ=qC9gm4>5HKi4RaR1" Qli ⟨_,by conv=>lhs;reduce⟩
def QCL:=fk func254 QLj (by kernel_rfl)
def QLi:=F0 "m1UooP=_3jR[RfVep2JjU11" ⟨_,by conv=>lhs;reduce⟩
def QCK:=fk func255 QLi (by kernel_rfl)
def Qlh:=B0 "73LgAz?2_:Nr29tcsr28E^GZP:ixm2MkE:HydelX9F?Fc4>BPP^pDDd[q29PAKSHmED=6NeutreA7eT2" ⟨_,by conv=>lhs;reduce⟩
def Qlg:=B1 "sff[?DRrqr[ejdwSrNrKd0Zx40KZ[z_QRs:1" Qlh ⟨_,by conv=>lhs;reduce⟩
def QLh:=E1 ["<534zfuEznY066:3l[3<]XTf37HL;9965J0c7<NjUxp59y0q>ZatCDUo8T[dpKPWCriMeIVJwYNcceArf4[kUKd9xZTHqBblxcA]","yzyMyIpe40LsU[i;Ba9sNNgK4C1LJCyaYb;IKKT1"] Qlg ⟨_,by conv=>lhs;reduce⟩
def QCJ:=fk func256 QLh (by kernel_rfl)
def QLg:=F0 "nqHbhmsBa;w>?uHXa?6ag6SUC]P2" ⟨_,by conv=>lhs;reduce⟩
def QCI:=fk func257 QLg (by kernel_rfl)
def QLf:=F0 "Q[3VEraMv63yMv>C2ChqRKl6A;anI;Hq6KB4txu8bI30:V:1vhcbuDyLEl3azc7li" ⟨_,by conv=>lhs;reduce⟩
def QCH:=fk func258 QLf (by kernel_rfl)
def Qlf:=B0 "FNAWp=yYzFP^q40FIoVSfyHL9aPte7Mc>Q6qcdUh]gEmh?uKGnXtLiGZ31" ⟨_,by conv=>lhs;reduce⟩
def QLe:=F1 "k9kYfsrsREj<[4[uB:>KYYTLLf3By1" Qlf ⟨_,by conv=>lhs;reduce⟩
def QCG:=fk func259 QLe (by kernel_rfl)
def QLd:=F0 "K]4uF:D8JQEHH2TeD<jfvZp;YCkbc2YFs<9Z8aT6BIj;96" ⟨_,by conv=>lhs;reduce⟩
def QCF:=fk func260 QLd (by kernel_rfl)
def Qle:=Fz0 ["gzMoimPWPc]NciHlPP17yTZDH?gnCxM6WJkm7RpYDEAs^e=p99;0?bT=IZRCBRRF5_UBq;K0iWxBQz=cH]XKLG]Qo9pMG2CWLHSs","E2p>qhal=WRKYVyEvDd:Uq7V5Wv3qXh4joxWD13"] ⟨_,by conv=>lhs;reduce⟩
def QLc:=F1 "CmNho_d89c2ALunU]62TvLPE6g" Qle ⟨_,by conv=>lhs;reduce⟩
def QCE:=fk func261 QLc (by kernel_rfl)
def Qld:=B0 "d0emlPdzY9jbqV;FcJ5719bRasabAomhqr6VfFJEM_<p?H^:JakweFtiRkm1" ⟨_,by conv=>lhs;reduce⟩
def QLb:=F1 "4e<BAl6yK3JujWlIJ0R:hhpy_owZYebdTL:4k=" Qld ⟨_,by conv=>lhs;reduce⟩
def QCD:=fk func262 QLb (by kernel_rfl)
def Qlc:=Fz0 ["LQAx8IIfgadXmL4_2NXUq=ExmsBC>KxlsGkGaN^kRKAJvKunG[EI0>JAt2ruBX3F?1k3X]kL7tyu8T3GHw0kMSBd<acAZF?7g^tr",">yqFreGjdQ80X9tZ^HTH9pnlWeshYoW[w4ldaV?DrDErdP2"] ⟨_,by conv=>lhs;reduce⟩
def Qlb:=B1 "cwRxhQw;yd;wUGCef5LDiye7rKCWkXdg8lJFe[Z3F[KC?1y^VZJ[>9ZGcGq<u9<" Qlc ⟨_,by conv=>lhs;reduce⟩
def Qla:=B0 "p407oIcnetrUndW7o_K<AqsAX^Wu;=X634r=4t>QKnKEpDW?3VpGBp3=J9AzAns?XeTifh2lzSZaCrjU_NxTrwl6D<xeTS?PEtD_2YP<37Zg<>D8" ⟨_,by conv=>lhs;reduce⟩
def Qk9:=Fz1 ["bU;NZh6FDBMn976v91GcFQ7N6lMg5yMI[Q6eu^sI4LSmZZAF0CB9Flr1hvT2DGNjvL2jwCbdG9uP0;u^ud8GuN3G293J;^EQ8fx>","w:npxCBszfxl:42Z39q4qfLjprJUXC1QvDoBpMg6Fxe8JMu=DxQM0P4"] Qla ⟨_,by conv=>lhs;reduce⟩
def QLa:=F2 "Z[T?;z0b3?[tspkDoz7dviBFDZ=0N7HbngZK>cVThHgPd4eBPun[1StNyk^ZSYB^1>x:34]DeiEx" Qlb Qk9 ⟨_,by conv=>lhs;reduce⟩
def QCC:=fk func263 QLa (by kernel_rfl)
def QsL:=B0 "Z3<1>GHps7vbqS9>p8g9vKE2f[<gPuNkTeCv>gG;PsP3rr?BzRl69F0nrdBACV8R0mb:" ⟨_,by conv=>lhs;reduce⟩
def QK9:=F1 "WaQgns9TLi4qUwqEqwCswI4azjCl<nHIXLK:iK>?Nrk_HMA>lbH4Dqsd69bcr2M9BI9ARAU;jErY_?>PBQ:esGUAkyMR:JkPp??RecciMi2vvxF86" QsL ⟨_,by conv=>lhs;reduce⟩
def QCB:=fk func264 QK9 (by kernel_rfl)
def Qk8:=B0 "V=eu4lAZ^rpkl1JzY:uz]K0UKj^6<9ZW2g:fTJM[f81o4b6csNni^l5?M?1o_[:0GMzp<;V=HHlFocT[Z2Xp:QDb5" ⟨_,by conv=>lhs;reduce⟩
def QK8:=F1 "8VfzPUlfV86aj_Dk:Kf8YQ^_79qFsipQwaWu5W628vTkyjGEYDK?A8]8;oG8w4H?;G1z73WtQ6ooB;FDPveX0^cl]wgqh]IXMJ]?P0gFkCcmlQM6<fB3EIFc2" Qk8 ⟨_,by conv=>lhs;reduce⟩
def QCA:=fk func265 QK8 (by kernel_rfl)
def Qk7:=B0 "7u9d4Gr8cp<S;Z0J:Xx^8HhbYsn2[b54L2gEt=Zv1Jv8coXzEUx1WHUTpdV:60mQtYaHp<ejxCmotGemcEuMlo4iZ5sk>5TtScZIICZVJMM_9KAtS?Rs21" ⟨_,by conv=>lhs;reduce⟩
def QK7:=F1 "jeEyfdLsPP=]mWGiVq0myQKJc]kNTPQ3Ueq5q" Qk7 ⟨_,by conv=>lhs;reduce⟩
def QCz:=fk func266 QK7 (by kernel_rfl)
def QK6:=F0 "59b4l^bpYQKY6QhncbZ5" ⟨_,by conv=>lhs;reduce⟩
def QCy:=fk func267 QK6 (by kernel_rfl)
def Qk6:=B0 "s2v]G9Qze1fc9zrZ5cmtjc8;Iws6fnotcWpJPL3W[h5G<MohCpe53EyTA2" ⟨_,by conv=>lhs;reduce⟩
def QK5:=F1 "RjlUflIP8Y>Yq58RW9sBCdgRIh>l2etBR?8XE^ATTvqw7Salnpt3<VS6]CAU^AXLF<" Qk6 ⟨_,by conv=>lhs;reduce⟩
def QCx:=fk func268 QK5 (by kernel_rfl)
def Qk5:=B0 "^MpKWPF]M52usWsacNQFGfdmF;>M7Q6S]UpULV>m8DneU?WpzTv^KM;TNR60AL" ⟨_,by conv=>lhs;reduce⟩
def QK4:=F1 "mFfYq6W3BrPltotQR72KsRn_FCmhQB2K>:Bo0YC?gHbWB[_6e30wk[duCJI57IxX^AeAx4MuoVTP_=pvUnLIPb5uz" Qk5 ⟨_,by conv=>lhs;reduce⟩
def QCw:=fk func269 QK4 (by kernel_rfl)
def QK3:=F0 "QYc3ULqVGD]jTniKYmGiwApu0hP2" ⟨_,by conv=>lhs;reduce⟩
def QCv:=fk func270 QK3 (by kernel_rfl)
def QK2:=E0 ["VYjKTi6mZzaEyDh0lJJ>uYnN:emtLVDuI1nJH3w=^o4LVt^EQzNd17eoJftViuDaDnDE0]iHHB]peR2=4h52dFrTQy[pJoz]Sryt","mmnHLg;=?T73Eydl2uZYQ[yzhr]I2PUq5VeoW9RiAAGzy9vF33HCFa2^JwUDQZ<M_RE:YfFQorY4z:u1R9nDh2MF?ZiUnDBuI9_c","e0mjQT1"] ⟨_,by conv=>lhs;reduce⟩
def QCu:=fk func271 QK2 (by kernel_rfl)
def QK1:=F0 "?6jRJcEfz>2Bv?Bbk^PgxqdoWWvv3ejwx5wb?4lgivd40^hHC" ⟨_,by conv=>lhs;reduce⟩
def QCt:=fk func272 QK1 (by kernel_rfl)
def QK0:=F0 "WY:14BEWG][kL]7vj>y=VJxpZ:<r9JoVMcxA" ⟨_,by conv=>lhs;reduce⟩
def QCs:=fk func273 QK0 (by kernel_rfl)
def QKZ:=F0 "W6h8;88RMysnZK?Jr19HK36v;vHp5pLwfl8ZQB93P33wACdLqGHfJCeujFoR?l8vG:Y>2" ⟨_,by conv=>lhs;reduce⟩
def QCr:=fk func274 QKZ (by kernel_rfl)
def QKY:=F0 "QYc3ULqVGD]jTniKYmGiwApu0hP2" ⟨_,by conv=>lhs;reduce⟩
def QCq:=fk func275 QKY (by kernel_rfl)
def QKX:=F0 "t7<q9twMuoXl]5leQexFE9ufnzy:kxN<Z7i;_j^:yZQIsZkgF5tih3J9F^M1" ⟨_,by conv=>lhs;reduce⟩
def QCp:=fk func276 QKX (by kernel_rfl)
def QKW:=F0 "CKgQDgIfr[3C;KUuZmf7E" ⟨_,by conv=>lhs;reduce⟩
def QCo:=fk func277 QKW (by kernel_rfl)
def QKV:=F0 "GT6iE=mbBETX;KUuZmf7E" ⟨_,by conv=>lhs;reduce⟩
def QCn:=fk func278 QKV (by kernel_rfl)
def Qk4:=B0 "rXP;5wx=f;Udd;CTJ<9w5SAApE=jwyb0Zpmgx]foDGBnc;K1qsUKRG4Ei17MYoqaW79fwi5eHFXw" ⟨_,by conv=>lhs;reduce⟩
def QKU:=F1 "JQ:l:Jnh4op5zr3iuNTjX;" Qk4 ⟨_,by conv=>lhs;reduce⟩
def QCm:=fk func279 QKU (by kernel_rfl)
def Qk3:=B0 "R0_WkN]<K4;NBzwCY>P=ZGe=pw_wu:<UyLx979HueoNNqT?jDS>P8s44qYwZWYhMed2" ⟨_,by conv=>lhs;reduce⟩
def QKT:=F1 "THSq0Kqwi3_auF[?5Lcw_7Uv6H:<YmYKQVAeZPGIZ" Qk3 ⟨_,by conv=>lhs;reduce⟩
def QCl:=fk func280 QKT (by kernel_rfl)
def QKS:=F0 "K]R3GbC^^ytn;KUuZmf7E" ⟨_,by conv=>lhs;reduce⟩
def QCk:=fk func281 QKS (by kernel_rfl)
def QKR:=F0 "L784KWVSx68p0VA8xNF^W4" ⟨_,by conv=>lhs;reduce⟩
def QCj:=fk func282 QKR (by kernel_rfl)
def QKQ:=F0 "PfnIH8gYycI8<KUuZmf7E" ⟨_,by conv=>lhs;reduce⟩
def QCi:=fk func283 QKQ (by kernel_rfl)
def QKP:=F0 "t:di7?RiESqZ<8gpIiniS11" ⟨_,by conv=>lhs;reduce⟩
def QCh:=fk func284 QKP (by kernel_rfl)
def QHY:=F0 "H:FlZ^Y=<kC[oEIK:xJp5G[b6uYsoXAXfGy7hEjZS7=" ⟨_,by conv=>lhs;reduce⟩
def Qgd:=b0 0x0 ⟨_,by conv=>lhs;reduce⟩
def Qk2:=B0 "cDPr]l5jZ9__D=n8" ⟨_,by conv=>lhs;reduce⟩
def QKO:=E2 ["z::^Fg]3]ip5e2Ms1Cm?rEQmgmYPk2Za>IVYPdQPld[c88v2odAXRU1I?I0XpoGnk4V[YeXuPGz^m2iG[1?>zy8A?DCA][<sbrsf","0]NxmE]6t<LN=QEW[aQ1si:QSy23b_g_Qv=Q=TZIt8fGz_>yupXtfhez"] Qgd Qk2 ⟨_,by conv=>lhs;reduce⟩
def QsI:=fk func287 QKO (by kernel_rfl)
def qI:=B0 "T;ClcDK3z3>E2" ⟨_,by conv=>lhs;reduce⟩
def Qdl:=B0 "DnhwCYFSM<6X9J_1sYNzJQLQidmm2kh9DIonLt<_]u^T3bF" ⟨_,by conv=>lhs;reduce⟩
def QKN:=F2 "jldvERJfnJyBcrTEdRL>a1jGkng" qI Qdl ⟨_,by conv=>lhs;reduce⟩
def QCg:=fk func288 QKN (by kernel_rfl)
def QKM:=F0 "9uD_vyeNznqgWcomVGC8E" ⟨_,by conv=>lhs;reduce⟩
def QCf:=fk func289 QKM (by kernel_rfl)
def QKL:=F0 "UygN?442pSqgWcomVGC8E" ⟨_,by conv=>lhs;reduce⟩
def QCe:=fk func290 QKL (by kernel_rfl)
def Qk1:=B0 "]teXSM5>a;gt[x<kLHJF4nE^wT]_uRL?>CoZDCk;666N[nxMesjIaK_7i?UHVtoS9y]" ⟨_,by conv=>lhs;reduce⟩
def QKK:=F1 "fIQpXzPMwgtsfYQP>xMhiAql^7" Qk1 ⟨_,by conv=>lhs;reduce⟩
def QCd:=fk func291 QKK (by kernel_rfl)
def Qk0:=B0 "p[0SLj7z>6mFG=G0bh3RJlXpf_4loAHl6cT<Jx7r7ALwk:5u6QgpFFP[r1" ⟨_,by conv=>lhs;reduce⟩
def QKJ:=F1 "G>71lxzZ<3ujLjeYp^?APFJEet11nI]RUA41" Qk0 ⟨_,by conv=>lhs;reduce⟩
def QCc:=fk func292 QKJ (by kernel_rfl)
def QkZ:=B0 "5p8NTa;gaE6FgUwiZCZcHxzUgoirl_8MhylT8_l8ceir5vD^owWSRq2E_U" ⟨_,by conv=>lhs;reduce⟩
def QKI:=F1 "l3[yXczJ3dnP29n464]gEk<gDznLTlwXUWZ4hXSJ_qrERY8hBw>pUf0]g1" QkZ ⟨_,by conv=>lhs;reduce⟩
def QCb:=fk func293 QKI (by kernel_rfl)
def QKH:=F0 "=DhyT;2XRNE4DHRi4zP5>3" ⟨_,by conv=>lhs;reduce⟩
def QCa:=fk func294 QKH (by kernel_rfl)
def QkY:=B0 "1AEUuI1_<Ef3]?qhDzhS6pUx[5Vq5:APw_HepB<E2TEH=amxcYTZ?mCE0jI=8iiN51=qX<0:cSWi[CcRS?1WoIPq9_nNY>782W8r;tLr>EJj" ⟨_,by conv=>lhs;reduce⟩
def QKG:=F1 "R[MplUI>bfoUj^1U6kEFS<hMj0dVVldl[0S[7d3oRQzAf=7xbDfZlSU3HeUDo<p^?nMp>NF=t3RGZho1hJx3V1ejcg1FW9m:t3jyu71" QkY ⟨_,by conv=>lhs;reduce⟩
def QsF:=fk func295 QKG (by kernel_rfl)
def QJp:=F0 "ZiXwxQrpVHIa4iH<9FwlhZjYBUSqVxnhL^[rZ?:f0u>dFicjoS;<GFc;qd6" ⟨_,by conv=>lhs;reduce⟩
def QkX:=B0 "feitPNhllhv6gp[crZ1Unep=3Hc5]rmc;RoRTE[Y;" ⟨_,by conv=>lhs;reduce⟩
def Qgc:=B0 "Tt3uJ8h95" ⟨_,by conv=>lhs;reduce⟩
def QkW:=Fz1 ["b=GsDQU2HuYPTR3CG<9wFn9WRfNlv[wJy4DStI1YSjBy2:^ebH>b0s9hHn]8Yx9CsC[HJmp4kQlMIe?ktlEEL1:YzCGX78GlbcCy","m?XWDfZoU[DUlJp5>cxTkyBWVKs9bKUP54mD^dygk9VNG?ncia3:ljGLX^6aao"] QkX ⟨_,by conv=>lhs;reduce⟩
def QKF:=F2 "NB83ftwCmHU5Z=[QWvy5_2^oG_GsPAxfE53lk3MKUy3a4It?dJNXNNgCg8N=abm1E?a0he;Eh4?_Fi[6iKFJf6Mnx7q[v?LasZWq[x;Q9f6o4=7:Zj4" Qgc QkW ⟨_,by conv=>lhs;reduce⟩
def QB9:=fk func297 QKF (by kernel_rfl)
def QkV:=B0 "hw06uISSppPZEbKnJEug3gur3RR?qPHW5qBfWKx?q3;91kS^xaynVZwkVSpRHs[>lxQxpjDbn1EL]ZumN;F<x11MczRkvdB_h<Fg6I>v^Yg2se;1IS" ⟨_,by conv=>lhs;reduce⟩
def QkU:=Fz0 ["69En<De5eFd=Fk^NgEagWL0K[cpThxYbC8<vhsVPl8j9HQzaPU^E8rz27NzTl7bw83tFoaZc<?jy3;a?2u6Tb:IRMkJjIM4EDQvk","CzV65PzHcb;9Njl1LCS8RK=[4h3pecT1zNMoF3"] ⟨_,by conv=>lhs;reduce⟩
def QKE:=F2 "mcUNTY5r8hnGFiKVndlv6<nJ6vDi0KgZuyQT<0=BdkI0if2;MwZSwQZ5smB8HpjZ3>9;[=aiie4FmdDGw:F?1^M8gaujZahjGTt]RblBC3" QkV QkU ⟨_,by conv=>lhs;reduce⟩
def QsE:=fk func298 QKE (by kernel_rfl)
def QkT:=B0 "mqvZ6FwES1iG4KRd=F3R0LEPW4IbC92bqE^ZPH2_7;GjG=u0RsbcoB_0YTz?=wVgwlsFclG9MxP49JRJyf_Jea;j:NWzs1" ⟨_,by conv=>lhs;reduce⟩
def QJo:=F1 "R[>?17Z<QEM;mAFGpExJruafdbPM>7_yrQsU52oDzbJy7t6?WNB6paYDL3FYz2nzf[RC?FhL?8y;y_UJB2qZl^G1" QkT ⟨_,by conv=>lhs;reduce⟩
def QKD:=F0 "Tn3q[gaBLLxSH2_^a0VlZUeiuQvJAfjp]Fql6fsy4HvU_s;6v8[g" ⟨_,by conv=>lhs;reduce⟩
def QB8:=fk func303 QKD (by kernel_rfl)
def QKC:=F0 "^_t[cHN2tLdLn_^HSmZ5" ⟨_,by conv=>lhs;reduce⟩
def QB7:=fk func304 QKC (by kernel_rfl)
def QKB:=F0 "HWf;_Y2jnlCgAKUuZmf7E" ⟨_,by conv=>lhs;reduce⟩
def QB6:=fk func305 QKB (by kernel_rfl)
def QKA:=F0 "XZPCdyuAMtPvfQdSzd[6E" ⟨_,by conv=>lhs;reduce⟩
def QB5:=fk func306 QKA (by kernel_rfl)
def qH:=B0 "rXS3:SMd^:0^zeN" ⟨_,by conv=>lhs;reduce⟩
def Qdk:=B0 "2NaY=:7AGz:_MlTqt^>Hq;fm>rNcV1]YGc4z;Mew6lR" ⟨_,by conv=>lhs;reduce⟩
def QKz:=F2 "BeyIigmQ_8JpF]P3VTexhN]5Ryw7]" qH Qdk ⟨_,by conv=>lhs;reduce⟩
def QB4:=fk func307 QKz (by kernel_rfl)
def QKy:=F0 "Muw^J1oQBM?8fZjkEKp=wM6K^g0v^z]1" ⟨_,by conv=>lhs;reduce⟩
def QB3:=fk func308 QKy (by kernel_rfl)
def QKx:=F0 "wZUDotfELqn[pI1DVbZ5" ⟨_,by conv=>lhs;reduce⟩
def QB2:=fk func309 QKx (by kernel_rfl)
def QKw:=F0 "xSrmCRBWMp4_:fxx[>^sEjp7q;TTdG;ZRPdVL2AaxHExmDISx3" ⟨_,by conv=>lhs;reduce⟩
def c317_ok:=fk func317 QKw (by kernel_rfl)
def QsD:=B0 "Jt1fXxTIU^tevu>vxd?VQA4vrvVqtl:cxcBZe1[8<agF:" ⟨_,by conv=>lhs;reduce⟩
def QKv:=F1 "BFF;EvtVuDw4^5_FL:X5QZjCJjSVL97l_ALZYtE^i;[[IxAwcjQL>9WnUhd^6a5VAh:lxbgcB5" QsD ⟨_,by conv=>lhs;reduce⟩
def QsC:=fk func318 QKv (by kernel_rfl)
def Qtl:=E0 ["WsXyB0IzeuYFGl1cdMeMyKVwkGjJU:g4UCzT_zhqjYeldHN3GAu7VDdrq=KHkpWJN>gt4aZ8BI>WjTj5g8:LuY]bRr;ZjheREHpx","aA]3;pKqWi6:fUHlyXxTth1gPD]fWshS]yFT71_46lDG14ViFTekNt]fpab1eVhIz[z8l:pz<8?yW;b2^XMb="] ⟨_,by conv=>lhs;reduce⟩
def QkS:=fk func319 Qtl (by kernel_rfl)
def QkR:=B0 "vAZLC;tPFDnSKtr751T3r4ac^?PIB>=7NCAd:owNdjyD[ILR^_BKnxKIcwy;9UDmaiZ9e" ⟨_,by conv=>lhs;reduce⟩
def QKu:=F1 "WrHx]KD9z=CBt6dhIIS3mr=E4eoo]Q" QkR ⟨_,by conv=>lhs;reduce⟩
def QB1:=fk func320 QKu (by kernel_rfl)
def c321_b0:=B0 "=PHbf^g3bvZIms6vKS:K:fq<>aS=JokngY:F_0Dg_P?[tjad:" ⟨_,by conv=>lhs;reduce⟩
def QKt:=F1 "pdeG9tEvZ?B8uXa?iHAI1" c321_b0 ⟨_,by conv=>lhs;reduce⟩
def c321_ok:=fk func321 QKt (by kernel_rfl)
def QkQ:=B0 "KrJ[Hd;]m9B6[v]wKCzC<8?G8GUgPhVh=Zo6D=JeInadm2BD>]:WHxJba^nGIzltJ>" ⟨_,by conv=>lhs;reduce⟩
def QKs:=F1 "vgmQb]7pJJQYs:baBf^EHhDq4hlTC87" QkQ ⟨_,by conv=>lhs;reduce⟩
def QB0:=fk func322 QKs (by kernel_rfl)
def QkP:=B0 "H0z93wxttfWcWe8]=v4RrS5h^3K9A?Ke6h42cNvQWF_chPM2juuGT[iUZzW:C219" ⟨_,by conv=>lhs;reduce⟩
def QkO:=B0 "RaznN7NkImD<=PzG>2X4ZJlbHneY]<Q1;ZrXzJCDH[ftXC[I6^c2nKXZb?KaW^GSgUSR;0UiYCGFK0GQgXjN6snM3_j3" ⟨_,by conv=>lhs;reduce⟩
def QKr:=F2 ":drwviZZ_g<xd_QkavlqRCNihFt:JkmV4]EHjrNP4GYc<Ha3NMBp:=:lGN^SMh_r]nQ?x]P45<:GGwqzT0Ze8YRmgR3I94>v[y2:x10UQybhkY_1" QkP QkO ⟨_,by conv=>lhs;reduce⟩
def QsB:=fk func323 QKr (by kernel_rfl)
def QkN:=B0 "gsY3g:5y7=AH2b1I_D6^^xKmNraN2WD>Gj1kX3M54hjfp_]jdpYaR:Btey??4cEV;PwV;U2" ⟨_,by conv=>lhs;reduce⟩
def QKq:=F1 "J1iFfat:KBJkVpD_s0=aTzrLrg3By1" QkN ⟨_,by conv=>lhs;reduce⟩
def QBZ:=fk func324 QKq (by kernel_rfl)
def QkM:=B0 "7ibzii38T50pULvXPSUd7W4pq:GsJ_cdTL9TJ0EBJh<N8?UsG12q3wT0xZK62X7_a1M=XMfBn[h>zb<YAth^_hhjd68UK9?S5RnhP?;KKzJ[mvcnAq9i2?" ⟨_,by conv=>lhs;reduce⟩
def QKp:=F1 "mm=ApVA>oK]q8FTUKkkBBqarlSvqG5vUJ;uYX6IIXqxXs>K?0sX2ok]Vqi>54lNyY5yjrq3^Q6k<32KS66Ef6" QkM ⟨_,by conv=>lhs;reduce⟩
def QsA:=fk func325 QKp (by kernel_rfl)
def QkL:=B0 "hq9c5Mjwnd;^46Dol9kqhGG0fqDkQ=zm=Z07D8w5rgXvV?I7xT>jene3x^]]w669zJrnjq^BA4vtEydiRr4?p=dDqGpj[Fh" ⟨_,by conv=>lhs;reduce⟩
def QkK:=B0 "97V;sbiQebryFfDPy>vVwr4SANzXPKB7P==9RDh?4yN:fYqr_Hy:l[?SkdYgQfwjJ<hRTK]^oYVQbbwxP6l4[jf6eptF2" ⟨_,by conv=>lhs;reduce⟩
def QKo:=F2 "7hSN1fut:iI1>m5X?lGyp^bz2[c_]EWzmR3fRv1Eagv?s459<dsf:r_w_2Eu_M41IeV=o_x^aiI9NhgHpl;oRYxlX8q5KWn2Q8I32LwWcGchkY_1" QkL QkK ⟨_,by conv=>lhs;reduce⟩
def Qsz:=fk func326 QKo (by kernel_rfl)
def QKn:=F0 "gfH[_9Ev9ennje_yAHwipT2_eUfcwJ2c6^sWV>gSn=Sb06" ⟨_,by conv=>lhs;reduce⟩
def QBY:=fk func327 QKn (by kernel_rfl)
def QKm:=F0 "0ID=u<eyXIUm]>?ujWJj[xG3q4]I38Bmx:1dHUmQCDEhPMfr9URCnhP_QeA<8TM]?9o7nj[ilZIx" ⟨_,by conv=>lhs;reduce⟩
def QBX:=fk func328 QKm (by kernel_rfl)
def QKl:=F0 "[2i6Ut;72iGBJiU_oH61j[pSyYIkbtx5SZA[;yiU0xBjZGcAmHp[[6jSz[NUFg6Gf3m9" ⟨_,by conv=>lhs;reduce⟩
def QBW:=fk func329 QKl (by kernel_rfl)
def QkJ:=B0 "BpMSW0FRi7CBxUdesHWugV4Y<qw2mySRPMneL8plzGCuDXUND:cnXU8em^[kJ0X" ⟨_,by conv=>lhs;reduce⟩
def QKk:=F1 "nvshDhR4oCs]:6qeKa5E?7KezU:mefnpANmnIrGRKhAfqsesUtm8m6=6HhY4smu" QkJ ⟨_,by conv=>lhs;reduce⟩
def QBV:=fk func330 QKk (by kernel_rfl)
def QkI:=B0 "NlfwG93gQjfdJcoQUIP8LXS=phZ=Bf8W=_tBZXPbM96<:Rs3C9E9cCHKB2kJ4N2=Rcsx8n3z" ⟨_,by conv=>lhs;reduce⟩
def QKj:=F1 "^T8DI5hV2C_5hLy1U;WkFRSGnZGXbWnl5" QkI ⟨_,by conv=>lhs;reduce⟩
def QBU:=fk func331 QKj (by kernel_rfl)
def QkH:=B0 "Lc1NY?zTgE53NkXLNCMRWeeG4h6lnz:HxL3ZGDo_V>Xy^tzo?^79uGh=?<Pa^EqX2fSvaEU>oKI3" ⟨_,by conv=>lhs;reduce⟩
def QkG:=B1 "3pI<SqNCJI0B06vP<6J9a1T=J^fdZb5drGN7rAT" QkH ⟨_,by conv=>lhs;reduce⟩
def QkF:=B1 "3th_D5yiXP2UvV4hyLdA;bFErhlEfCnUQ[eH9SeEL8qvw?L47vq?" QkG ⟨_,by conv=>lhs;reduce⟩
def QKi:=F1 "RD_]n=lnYI7?eVUzP?wE?^MJu?SzwDylwR6Uqis^g[>mz[NNM6uuCf0]g1" QkF ⟨_,by conv=>lhs;reduce⟩
def QBT:=fk func332 QKi (by kernel_rfl)
def QkE:=B0 "gh4uFV9J4R[i][cvir]B9saLs8DtCtMW=?y=BDDotd3mW7^FzcyCJJqSBf]Pw]b<]l=H]uY" ⟨_,by conv=>lhs;reduce⟩
def QKh:=F1 "J1iFfat:KBJkVpD_s0=aTzrLrg3By1" QkE ⟨_,by conv=>lhs;reduce⟩
def QBS:=fk func333 QKh (by kernel_rfl)
def QKg:=F0 "HbjlQSvW:mB_[DrIx[G^0lAU5zsp;L?eqlokVdydV32" ⟨_,by conv=>lhs;reduce⟩
def QBR:=fk func334 QKg (by kernel_rfl)
def QkD:=B0 "cT_T7Umvf_Bp]tILAgKXY^GK^Cv[[1g:s<s2tM_mFt6eH" ⟨_,by conv=>lhs;reduce⟩
def QKf:=F1 "Q14V;bMl]eRPI86J<_L[TB<KKp:" QkD ⟨_,by conv=>lhs;reduce⟩
def QBQ:=fk func335 QKf (by kernel_rfl)
def QkC:=B0 "jrc5QzVVD4d[>Uz3toCYe6bm;Mv[[1g:s<s2tM_mFt6eH" ⟨_,by conv=>lhs;reduce⟩
def QKe:=F1 "Q14V;bMl]eRPI86J<_L[TB<KKp:" QkC ⟨_,by conv=>lhs;reduce⟩
def QBP:=fk func336 QKe (by kernel_rfl)
def QkB:=B0 "cT_T7Umvf_Bp]tILAgKXY^GK^Cv[[1g:s<s2tM_mFt6eH" ⟨_,by conv=>lhs;reduce⟩
def QKd:=F1 "Q14V;bMl]eRPI86J<_L[TB<KKp:" QkB ⟨_,by conv=>lhs;reduce⟩
def QBO:=fk func337 QKd (by kernel_rfl)
def QkA:=B0 "Px<ZzprB;ve6Y[g=xCRTYT83JZrQKJUNAtAbPV0ztTY4I5" ⟨_,by conv=>lhs;reduce⟩
def QKc:=F1 "Q14V;bMl]eRPI86J<_L[TB<KKp:" QkA ⟨_,by conv=>lhs;reduce⟩
def QBN:=fk func338 QKc (by kernel_rfl)
def Qkz:=B0 "XMqzyxMb3V5dGoyK?>BX4M17hDe2bGPG^So2Ue=BnAQHZLGj9H7Du57BaJG3YDyvK_ncbLtm_UF1" ⟨_,by conv=>lhs;reduce⟩
def Qky:=Fz1 ["P^QC4JUT^pdz9b4:1qSHAonXU6Av=aXGW>rx5ND1trqA;fnD4sWNdI[vMuZQJ?P903qlc1RMYR8of5aTr>yyU>HjhEBK^KCgEgK_","H9B80<AFm5I_J7thXk<DRnL=]VepAA822q?r==[_qL_HwK<ZeoJ3mD;a>SEmvRMeW7rHe[bcs7DJhTU^nK:Z?5zJVTlbht;[W4e1",";f792aY]VhN8tQxZzP^YdwvqE]Y_6:VMXnhfbhpdHg];x>dRNu>mBdcU]IEUkJwFsJN^L3sh7Wib;jqdXq=qffo;v=f_b3CV==2^","dMx8AoYi<jA5gz:Ylkus[5mb_gdo?3j_HHWJJAT1[Z9SdVcii5ni?V52AmXEJF3ATj=4bJlBr[jKdMWNG<:M8dD8H?IH56W[:aNQ","<RX7VA>TiJN<0MxMPY7lJt;"] Qkz ⟨_,by conv=>lhs;reduce⟩
def QKb:=F1 "Hn;FWqTsQ[XhQv>y23:I39V6N:xbUtC<Ko5ac=hxEt=97<flfNI1Kw0=JPS7?9b6LvcfDjVSs<f5JgG<6]JGsI3Tj9nuC9=?x6" Qky ⟨_,by conv=>lhs;reduce⟩
def QBM:=fk func342 QKb (by kernel_rfl)
def QKa:=F0 "W40=XpV52eZi7Stxvq02IrATxrGj8" ⟨_,by conv=>lhs;reduce⟩
def QBL:=fk func343 QKa (by kernel_rfl)
def QJ9:=E0 ["wZR5[Y<hmZw5J2qmpVj;_xNxzyxj_[wr0J;Z6rGfeSQcIxXCE5j9a1hdYMTTyX=?mLFISAYJM1kft1U]2_IM8HU1Ky7SZJ;S?h35","46Y=MPRxZw;Y_HfA684Ap_aEva=YWX4sKs<o^G6"] ⟨_,by conv=>lhs;reduce⟩
def QBK:=fk func344 QJ9 (by kernel_rfl)
def Qkx:=Fz0 ["AV6RRB6P8W6:x]^LGU^jiiSZ;R;yBvwsf_LIKEM>LA^g_9_Zin0ubUhv^]lJEnCscxi63ZfmFBw2If8zp?82U5GQuZQYe_[?XBUe","dk<mqSEaRPIzr^p^4oP]whyITDzym5_y68"] ⟨_,by conv=>lhs;reduce⟩
def Qkw:=B0 "qy?oqp635Vu9q?W9bQ<yhV_yV:VjjR_WCsBS7Qk4JTciEy;B:JpcTk8tH:N983;vxQ<" ⟨_,by conv=>lhs;reduce⟩
def Qkv:=B1 "PKD83RVR<y1BgbhNV]Z^ZAk]HbU2tpWDj_6sX_l[9[AAMmLDrrPswpw6bNj0PHx;24DATl4W4YFh44vHlK[5]^UR;iC1tU=k8Q[IT]0Yz=q;1otW;y:ZxgAwCoj1" Qkw ⟨_,by conv=>lhs;reduce⟩
def QJ8:=F2 "fVkh7[CvHUo_96f[x_=MpX87CUFJN[Xab:[LJA2DZs<sYFk7pyliN:U]mJtNu9szDrff9=6gmQIj:83PV8t:s_Nlifu9FC^;:lJS1[XCC3" Qkx Qkv ⟨_,by conv=>lhs;reduce⟩
def Qsy:=fk func345 QJ8 (by kernel_rfl)
def Qku:=B0 "qDgcjTA6oT7Hm5agZx:ZoZyBgWv[[1g:s<s2tM_mFt6eH" ⟨_,by conv=>lhs;reduce⟩
def QJ7:=F1 "Q14V;bMl]eRPI86J<_L[TB<KKp:" Qku ⟨_,by conv=>lhs;reduce⟩
def QBJ:=fk func346 QJ7 (by kernel_rfl)
def QJ6:=F0 "qT3WQ1SoGY1SVtS2hX1" ⟨_,by conv=>lhs;reduce⟩
def QBI:=fk func347 QJ6 (by kernel_rfl)
def Qgb:=b0 0x0 ⟨_,by conv=>lhs;reduce⟩
def Qkt:=B0 "8b5r7Q[PnpkxQ" ⟨_,by conv=>lhs;reduce⟩
def QJ5:=F2 "E^KnwKEn_9WT6k?UX1:9?X0tr_f00k]<2bG8DWB58tT9>kSq93dYS?8aWQsPX4_sE1J?tcC:tlJ2UxAl6PST9v[byr>j;ndPbQ2CF" Qgb Qkt ⟨_,by conv=>lhs;reduce⟩
def QBH:=fk func348 QJ5 (by kernel_rfl)
def Qks:=B0 "o37Gm5rC63vyfoU:^B7Ngd_1yeNJbw58csf[lRi99gpsfL03E^vA9aFp5K2" ⟨_,by conv=>lhs;reduce⟩
def QJ4:=F1 ">EQWfC6C;E]RCS]vqscVa0XNb:vTK?fWEFPCwbn_xwM]_Gz]phj2g00T" Qks ⟨_,by conv=>lhs;reduce⟩
def QBG:=fk func349 QJ4 (by kernel_rfl)
def Qga:=b0 0x0 ⟨_,by conv=>lhs;reduce⟩
def Qkr:=B0 "NhPMY6Qe4elX=" ⟨_,by conv=>lhs;reduce⟩
def QJ3:=F2 "LgBDxl8otYjDNAgtSRDIErEVZ?CfWARxSzgd?zWrr<KKs7LZi6f6WP6MPU04ue38jz54Pm7yhJ;zaDBru]8" Qga Qkr ⟨_,by conv=>lhs;reduce⟩
def QBF:=fk func350 QJ3 (by kernel_rfl)
def Qkq:=B0 "PW_Vp7VkFfe3>1P>AFpbTR<Dguu[[1g:s<s2tM_mFt6eH" ⟨_,by conv=>lhs;reduce⟩
def QJ2:=F1 "Q14V;bMl]eRPI86J<_L[TB<KKp:" Qkq ⟨_,by conv=>lhs;reduce⟩
def QBE:=fk func354 QJ2 (by kernel_rfl)
def Qf9:=B0 "_cjL;vp_yoPszeN" ⟨_,by conv=>lhs;reduce⟩
def Qkp:=B0 "Rzp6g__jSn4n2Ml:08uFp0c>Kdf" ⟨_,by conv=>lhs;reduce⟩
def QHX:=F2 "<YBZktvAC9Q=xAiAgI2q31pZ>gq[x=LDFlCax=8^J:l=5J1" Qf9 Qkp ⟨_,by conv=>lhs;reduce⟩
def QBD:=fk func355 QHX (by kernel_rfl)
def Qko:=B0 "qy0KRP4CYDS6mlmK]C4^LV<tz9[AN>uGaafNbsUcmKUQxuq><;a1n[3FV:B<vIhcN2HMxcq:2" ⟨_,by conv=>lhs;reduce⟩
def Qkn:=B1 "FqxRTRqsrWK?Qw<:z]9ybXRm;PqNBfFdmzfRSG7zZgU7C^s?WcMt61MNoS5" Qko ⟨_,by conv=>lhs;reduce⟩
def QbP:=B0 "wu?VVqgSfG21" ⟨_,by conv=>lhs;reduce⟩
def Qf8:=B1 "?EINRPuGRxEk0M6DyIc?;K;[g>]1JfHRM?x5ohpNMlQ8YP9J7" Qkn ⟨_,by conv=>lhs;reduce⟩
def QJ1:=F2 "eVv;nfyGAEBu]1rhu2HHcVWQI_GlT9" QbP Qf8 ⟨_,by conv=>lhs;reduce⟩
def QBC:=fk func356 QJ1 (by kernel_rfl)
def QJ0:=F0 "BDHqY6<cr32]NJeNZ6_njPfBz2" ⟨_,by conv=>lhs;reduce⟩
def QBB:=fk func357 QJ0 (by kernel_rfl)
def QJZ:=E0 ["lV^ZWtq^?gnQZ^n;efp9T0UaqG9GSUFm^AxSp5GMeIIEr;Mn5GX13;DDNPUjMwNplW[oLZq]NqEKWxC486l?BRpE8?f8gTLoToVg","Jogm0PwRW]T:lqmTQiBK2aKmpkS^yeNEdL^MpyWWGj<DHrNrJLSz8lGhh2QCj2?P"] ⟨_,by conv=>lhs;reduce⟩
def QBA:=fk func369 QJZ (by kernel_rfl)
def QJY:=F0 "^>o:=lUuLskM_D:2vVFCJrgIm^I193cyZadZDbYVDXp>cdnERrTcb;71yU5rE3UgpEe[dQG^Jzmtn<pm7DSxL;eP4" ⟨_,by conv=>lhs;reduce⟩
def QBz:=fk func370 QJY (by kernel_rfl)
def QJX:=F0 "y1WU1r1UaQspoU=mi27RWiKhM:43R:NuSXyY>f94xwqC5J1" ⟨_,by conv=>lhs;reduce⟩
def QBy:=fk func371 QJX (by kernel_rfl)
def Qkm:=B0 "?AHvDWLGiK=E?r_VHUM^jf?vAKD0<Gy?]p=ccxM8qYmVD2e?T[SkNv>Y1BWWnBCuPnJYVlitQ9afM3GSrQ_L:VDWSyy>NiCq;" ⟨_,by conv=>lhs;reduce⟩
def QJW:=F1 ";2fgVgMmbzvPw1^QD?:hx8NclzNw;cYU0=Bwqdvye;HeicfAMb;shLGe_CYiqVM?S5LsNl0UfM09u>K__vTmV^4anrw?gk5gM9lD]4" Qkm ⟨_,by conv=>lhs;reduce⟩
def QBx:=fk func372 QJW (by kernel_rfl)
def QJV:=F0 "QsmSKoxZ6W3zvl00S_LZNHLxfP^e<ITq?4^RK5;lsw33G?a665YB[Led7" ⟨_,by conv=>lhs;reduce⟩
def QBw:=fk func373 QJV (by kernel_rfl)
def Qkl:=B0 "gBEzGlaVm=;eoPkmcmLAD4Skr^AY[03JXGN0576Z>3Q8rVj]tMWtRXdk]q8U;kJBtjzfk?dL:m0r3ytkV>Dxe;" ⟨_,by conv=>lhs;reduce⟩
def QJU:=F1 "nzpop9eU2y[lFX9sKuxSQ?b4^CBW14jqyA<6v6dyelI=WqKiKU>aVAE_3DUCyXmmvhg1cT66R7ZzZF<4ozqD_9WDD<qR>iahBbzD]4" Qkl ⟨_,by conv=>lhs;reduce⟩
def Qsx:=fk func374 QJU (by kernel_rfl)
def Qf7:=B0 "^?T3gSkMiG?ABX=BrNipy>km1>HXy1W4Qu_<b[Z:4vUtS9x:LCom=tCLrupLf^5sMC21^hf8jzeoGrp[:5PAi8a6=j5en7NPXPBGs=8jUzV0I65l]MaY_lNqzkvhbJJ5" ⟨_,by conv=>lhs;reduce⟩
def QJT:=F1 "d^WmYs3Sf2UxAp?afGd<QK5F=YDh=kzAwK^NszE<h>Wt2caot7<mETppfiueBfV6X<rbm^TTJ1TNb?vKBno3fFuk2;cPXZZ" Qf7 ⟨_,by conv=>lhs;reduce⟩
def QBv:=fk func375 QJT (by kernel_rfl)
def QJS:=F0 "B7>4o[A9]P[igEo6vomxQ5Yqw?Qb>2=l5" ⟨_,by conv=>lhs;reduce⟩
def QBu:=fk func379 QJS (by kernel_rfl)
def QJR:=E0 ["8cG^fngGL]0GBi^y;kFyr<?2eqfl1W9our1UllXBmRG;ZsE;8AZd54LGpSSdIKh1zA=As>0Q:y1bFY_KGx;;[t2:A<a2F6t3Z;1h",";Gs2<h?:m_mo5Nq:?1HB:uAI]pyoauudNwqBmklG"] ⟨_,by conv=>lhs;reduce⟩
def QBt:=fk func382 QJR (by kernel_rfl)
def QJQ:=F0 "RgN]1t_2Rm3" ⟨_,by conv=>lhs;reduce⟩
def QBs:=fk func383 QJQ (by kernel_rfl)
def QJP:=F0 "w;3i:0W6B6:9Y?o[iTa_4u4u1" ⟨_,by conv=>lhs;reduce⟩
def QBr:=fk func395 QJP (by kernel_rfl)
def Qkk:=B0 "NnGUWnfL[nVb3_M:8PL3mYbPeccasMfg]01WHKW=NU?Rzdrc:VCQ>n>f4q=wFa;KGAcplF>p_=x4[>z8HU=7z40n" ⟨_,by conv=>lhs;reduce⟩
def Qkj:=B0 "_W2_jAU^dZ=AUVfZ_Ci7b5uLa1tXIC7GshV3rl[4hrIbEiCItvg3vws_v_tYw3Qy" ⟨_,by conv=>lhs;reduce⟩
def QJO:=F2 "hpz7T<Q^W^XXfcEFDG;8yyBq]8CjXk;tb5lGVs?Tk?vIR9X1Vixw]C;bJDu?xNt6tQWx3^Hm9Vgm9=2dkDC>FGhz_tt6sCmu[e1TqIHR:105FL5X<F" Qkk Qkj ⟨_,by conv=>lhs;reduce⟩
def QBq:=fk func396 QJO (by kernel_rfl)
def Qki:=B0 "AfkdcUnLKIyopQm:0bD=t9pIV[WkUjUC3P^T3QGYgbc7Q=3LUsanVsi^WU>k>:p8jvpy>GaMCZQeIW6EAZIE_1;fhsN[^:H:vNB05pMJP;:4AgbMUi2" ⟨_,by conv=>lhs;reduce⟩
def QJN:=F1 "SEQIWg39bp[FEL9YSFkIp=eFhv]yPfv8mVzm4ZY9?lAD9R1" Qki ⟨_,by conv=>lhs;reduce⟩
def QBp:=fk func409 QJN (by kernel_rfl)
def QJM:=F0 "T2DkAB5kNt624IK0hX1" ⟨_,by conv=>lhs;reduce⟩
def QBo:=fk func410 QJM (by kernel_rfl)
def VP:=B0 "Cw:5AN0yJaz_0x7C2V9<^Lnryqx7Gs8KW]EbB==oqodJ?T>bBjJXPrebI20L<15vZhPHy66WbPyMmr>QE77q];xvV]Q61=SJ_5]5J6" ⟨_,by conv=>lhs;reduce⟩
def QJL:=F1 "[]KL1E2l=zi81bU?NSmq:zYChrpPcUjcTrMht7mbHcl>7d>NF1Xt4]RAzHDmY<hcxRDzy5Aim6dSwiN?kwGA_4qvJ=upYaYyRR^bvI9Z1hFuMT" VP ⟨_,by conv=>lhs;reduce⟩
def Qss:=fk func421 QJL (by kernel_rfl)
def Qkh:=B0 "BNHHwa06v7YXAa45x]GYq1nMH]JR]P4T]oMe91nz8JHaWuz8[RB0qxQCHo:iaLwZF_x3SBt9fqtKGRz^Rx]K9tZ1jzanGR]1=g;>QeCUZKYMk2" ⟨_,by conv=>lhs;reduce⟩
def Qkg:=B1 "cwaba6KE3cgITwDRwr07nE]z[E5xmpZ1kceIGK998PprX03lSnqeYC334<3" Qkh ⟨_,by conv=>lhs;reduce⟩
def QJK:=F1 "?XzmHC=B:G4zzJK7mb9qtk[JI??DUy4=B]tQQmDW[h2IPL[4cF>" Qkg ⟨_,by conv=>lhs;reduce⟩
def QBn:=fk func422 QJK (by kernel_rfl)
def QJJ:=F0 "gVqZHeRUleDu=K;1hX1" ⟨_,by conv=>lhs;reduce⟩
def QBm:=fk func423 QJJ (by kernel_rfl)
def Qkf:=Fz0 ["jYgp[GBmFx?Y6ZSpe0B21ZThd37GL[[2cl;KPF92SFE_tKf6[D_hEMQ?Gjkkgg3u7ijX6j^SQ082kz8;Q_?v:<W0hHeWlvY7Nimf","ZtK1ky=rKji4_Y^Cr7UsMAkq=Fnuc42A]3"] ⟨_,by conv=>lhs;reduce⟩
def QJI:=F1 "8EtLD>sm;>AwwP:cW8X?L9XaNvsgfumrnSJqqv;?U?KtEw^TfKa6=;D2" Qkf ⟨_,by conv=>lhs;reduce⟩
def QBl:=fk func434 QJI (by kernel_rfl)
end Go.Pf
namespace Go.Ev
open Go Go.RowKit
def QNl(res:List Qbu)(y:IV)(s':Ext)(e:Env)(o:Qz):Prop:=QED res e o=some y/\Qc o 0=some (.ext s')
def QvG(pre post:List IV):Env:=(pre.length,.cb 0)::(JL 0 pre++JL (pre.length+1) post)
def Qje(e f t)(h:∀v,(t,v)∉e):look (e++f) t=look f t:=by
 induction e with
 |nil=>rfl
 |cons p r ih=>have⟨k,v⟩:=p;simp only[QOa,look];rw[if_neg (λe=>h v (by simp[e])),ih (λv hv=>h v (by simp[hv]))]
def Qx9(e f t)(h:∃v,(t,v)∈e):look (e++f) t=look e t:=by
 induction e with
 |nil=>simp at h
 |cons p r ih=>have⟨k,v⟩:=p;simp only[QOa,look];grind
section
variable{P:Program}{K:World->Prop}
def QW{f A pre post s s' y}(hok:Qxo P f A)(hlen:pre.length+post.length+1<=A.nt)(hv:s'.v=s.v)(hy:Zh y=true)
  (h:WpF P K (FnF (QNl A.res y s')) [.code A.code] (QvG pre post) [(0,.ext s)]):QoQ P K f pre post s y s':=by
 refine⟨hv,λok O D w us vs hp hul=>?_⟩;obtain⟨fn,hfn,hok⟩:=hok;unfold QhZ at hok;split at hok
 .rename_i c hbody;simp only[QNZ,beq_iff_eq] at hok;have⟨⟨hfit,hnt⟩,hres⟩:=hok;have hvl:vs.length=post.length:=by
   have:=hp.len;simp only[QOf] at this;omega
  let args:List Value:=us++s.v::vs
  let a:Act:={ tmps:=args.toArray++Array.replicate (fn.ntmps-args.toArray.size) undef,defers:=[] }
  let w0:XS:=⟨w,λb=>b<w.heap.size/\¬O b,λ_ h=>h.1,λ_=>undef⟩
  have hctx:Ctx P K ok w0:=⟨λw' h=>hp.hK w' h,λb hb=>by
   by_cases hbl:b<w.heap.size
   .exact hp.own b (Classical.byContradiction λhn=>hb ⟨hbl,hn⟩)
   exact hp.new b (QO9.1 hbl)⟩
  let lo:Nat->Option AO:=Qc [(0,.ext s)]
  have xc:∀i ob,lo i=some ob->i=0/\ob=.ext s:=by intro i ob hi;simp only[lo,Qc] at hi;grind
  have hokk:∀b,ok b/\¬O b->okL ok lo (λ_=>.ext O D) b:=λb hb=>⟨hb.1,λi ob _ hbad=>hb.2 hbad⟩;have hdata:∀k x u,(pre++post)[k]?=some x->(us++vs)[k]?=some u->QZ (okL ok lo (λ_=>.ext O D)) w x u:=λk x u h1 h2=>(hp.args k x u h1 h2).mono λb hb _=>⟨hokk b hb,rfl⟩;have htmp:∀t u,args[t]?=some u->a.tmps.getD t undef=u:=λt u hu=>by have y9:t<args.length:=(QNY.1 hu).1;simp only[a,QOL,QPM,QPs,y9,if_true,List.getElem?_toArray,hu,QOG]
  have hrel:Rel ok ⟨A.nt,[]⟩ w0 (look (QvG pre post)) lo a w (λ_=>.ext O D):=by
   refine⟨Zv.refl _ _,⟨[],rfl,QPA,by simp⟩,?_,λt=>?_,λi ob hi=>?_,λi j oi oj b hij hi hj=>?_,λt ht=>by simp at ht⟩
   .simp[a,args,hnt];omega
   .simp only[QvG,look];split
    .rename_i ht;subst ht;rw[htmp pre.length s.v (by simp[args,<- hul])];exact .cb 0 s O D rfl rfl
    rename_i ht;by_cases hin:∃v,(t,v)∈JL 0 pre
    .rw[Qx9 _ _ _ hin]
     rcases Jj pre 0 t with h1|⟨x,_,h2,h3⟩
     .rw[h1];exact .iv _ _ (.any _)
     rw[h3];simp only[Nat.sub_zero] at h2;have y9:t<us.length:=by rw[hul];exact(QNY.1 h2).1
     rw[htmp t us[t] (by grind)]
     exact .iv _ _ (hdata t x _ (by rw[QOs (by omega)];exact h2) (by rw[QOs y9];exact QNX y9))
    rw[Qje _ _ _ (λv hv=>hin ⟨v,hv⟩)]
    rcases Jj post (pre.length+1) t with h1|⟨x,hle,h2,h3⟩
    .rw[h1];exact .iv _ _ (.any _)
    rw[h3];have y9:t-(pre.length+1)<vs.length:=by rw[hvl];exact(QNY.1 h2).1
    have hg:=QNX y9
    rw[htmp t vs[t-(pre.length+1)] (by grind)]
    exact .iv _ _ (hdata (t-1) x _ (by rw[QOm (by omega)];rw[<- h2];congr 1;omega) (by rw[QOm (by omega),<- hg];congr 1;omega))
   .obtain⟨rfl,rfl⟩:=xc i ob hi;refine⟨λb hb=>⟨λhf=>hf.2 hb,hp.lt b (hp.sub b hb),hp.sub b hb⟩,λb hb=>?_,hp.J⟩;by_cases hbo:O b
    .exact .inl hbo
    exact .inr ⟨⟨hp.lt b hb,hbo⟩,hokk b ⟨(hp.okd b hb).resolve_left hbo,hbo⟩⟩
   grind
  refine Qtq (ac:=A.code) (R:=λv w'=>∃O' D',Qit ok O w s' y O' D' v w') hctx hfn hbody hfit hrel h (λw1 e' o' a' w' L' hle hf hr'=>?_);have⟨hf1,hf2⟩:=hf;have⟨v,h1,h2⟩:=Qci hr' (λb hb=>hctx.ok b λh=>hb (hle.fr b h)) hres hf1;refine⟨v,h1,?_⟩;have hob:=hr'.y8 0 _ hf2;cases hL:L' 0 with
  |ext O' D'=>
   rw[hL] at hob;have⟨g1,g2,g3⟩:=hob;refine⟨O',D',Y3 hy h2,hle.keeps hr'.below,g3,λb hb=>?_,λb hb=>(g1 b hb).2.2,λb hb=>?_,λb hb=>?_⟩
   .by_cases hbl:b<w.heap.size
    .exact .inl (Classical.byContradiction λhn=>(g1 b hb).1 (hle.fr b ⟨hbl,hn⟩))
    exact .inr (QO9.1 hbl)
   .rcases g2 b hb with h|⟨h,_⟩
    .exact(g1 b h).2.1
    exact hr'.frl b h
   exact(g2 b hb).imp (λh=>h) (λh=>h.2.1)
  |_=>rw[hL] at hob;exact hob.elim
 .simp at hok
end
section
variable{P:Program}{K:World->Prop}
def Rnd(P:Program)(K:World->Prop)(ps:List Nat)(asn body:AC)(ks ids:List Nat)(eK:Env)(x:List IV)(o:Qz)(wy:Way)(o':Qz):Prop:=x.length=ps.length/\WpF P K (λw1 e1 o1=>w1=.fall/\WpF P K (λw2 e2 o2=>w2=wy/\ZN ks ids e2=eK/\XU ids o2 ids=o') [.code body] e1 o1) [.code asn] (Qdp ps x eK) o
inductive Wh(P:Program)(K:World->Prop)(ps:List Nat)(asn body:AC)(ks ids:List Nat)(eK:Env):List (List IV)->Qz->Way->Qz->Prop
 |nil(o):Wh P K ps asn body ks ids eK [] o .fall o
 |stop(x r o o' wy)(hn:wy≠.fall)(h:Rnd P K ps asn body ks ids eK x o wy o'):Wh P K ps asn body ks ids eK (x::r) o wy o'
 |next(x r o o1 o' wy)(h:Rnd P K ps asn body ks ids eK x o .fall o1)(hr:Wh P K ps asn body ks ids eK r o1 wy o'):Wh P K ps asn body ks ids eK (x::r) o wy o'
def Wh.index{ps asn body ks ids eK L o o' wy}(h:Wh P K ps asn body ks ids eK L o wy o'):
  ∃(St:Nat->Qz)(Wy:Nat->Way)(m:Nat),St 0=o/\St m=o'/\(if m=0 then .fall else Wy (m-1))=wy/\m<=L.length/\(∀i,i+1<m->Wy i=.fall)/\(m=L.length\/(0<m/\Wy (m-1)≠.fall)) /\
   ∀i x,i<m->L[i]?=some x->Rnd P K ps asn body ks ids eK x (St i) (Wy i) (St (i+1)):=by
 induction h with
 |nil o=>exact⟨λ_=>o,λ_=>.fall,0,rfl,rfl,rfl,QN3 _,λ_ _=>rfl,.inl rfl,λi x hi=>absurd hi (Nat.not_lt_zero _)⟩
 |stop x r o o' wy hn h=>refine⟨λi=>if i=0 then o else o',λ_=>wy,1,rfl,rfl,rfl,by simp,λi hi=>by omega,.inr ⟨by omega,hn⟩,λi y hi hy=>?_⟩;grind
 |next x r o o1 o' wy h _ ih=>
  have⟨St,Wy,m,h1,h2,h3,h4,h5,h6,h7⟩:=ih;refine⟨λi=>if i=0 then o else St (i-1),λi=>if i=0 then .fall else Wy (i-1),m+1,rfl,by simp[h2],?_,by simp;omega,λi hi=>?_,?_,λi y hi hy=>?_⟩
  all_goals grind
def Zf{F f ps asn body ks ids k e o o' g fs cs L wy}
  (hf:QoE (f.av (look e))=some (g,fs,cs))(hc:callee P g=true)(hit:Qbs P K g fs cs L)(hr:Wh P K ps asn body ks ids (ZN ks ids e) L (XU ids o ids) wy o')
  (h:WpF P K F (Qjm wy k) (ZN ks ids e) o'):WpF P K F (.code (.range f ps asn body ks ids)::k) e o:=by
 have⟨St,Wy,m,h1,h2,h3,h4,h5,h6,h7⟩:=hr.index;refine .range F f ps asn body ks ids k e o g fs cs L St Wy m (λi e1 o1=>WpF P K (λw2 e2 o2=>w2=Wy i/\ZN ks ids e2=ZN ks ids e/\XU ids o2 ids=St (i+1)) [.code body] e1 o1) hf hc hit h1 h4 h5 h6 (λi x hi hx=>(h7 i x hi hx).1) (λi x hi hx=>(h7 i x hi hx).2) (λi e1 o1 _ hM=>hM) ?_;rw[h3,h2];exact h
theorem Wh.all{ps:List Nat}{asn body:AC}{ks ids:List Nat}{eK:Env}:∀(L:List (List IV))(so:Nat->Qz),(∀i x,L[i]?=some x->Rnd P K ps asn body ks ids eK x (so i) .fall (so (i+1)))->Wh P K ps asn body ks ids eK L (so 0) .fall (so L.length)
 |[],so,_=>.nil _
 |x::r,so,h=>by refine .next x r _ _ _ _ (h 0 x rfl) ?_;have:=Wh.all r (λi=>so (i+1)) (λi y hy=>h (i+1) y (by simpa using hy));simpa using this
@[simp] theorem QEE(k):Qjm .fall k=k:=rfl
@[simp] theorem QFB(k):Qjm .ret k=.code .ret::k:=rfl
@[simp] theorem QEF(id k):Qjm (.exit id) k=.code (.exit id)::k:=rfl
attribute [simp] QoE Qdp QNl QvG
end
def Js:Nat->List AV->Env
 |_,[]=>[]
 |i,x::r=>(i,x)::Js (i+1) r
theorem JE:∀xs i t,look (Js i xs) t=.iv .any\/∃x,i<=t/\xs[t-i]?=some x/\look (Js i xs) t=x
 |[],i,t=>.inl rfl
 |x::r,i,t=>by
  simp only[Js,look];split
  .rename_i h;subst h;exact .inr ⟨x,QN3 _,by simp,rfl⟩
  .rename_i h;rcases JE r (i+1) t with h1|⟨y,h1,h2,h3⟩
   all_goals grind
def Qq9(P:Program)(fn:Func)(A:AFn)(pins:List Nat):Bool:=(match fn.body with|some c=>QA P ⟨A.nt,pins⟩ A.code c|none=>false)&&fn.ntmps==A.nt&&QP P A.res fn.results.toList
def ZY(P:Program)(f:FuncId)(A:AFn)(pins:List Nat):Prop:=∃fn,P.funcs[f]?=some fn/\Qq9 P fn A pins=true
def Qxo.p{P f A}(h:Qxo P f A):ZY P f A []:=by have⟨fn,h1,h2⟩:=h;exact⟨fn,h1,h2⟩
def QiX(e:Env)(o:Qz):List Qbu->Option (List AV)
 |[]=>some []
 |x::r=>match QtG e o x,QiX e o r with
  |some y,some ys=>some (y::ys)
  |_,_=>none
def QxW(res:List Qbu)(e:Env)(o:Qz):Option AV:=
 match res with
 |[]=>some (.iv (.xf []))
 |[x]=>QtG e o x
 |xs=>(QiX e o xs).map .xf
def QxY(ids:List Nat)(o:Qz)(y:AV)(z:AV):Prop:=
 match y with
 | .iv r=>imm (λi=>if ids.contains i then none else Qc o i) 40 z=some r
 |y=>z=rn (nth ids) y
@[simp] theorem QxX(ids o r z):QxY ids o (.iv r) z=(imm (λi=>if ids.contains i then none else Qc o i) 40 z=some r):=rfl
@[simp] theorem QFq(ids o i n z):QxY ids o (.yl i n) z=(z=.yl (nth ids i) n):=rfl
@[simp] theorem QHB(ids o i n z):QxY ids o (.loc i n) z=(z=.loc (nth ids i) n):=rfl
@[simp] theorem QHC(ids o cs z):QxY ids o (.agg cs) z=(z=.agg (rnL (nth ids) cs)):=rfl
def Qiy(res:List Qbu)(ids:List Nat)(pe:List (Nat×Nat×Nat))(y:AV)(o1:Qz)(e:Env)(o:Qz):Prop:=(∃z,QxW res e o=some z/\QxY ids o y z)/\(∀p∈o1,Qc o (nth ids p.1)=some (rnO (nth ids) p.2))/\(∀q∈pe,look e q.1=.loc q.2.1 q.2.2)
section
variable{P:Program}{K:World->Prop}
def QiY{fn rs tmps v w}(hrs:fn.results.toList=[rs])(hv:(YR tmps rs).run P w=.ok v w):(results fn tmps).run P w=.ok v w:=by
 have hfun:results fn tmps=(do
   let vs <- fn.results.mapM (YR tmps)
   pure (if h:vs.size=1 then vs[0] else .tuple vs)):=by
  unfold results;congr 1
 rw[hfun,QPm,hrs];simp[List.mapM_cons,hv]
def results_none{fn tmps w}(hrs:fn.results.toList=[]):(results fn tmps).run P w=.ok undef w:=by
 have hfun:results fn tmps=(do
   let vs <- fn.results.mapM (YR tmps)
   pure (if h:vs.size=1 then vs[0] else .tuple vs)):=by
  unfold results;congr 1
 rw[hfun,QPm,hrs];simp[undef]
def QtF{ok0 N w0 a w L e o fn res z}(h:Rel ok0 N w0 (look e) (Qc o) a w L)(hf:QP P res fn.results.toList=true)(hv:QxW res e o=some z):∃v,(results fn a.tmps).run P w=.ok v w/\QG (okL ok0 (Qc o) L) w (Qc o) L z v:=by
 match res,hv with
 |[],hv=>
  simp only[QxW,Option.some.injEq] at hv;subst hv;have hrs:fn.results.toList=[]:=by
   generalize fn.results.toList=l at hf;cases l with
   |nil=>rfl
   |cons r s=>simp[QP] at hf
  exact⟨undef,results_none hrs,.iv _ _ Qck⟩
 |[x],hv=>
  obtain⟨rs,hrs⟩:∃rs,fn.results.toList=[rs]:=by
   generalize fn.results.toList=l at hf
   match l,hf with
   |[r],h=>exact⟨r,rfl⟩
   |[],h=>cases x<;>simp[QP] at h
   |r::_::_,h=>cases x<;>cases r<;>simp[QP] at h
  rw[hrs] at hf;have⟨v,hv1,hv2⟩:=Qfj h hf hv;exact⟨v,QiY hrs hv1,hv2⟩
 |x::x2::r,hv=>
  simp only[QxW,QN2] at hv;obtain⟨zs,hzs,rfl⟩:=hv
  have many:∀res rs zs,QP P res rs=true->QiX e o res=some zs->∃vs,(rs.mapM (YR a.tmps)).run P w=.ok vs w/\vs.length=zs.length /\
    ∀(k:Nat)(z:AV)(v:Value),zs[k]?=some z->vs[k]?=some v->QG (okL ok0 (Qc o) L) w (Qc o) L z v:=by
   intro res;induction res with
   |nil=>
    intro rs zs hf hv;cases rs with
    |cons=>simp[QP] at hf
    |nil=>simp only[QiX,Option.some.injEq] at hv;subst hv;exact⟨[],by simp,rfl,by simp⟩
   |cons y r ih=>
    intro rs zs hf hv;cases rs with
    |nil=>cases y<;>simp[QP] at hf
    |cons s rs=>
     have⟨h1,h2⟩:=QaY hf;simp only[QiX] at hv;split at hv
     .rename_i u us hu hus;injection hv with hv;subst hv;have⟨v,hr,hrep⟩:=Qfj h h1 hu;have⟨vs,hrs,hl,hreps⟩:=ih rs us h2 hus;refine⟨v::vs,by simp[List.mapM_cons,hr,hrs],by simp[hl],λk z u hz hu=>?_⟩;grind
     cases hv
  have⟨vs,hrs,hl,hreps⟩:=many _ _ _ hf hzs;have hzl:2<=zs.length:=by simp only[QiX] at hzs;grind
  refine⟨.tuple vs.toArray,?_,.xf _ _ hl hreps⟩
  have hfun:results fn a.tmps=(do
    let vs <- fn.results.mapM (YR a.tmps)
    pure (if h:vs.size=1 then vs[0] else .tuple vs)):=by
   unfold results;congr 1
  rw[hfun,QPm];have hsz:¬(vs.length=1):=by omega
  simp[hrs,hsz]
def Q9{f A args o o1 y}(ids st pins pe)(hok:ZY P f A pins)(hlen:args.length<=A.nt)(hnd:ids.Nodup)
  (ho1:∀p∈o1,p.1<ids.length/\Zt p.2=true/\clO (o1.map (·.1)) p.2=true)(hy:clA (o1.map (·.1)) y=true)
  (hst:∀i∈st,nth ids i=i/\(∃cs,Qc o i=some (.box cs))/\(∃cs,Qc o1 i=some (.box cs))/\∃t off,(t,i,off)∈pe/\pins.contains t=true/\args[t]?=some (.loc i off))
  (h:WpF P K (FnF (Qiy A.res ids pe y o1)) [.code A.code] (Js 0 args) o):Y0 P K f args o st y o1:=by
 intro w ok L vs hK hnew hown hlaid hvl hvs;obtain⟨fn,hfn,hok⟩:=hok;unfold Qq9 at hok;split at hok
 .rename_i c hbody;simp only[QNZ,beq_iff_eq] at hok;have⟨⟨hfit,hnt⟩,hresf⟩:=hok
  let a:Act:={ tmps:=vs.toArray++Array.replicate (fn.ntmps-vs.toArray.size) undef,defers:=[] }
  let w0:XS:=⟨w,FrO w (Qc o) L,λ_ h=>h.1,λt=>a.tmps.getD t undef⟩
  have hctx:Ctx P K ok w0:=⟨λw' h=>hK w' h,λb hb=>by
   by_cases hbl:b<w.heap.size
   .exact hown b (Classical.byContradiction λhn=>hb ⟨hbl,hn⟩)
   exact hnew b (QO9.1 hbl)⟩
  have hget:∀t(y9:t<vs.length),a.tmps.getD t undef=vs[t]:=λt y9=>by simp[a,QOL,QPM,y9]
  have hrel:Rel ok ⟨A.nt,pins⟩ w0 (look (Js 0 args)) (Qc o) a w L:=by
   refine⟨Zv.refl _ _,⟨[],rfl,QPA,by simp⟩,?_,λt=>?_,hlaid.y8,hlaid.apart,λt _=>rfl⟩
   .simp[a,hnt];omega
   rcases JE args 0 t with h1|⟨z,_,h2,h3⟩
   .rw[h1];exact .iv _ _ (.any _)
   rw[h3];simp only[Nat.sub_zero] at h2;have y9:t<vs.length:=by rw[hvl];exact(QNY.1 h2).1
   rw[hget t y9];exact hvs t z _ h2 (QNX y9)
  refine(Qtq (ac:=A.code) (R:=λv w'=>∃L',QoR (FrO w (Qc o) L) ok w' (Qc o1) L'/\QG (okL ok (Qc o1) L') w' (Qc o1) L' y v/\Zv (FrO w (Qc o) L) w w'/\∀i∈st,∀ob,Qc o i=some ob->∃ob',Qc o1 i=some ob'/\VR ob ob' (L i) (L' i)) hctx hfn hbody hfit hrel h (λw1 e1 o2 a1 w' L' hle hf hr'=>?_)).mono λe w' ⟨v,he,L',h1⟩=>⟨v,L',he,h1⟩;have⟨⟨z,hz,hzy⟩,hobs,hpe⟩:=hf;have⟨v,hrun,hrep⟩:=QtF hr' hresf hz
  let m:=nth ids
  let L1:Nat->Lay:=λj=>L' (m j)
  have hinj:∀i j,i<ids.length->j<ids.length->m i=m j->i=j:=λi j hi hj e=>by have h1:=JF hnd hi;have h2:=JF hnd hj;grind
  have hlo1:∀i ob,Qc o1 i=some ob->Qc o2 (m i)=some (rnO m ob)/\L1 i=L' (m i):=λi ob hob=>⟨hobs (i,ob) (Zl hob),rfl⟩;have hdom:∀i,(o1.map (·.1)).contains i=true->(Qc o1 i).isSome=true:=λi hi=>by obtain⟨ob,hob⟩:=JQ (o:=o1) (by simpa using hi);rw[hob];rfl
  have hlt1:∀i ob,Qc o1 i=some ob->i<ids.length:=λi ob hob=>(ho1 (i,ob) (Zl hob)).1;have hokc:∀b,okL ok (Qc o2) L' b->okL ok (Qc o1) L1 b:=λb hb=>⟨hb.1,λi ob hob hbb=>hb.2 _ _ (hlo1 i ob hob).1 hbb⟩;have hFr:∀b,FrO w (Qc o) L b->w1.fr b:=λb hb=>hle.fr b hb;refine⟨v,hrun,L1,⟨λi ob hob=>?_,λi j oi oj b hij hi hj h1 h2=>?_⟩,?_,hle.keeps hr'.below,λi hi ob hob=>?_⟩
  .obtain⟨_,h2,h3⟩:=ho1 (i,ob) (Zl hob);exact Qmu hokc hdom hlo1 h3 h2 (λb hb hf=>((hr'.y8 _ _ (hlo1 i ob hob).1).lt hb).1 (hFr b hf)) (hr'.y8 _ _ (hlo1 i ob hob).1)
  .exact hr'.apart (m i) (m j) _ _ b (λe=>hij (hinj i j (hlt1 i oi hi) (hlt1 j oj hj) e)) (hlo1 i oi hi).1 (hlo1 j oj hj).1 h1 h2
  .unfold QxY at hzy;split at hzy
   .rename_i r
    have hs:=(Yj hr' (ok1:=okL ok (Qc o1) L1) hokc (lo':=λi=>if ids.contains i then none else Qc o2 i)
     (λid ob hob=>by
       split at hob
       .cases hob
       exact hob)
     (λid ob b hob hb=>by
       split at hob
       .cases hob
       rename_i hni;refine⟨(hctx.le hle).ok b ((hr'.y8 id ob hob).lt hb).1,λi oi hi hbb=>?_⟩;refine hr'.apart (m i) id _ ob b (λe=>hni ?_) (hlo1 i oi hi).1 hob hbb hb;rw[<- e];have hil:=hlt1 i oi hi;simp only[m,nth,List.getD_eq_getElem?_getD,QNX hil,QOG,List.contains_eq_mem,decide_eq_true_eq];exact QN0 hil) 40).1 z v r hrep hzy
    exact .iv _ _ hs
   subst hzy;exact QiU hokc hdom hlo1 hy hrep
  have⟨hmi,⟨cs,hcs⟩,⟨cs',hcs'⟩,t,off,hpm,hpin,hat⟩:=hst i hi;refine⟨_,hcs',?_⟩;rw[hcs] at hob;injection hob with hob;subst hob;have y9:t<vs.length:=by rw[hvl];exact(QNY.1 hat).1
  have hr0:=hvs t _ _ hat (QNX y9);have hr1:=hr'.env t;rw[hpe (t,i,off) hpm] at hr1;rw[hr'.pin t hpin] at hr1;have hpv:w1.pin t=vs[t]:=by rw[hle.pin];exact hget t y9
  rw[hpv] at hr1;have hL1:L1 i=L' i:=by show L' (nth ids i)=L' i;rw[hmi]
  generalize vs[t]=pv at hr0 hr1;cases hr0 with
  |loc _ _ c0 b0 g1 g2=>
   cases hr1 with
   |loc _ _ c1 _ g3 g4=>rw[g2,hL1,g4];simp only[VR]
 .simp at hok
def Y0.none{f args o o' st y}(h:Y0 P K f args o st y o'):Y0 P K f args o [] y o':=λw ok L vs h1 h2 h3 h4 h5 h6=>(h w ok L vs h1 h2 h3 h4 h5 h6).mono λ_ _ ⟨v,L',a,b,c,d,_⟩=>⟨v,L',a,b,c,d,λ_ h=>by simp at h⟩
@[simp] theorem QHA(ids o cs z):QxY ids o (.xf cs) z=(z=.xf (rnL (nth ids) cs)):=rfl
attribute [simp] QxW QiX Qiy Js
end
mutual
theorem QwD{st}:∀{x},clA st x=true->scr st x=x
 | .iv x,_=>rfl
 | .agg cs,h=>by simp only[clA] at h;simp only[scr,scrL_cl h]
 | .loc id off,h=>by simp only[clA] at h;simp only[scr,h,if_true]
 | .yj id n i off,h=>by simp only[clA] at h;simp only[scr,h,if_true]
 | .yl id n,h=>by simp only[clA] at h;simp only[scr,h,if_true]
 | .yn id k n,h=>by simp only[clA] at h;simp only[scr,h,if_true]
 | .ym sz,_=>rfl
 | .zsl sz,_=>rfl
 | .yk id,h=>by simp only[clA] at h;simp only[scr,h,if_true]
 | .yr id i,h=>by simp only[clA] at h;simp only[scr,h,if_true]
 | .clo g fs cs,h=>by simp only[clA,QNZ] at h;simp only[scr,scrL_cl h.1,scrL_cl h.2]
 | .cb id,h=>by simp only[clA] at h;simp only[scr,h,if_true]
 | .xf cs,h=>by simp only[clA] at h;simp only[scr,scrL_cl h]
theorem scrL_cl{st}:∀{cs},clAL st cs=true->scrL st cs=cs
 |[],_=>rfl
 |x::r,h=>by simp only[clAL,QNZ] at h;simp only[scrL,QwD h.1,scrL_cl h.2]
end
def VR.trans{a b c x y z}(h:VR a b x y)(k:VR b c y z):VR a c x z:=by
 cases a<;>cases b<;>cases x<;>cases y<;>first|exact h.elim|skip
 all_goals cases c<;>cases z<;>first|exact k.elim|skip
 all_goals simp only[VR] at h k |-
 all_goals grind
section
variable{P:Program}{K:World->Prop}
inductive Jt(P:Program)(K:World->Prop)(gc:FuncId)(fs cs:List AV)(st:List Nat):List (List IV)->Qz->Bool->Qz->Prop
 |nil(o):Jt P K gc fs cs st [] o true o
 |stop(x r o o')(h:Y0 P K gc (fs++x.map AV.iv++cs) o st (.iv (.bool false)) o')(hn:∀p∈o',Zt p.2=true):Jt P K gc fs cs st (x::r) o false o'
 |next(x r o o' o'' b)(h:Y0 P K gc (fs++x.map AV.iv++cs) o st (.iv (.bool true)) o')(hn:∀p∈o',Zt p.2=true)(hr:Jt P K gc fs cs st r o' b o''):Jt P K gc fs cs st (x::r) o b o''
def QHu(fs cs:List AV)(us vs:List Value)(st:List Nat)(o0:Qz)(L0:Nat->Lay)(o:Qz)(O D:Nat->Prop)(w:World):Prop:=∃L,(∀b,O b↔QaF (Qc o) L b)/\(∀b,O b->D b)/\(∀b,D b->b<w.heap.size)/\QoR (λb=>D b/\¬O b) D w (Qc o) L/\(∀p∈o,Zt p.2=true) /\
  (∀(k:Nat)x u,fs[k]?=some x->us[k]?=some u->QG (okL D (Qc o) L) w (Qc o) L x u) /\
  (∀(k:Nat)x u,cs[k]?=some x->vs[k]?=some u->QG (okL D (Qc o) L) w (Qc o) L x u) /\
  ∀i∈st,∀ob,Qc o0 i=some ob->∃ob',Qc o i=some ob'/\VR ob ob' (L0 i) (L i)
def QbD{o}(h:∀p∈o,Zt p.2=true){i ob}(ho:Qc o i=some ob):Zt ob=true:=h (i,ob) (Zl ho)
def QHu.stay{fs cs us vs st o0 o L0 O D w w'}(h:QHu fs cs us vs st o0 L0 o O D w)(hk:Zv D w w'):QHu fs cs us vs st o0 L0 o O D w':=by have⟨L,h1,h2,h3,h4,h5,h6,h7,h8⟩:=h;have hok:∀b,okL D (Qc o) L b->Je w b->okL D (Qc o) L b/\w'.heap[b]?=w.heap[b]?:=λb hb _=>⟨hb,hk.block b hb.1⟩;have hown:∀id ob b,Qc o id=some ob->(L id).has b->w'.heap[b]?=w.heap[b]?:=λid ob b ho hb=>hk.block b (h2 b ((h1 b).2 ⟨id,ob,ho,hb⟩));have all:∀x v,QG (okL D (Qc o) L) w (Qc o) L x v->QG (okL D (Qc o) L) w' (Qc o) L x v:=λx v hx=>hx.move hok hown;refine⟨L,h1,h2,λb hb=>QOM (h3 b hb) hk.size,⟨λid ob ho=>?_,h4.apart⟩,h5,λk x u a b=>all _ _ (h6 k x u a b),λk x u a b=>all _ _ (h7 k x u a b),h8⟩;exact(h4.y8 id ob ho).move ⟨hk.os,hk.tape,hk.output,hk.size⟩ hok (λb hb=>⟨λhf=>hf.2 ((h1 b).2 ⟨id,ob,ho,hb⟩),hown id ob b ho hb⟩) (λb hb hb'=>⟨hb,hb',hk.block b hb.1⟩) all
def QEO(g:FuncId)(fs cs:List AV)(us vs:List Value)(st:List Nat)(o0:Qz)(L0:Nat->Lay)(o:Qz):Ext:=⟨.func (.func g) us.toArray vs.toArray,rfl,QHu fs cs us vs st o0 L0 o,λ_ _ _ _ h hk=>h.stay hk⟩
def Qie{gc fs cs us vs st o0 o o' L0 x y}(hc:callee P gc=true)(lu:us.length=fs.length)(lv:vs.length=cs.length)(hfs:clAL st fs=true)(hcs:clAL st cs=true)
  (hg:Y0 P K gc (fs++x.map AV.iv++cs) o st (.iv y) o')(hn:∀p∈o',Zt p.2=true):VS P K (QEO gc fs cs us vs st o0 L0 o) x y (QEO gc fs cs us vs st o0 L0 o'):=by
 refine⟨rfl,λok O D w zs hp=>?_⟩;have⟨L,h1,h2,h3,h4,h5,h6,h7,h8⟩:=hp.J
 have hD:∀b,okL D (Qc o) L b->okL ok (Qc o) L b:=λb hb=>⟨(hp.okd b hb.1).resolve_left λho=>by have⟨i,ob,g1,g2⟩:=(h1 b).1 ho;exact hb.2 i ob g1 g2,hb.2⟩
 have mono:∀z u,QG (okL D (Qc o) L) w (Qc o) L z u->QG (okL ok (Qc o) L) w (Qc o) L z u:=λz u hz=>hz.move (λb hb _=>⟨hD b hb,rfl⟩) (λ_ _ _ _ _=>rfl)
 have hlaid:QoR (FrO w (Qc o) L) ok w (Qc o) L:=⟨λid ob ho=>((h4.y8 id ob ho).frameN' (QbD h5 ho) (B':=FrO w (Qc o) L) λb hb hf=>hf.2 ⟨id,ob,ho,hb⟩).move ⟨rfl,rfl,rfl,QN3 _⟩ (λb hb _=>⟨hD b hb,rfl⟩) (λb hb=>⟨λhf=>hf.2 ⟨id,ob,ho,hb⟩,rfl⟩)
   (λb hb hb'=>⟨hb,hD b hb',rfl⟩) mono,h4.apart⟩
 have hFO:∀b,FrO w (Qc o) L b↔b<w.heap.size/\¬O b:=λb=>by unfold FrO;rw[h1 b]
 refine Ans.of_calls hc ((hg w ok L (us++zs++vs) (λw' hk=>hp.hK w' (hk.mono λb hb=>(hFO b).2 hb)) hp.new (λb hb=>hp.own b ((h1 b).2 hb)) hlaid (by simp[lu,lv,hp.len]) (λk z u hz hu=>?_)).mono ?_)
 .by_cases k1:k<fs.length
  .grind
  rw[QPc,QOm (by omega)] at hz;rw[QPc,QOm (by omega),lu] at hu;by_cases k2:k-fs.length<x.length
  .rw[QOs (by simpa using k2)] at hz;rw[QOs (by rw[hp.len];exact k2)] at hu;rw[QN6,QN2] at hz;obtain⟨q,hq,rfl⟩:=hz;exact .iv _ _ ((hp.args _ q u hq hu).mono λb hb _=>⟨⟨hb.1,λi ob ho hbb=>hb.2 ((h1 b).2 ⟨i,ob,ho,hbb⟩)⟩,rfl⟩)
  rw[QOm (by simpa using k2)] at hz;rw[QOm (by rw[hp.len];omega)] at hu;simp only[QN9,hp.len] at hz hu;exact mono _ _ (h7 _ z u hz hu)
 .rintro e w' ⟨v,L',rfl,hlaid',hrep,hk,hstay⟩
  let O':Nat->Prop:=QaF (Qc o') L'
  let D':Nat->Prop:=λb=>b<w'.heap.size/\(O' b\/ok b)
  have hO'lt:∀b,O' b->b<w'.heap.size:=λb ⟨i,ob,ho,hb⟩=>((hlaid'.y8 i ob ho).lt hb).2;have hO'fr:∀b,O' b->¬FrO w (Qc o) L b:=λb ⟨i,ob,ho,hb⟩=>((hlaid'.y8 i ob ho).lt hb).1;have hnew:∀b,O' b->O b\/w.heap.size<=b:=λb hb=>by grind
  have hmv:∀id e sz es mv,Qc o id=some (.arr e sz es mv)->mv<=es.length:=λid e sz es mv ho=>by
   have hob:=hlaid.y8 id _ ho;cases hL:L id with
   |arr v xs=>rw[hL] at hob;exact hob.2.1
   |_=>rw[hL] at hob;exact hob.elim
  have hokD:∀b,okL ok (Qc o') L' b->Je w' b->okL D' (Qc o') L' b/\w'.heap[b]?=w'.heap[b]?:=λb hb hpl=>⟨⟨⟨hpl.lt,.inr hb.1⟩,hb.2⟩,rfl⟩;have all':∀z u,QG (okL ok (Qc o') L') w' (Qc o') L' z u->QG (okL D' (Qc o') L') w' (Qc o') L' z u:=λz u hz=>hz.move hokD (λ_ _ _ _ _=>rfl);have turn:∀z u,clA st z=true->QG (okL ok (Qc o) L) w (Qc o) L z u->QG (okL D' (Qc o') L') w' (Qc o') L' z u:=λz u hz hr=>by
   have:=Qmn (Fr:=FrO w (Qc o) L) (ok':=okL ok (Qc o') L') (ok'':=okL ok (Qc o') L') (w':=w') (lo':=Qc o') (L':=L') (keep:=st) (λb hb hbs=>by
    have hnO:¬O b:=λho=>by have⟨i,ob,g1,g2⟩:=(h1 b).1 ho;exact hb.2 i ob g1 g2
    refine⟨⟨hb.1,λi ob ho hbb=>?_⟩,hk.block b ((hFO b).2 ⟨hbs,hnO⟩)⟩;rcases hnew b ⟨i,ob,ho,hbb⟩ with h|h
    .exact hnO h
    .omega) hmv (λid ob hc ho=>by
    obtain⟨ob',g1,g2⟩:=hstay id (by simpa using hc) ob ho;exact .inr ⟨ob',g1,g2,hlaid'.y8 id ob' g1⟩) hr
   rw[QwD hz] at this;exact all' _ _ this
  refine⟨v,rfl,O',D',?_,hk.mono λb hb=>(hFO b).2 hb,⟨L',λb=>Iff.rfl,λb hb=>⟨hO'lt b hb,.inl hb⟩,λb hb=>hb.1,⟨λid ob ho=>?_,hlaid'.apart⟩,hn,λk z u hz hu=>?_,λk z u hz hu=>?_,λi hi ob hob=>?_⟩,hnew,λb hb=>⟨hO'lt b hb,.inl hb⟩,λb hb=>hb.1,λb hb=>hb.2⟩
  .cases hrep with
   |iv _ _ r=>exact r.mono λb hb _=>⟨⟨hb.1,λ⟨i,ob,ho,hbb⟩=>hb.2 i ob ho hbb⟩,rfl⟩
  .exact((hlaid'.y8 id ob ho).frameN' (QbD hn ho) (B':=λb=>D' b/\¬O' b) λb hb hf=>hf.2 ⟨id,ob,ho,hb⟩).move ⟨rfl,rfl,rfl,QN3 _⟩ hokD (λb hb=>⟨λhf=>hf.2 ⟨id,ob,ho,hb⟩,rfl⟩) (λb hb hb'=>⟨hb,⟨hb.1,hb'.2⟩,rfl⟩) all'
  .exact turn z u (qD hfs hz) (mono _ _ (h6 k z u hz hu))
  .exact turn z u (qD hcs hz) (mono _ _ (h7 k z u hz hu))
  .obtain⟨ob',g1,g2⟩:=h8 i hi ob hob;have⟨ob'',g3,g4⟩:=hstay i hi ob' g1;exact⟨ob'',g3,g2.trans g4⟩
def Jt.feeds{gc fs cs us vs st o0 L0}(hc:callee P gc=true)(lu:us.length=fs.length)(lv:vs.length=cs.length)(hfs:clAL st fs=true)(hcs:clAL st cs=true)
  {Ls o o' b}(h:Jt P K gc fs cs st Ls o b o'):Z2 P K Ls (QEO gc fs cs us vs st o0 L0 o) b (QEO gc fs cs us vs st o0 L0 o'):=by
 induction h with
 |nil o=>exact .nil _
 |stop x r o o' h hn=>exact .stop _ _ _ _ (Qie hc lu lv hfs hcs h hn)
 |next x r o o' o'' b h hn _ ih=>exact .next _ _ _ _ _ _ (Qie hc lu lv hfs hcs h hn) ih
def qs{g gc:FuncId}{pre post:List IV}{Ls:List (List IV)}{yf:Bool->IV}{fs cs:List AV}{st:List Nat}{o o':Qz}{b:Bool}(hit:Qbr P K g pre post Ls yf)(hc:callee P gc=true)(hfs:clAL st fs=true)(hcs:clAL st cs=true)
  (hst:∀i∈st,∃bs,Qc o i=some (.box bs))(hn:∀p∈o,Zt p.2=true)(hr:Jt P K gc fs cs st Ls o b o'):Y0 P K g (pre.map AV.iv++.clo gc fs cs::post.map AV.iv) o st (.iv (yf b)) o':=by
 intro w ok L ws hK hnew hown hlaid hwl hws;have hwl':ws.length=pre.length+(1+post.length):=by rw[hwl];simp;omega
 have hdec:ws=ws.take pre.length++ws[pre.length]'(by omega)::ws.drop (pre.length+1):=by rw[List.getElem_cons_drop,QO5]
 have hcv:=hws pre.length (.clo gc fs cs) _ (by simp) (QNX (by omega));generalize ws[pre.length]'(by omega)=cv at hdec hcv;cases hcv with
 |clo _ _ _ us vs lu lv hfx hcx=>
  let O:Nat->Prop:=QaF (Qc o) L
  let D:Nat->Prop:=λb=>b<w.heap.size/\(O b\/ok b)
  have hOlt:∀b,O b->b<w.heap.size:=λb ⟨i,ob,ho,hb⟩=>((hlaid.y8 i ob ho).lt hb).2;have hokD:∀b,okL ok (Qc o) L b->Je w b->okL D (Qc o) L b/\w.heap[b]?=w.heap[b]?:=λb hb hpl=>⟨⟨⟨hpl.lt,.inr hb.1⟩,hb.2⟩,rfl⟩;have all:∀z u,QG (okL ok (Qc o) L) w (Qc o) L z u->QG (okL D (Qc o) L) w (Qc o) L z u:=λz u hz=>hz.move hokD (λ_ _ _ _ _=>rfl);have hJ:QHu fs cs us vs st o L o O D w:=by
   refine⟨L,λb=>Iff.rfl,λb hb=>⟨hOlt b hb,.inl hb⟩,λb hb=>hb.1,⟨λid ob ho=>?_,hlaid.apart⟩,hn,λk z u hz hu=>all _ _ (hfx k z u hz hu),λk z u hz hu=>all _ _ (hcx k z u hz hu),λi hi ob hob=>?_⟩
   .exact((hlaid.y8 id ob ho).frameN' (QbD hn ho) (B':=λb=>D b/\¬O b) λb hb hf=>hf.2 ⟨id,ob,ho,hb⟩).move ⟨rfl,rfl,rfl,QN3 _⟩ hokD (λb hb=>⟨λhf=>hf.2 ⟨id,ob,ho,hb⟩,rfl⟩) (λb hb hb'=>⟨hb,⟨hb.1,hb'.2⟩,rfl⟩) all
   have⟨bs,h1⟩:=hst i hi;rw[hob] at h1;injection h1 with h1;subst h1;refine⟨_,hob,?_⟩;have hob2:=hlaid.y8 i _ hob;cases hL:L i with
   |box b=>rfl
   |_=>rw[hL] at hob2;exact hob2.elim
  have hgx:=hit _ _ _ (hr.feeds (us:=us) (vs:=vs) (o0:=o) (L0:=L) hc lu lv hfs hcs);have hpre:Qtd K ok O D w (QEO gc fs cs us vs st o L o) (pre++post) (ws.take pre.length++ws.drop (pre.length+1)):=by
   refine⟨λw' hk=>hK w' (hk.mono λb hb=>hb),hJ,λb hb=>⟨hOlt b hb,.inl hb⟩,λb hb=>hb.1,λb hb=>hb.2,hnew,hown,by simp;omega,λk x u hx hu=>?_⟩;have arg:∀k x u,(pre.map AV.iv++AV.clo gc fs cs::post.map AV.iv)[k]?=some (AV.iv x)->ws[k]?=some u->QZ (λb=>ok b/\¬O b) w x u:=λk x u h1 h2=>by
    have:=hws k _ u h1 h2;cases this with
    |iv _ _ r=>exact r.mono λb hb _=>⟨⟨hb.1,λ⟨i,ob,ho,hbb⟩=>hb.2 i ob ho hbb⟩,rfl⟩
   by_cases hk:k<pre.length
   .grind
   rw[QOm (by omega)] at hx;have hmin:(ws.take pre.length).length=pre.length:=by rw[QPj];omega
   rw[QOm (by rw[hmin];omega),hmin,QPy] at hu;refine arg (pre.length+1+(k-pre.length)) x u ?_ hu;rw[QOm (by simp;omega)];grind
  have hcall:=hgx.2 ok O D w (ws.take pre.length) (ws.drop (pre.length+1)) hpre (by simp;omega);have hws2:(ws.take pre.length++(QEO gc fs cs us vs st o L o).v::ws.drop (pre.length+1)).toArray=ws.toArray:=congrArg List.toArray hdec.symm;rw[hws2] at hcall;refine hcall.mono ?_;rintro e w' ⟨v,rfl,O',D',hpost⟩;have⟨L',h1,h2,h3,h4,h5,h6,h7,h8⟩:=hpost.J
  have hokn:∀b,okL D' (Qc o') L' b->okL ok (Qc o') L' b:=λb hb=>⟨(hpost.okd b hb.1).resolve_left λho=>by have⟨i,ob,g1,g2⟩:=(h1 b).1 ho;exact hb.2 i ob g1 g2,hb.2⟩
  have allb:∀z u,QG (okL D' (Qc o') L') w' (Qc o') L' z u->QG (okL ok (Qc o') L') w' (Qc o') L' z u:=λz u hz=>hz.move (λb hb _=>⟨hokn b hb,rfl⟩) (λ_ _ _ _ _=>rfl);have hfr:∀id ob b,Qc o' id=some ob->(L' id).has b->¬FrO w (Qc o) L b:=λid ob b ho hb hf=>by
   rcases hpost.new b ((h1 b).2 ⟨id,ob,ho,hb⟩) with h|h
   .exact hf.2 h
   have:=hf.1;omega
  refine⟨v,L',rfl,⟨λid ob ho=>?_,h4.apart⟩,QG.iv _ _ (hpost.rep.mono λb hb _=>⟨⟨hb.1,λi ob ho hbb=>hb.2 ((h1 b).2 ⟨i,ob,ho,hbb⟩)⟩,rfl⟩),hpost.keep,λi hi ob hob=>?_⟩
  .exact((h4.y8 id ob ho).frameN' (QbD h5 ho) (B':=FrO w (Qc o) L) λb hb=>hfr id ob b ho hb).move ⟨rfl,rfl,rfl,QN3 _⟩ (λb hb _=>⟨hokn b hb,rfl⟩) (λb hb=>⟨hfr id ob b ho hb,rfl⟩) (λb hb hb'=>⟨hb,hokn b hb',rfl⟩) allb
  .exact h8 i hi ob hob
end
section
variable{P:Program}{K:World->Prop}
def QfF{f args xs o r}(hg:Good P K f xs r)(hx:imms (Qc o) 40 args=some xs):Y0 P K f args o [] (.iv r) []:=by
 intro w ok L vs hK hnew hown hlaid hvl hvs
 let a:Act:={ tmps:=vs.toArray,defers:=[] }
 let w0:XS:=⟨w,FrO w (Qc o) L,λ_ h=>h.1,λt=>a.tmps.getD t undef⟩
 have hget:∀t(y9:t<vs.length),a.tmps.getD t undef=vs[t]:=λt y9=>by simp[a,QOL,y9]
 have hrel:Rel ok ⟨vs.length,[]⟩ w0 (look (Js 0 args)) (Qc o) a w L:=by
  refine⟨Zv.refl _ _,⟨[],rfl,QPA,by simp⟩,?_,λt=>?_,hlaid.y8,hlaid.apart,λt _=>rfl⟩
  .simp[a]
  rcases JE args 0 t with h1|⟨z,_,h2,h3⟩
  .rw[h1];exact .iv _ _ (.any _)
  rw[h3];simp only[Nat.sub_zero] at h2;have y9:t<vs.length:=by rw[hvl];exact(QNY.1 h2).1
  rw[hget t y9];exact hvs t z _ h2 (QNX y9)
 have hs:=(Yj hrel (ok1:=ok) (λb hb=>hb.1) (lo':=Qc o) (λ_ _ h=>h) (λid ob b hob hb=>hown b ⟨id,ob,hob,hb⟩) 40).2 args xs hx;refine(hg w ok vs (hK w (Zv.refl _ _)) hnew (by rw[hvl,hs.1]) λk x u hk hu=>?_).mono λe w' ⟨v,he,hrep,hb⟩=>⟨v,λ_=>.one 0,he,⟨by simp[Qc],by simp[Qc]⟩,?_,Below.keep hb λb h=>h.1,by simp⟩
 .have y9:k<args.length:=by rw[<- hs.1];exact(QNY.1 hk).1
  exact hs.2 k args[k] x u (QNX y9) hk (hvs k _ u (QNX y9) hu)
 .exact .iv _ _ (hrep.mono λb hb _=>⟨⟨hb,by simp[Qc]⟩,rfl⟩)
theorem QfE{lo:Nat->Option AO}{id n et sz mv:Nat}{rows:List (List IV)}(hid:lo id=some (.arr et sz (rows.map (List.map .iv)) mv))(hmv:mv<=n)(hn:n<=rows.length):
  ∀(mk:List (Option IV))(k:Nat),mk.length+2<=k->imms lo k (mk.map λx=>match x with|some y=>AV.iv y|none=>.yl id n)=some (mk.map λx=>x.getD (.sl sz (rows.take n)))
 |[],k+1,_=>rfl
 |some y::r,k+1,h=>by
  simp only[QOi] at h;have ih:=QfE hid hmv hn r k (by omega);cases k with
  |zero=>omega
  |succ k=>simp only[QOk,imms,imm,ih,QOG]
 |none::r,k+1,h=>by
  simp only[QOi] at h;have ih:=QfE hid hmv hn r k (by omega);cases k with
  |zero=>omega
  |succ k=>
   have e1:n<=(rows.map (List.map AV.iv)).length:=by simpa using hn
   have e2:immss lo k ((rows.map (List.map AV.iv)).take n)=some (rows.take n):=by
    cases k with
    |zero=>omega
    |succ k=>simp only[immss,<- QPQ];exact qj _
   simp only[QOk,imms,imm,ih,hid,hmv,e1,and_self,if_true,e2,QPf,Option.getD_none]
def VN{C:Env->Qz->Prop}{g:FuncId}{id n et sz mv:Nat}{d:Option Nat}{e:Env}{o:Qz}{avs:List AV}{rows:List (List IV)}{r:IV}(mk:List (Option IV))(hl:mk.length<=30)
  (hg:Good P K g (mk.map λx=>x.getD (.sl sz (rows.take n))) r)(h1:avs=mk.map λx=>match x with|some y=>AV.iv y|none=>.yl id n)
  (hid:Qc o id=some (.arr et sz (rows.map (List.map .iv)) mv))(hmv:mv<=n)(hn:n<=rows.length)
  (h:C (bnd d (.iv r) (Qpi (X2 [id] [] o) e)) (QtQ [id] (X2 [id] [] o) o [])):HK P K g [id] d C e o avs:=by
 have hrn:∀rows:List (List IV),(rows.map (List.map AV.iv)).map (rnL (nth [id]))=rows.map (List.map AV.iv):=λrows=>Qch _ rows
 refine Qo (args0:=mk.map λx=>match x with|some y=>AV.iv y|none=>.yl 0 n) (o0:=[(0,.arr et sz (rows.map (List.map .iv)) mv)]) (st:=[]) (y:=.iv r) (o1:=[])
  (QfF hg (QfE rfl hmv hn mk 40 (by omega))) ?_ ?_ ?_
 .rw[h1,List.map_map]
  refine QO6 λx _=>?_;cases x<;>simp[rn,nth]
 .refine⟨by simp,?_,?_,?_,by simp⟩
  .rw[QOt]
   intro z hz;obtain⟨x,_,rfl⟩:=QOb.1 hz;cases x<;>simp[clA]
  .intro p hp;simp only[QOu] at hp;subst hp;refine⟨by simp,?_,?_,rfl⟩
   .simp only[nth,List.getD_cons_zero,rnO,hrn,hid]
   simp only[clO,QOt];intro z hz;obtain⟨x,_,rfl⟩:=QOb.1 hz;exact Qdf _ x
  intro i hi h;simp at hi;subst hi;simp[Qc] at h
 .simpa[rn] using h
end
end Go.Ev
namespace Go.Pf
open Go Go.Ev Go.Proofs Go.Proofs.Tryz
attribute [simp] c3 c4 c5 c6 c7 c8 c9 c10 c11 c12 c13 c14 c15 c16 c17 c18 c19 c20 c21 c22 c23 c24 c25 c26 c27 c28 c29 c30 c31 c32 c33 c34 c35 c36 c37 c38 c39 c40 c41 c42 c43 c44 c45 c46 c47 c48 c49 c50 c51 c52 c53 c54 c55 c56 c57 c58 c59 c60 c61 c62 c63 c64 c65 c66 c67 c68 c69 c70 c71 c72 c73 c74 c75 c76 c77 c78 c79 c80 c81 c82 c83 c84 c85 c93 c94 c95 c96 c97 c98 c99 QIm QIl QNj QNi QIk QNh QIj QNg QNf QIi QNe QNd QIh QNc QIg QNb QIf QNa QIe QM9 QM8 QId QM7 QIc QM6 QIb QM5 QIa QM4 QH9 QM3 QH8 QM2 QH7 QM1 QH6 QM0 QH5 QMZ QMY QMX QMW QMV QMU QMT QMS QMR QMQ QMP QMO QMN QMM QML QMK QMJ QMI QMH QMG QMF QME QMD QMC QMB QMA QMz QMy QMx QMw QMv QMu QMt QMs QMr QMq QMp QMo QMn QMm QMl QMk QMj QMi QMh QMg QMf QMe QMd QMc QMb QH4 QH3 QH2 QES QH1 QH0 QHZ QMa QL9 QL8 QL7 QL6 QL5 QL4 QL3 QL2 QL1 QL0 QLZ QLY QLX
attribute [simp] QLW QLV QNM QLU QLT QLS QLR QLQ QLP QLO QLN QLM QLL QLK QLJ QLI QLH QLG QLF QLE QLD QLC QLB QLA QLz QLx QLw QLv QLu QLt QLs QLr QLq QLp QLo QLn QLm QLl QLk QLj QLi QLh QLg QLf QLe QLd QLc QLb QLa QK9 QK8 QK7 QK6 QK5 QK4 QK3 QK2 QK1 QK0 QKZ QKY QKX QKW QKV QKU QKT QKS QKR QKQ QKP QHY QKO QKN QKM QKL QKK QKJ QKI QKH QKG QJp QKF QKE QJo QKD QKC QKB QKA QKz QKy QKx QKw QKv Qtl QKu QKt QKs QKr QKq QKp QKo QKn QKm QKl QKk QKj QKi QKh QKg QKf QKe QKd QKc QKb QKa QJ9 QJ8 QJ7 QJ6 QJ5 QJ4 QJ3 QJ2 QHX QJ1 QJ0 QJZ QJY QJX QJW QJV QJU QJT QJS QJR QJQ QJP QJO QJN QJM QJL QJK QJJ QJI
abbrev Gd:=Ev.Good prog
abbrev Gh:=Y0 prog
abbrev Gp:=QdU prog
attribute [simp] Qel IntKind.inR IntKind.min IntKind.max IntKind.bits IntKind.signed
end Go.Pf
namespace Go.Pf
open Go Go.Ev Go.Proofs Go.RowKit Go.Proofs.Tryz
variable{K:World->Prop}(hK:∀w w',K w->Below w.heap.size w w'->K w')
structure QB where
 zp:Int
 pos:Int
 z2:Int
 bar:Int
 z1:Int
 deriving DecidableEq
structure XC where
 after:Int
 pos:Int
 z2:Int
 bar:Int
 z1:Int
 deriving DecidableEq
structure Ql where
 za:List QB
 zg:List XC
 zh:Int
 deriving DecidableEq
structure ZL where
 long:Int
 lo:Int
 hi:Int
 deriving DecidableEq
structure ZD where
 zm:Int
 zn:Int
 load:Int
 off:Int
 deriving DecidableEq
structure Machine where
 zd:List ZL
 zr:Int
 zu:Int
 zw:Int
 zk:List ZD
 zh:Int
 deriving DecidableEq
structure WM where
 zm:Int
 zn:Int
 z5:Int
 deriving DecidableEq
structure Qf where
 zc:Ql
 zb:Machine
 zf:List WM
 zo:Int
 z6:Int
 deriving DecidableEq
@[simp] def dC(d:QB):List IV:=[.int .i64 d.zp,.int .i64 d.pos,.int .i64 d.z2,.int .i64 d.bar,.int .i64 d.z1]
@[simp] def sC(s:XC):List IV:=[.int .i64 s.after,.int .i64 s.pos,.int .i64 s.z2,.int .i64 s.bar,.int .i64 s.z1]
@[simp] def leC(l:ZL):List IV:=[.int .i64 l.long,.int .i64 l.lo,.int .i64 l.hi]
@[simp] def baC(b:ZD):List IV:=[.int .i64 b.zm,.int .i64 b.zn,.int .i64 b.load,.int .i64 b.off]
@[simp] def trC(t:WM):List IV:=[.int .i64 t.zm,.int .i64 t.zn,.int .i64 t.z5]
@[simp] def Qq(l:List Int):IV:=.sl 1 (l.map λn=>[.int .i64 n])
@[simp] def Qr(l:List QB):IV:=.sl 5 (l.map dC)
@[simp] def Qj(l:List XC):IV:=.sl 5 (l.map sC)
@[simp] def Qs(l:List ZL):IV:=.sl 3 (l.map leC)
@[simp] def Zk(l:List ZD):IV:=.sl 4 (l.map baC)
@[simp] def Q4(l:List WM):IV:=.sl 3 (l.map trC)
@[simp] def chV(c:Ql):IV:=.agg [Qr c.za,Qj c.zg,.int .i64 c.zh]
@[simp] def maV(m:Machine):IV:=.agg [Qs m.zd,.int .i64 m.zr,.int .i64 m.zu,.int .i64 m.zw,Zk m.zk,.int .i64 m.zh]
@[simp] def prV(p:Qf):IV:=.agg [Qr p.zc.za,Qj p.zc.zg,.int .i64 p.zc.zh,Qs p.zb.zd,.int .i64 p.zb.zr,.int .i64 p.zb.zu,.int .i64 p.zb.zw,Zk p.zb.zk,.int .i64 p.zb.zh,Q4 p.zf,.int .i64 p.zo,.int .i64 p.z6]
def inR(n a b:Int):Prop:=a<=n/\n<=b
instance (n a b:Int):Decidable (inR n a b):=by unfold inR;infer_instance
include hK
def JS(x a b:Int):Gd K 180 [.int .i64 x,.int .i64 a,.int .i64 b] (.bool (decide (inR x a b))):=by apply Qb hK QDF (by simp);by_cases h:a<=x<;>simp[inR,h]
def YN(x a b:Int):Gd K 270 [.int .i64 x,.int .i64 a,.int .i64 b] (.bool (decide (inR x a b))):=by apply Qb hK QCv (by simp);by_cases h:a<=x<;>simp[inR,h]
def VE(x a b:Int):Gd K 275 [.int .i64 x,.int .i64 a,.int .i64 b] (.bool (decide (inR x a b))):=by apply Qb hK QCq (by simp);by_cases h:a<=x<;>simp[inR,h]
def Z8(x a b:Int):Gd K 152 [.int .i64 x,.int .i64 a,.int .i64 b] (.bool (decide (inR x a b))):=by apply Qb hK QD7 (by simp);by_cases h:a<=x<;>simp[inR,h]
def Qzz(x a b:Int):Gd K 244 [.int .i64 x,.int .i64 a,.int .i64 b] (.bool (decide (inR x a b))):=by apply Qb hK QCU (by simp);by_cases h:a<=x<;>simp[inR,h]
def QhT(x a b:Int):Gd K 71 [.int .i64 x,.int .i64 a,.int .i64 b] (.bool (decide (inR x a b))):=by apply Qb hK QGS (by simp);simp;exact cK (Z8 hK x a b) (by simp)
def Jm(x a b:Int):Gd K 155 [.int .i64 x,.int .i64 a,.int .i64 b] (.bool (decide (inR x a b))):=by apply Qb hK QD4 (by simp);simp;exact cK (Qzz hK x a b) (by simp)
def QjB(a b c:Int)(ha:0<=a/\a<1000000)(hc:0<=c/\c<1000000):Gd K 379 [.int .i64 a,.int .i64 b,.int .i64 c] (.int .i64 (if b=1 then c-1-a else a)):=by
 apply Qb hK QBu (by simp);by_cases hb:b=1
 .simp[hb,IntKind.inR,IntKind.min,IntKind.max,IntKind.bits,IntKind.signed];omega
 simp[hb]
def Qj0(a b c:Int)(ha:0<=a/\a<1000000)(hc:0<=c/\c<1000000):Gd K 156 [.int .i64 a,.int .i64 b,.int .i64 c] (.int .i64 (if b=1 then c-1-a else a)):=by
 apply Qb hK QD3 (by simp);by_cases hb:b=1
 .simp[hb,IntKind.inR,IntKind.min,IntKind.max,IntKind.bits,IntKind.signed];omega
 simp[hb]
def QqG(bar z1 least:Int):Gd K 273 [.int .i64 bar,.int .i64 z1,.int .i64 least] (.bool (decide (inR bar least 99/\inR z1 least 99))):=by
 apply Qb hK QCs (by simp);simp;apply cK (YN hK _ _ _);by_cases h:inR bar least 99
 .simp[h];exact cK (YN hK _ _ _) (by simp)
 .simp[h]
def grow(d:QB):Int:=if d.zp=1 then 1 else if d.zp=2 then -1 else 0
def QjG(d:QB):Gd K 272 [.agg (dC d)] (.int .i64 (grow d)):=by
 apply Qb hK QCt (by simp);by_cases h1:d.zp=1
 .simp[grow,h1]
 .by_cases h2:d.zp=2<;>simp[grow,h1,h2]
def ZA(d:QB)(many:Int):Prop:=(d.zp=1/\inR d.z2 0 2/\inR d.pos 0 many/\inR d.bar 0 99/\inR d.z1 0 99)\/(d.zp=2/\inR d.z2 0 2/\inR d.pos 0 (many-1)/\d.bar=0/\d.z1=0) \/((d.zp=3\/d.zp=4)/\d.pos=0/\d.z2=0/\d.bar=0/\d.z1=0)
instance (d:QB) (many:Int):Decidable (ZA d many):=by unfold ZA;infer_instance
def Qzp(d:QB)(many:Int)(hm:0<=many/\many<1000000):Gd K 271 [.agg (dC d),.int .i64 many] (.bool (decide (ZA d many))):=by
 apply Qb hK QCu (by simp);by_cases h1:d.zp=1
 .simp[h1,ZA];apply cK (YN hK _ _ _);by_cases h:inR d.z2 0 2
  .simp[h];apply cK (YN hK _ _ _);by_cases h':inR d.pos 0 many
   .simp[h'];exact cK (QqG hK _ _ _) (by simp)
   simp[h']
  simp[h]
 .by_cases h2:d.zp=2
  .by_cases h3:d.bar=0
   .by_cases h4:d.z1=0
    .simp[h2,h3,h4,ZA];apply cK (YN hK _ _ _);by_cases h:inR d.z2 0 2
     .simp[h];exact⟨by omega,cK (YN hK _ _ _) (by simp)⟩
     simp[h]
    simp[h2,h3,h4,ZA]
   simp[h2,h3,ZA]
  .by_cases h3:d.zp=3
   .simp[h3,ZA]
   .by_cases h4:d.zp=4
    .simp[h4,ZA]
    .simp[h1,h2,h3,h4,ZA]
omit hK
@[simp] def ZM(l:List Nat):IV:=.sl 1 (l.map λ(n:Nat)=>[.int .i64 (n:Int)])
def cnt(ds:List QB)(i:Nat):Int:=((ds.take i).map grow).sum
@[simp] theorem QHU(ds:List QB):cnt ds 0=0:=by simp[cnt]
def qC(ds:List QB)(i:Nat)(h:i<ds.length):cnt ds (i+1)=cnt ds i+grow ds[i]:=by unfold cnt;rw[QNW h,QOd,List.sum_append];simp
def Qnl(ds:List QB)(i n:Nat)(h:i<=n):cnt (ds.take n) i=cnt ds i:=by simp[cnt,List.take_take,QPK h]
def Qas(d:QB): -1<=grow d/\grow d<=1:=by unfold grow;omega
def OkD(ds:List QB)(n:Nat):Prop:=∀i(h:i<ds.length),i<n->ZA ds[i] (cnt ds i)
noncomputable instance (ds:List QB) (n:Nat):Decidable (OkD ds n):=Classical.propDecidable _
theorem OkD.cnt{ds:List QB}{n:Nat}(h:OkD ds n):∀i,i<=n->i<=ds.length->0<=cnt ds i/\cnt ds i<=i
 |0,_,_=>by simp
 |i+1,h1,h2=>by
  have ih:=OkD.cnt h i (by omega) (by omega);rw[qC ds i (by omega)]
  have hd:=h i (by omega) (by omega);have hb:=Qas (ds[i]'(by omega));refine⟨?_,by push_cast;omega⟩;rcases hd with ⟨h3,_⟩|⟨h3,_,h4,_⟩|⟨h3,_⟩
  .simp[grow,h3];omega
  .simp only[inR] at h4;omega
  .have:grow (ds[i]'(by omega))=0:=by rcases h3 with h3|h3<;>simp[grow,h3]
   omega
def OkD.succ{ds:List QB}{n:Nat}(h:OkD ds n)(hn:n<ds.length)(hd:ZA ds[n] (Go.Pf.cnt ds n)):OkD ds (n+1):=λi hi hin=>by
 rcases QO4.1 hin with h1|h1
 .exact h i hi h1
 grind
def Qal(ds:List QB)(n:Nat):List Int:=(List.range (n+1)).map (cnt ds)
@[simp] theorem QFz(ds:List QB)(n:Nat):(Qal ds n).length=n+1:=by simp[Qal]
def Qep(ds:List QB)(n:Nat):Qal ds (n+1)=Qal ds n++[cnt ds (n+1)]:=by simp[Qal,QOv]
def Va(ds:List QB)(n i:Nat)(h:i<n+1):(Qal ds n)[i]'(by simpa using h)=cnt ds i:=by simp[Qal]
def Z0(s:XC)(ds:List QB):Prop:=inR s.after 0 ds.length/\inR s.z2 0 1/\inR s.pos 0 (cnt ds s.after.toNat-1)/\inR s.bar (-1) 99/\inR s.z1 (-1) 99
instance (s:XC) (ds:List QB):Decidable (Z0 s ds):=by unfold Z0;infer_instance
structure OkC(c:Ql):Prop where
 len:c.za.length<=12
 slen:c.zg.length<=8
 zh:inR c.zh 0 8
 za:OkD c.za c.za.length
 zg:∀s∈c.zg,Z0 s c.za
noncomputable instance (c:Ql):Decidable (OkC c):=Classical.propDecidable _
def Xv(p:QB->Bool):List QB->Nat->List Nat
 |[],_=>[]
 |d::r,i=>if p d then i::Xv p r (i+1) else Xv p r (i+1)
theorem VC(p:QB->Bool)(r:List QB):∀(l:List QB)(i:Nat),Xv p (l++r) i=Xv p l i++Xv p r (i+l.length)
 |[],i=>by simp[Xv]
 |d::l,i=>by
  have e:i+1+l.length=i+(l.length+1):=by omega
  simp only[QOa,Xv,VC p r l,QOi,e];split<;>simp
def qo(p:QB->Bool)(ds:List QB)(i:Nat)(h:i<ds.length):Xv p (ds.take (i+1)) 0=if p ds[i] then Xv p (ds.take i) 0++[i] else Xv p (ds.take i) 0:=by
 rw[QNW h,VC];have e:(ds.take i).length=i:=by simp;omega
 simp only[e,QOn,Xv];split<;>simp
theorem VB(p:QB->Bool):∀(l:List QB)(i:Nat),(Xv p l i).length<=l.length
 |[],_=>by simp[Xv]
 |d::l,i=>by have:=VB p l (i+1);simp only[Xv];grind
def Q8(d:QB):Bool:=decide (d.zp=1)
def XI(d:QB):Bool:=decide (d.zp=4)
def YJ(ds:List QB):List Int:=(ds.filter Q8).map (·.z1)
def ZV(ds:List QB):Int:=cnt ds ds.length
def Ql2(ds:List QB):Nat:=(ds.filter Q8).length
def ZJ(c:Ql)(n:Nat):Ql:=⟨c.za.take n,[],0⟩
include hK
def QzA(d:QB)(many:Int)(hm:0<=many/\many<1000000):Gd K 243 [.agg (dC d),.int .i64 many] (.bool (decide (ZA d many))):=by
 apply Qb hK QCV (by simp);by_cases h1:d.zp=1
 .simp[h1,ZA];apply cK (Z8 hK _ _ _);by_cases h:inR d.z2 0 2
  .simp[h];apply cK (Z8 hK _ _ _);by_cases h':inR d.pos 0 many
   .simp[h'];apply cK (Z8 hK _ _ _);by_cases h'':inR d.bar 0 99
    .simp[h''];exact cK (Z8 hK _ _ _) (by simp)
    simp[h'']
   simp[h']
  simp[h]
 .by_cases h2:d.zp=2
  .simp[h2,ZA];apply cK (Z8 hK _ _ _);by_cases h:inR d.z2 0 2
   .simp[h];refine⟨by omega,cK (Z8 hK _ _ _) ?_⟩;by_cases h':inR d.pos 0 (many-1)
    .simp[h'];omega
    simp[h']
   simp[h]
  .by_cases h3:d.zp=3
   .simp[h3,ZA]
   .by_cases h4:d.zp=4
    .simp[h4,ZA]
    .simp[h1,h2,h3,h4,ZA]
def QqW(ds:List QB)(hl:ds.length<=1000):Gd K 153 [Qr ds] (.xf [if OkD ds ds.length then Qq (Qal ds ds.length) else .sl 1 [],.bool (decide (OkD ds ds.length))]):=by
 apply Qb hK QD6 (by simp);simp;refine Qe (λi=>[(0,AV.iv (Qr ds)),(4,AV.yl 7 (i+1)),(5,AV.iv (.int .i64 (i:Nat)))]) (λi=>[(7,AO.arr 3 1 (emb ((Qal ds i).map λn=>[.int .i64 n])) 0)]) ds.length (λi=>OkD ds i) (λi _ h=>by omega) ?_ ?_
 .intro h;rw[Qa QlR.eq_1];simp[h];intro _;exact QN1 (by simp)
 .intro i hi h ih;have hb:=h.cnt i (QN3 _) (by omega);rw[Qa QlR.eq_1];simp[hi,List.getElem?_append,Va] at ih |-;intro _;apply cK (QzA hK ds[i] (cnt ds i) ⟨by omega,by omega⟩);by_cases hd:ZA ds[i] (cnt ds i);rotate_left
  .have hno:¬OkD ds ds.length:=λhh=>hd (hh i hi hi);simp[hd,hno]
  .have ih:=ih (h.succ hi hd);have hs:=qC ds i hi;rw[Qep,hs] at ih;by_cases h1:ds[i].zp=1
   .have hg:cnt ds i+grow ds[i]=cnt ds i+1:=by simp[grow,h1]
    rw[hg] at ih;simp[hd,h1,hi];grind
   .by_cases h2:ds[i].zp=2
    .have hg:cnt ds i+grow ds[i]=cnt ds i-1:=by simp[grow,h2];omega
     rw[hg] at ih;simp[hd,h2,hi];grind
    .have hg:cnt ds i+grow ds[i]=cnt ds i:=by simp[grow,h1,h2]
     rw[hg] at ih;simp[hd,h1,h2,hi];grind
def QAj(s:XC)(ds:List QB)(h:OkD ds ds.length)(hl:ds.length<=1000):Gd K 154 [.agg (sC s),Qq (Qal ds ds.length)] (.bool (decide (Z0 s ds))):=by
 apply Qb hK QD5 (by simp);by_cases h1:inR s.after 0 ds.length;rotate_left
 .simp[Z0,h1];intros;refine⟨by omega,cK (Z8 hK _ _ _) ?_⟩;simp[h1]
 .have h1':=h1;simp only[inR] at h1';have y9:s.after.toNat<ds.length+1:=by omega
  have hb:=h.cnt s.after.toNat (by omega) (by omega);have hg:=Va ds ds.length s.after.toNat y9;simp[Z0,h1];intros;refine⟨by omega,cK (Z8 hK _ _ _) ?_⟩;simp[h1];apply cK (Z8 hK _ _ _);by_cases h2:inR s.z2 0 1
  .simp[h2,y9,hg];refine⟨by omega,by omega,cK (Z8 hK _ _ _) ?_⟩;by_cases h3:inR s.pos 0 (cnt ds s.after.toNat-1)
   .simp[h3];apply cK (Z8 hK _ _ _);by_cases h4:inR s.bar (-1) 99
    .simp[h4];exact cK (Z8 hK _ _ _) (by simp)
    simp[h4]
   simp[h3]
  .simp[h2]
def QhU(c:Ql)(hl:c.za.length<=1000)(hs:c.zg.length<=1000):Gd K 69 [chV c] (.int .i64 (if OkC c then 0 else 20)):=by
 apply Qb hK QGU (by simp);by_cases h1:c.za.length<=12;rotate_left
 .have h1':(12:Int)<c.za.length:=by omega
  have:¬OkC c:=λhh=>h1 hh.len;simp[h1',this]
 .by_cases h2:c.zg.length<=8
  .have h1':¬(12:Int)<c.za.length:=by omega
   have h2':¬(8:Int)<c.zg.length:=by omega
   simp[h1',h2'];intro _ _;apply cK (Z8 hK _ _ _);by_cases h3:inR c.zh 0 8;rotate_left
   .have:¬OkC c:=λhh=>h3 hh.zh;simp[h3,this]
   simp[h3];apply cK (QqW hK c.za hl);by_cases h4:OkD c.za c.za.length;rotate_left
   .have:¬OkC c:=λhh=>h4 hh.za;simp[h4,this]
   simp[h4];refine Qe (λi=>[(1,AV.iv (.ptr [Qr c.za,Qj c.zg,.int .i64 c.zh])),(3,AV.iv (Qq (Qal c.za c.za.length))),(5,AV.iv (.int .i64 (i:Nat)))]) (λ_=>[]) c.zg.length (λi=>∀s∈c.zg.take i,Z0 s c.za) (by simp) ?_ ?_
   .intro h;rw[Qa Qsg.eq_1];have:OkC c:=⟨h1,h2,h3,h4,by simpa using h⟩;simp[this]
   intro i hi h ih;rw[Qa Qsg.eq_1];simp[hi] at ih |-;intro _;apply cK (QAj hK c.zg[i] c.za h4 hl);by_cases h5:Z0 c.zg[i] c.za
   .simp[h5];refine⟨by omega,ih ?_⟩;rw[QNW hi]
    grind
   have:¬OkC c:=λhh=>h5 (hh.zg _ (QN0 hi));simp[h5,this]
  .have h1':¬(12:Int)<c.za.length:=by omega
   have h2':(8:Int)<c.zg.length:=by omega
   have:¬OkC c:=λhh=>h2 hh.slen;simp[h1',h2',this]
def QcY(c:Ql)(hl:c.za.length<=1000)(hs:c.zg.length<=1000):Gd K 178 [chV c] (.int .i64 (if OkC c then 0 else 20)):=by
 apply Qb hK QDH (by simp);by_cases h1:c.za.length<=12;rotate_left
 .have h1':(12:Int)<c.za.length:=by omega
  have:¬OkC c:=λhh=>h1 hh.len;simp[h1',this]
 .by_cases h2:c.zg.length<=8
  .have h1':¬(12:Int)<c.za.length:=by omega
   have h2':¬(8:Int)<c.zg.length:=by omega
   simp[h1',h2'];intro _ _;apply cK (YN hK _ _ _);by_cases h3:inR c.zh 0 8;rotate_left
   .have:¬OkC c:=λhh=>h3 hh.zh;simp[h3,this]
   simp[h3];intro _
   refine Qe (λi=>[(1,AV.iv (.ptr [Qr c.za,Qj c.zg,.int .i64 c.zh])),(3,AV.yl 24 (i+1)),(26,AV.iv (Qr c.za)),(27,AV.iv (.int .i64 c.za.length)),(28,AV.iv (.int .i64 (i:Nat)))])
    (λi=>[(24,AO.arr 3 1 (emb ((Qal c.za i).map λn=>[.int .i64 n])) 0)]) c.za.length (λi=>OkD c.za i) (λi _ h=>by omega) ?_ ?_
   .intro h4;rw[Qa QlE.eq_1];simp;intro _
    refine Qe (λi=>[(1,AV.iv (.ptr [Qr c.za,Qj c.zg,.int .i64 c.zh])),(3,AV.yl 24 (c.za.length+1)),(52,AV.iv (Qj c.zg)),(53,AV.iv (.int .i64 c.zg.length)),(54,AV.iv (.int .i64 (i:Nat)))])
     (λi=>[(24,AO.arr 3 1 (emb ((Qal c.za c.za.length).map λn=>[.int .i64 n])) 0)]) c.zg.length (λi=>∀s∈c.zg.take i,Z0 s c.za) (by simp) ?_ ?_
    .intro h;rw[Qa QlD.eq_1];have:OkC c:=⟨h1,h2,h3,h4,by simpa using h⟩;simp[this]
    intro i hi h ih;rw[Qa QlD.eq_1];simp[hi] at ih |-;intros;have hb0:=h4.cnt c.za.length (QN3 _) (QN3 _);apply cK (YN hK _ _ _);by_cases k1:inR c.zg[i].after 0 c.za.length;rotate_left
    .have:¬OkC c:=λhh=>k1 (hh.zg _ (QN0 hi)).1;simp[k1,this]
    have k1':=k1;simp only[inR] at k1';have y9:c.zg[i].after.toNat<c.za.length+1:=by omega
    have hb:=h4.cnt c.zg[i].after.toNat (by omega) (by omega);have hg:=Va c.za c.za.length c.zg[i].after.toNat y9;simp[k1];apply cK (YN hK _ _ _);by_cases k2:inR c.zg[i].z2 0 1;rotate_left
    .have:¬OkC c:=λhh=>k2 (hh.zg _ (QN0 hi)).2.1;simp[k2,this]
    simp[k2,y9,hg];have no:∀q:Prop,(Z0 c.zg[i] c.za->q)->¬q->¬OkC c:=λq h1 h2 hh=>h2 (h1 (hh.zg _ (QN0 hi)));refine⟨by omega,by omega,cK (YN hK _ _ _) ?_⟩;by_cases k3:inR c.zg[i].pos 0 (cnt c.za c.zg[i].after.toNat-1)
    .simp[k3];apply cK (QqG hK _ _ _);by_cases k4:inR c.zg[i].bar (-1) 99/\inR c.zg[i].z1 (-1) 99
     .simp[k4];refine⟨by omega,ih ?_⟩;rw[QNW hi];intro s hs;rcases QOc.1 hs with hs|hs
      .exact h s hs
      rw[QOu] at hs;subst hs;exact⟨k1,k2,k3,k4⟩
     have:=no _ (λh=>h.2.2.2) k4;simp[k4,this]
    have:=no _ (λh=>h.2.2.1) k3;simp[k3,this]
   intro i hi h ih;have hb:=h.cnt i (QN3 _) (by omega);rw[Qa QlE.eq_1];simp[hi,Va] at ih |-;apply cK (Qzp hK c.za[i] (cnt c.za i) ⟨by omega,by omega⟩);by_cases hd:ZA c.za[i] (cnt c.za i)
   .have ih:=ih (h.succ hi hd);have hs:=qC c.za i hi;have hg:=Qas c.za[i];rw[Qep,hs] at ih;simp[hd,hi,Va];apply cK (QjG hK c.za[i]);simp at ih |-
    grind
   have:¬OkC c:=λhh=>hd (hh.za i hi hi);simp[hd,this]
  .have h1':¬(12:Int)<c.za.length:=by omega
   have h2':(8:Int)<c.zg.length:=by omega
   have:¬OkC c:=λhh=>h2 hh.slen;simp[h1',h2',this]
def QqA(c:Ql)(hl:c.za.length<=1000):Gd K 322 [chV c] (ZM (Xv Q8 c.za 0)):=by
 apply Qb hK QB0 (by simp);simp
 refine Qe (λi=>[(1,AV.iv (.ptr [Qr c.za,Qj c.zg,.int .i64 c.zh])),(3,AV.yl 3 (Xv Q8 (c.za.take i) 0).length),(4,AV.iv (.int .i64 (i:Nat)))])
  (λi=>[(3,AO.arr 3 1 (emb ((Xv Q8 (c.za.take i) 0).map λ(n:Nat)=>[.int .i64 (n:Int)])) 0)]) c.za.length (λi=>True) trivial ?_ ?_
 .intro _;rw[Qa QkQ.eq_1];simp
 .intro i hi _ ih;have hbn:=VB Q8 (c.za.take i) 0;simp at hbn;rw[qo _ _ _ hi] at ih;rw[Qa QkQ.eq_1];by_cases hw:c.za[i].zp=1
  .simp[hi,Q8,hw] at ih |-
   grind
  .simp[hi,Q8,hw] at ih |-
   grind
def QwT(c:Ql)(hl:c.za.length<=1000):Gd K 72 [chV c] (ZM (Xv XI c.za 0)):=by
 apply Qb hK QGR (by simp);simp
 refine Qe (λi=>[(1,AV.iv (.ptr [Qr c.za,Qj c.zg,.int .i64 c.zh])),(3,AV.yl 3 (Xv XI (c.za.take i) 0).length),(4,AV.iv (.int .i64 (i:Nat)))])
  (λi=>[(3,AO.arr 3 1 (emb ((Xv XI (c.za.take i) 0).map λ(n:Nat)=>[.int .i64 (n:Int)])) 0)]) c.za.length (λi=>True) trivial ?_ ?_
 .intro _;rw[Qa Qsd.eq_1];simp
 .intro i hi _ ih;have hbn:=VB XI (c.za.take i) 0;simp at hbn;rw[qo _ _ _ hi] at ih;rw[Qa Qsd.eq_1];by_cases hw:c.za[i].zp=4
  .simp[hi,XI,hw] at ih |-
   grind
  .simp[hi,XI,hw] at ih |-
   grind
def QzP(c:Ql)(hl:c.za.length<=1000):Gd K 219 [chV c] (Qq (YJ c.za)):=by
 apply Qb hK QDa (by simp);simp;intro _
 refine Qe (λi=>[(3,AV.yl 3 (YJ (c.za.take i)).length),(7,AV.iv (Qr c.za)),(8,AV.iv (.int .i64 c.za.length)),(9,AV.iv (.int .i64 (i:Nat)))])
  (λi=>[(3,AO.arr 3 1 (emb ((YJ (c.za.take i)).map λn=>[.int .i64 n])) 0)]) c.za.length (λi=>True) trivial ?_ ?_
 .intro _;rw[Qa Qlu.eq_1];simp
 .intro i hi _ ih;have hbn:(YJ (c.za.take i)).length<=i:=by
   simp only[YJ,QN9];grind
  have e:YJ (c.za.take (i+1))=if Q8 c.za[i] then YJ (c.za.take i)++[c.za[i].z1] else YJ (c.za.take i):=by rw[QNW hi];simp only[YJ,QOT,List.filter_cons,List.filter_nil];split<;>simp
  rw[e] at ih;rw[Qa Qlu.eq_1];by_cases hw:c.za[i].zp=1
  .simp[hi,Q8,hw] at ih |-
   grind
  .simp[hi,Q8,hw] at ih |-
   grind
def QfK(l:List Int)(n:Int):Gd K 321 [Qq l,.int .i64 n] (.bool (decide (n∈l))):=by
 apply Qb hK c321_ok (by simp);simp;refine Qe (λi=>[(0,AV.iv (Qq l)),(1,AV.iv (.int .i64 n)),(5,AV.iv (.int .i64 (i:Nat)))]) (λ_=>[]) l.length (λi=>n∉l.take i) (by simp) ?_ ?_
 .intro h;rw[Qa c321_b0.eq_1];simp at h |-;exact λ_=>h
 .intro i hi h ih;rw[Qa c321_b0.eq_1];simp[hi] at h ih |-;refine λhl=>⟨λe=>e▸QN0 hi,λe=>⟨by omega,ih ?_⟩⟩;rw[QNW hi]
  grind
def QjF(c:Ql)(hl:c.za.length<=1000):Gd K 280 [chV c] (.xf [.int .i64 (ZV c.za),.int .i64 (Ql2 c.za)]):=by
 apply Qb hK QCl (by simp);simp;intro _
 refine Qe (λi=>[(2,AV.iv (.int .i64 (cnt c.za i))),(3,AV.iv (.int .i64 (Ql2 (c.za.take i)))),(7,AV.iv (Qr c.za)),(8,AV.iv (.int .i64 c.za.length)),(9,AV.iv (.int .i64 (i:Nat)))])
  (λi=>[]) c.za.length (λi=>-(i:Int)<=cnt c.za i/\cnt c.za i<=i) (by simp) ?_ ?_
 .intro _;rw[Qa Qk3.eq_1];simp[ZV]
 .intro i hi hb ih;have hbn:Ql2 (c.za.take i)<=i:=QOz (QOp _ _) (by simp;omega);have e:Ql2 (c.za.take (i+1))=if Q8 c.za[i] then Ql2 (c.za.take i)+1 else Ql2 (c.za.take i):=by
   rw[QNW hi];simp only[Ql2,QOT,List.filter_cons,List.filter_nil];split<;>simp
  have hg:=Qas c.za[i];have hs:=qC c.za i hi;rw[hs,e] at ih;rw[Qa Qk3.eq_1];simp[hi] at ih |-;apply cK (QjG hK c.za[i]);simp;refine⟨by omega,?_⟩;apply cK (QjG hK c.za[i]);by_cases hw:c.za[i].zp=1
  .have hg1:grow c.za[i]=1:=by simp[grow,hw]
   simp[hg1,Q8,hw] at ih |-
   grind
  .have hg1:grow c.za[i]<=0:=by unfold grow;omega
   have hg2:¬0<grow c.za[i]:=by omega
   simp[hg2,Q8,hw] at ih |-
   grind
def QjZ(c:Ql)(hl:c.za.length<=1000)(hs:c.zg.length<=1000):Gd K 182 [chV c] (.xf [.int .i64 (if OkC c then ZV c.za else 0),.int .i64 (if OkC c then 0 else 20)]):=by
 apply Qb hK QDD (by simp);simp;apply cK (QcY hK c hl hs);by_cases h:OkC c
 .simp[h];exact cK (QjF hK c hl) (by simp)
 .simp[h]
def QfP(c:Ql)(n:Nat)(hn:n<=c.za.length):Gd K 183 [chV c,.int .i64 n] (chV (ZJ c n)):=by apply Qb hK QDC (by simp);simp[ZJ,QPQ];omega
def QqK(c:Ql)(n:Int)(hl:c.za.length<=1000):Gd K 250 [chV c,.int .i64 n] (.bool (decide (inR n 0 ((Xv Q8 c.za 0).length-1)))):=by apply Qb hK QCP (by simp);have:=VB Q8 c.za 0;simp;apply cK (QqA hK c hl);simp;intros;and_intros<;>first|omega|exact cK (Z8 hK _ _ _) (by simp)
def QjN(c:Ql)(n:Int)(hc:OkD c.za c.za.length)(hl:c.za.length<=1000):Gd K 247 [chV c,.int .i64 n] (.bool (decide (inR n 0 (ZV c.za-1)))):=by apply Qb hK QCR (by simp);have hb:=hc.cnt _ (QN3 _) (QN3 _);have hg:=Va c.za c.za.length c.za.length (by omega);simp;apply cK (QqW hK c.za hl);simp[hc,hg,ZV];intro _;intros;and_intros<;>first|omega|exact cK (Z8 hK _ _ _) (by simp;rfl)
omit hK
def fi{α:Type}(p:α->Bool)(l:List α):Int:=if l.any p then(l.findIdx p:Int) else -1
def Qj9{α:Type}(p:α->Bool)(l:List α)(i:Nat)(h:i<l.length)(hp:p l[i]=true)(hn:∀x∈l.take i,p x=false):fi p l=i:=by
 have h1:l.any p=true:=QOO.2 ⟨l[i],QN0 h,hp⟩;have h2:l.findIdx p=i:=by
  rw[List.findIdx_eq h];refine⟨hp,λj hj=>?_⟩;have hm:l[j]'(by omega)∈l.take i:=by
   rw[List.mem_take_iff_getElem]
   grind
  grind
 simp[fi,h1,h2]
def WF{α:Type}(p:α->Bool)(l:List α)(hn:∀x∈l,p x=false):fi p l = -1:=by have h1:l.any p=false:=QPt.2 (λx hx=>by simp[hn x hx]);simp[fi,h1]
def Ut{α:Type}(p:α->Bool)(l:List α):decide (0<=fi p l)=l.any p:=by unfold fi;grind
def Zm(l:ZL):Bool:=!(decide (inR l.long 1 1000)&&decide (inR l.lo 1 l.hi)&&decide (l.hi<=1000))
def Jr(b:ZD):Bool:=!(decide (inR b.zm 0 9999)&&decide (inR b.zn 0 99)&&decide (inR b.load 0 999999999)&&decide (inR b.off 0 999999999))
structure OkM(m:Machine):Prop where
 len:m.zd.length<=3
 zd:∀l∈m.zd,Zm l=false
 zr:inR m.zr 0 9999
 zx:inR m.zu 0 m.zw
 zw:m.zw<=20
 blen:m.zk.length<=6
 zk:∀b∈m.zk,Jr b=false
 zh:inR m.zh 0 6
noncomputable instance (m:Machine):Decidable (OkM m):=Classical.propDecidable _
include hK
def QjW(a b c:Int):Gd K 208 [.int .i64 a,.int .i64 b,.int .i64 c] (.bool (decide (inR a 0 9999/\inR b 0 99/\inR c 0 999999999))):=by
 apply Qb hK QDk (by simp);simp;apply cK (VE hK _ _ _);by_cases h1:inR a 0 9999
 .simp[h1];apply cK (VE hK _ _ _);by_cases h2:inR b 0 99
  .simp[h2];exact cK (VE hK _ _ _) (by simp)
  simp[h2]
 simp[h1]
def QhS(a b c:Int):Gd K 75 [.int .i64 a,.int .i64 b,.int .i64 c] (.bool (decide (inR a 0 9999/\inR b 0 99/\inR c 0 999999999))):=by
 apply Qb hK QGO (by simp);simp;apply cK (Jm hK _ _ _);by_cases h1:inR a 0 9999
 .simp[h1];apply cK (Jm hK _ _ _);by_cases h2:inR b 0 99
  .simp[h2];exact cK (Jm hK _ _ _) (by simp)
  simp[h2]
 .simp[h1]
def Qzo(l:ZL):Gd K 274 [.agg (leC l)] (.bool (Zm l)):=by
 apply Qb hK QCr (by simp);simp;apply cK (VE hK _ _ _);by_cases h1:inR l.long 1 1000
 .simp[h1];apply cK (VE hK _ _ _);by_cases h2:inR l.lo 1 l.hi
  .by_cases h3:l.hi<=1000
   .have h3':¬1000<l.hi:=by omega
    simp[h1,h2,h3,Zm,h3']
   have h3':1000<l.hi:=by omega
   simp[h1,h2,h3,Zm,h3']
  simp[h2,Zm]
 .simp[h1,Zm]
def Qzn(b:ZD):Gd K 276 [.agg (baC b)] (.bool (Jr b)):=by
 apply Qb hK QCp (by simp);simp;apply cK (QjW hK _ _ _);by_cases h1:inR b.zm 0 9999/\inR b.zn 0 99/\inR b.load 0 999999999
 .simp[h1];apply cK (VE hK _ _ _);by_cases h2:inR b.off 0 999999999
  .simp[h1,h2,Jr]
  simp[h2,Jr]
 .have:Jr b=true:=by
   simp only[Jr,QOD,Bool.and_eq_false_iff,decide_eq_false_iff_not];grind
  simp[h1,this]
def QyZ(l:List ZL)(g:FuncId)(p:ZL->Bool)(hg:∀x,Gd K g [.agg (leC x)] (.bool (p x)))(hc:callee prog g=true)(hl:l.length<=1000):Gd K 335 [Qs l,.fn g] (.int .i64 (fi p l)):=by
 apply Qb hK QBQ (by simp);simp;intro _;refine Qe (λi=>[(0,AV.iv (Qs l)),(1,AV.iv (.fn g)),(7,AV.iv (.int .i64 l.length)),(8,AV.iv (.int .i64 (i:Nat)))]) (λ_=>[]) l.length (λi=>∀x∈l.take i,p x=false) (by simp) ?_ ?_
 .intro h;rw[Qa QkD.eq_1];rw[QN5] at h;simp[WF p l h]
 .intro i hi h ih;rw[Qa QkD.eq_1];simp[hi] at ih |-;refine⟨hc,cK (hg l[i]) ?_⟩;by_cases hp:p l[i]=true
  .simp[hp,Qj9 p l i hi hp h]
  .have hp':p l[i]=false:=by simpa using hp
   simp[hp'];refine⟨by omega,ih ?_⟩;rw[QNW hi]
   grind
def QyY(l:List ZD)(g:FuncId)(p:ZD->Bool)(hg:∀x,Gd K g [.agg (baC x)] (.bool (p x)))(hc:callee prog g=true)(hl:l.length<=1000):Gd K 336 [Zk l,.fn g] (.int .i64 (fi p l)):=by
 apply Qb hK QBP (by simp);simp;intro _;refine Qe (λi=>[(0,AV.iv (Zk l)),(1,AV.iv (.fn g)),(7,AV.iv (.int .i64 l.length)),(8,AV.iv (.int .i64 (i:Nat)))]) (λ_=>[]) l.length (λi=>∀x∈l.take i,p x=false) (by simp) ?_ ?_
 .intro h;rw[Qa QkC.eq_1];rw[QN5] at h;simp[WF p l h]
 .intro i hi h ih;rw[Qa QkC.eq_1];simp[hi] at ih |-;refine⟨hc,cK (hg l[i]) ?_⟩;by_cases hp:p l[i]=true
  .simp[hp,Qj9 p l i hi hp h]
  .have hp':p l[i]=false:=by simpa using hp
   simp[hp'];refine⟨by omega,ih ?_⟩;rw[QNW hi]
   grind
def Qqw(l:List QB)(g:FuncId)(p:QB->Bool)(hg:∀x,Gd K g [.agg (dC x)] (.bool (p x)))(hc:callee prog g=true)(hl:l.length<=1000):Gd K 346 [Qr l,.fn g] (.int .i64 (fi p l)):=by
 apply Qb hK QBJ (by simp);simp;intro _;refine Qe (λi=>[(0,AV.iv (Qr l)),(1,AV.iv (.fn g)),(7,AV.iv (.int .i64 l.length)),(8,AV.iv (.int .i64 (i:Nat)))]) (λ_=>[]) l.length (λi=>∀x∈l.take i,p x=false) (by simp) ?_ ?_
 .intro h;rw[Qa Qku.eq_1];rw[QN5] at h;simp[WF p l h]
 .intro i hi h ih;rw[Qa Qku.eq_1];simp[hi] at ih |-;refine⟨hc,cK (hg l[i]) ?_⟩;by_cases hp:p l[i]=true
  .simp[hp,Qj9 p l i hi hp h]
  .have hp':p l[i]=false:=by simpa using hp
   simp[hp'];refine⟨by omega,ih ?_⟩;rw[QNW hi]
   grind
def QyP(l:List Int)(g:FuncId)(fs cs:List IV)(p:Int->Bool)(hg:∀x∈l,Gd K g (fs++[.int .i64 x]++cs) (.bool (p x)))(hc:callee prog g=true)(hl:l.length<=1000):Gd K 354 [Qq l,.clo g fs cs] (.int .i64 (fi p l)):=by
 apply Qb hK QBE (by simp);simp;intro _;refine Qe (λi=>[(0,AV.iv (Qq l)),(1,AV.iv (.clo g fs cs)),(7,AV.iv (.int .i64 l.length)),(8,AV.iv (.int .i64 (i:Nat)))]) (λ_=>[]) l.length (λi=>∀x∈l.take i,p x=false) (by simp) ?_ ?_
 .intro h;rw[Qa Qkq.eq_1];rw[QN5] at h;simp[WF p l h]
 .intro i hi h ih;rw[Qa Qkq.eq_1];have hgi:=hg l[i] (QN0 hi);rw[QPc] at hgi;simp[hi] at ih |-;refine⟨hc,cK hgi ?_⟩;by_cases hp:p l[i]=true
  .simp[hp,Qj9 p l i hi hp h]
  .have hp':p l[i]=false:=by simpa using hp
   simp[hp'];refine⟨by omega,ih ?_⟩;rw[QNW hi]
   grind
def Qy9(l:List Int)(g:FuncId)(fs cs:List IV)(p:Int->Bool)(hg:∀x∈l,Gd K g (fs++[.int .i64 x]++cs) (.bool (p x)))(hc:callee prog g=true)(hl:l.length<=1000):Gd K 305 [Qq l,.clo g fs cs] (.bool (l.any p)):=by apply Qb hK QB6 (by simp);simp;apply cK (QyP hK l g fs cs p hg hc hl);simp[Ut]
def Qzm(l:List ZL)(g:FuncId)(p:ZL->Bool)(hg:∀x,Gd K g [.agg (leC x)] (.bool (p x)))(hc:callee prog g=true)(hl:l.length<=1000):Gd K 277 [Qs l,.fn g] (.bool (l.any p)):=by apply Qb hK QCo (by simp);simp;apply cK (QyZ hK l g p hg hc hl);simp[Ut]
def Qzl(l:List ZD)(g:FuncId)(p:ZD->Bool)(hg:∀x,Gd K g [.agg (baC x)] (.bool (p x)))(hc:callee prog g=true)(hl:l.length<=1000):Gd K 278 [Zk l,.fn g] (.bool (l.any p)):=by apply Qb hK QCn (by simp);simp;apply cK (QyY hK l g p hg hc hl);simp[Ut]
def QqU(m:Machine)(hl:m.zd.length<=1000)(hb:m.zk.length<=1000):Gd K 179 [maV m] (.int .i64 (if OkM m then 0 else 30)):=by
 apply Qb hK QDG (by simp);have no:∀q:Prop,(OkM m->q)->¬q->¬OkM m:=λq h1 h2 h=>h2 (h1 h);by_cases h1:m.zd.length<=3;rotate_left
 .have h1':(3:Int)<m.zd.length:=by omega
  have:=no _ OkM.len h1;simp[h1',this]
 .have h1':¬(3:Int)<m.zd.length:=by omega
  simp[h1'];intro _;apply cK (Qzm hK m.zd 274 Zm (Qzo hK) (by kernel_rfl) hl);by_cases h2:m.zd.any Zm=true
  .have:¬OkM m:=no (m.zd.any Zm=false) (λh=>by simpa using h.zd) (by simp[h2]);simp[h2,this]
  .have h2':m.zd.any Zm=false:=by simpa using h2
   simp[h2'];apply cK (VE hK _ _ _);by_cases h3:inR m.zr 0 9999;rotate_left
   .have:=no _ OkM.zr h3;simp[h3,this]
   .simp[h3];apply cK (VE hK _ _ _);by_cases h4:inR m.zu 0 m.zw;rotate_left
    .have:=no _ OkM.zx h4;simp[h4,this]
    .by_cases h5:m.zw<=20
     .have h5':¬20<m.zw:=by omega
      by_cases h6:m.zk.length<=6
      .have h6':¬(6:Int)<m.zk.length:=by omega
       simp[h4,h5',h6'];intro _;apply cK (Qzl hK m.zk 276 Jr (Qzn hK) (by kernel_rfl) hb);by_cases h7:m.zk.any Jr=true
       .have:¬OkM m:=no (m.zk.any Jr=false) (λh=>by simpa using h.zk) (by simp[h7]);simp[h7,this]
       have h7':m.zk.any Jr=false:=by simpa using h7
       simp[h7'];apply cK (VE hK _ _ _);by_cases h8:inR m.zh 0 6
       .have:OkM m:=⟨h1,by simpa using h2',h3,h4,h5,h6,by simpa using h7',h8⟩;simp[h8,this]
       have:=no _ OkM.zh h8;simp[h8,this]
      have h6':(6:Int)<m.zk.length:=by omega
      have:=no _ OkM.blen h6;simp[h4,h5',h6',this]
     .have h5':20<m.zw:=by omega
      have:=no _ OkM.zw h5;simp[h4,h5',this]
omit hK
section
variable{P:Program}{K:World->Prop}
theorem Wh.first{ps:List Nat}{asn body:AC}{ks ids:List Nat}{eK:Env}{wy:Ev.Way}(hwy:wy≠.fall):∀(L:List (List IV))(so oR:Nat->Qz)(bad:Nat->Prop),(∀i x,L[i]?=some x->(∀j,j<i->¬bad j)->¬bad i->Rnd P K ps asn body ks ids eK x (so i) .fall (so (i+1)))->(∀i x,L[i]?=some x->(∀j,j<i->¬bad j)->bad i->Rnd P K ps asn body ks ids eK x (so i) wy (oR i)) ->
  (∃i,i<L.length/\bad i/\(∀j,j<i->¬bad j)/\Wh P K ps asn body ks ids eK L (so 0) wy (oR i))\/((∀i,i<L.length->¬bad i)/\Wh P K ps asn body ks ids eK L (so 0) .fall (so L.length))
 |[],so,oR,bad,_,_=>.inr ⟨by simp,.nil _⟩
 |x::r,so,oR,bad,h1,h2=>by
  by_cases hb:bad 0
  .exact .inl ⟨0,by simp,hb,by simp,.stop x r _ _ wy hwy (h2 0 x rfl (by simp) hb)⟩
  have hx:=h1 0 x rfl (by simp) hb;have lift:∀i,(∀j,j<i->¬bad (j+1))->∀j,j<i+1->¬bad j:=λi hh j hj=>by
   cases j with
   |_=>grind
  rcases Wh.first hwy r (λi=>so (i+1)) (λi=>oR (i+1)) (λi=>bad (i+1)) (λi y hy hh hn=>h1 (i+1) y (by simpa using hy) (lift i hh) hn) (λi y hy hh hn=>h2 (i+1) y (by simpa using hy) (lift i hh) hn) with ⟨i,g1,g2,g3,g4⟩|⟨g1,g2⟩
  .exact .inl ⟨i+1,by simp;omega,g2,lift i g3,.next x r _ _ _ _ hx g4⟩
  refine .inr ⟨λi hi=>?_,.next x r _ _ _ _ hx g2⟩;cases i with
  |_=>grind
end
def pv(ds:List QB):List Nat:=Xv XI ds 0
def Qee(ds:List QB):(pv ds).length<=ds.length:=VB _ _ _
theorem Qar(p:QB->Bool):∀(l:List QB)(i j:Nat),j∈Xv p l i->i<=j/\j<i+l.length
 |[],i,j,h=>by simp[Xv] at h
 |d::l,i,j,h=>by
  simp only[Xv] at h;split at h
  .rcases QN7.1 h with h|h
   .subst h;simp
   have:=Qar p l (i+1) j h;simp;omega
  have:=Qar p l (i+1) j h;simp;omega
def QIz{ds:List QB}{j:Nat}(h:j∈pv ds):j<ds.length:=by have:=Qar XI ds 0 j h;omega
def Qef{ds:List QB}{t:Nat}(h:t<(pv ds).length):(pv ds)[t]<ds.length:=QIz (QN0 h)
def trs:List Nat->Nat->List (List IV)
 |[],_=>[]
 |j::r,t=>[.int .i64 t,.int .i64 j]::trs r (t+1)
theorem Qe6:∀(l:List Nat)(t i:Nat)(x:List IV),(trs l t)[i]?=some x->∃h:i<l.length,x=[.int .i64 ((t+i:Nat):Int),.int .i64 (l[i]:Nat)]
 |[],t,i,x,h=>by simp[trs] at h
 |j::r,t,0,x,h=>by simp[trs] at h;grind
 |j::r,t,i+1,x,h=>by simp[trs] at h;have⟨h1,h2⟩:=Qe6 r (t+1) i x h;grind
@[simp] theorem QiC:∀(l:List Nat)(t:Nat),(trs l t).length=l.length
 |[],_=>rfl
 |j::r,t=>by simp[trs,QiC r (t+1)]
section
variable{K:World->Prop}
def Qjo(c:Ql)(hl:c.za.length<=1000):Qbs prog K 279 [] [.ptr [Qr c.za,Qj c.zg,.int .i64 c.zh]] (trs (pv c.za) 0):=by
 intro s b s' hf;apply QW QCm (by simp) hf.v rfl;simp;intro _
 refine YU c.za.length (λi e o=>∃t si,e=[(0,AV.cb 0),(3,AV.iv (.int .i64 (t:Nat))),(7,AV.iv (Qr c.za)),(8,AV.iv (.int .i64 c.za.length)),(9,AV.iv (.int .i64 (i:Nat)))]/\o=[(0,.ext si)]/\t<=i /\
  Z2 prog K (trs (Xv XI (c.za.drop i) i) t) si b s') ?_ ?_ _ _ ⟨0,s,rfl,rfl,QN3 _,by simpa[pv] using hf⟩
 .rintro e o ⟨t,si,rfl,rfl,ht,hfd⟩;rw[Qa Qk4.eq_1];rw[List.drop_length] at hfd;simp only[Xv,trs] at hfd;cases hfd;simp
 .rintro i e o hi ⟨t,si,rfl,rfl,ht,hfd⟩ ih;rw[Qa Qk4.eq_1];rw[QOq hi] at hfd;simp only[Xv] at hfd;by_cases hp:c.za[i].zp=4
  .simp[XI,hp,trs] at hfd;simp[hi,hp];cases hfd with
   |stop _ _ _ _ hg=>apply Zd hg rfl;simp
   |next _ _ _ s1 _ _ hg hr=>apply Zd hg rfl;simp;refine⟨by omega,by omega,ih _ _ ⟨t+1,s1,by simp,rfl,by omega,by simpa using hr⟩⟩
  .simp[XI,hp] at hfd;simp[hi,hp];refine⟨by omega,ih _ _ ⟨t,si,by simp,rfl,by omega,by omega⟩⟩
end
def Vv(t:WM)(many:Int):Prop:=inR t.zm 0 9999/\inR t.zn 0 99/\inR t.z5 (-1) (many-1)
instance (t:WM) (many:Int):Decidable (Vv t many):=by unfold Vv;infer_instance
structure OkP(p:Qf):Prop where
 zc:OkC p.zc
 zb:OkM p.zb
 zo:inR p.zo 0 999999999
 z6:inR p.z6 1 12
 many:p.zf.length=(pv p.zc.za).length
 zf:∀i(h:i<(pv p.zc.za).length)(h':i<p.zf.length),Vv p.zf[i] (cnt p.zc.za (pv p.zc.za)[i])
noncomputable instance (p:Qf):Decidable (OkP p):=Classical.propDecidable _
structure Ql3(p:Qf):Prop where
 za:p.zc.za.length<=1000
 zg:p.zc.zg.length<=1000
 zd:p.zb.zd.length<=1000
 zk:p.zb.zk.length<=1000
 zf:p.zf.length<=1000
theorem OkD.take{ds:List QB}{n m:Nat}(h:OkD ds n)(hm:m<=n):OkD (ds.take m) (ds.take m).length:=λi hi hin=>by
 have hl:(ds.take m).length<=m:=by simp;omega
 have h1:i<ds.length:=by simp at hi;omega
 rw[List.getElem_take,Qnl ds i m (by omega)]
 exact h i h1 (by omega)
def Qad{c:Ql}{n:Nat}(h:OkD c.za c.za.length)(hl:c.za.length<=12)(hn:n<=c.za.length):OkC (ZJ c n):=⟨by simp[ZJ];omega,by simp[ZJ],by simp[ZJ,inR],h.take hn,by simp[ZJ]⟩
def QcG(c:Ql)(n:Nat)(hn:n<=c.za.length):ZV (ZJ c n).za=cnt c.za n:=by
 have:(c.za.take n).length=n:=by simp;omega
 simp only[ZV,ZJ,this];exact Qnl _ _ _ (QN3 _)
include hK
def QqT(c:Ql):Gd K 181 [chV c] (.clo 279 [] [.ptr [Qr c.za,Qj c.zg,.int .i64 c.zh]]):=by apply Qb hK QDE (by simp);simp
def QwR(p:Qf)(hs:Ql3 p):Gd K 84 [prV p] (.int .i64 (if OkP p then 0 else 60)):=by
 apply Qb hK QGH (by simp);have no:∀q:Prop,(OkP p->q)->¬q->¬OkP p:=λq h1 h2 h=>h2 (h1 h);simp;apply cK (QcY hK p.zc hs.za hs.zg);by_cases h1:OkC p.zc;rotate_left
 .have:=no _ OkP.zc h1;simp[h1,this]
 .simp[h1];apply cK (QqU hK p.zb hs.zd hs.zk);by_cases h2:OkM p.zb;rotate_left
  .have:=no _ OkP.zb h2;simp[h2,this]
  .simp[h2];apply cK (JS hK _ _ _);by_cases h3:inR p.zo 0 999999999;rotate_left
   .have:=no _ OkP.zo h3;simp[h3,this]
   .simp[h3];apply cK (JS hK _ _ _);by_cases h4:inR p.z6 1 12;rotate_left
    .have:=no _ OkP.z6 h4;simp[h4,this]
    .simp[h4];apply cK (QqT hK p.zc);simp;have hb:=h1.za.cnt
     let bad:Nat->Prop:=λi=>¬∃(h:i<(pv p.zc.za).length)(h':i<p.zf.length),Vv p.zf[i] (cnt p.zc.za (pv p.zc.za)[i])
     have hpl:=Qee p.zc.za;have hd12:=h1.len
     rcases Wh.first (P:=prog) (K:=K) (ps:=[34,35]) (asn:=Qdj) (body:=Qii) (ks:=[1,2,3]) (ids:=[2,3]) (eK:=[(1,AV.iv (.ptr [Qr p.zc.za,Qj p.zc.zg,.int .i64 p.zc.zh,Qs p.zb.zd,.int .i64 p.zb.zr,.int .i64 p.zb.zu,.int .i64 p.zb.zw,Zk p.zb.zk,.int .i64 p.zb.zh,Q4 p.zf,.int .i64 p.zo,.int .i64 p.z6])),(2,AV.loc 2 0),(3,AV.loc 3 0)]) (wy:=.ret) (by simp) (trs (pv p.zc.za) 0)
      (λi=>[(2,.box [.iv (.int .i64 0)]),(3,.box [.iv (.int .i64 (i:Nat))])]) (λi=>[(2,.box [.iv (.int .i64 60)]),(3,.box [.iv (.int .i64 ((i+1:Nat):Int))])]) bad
      (λi x hx hj hn=>by
        obtain⟨hi,rfl⟩:=Qe6 _ _ _ _ hx;have⟨_,hi',ho⟩:=Classical.not_not.1 hn;have y9:=Qef hi;refine⟨rfl,?_⟩;have hi2:¬(p.zf.length:Int)<=i:=by omega
        simp[Qdj,Qii,hi2,hi'];have hb':=hb (pv p.zc.za)[i] (by omega) (by omega);have hC:OkC (ZJ p.zc (pv p.zc.za)[i]):=Qad h1.za hd12 (by omega);have hL:=QcG p.zc (pv p.zc.za)[i] (by omega);refine⟨by omega,λ_=>?_⟩;apply cK (QfP hK p.zc (pv p.zc.za)[i] (by omega));simp;apply cK (QjZ hK (ZJ p.zc (pv p.zc.za)[i]) (by simp[ZJ];omega) (by simp[ZJ]));simp[hC,hL];apply cK (JS hK _ _ _);simp[ho.1];apply cK (JS hK _ _ _);simp[ho.2.1];refine⟨by omega,cK (JS hK _ _ _) ?_⟩;simp[ho.2.2]) (λi x hx hj hn=>by
        obtain⟨hi,rfl⟩:=Qe6 _ _ _ _ hx;have y9:=Qef hi;refine⟨rfl,?_⟩;by_cases hi':i<p.zf.length
        .have hi2:¬(p.zf.length:Int)<=i:=by omega
         have ho:¬Vv p.zf[i] (cnt p.zc.za (pv p.zc.za)[i]):=λh=>hn ⟨hi,hi',h⟩;simp[Qdj,Qii,hi2,hi'];have hb':=hb (pv p.zc.za)[i] (by omega) (by omega);have hC:OkC (ZJ p.zc (pv p.zc.za)[i]):=Qad h1.za hd12 (by omega);have hL:=QcG p.zc (pv p.zc.za)[i] (by omega);refine⟨by omega,λ_=>?_⟩;apply cK (QfP hK p.zc (pv p.zc.za)[i] (by omega));simp;apply cK (QjZ hK (ZJ p.zc (pv p.zc.za)[i]) (by simp[ZJ];omega) (by simp[ZJ]));simp[hC,hL];apply cK (JS hK _ _ _);by_cases k1:inR p.zf[i].zm 0 9999
         .simp[k1];apply cK (JS hK _ _ _);by_cases k2:inR p.zf[i].zn 0 99
          .simp[k2];refine⟨by omega,cK (JS hK _ _ _) ?_⟩;by_cases k3:inR p.zf[i].z5 (-1) (cnt p.zc.za (pv p.zc.za)[i]-1)
           .exact absurd ⟨k1,k2,k3⟩ ho
           simp[k3]
          simp[k2]
         simp[k1]
        have hi2:(p.zf.length:Int)<=i:=by omega
        simp[Qdj,Qii,hi2];omega) with ⟨i,g1,g2,g3,g4⟩|⟨g1,g2⟩
     .apply Zf (wy:=.ret) (o':=[(2,.box [.iv (.int .i64 60)]),(3,.box [.iv (.int .i64 ((i+1:Nat):Int))])]) rfl (by kernel_rfl) (Qjo p.zc hs.za) (by simpa using g4);rw[QiC] at g1;have:¬OkP p:=λhh=>g2 ⟨g1,by rw[hh.many];exact g1,hh.zf i g1 (by rw[hh.many];exact g1)⟩;simp[this]
     .apply Zf (wy:=.fall) (o':=[(2,.box [.iv (.int .i64 0)]),(3,.box [.iv (.int .i64 ((trs (pv p.zc.za) 0).length:Nat))])]) rfl (by kernel_rfl) (Qjo p.zc hs.za) (by simpa using g2);rw[QiC] at g1;have hge:(pv p.zc.za).length<=p.zf.length:=by
       grind
      by_cases h5:p.zf.length=(pv p.zc.za).length
      .have:OkP p:=⟨h1,h2,h3,h4,h5,λi h h'=>by grind⟩;simp[h5,this]
      .have h5':¬((pv p.zc.za).length:Int)=p.zf.length:=by omega
       have:=no _ OkP.many h5;simp[h5',this]
omit hK
def plc(pos e:Int)(n:Nat):Nat:=(if e=1 then(n:Int)-1-pos else pos).toNat
def JZ(d:QB)(e:Int)(k:Nat)(now:List Nat):List Nat:=
 if d.zp=1 then now.take (plc d.pos e (now.length+1))++[k]++now.drop (plc d.pos e (now.length+1))
 else if d.zp=2 then now.take (plc d.pos e now.length)++now.drop (plc d.pos e now.length+1)
 else if d.zp=3 then now.reverse else now
def wn(ds:List QB)(i:Nat):Nat:=(Xv Q8 (ds.take i) 0).length
def QoX(ds:List QB)(i:Nat)(h:i<ds.length):wn ds (i+1)=if ds[i].zp=1 then wn ds i+1 else wn ds i:=by unfold wn;rw[qo _ _ _ h];by_cases hw:ds[i].zp=1<;>simp[Q8,hw]
def QgC(ds:List QB)(i:Nat):wn ds i<=i:=by have:=VB Q8 (ds.take i) 0;unfold wn;grind
def cab(ds:List QB)(e:Nat->Int):Nat->List Nat
 |0=>[]
 |i+1=>match ds[i]? with
  |some d=>JZ d (e i) (wn ds i) (cab ds e i)
  |none=>cab ds e i
def UV(ds:List QB)(e:Nat->Int)(i:Nat)(h:i<ds.length):cab ds e (i+1)=JZ ds[i] (e i) (wn ds i) (cab ds e i):=by simp only[cab,QNX h]
def QpD{pos e:Int}{n:Nat}(h:0<=pos/\pos<=n):plc pos e (n+1)<=n:=by unfold plc;split<;>omega
def Qhc{pos e:Int}{n:Nat}(h:0<=pos/\pos<=(n:Int)-1):plc pos e n<n:=by unfold plc;split<;>omega
def Qpb{d:QB}{e:Int}{k:Nat}{now:List Nat}(h:ZA d now.length):((JZ d e k now).length:Int)=now.length+grow d:=by
 rcases h with ⟨h1,_,h3,_⟩|⟨h1,_,h3,_⟩|⟨h1,_⟩
 .have:=QpD (e:=e) h3;simp[JZ,grow,h1];omega
 .have:=Qhc (e:=e) h3;simp[JZ,grow,h1];omega
 .rcases h1 with h1|h1<;>simp[JZ,grow,h1]
theorem ZW{ds:List QB}(e:Nat->Int){n:Nat}(h:OkD ds n):∀i,i<=n->i<=ds.length->((cab ds e i).length:Int)=cnt ds i
 |0,_,_=>by simp[cab]
 |i+1,h1,h2=>by have ih:=ZW e h i (by omega) (by omega);rw[UV ds e i (by omega),Qpb (by rw[ih];exact h i (by omega) (by omega)),qC ds i (by omega),ih]
def Qml{d:QB}{e:Int}{k m:Nat}{now:List Nat}(h:∀x∈now,x<m)(hk:k<m):∀x∈JZ d e k now,x<m:=by intro x hx;unfold JZ at hx;grind
theorem Wf(ds:List QB)(e:Nat->Int):∀i,∀x∈cab ds e i,x<wn ds i
 |0=>by simp[cab]
 |i+1=>by
  intro x hx;have ih:=Wf ds e i;cases hd:ds[i]? with
  |none=>
   simp only[cab,hd] at hx;have hge:ds.length<=i:=by grind
   have e1:wn ds (i+1)=wn ds i:=by simp[wn,QN1 hge,QN1 (Nat.le_succ_of_le hge)]
   grind
  |some d=>
   have y9:=(QNY.1 hd).1;rw[UV ds e i y9] at hx;rw[QoX ds i y9];have hm:∀y∈cab ds e i,y<wn ds i:=ih;by_cases hw:ds[i].zp=1
   .rw[if_pos hw]
    exact Qml (λy hy=>by grind) (by omega) x hx
   .rw[if_neg hw]
    have:JZ ds[i] (e i) (wn ds i) (cab ds e i)=JZ ds[i] (e i) 0 (cab ds e i):=by simp[JZ,hw]
    rw[this] at hx;rcases QPI (wn ds i) with hz|hp
    .have he:cab ds e i=[]:=by
      rcases List.eq_nil_or_concat (cab ds e i) with h|⟨l,a,h⟩
      .exact h
      have:=hm a (by rw[h];simp);omega
     rw[he] at hx;simp[JZ,hw] at hx
    .exact Qml hm hp x hx
def Qke(ds:List QB)(e:Nat->Int)(n:Nat):List (List Nat):=(List.range (n+1)).map (cab ds e)
@[simp] theorem QvJ(ds:List QB)(e:Nat->Int)(n:Nat):(Qke ds e n).length=n+1:=by simp[Qke]
def Qig(ds:List QB)(e:Nat->Int)(n:Nat):Qke ds e (n+1)=Qke ds e n++[cab ds e (n+1)]:=by simp[Qke,QOv]
def VO(ds:List QB)(e:Nat->Int)(n i:Nat)(h:i<n+1):(Qke ds e n)[i]'(by simpa using h)=cab ds e i:=by simp[Qke]
@[simp] def QA9(l:List (List Nat)):IV:=.sl 1 (l.map λc=>[ZM c])
def Qw(L:List (List IV)):List.map (List.map AV.iv) L=emb L:=rfl
def QE(L M:List (List IV)):emb L++emb M=emb (L++M):=by simp[emb]
def Qh9(L:List (List IV))(n:Nat):(emb L).drop n=emb (L.drop n):=by simp[emb,List.map_drop]
def QC:emb []=[]:=rfl
def Qm(L:List (List IV)):Qhx (emb L)=some L:=qj L
def Qt(ends:List Int)(i:Nat):Int:=ends.getD i 0
include hK
def QFM(c:Ql)(hl:c.za.length<=1000):Gd K 74 [chV c] (Qq (c.za.map λd=>d.z2.tmod 2)):=by
 apply Qb hK QGP (by simp);simp
 refine Qe (λi=>[(1,AV.iv (.ptr [Qr c.za,Qj c.zg,.int .i64 c.zh])),(3,AV.yl 3 i),(4,AV.iv (.int .i64 (i:Nat)))])
  (λi=>[(3,AO.arr 3 1 (emb (((c.za.take i).map λd=>d.z2.tmod 2).map λn=>[.int .i64 n])) 0)]) c.za.length (λi=>True) trivial ?_ ?_
 .intro _;rw[Qa Qsa.eq_1];simp
 .intro i hi _ ih;rw[Qa Qsa.eq_1];rw[QNW hi,QOd] at ih;have e:min i c.za.length=i:=by omega
  simp[hi,e] at ih |-
  grind
def QmV(c:Ql)(ends:List Int)(hc:OkD c.za c.za.length)(hl:c.za.length<=1000)(he:c.za.length<=ends.length):Gd K 73 [chV c,Qq ends] (QA9 (Qke c.za (Qt ends) c.za.length)):=by
 apply Qb hK QGQ (by simp);simp
 refine Qe (λi=>[(1,AV.iv (Qq ends)),(2,AV.iv (.ptr [Qr c.za,Qj c.zg,.int .i64 c.zh])),(5,AV.iv (ZM (cab c.za (Qt ends) i))),(6,AV.yl 14 (i+1)),(7,AV.iv (.int .i64 (wn c.za i))),(8,AV.iv (.int .i64 (i:Nat)))])
  (λi=>[(14,AO.arr 45 1 (emb ((Qke c.za (Qt ends) i).map λc=>[ZM c])) 0)]) c.za.length (λi=>True) trivial ?_ ?_
 .intro _;rw[Qa Qsb.eq_1];simp;intro _;exact QN1 (by simp)
 .intro i hi _ ih;have hcl:=ZW (Qt ends) hc i (by omega) (by omega);have hcb:=hc.cnt i (by omega) (by omega);have hd:=hc i hi hi;have hw:=QgC c.za i;have hws:=QoX c.za i hi;have hei:Qt ends i=ends[i]'(by omega):=by simp[Qt,List.getD_eq_getElem?_getD,QNX (show i<ends.length by omega)]
  rw[Qig,hws,UV _ _ _ hi] at ih;rw[Qa Qsb.eq_1];generalize cab c.za (Qt ends) i=now at *;rw[hei] at ih;rcases hd with ⟨h1,h2,h3,h4⟩|⟨h1,h2,h3,h4⟩|⟨h1,h4⟩
  .have hi':i<ends.length:=by omega
   simp only[inR] at h3;have hp:(if ends[i]=1 then(now.length:Int)+1-1-c.za[i].pos else c.za[i].pos)=(plc c.za[i].pos ends[i] (now.length+1):Nat):=by unfold plc;omega
   have hpl:plc c.za[i].pos ends[i] (now.length+1)<=now.length:=QpD (by omega);simp[hi,h1,hi',JZ] at ih;simp[hi,h1,hi',-List.map_map,Qw,QE,QC,Qm];generalize plc c.za[i].pos ends[i] (now.length+1)=at_ at *;intros;refine⟨by omega,?_⟩;apply cK (Qj0 hK c.za[i].pos ends[i] (now.length+1) (by omega) (by omega));rw[hp];have hm:min at_ now.length=at_:=by omega
   have hq:at_+1+(now.length-at_)=now.length+1:=by omega
   have hq1:at_+(now.length-at_+1)=now.length+1:=by omega
   have hq2:at_+(1+(now.length-at_))=now.length+1:=by omega
   simp[-List.map_map,Qw,QE,QC,Qm,Qh9,hm,hpl,hq,hq1,hq2,QN1];grind
  .have hi':i<ends.length:=by omega
   have h11:¬c.za[i].zp=1:=by omega
   simp only[inR] at h3;have hp:(if ends[i]=1 then(now.length:Int)-1-c.za[i].pos else c.za[i].pos)=(plc c.za[i].pos ends[i] now.length:Nat):=by unfold plc;split<;>omega
   have hpl:plc c.za[i].pos ends[i] now.length<now.length:=Qhc (by omega);simp[hi,h1,hi',JZ] at ih;simp[hi,h1,hi',-List.map_map,Qw,QE,QC,Qm];generalize plc c.za[i].pos ends[i] now.length=at_ at *;intros;apply cK (Qj0 hK c.za[i].pos ends[i] now.length (by omega) (by omega));rw[hp];have hm:min at_ now.length=at_:=by omega
   have hle:at_<=now.length:=by omega
   have hle':at_+1<=now.length:=by omega
   have hti:((at_:Int)+1).toNat=at_+1:=by omega
   have hq:at_+(now.length-(at_+1))=now.length-1:=by omega
   simp[-List.map_map,Qw,QE,QC,Qm,Qh9,hm,hle,hle',hti,hq,QN1];grind
  .rcases h1 with h1|h1
   .simp[hi,h1,JZ] at ih;simp[hi,h1,-List.map_map,Qw,QE,QC,Qm];intro _ _;refine⟨by omega,?_⟩;have e00:((now.length:Int)-1)=(now.length:Int)-1-((0:Nat):Int):=by simp
    rw[e00]
    refine Qe (λk=>[(1,AV.iv (Qq ends)),(2,AV.iv (.ptr [Qr c.za,Qj c.zg,.int .i64 c.zh])),(5,AV.iv (ZM now)),(6,AV.yl 14 (i+1)),(7,AV.iv (.int .i64 (wn c.za i))),(8,AV.iv (.int .i64 (i:Nat))),(10,AV.yl 10 k),(13,AV.iv (.int .i64 ((now.length:Int)-1-k)))])
     (λk=>[(10,AO.arr 3 1 (emb ((now.reverse.take k).map λ(n:Nat)=>[.int .i64 (n:Int)])) 0),(14,AO.arr 45 1 (emb ((Qke c.za (Qt ends) i).map λc=>[ZM c])) 0)]) now.length (λ_=>True) trivial ?_ ?_
    .intro _;rw[Qa Qsc.eq_1];simp[-List.map_map,Qw,QE,QC,Qm,QN1];grind
    intro k hk _ ih2;rw[Qa Qsc.eq_1];have hrk:now.reverse.take (k+1)=now.reverse.take k++[now[now.length-1-k]'(by omega)]:=by
     rw[QNW (by simpa using hk)]
     grind
    rw[hrk] at ih2;have e0:¬((now.length:Int)-1-k<0):=by omega
    have e1:((now.length:Int)-1-k)=((now.length-1-k:Nat):Int):=by omega
    have e2:now.length-1-k<now.length:=by omega
    have e3:min k now.length=k:=by omega
    have e4:((now.length-1-k:Nat):Int)-1=(now.length:Int)-1-((k:Int)+1):=by omega
    simp[-List.map_map,Qw,QE,QC,Qm,e1,e2,e3] at ih2 |-
    grind
   .simp[hi,h1,JZ] at ih;simp[hi,h1,-List.map_map,Qw,QE,QC,Qm];grind
end Go.Pf
