/- Soundness: a run of the evaluator over a function's body shows zp a call of the function returns. -/
import Derived.Test.YtenlhiebmnojhaaGreatDoorPartTwo
import Derived.Scope
import Derived.ChangeArms
import Derived.ChangeSlices
import Derived.OpenShut
import Derived.SizedLaws
import Derived.ChangeOld
import Derived.ShutString
import Derived.Below
import Derived.Carry
import Derived.ChangeSame
import Derived.ChangeAgain
import Derived.Deep.DeepHandedRow
import Derived.Deep.DeepWitnessRowRef
import Derived.Shelf.SlGeneric
import Derived.Shelf.LaysC
import Derived.Shelf.LaysM
import Derived.Ground.NamesProg
import Derived.Ground.SlgnProg
import Derived.Shelf.SlicesE.Clone
import Derived.Shelf.Strconv.ErrVarAll
import Derived.Shelf.Strconv.Itoa3
import Derived.Shelf.Strings.Prefix
import Derived.Shelf.Strings.OnBuilder
import Derived.Shelf.Strings.SplitShaped
import Derived.Test.YtenlhiebmnojhaaGreatDoorProg
import Derived.Ground.GgzProg
import Derived.Ground.SlgmProg
import Derived.Shelf.SlIterI.Nil
import Derived.Shelf.SlicesE.Delete
import Derived.Shelf.SlicesE.Reverse
import Derived.Shelf.SortM.Plain
import Derived.Shelf.SortM.SortNone
import Derived.KernelRfl
set_option linter.all false
namespace Go.Ev
open Go Go.RowKit
section
variable {P:Program} {K:World->Prop} {ok0:Nat->Prop} {N:Fm} {w0:XH} {a:Act} {w:World} {L:Nat->Lay} {e:Env} {o:Qm}
def JP (tmps:Array Value):ResultVar->Sem Value
 | .tmp t=>pure (tmps.getD t undef)
 | .cell a t=>do loadVar t (<- asAddr (tmps.getD a undef))
theorem Qsm (h:Rel ok0 N w0 (look e) (Qc o) a w L) (hok0:∀ b,¬ w0.fr b->ok0 b) {x rs y}
  (hf:QY P [x] [rs]=true) (hv:QDw e o x=some y):∃ v,(JP a.tmps rs).run P w=.ok v w/\QF ok0 w y v:=by
 have isound:=Qhq h hok0 (lo':=Qc o) (fun _ _ h=>h) 40;cases x with
 | tmp t =>
   cases rs with
   | cell=>simp[QY] at hf
   | tmp t' =>
     simp only[QY,Bool.and_true,beq_iff_eq] at hf;subst hf;exact ⟨a.tmps.getD t undef,rfl,isound.1 _ _ y (h.env t) hv⟩
 | cell t n ag =>
   cases rs with
   | tmp=>simp[QY] at hf
   | cell t' T =>
     simp only[QY,Bool.and_true,QKI,beq_iff_eq] at hf;obtain ⟨⟨rfl,hag⟩,hn⟩:=hf;simp only[QDw] at hv;have het:=h.env t;generalize look e t=xv at hv het;split at hv
     ·rename_i id off;split at hv
      ·rename_i cs hcs;have hob:=h.y9 _ _ hcs;generalize hpv:a.tmps.getD t undef=pv at het;cases het with
       | loc _ _ cs' b hob' hL =>
         rw[hcs] at hob';injection hob' with hob';injection hob' with hob';subst hob';rw[hL] at hob;obtain ⟨hB,ty,vs,hb,hl,h1,hxx⟩:=hob;have cell:∀ k u,(vs.drop off)[k]?=some u->w.cell? ⟨b,off+k,none⟩=some u:=by
          intro k u hu;rw[cell_of_row w b (off+k) _ ty (0,0) hb];simpa[QLP] using hu
         split at hv
         ·split at hv
          ·rename_i hfit;simp only[QKK] at hv;obtain ⟨ys,hys,rfl⟩:=hv;obtain ⟨hyl,hyx⟩:=isound.2 _ ys hys;have hlen:((vs.drop off).take n).length=n:=by simp;omega
           have hload:=Xv (w:=w) hag hn b off ((vs.drop off).take n) hlen (by simp) (fun k u hu=>cell k u (by
            rw[QLr] at hu;split at hu<;>first | exact hu | cases hu))
           refine ⟨.agg ((vs.drop off).take n).toArray,?_,.agg ys _ ?_ (fun u hu=>h1 u (QLT (QLw hu))) (fun k y u hy hu=>?_)⟩
           ·simp[JP,hpv,asAddr,hload]
           ·rw[hlen,hyl];simp;omega
           have hk:k<((cs.drop off).take n).length:=by rw[<- hyl];exact (QKG.1 hy).1
           have hck:=QKF hk;grind
          cases hv
         split at hv
         ·rename_i hn1;subst hn1;obtain ⟨c,hc,hy⟩:∃ c,cs[off]?=some c/\imm (Qc o) 40 c=some y:=by
           grind
          have xa:off<vs.length:=by rw[hl];exact (QKG.1 hc).1
          have hload:=Xv (w:=w) hag hn b off [vs[off]] rfl (by simp) (fun k u hu=>by
           cases k with
           | zero=>simp at hu;subst hu;exact cell 0 _ (by simp[QLP,xa])
           | succ k=>simp at hu)
          refine ⟨vs[off],?_,isound.1 _ _ y (hxx off c _ hc (QKF xa)) hy⟩;simp[JP,hpv,asAddr,hload]
         cases hv
      cases hv
     ·cases hv
theorem Qax {x r rs s} (h:QY P (x::r) (rs::s)=true):QY P [x] [rs]=true/\QY P r s=true:=by
 cases x<;>cases rs<;>simp_all[QY]
theorem Qb0 (h:Rel ok0 N w0 (look e) (Qc o) a w L) (hok0:∀ b,¬ w0.fr b->ok0 b):∀ {res rs ys},
  QY P res rs=true->Qnd e o res=some ys->∃ vs,(rs.mapM (JP a.tmps)).run P w=.ok vs w/\vs.length=ys.length /\
   ∀ (k:Nat) (y:IV) (v:Value),ys[k]?=some y->vs[k]?=some v->QF ok0 w y v
 | [],[],ys,_,hv=>by
   simp only[Qnd,Option.some.injEq] at hv;subst hv;exact ⟨[],by simp,rfl,by simp⟩
 | x::r,rs::s,ys,hf,hv=>by
   obtain ⟨h1,h2⟩:=Qax hf;simp only[Qnd] at hv;split at hv
   ·rename_i y ys' hy hys;injection hv with hv;subst hv;obtain ⟨v,hr,hrep⟩:=Qsm h hok0 h1 hy;obtain ⟨vs,hrs,hl,hreps⟩:=Qb0 h hok0 h2 hys;refine ⟨v::vs,by simp[List.mapM_cons,hr,hrs],by simp[hl],fun k z u hz hu=>?_⟩;grind
   cases hv
 | [],_::_,ys,hf,_=>by simp[QY] at hf
 | x::_,[],ys,hf,_=>by cases x<;>simp[QY] at hf
theorem YZ {fn:Func} {res:List Qdt} {r:IV} (h:Rel ok0 N w0 (look e) (Qc o) a w L) (hok0:∀ b,¬ w0.fr b->ok0 b) (hf:QY P res fn.results.toList=true) (hv:QwQ res e o=some r) :
  ∃ v,(results fn a.tmps).run P w=.ok v w/\QF ok0 w r v:=by
 have hfun:results fn a.tmps=(do
   let vs <- fn.results.mapM (JP a.tmps)
   pure (if h:vs.size=1 then vs[0] else .tuple vs)):=by
  unfold results;congr 1
 rw[hfun,QMr];unfold QwQ at hv;split at hv
 ·rename_i x hx;injection hv with hv;subst hv;obtain ⟨vs,hrs,hl,hreps⟩:=Qb0 h hok0 hf hx;obtain ⟨v,rfl⟩:∃ v,vs=[v]:=by
   cases vs with
   | _=>grind
  exact ⟨v,by simp[hrs],hreps 0 x v (by simp) (by simp)⟩
 ·rename_i xs hxs hne;injection hv with hv;subst hv;obtain ⟨vs,hrs,hl,hreps⟩:=Qb0 h hok0 hf hne;have hsz:¬ (vs.length=1):=by
   intro h1;rw[hl] at h1;cases xs with
   | nil=>simp at h1
   | cons x r=>cases r with
     | nil=>exact hxs x rfl
     | cons=>simp at h1
  exact ⟨.tuple vs.toArray,by simp[hrs,hsz],.xd xs vs hl hreps⟩
 ·cases hv
theorem Rel.frz {t id ks ids cs xs} (h:Rel ok0 N w0 (look e) (Qc o) a w L) (hok0:∀ b,¬ w0.fr b->ok0 b) (ht:look e t=.loc id 0) (hb:Qc o id=some (.box cs)) (hc:ivs cs=some xs) (hn:ids.contains id=false) :
  Rel ok0 N w0 (look (bnd (some t) (.iv (.ptr xs)) (Q5 ks ids e))) (Qc (ZR ids o ids)) a w L:=by
 have hk:=h.keep ks ids;have hinv:∀ i ob,Qc (ZR ids o ids) i=some ob->ids.contains i=true/\∃ ob0,Qc o i=some ob0:=by
  intro i ob hob;rw[Xz] at hob;cases hq:Qc o i<;>grind
 refine ⟨hk.below,hk.defers,hk.size,fun u=>?_,hk.y9,hk.apart,hk.pin⟩;rw[Jp];simp only[Jx];split
 ·rename_i hu;subst hu;have het:=h.env u;rw[ht] at het;generalize a.tmps.getD u undef=pv at het;cases het with
  | loc _ _ cs' b hob' hL =>
    rw[hb] at hob';cases hob';have hob:=h.y9 id _ hb;rw[hL] at hob;obtain ⟨hB,ty,vs,hbk,hl,h1,hx⟩:=hob;have hxs:=W2 hc;have hokb:okL ok0 (Qc (ZR ids o ids)) L b:=by have:=hok0 b hB;have:=h.apart;grind
    have hlen:vs.length=xs.length:=by rw[hl,hxs,QKX]
    refine .iv _ _ (.ptr xs b 0 (fun k=>vs.getD k undef) (fun k hk'=>⟨hokb,?_,?_⟩) (fun k x hx'=>?_))
    ·rw[cell_of_row w b (0+k) _ ty (0,0) hbk]
     simp[List.getD_eq_getElem?_getD,show k<vs.length by omega]
    ·grind
    have xa:k<vs.length:=by rw[hlen];exact (QKG.1 hx').1
    have:=hx k (.iv x) _ (by rw[hxs];simp[hx']) (QKF xa);cases this with
    | iv _ _ r=>simpa[xa] using r.mono fun y hy _=>⟨by grind,rfl⟩
 ·exact hk.env u
theorem Qa6 (lod ids):∀ cs,Qoa lod ids cs=cs.map (Qr7 lod ids)
 | []=>rfl
 | x::r=>by simp[Qoa,Qa6 lod ids r]
theorem Qhb (lod ids e):∀ ks t,look (Qvo lod ks ids e) t=.iv .any\/look (Qvo lod ks ids e) t=Qr7 lod ids (look e t)
 | [],t=>.inl rfl
 | k::r,t=>by
   simp only[Qvo,look];split
   ·rename_i h;subst h;exact .inr rfl
   ·exact Qhb lod ids e r t
theorem Wf (lod all o):∀ l id,Qc (qC lod all o l) id=if l.contains id then (Qc o id).map (Qvn lod all) else none
 | [],id=>rfl
 | k::r,id=>by
   have ih:=Wf lod all o r id;simp only[qC];cases hq:Qc o k<;>by_cases hk:id=k<;>cases hq2:Qc o id<;>grind [Qc]
def QAH:AO->AO->Prop
 | .box _,.box _=>True
 | .arr e sz es mv,.arr e' sz' es' mv'=>e'=e/\sz'=sz/\es'.length=es.length/\mv'=mv
 | a,b=>b=a
theorem QoW (lod ids o):QAH o (Qvn lod ids o):=by
 cases o<;>simp[QAH,Qvn]
theorem Qsz {o o'} (h:QAH o o'):(∃ c c',o=.box c/\o'=.box c')\/(∃ e sz es mv es',o=.arr e sz es mv/\o'=.arr e sz es' mv/\es'.length=es.length)\/o'=o:=by
 unfold QAH at h;split at h<;>first | exact .inr (.inr h) | exact .inl ⟨_,_,rfl,rfl⟩ | (obtain ⟨rfl,rfl,h,rfl⟩:=h;exact .inr (.inl ⟨_,_,_,_,_,rfl,rfl,h⟩))
theorem Qsc {ok ok' lo lo' ids} (hok:∀ b,ok b->ok' b) (xb:∀ id o,ids.contains id=true->lo id=some o->∃ o',lo' id=some o'/\QAH o o') {x v} (h:QA ok w lo L x v):QA ok' w lo' L (scr ids x) v:=by
 induction h with
 | iv x v h=>simp only[scr];exact .iv x v (h.mono fun b hb _=>⟨hok b hb,rfl⟩)
 | zsl sz rs v h hz=>simp only[scr];exact .zsl sz rs v h (hz.mono fun b hb _=>⟨hok b hb,rfl⟩)
 | _ =>
   simp only[scr]
   try split
   all_goals first | exact .iv _ _ (.any _) | grind [WK,VS] | (rename_i hc;obtain ⟨o',_,h2⟩:=xb _ _ hc ‹_›;have:=Qsz h2;grind)
theorem Rel.fz {ks ids} (h:Rel ok0 N w0 (look e) (Qc o) a w L) (hok0:∀ b,¬ w0.fr b->ok0 b) :
  Rel ok0 N w0 (look (Qvo (Qsw ids o) ks ids e)) (Qc (qC (Qsw ids o) ids o ids)) a w L:=by
 generalize hl:Qsw ids o=lod;have hlod:∀ id ob,lod id=some ob->ids.contains id=false/\Qc o id=some ob:=fun id ob hob=>by rw[<- hl] at hob;unfold Qsw at hob;split at hob<;>grind
 have xb:∀ id ob,ids.contains id=true->Qc o id=some ob->∃ o',Qc (qC lod ids o ids) id=some o'/\QAH ob o':=by
  intro id ob hc hob;exact ⟨_,by rw[Wf,if_pos hc,hob];rfl,QoW _ _ ob⟩
 have hinv:∀ id ob,Qc (qC lod ids o ids) id=some ob->ids.contains id=true/\∃ ob0,Qc o id=some ob0/\ob=Qvn lod ids ob0:=by
  intro id ob hob;rw[Wf] at hob;cases hq:Qc o id<;>grind
 have hok:∀ b,okL ok0 (Qc o) L b->okL ok0 (Qc (qC lod ids o ids)) L b:=by grind
 have hs:=YU h hok (lo':=lod) (fun id ob hob=>(hlod _ _ hob).2)
  (fun id ob b hob hb=>by
    obtain ⟨hn,hob⟩:=hlod _ _ hob;have:=((h.y9 id ob hob).lt hb).1;have:=h.apart;grind) 40
 have all:∀ x v,QA (okL ok0 (Qc o) L) w (Qc o) L x v->QA (okL ok0 (Qc (qC lod ids o ids)) L) w (Qc (qC lod ids o ids)) L (Qr7 lod ids x) v:=fun x v hx=>by
  unfold Qr7;split
  ·rename_i y hy;exact .iv _ _ (hs.1 x v y hx hy)
  exact Qsc hok xb hx
 refine ⟨h.below,h.defers.stay (fun _ _ _=>rfl) (by grind),h.size,fun t=>?_,fun id ob hob=>?_,by have:=h.apart;grind,h.pin⟩
 ·rcases Qhb lod ids e ks t with hq | hq
  ·rw[hq];exact .iv _ _ (.any _)
  rw[hq];exact all _ _ (h.env t)
 ·obtain ⟨_,q,hq,rfl⟩:=hinv id ob hob;have:=h.y9 id q hq
  revert this
  generalize L id=l;intro this;cases q with
  | box cs =>
    cases l with
    | box b =>
      obtain ⟨hB,t,vs,hb,hl,h1,hx⟩:=this;refine ⟨hB,t,vs,hb,by rw[Qa6];simpa using hl,h1,?_⟩;grind [Qa6]
    | _=>exact this.elim
  | arr e sz es mv =>
    cases l with
    | arr v xs =>
      obtain ⟨ho,hm,hz,h1,hx⟩:=this;refine ⟨by rw[QKX];exact ho,by rw[QKX];exact hm,?_,h1,?_⟩<;>grind [Qa6]
    | _=>exact this.elim
  | _=>exact QG.stay this (Q8.refl _ _) h.frl (fun _ _ _=>rfl) (fun b hb _=>⟨hok b hb,rfl⟩) (fun hf=>by cases hf)
theorem Qiq {b:Frame} {c:Code} {k:List Item} {cs:List Frame}:step P (lone (b.atR a (.code (.scope c)::k)) cs w)=.next (lone (b.atR a (.code c::.inScope c::k)) cs w) :=
 step_lone_go (by simp[stepG,stepG.exec,Frame.atR])
theorem QeM {b:Frame} {c:Code} {k:List Item} {cs:List Frame}:step P (lone (b.atR a (.inScope c::k)) cs w)=.next (lone (b.atR a k) cs w) :=
 step_lone_go (by simp[stepG,stepG.exec,Frame.atR])
theorem QAI {F:Way->Env->Qm->Prop} {k:List AI} {e:Env} {o:Qm} (h:WpF P K F k e o):Un P K F k e o:=by
 induction h with
 | skip F k e o _ ih =>
   intro b cs tl htl N ok0 w0 c hro k' a w L hfit hr;cases hfit with
   | code _ c' _ k' h hk =>
     cases c'<;>simp only[Qs,QLi] at h;exact .steps (.one stepR_skip) (.refl _) (ih b cs tl htl N ok0 w0 c hro k' a w L hk hr)
 | region F l draw k e o C hrun _ ih =>
   intro b cs tl htl N ok0 w0 c hro k' a w L hfit hr;cases hfit with
   | code _ c' _ k' h hk =>
     cases c'<;>simp only[Qs,QLi,QKI,beq_iff_eq] at h;rename_i id ops d;obtain ⟨rfl,h⟩:=h;have hof:=h;simp only[Uz,QKI] at hof;obtain ⟨e',o',hp,hc⟩:=extract l ops.toList e o w0 c a w L hof.1 hr hrun;obtain ⟨a',w',⟨w1,L',hle,hr'⟩,hst⟩:=QgR (id:=id) c h hr hp b k' cs;exact .steps hst hle (ih e' o' hc b cs tl htl N ok0 w1 (c.le hle) (hro.le hle) k' a' w' L' hk hr')
 | seq F x y k e o _ ih =>
   intro b cs tl htl N ok0 w0 c hro k' a w L hfit hr;cases hfit with
   | code _ c' _ k' h hk =>
     cases c'<;>simp only[Qs,QLi,QKI] at h;exact .steps (.one stepR_seq) (.refl _) (ih b cs tl htl N ok0 w0 c hro _ a w L (.code _ _ _ _ h.1 (.code _ _ _ _ h.2 hk)) hr)
 | cond F cc x y k e o bb hc _ _ iht ihf =>
   intro b cs tl htl N ok0 w0 c hro k' a w L hfit hr;cases hfit with
   | code _ c' _ k' h hk =>
     cases c'<;>simp only[Qs,QLi,QKI] at h;obtain ⟨⟨h1,h2⟩,h3⟩:=h;have hv:=Opd.rep hr h1;rw[hc] at hv;have hv:=Jq hv;refine .steps (.one (stepR_cond hv)) (.refl _) ?_;cases bb
     ·exact ihf rfl b cs tl htl N ok0 w0 c hro _ a w L (.code _ _ _ _ h3 hk) hr
     exact iht rfl b cs tl htl N ok0 w0 c hro _ a w L (.code _ _ _ _ h2 hk) hr
 | block F id cc k e o _ ih =>
   intro b cs tl htl N ok0 w0 c hro k' a w L hfit hr;cases hfit with
   | code _ c' _ k' h hk =>
     cases c'<;>simp only[Qs,QLi,QKI,beq_iff_eq] at h;obtain ⟨rfl,h⟩:=h;exact .steps (.one stepR_block) (.refl _) (ih b cs tl htl N ok0 w0 c hro _ a w L (.code _ _ _ _ h (.inBlock _ _ _ hk)) hr)
 | inBlock F id k e o _ ih =>
   intro b cs tl htl N ok0 w0 c hro k' a w L hfit hr;cases hfit with
   | inBlock _ _ k' hk=>exact .steps (.one stepR_inBlock) (.refl _) (ih b cs tl htl N ok0 w0 c hro _ a w L hk hr)
 | scope F cc k e o _ ih =>
   intro b cs tl htl N ok0 w0 c hro k' a w L hfit hr;cases hfit with
   | code _ c' _ k' h hk =>
     cases c'<;>simp only[Qs,QLi] at h;exact .steps (.one Qiq) (.refl _) (ih b cs tl htl N ok0 w0 c hro _ a w L (.code _ _ _ _ h (.inScope _ _ _ hk)) hr)
 | inScope F k e o _ ih =>
   intro b cs tl htl N ok0 w0 c hro k' a w L hfit hr;cases hfit with
   | inScope _ _ k' hk=>exact .steps (.one QeM) (.refl _) (ih b cs tl htl N ok0 w0 c hro _ a w L hk hr)
 | label F l k e o _ ih =>
   intro b cs tl htl N ok0 w0 c hro k' a w L hfit hr;cases hfit with
   | code _ c' _ k' h hk =>
     cases c'<;>simp only[Qs,QLi,beq_iff_eq] at h;exact .steps (.one stepR_label) (.refl _) (ih b cs tl htl N ok0 w0 c hro _ a w L hk hr)
 | loop F cc ks ids k e o _ ih =>
   intro b cs tl htl N ok0 w0 c hro k' a w L hfit hr;cases hfit with
   | code _ c' _ k' h hk =>
     cases c'<;>simp only[Qs,QLi] at h;exact .steps (.one stepR_loop) (.refl _) (ih b cs tl htl N ok0 w0 c hro _ a w L (.code _ _ _ _ h (.inLoop _ _ _ _ _ _ h hk)) (hr.keep ks ids))
 | inLoop F cc ks ids k e o _ ih =>
   intro b cs tl htl N ok0 w0 c hro k' a w L hfit hr;cases hfit with
   | inLoop _ c' _ _ _ k' h hk=>exact .steps (.one stepR_inLoop) (.refl _) (ih b cs tl htl N ok0 w0 c hro _ a w L (.code _ _ _ _ h (.inLoop _ _ _ _ _ _ h hk)) (hr.keep ks ids))
 | exit F id k j e o hk _ ih =>
   intro b cs tl htl N ok0 w0 c hro k' a w L hfit hr;cases hfit with
   | code _ c' _ k' h hkk =>
     cases c'<;>simp only[Qs,QLi,beq_iff_eq] at h;subst h;obtain ⟨j',h1,h2⟩:=hkk.exit hk;exact .steps (.one (stepR_exit h1)) (.refl _) (ih b cs tl htl N ok0 w0 c hro j' a w L h2 hr)
 | nxt F d dx x id k e o kvs seen hx ho _ _ ihe ihm =>
   intro b cs tl htl N ok0 w0 c hro k' a w L hfit hr;cases hfit with
   | code _ c' _ k' h hk =>
     cases c'<;>simp only[Qs,QLi,QKI,QLb] at h;rename_i cid ops d';obtain ⟨rfl,h⟩:=h
     obtain ⟨a',w',hq,harr⟩:=QoE (cid:=cid) (Q:=fun a' w'=>Ends P F b cs tl N ok0 w0 (lone (b.atR a' k') cs w')) c hr h hx ho
      (fun xc a' w' L' hr'=>ihe xc b cs tl htl N ok0 w0 c hro _ a' w' L' hk (by rw[Jp,Jp];exact hr'))
      (fun i q hi hns a' w' L' hr'=>ihm i q hi hns b cs tl htl N ok0 w0 c hro _ a' w' L' hk (by rw[Jp,Jp,Y4];exact hr')) b k' cs
     exact .steps harr (.refl _) hq
 | gh F id bid off t sz c k e o cs hid hb hc _ ih =>
   intro b fr tl htl N ok0 w0 c hro k' a w L hfit hr;cases hfit with
   | code _ c' _ k' h hk =>
     simp only[Qs] at h;obtain ⟨L',hr'⟩:=QCe (e:=t) hr hid hb hc;exact ih b fr tl htl N ok0 w0 c hro _ a w L' (.code _ _ _ _ h hk) (by rw[Y4,Y4];exact hr')
 | ret F k e o hv =>
   intro b cs tl htl N ok0 w0 c hro k' a w L hfit hr;cases hfit with
   | code _ c' _ k' h hk =>
     cases c'<;>simp only[Qs,QLi] at h;exact ⟨.ret,e,o,a,w,w0,L,_,hv,.refl _,hr,⟨k',rfl⟩,Steps.refl _ _⟩
 | done F e o hv =>
   intro b cs tl htl N ok0 w0 c hro k' a w L hfit hr;cases hfit;exact ⟨.fall,e,o,a,w,w0,L,_,hv,.refl _,hr,rfl,Steps.refl _ _⟩
 | exitOut F id k e o hk hv =>
   intro b cs tl htl N ok0 w0 c hro k' a w L hfit hr;cases hfit with
   | code _ c' _ k' h hkk =>
     cases c'<;>simp only[Qs,QLi,beq_iff_eq] at h;subst h;exact ⟨.exit id,e,o,a,w,w0,L,_,hv,.refl _,hr,⟨k',rfl,hkk.exitOut (htl id) hk⟩,Steps.refl _ _⟩
 | frz F t id ks ids cc k e o cs xs ht hb hc hn _ ih =>
   intro b fr tl htl N ok0 w0 c hro k' a w L hfit hr;cases hfit with
   | code _ c' _ k' h hk =>
     simp only[Qs] at h;exact ih b fr tl htl N ok0 w0 c hro _ a w L (.code _ _ _ _ h hk) (hr.frz c.ok ht hb hc hn)
 | fz F ks ids cc k e o _ ih =>
   intro b fr tl htl N ok0 w0 c hro k' a w L hfit hr;cases hfit with
   | code _ c' _ k' h hk =>
     simp only[Qs] at h;exact ih b fr tl htl N ok0 w0 c hro _ a w L (.code _ _ _ _ h hk) (hr.fz c.ok)
 | range F f ps asn body ks ids k e o g fs cs Lx St Wy m M hf hc hit h0 hm xc hend hlen _ _ _ ih1 ih2 ih3 =>
   exact Qov hf hc hit h0 hm xc hend hlen ih1 ih2 ih3
 | rangeS F f ps asn body ks ids k e o g fs cs S St M hf hc hit h0 hlen _ _ _ ih1 ih2 ih3 =>
   exact Qne hf hc hit h0 hlen ih1 ih2 ih3
def FnF (F:Env->Qm->Prop):Way->Env->Qm->Prop
 | .exit _,_,_=>False
 | _,e,o=>F e o
theorem QlY:∀ {xs ys:List Nat},xs.map mark=ys.map mark->xs=ys
 | [],[],_=>rfl
 | [],y::ys,h=>by simp at h
 | x::xs,[],h=>by simp at h
 | x::xs,y::ys,h=>by
   simp only[QKZ,List.cons.injEq] at h;have:x=y:=by have h1:=h.1;injection h1 with h1;injection h1
   rw[this,QlY h.2]
theorem Qvh {b:Frame} {cs:List Frame} {todo:List Item} {lk:Nat->AV} {lo:Nat->Option AO}:∀ (rs:List Nat) (a:Act) (w:World),a.defers=rs.map mark->Rel ok0 N w0 lk lo a w L ->
  ∃ w',Rel ok0 N w0 lk lo { a with defers:=[] } w' L/\Steps P (lone { b.atR a todo with mode:=.returning } cs w) (lone { b.atR { a with defers:=[] } todo with mode:=.returning } cs w')
 | [],a,w,hd,h=>by
   have:a={ a with defers:=[] }:=by cases a;simp_all
   rw[<- this];exact ⟨w,h,Steps.refl _ _⟩
 | r::rs,a,w,hd,h=>by
   obtain ⟨rs',h1,h2,h3⟩:=h.defers;have hrs:rs'=r::rs:=QlY (h1.symm.trans hd);subst hrs;obtain ⟨h4,h5,h6⟩:=h3 r (by simp);have hnp:=Y3 h4 ⟨by simp,by simp⟩;have hne:∀ x,Y0 w x->x≠r:=fun x hx e=>hnp (e▸hx);have hrel:Rel ok0 N w0 lk lo { a with defers:=rs.map mark } (w.putObj r (.deferred none)) L:=by
    refine h.move ⟨rfl,rfl,rfl,by rw[putObj_size];exact QKJ _⟩ (h.below.trans (Q8.put w r _ h5)) ⟨rs,rfl,(QMb.1 h2).2,fun x hx=>?_⟩ h.size h.env h.pin (fun x hx hp=>⟨hx.1,Qw (hne x hp)⟩) (fun id ob x ho hx=>⟨((h.y9 id ob ho).lt hx).1,Qw fun e=>h6 id ob ho (e▸hx)⟩) (fun x hx hok=>⟨hx,hok.1,Qw fun e=>h5 (e▸hx)⟩);obtain ⟨g1,g2,g3⟩:=h3 x (by simp[hx]);exact ⟨(Qw fun e=>(QMb.1 h2).1 (by rw[<- e];exact hx)).trans g1,g2,g3⟩
   have hstep:=step_collected (P:=P) (fr:={ b.atR a todo with mode:=.returning }) (cs:=cs) (d:=mark r) (r:=r) (ds:=rs.map mark) (calls:=[]) (by simp) (by rw[<- QKZ,<- hd];rfl) rfl (run_takeDeferred h4);obtain ⟨w',h7,h8⟩:=Qvh (b:=b) (cs:=cs) (todo:=todo) rs { a with defers:=rs.map mark } _ rfl hrel;exact ⟨w',h7,.head hstep h8⟩
theorem Qn0 {f:FuncId} {fn:Func} {code:Code} {ac:AC} {args:Array Value} {F:Env->Qm->Prop} {R:Value->World->Prop} (c:Ctx P K ok0 w0) (hfn:P.funcs[f]?=some fn) (hbody:fn.body=some code) (hfit:Qs P N ac code=true)
  (hrel:Rel ok0 N w0 (look e) (Qc o) { tmps:=args++Array.replicate (fn.ntmps-args.size) undef,defers:=[] } w L) (h:WpF P K (FnF F) [.code ac] e o)
  (hF:∀ (w1:XH) (e':Env) (o':Qm) (a':Act) (w':World) (L':Nat->Lay),w0.le w1->F e' o'->Rel ok0 N w1 (look e') (Qc o') a' w' L'->∃ v,(results fn a'.tmps).run P w'=.ok v w'/\R v w') :
  Calls P f args w (fun e w'=>∃ v,e=.returned v/\R v w'):=by
 intro cs
 let b:Frame:={ (default:Frame) with fn:=f,kind:=.normal,roundOf:=none }
 have henter:Frame.enter P f args .normal=b.atR { tmps:=args++Array.replicate (fn.ntmps-args.size) undef,defers:=[] } [.code code]:=by
  simp[Frame.enter,Frame.atR,hfn,hbody,b]
 obtain ⟨wy,e',o',a',w',w1,L',k,hf,hle,hr',hat,hst⟩:=QAI h b cs [] (fun id=>rfl) N ok0 w0 c (fun l hl=>by cases hl) [.code code] _ w L (.code _ _ _ _ hfit .nil) hrel;have hout:step P (lone (b.atR a' k) cs w')=.next (lone { b.atR a' k with mode:=.returning } cs w')/\F e' o':=by
  cases wy with
  | fall =>
    have hk:k=[]:=hat;subst hk;exact ⟨stepR_end rfl,hf⟩
  | ret =>
    obtain ⟨k1,rfl⟩:=hat;exact ⟨stepR_ret rfl,hf⟩
  | exit id=>exact hf.elim
 obtain ⟨rs,hd,_⟩:=hr'.defers;obtain ⟨w2,hr2,hst2⟩:=Qvh (P:=P) (b:=b) (cs:=cs) (todo:=k) rs a' w' hd hr';obtain ⟨v,hv,hR⟩:=hF w1 e' o' _ w2 L' hle hout.2 hr2;refine ⟨.returned v,w2,{ b.atR { a' with defers:=[] } k with mode:=.returning },⟨v,rfl,hR⟩,?_,rfl,⟨rfl,rfl,rfl,fn,hfn,hv⟩⟩;rw[henter];exact (hst.trans (.head hout.1 hst2))
structure AFn where
 nt:Nat
 res:List Qdt
 code:AC
def Qeh (P:Program) (fn:Func) (A:AFn):Bool :=
 (match fn.body with | some c=>Qs P ⟨A.nt,[]⟩ A.code c | none=>false)&&fn.ntmps==A.nt&&QY P A.res fn.results.toList
def Qr2 (P:Program) (f:FuncId) (A:AFn):Prop:=∃ fn,P.funcs[f]?=some fn/\Qeh P fn A=true
def Jg:Nat->List IV->Env
 | _,[]=>[]
 | i,x::r=>(i,.iv x)::Jg (i+1) r
theorem Xy:∀ xs i t,look (Jg i xs) t=.iv .any\/∃ x,i<=t/\xs[t-i]?=some x/\look (Jg i xs) t=.iv x
 | [],i,t=>.inl rfl
 | x::r,i,t=>by
   simp only[Jg,look];split
   ·grind
   ·rename_i h;rcases Xy r (i+1) t with h1 | ⟨y,h1,h2,h3⟩
    all_goals grind
theorem calls_of_wp {f:FuncId} {A:AFn} {xs:List IV} {F:Env->Qm->Prop} (hK:∀ w w',K w->Below w.heap.size w w'->K w') (hok:Qr2 P f A) (hlen:xs.length<=A.nt)
  (h:WpF P K (FnF F) [.code A.code] (Jg 0 xs) []) (w:World) (ok:Nat->Prop) (vs:List Value) (R:Value->World->Prop) (hk:K w) (hnew:∀ b,w.heap.size<=b->ok b) (hvl:vs.length=xs.length)
  (hvs:∀ (k:Nat) (x:IV) (u:Value),xs[k]?=some x->vs[k]?=some u->QF ok w x u)
  (hF:∀ (fn:Func) (w1:XH) (e:Env) (o:Qm) (a:Act) (w':World) (L:Nat->Lay),QY P A.res fn.results.toList=true->F e o->XH.le ⟨w,fun b=>b<w.heap.size,fun _ h=>h,fun _=>undef⟩ w1->Rel ok ⟨A.nt,[]⟩ w1 (look e) (Qc o) a w' L->∃ v,(results fn a.tmps).run P w'=.ok v w'/\R v w') :
  Calls P f vs.toArray w (fun e w'=>∃ v,e=.returned v/\R v w'):=by
 obtain ⟨fn,hfn,hok⟩:=hok;unfold Qeh at hok
 ·split at hok
  ·rename_i c hbody;simp only[QKI,beq_iff_eq] at hok;obtain ⟨⟨hfit,hnt⟩,hres⟩:=hok
   let a:Act:={ tmps:=vs.toArray++Array.replicate (fn.ntmps-vs.toArray.size) undef,defers:=[] }
   let w0:XH:=⟨w,fun b=>b<w.heap.size,fun _ h=>h,fun _=>undef⟩
   have hctx:Ctx P K ok w0:=⟨fun w' h=>hK w w' hk h.below,fun b hb=>hnew b (QLW.1 hb)⟩;have hrel:Rel ok ⟨A.nt,[]⟩ w0 (look (Jg 0 xs)) (Qc []) a w (fun _=>.box 0):=by
    refine ⟨Q8.refl _ _,⟨[],rfl,QMa,by simp⟩,?_,fun t=>?_,fun id o ho=>by simp[Qc] at ho,fun i j oi oj b hij hi=>by simp[Qc] at hi,fun t ht=>by simp at ht⟩
    ·simp[a,hnt];omega
    rcases Xy xs 0 t with h1 | ⟨x,_,h2,h3⟩
    ·rw[h1];exact .iv _ _ (.any _)
    rw[h3];simp only[Nat.sub_zero] at h2;have xa:t<vs.length:=by rw[hvl];exact (QKG.1 h2).1
    have hget:a.tmps.getD t undef=vs[t]:=by
     simp[a,QLt,QLZ,xa]
    rw[hget];exact .iv _ _ ((hvs t x _ h2 (QKF xa)).mono fun b hb _=>⟨⟨hb,fun id o ho=>by simp[Qc] at ho⟩,rfl⟩)
   exact Qn0 (ac:=A.code) hctx hfn hbody hfit hrel h (fun w1 e' o' a' w' L' hle hf hr'=>hF fn w1 e' o' a' w' L' hres hf hle hr')
  ·simp at hok
theorem Qb {f:FuncId} {A:AFn} {xs:List IV} {r:IV} (hK:∀ w w',K w->Below w.heap.size w w'->K w') (hok:Qr2 P f A) (hlen:xs.length<=A.nt)
  (h:WpF P K (FnF (QnU A.res r)) [.code A.code] (Jg 0 xs) []):Good P K f xs r:=by
 intro w ok vs hk hnew hvl hvs;refine calls_of_wp hK hok hlen h w ok vs (fun v w'=>QF ok w' r v/\Below w.heap.size w w') hk hnew hvl hvs (fun fn w1 e o a w' L hres hv hle hr=>?_);obtain ⟨v,h1,h2⟩:=YZ hr (fun b hb=>hnew b (QLW.1 fun h=>hb (hle.fr b h))) hres hv;exact ⟨v,h1,h2,(hle.keeps hr.below).below⟩
def Qsl (e:Env) (o:Qm):Qdt->Option AV
 | .tmp t=>some (look e t)
 | .cell t n ag=>match look e t with
   | .loc id off=>match Qc o id with
     | some (.box cs)=>match ag with
       | true=>if off+n<=cs.length then some (QaT ((cs.drop off).take n)) else none
       | false=>if n=1 then cs[off]? else none
     | _=>none
   | _=>none
theorem QlE (h:Rel ok0 N w0 (look e) (Qc o) a w L) {x rs y}
  (hf:QY P [x] [rs]=true) (hv:Qsl e o x=some y):∃ v,(JP a.tmps rs).run P w=.ok v w/\QA (okL ok0 (Qc o) L) w (Qc o) L y v:=by
 cases x with
 | tmp t =>
   cases rs with
   | cell=>simp[QY] at hf
   | tmp t' =>
     simp only[QY,Bool.and_true,beq_iff_eq] at hf;subst hf;simp only[Qsl,Option.some.injEq] at hv;subst hv;exact ⟨a.tmps.getD t undef,rfl,h.env t⟩
 | cell t n ag =>
   cases rs with
   | tmp=>simp[QY] at hf
   | cell t' T =>
     simp only[QY,Bool.and_true,QKI,beq_iff_eq] at hf;obtain ⟨⟨rfl,hag⟩,hn⟩:=hf;simp only[Qsl] at hv;have het:=h.env t;generalize look e t=xv at hv het;split at hv
     ·rename_i id off;split at hv
      ·rename_i cs hcs;have hob:=h.y9 _ _ hcs;generalize hpv:a.tmps.getD t undef=pv at het;cases het with
       | loc _ _ cs' b hob' hL =>
         rw[hcs] at hob';injection hob' with hob';injection hob' with hob';subst hob';rw[hL] at hob;obtain ⟨hB,ty,vs,hb,hl,h1,hxx⟩:=hob;have cell:∀ k u,(vs.drop off)[k]?=some u->w.cell? ⟨b,off+k,none⟩=some u:=by
          intro k u hu;rw[cell_of_row w b (off+k) _ ty (0,0) hb];simpa[QLP] using hu
         split at hv
         ·split at hv
          ·rename_i hfit;injection hv with hv;subst hv;have hlen:((vs.drop off).take n).length=n:=by simp;omega
           have hload:=Xv (w:=w) hag hn b off ((vs.drop off).take n) hlen (by simp) (fun k u hu=>cell k u (by
            rw[QLr] at hu;split at hu<;>first | exact hu | cases hu))
           refine ⟨.agg ((vs.drop off).take n).toArray,?_,VW (by simp;omega) (fun u hu=>h1 u (QLT (QLw hu))) (fun k y u hy hu=>?_)⟩
           ·simp[JP,hpv,asAddr,hload]
           grind
          cases hv
         split at hv
         ·rename_i hn1;subst hn1;have xa:off<vs.length:=by rw[hl];exact (QKG.1 hv).1
          have hload:=Xv (w:=w) hag hn b off [vs[off]] rfl (by simp) (fun k u hu=>by
           cases k with
           | zero=>simp at hu;subst hu;exact cell 0 _ (by simp[QLP,xa])
           | succ k=>simp at hu)
          refine ⟨vs[off],?_,hxx off _ _ hv (QKF xa)⟩;simp[JP,hpv,asAddr,hload]
         cases hv
      cases hv
     ·cases hv
def QKv (x:Qdt) (id:Nat) (q:AV) (ob:AO) (e:Env) (o:Qm):Prop:=Qsl e o x=some (ren id q)/\Qc o id=some ob
def QEe (e:TypeId) (sz:Nat) (rows:List (List IV)):Option AO->Prop
 | some (.arr e' sz' es _)=>e'=e/\sz'=sz/\es=rows.map (List.map AV.iv)
 | _=>False
def QKE (t:Nat) (ty:TypeId) (sz:Nat) (rows':List (List IV)) (e:Env) (o:Qm):Prop:=look e t=.yl 0 rows'.length/\QEe ty sz rows' (Qc o 0)
def QFN (K:World->Prop) (sz:Nat) (rows:List (List IV)) (v0:Value) (w:World):Prop:=K w/\QF (fun _=>True) w (.sl sz rows) v0
theorem QFN.stay {sz rows v0} (hK:∀ w w',K w->Below w.heap.size w w'->K w'):∀ w w',QFN K sz rows v0 w->Below w.heap.size w w'->QFN K sz rows v0 w' :=
 fun w w' h hb=>⟨hK w w' h.1 hb,h.2.mono fun b _ xa=>⟨trivial,hb.block b xa⟩⟩
end
def AOp.isCall:AOp->Bool
 | .call _ _ _ | .y3 _ _ _ _ | .yz _ _ _ | .yw _ _ _ _ | .yu _ _ _ | .yr _ _ _ | .yx _ _ _ | .y4 _ _ _ | .cpy _ _ _=>true
 | .yy _=>false
 | .xf _ | .nilo _ _ _ | .pick _ _ _ | .ext _ _ | .not _ | .bin _ _ _ | .beq _ _ _ | .cvi _ _ | .i2s _ | .nilc _ | .fld _ _ | .ldi _ _ _ | .ldo _ _ _ _ | .sto _ _ _ _ | .ixi _ _ _ | .ixo _ _ _ _
 | .ixs _ _ | .sli _ _ _ _ | .sls _ _ _ | .boxi _ | .boxo _ _ | .alo _ _ | .bld _ _ | .bsl _ _ | .bso _ _ _ _ | .len _ | .leno _ _ | .lst _ | .app _ _ _ _ _ _=>false
theorem Qo3:∀ l,ivs (l.map AV.iv)=some l
 | []=>rfl
 | a::l=>by simp[ivs,Qo3 l,AV.iv?]
theorem Qbe:∀ L,Qd5 (L.map (List.map AV.iv))=some L
 | []=>rfl
 | a::l=>by simp[Qd5,Qbe l,Qo3]
section
variable {P:Program} {K:World->Prop} {F:Way->Env->Qm->Prop}
def opK (P:Program) (K:World->Prop) (C:Env->Qm->Prop) (d:Option Nat) (l:List Zf) (e:Env) (o:Qm):Res->Prop
 | .ok s f v up=>s/\(f->Qq P K C l (bnd d v e) (upL up o))
 | .no=>False
def gK (P:Program) (K:World->Prop) (C:Env->Qm->Prop) (d:Option Nat) (t:Nat) (b:Bool) (op:AOp) (l:List Zf) (e:Env) (o:Qm):AV->Prop
 | .iv (.bool c)=>(c=b->Qq P K C (⟨d,none,op⟩::l) (Qa9 t (.iv (.bool b)) e) o)/\(c=!b->Qq P K C l (bnd d (.iv (.xd [])) (Qa9 t (.iv (.bool (!b))) e)) o)
 | .iv (.xd [])=>Qq P K C l (bnd d (.iv (.xd [])) (Qa9 t (.iv (.xd [])) e)) o
 | _=>False
def Qdm (P:Program) (K:World->Prop) (C:Env->Qm->Prop) (d:Option Nat) (g:FuncId) (own:Bool) (l:List Zf) (e:Env) (o:Qm) (xs:Option (List IV)):Prop :=
 ∃ ys r,xs=some ys/\Good P K g ys r/\(own=false\/Q0 r=true)/\Qq P K C l (bnd d (.iv r) e) o
def QCD (P:Program) (K:World->Prop) (C:Env->Qm->Prop) (d:Option Nat) (g:FuncId) (id:Nat) (ids:List Nat) (l:List Zf) (e:Env) (o:Qm) (xs:Option (List IV)):Prop :=
 ∃ ys q t sz rows mv,ids=[]/\xs=some ys/\Qh7 P K g ys q t sz rows mv/\Qc o id=none/\Qq P K C l (bnd d (ren id q) e) (Yu id (XE t sz rows mv) o)
def QjP (X Y:Prop):AV->Prop
 | .iv (.bool b)=>(b=true->X)/\(b=false->Y)
 | _=>False
@[simp] theorem QEy (C d t b op l e o):gK P K C d t b op l e o (.iv (.xd []))=Qq P K C l (bnd d (.iv (.xd [])) (Qa9 t (.iv (.xd [])) e)) o:=rfl
@[simp] theorem QF3 (C d l e o s f v up) :
  opK P K C d l e o (.ok s f v up)=(s/\(f->Qq P K C l (bnd d v e) (upL up o))):=rfl
@[simp] theorem QF4 (C d l e o):opK P K C d l e o .no=False:=rfl
@[simp] theorem QKh (C d t c op l e o) (h:c=true):gK P K C d t true op l e o (.iv (.bool c))=Qq P K C (⟨d,none,op⟩::l) (Qa9 t (.iv (.bool true)) e) o:=by subst h;simp[gK]
@[simp] theorem QKi (C d t c op l e o) (h:c=false):gK P K C d t true op l e o (.iv (.bool c))=Qq P K C l (bnd d (.iv (.xd [])) (Qa9 t (.iv (.bool false)) e)) o:=by subst h;simp[gK]
@[simp] theorem QKk (C d t c op l e o) (h:c=false):gK P K C d t false op l e o (.iv (.bool c))=Qq P K C (⟨d,none,op⟩::l) (Qa9 t (.iv (.bool false)) e) o:=by subst h;simp[gK]
@[simp] theorem QKj (C d t c op l e o) (h:c=true):gK P K C d t false op l e o (.iv (.bool c))=Qq P K C l (bnd d (.iv (.xd [])) (Qa9 t (.iv (.bool true)) e)) o:=by subst h;simp[gK]
@[simp] theorem QKl (C d t c op l e o):gK P K C d t true op l e o (.iv (.bool c)) =
  ((c=true->Qq P K C (⟨d,none,op⟩::l) (Qa9 t (.iv (.bool true)) e) o)/\(c=false->Qq P K C l (bnd d (.iv (.xd [])) (Qa9 t (.iv (.bool false)) e)) o)):=rfl
@[simp] theorem QKm (C d t c op l e o):gK P K C d t false op l e o (.iv (.bool c)) =
  ((c=false->Qq P K C (⟨d,none,op⟩::l) (Qa9 t (.iv (.bool false)) e) o)/\(c=true->Qq P K C l (bnd d (.iv (.xd [])) (Qa9 t (.iv (.bool true)) e)) o)):=rfl
@[simp] theorem QAz (X Y b) (h:b=true):QjP X Y (.iv (.bool b))=X:=by subst h;simp[QjP]
@[simp] theorem QzK (X Y b) (h:b=false):QjP X Y (.iv (.bool b))=Y:=by subst h;simp[QjP]
@[simp] theorem QAA (X Y b):QjP X Y (.iv (.bool b))=((b=true->X)/\(b=false->Y)):=rfl
theorem Qm8 (C e o):Qq P K C [] e o=C e o:=rfl
theorem Qg (C d op l e o) (h:op.isCall=false) :
  Qq P K C (⟨d,none,op⟩::l) e o=opK P K C d l e o (ev (look e) (Qc o) op):=by
 simp only[Qq];cases op with
 | call g args ids=>simp[AOp.isCall] at h
 | y3 g args ids id=>simp[AOp.isCall] at h
 | yz x args ids=>simp[AOp.isCall] at h
 | yw g x args id=>simp[AOp.isCall] at h
 | yu x args id=>simp[AOp.isCall] at h
 | yr g args id=>simp[AOp.isCall] at h
 | yx g args ids=>simp[AOp.isCall] at h
 | cpy id x y=>simp[AOp.isCall] at h
 | y4 x args ids=>simp[AOp.isCall] at h
 | _ =>
   simp only[Qia];unfold evK opK;rfl
def QAS (C d x l e o):=Qg (P:=P) (K:=K) C d (.xf x) l e o rfl
def Qwu (C d id t sz l e o):=Qg (P:=P) (K:=K) C d (.nilo id t sz) l e o rfl
def Qwt (C d c x y l e o):=Qg (P:=P) (K:=K) C d (.pick c x y) l e o rfl
def QA2 (C d x i l e o):=Qg (P:=P) (K:=K) C d (.ext x i) l e o rfl
def QAR (C d x l e o):=Qg (P:=P) (K:=K) C d (.not x) l e o rfl
def QA7 (C d b x y l e o):=Qg (P:=P) (K:=K) C d (.bin b x y) l e o rfl
def QA8 (C d n x y l e o):=Qg (P:=P) (K:=K) C d (.beq n x y) l e o rfl
def QA3 (C d k x l e o):=Qg (P:=P) (K:=K) C d (.cvi k x) l e o rfl
def QA0 (C d x l e o):=Qg (P:=P) (K:=K) C d (.i2s x) l e o rfl
def Qwv (C d x l e o):=Qg (P:=P) (K:=K) C d (.nilc x) l e o rfl
def QA1 (C d n x l e o):=Qg (P:=P) (K:=K) C d (.fld n x) l e o rfl
def QAW (C d n g x l e o):=Qg (P:=P) (K:=K) C d (.ldi n g x) l e o rfl
def QAV (C d id n g x l e o):=Qg (P:=P) (K:=K) C d (.ldo id n g x) l e o rfl
def QAO (C d id n x y l e o):=Qg (P:=P) (K:=K) C d (.sto id n x y) l e o rfl
def QAZ (C d sz x i l e o):=Qg (P:=P) (K:=K) C d (.ixi sz x i) l e o rfl
def QAY (C d id sz x i l e o):=Qg (P:=P) (K:=K) C d (.ixo id sz x i) l e o rfl
def QAX (C d x i l e o):=Qg (P:=P) (K:=K) C d (.ixs x i) l e o rfl
def QAQ (C d sz x i j l e o):=Qg (P:=P) (K:=K) C d (.sli sz x i j) l e o rfl
def QAP (C d x i j l e o):=Qg (P:=P) (K:=K) C d (.sls x i j) l e o rfl
def Qwy (C d x l e o):=Qg (P:=P) (K:=K) C d (.boxi x) l e o rfl
def Qwx (C d id x l e o):=Qg (P:=P) (K:=K) C d (.boxo id x) l e o rfl
def QBa (C d id zs l e o):=Qg (P:=P) (K:=K) C d (.alo id zs) l e o rfl
def QA6 (C d zs ps l e o):=Qg (P:=P) (K:=K) C d (.bld zs ps) l e o rfl
def QA5 (C d sz ps l e o):=Qg (P:=P) (K:=K) C d (.bsl sz ps) l e o rfl
def QA4 (C d id t sz ps l e o):=Qg (P:=P) (K:=K) C d (.bso id t sz ps) l e o rfl
def QAU (C d x l e o):=Qg (P:=P) (K:=K) C d (.len x) l e o rfl
def Qww (C d id x l e o):=Qg (P:=P) (K:=K) C d (.leno id x) l e o rfl
def QAT (C d x l e o):=Qg (P:=P) (K:=K) C d (.lst x) l e o rfl
def QA9 (C d id t sz n x y l e o):=Qg (P:=P) (K:=K) C d (.app id t sz n x y) l e o rfl
theorem QiC (C d g args ids l e o) :
  Qq P K C (⟨d,none,.call g args ids⟩::l) e o=Qdm P K C d g (!ids.isEmpty) l e o (Qca (Qc o) ids (args.map (·.av (look e)))):=by
 simp only[Qq,AOp.isH,Qia,Qdm,upL];congr;funext xs;congr;funext r;cases ids<;>simp
theorem QEa (C d op l e o):Qq P K C (⟨d,none,.yy op⟩::l) e o=opK P K C d l e o (evY (look e) (Qc o) op):=Qg C d _ l e o rfl
def QqT (P:Program) (K:World->Prop) (C:Env->Qm->Prop) (d:Option Nat) (own:Bool) (l:List Zf) (e:Env) (o:Qm):Option (List IV)->Prop
 | some (.clo g fs cs::ys)=>callee P g=true/\Qdm P K C d g own l e o (some (fs++ys++cs))
 | _=>False
def Qum (P:Program) (K:World->Prop) (C:Env->Qm->Prop) (d:Option Nat) (own:Bool) (l:List Zf) (e:Env) (o:Qm) (xs xsc:Option (List IV)):AV->Prop
 | .iv (.fn g)=>callee P g=true/\Qdm P K C d g own l e o xs
 | _=>QqT P K C d own l e o xsc
@[simp] theorem QDW (C d own l e o xs xsc g):Qum P K C d own l e o xs xsc (.iv (.fn g))=(callee P g=true/\Qdm P K C d g own l e o xs):=rfl
@[simp] theorem QAC (C d own l e o xs xsc g fs cs):Qum P K C d own l e o xs xsc (.iv (.clo g fs cs))=QqT P K C d own l e o xsc:=rfl
@[simp] theorem QCE (C d own l e o xs xsc g fs cs):Qum P K C d own l e o xs xsc (.clo g fs cs)=QqT P K C d own l e o xsc:=rfl
@[simp] theorem QAD (C d own l e o g fs cs ys):QqT P K C d own l e o (some (.clo g fs cs::ys))=(callee P g=true/\Qdm P K C d g own l e o (some (fs++ys++cs))):=rfl
theorem QgE (C d x args ids l e o) :
  Qq P K C (⟨d,none,.yz x args ids⟩::l) e o=Qum P K C d (!ids.isEmpty) l e o (Qca (Qc o) ids (args.map (·.av (look e)))) (Qca (Qc o) ids (x.av (look e)::args.map (·.av (look e)))) (x.av (look e)):=by
 have aux:∀ r,(ids=[]\/Q0 r=true)↔((!ids.isEmpty)=false\/Q0 r=true):=fun r=>by cases ids<;>simp
 apply propext;simp only[Qq,AOp.isH,Qia];generalize x.av (look e)=xv;have clo:∀ ys,ys=Qca (Qc o) ids (xv::args.map (·.av (look e)))->((∃ g fs cs xs r,callee P g=true/\ys=some (.clo g fs cs::xs)/\Good P K g (fs++xs++cs) r/\(ids=[]\/Q0 r=true)/\Qq P K C l (bnd d (.iv r) e) (upL none o))↔QqT P K C d (!ids.isEmpty) l e o ys):=by
  intro ys _;constructor
  ·rintro ⟨g,fs,cs,xs,r,h1,rfl,h3,h4,h5⟩;exact ⟨h1,_,r,rfl,h3,(aux r).1 h4,h5⟩
  intro h;cases ys with
  | none=>exact h.elim
  | some us =>
    cases us with
    | nil=>exact h.elim
    | cons z xs =>
      cases z with
      | clo g fs cs =>
        obtain ⟨h1,zs,r,h2,h3,h4,h5⟩:=h;injection h2 with h2;subst h2;exact ⟨g,fs,cs,xs,r,h1,rfl,h3,(aux r).2 h4,h5⟩
      | _=>exact h.elim
 have fn:∀ g,xv=.iv (.fn g)->((∃ xs r,callee P g=true/\Qca (Qc o) ids (args.map (·.av (look e)))=some xs/\Good P K g xs r/\(ids=[]\/Q0 r=true)/\Qq P K C l (bnd d (.iv r) e) (upL none o))↔(callee P g=true/\Qdm P K C d g (!ids.isEmpty) l e o (Qca (Qc o) ids (args.map (·.av (look e)))))):=by
  intro g _;constructor
  ·rintro ⟨xs,r,h1,h2,h3,h4,h5⟩;exact ⟨h1,xs,r,h2,h3,(aux r).1 h4,h5⟩
  rintro ⟨h1,xs,r,h2,h3,h4,h5⟩;exact ⟨xs,r,h1,h2,h3,(aux r).2 h4,h5⟩
 cases xv with
 | iv x =>
   cases x with
   | fn g=>exact fn g rfl
   | _=>exact clo _ rfl
 | _=>exact clo _ rfl
def Qun (P:Program) (K:World->Prop) (C:Env->Qm->Prop) (d:Option Nat) (id:Nat) (l:List Zf) (e:Env) (o:Qm) (x:AV) (ob:Option AO) (xs:Option (List IV)):Prop :=
 ∃ ys s s' y,ob=some (.ext s)/\xs=some ys/\QDn P K x id s ys y s'/\Q0 y=true/\Qq P K C l (bnd d (.iv y) e) (Yu id (.ext s') o)
def QzP (P:Program) (K:World->Prop) (C:Env->Qm->Prop) (d:Option Nat) (g:FuncId) (id:Nat) (l:List Zf) (e:Env) (o:Qm) (x:Option AV) (ob:Option AO) (xs all:Option (List IV)):Prop :=
 (∃ ys s s' y,x=some (.cb id)/\ob=some (.ext s)/\xs=some ys/\Qh6 P K g ys [] s y s'/\Q0 y=true/\Qq P K C l (bnd d (.iv y) e) (Yu id (.ext s') o)) \/
 ∃ ys s s' y,ob=some (.ext s)/\all=some ys/\qw P K g ys s y s'/\Q0 y=true/\Qq P K C l (bnd d (.iv y) e) (Yu id (.ext s') o)
theorem QgF (C d x args id l e o) :
  Qq P K C (⟨d,none,.yu x args id⟩::l) e o=Qun P K C d id l e o (x.av (look e)) (Qc o id) (ivs (args.map (·.av (look e)))):=rfl
theorem QgA (C d g args id l e o) :
  Qq P K C (⟨d,none,.yr g args id⟩::l) e o=QzP P K C d g id l e o ((args.getLast?).map (·.av (look e))) (Qc o id) (ivs (args.dropLast.map (·.av (look e)))) (ivs (args.map (·.av (look e)))):=rfl
theorem QR {C d id l e o ys s s' y} (hg:Yk P K s ys y s') (hy:Q0 y=true) (h:Qq P K C l (bnd d (.iv y) e) (Yu id (.ext s') o)) :
  Qun P K C d id l e o (.cb id) (some (.ext s)) (some ys):=⟨ys,s,s',y,rfl,rfl,.inl ⟨rfl,hg⟩,hy,h⟩
theorem QcQ {C d id l e o ys s s' y} (hg:Yk P K s ys y s') (hy:Q0 y=true) (h:Qq P K C l (bnd d (.iv y) e) (Yu id (.ext s') o)) :
  Qun P K C d id l e o (.iv (.lit s.v)) (some (.ext s)) (some ys):=⟨ys,s,s',y,rfl,rfl,.inr (.inl ⟨rfl,hg⟩),hy,h⟩
theorem QhW {C d id l e o ys s s' y g fs cs} (hc:callee P g=true) (hg:qw P K g (fs++ys++cs) s y s') (hy:Q0 y=true) (h:Qq P K C l (bnd d (.iv y) e) (Yu id (.ext s') o)) :
  Qun P K C d id l e o (.iv (.clo g fs cs)) (some (.ext s)) (some ys):=⟨ys,s,s',y,rfl,rfl,.inr (.inr ⟨g,fs,cs,rfl,hc,hg⟩),hy,h⟩
theorem Zg {C d g id l e o ys s s' y all} (hg:Qh6 P K g ys [] s y s') (hy:Q0 y=true) (h:Qq P K C l (bnd d (.iv y) e) (Yu id (.ext s') o)) :
  QzP P K C d g id l e o (some (.cb id)) (some (.ext s)) (some ys) all:=.inl ⟨ys,s,s',y,rfl,rfl,rfl,hg,hy,h⟩
theorem QjR {C d g id l e o ys s s' y x xs} (hg:qw P K g ys s y s') (hy:Q0 y=true) (h:Qq P K C l (bnd d (.iv y) e) (Yu id (.ext s') o)) :
  QzP P K C d g id l e o x (some (.ext s)) xs (some ys):=.inr ⟨ys,s,s',y,rfl,rfl,hg,hy,h⟩
def QCC (P:Program) (K:World->Prop) (C:Env->Qm->Prop) (d:Option Nat) (g:FuncId) (id:Nat) (l:List Zf) (e:Env) (o:Qm) (xs:Option (List IV)) (x:AV) (ob:Option AO):Prop :=
 QDt P K g id (fun v up=>Qq P K C l (bnd d v e) (upL up o)) xs x ob
theorem QgB (C:Env->Qm->Prop) (d:Option Nat) (g:FuncId) (x:Opd) (args:List Opd) (id:Nat) (l:List Zf) (e:Env) (o:Qm) :
  Qq P K C (⟨d,none,.yw g x args id⟩::l) e o=QCC P K C d g id l e o (ivs (args.map (·.av (look e)))) (x.av (look e)) (Qc o id):=rfl
theorem QgC (C d g args ids id l e o) :
  Qq P K C (⟨d,none,.y3 g args ids id⟩::l) e o=QCD P K C d g id ids l e o (ivs (args.map (·.av (look e)))):=rfl
theorem Z9 {C d g id l e o ys q t sz rows mv} (hg:Qh7 P K g ys q t sz rows mv) (hid:Qc o id=none)
  (h:Qq P K C l (bnd d (ren id q) e) (Yu id (.arr t sz (rows.map (List.map AV.iv)) mv) o)):QCD P K C d g id [] l e o (some ys):=⟨ys,q,t,sz,rows,mv,rfl,rfl,hg,hid,h⟩
theorem Qgz (C d t b op l e o) :
  Qq P K C (⟨d,some (t,b),op⟩::l) e o=gK P K C d t b op l e o (look e t):=by
 simp only[Qq];generalize look e t=v;cases v with
 | iv x =>
   cases x with
   | xd cs=>cases cs<;>rfl
   | bool c=>rfl
   | _=>rfl
 | _=>rfl
theorem YQ {C d g own l e o ys r} (hg:Good P K g ys r) (hs:own=false\/Q0 r=true)
  (h:Qq P K C l (bnd d (.iv r) e) o):Qdm P K C d g own l e o (some ys):=⟨ys,r,rfl,hg,hs,h⟩
theorem cK {C d g l e o ys r} (hg:Good P K g ys r)
  (h:Qq P K C l (bnd d (.iv r) e) o):Qdm P K C d g false l e o (some ys):=⟨ys,r,rfl,hg,.inl rfl,h⟩
theorem QAk (k e o):WpF P K F (.code .skip::k) e o↔WpF P K F k e o :=
 ⟨fun h=>by cases h;assumption,.skip _ k e o⟩
theorem QDe (x y k e o):WpF P K F (.code (.seq x y)::k) e o↔WpF P K F (.code x::.code y::k) e o :=
 ⟨fun h=>by cases h;assumption,.seq _ x y k e o⟩
theorem QDg (l draw k e o):WpF P K F (.code (.ops l draw)::k) e o↔Qq P K (WpF P K F k) l e o :=
 ⟨fun h=>by cases h with | region _ _ _ _ _ _ C h hC=>exact Xw hC l e o h,fun h=>.region _ l draw k e o _ h fun _ _ h=>h⟩
theorem QAn (c x y k e o):WpF P K F (.code (.cond c x y)::k) e o↔QjP (WpF P K F (.code x::k) e o) (WpF P K F (.code y::k) e o) (c.av (look e)):=by
 constructor
 ·intro h;cases h with
  | cond _ _ _ _ _ _ _ b hc ht hf=>rw[hc];exact ⟨ht,hf⟩
 intro h;unfold QjP at h;split at h
 ·rename_i b hb;exact .cond _ c x y k e o b hb h.1 h.2
 exact h.elim
theorem Qu9 (id c k e o):WpF P K F (.code (.block id c)::k) e o↔WpF P K F (.code c::.inBlock id::k) e o :=
 ⟨fun h=>by cases h;assumption,.block _ id c k e o⟩
theorem QnT (id k e o):WpF P K F (.inBlock id::k) e o↔WpF P K F k e o :=
 ⟨fun h=>by cases h;assumption,.inBlock _ id k e o⟩
theorem Qu7 (c k e o):WpF P K F (.code (.scope c)::k) e o↔WpF P K F (.code c::.inScope::k) e o :=
 ⟨fun h=>by cases h;assumption,.scope _ c k e o⟩
theorem QnS (k e o):WpF P K F (.inScope::k) e o↔WpF P K F k e o :=
 ⟨fun h=>by cases h;assumption,.inScope _ k e o⟩
theorem Qu8 (l k e o):WpF P K F (.code (.label l)::k) e o↔WpF P K F k e o :=
 ⟨fun h=>by cases h;assumption,.label _ l k e o⟩
theorem QDf (k e o):WpF P K F (.code .ret::k) e o↔F .ret e o :=
 ⟨fun h=>by cases h;assumption,.ret _ k e o⟩
theorem QDi (e o):WpF P K F [] e o↔F .fall e o :=
 ⟨fun h=>by cases h;assumption,.done _ e o⟩
def QEi (P:Program) (K:World->Prop) (F:Way->Env->Qm->Prop) (d dx id:Nat) (k:List AI) (e:Env) (o:Qm):AV->Option AO->Prop
 | .yk i,some (.yq kvs seen)=>i=id/\((∀ i,i<kvs.length->i∈seen)->WpF P K F k ((dx,.iv (.bool false))::(d,.iv (.xd [.bool false]))::e) o) /\
   (∀ i q,kvs[i]?=some q->i ∉ seen->WpF P K F k ((dx,.iv (.bool true))::(d,.iv (.xd [.bool true,q.1.iv,q.2]))::e) (Yu id (.yq kvs (i::seen)) o))
 | _,_=>False
@[simp] theorem QBl (d dx id k e o i kvs seen):QEi P K F d dx id k e o (.yk i) (some (.yq kvs seen)) =
  (i=id/\((∀ i,i<kvs.length->i∈seen)->WpF P K F k ((dx,.iv (.bool false))::(d,.iv (.xd [.bool false]))::e) o) /\
    (∀ i q,kvs[i]?=some q->i ∉ seen->WpF P K F k ((dx,.iv (.bool true))::(d,.iv (.xd [.bool true,q.1.iv,q.2]))::e) (Yu id (.yq kvs (i::seen)) o))):=rfl
theorem QDh (d dx x id k e o):WpF P K F (.code (.nxt d dx x id)::k) e o↔QEi P K F d dx id k e o (x.av (look e)) (Qc o id):=by
 constructor
 ·intro h;cases h with
  | nxt _ _ _ _ _ _ _ _ kvs seen hx ho hend hmore =>
    rw[hx,ho];exact ⟨rfl,hend,hmore⟩
 ·intro h;generalize hx:x.av (look e)=xv at h;generalize ho:Qc o id=ov at h;unfold QEi at h;split at h
  ·obtain ⟨rfl,h1,h2⟩:=h;exact .nxt _ d dx x _ k e o _ _ hx ho h1 h2
  ·exact h.elim
def ghK (P:Program) (K:World->Prop) (F:Way->Env->Qm->Prop) (id bid off:Nat) (t:TypeId) (sz:Nat) (c:AC) (k:List AI) (e:Env) (o:Qm):Option AO->Option AO->Prop
 | none,some (.box cs)=>cs[off]?=some (.ym sz)/\WpF P K F (.code c::k) e (Yu bid (.box (cs.set off (.yl id 0))) (Yu id (.arr t sz [] 0) o))
 | _,_=>False
@[simp] theorem QEx (id bid off t sz c k e o cs):ghK P K F id bid off t sz c k e o none (some (.box cs)) =
  (cs[off]?=some (.ym sz)/\WpF P K F (.code c::k) e (Yu bid (.box (cs.set off (.yl id 0))) (Yu id (.arr t sz [] 0) o))):=rfl
theorem QFL (id bid off t sz c k e o):WpF P K F (.code (.gh id bid off t sz c)::k) e o↔ghK P K F id bid off t sz c k e o (Qc o id) (Qc o bid):=by
 constructor
 ·intro h;cases h with
  | gh _ _ _ _ _ _ _ _ _ _ cs hid hb hc h =>
    rw[hid,hb];exact ⟨hc,h⟩
 ·intro h;generalize hx:Qc o id=xv at h;generalize ho:Qc o bid=ov at h;unfold ghK at h;split at h
  ·exact .gh _ id bid off t sz c k e o _ hx ho h.1 h.2
  ·exact h.elim
def Qtq (P:Program) (K:World->Prop) (F:Way->Env->Qm->Prop) (id:Nat) (e:Env) (o:Qm):Option (List AI)->Prop
 | some k=>WpF P K F k e o
 | none=>F (.exit id) e o
@[simp] theorem QAv (id k e o):Qtq P K F id e o (some k)=WpF P K F k e o:=rfl
@[simp] theorem QAw (id e o):Qtq P K F id e o none=F (.exit id) e o:=rfl
theorem QAm (id k e o):WpF P K F (.code (.exit id)::k) e o↔Qtq P K F id e o (Ug id k):=by
 constructor
 ·intro h;cases h with
  | exit _ _ _ k' _ _ hk h=>rw[hk];exact h
  | exitOut _ _ _ _ _ hk h=>rw[hk];exact h
 ·intro h;unfold Qtq at h;split at h
  ·rename_i k' hk;exact .exit _ id k k' e o hk h
  ·rename_i hk;exact .exitOut _ id k e o hk h
def QEz (P:Program) (K:World->Prop) (F:Way->Env->Qm->Prop) (t id:Nat) (ks ids:List Nat) (c:AC) (k:List AI) (e:Env) (o:Qm):AV->Option AO->Prop
 | .loc i 0,some (.box cs)=>i=id/\ids.contains id=false/\∃ xs,ivs cs=some xs/\WpF P K F (.code c::k) ((t,.iv (.ptr xs))::Q5 ks ids e) (ZR ids o ids)
 | _,_=>False
@[simp] theorem QDG (t id ks ids c k e o i cs):QEz P K F t id ks ids c k e o (.loc i 0) (some (.box cs)) =
  (i=id/\ids.contains id=false/\∃ xs,ivs cs=some xs/\WpF P K F (.code c::k) ((t,.iv (.ptr xs))::Q5 ks ids e) (ZR ids o ids)):=rfl
theorem Qh4 (t id ks ids c k e o) (h:QEz P K F t id ks ids c k e o (look e t) (Qc o id)):WpF P K F (.code (.frz t id ks ids c)::k) e o:=by
 generalize hx:look e t=xv at h;generalize ho:Qc o id=ov at h;unfold QEz at h;split at h
 ·obtain ⟨rfl,h1,xs,h2,h3⟩:=h;exact .frz _ t _ ks ids c k e o _ xs hx ho h2 h1 h3
 ·exact h.elim
theorem QFM (ks ids c k e o):WpF P K F (.code (.fz ks ids c)::k) e o↔WpF P K F (.code c::k) (Qvo (Qsw ids o) ks ids e) (qC (Qsw ids o) ids o ids) :=
 ⟨fun h=>by cases h;assumption,fun h=>.fz _ ks ids c k e o h⟩
theorem Qws (lod ids x):Qr7 lod ids (.iv x)=.iv x:=by simp[Qr7,imm]
theorem Qio (lod:Nat->Option AO) (ids:List Nat):∀ xs:List IV,Qoa lod ids (xs.map AV.iv)=xs.map AV.iv
 | []=>rfl
 | x::r=>by simp[Qoa,Qws,Qio lod ids r]
theorem QeK (lod:Nat->Option AO) (ids:List Nat):∀ xs:List (List IV),(xs.map (List.map AV.iv)).map (Qoa lod ids)=xs.map (List.map AV.iv)
 | []=>rfl
 | x::r=>by
   have:=QeK lod ids r;simp only[QKZ,Qio,this]
@[simp] theorem QDq (lod:Nat->Option AO) (ids:List Nat) (e:TypeId) (sz:Nat) (xs:List (List IV)) (mv:Nat):Qvn lod ids (.arr e sz (xs.map (List.map AV.iv)) mv)=.arr e sz (xs.map (List.map AV.iv)) mv:=by simp only[Qvn,QeK]
def QGb (P:Program) (K:World->Prop) (C:Env->Qm->Prop) (d:Option Nat) (id:Nat) (l:List Zf) (e:Env) (o:Qm) (x y:AV) (ob:Option AO):Prop:=QDT id (fun v up=>Qq P K C l (bnd d v e) (upL up o)) x y ob
theorem Qm9 (C d id x y l e o) :
  Qq P K C (⟨d,none,.cpy id x y⟩::l) e o=QGb P K C d id l e o (x.av (look e)) (y.av (look e)) (Qc o id):=rfl
theorem QzJ {C d id l e o n mv t es rows ys} (hr:Qd5 es=some rows) (hn:n=es.length) (hl:ys.length=n)
  (h:Qq P K C l (bnd d (.iv (.int .i64 n)) e) (Yu id (.arr t 1 (ys.map (List.map AV.iv)) ys.length) o)):QGb P K C d id l e o (.yl id n) (.iv (.sl 1 ys)) (some (.arr t 1 es mv)) :=
 ⟨rfl,hn,⟨rows,hr⟩,rfl,rfl,hl,h⟩
theorem QgD (C d g args ids l e o) :
  Qq P K C (⟨d,none,.yx g args ids⟩::l) e o=HK P K g ids d (Qq P K C l) e o (args.map (·.av (look e))):=rfl
theorem QgG (C d x args ids l e o) :
  Qq P K C (⟨d,none,.y4 x args ids⟩::l) e o=Qet P K ids d (Qq P K C l) e o (args.map (·.av (look e))) (x.av (look e)):=rfl
theorem QcR {ids d C e o avs x g fs cs} (hx:QqM x=some (g,fs,cs)):Qet P K ids d C e o avs x=(callee P g=true/\HK P K g ids d C e o (fs++avs++cs)):=by
 apply propext;constructor
 ·rintro ⟨g',fs',cs',h1,h2,h3⟩;grind
 rintro ⟨h2,h3⟩;exact ⟨g,fs,cs,hx,h2,h3⟩
@[simp] theorem QAE (ids d C e o avs g fs cs):Qet P K ids d C e o avs (.clo g fs cs)=(callee P g=true/\HK P K g ids d C e o (fs++avs++cs)):=QcR rfl
@[simp] theorem QzQ (ids d C e o avs g fs cs):Qet P K ids d C e o avs (.iv (.clo g fs cs))=(callee P g=true/\HK P K g ids d C e o (fs.map AV.iv++avs++cs.map AV.iv)):=QcR rfl
@[simp] theorem QCF (ids d C e o avs g):Qet P K ids d C e o avs (.iv (.fn g))=(callee P g=true/\HK P K g ids d C e o avs):=by
 rw[QcR rfl];simp
theorem QH {C g ids d e o avs args0 o0 o1 st y} (hg:YD P K g args0 o0 st y o1) (h1:avs=args0.map (rn (nth ids))) (h2:HOk ids args0 o o0 o1)
  (h:C (bnd d (rn (nth ids) y) (Qsd (Y6 ids st o) e)) (QwY ids (Y6 ids st o) o o1)):HK P K g ids d C e o avs:=⟨args0,o0,st,y,o1,h1,h2,hg,h⟩
theorem QgO (m:Nat->Nat):∀ xs:List IV,rnL m (xs.map AV.iv)=xs.map AV.iv
 | []=>rfl
 | x::r=>by simp[rnL,rn,QgO m r]
theorem QiJ (m:Nat->Nat):∀ xs:List (List IV),(xs.map (List.map AV.iv)).map (rnL m)=xs.map (List.map AV.iv)
 | []=>rfl
 | x::r=>by simp[QgO,QiJ m r]
theorem QjQ (dom:List Nat):∀ xs:List IV,clAL dom (xs.map AV.iv)=true
 | []=>rfl
 | x::r=>by simp[clAL,clA,QjQ dom r]
theorem QfJ (dom:List Nat):∀ xs:List (List IV),(xs.map (List.map AV.iv)).all (clAL dom)=true
 | []=>rfl
 | x::r=>by simp[QjQ,QfJ dom r]
theorem QlB (m:List Nat):∀ xs:List IV,scrL m (xs.map AV.iv)=xs.map AV.iv
 | []=>rfl
 | x::r=>by simp[scrL,scr,QlB m r]
theorem Qgx (m:List Nat):∀ xs:List (List IV),(xs.map (List.map AV.iv)).map (scrL m)=xs.map (List.map AV.iv)
 | []=>rfl
 | x::r=>by simp[QlB,Qgx m r]
@[simp] theorem Qoo (m:Nat->Nat) (e:TypeId) (sz:Nat) (xs:List (List IV)) (mv:Nat):rnO m (.arr e sz (xs.map (List.map AV.iv)) mv)=.arr e sz (xs.map (List.map AV.iv)) mv:=by simp only[rnO,QiJ]
@[simp] theorem QqN (dom:List Nat) (e:TypeId) (sz:Nat) (xs:List (List IV)) (mv:Nat):clO dom (.arr e sz (xs.map (List.map AV.iv)) mv)=true:=by simp only[clO,QfJ]
@[simp] theorem QDv (m:Nat->Nat) (e:TypeId) (sz:Nat) (xs:List (List IV)) (mv:Nat):rnO m (XE e sz xs mv)=XE e sz xs mv:=Qoo m e sz xs mv
@[simp] theorem QDV (dom:List Nat) (e:TypeId) (sz:Nat) (xs:List (List IV)) (mv:Nat):clO dom (XE e sz xs mv)=true:=QqN dom e sz xs mv
@[simp] theorem QDs (m:List Nat) (e:TypeId) (sz:Nat) (xs:List (List IV)) (mv:Nat):QdL m (.arr e sz (xs.map (List.map AV.iv)) mv)=.arr e sz (xs.map (List.map AV.iv)) mv:=by simp only[QdL,Qgx]
@[simp] theorem QDB (x r):nth (x::r) 0=x:=rfl
@[simp] theorem QDC (x r i):nth (x::r) (i+1)=nth r i:=by simp[nth]
@[simp] theorem QEk (x y r):nth (x::y::r) 1=y:=rfl
@[simp] theorem QEj (x y z r):nth (x::y::z::r) 2=z:=rfl
@[simp] theorem QBm (x y z u r):nth (x::y::z::u::r) 3=u:=rfl
theorem QAl (c ks ids k e o):WpF P K F (.code (.loop c ks ids)::k) e o↔WpF P K F (.inLoop c ks ids::k) e o :=
 ⟨fun h=>by cases h;exact .inLoop _ _ _ _ _ _ _ (by assumption),fun h=>by cases h;exact .loop _ _ _ _ _ _ _ (by assumption)⟩
theorem Qdq (c ks ids k e o):WpF P K F (.inLoop c ks ids::k) e o↔WpF P K F (.code c::.inLoop c ks ids::k) (Q5 ks ids e) (ZR ids o ids) :=
 ⟨fun h=>by cases h;assumption,fun h=>.inLoop _ _ _ _ _ _ _ h⟩
def Xa (P:Program) (K:World->Prop) (F:Way->Env->Qm->Prop) (c:AC) (ks ids:List Nat) (k:List AI) (e:Env) (o:Qm):Prop :=
 WpF P K F (.code c::.inLoop c ks ids::k) e o
theorem Qvb (res r e o):QnU res r e o=(QwQ res e o=some r):=rfl
theorem QrT (c ks ids k e o):WpF P K F (.inLoop c ks ids::k) e o↔Xa P K F c ks ids k (Q5 ks ids e) (ZR ids o ids):=Qdq c ks ids k e o
theorem Qw1 {c:AC} {ks ids:List Nat} {k:List AI} (st:Nat->Env) (so:Nat->Qm) (n:Nat) (hn:Xa P K F c ks ids k (st n) (so n))
  (hs:∀ i,i<n->Xa P K F c ks ids k (st (i+1)) (so (i+1))->Xa P K F c ks ids k (st i) (so i)):Xa P K F c ks ids k (st 0) (so 0):=by
 have:∀ m,m<=n->Xa P K F c ks ids k (st (n-m)) (so (n-m)):=by
  intro m;induction m with
  | _=>grind
 have:=this n (QKJ _);simpa using this
end
attribute [simp] QAS Qwu Qwt QA2 QAR QA7 QA8 QA3   QA0 Qwv QA1 QAW QAV QAO QAZ QAY QAX QAQ QAP Qwy Qwx QBa QA6 QA5 QA4 QAU Qww QAT QA9 QEa
@[simp] theorem QD3 (F e o):FnF F .fall e o=F e o:=rfl
@[simp] theorem QFO (F e o):FnF F .ret e o=F e o:=rfl
@[simp] theorem QD4 (F id e o):FnF F (.exit id) e o=False:=rfl
attribute [simp] Ext.hv
attribute [simp] Qvb Qm8 QiC QgC QgE QgB QgF QgA QgD QgG Qm9 Qgz QDh QFL QFM QAk QDe Qu7 QnS Qu8 QDg QAn Qu9 QnT QDf QDi QAm QAl QrT
attribute [simp] look Qc bnd Qa9 Yu upL ev Opd.av QhF QnF Qqe Qql QtA Qqm Qqk QCr QCs Qqj QhG QnE QfB QnC Qnz Qqi QnD Qqh QnB QnA QhH Qeo Qqg Qen Qqf Wt evY QDJ Ja keyOf MK.iv MK.kind
attribute [simp] Qsw Qr7 Qoa Qvo qC Qvn Y6 Qsd QiO QwY HOk UY rn rnL rnO clA clAL clO XR Qaf
attribute [simp] AV.iv? ivs QaT AV.cells QjK Xp Qd5 byteOf bytesOf Y1 Qw0 Ug Q5 ZR scr scrL QdL QDw Qnd QwQ imm imms immss Jg Qca Q0 scalars ren renL Qsl QKv
section
variable {P:Program} {K:World->Prop} {F:Way->Env->Qm->Prop}
theorem Qi {c:AC} {ks ids:List Nat} {k:List AI} (st:Nat->Env) (so:Nat->Qm) (n:Nat) (Q:Nat->Prop) (h0:Q 0)
  (hn:Q n->Xa P K F c ks ids k (st n) (so n))
  (hs:∀ i,i<n->Q i->(Q (i+1)->Xa P K F c ks ids k (st (i+1)) (so (i+1)))->Xa P K F c ks ids k (st i) (so i)):Xa P K F c ks ids k (st 0) (so 0):=by
 have:∀ m,m<=n->Q (n-m)->Xa P K F c ks ids k (st (n-m)) (so (n-m)):=by
  intro m;induction m with
  | _=>grind
 have:=this n (QKJ _);simp at this;exact this h0
theorem Xd {c:AC} {ks ids:List Nat} {k:List AI} (n:Nat) (I:Nat->Env->Qm->Prop)
  (hn:∀ e o,I n e o->Xa P K F c ks ids k e o)
  (hs:∀ i e o,i<n->I i e o->(∀ e' o',I (i+1) e' o'->Xa P K F c ks ids k e' o')->Xa P K F c ks ids k e o)
  (e:Env) (o:Qm) (h0:I 0 e o):Xa P K F c ks ids k e o:=by
 have:∀ m,m<=n->∀ e o,I (n-m) e o->Xa P K F c ks ids k e o:=by
  intro m;induction m with
  | _=>grind
 exact this n (QKJ _) e o (by simpa using h0)
end
section
variable {P:Program} {K:World->Prop} {F:Way->Env->Qm->Prop}
theorem Qha {c:AC} {ks ids:List Nat} {k:List AI} (st:List Nat->Env) (so:List Nat->Qm) (n:Nat) (I:List Nat->Prop)
  (h:∀ seen,I seen->(∀ i,i<n->i ∉ seen->I (i::seen)->Xa P K F c ks ids k (st (i::seen)) (so (i::seen)))->Xa P K F c ks ids k (st seen) (so seen)) :
  ∀ seen,I seen->Xa P K F c ks ids k (st seen) (so seen):=by
 have:∀ m seen,((List.range n).filter (fun i=>!seen.contains i)).length<=m->I seen->Xa P K F c ks ids k (st seen) (so seen):=by
  intro m;induction m with
  | zero =>
    intro seen hm hI;refine h seen hI fun i hi hns _=>?_;have:i∈(List.range n).filter (fun i=>!seen.contains i):=by simp[hi,hns]
    grind
  | succ m ih =>
    intro seen hm hI;refine h seen hI fun i hi hns hI'=>ih (i::seen) ?_ hI';have hsub:((List.range n).filter (fun j=>!(i::seen).contains j))=((List.range n).filter (fun j=>!seen.contains j)).filter (fun j=>j != i):=by
     rw[List.filter_filter]
     grind
    rw[hsub];have hmem:i∈(List.range n).filter (fun i=>!seen.contains i):=by simp[hi,hns]
    have:=(List.length_filter_lt_length_iff_exists (p:=fun j=>j != i)).2 ⟨i,hmem,by simp⟩;omega
 exact fun seen hI=>this _ seen (QKJ _) hI
end
section
variable {P:Program} {K:World->Prop} {F:Way->Env->Qm->Prop}
theorem Qa {c c'} (h:c=c') (ks ids k e o):Xa P K F c ks ids k e o↔WpF P K F (.code c'::.inLoop c ks ids::k) e o:=by subst h;exact Iff.rfl
end
@[simp] theorem QEq (n):IntKind.inR .i64 n ↔ -9223372036854775808<=n/\n<=9223372036854775807:=Iff.rfl
@[simp] theorem QEp (n):IntKind.inR .u64 n↔0<=n/\n<=18446744073709551615:=Iff.rfl
@[simp] theorem QF6 (n):IntKind.inR .u8 n↔0<=n/\n<=255:=Iff.rfl
@[simp] theorem QEr (n):IntKind.inR .i32 n ↔ -2147483648<=n/\n<=2147483647:=Iff.rfl
theorem Qnn:maxLen=9223372036854775807:=rfl
theorem wrap_i64 {n} (h : -9223372036854775808<=n) (h':n<=9223372036854775807):IntKind.wrap .i64 n=n:=by
 unfold IntKind.wrap;simp[IntKind.bits,IntKind.signed];omega
theorem QeC {n} (h:0<=n) (h':n<=18446744073709551615):IntKind.wrap .u64 n=n:=by
 unfold IntKind.wrap;simp[IntKind.bits,IntKind.signed];omega
theorem QwE (k:IntKind) (hk:k.bits=64) (a i:Nat) (ha:a<2 ^ 64):Qvq k (a:Int) (i:Int)=((a >>> i:Nat):Int):=by
 unfold Qvq;rw[hk];have:((i:Int)).toNat=i:=rfl;rw[this];have e:(2 ^ (min i 64):Int)=((2 ^ (min i 64):Nat):Int):=by push_cast;rfl
 rw[e,Int.fdiv_eq_ediv_of_nonneg _ (Int.natCast_nonneg _),<- Int.natCast_ediv,Nat.shiftRight_eq_div_pow];by_cases h:i<=64
 ·rw[Nat.min_eq_left h]
 ·rw[Nat.min_eq_right (by omega),Nat.div_eq_of_lt ha,Nat.div_eq_of_lt]
  exact QLn ha (QLS (by omega) (by omega))
theorem Qiu (a i:Nat) (hi:i<64) (ha:a*2 ^ i<2 ^ 64):QwG .u64 (a:Int) (i:Int)=((a*2 ^ i:Nat):Int):=by
 unfold QwG;have:((i:Int)).toNat=i:=rfl;rw[this,show (IntKind.u64).bits=64 from rfl,Nat.min_eq_left (by omega)];have e:(a:Int)*(2 ^ i:Int)=((a*2 ^ i:Nat):Int):=by push_cast;rfl
 rw[e];exact QeC (Int.natCast_nonneg _) (by omega)
theorem Yb (a:Nat) (ha:a<2 ^ 64):(BitVec.ofInt 64 (a:Int)).toNat=a:=by
 simp;omega
theorem QrO (a b:Nat) (ha:a<2 ^ 64) (hb:b<2 ^ 64):Qad .and .u64 (a:Int) (b:Int)=((a &&& b:Nat):Int):=by
 show IntKind.wrap .u64 ((BitVec.ofInt 64 (a:Int) &&& BitVec.ofInt 64 (b:Int)).toNat:Int)=_;rw[BitVec.toNat_and,Yb a (by omega),Yb b (by omega)]
 have:a &&& b<2 ^ 64:=Nat.and_lt_two_pow _ hb;exact QeC (Int.natCast_nonneg _) (by omega)
theorem QlM (a b:Nat) (ha:a<2 ^ 64) (hb:b<2 ^ 64):Qad .or .u64 (a:Int) (b:Int)=((a ||| b:Nat):Int):=by
 show IntKind.wrap .u64 ((BitVec.ofInt 64 (a:Int) ||| BitVec.ofInt 64 (b:Int)).toNat:Int)=_;rw[BitVec.toNat_or,Yb a (by omega),Yb b (by omega)]
 have:a ||| b<2 ^ 64:=QMm ha hb;exact QeC (Int.natCast_nonneg _) (by omega)
theorem QAi (a b:Nat) (ha:a<2 ^ 63) (hb:b<2 ^ 63):Qad .and .i64 (a:Int) (b:Int)=((a &&& b:Nat):Int):=by
 show IntKind.wrap .i64 ((BitVec.ofInt 64 (a:Int) &&& BitVec.ofInt 64 (b:Int)).toNat:Int)=_;rw[BitVec.toNat_and,Yb a (by omega),Yb b (by omega)]
 have:a &&& b<2 ^ 63:=Nat.and_lt_two_pow _ hb;exact wrap_i64 (by omega) (by omega)
theorem and_one (a i):(a >>> i) &&& 1=(a.testBit i).toNat:=by
 rw[Nat.testBit,Nat.and_comm];have h:=Nat.one_and_eq_mod_two (a >>> i);rw[h];rcases Nat.mod_two_eq_zero_or_one (a >>> i) with e | e<;>simp[e]
theorem QAf (a i:Nat) (ha:a<2 ^ 63):Qad .and .i64 (Qvq .i64 (a:Int) (i:Int)) 1=((a.testBit i).toNat:Int):=by
 rw[QwE _ rfl a i (by omega)]
 have h:a >>> i<2 ^ 63:=QMi (by rw[Nat.shiftRight_eq_div_pow];exact Nat.div_le_self _ _) ha;have:=QAi (a >>> i) 1 h (by omega);rw[and_one] at this;simpa using this
def emb (L:List (List IV)):List (List AV):=L.map (List.map AV.iv)
@[simp] theorem QAy (L):(emb L).length=L.length:=by simp[emb]
@[simp] theorem QE1 (L ys):emb L++List.map (List.map AV.iv) ys=emb (L++ys):=by simp[emb]
@[simp] theorem QDR (L a):emb L++[[.iv a]]=emb (L++[[a]]):=by simp[emb]
@[simp] theorem QDQ (L a b):emb L++[[.iv a,.iv b]]=emb (L++[[a,b]]):=by simp[emb]
@[simp] theorem QDP (L a b c):emb L++[[.iv a,.iv b,.iv c]]=emb (L++[[a,b,c]]):=by simp[emb]
@[simp] theorem QDO (L a b c d):emb L++[[.iv a,.iv b,.iv c,.iv d]]=emb (L++[[a,b,c,d]]):=by simp[emb]
@[simp] theorem QDS (L):emb L++[]=emb L:=QLY _
@[simp] theorem QDK (L n):(emb L).take n=emb (L.take n):=by simp[emb,QMv]
@[simp] theorem QE0 (L:List (List IV)) (n:Nat):(emb L)[n]?=(L[n]?).map (List.map AV.iv):=by simp[emb]
@[simp] theorem QzE (L n) (h:n<(emb L).length):(emb L)[n]=(L[n]'(by simpa using h)).map AV.iv:=by simp[emb]
@[simp] theorem QDM (L n a):(emb L).set n [.iv a]=emb (L.set n [a]):=by simp[emb,List.map_set]
@[simp] theorem QDL (L n a b):(emb L).set n [.iv a,.iv b]=emb (L.set n [a,b]):=by simp[emb,List.map_set]
@[simp] theorem QBx (l):ivs (l.map AV.iv)=some l:=by
 induction l with
 | nil=>rfl
 | cons a l ih=>simp[ivs,ih,AV.iv?]
@[simp] theorem QDD (L):Qd5 (emb L)=some L:=by
 induction L with
 | nil=>rfl
 | cons a l ih =>
   show (match ivs (a.map AV.iv),Qd5 (emb l) with
   | some y,some ys=>some (y::ys)
   | _,_=>none)=_
   rw[ih,QBx]
theorem QwK (ids:List Nat) (c:List IV):scrL ids (c.map AV.iv)=c.map AV.iv:=by
 induction c with
 | nil=>rfl
 | cons a l ih=>simp[scrL,scr,ih]
@[simp] theorem QEd (ids:List Nat) (L:List (List IV)):List.map (scrL ids) (emb L)=emb L:=by
 simp only[emb,List.map_map];apply QMe;intro c _;exact QwK ids c
@[simp] theorem Qvi {α β} (f:α->β) (l:List α):List.take l.length (l.map f)=l.map f:=by
 rw[QKM];simp
theorem QD:emb []=[]:=rfl
section
variable {P:Program} {K:World->Prop}
end
@[simp] theorem QD9 (lod ids L):List.map (Qoa lod ids) (emb L)=emb L:=QeK lod ids L
@[simp] theorem QBe (m L):List.map (rnL m) (emb L)=emb L:=QiJ m L
@[simp] theorem QGc (dom L):(emb L).all (clAL dom)=true:=QfJ dom L
inductive Sh where
 | bool
 | int (k:IntKind)
 | str
 | sl (bytes:Nat) (es:List Sh)
inductive Qa1:Sh->IV->Prop
 | bool (b:Bool):Qa1 .bool (.bool b)
 | int (k:IntKind) (n:Int) (h1:k.min<=n) (h2:n<=k.max):Qa1 (.int k) (.int k n)
 | str (s:List UInt8) (h:s.length<=reachBytes):Qa1 .str (.str s)
 | sl (bytes:Nat) (es:List Sh) (rows:List (List IV)) (hw:rows.length*bytes<=reachBytes) (hm:rows.length<=maxLen) (hl:∀ row∈rows,row.length=es.length)
   (h:∀ row∈rows,∀ (j:Nat) (s:Sh) (x:IV),es[j]?=some s->row[j]?=some x->Qa1 s x):Qa1 (.sl bytes es) (.sl es.length rows)
def Qof (P:Program) (g:TypeId->Option (List Sh)):List Field->Nat->Option (List Sh)
 | [],_=>some []
 | f::r,off=>match g f.type,Qof P g r (off+P.cellsOf f.type) with
   | some a,some b=>if f.offset=off/\a.length=P.cellsOf f.type then some (a++b) else none
   | _,_=>none
def shp (P:Program):Nat->TypeId->Option (List Sh)
 | 0,_=>none
 | n+1,t=>match P.underlying t with
   | some .bool=>some [.bool]
   | some (.int k)=>some [.int k]
   | some .string=>some [.str]
   | some (.slice e)=>match shp P n e with
     | some (s::r)=>if (s::r).length=P.cellsOf e then some [.sl (P.bytesOf e) (s::r)] else none
     | _=>none
   | some (.struct fs)=>match Qof P (shp P n) fs.toList 0 with
     | some ss=>if ss.length=P.cellsOf t then some ss else none
     | none=>none
   | _=>none
inductive R3 (ok:Nat->Prop) (w:World):List Sh->List IV->List Value->Prop
 | nil:R3 ok w [] [] []
 | cons (s:Sh) (x:IV) (v:Value) (ss:List Sh) (xs:List IV) (vs:List Value) (h1:Qa1 s x) (h2:QF ok w x v) (h3:v.oneCell'=true) (h:R3 ok w ss xs vs):R3 ok w (s::ss) (x::xs) (v::vs)
theorem R3.app {ok:Nat->Prop} {w:World} {ss ss':List Sh} {xs xs':List IV} {vs vs':List Value} (h:R3 ok w ss xs vs) (h':R3 ok w ss' xs' vs'):R3 ok w (ss++ss') (xs++xs') (vs++vs'):=by
 induction h with
 | nil=>exact h'
 | cons s x v ss xs vs h1 h2 h3 _ ih=>exact .cons s x v _ _ _ h1 h2 h3 ih
theorem R3.len {ok:Nat->Prop} {w:World} {ss:List Sh} {xs:List IV} {vs:List Value} (h:R3 ok w ss xs vs):xs.length=ss.length/\vs.length=ss.length:=by
 induction h with
 | nil=>exact ⟨rfl,rfl⟩
 | cons s x v ss xs vs _ _ _ _ ih=>simp[ih]
theorem R3.get {ok:Nat->Prop} {w:World} {ss:List Sh} {xs:List IV} {vs:List Value} (h:R3 ok w ss xs vs):∀ (j:Nat) (s:Sh) (x:IV) (v:Value),ss[j]?=some s->xs[j]?=some x->vs[j]?=some v->Qa1 s x/\QF ok w x v/\v.oneCell'=true:=by
 induction h with
 | _=>grind
theorem QcK {α}:∀ (len) (p:Nat->α->Prop),(∀ i,i<len->∃ x,p i x)->∃ l:List α,l.length=len/\∀ i x,l[i]?=some x->p i x
 | 0,_,_=>⟨[],rfl,fun i x h=>by simp at h⟩
 | n+1,p,h=>by
   obtain ⟨l,h1,h2⟩:=QcK n p (fun i hi=>h i (by omega));obtain ⟨x,hx⟩:=h n (by omega);refine ⟨l++[x],by simp[h1],fun i y hy=>?_⟩;grind
theorem QeF {H P t e} (hu:P.underlying t=some (.slice e)) {el sp:List (DataW H)} {N} (h:∀ k∈(DataW.slice el sp).weights P t,k<=N) :
  (el.length+sp.length)*P.bytesOf e<=N/\∀ d∈el,∀ k∈d.weights P e,k<=N:=by
 have all:∀ (l:List (DataW H)) (d:DataW H),d∈l->∀ k∈d.weights P e,k∈DataW.weightsAll P e l:=by
  intro l;induction l with
  | nil=>intro d h;simp at h
  | cons a l ih =>
    intro d hd k hk;simp only[DataW.weightsAll,QK2];grind
 refine ⟨h _ (by simp[DataW.weights,hu]),fun d hd k hk=>h k ?_⟩;simp only[DataW.weights,hu,QKU,QK2];exact .inr (.inl (all el d hd k hk))
section
variable {H:Type} {enc:TypeId × Value->H} {P:Program} {w:World} {base:Nat} {held:Bool}
theorem QhB {ok:Nat->Prop} {n m:Nat} (cs:List Value) (IH:∀ (t:TypeId) (cs:List Value) (d:DataW H) (ps:List MemPlace) (ss:List Sh),DataW.trod enc P w base (fun _=>true) held n t cs=some (d,ps)->shp P m t=some ss ->
   (∀ k∈d.weights P t,k<=reachBytes)->∃ xs,R3 ok w ss xs cs):∀ (l:List Field) (ys:List (DataW H × List MemPlace)) (off:Nat) (ss:List Sh),ys.length=l.length ->
  (∀ (i:Nat) (f:Field),l[i]?=some f->DataW.trod enc P w base (fun _=>true) held n f.type ((cs.drop f.offset).take (P.cellsOf f.type))=ys[i]?)->Qof P (shp P m) l off=some ss ->
  (∀ k∈DataW.weightsEach P (l.map (·.type)) (ys.map (·.1)),k<=reachBytes)->∃ xs,R3 ok w ss xs ((cs.drop off).take ss.length)
 | [],ys,off,ss,_,_,h,_=>by
   simp only[Qof,Option.some.injEq] at h;subst h;exact ⟨[],by simpa using R3.nil⟩
 | f::r,ys,off,ss,hlen,hf,h,hwt=>by
   obtain ⟨y,ys',rfl⟩:∃ y ys',ys=y::ys':=by
    cases ys with
    | nil=>simp at hlen
    | cons y ys'=>exact ⟨y,ys',rfl⟩
   simp only[Qof] at h;split at h
   ·rename_i a b ha hb;split at h
    ·rename_i hc;injection h with h;subst h;have h0:=hf 0 f rfl;simp only[List.getElem?_cons_zero] at h0;simp only[QKZ,DataW.weightsEach,QK2] at hwt;obtain ⟨xs,hxs⟩:=IH f.type _ y.1 y.2 a h0 ha (fun k hk=>hwt k (.inl hk));obtain ⟨xs',hxs'⟩:=QhB cs IH r ys' (off+P.cellsOf f.type) b (by simpa using hlen) (fun i g hg=>by simpa using hf (i+1) g (by simpa using hg)) hb (fun k hk=>hwt k (.inr hk));refine ⟨xs++xs',?_⟩;have:=hxs.app hxs';rw[hc.1,<- hc.2] at this;rw[QKP,List.take_add,List.drop_drop];exact this
    cases h
   ·cases h
theorem Qcc {ok:Nat->Prop} (hok:∀ b,ok b):∀ (n:Nat) (t:TypeId) (cs:List Value) (d:DataW H) (ps:List MemPlace) (m:Nat) (ss:List Sh),DataW.trod enc P w base (fun _=>true) held n t cs=some (d,ps)->shp P m t=some ss ->
  (∀ k∈d.weights P t,k<=reachBytes)->∃ xs,R3 ok w ss xs cs
 | 0,t,cs,d,ps,m,ss,h,_,_=>by simp[DataW.trod] at h
 | n+1,t,cs,d,ps,0,ss,_,h,_=>by simp[shp] at h
 | n+1,t,cs,d,ps,m+1,ss,h,hs,hwt=>by
   simp only[shp] at hs;split at hs
   ·rename_i hu;injection hs with hs;subst hs;obtain ⟨b,rfl,_⟩:=DataW.trod_bool hu h;exact ⟨[.bool b],.cons _ _ _ _ _ _ (.bool b) (.bool b) rfl .nil⟩
   ·rename_i k hu;injection hs with hs;subst hs;obtain ⟨z,rfl,_,hz⟩:=DataW.trod_int hu h;simp only[Lit.wf,QKI,decide_eq_true_eq] at hz;exact ⟨[.int k z],.cons _ _ _ _ _ _ (.int k z hz.1 hz.2) (.int k z) rfl .nil⟩
   ·rename_i hu;injection hs with hs;subst hs;obtain ⟨s,rfl,hd,_⟩:=DataW.trod_string hu h;injection hd with hd _;subst hd;have hl:=hwt s.data.toList.length (by simp[DataW.weights]);refine ⟨[.str s.data.toList],.cons _ _ _ _ _ _ (.str _ hl) ?_ rfl .nil⟩;have:=QF.str (ok:=ok) (w:=w) s.data.toList;simpa using this
   ·rename_i e hu;split at hs
    ·rename_i s0 r0 he;split at hs
     ·rename_i hc;injection hs with hs;subst hs;generalize hes:s0::r0=es at *;have hpos:0<es.length:=by subst hes;simp
      rcases DataW.trod_slice hu h with ⟨rfl,_⟩ | ⟨a,len,cap,elems,rest,n',hn,rfl,hd,hb,hl,hm,hlen,hel,hsp,_⟩
      ·exact ⟨[.sl es.length []],.cons _ _ _ _ _ _ (.sl _ es [] (by simp[reachBytes]) (by simp) (by simp) (by simp)) (.nils _) rfl .nil⟩
      injection hn with hn;subst hn;injection hd with hd _;subst hd;obtain ⟨hw1,hw2⟩:=QeF hu hwt;simp only[QKX] at hw1;have each:∀ i,i<len->∃ row,∃ ci,w.cells? base (a.add (i*es.length)) es.length=some ci/\R3 ok w es row ci:=by
       intro i hi;have h1:=hel i hi;rw[QKF (by omega),Option.bind_eq_some_iff] at h1;obtain ⟨ci,h2,h3⟩:=h1;obtain ⟨xs,hx⟩:=Qcc hok n e ci elems[i].1 elems[i].2 m es h3 he (hw2 _ (by simp;exact ⟨_,QKL (by omega)⟩));exact ⟨xs,ci,by rw[hc];exact h2,hx⟩
      obtain ⟨rows,hrl,hrows⟩:=QcK len _ each;have fit:Qa1 (.sl (P.bytesOf e) es) (.sl es.length rows):=by
       refine .sl _ es rows ?_ (by omega) (fun row hr=>?_) (fun row hr j s x hs hx=>?_)
       ·grind
       ·obtain ⟨i,hi⟩:=QLj hr;obtain ⟨ci,_,h3⟩:=hrows i row hi;exact h3.len.1
       obtain ⟨i,hi⟩:=QLj hr;obtain ⟨ci,_,h3⟩:=hrows i row hi;have hj:=(QKG.1 hs).1;have hcl:=h3.len.2;have hjc:j<ci.length:=by omega
       exact (h3.get j s x ci[j] hs hx (QKF hjc)).1
      refine ⟨[.sl es.length rows],.cons _ _ _ _ _ _ fit ?_ rfl .nil⟩;by_cases hcap:cap=0
      ·have h0:len=0:=by omega
       subst hcap h0;have:rows=[]:=QKR hrl;subst this;exact .nilz _ a
      have hspot:a.spot=none:=by
       have first:∃ c0,w.cells? base (a.add (0*P.cellsOf e)) (P.cellsOf e)=some c0:=by
        by_cases h0:0<len
        ·grind
        obtain ⟨h1,h2⟩:=hsp rfl;have h3:=h2 0 (by omega);rw[QKF (by omega),Option.bind_eq_some_iff] at h3;grind
       obtain ⟨c0,h0⟩:=first
       obtain ⟨_,hl0,hc0⟩:=World.cells?_some h0;have h1:=hc0 0 (by omega);rw[QKF (by omega)] at h1;have h2:=World.cell?_spot h1;obtain ⟨b,off,sp⟩:=a;cases sp with
       | none=>rfl
       | some sp=>simp[Addr.add] at h2
      obtain ⟨b,off,sp⟩:=a;simp only at hspot;subst hspot;have cellAt:∀ i j row ci,rows[i]?=some row->w.cells? base (Addr.add ⟨b,off,none⟩ (i*es.length)) es.length=some ci->j<es.length->w.cell? ⟨b,off+(i*es.length+j),none⟩=ci[j]?:=by
       intro i j row ci _ hci hj;obtain ⟨_,hl0,hc0⟩:=World.cells?_some hci;have:=hc0 j hj;rw[addr_add,addr_add,QLI] at this;exact this
      have key:∀ i j,i<len->j<es.length->∃ row ci,rows[i]?=some row/\R3 ok w es row ci/\w.cell? ⟨b,off+(i*es.length+j),none⟩=ci[j]?:=by
       grind
      have hrep:=QF.sl (ok:=ok) (w:=w) es.length rows b off cap (fun k=>(w.cell? ⟨b,off+k,none⟩).getD undef) (by omega) hm (fun c hc=>by
       obtain ⟨i,hi⟩:=QLj hc;obtain ⟨ci,_,h3⟩:=hrows i c hi;exact h3.len.1) (fun k hk=>?_) (fun i j c x hi hj=>?_)
      ·rw[hrl] at hrep;exact hrep
      ·rw[hrl] at hk;have hi:k / es.length<len:=Nat.div_lt_of_lt_mul (by rw[Nat.mul_comm];exact hk);have hj:k % es.length<es.length:=Nat.mod_lt _ hpos;obtain ⟨row,ci,h1,h2,h3⟩:=key _ _ hi hj;have hk':k / es.length*es.length+k % es.length=k:=by rw[Nat.mul_comm];exact Nat.div_add_mod k es.length
       rw[hk'] at h3;have hcl:=h2.len;have hjc:k % es.length<ci.length:=by omega
       have hcj:ci[k % es.length]?=some ci[k % es.length]:=QKF hjc;rw[hcj] at h3;refine ⟨hok b,by rw[h3];rfl,?_⟩;rw[h3];exact (h2.get _ _ _ _ (QKF hj) (QKF (by omega)) hcj).2.2
      have hil:=(QKG.1 hi).1;obtain ⟨row,hrowlen⟩:∃ r,r=c.length:=⟨_,rfl⟩;have hcl:c.length=es.length:=by
       obtain ⟨ci,_,h3⟩:=hrows i c hi;exact h3.len.1
      have hjl:=(QKG.1 hj).1;obtain ⟨row',ci,h1,h2,h3⟩:=key i j (by omega) (by omega);rw[hi] at h1;injection h1 with h1;subst h1;have hjc:j<ci.length:=by
       have:=h2.len;omega
      have hcj:ci[j]?=some ci[j]:=QKF hjc;rw[hcj] at h3;have:=(h2.get j _ x _ (QKF (by omega)) hj hcj).2.1;grind
     cases hs
    cases hs
   ·rename_i fs hu;split at hs
    ·rename_i ss' hfs;split at hs
     ·rename_i hc;injection hs with hs;subst hs;obtain ⟨ys,n',hn,hd,hcl,hyl,hf⟩:=DataW.trod_struct hu h;injection hn with hn;subst hn;injection hd with hd _;subst hd;have hw':∀ k∈DataW.weightsEach P (fs.toList.map (·.type)) (ys.map (·.1)),k<=reachBytes:=by
       intro k hk;exact hwt k (by simpa[DataW.weights,hu] using hk)
      obtain ⟨xs,hx⟩:=QhB (ok:=ok) (m:=m) cs (fun t cs d ps ss h1 h2 h3=>Qcc hok n t cs d ps m ss h1 h2 h3) fs.toList ys 0 ss' (by simpa using hyl) (fun i f hfi=>hf i f (by simpa using hfi)) hfs hw';grind
     cases hs
    cases hs
   cases hs
end
end Go.Ev
namespace Go.Ev
open Go Go.RowKit Go.ChangeShapes Go.WideShapes
def Qll (P:Program) (t:TypeId) (x:IV):Prop :=
 ∃ ss,shp P 7 t=some ss/\match P.underlying t with
  | some (.struct _)=>∃ xs,x=.agg xs/\xs.length=ss.length/\∀ (j:Nat) (s:Sh) (y:IV),ss[j]?=some s->xs[j]?=some y->Qa1 s y
  | _=>∃ s,ss=[s]/\Qa1 s x
theorem Qsq {H:Type} {enc:TypeId × Value->H} {P:Program} {W:World} {base:Nat} {ok:Nat->Prop} (hok:∀ b,ok b) {t:TypeId} {v:Value} {d:DataW H} {p:List MemPlace} {ss:List Sh}
  (hv:Value.okWide P W .any base t v) (h:DataW.Trod enc P W 0 (fun _=>true) true t v d p) (hs:shp P 7 t=some ss) (hw:∀ k∈d.weights P t,k<=reachBytes):∃ x,QF ok W x v/\Qll P t x:=by
 obtain ⟨fuel,hf⟩:=h;obtain ⟨xs,hr⟩:=Qcc (ok:=ok) hok fuel t _ d p 7 ss hf hs hw;have hl:=hr.len;cases hu:P.underlying t with
 | none=>simp[shp,hu] at hs
 | some D =>
   have agg:∀ fs,D=.struct fs->∃ x,QF ok W x v/\Qll P t x:=by
    intro fs hD;subst hD;obtain ⟨cs,rfl,_⟩:=okWide_struct hu hv;have hc:(Value.agg cs).cells.toList=cs.toList:=rfl;rw[hc] at hr hl;refine ⟨.agg xs,?_,ss,hs,?_⟩
    ·have:=QF.agg (ok:=ok) (w:=W) xs cs.toList (by omega) (fun u hu=>?_) (fun k x u hx hu=>?_)
     ·simpa using this
     ·obtain ⟨j,hj⟩:=QLj hu;have hjl:=(QKG.1 hj).1;exact (hr.get j _ _ u (QKF (by omega)) (QKF (by omega)) hj).2.2
     have hjl:=(QKG.1 hx).1;exact (hr.get k _ x u (QKF (by omega)) hx hu).2.1
    rw[hu];refine ⟨xs,rfl,hl.1,fun j s y h1 h2=>?_⟩;have hjl:=(QKG.1 h1).1;exact (hr.get j s y _ h1 h2 (QKF (by omega))).1
   have one:(∀ fs,D≠.struct fs)->v.cells=#[v]->ss.length=1->∃ x,QF ok W x v/\Qll P t x:=by
    intro hD hc h1;rw[hc] at hr;obtain ⟨s,rfl⟩:=List.length_eq_one_iff.1 h1;cases hr with
    | cons _ x _ _ xs' _ h1 h2 h3 h =>
      refine ⟨x,h2,[s],hs,?_⟩;grind
   cases D with
   | struct fs=>exact agg fs rfl
   | bool =>
     simp only[shp,hu,Option.some.injEq] at hs;obtain ⟨b,rfl⟩:=okWide_bool hu hv;exact one (by simp) rfl (by rw[<- hs];rfl)
   | int k =>
     simp only[shp,hu,Option.some.injEq] at hs;obtain ⟨n,rfl⟩:=okWide_int hu hv;exact one (by simp) rfl (by rw[<- hs];rfl)
   | string =>
     simp only[shp,hu,Option.some.injEq] at hs;obtain ⟨n,rfl⟩:=okWide_string hu hv;exact one (by simp) rfl (by rw[<- hs];rfl)
   | slice e =>
     have h1:ss.length=1:=by
      simp only[shp,hu] at hs;grind
     obtain ⟨a,l,c,rfl⟩:=okWide_slice hu hv;exact one (by simp) rfl h1
   | _=>simp[shp,hu] at hs
theorem Qg3 {H} {enc:TypeId × Value->H} {P W base ok} (hok:∀ b,ok b):∀ (ts vs) (ds:List (DataW H)) (p:List MemPlace),
  DataW.TrodAll enc P W 0 (fun _=>true) true ts vs ds p->(∀ (j:Nat) t v,ts[j]?=some t->vs[j]?=some v->Value.okWide P W .any base t v)->(∀ t∈ts,(shp P 7 t).isSome=true) ->
  (∀ k∈DataW.weightsEach P ts ds,k<=reachBytes)->∃ xs:List IV,xs.length=vs.length/\vs.length=ts.length/\ds.length=ts.length/\(∀ (k:Nat) (x:IV) (u:Value),xs[k]?=some x->vs[k]?=some u->QF ok W x u)/\(∀ (k:Nat) (x:IV) (t:TypeId),xs[k]?=some x->ts[k]?=some t->Qll P t x)
 | [],vs,ds,p,h,_,_,_=>by
   obtain ⟨rfl,rfl,rfl⟩:=trodAll_nil h;exact ⟨[],rfl,rfl,rfl,by simp,by simp⟩
 | t::ts,vs,ds,p,h,hv,hs,hw=>by
   obtain ⟨v,vs',d,ds',a,b,rfl,rfl,rfl,h1,h2⟩:=trodAll_cons h;simp only[DataW.weightsEach,QK2] at hw;obtain ⟨ss,hss⟩:=QLf.1 (hs t (by simp));obtain ⟨x,hx1,hx2⟩:=Qsq hok (hv 0 t v rfl rfl) h1 hss (fun k hk=>hw k (.inl hk));obtain ⟨xs,e1,e2,e3,e4,e5⟩:=Qg3 hok ts vs' ds' b h2 (fun j t v h1 h2=>hv (j+1) t v (by simpa using h1) (by simpa using h2)) (fun t ht=>hs t (by simp[ht])) (fun k hk=>hw k (.inr hk));refine ⟨x::xs,by simp[e1],by simp[e2],by simp[e3],fun k y u hy hu=>?_,fun k y t' hy ht=>?_⟩
   all_goals grind
theorem Qgp {H} {enc:TypeId × Value->H} {P W W'} (hl:laidOutB P=true) (hb:Below W.heap.size W W'):∀ (ts vs) (ds:List (DataW H)) (p:List MemPlace),
  (∀ t∈ts,P.readableRec t=true/\t<P.types.size)->DataW.TrodAll enc P W 0 (fun _=>true) true ts vs ds p->DataW.TrodAll enc P W' 0 (fun b=>decide (b<W.heap.size)) true ts vs ds p
 | [],vs,ds,p,_,h=>by
   obtain ⟨rfl,rfl,rfl⟩:=trodAll_nil h;exact trodAll_mk0
 | t::ts,vs,ds,p,hr,h=>by
   obtain ⟨v,vs',d,ds',a,b,rfl,rfl,rfl,h1,h2⟩:=trodAll_cons h;have xa:∀ x∈a,x.block<W.heap.size:=by obtain ⟨m,hm⟩:=h1;exact DataW.trod_lt m _ _ _ hm
   exact trodAll_cons_mk (Below.trod hl (hr t (by simp)).1 (hr t (by simp)).2 h1 hb xa) (Qgp hl hb ts vs' ds' b (fun t ht=>hr t (by simp[ht])) h2)
theorem Qsg {H} {enc:TypeId × Value->H} {P fn N} {s:ChangeSpec} {tb} (hl:laidOutB P=true) (hvars:s.vars=[]) (hres:fn.resultTypes=#[tb]) (hbool:P.underlying tb=some .bool)
  (hread:∀ t∈fn.params.toList,P.readableRec t=true/\t<P.types.size) (hshp:∀ t∈fn.params.toList,(shp P 7 t).isSome=true)
  (hfn:∀ ds:List (DataW H),ds.length=fn.params.toList.length->s.fn H ds={ results:=[.lit (.bool true)],args:=ds }) {K}
  (hgood:∀ xs:List IV,xs.length=fn.params.toList.length->(∀ (k:Nat) (x:IV) (t:TypeId),xs[k]?=some x->fn.params.toList[k]?=some t->Qll P t x)->Good P K N xs (.bool true))
  (W base args) (ds gs:List (DataW H)) (before:List MemPlace)
  (hval:∀ (j:Nat) t v,fn.params[j]?=some t->args[j]?=some v->Value.okWide P W .any base t v) (hW:DataW.Whole enc P fn.params.toList s.vars false W args.toList ds gs before)
  (hwt:∀ k∈DataW.weightsEach P fn.params.toList ds,k<=reachBytes) (hK:K W) :
  Calls P N args W fun e W'=>∃ v,e=.returned v/\s.post enc P fn false true false false W args v W':=by
 have hW':=hW;obtain ⟨p,q,hA,hV,rfl,hfz,hnd⟩:=hW;rw[hvars] at hV;obtain ⟨rfl,rfl⟩:=trodVars_none hV;obtain ⟨xs,e1,e2,e3,e4,e5⟩:=Qg3 (ok:=fun _=>True) (fun _=>trivial) fn.params.toList args.toList ds p hA (fun j t v h1 h2=>hval j t v (by simpa using h1) (by simpa using h2)) hshp hwt;have hg:=hgood xs (by omega) e5 W (fun _=>True) args.toList hK (fun _ _=>trivial) (by omega) e4;have ha:args.toList.toArray=args:=by simp
 rw[ha] at hg;refine hg.mono fun e W' ⟨v,he,hr,bel⟩=>?_;subst he;cases hr;have hspec:=hfn (ds++[]) (by simpa using e3);refine ⟨_,rfl,ds,[],p++[],[],p,[],hW',?_,?_,?_,bel.frame _,fun h=>by cases h⟩
 ·rw[hspec,hres]
  exact trodAll_mk1 (shut_bool hbool _)
 ·rw[hspec]
  simpa using Qgp hl bel fn.params.toList args.toList ds p hread hA
 rw[hvars,hspec];rfl
end Go.Ev
namespace Go.Proofs
open Go.Proofs.Tryz
open Go.Shelf
def Tryz.laysM146_ren:Go.Shelf.Ren:=⟨fun | 146=>137 | 221=>221 | 268=>290 | 138=>291 | 143=>292 | 195=>353 | 197=>354 | 218=>355 | 219=>356 | 260=>387 | 217=>388 | 225=>389 | 224=>390 | 267=>391 | 266=>408 | 314=>409 | n=>n,fun | 9=>9 | 31=>62 | 3=>3 | 4=>4 | 0=>0 | 105=>421 | 21=>21 | 5=>5 | 46=>293 | 119=>477 | 139=>480 | 138=>479 | 146=>481 | 51=>393 | n=>n,fun | 1=>0 | 3=>3 | 4=>4 | n=>n⟩
theorem Tryz.laysM146:Go.Proofs.LaysM.n146 prog Tryz.laysM146_ren:=by
 repeat' first | kernel_rfl | (intro _;kernel_rfl) | exact fun w h=>Go.Proofs.cell_of_shapedOpen_int (zero:=#[.int .i64 0]) (t:=3) h (of_decide_eq_true (by kernel_rfl)) (by kernel_rfl) rfl (by kernel_rfl) (by kernel_rfl) underlying3 | constructor
def Tryz.laysM171_ren:Go.Shelf.Ren:=⟨fun | 171=>223 | 243=>295 | 246=>362 | 283=>395 | 284=>396 | 285=>397 | 286=>398 | 129=>330 | 317=>412 | 318=>413 | 319=>414 | 320=>415 | 337=>422 | 338=>423 | n=>n,fun | 3=>3 | 9=>9 | 2=>2 | 4=>4 | 171=>460 | 0=>0 | 53=>395 | 37=>402 | 5=>5 | 173=>462 | 212=>489 | 51=>393 | 20=>20 | 213=>490 | 46=>293 | 232=>495 | 233=>496 | n=>n,fun | 17=>5 | 18=>6 | 19=>7 | n=>n⟩
theorem Tryz.laysM171:Go.Proofs.LaysM.n171 prog Tryz.laysM171_ren:=by
 repeat' first | kernel_rfl | (intro _;kernel_rfl) | constructor
def Tryz.laysC172_ren:Go.Shelf.Ren:=⟨fun | 172=>222 | 244=>293 | 245=>294 | 247=>357 | 279=>358 | 280=>359 | 281=>360 | 282=>361 | 287=>392 | 316=>393 | 171=>223 | 205=>394 | 321=>410 | 322=>411 | 243=>295 | 246=>362 | 283=>395 | 284=>396 | 285=>397 | 286=>398 | 129=>330 | 317=>412 | 318=>413 | 319=>414 | 320=>415 | 337=>422 | 338=>423 | n=>n,fun | 9=>9 | 3=>3 | 75=>308 | 76=>309 | 4=>4 | 5=>5 | 167=>424 | 37=>402 | 0=>0 | 85=>425 | 2=>2 | 168=>427 | 53=>395 | 175=>454 | 46=>293 | 210=>458 | 127=>446 | 145=>487 | 143=>485 | 21=>21 | 171=>460 | 173=>462 | 212=>489 | 51=>393 | 20=>20 | 213=>490 | 232=>495 | 233=>496 | 80=>406 | n=>n,fun | 15=>1 | 16=>2 | 17=>5 | 18=>6 | 19=>7 | n=>n⟩
theorem Tryz.laysC172:Go.Proofs.LaysC.n172 prog Tryz.laysC172_ren:=by
 repeat' first | kernel_rfl | (intro _;kernel_rfl) | constructor
def Tryz.lays101_ren:Go.Shelf.Ren:=⟨fun | 101=>224 | 208=>296 | 206=>363 | n=>n,fun | 9=>9 | 4=>4 | 3=>3 | n=>n,fun | n=>n⟩
theorem Tryz.lays101:Go.Proofs.Lays.n101 prog Tryz.lays101_ren:=by
 repeat' first | kernel_rfl | (intro _;kernel_rfl) | constructor
def Tryz.lays156_ren:Go.Shelf.Ren:=⟨fun | 156=>267 | 165=>336 | 166=>337 | 169=>338 | 240=>377 | 241=>378 | 276=>401 | 277=>402 | n=>n,fun | 31=>62 | 9=>9 | 3=>3 | 4=>4 | 0=>0 | 20=>20 | 72=>404 | 76=>309 | 70=>401 | 37=>402 | 75=>308 | 127=>446 | 164=>468 | 5=>5 | 80=>406 | n=>n,fun | n=>n⟩
theorem Tryz.lays156:Go.Proofs.Lays.n156 prog Tryz.lays156_ren:=by
 repeat' first | kernel_rfl | (intro _;kernel_rfl) | constructor
theorem Tryz.Builder_Extra_156:Builder.Extra prog Tryz.lays156_ren:=by
 repeat' first | kernel_rfl | (intro _;kernel_rfl) | decide | constructor
def Tryz.clone85_ren:Go.Shelf.Ren:=⟨fun | 41=>85 | n=>n,fun | 22=>23 | 23=>160 | 4=>4 | n=>n,fun | n=>n⟩
theorem Tryz.clone85:Go.Proofs.SlLaysE0.n41 prog Tryz.clone85_ren:=by
 constructor
 all_goals try first | kernel_rfl | (intro _;kernel_rfl)
 exact ⟨Tryz.f85.name,by decide,func85.trans (congrArg some (by kernel_rfl))⟩
def Tryz.clone87_ren:Go.Shelf.Ren:=⟨fun | 41=>87 | n=>n,fun | 22=>45 | 23=>181 | 4=>4 | n=>n,fun | n=>n⟩
theorem Tryz.clone87:Go.Proofs.SlLaysE0.n41 prog Tryz.clone87_ren:=by
 constructor
 all_goals try first | kernel_rfl | (intro _;kernel_rfl)
 exact ⟨Tryz.f87.name,by decide,func87.trans (congrArg some (by kernel_rfl))⟩
def Tryz.clone88_ren:Go.Shelf.Ren:=⟨fun | 41=>88 | n=>n,fun | 22=>51 | 23=>169 | 4=>4 | n=>n,fun | n=>n⟩
theorem Tryz.clone88:Go.Proofs.SlLaysE0.n41 prog Tryz.clone88_ren:=by
 constructor
 all_goals try first | kernel_rfl | (intro _;kernel_rfl)
 exact ⟨Tryz.f88.name,by decide,func88.trans (congrArg some (by kernel_rfl))⟩
def Tryz.clone89_ren:Go.Shelf.Ren:=⟨fun | 41=>89 | n=>n,fun | 22=>52 | 23=>155 | 4=>4 | n=>n,fun | n=>n⟩
theorem Tryz.clone89:Go.Proofs.SlLaysE0.n41 prog Tryz.clone89_ren:=by
 constructor
 all_goals try first | kernel_rfl | (intro _;kernel_rfl)
 exact ⟨Tryz.f89.name,by decide,func89.trans (congrArg some (by kernel_rfl))⟩
def Tryz.clone90_ren:Go.Shelf.Ren:=⟨fun | 41=>90 | n=>n,fun | 22=>48 | 23=>60 | 4=>4 | n=>n,fun | n=>n⟩
theorem Tryz.clone90:Go.Proofs.SlLaysE0.n41 prog Tryz.clone90_ren:=by
 constructor
 all_goals try first | kernel_rfl | (intro _;kernel_rfl)
 exact ⟨Tryz.f90.name,by decide,func90.trans (congrArg some (by kernel_rfl))⟩
def Tryz.clone84_ren:Go.Shelf.Ren:=⟨fun | 41=>84 | n=>n,fun | 22=>22 | 23=>91 | 4=>4 | n=>n,fun | n=>n⟩
theorem Tryz.clone84:Go.Proofs.SlLaysE0.n41 prog Tryz.clone84_ren:=by
 constructor
 all_goals try first | kernel_rfl | (intro _;kernel_rfl)
 exact ⟨Tryz.f84.name,by decide,func84.trans (congrArg some (by kernel_rfl))⟩
def Tryz.clone86_ren:Go.Shelf.Ren:=⟨fun | 41=>86 | n=>n,fun | 22=>44 | 23=>178 | 4=>4 | n=>n,fun | n=>n⟩
theorem Tryz.clone86:Go.Proofs.SlLaysE0.n41 prog Tryz.clone86_ren:=by
 constructor
 all_goals try first | kernel_rfl | (intro _;kernel_rfl)
 exact ⟨Tryz.f86.name,by decide,func86.trans (congrArg some (by kernel_rfl))⟩
def Tryz.rev382_ren:Go.Shelf.Ren:=⟨fun | 35=>382 | n=>n,fun | 22=>253 | 23=>3 | 3=>3 | 4=>4 | 0=>0 | n=>n,fun | n=>n⟩
theorem Tryz.rev382:Go.Proofs.SlLaysE.n35 prog Tryz.rev382_ren:=by
 constructor
 all_goals try first | kernel_rfl | (intro _;kernel_rfl)
 exact ⟨Tryz.f382.name,by decide,func382.trans (congrArg some (by kernel_rfl))⟩
def Tryz.del381_ren:Go.Shelf.Ren:=⟨fun | 45=>381 | n=>n,fun | 22=>253 | 23=>3 | 3=>3 | 4=>4 | 0=>0 | n=>n,fun | n=>n⟩
theorem Tryz.del381:Go.Proofs.SlLaysE.n45 prog Tryz.del381_ren:=by
 constructor
 all_goals try first | kernel_rfl | (intro _;kernel_rfl)
 exact ⟨Tryz.f381.name,by decide,func381.trans (congrArg some (by kernel_rfl))⟩
def Tryz.keys201_ren:Go.Shelf.Ren:=⟨fun | 7=>201 | 10=>282 | n=>n,fun | 23=>128 | 26=>3 | 3=>3 | 28=>284 | 0=>0 | 27=>283 | 33=>133 | 4=>4 | n=>n,fun | n=>n⟩
theorem Tryz.keys201:Go.Proofs.SlLaysZI.n7 prog Tryz.keys201_ren:=by
 constructor
 all_goals try first | kernel_rfl | (intro _;kernel_rfl)
 exact ⟨Tryz.f201.name,by decide,func201.trans (congrArg some (by kernel_rfl))⟩;exact ⟨Tryz.f282.name,by decide,func282.trans (congrArg some (by kernel_rfl))⟩
def Tryz.sorted200_ren:Go.Shelf.Ren:=⟨fun | 6=>200 | 8=>281 | 9=>145 | 11=>348 | 13=>242 | 12=>241 | 23=>329 | 24=>330 | 14=>320 | 15=>321 | 16=>322 | 17=>323 | 18=>324 | 19=>325 | 20=>326 | 21=>327 | 22=>328 | 25=>370 | 26=>371 | 27=>372 | 28=>373 | 29=>374 | 30=>375 | 31=>400 | n=>n,fun | 26=>3 | 28=>284 | 24=>57 | 0=>0 | 3=>3 | 37=>293 | 48=>393 | 50=>395 | 4=>4 | 40=>387 | 39=>386 | 45=>206 | 5=>5 | 9=>9 | 51=>438 | 55=>442 | 57=>466 | 58=>341 | 33=>133 | n=>n,fun | n=>n⟩
theorem Tryz.sorted200:Go.Proofs.SlLaysZI.n6 prog Tryz.sorted200_ren:=by
 constructor
 all_goals try first | kernel_rfl | (intro _;kernel_rfl)
 exact ⟨Tryz.f200.name,by decide,func200.trans (congrArg some (by kernel_rfl))⟩;exact ⟨Tryz.f281.name,by decide,func281.trans (congrArg some (by kernel_rfl))⟩;exact ⟨Tryz.f348.name,by decide,func348.trans (congrArg some (by kernel_rfl))⟩
def Tryz.sort145_ren:Go.Shelf.Ren:=⟨fun | 5=>145 | 8=>242 | 7=>241 | 19=>329 | 20=>330 | 10=>320 | 11=>321 | 12=>322 | 13=>323 | 14=>324 | 15=>325 | 16=>326 | 17=>327 | 18=>328 | 30=>370 | 31=>371 | 32=>372 | 33=>373 | 34=>374 | 35=>375 | 40=>400 | n=>n,fun | 23=>57 | 25=>3 | 3=>3 | 32=>293 | 22=>57 | 0=>0 | 44=>393 | 46=>395 | 4=>4 | 36=>387 | 35=>386 | 41=>206 | 5=>5 | 9=>9 | 53=>438 | 57=>442 | 63=>466 | 64=>341 | n=>n,fun | n=>n⟩
theorem Tryz.sort145:Go.Proofs.SlLaysM.n5 prog Tryz.sort145_ren:=by
 constructor
 all_goals try first | kernel_rfl | (intro _;kernel_rfl)
 exact ⟨Tryz.f145.name,by decide,func145.trans (congrArg some (by kernel_rfl))⟩;exact ⟨Tryz.f241.name,by decide,func241.trans (congrArg some (by kernel_rfl))⟩;exact ⟨Tryz.f320.name,by decide,func320.trans (congrArg some (by kernel_rfl))⟩;exact ⟨Tryz.f321.name,by decide,func321.trans (congrArg some (by kernel_rfl))⟩;exact ⟨Tryz.f322.name,by decide,func322.trans (congrArg some (by kernel_rfl))⟩;exact ⟨Tryz.f323.name,by decide,func323.trans (congrArg some (by kernel_rfl))⟩;exact ⟨Tryz.f324.name,by decide,func324.trans (congrArg some (by kernel_rfl))⟩;exact ⟨Tryz.f325.name,by decide,func325.trans (congrArg some (by kernel_rfl))⟩;exact ⟨Tryz.f326.name,by decide,func326.trans (congrArg some (by kernel_rfl))⟩;exact ⟨Tryz.f327.name,by decide,func327.trans (congrArg some (by kernel_rfl))⟩;exact ⟨Tryz.f328.name,by decide,func328.trans (congrArg some (by kernel_rfl))⟩;exact ⟨Tryz.f370.name,by decide,func370.trans (congrArg some (by kernel_rfl))⟩;exact ⟨Tryz.f373.name,by decide,func373.trans (congrArg some (by kernel_rfl))⟩;exact ⟨Tryz.f374.name,by decide,func374.trans (congrArg some (by kernel_rfl))⟩;exact ⟨Tryz.f375.name,by decide,func375.trans (congrArg some (by kernel_rfl))⟩;exact ⟨Tryz.f400.name,by decide,func400.trans (congrArg some (by kernel_rfl))⟩
end Go.Proofs
namespace Go.Ev
open Go
section
variable {α β:Type}
def r1 (n:Nat) (k:Nat->Nat->α):α:=k (n % 16) (n / 16)
def rD (c n:Nat) (k:Nat->Nat->α):α:=k (n % 16 ^ c) (n / 16 ^ c)
def rN (n:Nat) (k:Nat->Nat->α):α:=r1 n fun v n =>
 if v<12 then k v n else if v<14 then r1 n fun d n=>k (12+(v-12)*16+d) n else if v=14 then rD 2 n fun d n=>k (44+d) n else r1 n fun c n=>match c with | 0=>rD 3 n k | 1=>rD 4 n k | 2=>rD 6 n k | _=>rD 16 n k
def rC (f:Nat->(β->Nat->α)->α):Nat->Nat->(List β->Nat->α)->α
 | 0,n,k=>k [] n
 | c+1,n,k=>f n fun x n=>rC f c n fun l n=>k (x::l) n
def rL (f:Nat->(β->Nat->α)->α) (n:Nat) (k:List β->Nat->α):α:=rN n fun c n=>rC f c n k
variable (u:Nat->UInt8) (b:List AC)
def rI (n:Nat) (k:Opd->Nat->α):α:=r1 n fun v n =>
 match v with
 | 0=>k .nilp n
 | 1=>k .nilm n
 | 2=>k .nilf n
 | 3=>rN n fun m n=>k (.int .i64 (-((m:Nat):Int))) n
 | 4=>rN n fun m n=>k (.int .u64 ((m:Nat):Int)) n
 | 5=>rL rN n fun s n=>k (.str (s.map u)) n
 | 6=>rN n fun m n=>k (.fn m) n
 | 7=>rN n fun m n=>k (.nilv m) n
 | 8=>rN n fun m n=>k (.int .i32 ((m:Nat):Int)) n
 | _=>rN n fun m n=>k (.int .u8 ((m:Nat):Int)) n
def rO (l n:Nat) (k:Opd->Nat->α):α:=r1 n fun v n =>
 match v with
 | 7=>k (.int .i64 0) n
 | 8=>k (.int .i64 1) n
 | 9=>rN n fun m n=>k (.t m) n
 | 10=>rN n fun m n=>k (.int .i64 ((m:Nat):Int)) n
 | 11=>k (.bool false) n
 | 12=>k (.bool true) n
 | 13=>rN n fun m n=>k (.nil m) n
 | 14=>rI u n k
 | 15=>r1 n fun m n=>k (.t m) n
 | v=>k (.t (l-v)) n
def rQ (l n:Nat) (k:Option Opd->Nat->α):α:=r1 n fun v n=>if v=0 then k none n else rO u l n fun x n=>k (some x) n
def rB:Nat->BinOp
 | 0=>.add | 1=>.sub | 2=>.eql | 3=>.lss | 4=>.gtr | 5=>.geq | 6=>.leq | 7=>.neq | 8=>.mul | 9=>.quo | 10=>.rem | 11=>.and | 12=>.or | 13=>.xor | 14=>.andNot | 15=>.shl | _=>.shr
def rP (l n:Nat) (k:(Nat × Nat × Opd)->Nat->α):α:=rN n fun a n=>rN n fun b n=>rO u l n fun x n=>k (a,b,x) n
def rKc (n:Nat) (k:Option IntKind->Nat->α):α:=r1 n fun v n=>k (match v with | 0=>none | 1=>some .i64 | 2=>some .u64 | 3=>some .u8 | _=>some .i32) n
def rK (n:Nat) (k:KK->Nat->α):α:=r1 n fun v n=>match v with
 | 0=>k .str n
 | 1=>k (.int .i64) n
 | 2=>k (.int .u64) n
 | 3=>k (.int .u8) n
 | 4=>k (.int .i32) n
 | _=>rL rKc n fun l n=>k (.agg l) n
def rE (l n:Nat) (k:AOp->Nat->α):α:=rN n fun h n =>
 match h with
 | 0=>rO u l n fun x n=>k (.not x) n
 | 1=>rN n fun a n=>rL (rO u l) n fun l n=>k (.alo a l) n
 | 2=>rL (rO u l) n fun q n=>rL (rP u l) n fun p n=>k (.bld q p) n
 | 3=>rN n fun a n=>rN n fun b n=>rN n fun c n=>rN n fun d n=>rO u l n fun x n=>rO u l n fun y n=>k (.app a b c d x y) n
 | 4=>rN n fun a n=>rL (rO u l) n fun l n=>k (.bsl a l) n
 | 5=>rN n fun g n=>rL (rO u l) n fun f n=>rL (rO u l) n fun c n=>k (.yy (.mkf g f c)) n
 | 6=>rO u l n fun x n=>k (.nilc x) n
 | 7=>r1 n fun a n=>rO u l n fun x n=>rO u l n fun y n=>k (.yy (.mx (a==1) x y)) n
 | 8=>rN n fun a n=>rN n fun b n=>rN n fun c n=>k (.nilo a b c) n
 | 9=>r1 n fun a n=>rN n fun m n=>rO u l n fun x n=>rO u l n fun y n=>k (.yy (.eqs (a==1) m x y)) n
 | 10=>rN n fun a n=>rN n fun b n=>rN n fun c n=>rL (rO u l) n fun l n=>k (.bso a b c l) n
 | 11=>rN n fun a n=>rN n fun b n=>rO u l n fun x n=>rO u l n fun y n=>k (.ixo a b x y) n
 | 12=>rN n fun f n=>rL (rO u l) n fun x n=>rL rN n fun i n=>k (.yx f x i) n
 | 13=>rO u l n fun f n=>rL (rO u l) n fun x n=>rL rN n fun i n=>k (.yz f x i) n
 | 14=>rN n fun a n=>rO u l n fun x n=>k (.leno a x) n
 | 15=>rO u l n fun f n=>rL (rO u l) n fun x n=>rN n fun i n=>k (.yu f x i) n
 | 16=>rN n fun f n=>rL (rO u l) n fun x n=>rL rN n fun i n=>rN n fun j n=>k (.y3 f x i j) n
 | 17=>rN n fun a n=>rO u l n fun x n=>rQ u l n fun i n=>rQ u l n fun j n=>k (.sli a x i j) n
 | 18=>rN n fun a n=>rO u l n fun x n=>k (.boxo a x) n
 | 19=>rN n fun a n=>rN n fun e n=>rN n fun z n=>k (.yy (.mkm a (if e=0 then none else some (e-1,z)))) n
 | 20=>rN n fun f n=>rL (rO u l) n fun x n=>rN n fun i n=>k (.yr f x i) n
 | 21=>rN n fun a n=>rK n fun h n=>rO u l n fun x n=>rO u l n fun y n=>rO u l n fun z n=>k (.yy (.mupd a h x y z)) n
 | 22=>rN n fun a n=>rK n fun h n=>rO u l n fun x n=>rO u l n fun y n=>rO u l n fun z n=>k (.yy (.mupr a h x y z)) n
 | 23=>rN n fun a n=>rK n fun h n=>rO u l n fun x n=>rO u l n fun y n=>rO u l n fun z n=>k (.yy (.lkd a h x y z)) n
 | 24=>rN n fun a n=>rK n fun h n=>rO u l n fun x n=>rO u l n fun y n=>k (.yy (.lkr a h x y)) n
 | 25=>rK n fun h n=>rO u l n fun x n=>rO u l n fun y n=>rO u l n fun z n=>k (.yy (.lki h x y z)) n
 | 26=>r1 n fun i n=>rO u l n fun x n=>k (.cvi (match i with | 0=>.i64 | 1=>.u64 | 2=>.i32 | 3=>.u8 | _=>.u32) x) n
 | 27=>rO u l n fun x n=>k (.yy (.neg x)) n
 | 28=>rN n fun a n=>rO u l n fun x n=>k (.yy (.rngm a x)) n
 | 29=>rN n fun a n=>rO u l n fun x n=>k (.yy (.ent a x)) n
 | 30=>rN n fun a n=>rO u l n fun x n=>k (.yy (.lenmo a x)) n
 | 31=>rO u l n fun x n=>k (.yy (.lenm x)) n
 | 32=>rN n fun a n=>rN n fun z n=>rO u l n fun x n=>rO u l n fun y n=>k (.yy (.ixa a z x y)) n
 | 33=>rN n fun a n=>rN n fun e n=>rN n fun c n=>rL (rO u l) n fun z n=>rO u l n fun x n=>k (.yy (.mks a e c z x)) n
 | 34=>rN n fun a n=>rO u l n fun x n=>rO u l n fun y n=>k (.cpy a x y) n
 | 35=>rO u l n fun f n=>rL (rO u l) n fun x n=>rL rN n fun i n=>k (.y4 f x i) n
 | 36=>rN n fun a n=>k (.yy (.zslv a)) n
 | 37=>rK n fun h n=>rL (rO u l) n fun z n=>rO u l n fun x n=>rO u l n fun y n=>k (.yy (.lkc h z x y)) n
 | 38=>r1 n fun a n=>rO u l n fun x n=>k (.yy (.isn (a==1) x)) n
 | 39=>rO u l n fun x n=>k (.lst x) n
 | 40=>rN n fun a n=>rO u l n fun x n=>rO u l n fun y n=>k (.yy (.ixg a x y)) n
 | 42=>rO u l n fun x n=>rO u l n fun y n=>k (.ixs x y) n
 | 43=>rO u l n fun x n=>rQ u l n fun i n=>rQ u l n fun j n=>k (.sls x i j) n
 | 44=>rN n fun f n=>rL (rO u l) n fun x n=>rL rN n fun i n=>k (.call f x i) n
 | 45=>rO u l n fun x n=>rO u l n fun y n=>rO u l n fun z n=>k (.pick x y z) n
 | 46=>rO u l n fun x n=>k (.i2s x) n
 | 48=>rL (rO u l) n fun z n=>rL (rO u l) n fun p n=>k (.yy (.bla z p)) n
 | 58=>r1 n fun a n=>rO u l n fun x n=>rO u l n fun y n=>k (.beq (a==1) x y) n
 | 59=>rN n fun a n=>rO u l n fun x n=>rO u l n fun y n=>rO u l n fun z n=>k (.yy (.sl3 a x y z)) n
 | 67=>rN n fun a n=>rN n fun b n=>rN n fun c n=>rO u l n fun x n=>rO u l n fun y n=>k (.yy (.apz a b c x y)) n
 | 64=>rN n fun a n=>rK n fun h n=>k (.yy (.mkz a h)) n
 | 65=>rN n fun a n=>rK n fun h n=>rO u l n fun x n=>rO u l n fun y n=>rO u l n fun z n=>k (.yy (.mupz a h x y z)) n
 | 66=>rN n fun a n=>rK n fun h n=>rO u l n fun x n=>rO u l n fun y n=>k (.yy (.mdlz a h x y)) n
 | 60=>rN n fun f n=>rO u l n fun x n=>rL (rO u l) n fun z n=>rN n fun a n=>k (.yw f x z a) n
 | 61=>rN n fun a n=>rK n fun h n=>rO u l n fun x n=>rO u l n fun y n=>rO u l n fun z n=>k (.yy (.ment a h x y z)) n
 | 62=>rN n fun a n=>rO u l n fun x n=>rO u l n fun y n=>rO u l n fun z n=>k (.yy (.ests a x y z)) n
 | 63=>rN n fun a n=>rO u l n fun x n=>k (.yy (.fgt a x)) n
 | _=>k (.yy .no) n
def rA:Nat->Nat->Nat->Nat->Option Nat->Option (Nat × Bool)->(Zf->Nat->Nat->Option (Nat × Bool)->α)->α
 | 0,n,l,_,d,g,k=>k ⟨d,g,.xf .nilp⟩ n l g
 | c+1,n,l,m,d,g,k =>
   let K:=fun g x n=>k ⟨d,g,x⟩ n m g
   r1 n fun h n =>
   match h with
   | 0=>K g (.xf (.t l)) n
   | 1=>rO u l n fun x n=>K g (.xf x) n
   | 2=>rN n fun a n=>rO u l n fun x n=>K g (.ldi (a / 2) (a % 2==1) x) n
   | 3=>rN n fun a n=>rO u l n fun x n=>rO u l n fun y n=>K g (.bin (rB a) x y) n
   | 4=>rN n fun a n=>rO u l n fun x n=>K g (.fld a x) n
   | 5=>rN n fun a n=>rL (rO u l) n fun x n=>K g (.call a x []) n
   | 6=>rO u l n fun x n=>rO u l n fun y n=>rO u l n fun z n=>K none (.pick x y z) n
   | 7=>rO u l n fun x n=>rN n fun a n=>K g (.ext x a) n
   | 8=>rN n fun a n=>rN n fun b n=>rO u l n fun x n=>rO u l n fun y n=>k ⟨none,g,.sto a b x y⟩ n l g
   | 9=>rN n fun a n=>rN n fun b n=>rO u l n fun x n=>K g (.ldo a (b / 2) (b % 2==1) x) n
   | 10=>rO u l n fun x n=>K g (.boxi x) n
   | 11=>rO u l n fun x n=>K g (.len x) n
   | 12=>rN n fun a n=>rO u l n fun x n=>rO u l n fun y n=>K g (.ixi a x y) n
   | 13=>rE u l n (K g)
   | 14=>rN n fun d n=>rA c n l l (some d) g k
   | _=>r1 n fun h n =>
     match h with
     | 0=>rA c n l m d none k
     | 1=>rA c n l m d (some (l,true)) k
     | 2=>rA c n l m d (some (l,false)) k
     | 3=>rN n fun s n=>rA c n l m d (some (s,true)) k
     | 4=>rN n fun s n=>rA c n l m d (some (s,false)) k
     | 5=>rA c n l l none g k
     | _=>rN n fun d n=>rA c n l d (some d) g k
def rR:Nat->Nat->Nat->Option (Nat × Bool)->(List Zf->Nat->Nat->α)->α
 | 0,n,l,_,k=>k [] n l
 | c+1,n,l,g,k=>rA u 4 n l (l+1) (some (l+1)) g fun x n l g=>rR c n l g fun q n l=>k (x::q) n l
def rT:Nat->Nat->Nat->(AC->Nat->Nat->α)->α
 | 0,n,l,k=>k .skip n l
 | c+1,n,l,k=>r1 n fun h n =>
   let R:=fun k=>rN n fun m n=>rR u m n l none k
   match h with
   | 0=>k .skip n l
   | 1=>R fun x n l=>k (.ops x false) n l
   | 2=>R fun x n l=>rT c n l fun y n l=>k (.seq (.ops x false) y) n l
   | 3=>rT c n l fun x n l=>rT c n l fun y n l=>k (.seq x y) n l
   | 4=>rO u l n fun o n=>rT c n l fun x n l=>rT c n l fun y n l=>k (.cond o x y) n l
   | 5=>rN n fun i n=>rT c n l fun x n l=>k (.block i x) n l
   | 6=>rN n fun i n=>rL rN n fun s n=>rL rN n fun d n=>k (.loop (b.getD i .skip) s d) n l
   | 7=>rN n fun i n=>k (.exit i) n l
   | 8=>rT c n l fun x n l=>k (.scope x) n l
   | 9=>rN n fun i n=>k (.label i) n l
   | 10=>k .ret n l
   | 11=>rN n fun d n=>rN n fun e n=>rO u l n fun x n=>rN n fun i n=>k (.nxt d e x i) n l
   | 12=>rN n fun i n=>rN n fun d n=>rN n fun o n=>rN n fun e n=>rN n fun s n=>rT c n l fun x n l=>k (.gh i d o e s x) n l
   | 13=>rN n fun t n=>rN n fun i n=>rL rN n fun s n=>rL rN n fun d n=>rT c n l fun x n l=>k (.frz t i s d x) n l
   | 14=>rO u l n fun f n=>rL rN n fun p n=>rN n fun i n=>rL rN n fun s n=>rL rN n fun d n=>k (.range f p (b.getD i .skip) (b.getD (i+1) .skip) s d) n l
   | _=>r1 n fun h n =>
     match h with
     | 0=>rL rN n fun s n=>rL rN n fun d n=>rT c n l fun x n l=>k (.fz s d x) n l
     | _=>rN n fun m n=>rR u m n l none fun x n l=>k (.ops x true) n l
end
def rF (u:Nat->UInt8) (b:List AC) (n:Nat):AFn:=rN n fun t n =>
 rL (fun n k=>r1 n fun h n=>rN n fun t n=>match h with | 0=>k (.tmp t) n | _=>rN n fun m n=>k (.cell t m (h==2)) n) n fun s n =>
 rN n fun l n=>rT u b 500 n l fun c _ _=>⟨t,s,c⟩
def rS (u:Nat->UInt8) (b:List AC) (n:Nat):AC:=rN n fun l n=>rT u b 500 n l fun c _ _=>c
abbrev Ri {α:Sort _} (x:α):={ y:α // x=y }
abbrev U8:=Nat->UInt8
def xz:List UInt8->Nat|[]=>0|c::l=>let c:=c.toNat;c-48-c/64-c/79-c/92-c/96+71*xz l
def xq {α} (s:String) (k:Nat->α):α:=match xz s.toByteArray.data.toList with|0=>k 0|m+1=>k (m+1)
def xx {α}:List String->(Nat->α)->α|[],k=>k 0|s::r,k=>xq s fun a=>xx r fun b=>match a+71^100*b with|0=>k 0|m+1=>k (m+1)
@[simp] abbrev F0 (n:String) (h:Ri fun u:U8=>xq n (rF u [])):AFn:=h.1 UInt8.ofNat
@[simp] abbrev Fz0 (n:List String) (h:Ri fun u:U8=>xx n (rF u [])):AFn:=h.1 UInt8.ofNat
@[simp] abbrev B0 (n:String) (h:Ri fun u:U8=>xq n (rS u [])):AC:=h.1 UInt8.ofNat
@[simp] abbrev Fq0 (n:List String) (h:Ri fun u:U8=>xx n (rS u [])):AC:=h.1 UInt8.ofNat
@[simp] abbrev b0 (n:Nat) (h:Ri fun u:U8=>rS u [] n):AC:=h.1 UInt8.ofNat
@[simp] abbrev F1 (n:String) (x:AC) (h:Ri fun (u:U8) (x:AC)=>xq n (rF u [x])):AFn:=h.1 UInt8.ofNat x
@[simp] abbrev Fz1 (n:List String) (x:AC) (h:Ri fun (u:U8) (x:AC)=>xx n (rF u [x])):AFn:=h.1 UInt8.ofNat x
@[simp] abbrev B1 (n:String) (x:AC) (h:Ri fun (u:U8) (x:AC)=>xq n (rS u [x])):AC:=h.1 UInt8.ofNat x
@[simp] abbrev Fq1 (n:List String) (x:AC) (h:Ri fun (u:U8) (x:AC)=>xx n (rS u [x])):AC:=h.1 UInt8.ofNat x
@[simp] abbrev F2 (n:String) (x y:AC) (h:Ri fun (u:U8) (x y:AC)=>xq n (rF u [x,y])):AFn:=h.1 UInt8.ofNat x y
@[simp] abbrev Fz2 (n:List String) (x y:AC) (h:Ri fun (u:U8) (x y:AC)=>xx n (rF u [x,y])):AFn:=h.1 UInt8.ofNat x y
@[simp] abbrev b2 (n:Nat) (x y:AC) (h:Ri fun (u:U8) (x y:AC)=>rS u [x,y] n):AC:=h.1 UInt8.ofNat x y
@[simp] abbrev F3 (n:String) (x y z:AC) (h:Ri fun (u:U8) (x y z:AC)=>xq n (rF u [x,y,z])):AFn:=h.1 UInt8.ofNat x y z
@[simp] abbrev Fz3 (n:List String) (x y z:AC) (h:Ri fun (u:U8) (x y z:AC)=>xx n (rF u [x,y,z])):AFn:=h.1 UInt8.ofNat x y z
@[simp] abbrev b3 (n:Nat) (x y z:AC) (h:Ri fun (u:U8) (x y z:AC)=>rS u [x,y,z] n):AC:=h.1 UInt8.ofNat x y z
theorem fk {P f fn} (h:P.funcs[f]?=some fn) (A) (k:Qeh P fn A=true):Qr2 P f A:=⟨fn,h,k⟩
end Go.Ev
namespace Go.Pf
open Go Go.Ev Go.Proofs Go.RowKit Go.Proofs.Tryz
set_option maxRecDepth 100000
set_option maxHeartbeats 1000000
def c7:=F0 "]xzWDtELQtiWH]30qoz6de=L6?_f=gKAMQX<rxdShnVTw2Eoy]>s:bsDkjbGR4o>" ⟨_,by conv=>lhs;reduce⟩
def c9:=F0 "_=u7KwIa=wBrtVxyXz;=Qv8lwRZ6X9YP?y=1f5w1TtNpnSh[rRYlwTAVKIh6:9R7NA[FsW^GIYoR06<Esslz;I" ⟨_,by conv=>lhs;reduce⟩
def QrA:=B0 "GWzPXnbZNYyQXBoX9?umz]QJ;MZ1VmryeynBEzc8Z:Hxz_oH?VLKFMpQEo>:Tpo]oA3" ⟨_,by conv=>lhs;reduce⟩
def c10:=F1 "vgmQb]7pJJQYs:baBf^EHhDq4hlTC87" QrA ⟨_,by conv=>lhs;reduce⟩
def c11:=F0 ">9_I8GpHghhSR]o?IbDEwvCQd=omJ0aV=ME4x=KA9^p40^hHC" ⟨_,by conv=>lhs;reduce⟩
def Qry:=B0 "b]tkU8Qj^NDvJIzAD5WMhYzWe]B3ycAoy9xd;q3Z7cwdKI<K]hcjso4Wx?" ⟨_,by conv=>lhs;reduce⟩
def c12:=F1 "_gdeM9_54jmSQ0ixuJxZNGU^Kx?0Pa_<a2k^6B5Dg_MTNh3ZkzW4tpRk6kk5Wd8I3" Qry ⟨_,by conv=>lhs;reduce⟩
def Qv4:=B0 "Jt1fXxTIU^tevu>vxd?VQA4vrvVqtl:cxcBZe1[8<agF:" ⟨_,by conv=>lhs;reduce⟩
def c13:=F1 ":YSyiluWTb3y7oqL85mxKahcjGKfIaJklqtu0UVklnE>B]YSpLeJMRgN?9g33UZZjQmDHbR6" Qv4 ⟨_,by conv=>lhs;reduce⟩
def Qv3:=fk func13 c13 (by kernel_rfl)
def Qrx:=B0 "5;g80K9jVViIA:EWMU<W6Y=;DUM4SFNt9l6Wqrh>2uLbogn2o9c60j1" ⟨_,by conv=>lhs;reduce⟩
def c14:=Fz1 ["43vy0U7ezuVmc593kL>cPxWytHI1R9b84da:vJ=QfUy_2SWgAGY9tS=PkZV6QMiAP7NggAQa;;B[_YlKKV4P3edRjNJ52rlbbNg5","=s<BsMoPpXeH6[Tt=^bFv2V3fpcgMwPAe]D[oTjnLwo_bpWr3ib66^q>iKde2bNCfR>Y=Lnn9Jhqhq=8Hd;tyz>fDyAFUNekb7RA","Wo_mjyneRg6atEpzoe4DZD"] Qrx ⟨_,by conv=>lhs;reduce⟩
def Qru:=B0 "=PHbf^g3bvZIms6vKS:K:fq<>aS=JokngY:F_0Dg_P?[tjad:" ⟨_,by conv=>lhs;reduce⟩
def c19:=F1 "pdeG9tEvZ?B8uXa?iHAI1" Qru ⟨_,by conv=>lhs;reduce⟩
def Qrp:=B0 "E7y3E]9sWbKisjHputZ0csy_>V_3rCbAEH^6GTfwE:_1lP;ZMx6fHwYx2JdN2" ⟨_,by conv=>lhs;reduce⟩
def c26:=F1 "=jwuB4:oj3m;Hb]9EB74c]YUprIzSe4xVB3cY61<" Qrp ⟨_,by conv=>lhs;reduce⟩
def Qrm:=B0 "o_l0qp[LZQsSL;o?eMsT7NjpCPfYIMtS>aL?fP1?]bbPhXCjkgfCg_14J]C_QmuC" ⟨_,by conv=>lhs;reduce⟩
def c27:=F1 "g7HSaSXheKxv<YfdQsdxIkim8kmmZQ<XYVxkQLh=7[9xKp<<SbGXCe<=_uLIKYL9ML_Ijm:Nd;i3YzaMX?[BV1" Qrm ⟨_,by conv=>lhs;reduce⟩
def c30:=F0 "xtGFtmiMwP8ynqMeEI2zH;xIygqqWVa?NCmjNhG67vgwdSYQXK:_GpV;zHDy2zViGGfqjM5yGWDRI2=" ⟨_,by conv=>lhs;reduce⟩
def Qre:=Fq0 ["s11bSM5;tqI]Q8S7e]C<46L::K<^YmCHavm6l74CZx2vLh[=]6qJ^fPdhu77Lnp[LBLZwwWdyuxXB8Q_Sqthi^^4XTylS[NZLKkA","kMvMTa4qZg81<jDoTEt2VS_9QSQXfIblktAq91D:7"] ⟨_,by conv=>lhs;reduce⟩
def c34:=F1 ">Gz7ScN3AD58<aab8QUDP_s2n?zasza^VJh]gcqG^" Qre ⟨_,by conv=>lhs;reduce⟩
def c35:=F0 "QYc3ULqVGD]jTniKYmGiwApu0hP2" ⟨_,by conv=>lhs;reduce⟩
def c36:=F0 "ZX[j_WqHspBNyccMa82Xk>5jQ3:brgHLsJreYLoXmkCrA3Bxh^yz5UWcyn^ykAL5sNnJa?HvE<TSgDz7XTEu91CZFGtyirRrKtJUN21" ⟨_,by conv=>lhs;reduce⟩
def Qrc:=Fq0 ["g>PtMj6H3kNQ9LM^evC2EL<w8RTGJyW1=mQHZ]Wzf]S;YEslzDSCv[YTCL3kDnyCeDo;nIq]P;DwNLzfTqkH6YRh?N?rfr>fAz:=","X743A<<fJJ_nqZUY3rZ7<=1aKJoZtxB2"] ⟨_,by conv=>lhs;reduce⟩
def c40:=Fz1 ["<SGKtmltfGVIR9xBta=?ki0VinSWtl2>FnTmJS2hsHW_l1oeq_iE[r0RVRsHxl8zzzUmkSnL<EU_>V:MUI4H6PpEzZIwMJYhuZGJ","o^USG[7IoY9zMUg6ZRv4wc=j]t[9M8?v3DH?N=xHkkWHbDQJleEY4S65LU>rLoRQ"] Qrc ⟨_,by conv=>lhs;reduce⟩
def Qra:=Fq0 ["cYLx0MsRQSHa7?X[_p[q4bj5Gj7oNrbPc49R_y;0Rlhn^durrv8=vi0uxAJTrbfTgfMGzKPS7:VQ3?z2:D9oPC220ri1j:XS4b8M","?xhfz6E4Yg4Y8Nc8W0gxAUII^Kr3>s6lIY_AL1"] ⟨_,by conv=>lhs;reduce⟩
def Qq9:=Fq0 ["R3pnJ8_Khg2SAJFx^q=J2TVUEx9Y6lu1VBDDBuXvyBe]1K>AzXJwc]cG]lDP<R5jo<i:C_P]Tg4?Zws6E2fl>^WjAl=Tz0jUbud>","KN5cvf5PtamKRyK1>7dF2Uc<vYIvr4BnKj4vGigfrSu>HgtKLayvKe6]CcK[KBpi_3IKnNMF:Ic5_Z28UpF0KUcklqiiZ8dImP0X","2SkoD2Pj=v=="] ⟨_,by conv=>lhs;reduce⟩
def c41:=Fz2 ["hLG0LFsX]NsA2[4DR:5nbMr;n7MyQhwHYw3KhlXUg:716t9CFUXJ[zhtNgR0PkVqnu<jDVHegbBF_0u99GFnS3UF3k7i:CYW5d^1","Yq;q_e58ZX3pzCW22mPHlKwXaFnyd4u]=^5K<Nhbt5qklq2"] Qra Qq9 ⟨_,by conv=>lhs;reduce⟩
def c42:=F0 "y?QnWMT8bDKo:UvTxSSSQ?DWsr7XnB;6haXRMHR1EVWUB3d]7v" ⟨_,by conv=>lhs;reduce⟩
def c43:=Fz0 ["aP9coIuGQPxHUK?VF3vGuTNjvR:X3aae8<TbR9G2I3sjQQwgXS:txYTlg7?dPB2NkPlt95T_8W3A^zGJCSf]Z4[bqdb>vNajKq8w","qie7=M0HRDbf_CFoW:CcWZyRVfdGUfSR7E^A75DnAfNS07CK5AWWAfYszV[V>1f6PuJ2I9ua126nkWhAfcamjIp_XopsCW2Tmi^1","IiTUwtnU=HmCbt=QKHLbT:mzA04Wt4ivp4qDs34iiYTod7WCh;IA3wehQ"] ⟨_,by conv=>lhs;reduce⟩
def c44:=Fz0 ["vh;qM0v>e?<;LIxjPAGWCSH1yGfgr:]u8Cp0bY58_YlnPAJYZ;laTouUXEdiv^C_^Jd1CIZZ4L:B;FSNyk89W_Q6tEaZc6vXm?GK","mdNMRzzb18Yc>JY?G=la<YEvVllrc>NPeMV7MIi9c1gWZyohpRAPgiMX?R^bZ?1ZB^9dK^MbLFfREnWT0ak?wEEm=6W6a[NqjTI]","]6AyR2SCTQ3hH9LJQR7ftz4ZBz5Vwa_<q5de4httI^4GxbHLbjlMiMkK3Ya4ux[_uN_D1MS3Fnj8ERsvcUKr]Dro^4AtcPn3^S8C","yg7iB>JrliD4WIP7De8JxV^WRZ[5Z4tg[TPAnFlokjg_[aS]r2DH9j5f=XasmpxUIHeW9xrR4Azzf[RdV4u;=Aj]TETK3[?3krpw","^hZPLaIMB[jltNc7vHV7xJi[GhgFiE1>]K[ib=]1p=;VJ_Y:VT=8RxYWvArShp53L9M=u?p=K<XVm7]UUgt3W:ypcZc<hdtz[J5j","0iv5=uKF7o_K02JYE83EaQR?BvYzNCv]Wa7K3SwRB2[zdiSN0UY1gVk>Zy6q^DTi2oe^oCT0fn>KSUGa5W7c0<HXnc6A4;XxKiW8","ZsbYXb1khWen;SS<_iwWxY8nbngLD6z3oJxC^E0wU2Se[3n9GQiB>NqQiWLkr6z:PT[5]vkjJ_4el7w?ruh[mYGiBTW]jdoAjm^L","?uh3bbg3BQdH;C;?jnFKLoYut<50mokwxT8tw_ay?_VIj7welU"] ⟨_,by conv=>lhs;reduce⟩
def Qq8:=B0 "QUGPiVgUU48aUP>=>pyVG^7Lo7HcQ:Bsd[a6WUNAV;ihYntjpQdHl1<gDERBV;0Vepeu:FU9LWE?6?Vowma1BK" ⟨_,by conv=>lhs;reduce⟩
def c45:=Fz1 ["DwaGoyqZAT;kYWl4ldaUhr1SMqL9PIJ]ZwJHfm>g8^:2[bzNal^;vgzFSBvand]Vt]Asyc9EtxpuW?h_?^rvsSGPa0l56Ebza6Ly","myT]1VUUL0E98oeXAfc]XIH?Xmq0ccUAXCoJ>EDFx^:GTb9vZG<67]LtV3"] Qq8 ⟨_,by conv=>lhs;reduce⟩
def QGr:=fk func45 c45 (by kernel_rfl)
def Qq7:=B0 "t;5qy9zDctaaZlp]9N^piumPr9tE=l^YYlN1d_pQEf97D;_ZIaP_4vjxX60M_w:GuEf1vh6nt=lwbzpP=7KPD?^G]UL" ⟨_,by conv=>lhs;reduce⟩
def c46:=F1 "EoYs];ZhxTT022mnTJ72FAyJbaFPg[KxnVH^VIItjL>MfdxRVmsmEr8t3SqxeK2Mt:DPYUr9]r4moU<" Qq7 ⟨_,by conv=>lhs;reduce⟩
def Qq3:=B0 "nygM2[?:zQ<qZjjQcaiLceHPKxLo:C^Mzt76yPNpTCNGECaIXTF??^YZqkcutI7Ac" ⟨_,by conv=>lhs;reduce⟩
def c62:=F1 "Jy[yqNsnUQ[mpS19RKw6K:?=TMaImg]Tf9V;Ac<=HaqDA4d=Ldt6jcm[sY[D0SzqonWMdD6NMEuwnqeC^<?T31LAnY;Ss;cM;teV_smkA[Ne;Qe1" Qq3 ⟨_,by conv=>lhs;reduce⟩
def c67:=Fz0 ["BrvHl5zbcDGsgvrMo9MPS4zoJ8qcYcMqs?YvggF6DFyD7l_GdrXgM6CGMy;VNN6VPQ]5ekK[9HJNyA8pvt_H?a2y4sL]<^a=D2Y[","jw6m:Bp0CTE<hUfjA:GWs:wMvJcsa>bnwIB0JjoEnf7cUr_2RArj[im6n3roT::LwKW74;q<W?TmlSdP?97Sk^GnQ454=Sse^7wg","=;pI;jH"] ⟨_,by conv=>lhs;reduce⟩
def c68:=Fz0 ["iec3n1ZTfh<uiud:nlKot4G1k7FtbsVmg3<VYiFzgNEYw617l8U_zLEc?vVmr01q:<gvmxAfgE2kn>LHrd2hA;BDa9GdMh1ulr8<","]N]o89?yQC1Kl_DJb_h0aY5p3zMX]Kw9xmjKdd5Ked<zl=KddsviyGsSvd0S7xUixyq:AU:uGvFENiSE?Yk3"] ⟨_,by conv=>lhs;reduce⟩
def c69:=Fz0 ["Fb550JT4^p[xLz2DgM=GKJ?k2H=JQn6TgyI9rD73>CyB]8?alsp5Aobm8UBTXea54s8ddM8Q4fV_D8n5=8x;z?ppsPig?M<T>uC;","f_JwG>g5>2jhvL[Q8R4m:rBkn39M;BMUt39UM6_q2t50DlpZCtZaV^;=3SfDWAV>xUBZDXBwc:"] ⟨_,by conv=>lhs;reduce⟩
def c70:=Fz0 ["j4bmD8tsWjC9[g?]HDLUp:cp>w5zo_6=aZsXYqBHeJVJX>Lccyh>M5U8D90H01]CpIE32FpN9Lbm;Z3D95kTFTu58vgkMj1v4G9F","<vP6me2wo?weVkjqGYYKJ[clb=a?urLfpWP^vLinD8P31o^AZ[JalFcX3jI6Ms37o31<Fv;fvM2"] ⟨_,by conv=>lhs;reduce⟩
def Qq1:=Fq0 ["mMW>j9?Ewzm6ZjUAj<0N5sie3ZuoZW[duttKHByMSvTqRdgSGMhTJAv1xw_Sq2nPxh]177HzxUgw^Al_;4mim>RavEloK[^e2wgR","H;]zzsruAMIEN[sJCkD?HU=U^_1AKqMfNw^Lbp^W9Iquqs1"] ⟨_,by conv=>lhs;reduce⟩
def Qq0:=B0 "UGPfZk?[DjWu]XZo=6mQjEEuC?E0KILpNgnGoN7B9aG<3dqBAXJCVs7GEIHDybB=JuY[Q]b[i48nFomXs3:vK46kqAghd06G8BmG::sN:ARCV<m:mDE<xD0c4aHW" ⟨_,by conv=>lhs;reduce⟩
def c74:=Fz2 ["]qIcpalrv2YBlS0;JA<p_<CB8Y_A;KTpPKexbgdamQJp8e95xarJ7MpVTonu4u3Q;y7joxLEbUgit2^sD9eIU^7<K>_[Jt2:ewU<","q8;CdgrrTw]WyplJwsJZtWoKxkqu9bp:jNB:<lQ8uQ7Wl"] Qq1 Qq0 ⟨_,by conv=>lhs;reduce⟩
def c75:=F0 "dI?Qa=m_UfwejTc;tX1" ⟨_,by conv=>lhs;reduce⟩
def QqZ:=B0 "1mVgzGD3]HLv;S^<44I8GWAdX]q[74npslMFvXcjZoeYaWM7RLe]kRJ5R" ⟨_,by conv=>lhs;reduce⟩
def QqY:=Fq1 ["1K1z6dbp:sfeWgUpv09KGq2Qc>MhNP0mZ92^MAp[Mc4;Q?G<M^m:j;8<gEX:a9CVFfw=jvmSw6;0PzEzDhlQaAWYl^kYS2zw>wrJ","Gu0pcFdxPDG<3<NKcKiP[E8e83mT[FXdbL8vM^F2MhlJUQ5gC71wzDFsj>;Tz1FvoFtAcE[3YRhE7Wkc9sW:1baKR0;j9snhACJX","dC]aaueME^y<=kfIsUCFc^?FpMHvK5e^GV026BWEU_DnKnKEM[Ps?JGk986:zVUm;Ac3IwI:TbZ[J[n6HKqXsVGBKPic9mumyW8N",">Lh]9FS7^2Im4bas^j1Sdv>HaI"] QqZ ⟨_,by conv=>lhs;reduce⟩
def c76:=F1 "5TW^UD;0FIu3gC?T<AdsJ^bZpBAwQD1lC[NXE2Z8kbH1k2pvw2_Dr[" QqY ⟨_,by conv=>lhs;reduce⟩
def QqX:=B0 "pQ]tAhsWli=z4TTV<0E>IN0XBoshtol8Rmmg^:GWnMn2fTrSzXeuYnYFgF8YJ1" ⟨_,by conv=>lhs;reduce⟩
def c77:=F1 "21JpAL3b_LLQc^I>ep_]h_ZK_bkTC87" QqX ⟨_,by conv=>lhs;reduce⟩
def c78:=F0 "cN7VgAlR:yxe7fSB2fYQSKGb=Uyk8tVK65==Jbo[c5A1aQrDac1Ta21YcL" ⟨_,by conv=>lhs;reduce⟩
def c79:=F0 "dI?Qa=m_UfwejTc;tX1" ⟨_,by conv=>lhs;reduce⟩
def c80:=F0 "tDX[9AQcb6oPaRl3[YZ7;HA" ⟨_,by conv=>lhs;reduce⟩
def c81:=F0 "dL8gXiutMofz7C>0u>uWI:SUC]P2" ⟨_,by conv=>lhs;reduce⟩
def QcS:=B0 "Y]aN;BrN3" ⟨_,by conv=>lhs;reduce⟩
def QhZ:=Fq0 ["21M3UrpCniFVqgFazBT03bE^?1?ghPfn;Z<G5e?<R75ILyGhfsFv8jEfc?kFtMVLk^NLFAeo9Zp:4cxYjbYgReU<sM=svXIB8;y7","2Zs1^FupbGz05uHXNW2gTt>4DlNJ=Dv;V4MV4G]6yVC_];mjJIIrxH[:Xl"] ⟨_,by conv=>lhs;reduce⟩
def c82:=Fz2 ["sni0AyP8Bd6bK3zTDX3nq4HpL]6:D6>bQxFs;xXHGKWQ<FvHKZZJ8A?E>mcPZ;>HB5opyuX0Pwu:hS^2jAoWZv3St8[igE8M5y?a","Wf3o1XZTL8qtviuVF;pg6iWTGi3][?o:DDHX8?HFZ2]dk:SD>d[TecdniJcvN2"] QcS QhZ ⟨_,by conv=>lhs;reduce⟩
def c83:=Fz0 ["E2<p_I=ULwWZEXVSk8:;sX^CzZTimLlP0FczWP4xCi=4J_i7U3vM03v7Dp^vaDWJwb?Zt[Q[pFiXdUsByz;Mt2_vwcGl_:o10h<[","CwE6ZtD5<>FUBT3y;Ybc6zQcN;<kh3XLY5<2?PxV_Da3Qbj]eHuDyN4SefYM2:lXQn7>uYKid_q22"] ⟨_,by conv=>lhs;reduce⟩
def c91:=F0 "AyoaJqstx[ls3qDBmawp:1y>?9rylx4A1:5]brqw9n]qxaUsRdZslouEaxHnblGa3<" ⟨_,by conv=>lhs;reduce⟩
def QGl:=fk func91 c91 (by kernel_rfl)
def c92:=F0 "ziutUTPwggBu<wZMsFZjg6=6rnDkj27ZRhj4Q;JeM?^P;bF" ⟨_,by conv=>lhs;reduce⟩
def QGk:=fk func92 c92 (by kernel_rfl)
def c93:=F0 "Y15g^0BRh6PnyJ>uJI32Y]he3WsX" ⟨_,by conv=>lhs;reduce⟩
def QGj:=fk func93 c93 (by kernel_rfl)
def c94:=F0 "WWivWWu_TkIWyv:>dc<VZ1Taqc" ⟨_,by conv=>lhs;reduce⟩
def QGi:=fk func94 c94 (by kernel_rfl)
def c95:=F0 "8IVmzCzn0vqlrGbJbfW1pVVj1[ZbfEWeMEZbcNcyJakmS9]6GVpklK6GBCj6q^<NYHbu1kA3GycXz?6a" ⟨_,by conv=>lhs;reduce⟩
def QGh:=fk func95 c95 (by kernel_rfl)
def c96:=F0 "K_42u_26_jeq3y:>dc<VZ1Taqc" ⟨_,by conv=>lhs;reduce⟩
def QGg:=fk func96 c96 (by kernel_rfl)
def c97:=F0 "lc?5^d6G=jKX6z:>dc<VZ1Taqc" ⟨_,by conv=>lhs;reduce⟩
def QGf:=fk func97 c97 (by kernel_rfl)
def c98:=F0 "?gK8Fh:Xii3?90;>dc<VZ1Taqc" ⟨_,by conv=>lhs;reduce⟩
def QGe:=fk func98 c98 (by kernel_rfl)
def c99:=F0 "bjzNRxyeQv7l;TE0P9PJ7pin70e_:uo]hftwpvW_J5maK" ⟨_,by conv=>lhs;reduce⟩
def QGd:=fk func99 c99 (by kernel_rfl)
def QJQ:=F0 "iUx<k^MXhjdQSnz5nX1" ⟨_,by conv=>lhs;reduce⟩
def QJP:=F0 "h4Un]q0n1slku[hmYKp>s:8ihp58SrUNMDB<U]rgZ32" ⟨_,by conv=>lhs;reduce⟩
def QC9:=F0 "Nnp3H87dkEg;_jsau9TV66GB:qmn;c;^hftwpvW_J5maK" ⟨_,by conv=>lhs;reduce⟩
def QFK:=fk func102 QC9 (by kernel_rfl)
def QJO:=F0 "noGBsdu;BV?ZNp_XCGhLvmwIaq58SrUNMDB<U]rgZ32" ⟨_,by conv=>lhs;reduce⟩
def QC8:=F0 "aZ[7Huscr>_PR3dSKWQ92vFaSZpSIyZqHfwA" ⟨_,by conv=>lhs;reduce⟩
def QFJ:=fk func104 QC8 (by kernel_rfl)
def QJN:=F0 "Rv5risPf<Tn8lMuZfx>hW4" ⟨_,by conv=>lhs;reduce⟩
def Qle:=B0 "KG_wux4JJMh[vt3Jbgo6LKQYLvVGWnlqp<9V5mKYH7pLmSPi;Vp69welQ]Gv2" ⟨_,by conv=>lhs;reduce⟩
def QJM:=F1 "XjhW5lFwp6N_Q>MKEFRSA_<ISXe>d]0eg1K6Z7oGTwiL3:N=Y7AETC9Qfi7Bh9Jad5f[YRvIH]KzR8QkGP8" Qle ⟨_,by conv=>lhs;reduce⟩
def QC7:=F0 "QpLxvv0EBAG[6dyRMPPcvSXeD_YlEJEzXDXIDA6:e5DM^5H2xK^^;" ⟨_,by conv=>lhs;reduce⟩
def QFI:=fk func107 QC7 (by kernel_rfl)
def QJL:=F0 "H<dTlPv_8nRQS_3[[vFUM89ZrGBgACqk5" ⟨_,by conv=>lhs;reduce⟩
def Qbs:=B0 "9Y5ao:TqoSZlw2" ⟨_,by conv=>lhs;reduce⟩
def Qf1:=Fq0 ["3r?mP2UbyZoJV8d;_bY7JrS<1I5PyN9En<PY5SoX0[Mz;oK:^MR8:fkaUnUKmp=G3gu<<>2h5;mSw6a5PXfVG>xZr4=j?vHsGABZ","NdBY[4^6T3Ulo2unCHPvIsr7x4CR>Ke<^[U>7U0[=RvB_gF4<tX?qmg4"] ⟨_,by conv=>lhs;reduce⟩
def QJK:=Fz2 ["X8B<ZZFgzvp;54XBCv37hXcca<<^MJp99ZvJc6HH2>^2[3QkcG;vh3Fw>Qtlf55Y5KrF>C7YlJEj;uliTEw6sXUC4Tor1MUIluxq","[t:8PZ?G=CsR>_o<xr^U8GoAN<jDVD5cH;DqXIwI5"] Qbs Qf1 ⟨_,by conv=>lhs;reduce⟩
def QC6:=F0 ";C>b5AsGA4qI>?6PsHK064Gyt0<XBtxnKLm^61>lDdL7" ⟨_,by conv=>lhs;reduce⟩
def QFH:=fk func110 QC6 (by kernel_rfl)
def Qld:=B0 "<k=Di0L?b2kNPpjtizeyyohwqJ[Va^LrL0oe1IVab^5?vr?K1EsmrcgzXMDn?mL1Rb0LLglpph7MAuryWL5G9" ⟨_,by conv=>lhs;reduce⟩
def QJJ:=F1 "J<IIuPChkRcj<<b;ru=llL]FAl6d;^ShZJfDppE:V]zZtZTG5owr8yXunQCF474Mf1[?wx>l;[Z22H3IJn4H;mjI=eFaw^MBNyU3?ZhsLtqV?cq385J>yD3" Qld ⟨_,by conv=>lhs;reduce⟩
def QC5:=F0 "erfaXS<VU=C3KF;_]>rSqqe02GnN^AC=>zbx5UAlDdL7" ⟨_,by conv=>lhs;reduce⟩
def QFG:=fk func112 QC5 (by kernel_rfl)
def Qlc:=B0 "6R?IaIhz;zcv[u3J=H7T;G7LU2KDL^nnPqDrmQJwjnjYlAzdW4pwe<NVgHu_yBv[8rJwCa;IIz446JN_" ⟨_,by conv=>lhs;reduce⟩
def QJI:=Fz1 ["EZm_sQ]vyfI^zhnSiRTZ]cBG]IGAha1EEEnYv>w0_Bjehzc?fmg3w]obPb:N;<uYNg?aNzAhNDuf1HfDM7q;YnzBI;xNrgfKkYXl","UUZZSoA06R5n>dN4]qqmwoQCh]FflIMaDKjQvvhH"] Qlc ⟨_,by conv=>lhs;reduce⟩
def QC4:=F0 "JLX45Y;MH8ZfrChT2[W87ryZ7Jc5cFDgoe4" ⟨_,by conv=>lhs;reduce⟩
def QFF:=fk func114 QC4 (by kernel_rfl)
def Qf0:=B0 "f^xMfzD338qUCz2" ⟨_,by conv=>lhs;reduce⟩
def Qlb:=B0 "oEWriBHc4]7twUmm=tDCzgv;8Cpgm=Y_FHwZhK?8FhctH2ryiZA2" ⟨_,by conv=>lhs;reduce⟩
def QJH:=F2 "=xWEdPonlwCsk7uG><_lXVfB3VFU^8NN]5z:6D?BZE[94a6mQsRs642T19xn127ByG_U;fRCGoY6W[V94ToJvGJ=qSzFF07oaW1AGDbh_ioNn4:L" Qf0 Qlb ⟨_,by conv=>lhs;reduce⟩
def QC3:=F0 "oY^55JVge>eZk5mYid1rNUhDb^x3QHDgoe4" ⟨_,by conv=>lhs;reduce⟩
def QFE:=fk func116 QC3 (by kernel_rfl)
def QJG:=F0 "Cr8ZeQCBQyfGIR<3E^>NKuAo<53rxcFPFK5R[9ZEccZKKXFC>VdJ^gRtVgo5mo]To<8ewZV]g0Fhs<C3_W7v4k3yzZm" ⟨_,by conv=>lhs;reduce⟩
def QJF:=F0 "_vn=0WT8DIp^iaf:[MRbPWd3[2T3YcBYF1" ⟨_,by conv=>lhs;reduce⟩
def QC2:=F0 "=53FIBEbAfFmCCCQshS?EE4R;5w>9ZHxz2iA5EDlDdL7" ⟨_,by conv=>lhs;reduce⟩
def QFD:=fk func119 QC2 (by kernel_rfl)
def QJE:=F0 "nIwfctpNIkV>vJ5By56b0l3AY2Z14tz7SpXN6R0w<]CdkbTy2cVikx65XA6" ⟨_,by conv=>lhs;reduce⟩
def QC1:=F0 "zJiGjMG5VkUXU?^G1izap]yg4d<76EDgoe4" ⟨_,by conv=>lhs;reduce⟩
def QFC:=fk func121 QC1 (by kernel_rfl)
def Qla:=B0 "uoB1Uu3VeRCl3oWtP5arb:S3M2_Un8?KI6K]f>dWa_BlVHBhf7k:nUV00s?lJpGFeyD9a" ⟨_,by conv=>lhs;reduce⟩
def QJD:=F1 "m>QVHZcP^U?18lNId;K[GyE5RSxnJx2NZ]Vev?Rfanrj5ojGQfCvBSw8>KU2YI7f^dUrUy0mFZW^wr?y<]kEJRwz^VApz^Y" Qla ⟨_,by conv=>lhs;reduce⟩
def QC0:=F0 "EKdlhERrojs_B6Rt>dsX9XhDb^x3QHDgoe4" ⟨_,by conv=>lhs;reduce⟩
def QFB:=fk func123 QC0 (by kernel_rfl)
def QJC:=F0 "UwXVcbX]Jl];44:T]MRbPWd3[2T3YcBYF1" ⟨_,by conv=>lhs;reduce⟩
def QCZ:=F0 "jDb;inC]nrCr<II;f=krN5h0]]A65FDgoe4" ⟨_,by conv=>lhs;reduce⟩
def QFA:=fk func125 QCZ (by kernel_rfl)
def Qrz:=B0 "^^gJB]wTIwrEAXfux]Aqbw?fN=^lkZQvWMypa_:7WnMld_Qty5M=H2" ⟨_,by conv=>lhs;reduce⟩
def QJB:=F1 "MnwgTieLQ5BY2:[XMIUqd43liUaLSWhHdQTqZv[o0a924QSl=[eXQJeSWxqKME]A7jTLK1s8;P?msr;K3STFA9kAHDJzmhDkhd_k]6:t9rR5ZcD2K81gI2h0JWA^I6" Qrz ⟨_,by conv=>lhs;reduce⟩
def QCY:=F0 "[rcMaSBGXhHA0dYDW=h7H6h0]]A65FDgoe4" ⟨_,by conv=>lhs;reduce⟩
def QFz:=fk func127 QCY (by kernel_rfl)
def QJA:=F0 "bR?h>Wms0Bjsx6P6[iL4fJ?Z:2Wy]Ezf97ux8nmS5PgHAwgBHsyrPcqByfq9jzgdluwt>IKFH" ⟨_,by conv=>lhs;reduce⟩
def QCX:=F0 "YDF?pWu>Xb1V3rtIldfl:WjAfbcD^rIYRA41" ⟨_,by conv=>lhs;reduce⟩
def QFy:=fk func129 QCX (by kernel_rfl)
def QJz:=F0 "zCHvk7N54EC>[D^tjz=LhlLeKzQbidEK?ur7bQC[LRhy>Hehmfd[KI1>uQiBEtNRi" ⟨_,by conv=>lhs;reduce⟩
def QCW:=F0 "D:RYYPvd2KGgat4i]fgo:oh;S]hM:iIYRA41" ⟨_,by conv=>lhs;reduce⟩
def QFx:=fk func131 QCW (by kernel_rfl)
def Qk9:=B0 "??X_mfdturZXHfav_wNR11KSgEUnMmJsvm_l1LKskZvvz_r=:" ⟨_,by conv=>lhs;reduce⟩
def QJy:=F1 "RSqd^Sp1I4dhyLen;scW^AWQlwEPUGN4S3bknaoA6kwL9LN5lc:n>yLx8ihYyyF7?cWYxlmbXeLal]1b" Qk9 ⟨_,by conv=>lhs;reduce⟩
def QCV:=F0 "kW74lSRH>rnT4ckXrLC:itwoWEunazQMzcwj<WIdRrAc1" ⟨_,by conv=>lhs;reduce⟩
def QFw:=fk func133 QCV (by kernel_rfl)
def QJx:=F0 "91aUn7oR?BT_C=k=V0zvyYK369nLZvDul6=H2w8zhYkn2bT>rSuG6U:wCTfR_?XBT=Qcg>LtCyC4zoz_97S?PzL97GL33" ⟨_,by conv=>lhs;reduce⟩
def QCU:=F0 "b=<ng[owH9QxF72y7F3s]KWgeUPZdBkE3<vqTB;cRrAc1" ⟨_,by conv=>lhs;reduce⟩
def QFv:=fk func135 QCU (by kernel_rfl)
def QJw:=F0 "1Y=i7>fuc>Trqch<barFexG1QXe10m4>TW<HDA>k2KkRDMQsDc6upRJP<ELLZJ2ztlbMQQ6QDIMug5qv_pt9FW2Zqp=yGAUPQR7CF" ⟨_,by conv=>lhs;reduce⟩
def QJv:=F0 "<AizVB5WrhbIvN]D21=[93?1?riBlj>JjPH2=lykpS:7qpjI?9u9B;4EPcoGCYEZze8XAxi>tYCL?" ⟨_,by conv=>lhs;reduce⟩
def QfZ:=fk func138 QJv (by kernel_rfl)
def Qk8:=B0 "Ql_eqioWvJSgJBme^P1:93ESw^8]NnbA7>s;<YPI<y:uzGUGN61vLD843lIeqxYk_pMCWn<C=W80uJ47rw]GhwT<W4xfvTFAWUiw<bnj^3" ⟨_,by conv=>lhs;reduce⟩
def QJu:=F1 ":Sl16NK;Ik:hjtBV39cXau[^0ygRpA?wp:j5q" Qk8 ⟨_,by conv=>lhs;reduce⟩
def QcZ:=B0 "ELiaGRIFiytr]Nw78Cg1:cUhknFNGUC[q]A<>Qe2ZJ5xzq]qIISZ^I18?d02DoytCNEbPMIeW?SUP1PMT_:W][k=Q?ScBJfR[F9z?sdt3" ⟨_,by conv=>lhs;reduce⟩
def QJt:=Fz1 ["4aAmsLcNG5?MfG?VCxhpEc8ka^2ZduRmbxGoIQSgqhpEV_oyCnaWfk4B8C9SF9JiTSJhtTr1>ympS?suhzIANprZ5yIctcNYdU=e","1tmJM0ClbP_8zPYTMCrIj8k7Nw7H6v46n<5>MW0b1^he_f]9n0CB0VCW>I4UVRjFAgt961"] QcZ ⟨_,by conv=>lhs;reduce⟩
def QJs:=Fz0 ["MtzT;oXA:o<^TS56oek8^Y7D1A>8pFmeVD<FzGDQ0MV311kTP9GtIFRAqa5A=tS3I:?JNmea3fT5vx]44AMqxQ_mr4hqErw6Ws;;","GgH_c^opaTa4>I3j01]o=FCXhIqjUk]Q8v6For=1pNA?te?1lVDA1PV^GR<KqNqn_^N9U=79Ss9tH5]DhFfrG_A62_B:S^Pj<jcU","MCIAeGb37:pDna>Xbok?HkBel0t9F13LnVGqr:qNVtP?:jjNXG2sgR2kddMR80m<jQqxp6hmp5^5XnoF7FX9b;RoA=4]:r_=hkzj","Q=L73CwC48BdwSFHcoUXDLVmVGli=y12]ZEKUy4Tax75aNh0Br:iweVYm^cGZkz<D1q1c7>CKwpkPEd1bS:YyACPQ5rdr:ngRoEl","WS3Ugdh=[eG;fZ?c7i<p;Q>>7qX_zj]09<MsHz<?WKeufsoJ59immZ]pHqdGyN00wTgmTI?axQGMm;I9rMjY0e4qI8xh6KR^FBVP","^42UoiaXjEGff=3zf6nm=50ZPUeQbcVKE2BUN0npdG^gbonXN7e:2A=;qU9jzQZR"] ⟨_,by conv=>lhs;reduce⟩
def QJc:=F0 "NzZBL3gvn?x6Y6SakM2]<Y8daVmS5apX>wLU<HEes3o4Xu9_W1pnx1?0cJf09hG[X:gDXBakR0mR8uRr303QBva4KfSw2BFf12?47HeN23" ⟨_,by conv=>lhs;reduce⟩
def QJb:=F0 "dDh<[cZhoN;2;YJobTRuqe^YUl:" ⟨_,by conv=>lhs;reduce⟩
def QJa:=F0 "jPllwNAjWwCLmSo0t=y;RBTJTAdYWMobH5?i97]LuThJVEifXq50[BT[^2emFc;jtS:FHYINoIZ[e]FwzmB?Tog=z4?zAHy:BF2qMAs6oj4X=L_1" ⟨_,by conv=>lhs;reduce⟩
def QI9:=F0 "f9aXyf=eQatzone_RjI" ⟨_,by conv=>lhs;reduce⟩
def QI8:=F0 "B7>4o[A9]P[igEo6vomxQ5Yqw?Qb>2=l5" ⟨_,by conv=>lhs;reduce⟩
def Qk0:=B0 "AJVINlWiKID>Fm63BV5Unp2KY2p>haEuTqCA:vMQ_NcCT1>qzMeo:sbYE2xqWHWZlVBeeF6KFf;aXZeLP9<v?F75=RFVEAYKwEXWzKHtb1yH<" ⟨_,by conv=>lhs;reduce⟩
def QkZ:=Fq0 ["xgJFI8?s[?;gk<jNJDU2EzP5nhL6^Ig=fIE0ip5EH[3r6es>bajxlsmMJalKUw:ZjyHyI]8hFSa6Je7Eigm2^do[xaGupk<D]c^e","U?iGlutLx?SRtpeHIYfRmKJs3dPFb8]CX1^Y]Z6?;Y4"] ⟨_,by conv=>lhs;reduce⟩
def QI7:=F2 "L60>7bn=5X>gR9JBmg0_kiLWf[g4Vpc5v<1IzS9ooul<TRRlPa7<za[ddh2_Nmh2DsF2o>Eq[_Wnr:hXqsTYKqbsj4PdWW_1G2b:ht;>?ktHd;NN[MQiY>" Qk0 QkZ ⟨_,by conv=>lhs;reduce⟩
def QI6:=Fz0 ["vEGg;3D6DBm0a^xsl43SrJpvd_QR4Ii:7>BpIg_HFnIV?fbxvEc4X]KYKteDS:YE6?gml3trfJXhT=IlJT=JvpaZ;o5nIN?K3Eh?",":V8f<dAGs;J7>yvE11qls:3n=md0<_v0vLlP6e5>Y^Kx=ikoP>MAfhwXCkVIe_Q0ZHtCCGGpc4J=AgfE?huU=D;"] ⟨_,by conv=>lhs;reduce⟩
def QI5:=F0 "QYc3ULqVGD]jTniKYmGiwApu0hP2" ⟨_,by conv=>lhs;reduce⟩
def QI4:=F0 "FRan41SCiC_Pq4lPP" ⟨_,by conv=>lhs;reduce⟩
def QI3:=F0 "Ti7GFqFxfIDxtadP:qf1bh;fsqNNBcP45^D_>8Zhq5toDV_Gv5:JI10U_=IzuUi5SEa" ⟨_,by conv=>lhs;reduce⟩
def QI2:=F0 "^zuFVJLj;>HisynA[fx2H<Lr0;9_0Yw>[q4=k=" ⟨_,by conv=>lhs;reduce⟩
def QI1:=F0 "n=nzjV]qA2?Mf7aR62D<r_865Lh2YjRddDD<GGop6Hm3xh]sILl5:5<VpoJ[gQZCjN^" ⟨_,by conv=>lhs;reduce⟩
def QI0:=F0 "QYc3ULqVGD]jTniKYmGiwApu0hP2" ⟨_,by conv=>lhs;reduce⟩
def QIZ:=Fz0 ["lK:[UlDuhlL6aTS<1I?S^XBLtTnG6=MB<frL<4P?SX9a5JKrmaun=Pa]WK7XPovgm2KG0kW:jMyKIqc[n3F1[9IzhvKSfPHdP9wo","aWiD57zVReeBPplRnq4NW;EAYHJ17IHx]<tj7"] ⟨_,by conv=>lhs;reduce⟩
def QIY:=F0 "tDX[9AQcb6oPaRl3[YZ7;HA" ⟨_,by conv=>lhs;reduce⟩
def QIX:=F0 "ALQn0^;YCelNq;3u^=06Fitn" ⟨_,by conv=>lhs;reduce⟩
def QIW:=F0 "tAsh61uk8[Budtfze=06Fitn" ⟨_,by conv=>lhs;reduce⟩
def QCT:=F0 "EgEm_3sFkB;wB?<>dc<VZ1Taqc" ⟨_,by conv=>lhs;reduce⟩
def QFq:=fk func177 QCT (by kernel_rfl)
def QCS:=Fz0 ["ZKQJ[B<lAlxXNYJDQLj10kfWZ897r64>hi3aT1vlRX7Uu2[RaxSTJRZ=wdrhoif=xIK1FiRRzS6CFVmpNsvEb;xDdNzrsgIYsnSi","X_6tu=<vr>xbDjev2iksm2eT8RvDm6Wg>AvmyKiPK[EZI9Se;CJ8whI]?0S[=lArUZ?^4"] ⟨_,by conv=>lhs;reduce⟩
def QFp:=fk func178 QCS (by kernel_rfl)
def QCR:=F0 "wpvo]9YXmJlMiR:6ozq=u4vm6WRc1;c3:>WZK7bqdZpxboG8e5rtqjUkRze51Mpx5^ih[]tjULz32ISVDSSptX_qmxjh>ylgxL5<Y4q^<^PcJlKn0EzL=4" ⟨_,by conv=>lhs;reduce⟩
def QFo:=fk func179 QCR (by kernel_rfl)
def QAa:=F0 "o5l3][Vlroky;9QnDlc73n5<AJtfnUv6^VNdWDe8Y1?U:p]cI6xF^UU>]Gq2SenkhDp8<1SL[gC_om3uoB99zoHNlf9Y2w8_XguEjB9<NrBiWmkTLdR>w5X4" ⟨_,by conv=>lhs;reduce⟩
def QFn:=fk func180 QAa (by kernel_rfl)
def QCQ:=F0 "uHzkA4YhxmfAXfWmnAsxI2^ol_QUP=K6z]>nJwTqNks6R9Xyi>JNI5SqWwXZ4UvBIKFyQJfeS<iDZJaj<5E287KpWwQZt4P3" ⟨_,by conv=>lhs;reduce⟩
def QFm:=fk func181 QCQ (by kernel_rfl)
def QCP:=F0 "SLgBeeg:4vLe:f9BfJeoJairg9F;YoK:FZ<k?ljcrUnjwCwBzBm1k6Z9E_weARe9gYZjbhivQ19IgZQA=>Id2" ⟨_,by conv=>lhs;reduce⟩
def QFl:=fk func182 QCP (by kernel_rfl)
def QCO:=F0 "SKkH6u41uXAKJU7d>W9z00I9=h19J9<UR__;_AWI7QtD4eUBjd8Uoke>>lpsmec9abAfWWCWif7741;d=CB]]]DkDUgUCk[7u9URX_>gX?SZILHIv03guobRK]wU" ⟨_,by conv=>lhs;reduce⟩
def QFk:=fk func183 QCO (by kernel_rfl)
def QkY:=B0 "xoGTWQagi3iUZ978dkNzNuL[]JV<3jepm>4XbI_L=BB;Du" ⟨_,by conv=>lhs;reduce⟩
def QIV:=F1 "p0BVl^BdQiCZEJv^?kuvQcI125M^mNPzjIGIEPL>hroMX1tf>UUi0x8dHmEtvgMkdxTw4GR_Lkoj7x5^y_>t4[ut?iuenZTD_2THkp=i2wsaZp>0_U2LDIap?9" QkY ⟨_,by conv=>lhs;reduce⟩
def QfX:=B0 "Ja0NSmY?A<fqn" ⟨_,by conv=>lhs;reduce⟩
def QkX:=B0 "9cEdjxvEC]KWPPJ^a7xc6Mg?g^BkAiPPF" ⟨_,by conv=>lhs;reduce⟩
def QIU:=F2 "rXww9oMVq<D3QLW^q9J:a31cwsAL29UfFnXuXGIqgm>a9IK:D>8Ny[9Iq9MDK8zEZM5p:]XimU;UhnDJfjvq_htU_4:C2XJq?SpoVJQ3cmxr24ouwy2yxN8zkBj;M" QfX QkX ⟨_,by conv=>lhs;reduce⟩
def QIT:=F0 "o1_LHdK7JwL^q4lPP" ⟨_,by conv=>lhs;reduce⟩
def QIS:=F0 "2sr8cwlFVz;ekpYT<:6>ku?D=" ⟨_,by conv=>lhs;reduce⟩
def QIR:=F0 "u^;Nje44NrYR;1rWozAg=Wo>=KqX" ⟨_,by conv=>lhs;reduce⟩
def QIQ:=F0 "6E1pwaxkm^c_q4lPP" ⟨_,by conv=>lhs;reduce⟩
def QIP:=F0 "EvHHCLJRpTgxCLfKnimAIu?D=" ⟨_,by conv=>lhs;reduce⟩
def QkW:=B0 "F0J83u68dsodbTWMSDoMHkqQ>1nXulfHyVV_BRCe<;N" ⟨_,by conv=>lhs;reduce⟩
def QIO:=F1 "Q14V;bMl]eRPI86J<_L[TB<KKp:" QkW ⟨_,by conv=>lhs;reduce⟩
def QkV:=B0 "qjfSxwg]ErR]=yFU1hM=F>Mld1Z1774_<gf:h^Hcr[cHxCA4uiFPv]p3Zm6miLVEiM[62vR2P" ⟨_,by conv=>lhs;reduce⟩
def QIN:=F1 "[i[ay5UAqHSI:zVTYD5S6LlseFF9xUlqbe12G0oo5S9M2m?H:q0xYKtz=myBITL7VGspn<xiEEpK?" QkV ⟨_,by conv=>lhs;reduce⟩
def QfW:=B0 "lKkg[_W1]ruP3" ⟨_,by conv=>lhs;reduce⟩
def QkU:=B0 "JS<mY7=_8u1h[V3r2vdx5e9" ⟨_,by conv=>lhs;reduce⟩
def QIM:=F2 "UI3TuSGH9I<cFCRh>C[oxJSCyBd[A0LW;ZeL8?j;npJCAX;Sx3" QfW QkU ⟨_,by conv=>lhs;reduce⟩
def QmH:=b0 0x0 ⟨_,by conv=>lhs;reduce⟩
def Qrv:=B0 "wyPP^5[oD9__D=n8" ⟨_,by conv=>lhs;reduce⟩
def QIL:=F2 "2nx<0Xbs:Jzjr2;kPp>RneqqadBgJktcp5RgJBZ;=F]D0TRlKi_bYowR9kXLryJ=rCac=CcK:rRXHz4PcW3s5rh6Zp;WHt0Vh4uadyeq4>o:VEtvdt?Es" QmH Qrv ⟨_,by conv=>lhs;reduce⟩
def QIK:=F0 "QZ>K5[hbL<bNcITIWoCHgbC7b8:B2QD=xdWo?Rq[c5A1aQrDac1Ta21YcL" ⟨_,by conv=>lhs;reduce⟩
def qp:=B0 "GETotQ0<Ai70o=W" ⟨_,by conv=>lhs;reduce⟩
def QcX:=B0 "^=ypqSk2h1fqHV]qkPAb7j[F2Se4SlouPz5zj=" ⟨_,by conv=>lhs;reduce⟩
def QIJ:=F2 "ccbirvh5iPsWdu0_qsuiI65:SBd;" qp QcX ⟨_,by conv=>lhs;reduce⟩
def QII:=F0 "EBJisx^Ja^acE?jBzn]79ajP4;7dds6hLsRy?^WUvbidK" ⟨_,by conv=>lhs;reduce⟩
def QIH:=Fz0 ["eY;yNDArbG3]q1NhWG4rIhD]P_VavDDo2B[V9i6M>cPZ;49>plWBAliQMjjQpV:u5BneHklTi]Hu8PU3[iCi3c]PsuKX_E4N4pNC","H^VJhL2MT9i6JpZm9;JJXpsUC0taTVClzCFIj61sIFsV^0Lobqh9oLA4GFQDK;XS94=<8qxg]>8fWK?N1h>v:sSP_IsRALMpCZZd","XW:K:Ts_T1Cl=XUgb=fReBQBUlFmb_zNt4F0f[jCR2"] ⟨_,by conv=>lhs;reduce⟩
def QIG:=F0 "2nN;Uoyfu>A;c1f6v64P:fSUC]P2" ⟨_,by conv=>lhs;reduce⟩
def QIF:=F0 "r7MqoDSGrxfnq4lPP" ⟨_,by conv=>lhs;reduce⟩
def QkT:=B0 "8DUWGQAFVXFcR>JM;yC_K8^qx1Jdd4lCE1Ck>oM5_QbyYUFdxSlFIqE2" ⟨_,by conv=>lhs;reduce⟩
def QkS:=B1 "xwRAhrspQ6s=vwuqS^8ba>BSNyMSk4M5cWX[2HWkIaI>QXAyzpzh3]nY=S5JbWl]" QkT ⟨_,by conv=>lhs;reduce⟩
def QIE:=F1 "3:t[>o0Zsp5SVpPQf5Q8YwM" QkS ⟨_,by conv=>lhs;reduce⟩
def QkR:=B0 "STBFdun6tIzUEZH5k;Jmj?7NGy5If^HyhS=G1IGrxD38" ⟨_,by conv=>lhs;reduce⟩
def QID:=F1 "NMBRH?w=BvsQI6CKpLGk3>DBAHmnRnG4<ac4k=" QkR ⟨_,by conv=>lhs;reduce⟩
def QIC:=F0 "?fn11nzf0wKLtMCw^9wk7>^pfMJBnrcMvq6eDN1AKdUVk1jrNPvietbWdDx1ASUxyn2" ⟨_,by conv=>lhs;reduce⟩
def QIB:=F0 "Ld:>Eg1XAaWSl[d59VNXbsyr74;=y1" ⟨_,by conv=>lhs;reduce⟩
def QkQ:=B0 "ZCW^7j8gLxBKH1wWAX:zSf:_ZnJgiWb4N99B[v_lZH1YZLW5wYmYWZmPRHpCN6u" ⟨_,by conv=>lhs;reduce⟩
def QIA:=F1 "ygizn9hbtqx23N<yq]ITa2]wKc<52FNHwU4rA73" QkQ ⟨_,by conv=>lhs;reduce⟩
def QIz:=F0 "dQeD1E[Q?8D6dL_p0xp2qUjw7^2By1" ⟨_,by conv=>lhs;reduce⟩
def QkP:=B0 "JCSxXxLQPnFquMeoGzi;V^=SvnI:NsthqNz>u0PIcvhXx3QxZ=_2iUT1DBQA:L5kveGkYqzum6mnPdNwuhgqCGlZF;<4AdU:QU=SC=" ⟨_,by conv=>lhs;reduce⟩
def QIy:=F1 "<_k=QfDZf;CPv2^^0Clu4<Qys5[[jycvFPlyHwXjcDnaK" QkP ⟨_,by conv=>lhs;reduce⟩
def QIx:=F0 "LlegYPfhS[CjN2wiCw<MzNd3" ⟨_,by conv=>lhs;reduce⟩
def QfV:=B0 ":;6dRY7L?3AqI;" ⟨_,by conv=>lhs;reduce⟩
def QkO:=B0 "uQf<bPLr2z[sX?jA32B2qU?Y7eMwSYpKN:i;" ⟨_,by conv=>lhs;reduce⟩
def QIv:=F2 "FDWg=F54ysbeK^nmWrk[gL?z3hd0tmsE_kdt1tRtKRoGK3Ak?jyiS<all>:BfUVkDqz?ADaDV[ms?;hzsk^tdI" QfV QkO ⟨_,by conv=>lhs;reduce⟩
def QIu:=F0 "yw^N1i6qAyz]fITNo7sNSThTw6p2W^l;hcFY;]rg69" ⟨_,by conv=>lhs;reduce⟩
def QIt:=F0 "M;5x9wTP7D0ziwFKJfEm8MPGpc" ⟨_,by conv=>lhs;reduce⟩
def QIs:=F0 "MLpMC8xv4ydP6]PkaWcIJiVQvi5CJstTrt;QU4aYz=lCQ1eIdVY5C3dxwjLUt2HXGpgss9Rk:j6eFi8a" ⟨_,by conv=>lhs;reduce⟩
def QIr:=F0 "aLd:k3QWSwQMd5[VHrF3aIMdqc" ⟨_,by conv=>lhs;reduce⟩
def QIq:=F0 ">BhCh?Z8DNgwF_4tuUvqHitn" ⟨_,by conv=>lhs;reduce⟩
def QfU:=B0 ";qU4ZYnuer6C4" ⟨_,by conv=>lhs;reduce⟩
def QkN:=B0 "YZJfqnF=QGJlMV4uC]]gH2j2Me7jPYyTc2Sr?fCAaSFUVQ8tS[N]3gZsx1ebm;d3D>zizF5=SH]31" ⟨_,by conv=>lhs;reduce⟩
def QIp:=Fz2 ["zTMuySI_hSw4AMMeJH=DypByISqpxRI5;?3lKmP=]mPjB8ITujEtQT^I9i^NQ^PUoR^pQsQT_emSNW8ST[XmyLrWP2Gc7KVm1WXf","^x04gT5eq>r0iqluf1Hh]9<a9V4<oI13WhxU"] QfU QkN ⟨_,by conv=>lhs;reduce⟩
def QIo:=Fz0 [":cZkVN7YW9Zo;2ae1PRkCGfk=1FsUvoINV9^0_T8IG?1rlrYNHW2qk7]rbD62e1_<RlXeFj9fh4BLvcez:EmLR8ew2Kb6rdM1SFC","D^goKVk;6LDj?=o=N5JrGXEogZQ33I=37]n?t:7^b]mM6LssWMqeVGY?JlHb0As1hwjE"] ⟨_,by conv=>lhs;reduce⟩
def QkM:=Fq0 ["<EP6696Kjo^<5oVf;sGWY2qDRY[9sr53Drs?GuIa:WK2bZtt?ec<?oC^d[Dyuo1>rib96U6^CQaT6m?26:GAZwFDoFdgVTxK0IhU","dc<6ia[6PT>XGu[lFw:?bRwTcbQ8GLdE9gt3[h2zVl86W5hAFuaw7djL<LGrtr_Rh<YgkVSqCxLr;yployDAA"] ⟨_,by conv=>lhs;reduce⟩
def QIn:=F1 "7njk:uTHV?7X=WEozgsKeyf2EJdUyJ:T3CRi9cwi7Z:c1" QkM ⟨_,by conv=>lhs;reduce⟩
def QkL:=Fq0 ["ztUDa8r2HiNfUYHAcsKFGEk49TMN9fibKr^kC;[qjJufiUx=>;ha]paD6FjH6T3A1S=7tkHzHR<w6Qf5F>C0<2m12C;3vWwThA=K","GK=]RHeC24N;v<U7bj=R4XEZYy6YDs5NYUyq84XSK0tL_Nimd:8"] ⟨_,by conv=>lhs;reduce⟩
def QIm:=F1 "mx?ftFyt:MGVXmU?r[MKSDhyoMrwCCgswZH71qGEqnbekRvK=d9m>1lEIAHBPIN0M7m1?pT;l>1" QkL ⟨_,by conv=>lhs;reduce⟩
def QkK:=B0 "XaF3q_xpYc9S>Tt<X[S4B3tr^ukF5<iN3NMkll_R_[2qwAJ4^a0C<hG0mXMj]R_t=A3" ⟨_,by conv=>lhs;reduce⟩
def QIk:=F1 "ug7DpP6fLENcpeVV^[QMU0nNMBS5?^BessxI8D64I1o:5J1" QkK ⟨_,by conv=>lhs;reduce⟩
def QHX:=F0 "QYc3ULqVGD]jTniKYmGiwApu0hP2" ⟨_,by conv=>lhs;reduce⟩
def QHW:=Fz0 ["3AN<c_ToxF3tzFvcuEVHxPT7_7BMA8UkQypJP<17x<IUv>sa6M3SdYY4VK[X]Wr]NH5ICIIl91Q0sxc>]vYsFjzdo_nrfs=2YrVT","_NP3=]QBK]wKTI4byGJ<4^G]Jn;wEZpBU>_2n1tW1k?RmmuF33HCFa2^JwUDQZ<M_RE:YfFQorY4z:u1R9nDh2MF?ZiUnDBuI9_c","e0mjQT1"] ⟨_,by conv=>lhs;reduce⟩
def QHV:=F0 "?6jRJcEfz>2Bv?Bbk^PgxqdoWWvv3ejwx5wb?4lgivd40^hHC" ⟨_,by conv=>lhs;reduce⟩
def QHU:=F0 "IVDqGZFfHiuPwloquFo<jUa2t4<r9JoVMcxA" ⟨_,by conv=>lhs;reduce⟩
def QHT:=F0 "VcrYKW4ouS7q;GMW6ZeYTE>3hld=Sw=X7]aDU1VCJ33wACdLqGHfJCeujFoR?l8vG:Y>2" ⟨_,by conv=>lhs;reduce⟩
def QHS:=F0 "QYc3ULqVGD]jTniKYmGiwApu0hP2" ⟨_,by conv=>lhs;reduce⟩
def QHR:=F0 "DuRHE[dIQHWm[AJJHq9nWfF?Hluv2XUXGw;Bzh^:yZQIsZkgF5tih3J9F^M1" ⟨_,by conv=>lhs;reduce⟩
def QHQ:=F0 "62_X?HypkUiL:KUuZmf7E" ⟨_,by conv=>lhs;reduce⟩
def QHP:=F0 "::zoAlPm:>=d:KUuZmf7E" ⟨_,by conv=>lhs;reduce⟩
def QkE:=B0 "rXP;5wx=f;Udd;CTJ<9w5SAApE=jwyb0Zpmgx]foDGBnc;K1qsUKRG4Ei17MYoqaW79fwi5eHFXw" ⟨_,by conv=>lhs;reduce⟩
def QHN:=F1 "JQ:l:Jnh4op5zr3iuNTjX;" QkE ⟨_,by conv=>lhs;reduce⟩
def QkD:=B0 "zy9B1WMDZgyMavYYFtCQHsxqT=B?GAC]wJYEHY6NPuebKSjRfJnN8s44qYwZWYhMed2" ⟨_,by conv=>lhs;reduce⟩
def QHM:=F1 "THSq0Kqwi3_auF[?5Lcw_7Uv6H:<YmYKQVAeZPGIZ" QkD ⟨_,by conv=>lhs;reduce⟩
def QHL:=F0 ">CJ:CCsiVs^x:KUuZmf7E" ⟨_,by conv=>lhs;reduce⟩
def QHK:=F0 "L784KWVSx68p0VA8xNF^W4" ⟨_,by conv=>lhs;reduce⟩
def Qz9:=fk func263 QHK (by kernel_rfl)
def QHJ:=F0 "CKgQDgIfr[3C;KUuZmf7E" ⟨_,by conv=>lhs;reduce⟩
def QHI:=F0 "t:di7?RiESqZ<8gpIiniS11" ⟨_,by conv=>lhs;reduce⟩
def QCG:=F0 "ZBY>PDl^oh1sPauu<rz7GKRfjfahoXAXfGy7hEjZS7=" ⟨_,by conv=>lhs;reduce⟩
def QFh:=fk func266 QCG (by kernel_rfl)
def QfS:=b0 0x0 ⟨_,by conv=>lhs;reduce⟩
def QkC:=B0 "cDPr]l5jZ9__D=n8" ⟨_,by conv=>lhs;reduce⟩
def QHH:=Fz2 ["Bxd4_plBN^di]h4IBarEyZ;Vq:Km9>3I<JWpGz8gvKJe3117qb8uKbVSkacRf<QM97Rqq9urVntYKy]MAW<wF^WW?QDL8IUpu?oy","h7RGyA=^zqxqBIP6pA]dKzfqBIR2b_g_Qv=Q=TZIt8fGz_>yupXtfhez"] QfS QkC ⟨_,by conv=>lhs;reduce⟩
def Qrq:=fk func268 QHH (by kernel_rfl)
def qo:=B0 "T;ClcDK3z3>E2" ⟨_,by conv=>lhs;reduce⟩
def QcV:=B0 "sHc324r70DKFrz]lrYNzJQLQidmm2kh9DIonLt<_]u^T3bF" ⟨_,by conv=>lhs;reduce⟩
def QHG:=F2 "d3RUTVTyPpUTY==d_RL>a1jGkng" qo QcV ⟨_,by conv=>lhs;reduce⟩
def QHF:=F0 "uQMQ3:8M?Ww[V[olVGC8E" ⟨_,by conv=>lhs;reduce⟩
def QHE:=F0 "EVpAH?S05<w[V[olVGC8E" ⟨_,by conv=>lhs;reduce⟩
def QkB:=B0 "9W;lFe=k5=H]N4LJWJ<FY6jnEu[ZT6vogEfj3CF^uognQdy9_sjIaK_7i?UHVtoS9y]" ⟨_,by conv=>lhs;reduce⟩
def QHD:=F1 "fIQpXzPMwgtsfYQP>xMhiAql^7" QkB ⟨_,by conv=>lhs;reduce⟩
def QkA:=B0 "[KNhiIVj;5w?8TP^Qwzcb3<j7<FVLxLvnoC2Ix7r7ALwk:5u6QgpFFP[r1" ⟨_,by conv=>lhs;reduce⟩
def QHC:=F1 "G>71lxzZ<3ujLjeYp^?APFJEet11nI]RUA41" QkA ⟨_,by conv=>lhs;reduce⟩
def Qkz:=B0 "5p8NTa;gaE6FgUwiZCZcHxzUgoirl_8MhylT8_l8ceir5vD^owWSRq2E_U" ⟨_,by conv=>lhs;reduce⟩
def QHB:=F1 "l3[yXczJ3dnP29n464]gEk<gDznLTlwXUWZ4hXSJ_qrERY8hBw>pUf0]g1" Qkz ⟨_,by conv=>lhs;reduce⟩
def QHA:=F0 "c>_FKbuSFXCsdSGo0xP5>3" ⟨_,by conv=>lhs;reduce⟩
def Qky:=B0 "[eyci>[:_JjDh5CgKTnibCH56ZfLyi[5>7tRCAsfGahd]3<Xu3z[=C8dLoBAhpL6^YG>^1XMUd3woZrtzdMaAkMTB]nNY>782W8r;tLr>EJj" ⟨_,by conv=>lhs;reduce⟩
def QHz:=F1 "6Sep>Vdfx4QIxGu1?BtFmtj7vL7=:p1ywG13HGWYk13wPf0xbDfZlSU3HeUDo<p^?nMp>NF=t3RGZho1hJx3V1ejcg1FW9m:t3jyu71" Qky ⟨_,by conv=>lhs;reduce⟩
def Qro:=fk func276 QHz (by kernel_rfl)
def QDZ:=F0 "tJx?U[J>XUW50JzfPJi6^z]fSTqFEMP1VkkDrk5ezv>dFicjoS;<GFc;qd6" ⟨_,by conv=>lhs;reduce⟩
def QFg:=fk func277 QDZ (by kernel_rfl)
def Qkx:=B0 "feitPNhllhv6gp[crZ1Unep=3Hc5]rmc;RoRTE[Y;" ⟨_,by conv=>lhs;reduce⟩
def QfR:=B0 "Tt3uJ8h95" ⟨_,by conv=>lhs;reduce⟩
def Qkw:=Fq1 ["59dRIyfwWSBj9b6agVp6MdAEx1y2PUL:5]X1tz=FZ65z_C34uekfzvQ]6NTyDzqj26Ly;g><sRlMIe?ktlEEL1:YzCGX78GlbcCy","m?XWDfZoU[DUlJp5>cxTkyBWVKs9bKUP54mD^dygk9VNG?ncia3:ljGLX^6aao"] Qkx ⟨_,by conv=>lhs;reduce⟩
def QHy:=F2 "DBtRjxmKxikH4CzLMt9PDQ6n7j1Em4^<<hW2]Y=drHKWNdvY8GnY9GT_X[xMcfNg]jpa;CuMc5c7NHYtYKFJf6Mnx7q[v?LasZWq[x;Q9f6o4=7:Zj4" QfR Qkw ⟨_,by conv=>lhs;reduce⟩
def Qkv:=B0 "7w0:QlQ<Izia8dzeeu4xsJbZkS6^xUv^8Fid;UiDzrBkkCCPBMK=hYwkVSpRHs[>lxQxpjDbn1EL]ZumN;F<x11MczRkvdB_h<Fg6I>v^Yg2se;1IS" ⟨_,by conv=>lhs;reduce⟩
def Qku:=Fq0 ["eAgr_ox1zE=A__S?rKgrsiD2NCi9_a[s]5C9HclhW^u^wAm>uYM27zKM0Xdjw8l8u1:S<Hohho9hP9Ni5hPITjY2;wqv_a<wz7a7","yGD0?Y=Ebb;9Njl1LCS8RK=[4h3pecT1zNMoF3"] ⟨_,by conv=>lhs;reduce⟩
def QHx:=F2 "mcUNTY5r8hnGFiKVndlv6<nJ6vDi0KgZuyQT<0=BdkI0if2;MwZSwQZ5smB8HpjZ3>9;[=aiie4FmdDGw:F?1^M8gaujZahjGTt]RblBC3" Qkv Qku ⟨_,by conv=>lhs;reduce⟩
def Qrn:=fk func279 QHx (by kernel_rfl)
def Qkt:=B0 "JCJ4QF>=o_Ckyka^ZaPiSC^HW8x61o[PkUy>B61QbXIZSqp0RsbcoB_0YTz?=wVgwlsFclG9MxP49JRJyf_Jea;j:NWzs1" ⟨_,by conv=>lhs;reduce⟩
def QDY:=F1 "<?fgfl=Bt90z4MSgDn:_]xeMF9GZEM[CJXozgW0W86kr:zimhat72hbbQQ7^ZPnD]B?^Xg7bn==5GX?M>QP;Pp5" Qkt ⟨_,by conv=>lhs;reduce⟩
def QFf:=fk func280 QDY (by kernel_rfl)
def Qz8:=B0 "863nYHWcyBDBJSop[C^VIvL7v0zYL[cJ" ⟨_,by conv=>lhs;reduce⟩
def QHw:=F1 ";=atSdbRsBA]zo?4" Qz8 ⟨_,by conv=>lhs;reduce⟩
def QFe:=fk func282 QHw (by kernel_rfl)
def QHv:=F0 "Tn3q[gaBLLxSH2_^a0VlZUeiuQvJAfjp]Fql6fsy4HvU_s;6v8[g" ⟨_,by conv=>lhs;reduce⟩
def QHu:=F0 "r:9dPESd:J4bj_^HSmZ5" ⟨_,by conv=>lhs;reduce⟩
def QHt:=F0 "3xqbWAi00H7E?KUuZmf7E" ⟨_,by conv=>lhs;reduce⟩
def QHs:=F0 "2U0=?kIA;EptLQdSzd[6E" ⟨_,by conv=>lhs;reduce⟩
def qn:=B0 "rXS3:SMd^:0^zeN" ⟨_,by conv=>lhs;reduce⟩
def QcU:=B0 "HHj;U6J5^bi^MlTqt^>Hq;fm>rNcV1]YGc4z;Mew6lR" ⟨_,by conv=>lhs;reduce⟩
def QHr:=F2 "f[RYrXF1KHyscoWp5QexhN]5Ryw7]" qn QcU ⟨_,by conv=>lhs;reduce⟩
def QHq:=F0 "Muw^J1oQBM?8fZjkEKp=wM6K^g0v^z]1" ⟨_,by conv=>lhs;reduce⟩
def QHp:=F0 "uvYhwKBbNV;p_fHCVbZ5" ⟨_,by conv=>lhs;reduce⟩
def QHa:=F0 "^=KVH>^[FotoI:PXd6H<s4Vw2eZJ9DZRiB_cn5VJZ" ⟨_,by conv=>lhs;reduce⟩
def Qkm:=B0 "cT_T7Umvf_Bp]tILAgKXY^GK^Cv[[1g:s<s2tM_mFt6eH" ⟨_,by conv=>lhs;reduce⟩
def QG2:=F1 "Q14V;bMl]eRPI86J<_L[TB<KKp:" Qkm ⟨_,by conv=>lhs;reduce⟩
def Qkl:=B0 "jrc5QzVVD4d[>Uz3toCYe6bm;Mv[[1g:s<s2tM_mFt6eH" ⟨_,by conv=>lhs;reduce⟩
def QG1:=F1 "Q14V;bMl]eRPI86J<_L[TB<KKp:" Qkl ⟨_,by conv=>lhs;reduce⟩
def Qkk:=B0 "cT_T7Umvf_Bp]tILAgKXY^GK^Cv[[1g:s<s2tM_mFt6eH" ⟨_,by conv=>lhs;reduce⟩
def QG0:=F1 "Q14V;bMl]eRPI86J<_L[TB<KKp:" Qkk ⟨_,by conv=>lhs;reduce⟩
def Qkj:=B0 "Px<ZzprB;ve6Y[g=xCRTYT83JZrQKJUNAtAbPV0ztTY4I5" ⟨_,by conv=>lhs;reduce⟩
def QGZ:=F1 "Q14V;bMl]eRPI86J<_L[TB<KKp:" Qkj ⟨_,by conv=>lhs;reduce⟩
def Qki:=B0 "XMqzyxMb3V5dGoyK?>BX4M17hDe2bGPG^So2Ue=BnAQHZLGj9H7Du57BaJG3YDyvK_ncbLtm_UF1" ⟨_,by conv=>lhs;reduce⟩
def Qkh:=Fq1 ["RmBYLtFF0xYjp[Cu:sxuoESDeS4j^q0[CZx7l]:ujnt>rtxbo6C=[lwTdLmXopRUWIS1yE5xz2WLm0QYuEG0uyCVU_ADTg599:=i","ubc[lD6MhtsRp6IvV5=rT59e?ENUIo^VJMo?KQCuubbwS9Jq<yoaxjuGKaEeQypSkFs^Z]3dZMX[BiDn1[YX[sZtf7q7_D^r_9Xe","hb;nvmMyi5ngtEJ>zZGsbNIX>IUU7VMdXFc?;F4NeG0aQN=s>sqSX_7pXg;k4<dhembzVv5gAe<<Qkfqecb74z9QUH:b<jVC5Ax8","F]a72E7hUyxctYC0cpJv^]nvvt8VKo];jYuGB?7B4q6P7qd7riA9UuATlxsh_Q>W3_ZN7_<2Jce=xwIjll2U9i5b_uj[4WyeUTsM","<1iErT?TiJN<0MxMPY7lJt;"] Qki ⟨_,by conv=>lhs;reduce⟩
def QGY:=F1 "9II9n=6QB^TW4vro]^b92TefKsvR>DNGz<xQnj2P[8lSiMzqLk76gUz[5Lm4?9b6LvcfDjVSs<f5JgG<6]JGsI3Tj9nuC9=?x6" Qkh ⟨_,by conv=>lhs;reduce⟩
def QGX:=F0 "W40=XpV52eZi7Stxvq02IrATxrGj8" ⟨_,by conv=>lhs;reduce⟩
def QGW:=Fz0 ["yncCSI^5:<TuDcyyqUjavh9_FYU1;maMzc;rvE3TnHwt:F3QFFt>a1hdYMTTyX=?mLFISAYJM1kft1U]2_IM8HU1Ky7SZJ;S?h35","46Y=MPRxZw;Y_HfA684Ap_aEva=YWX4sKs<o^G6"] ⟨_,by conv=>lhs;reduce⟩
def Qkg:=Fq0 ["4Sn><5aFrr?DDqXwbfDocLnwo:Z:PpZyWAhfyd;hviYy5jUbv5rFW5I0twqzLYE9XCtUWGNRb63d7Cr^J5wHXVNeZ??P;e2zb;LV","UM4lqSEaRPIzr^p^4oP]whyITDzym5_y68"] ⟨_,by conv=>lhs;reduce⟩
def Qkf:=B0 "L93?iwnr93kENoT9ancV14al=:]tZdQS<d0YKgSIhifiEy;B:JpcTk8tH:N983;vxQ<" ⟨_,by conv=>lhs;reduce⟩
def Qke:=B1 "PKD83RVR<y1BgbhNV]Z^ZAk]HbU2tpWDj_6sX_l[9[AAMmLDrrPswpw6bNj0PHx;24DATl4W4YFh44vHlK[5]^UR;iC1tU=k8Q[IT]0Yz=q;1otW;y:ZxgAwCoj1" Qkf ⟨_,by conv=>lhs;reduce⟩
def QGV:=F2 "fVkh7[CvHUo_96f[x_=MpX87CUFJN[Xab:[LJA2DZs<sYFk7pyliN:U]mJtNu9szDrff9=6gmQIj:83PV8t:s_Nlifu9FC^;:lJS1[XCC3" Qkg Qke ⟨_,by conv=>lhs;reduce⟩
def Qrf:=fk func342 QGV (by kernel_rfl)
def Qkd:=B0 "qDgcjTA6oT7Hm5agZx:ZoZyBgWv[[1g:s<s2tM_mFt6eH" ⟨_,by conv=>lhs;reduce⟩
def QGU:=F1 "Q14V;bMl]eRPI86J<_L[TB<KKp:" Qkd ⟨_,by conv=>lhs;reduce⟩
def QGT:=F0 "qT3WQ1SoGY1SVtS2hX1" ⟨_,by conv=>lhs;reduce⟩
def QfP:=b0 0x0 ⟨_,by conv=>lhs;reduce⟩
def Qkc:=B0 "8b5r7Q[PnpkxQ" ⟨_,by conv=>lhs;reduce⟩
def QGS:=F2 "W4]<aGgXK8Dh_B=[XqzD4C2R5g1:36bi7m_>JKs<p^_XA0zqc5YBgoJm8Mtm>xk]XRx^JhrCyz0gCT?l6PST9v[byr>j;ndPbQ2CF" QfP Qkc ⟨_,by conv=>lhs;reduce⟩
def Qkb:=B0 "ifEh_F8BUuXIGM?SEs]e:Fc[NZNJbw58csf[lRi99gpsfL03E^vA9aFp5K2" ⟨_,by conv=>lhs;reduce⟩
def QGR:=F1 "3T]tiE?tcIWnfDakqscVa0XNb:vTK?fWEFPCwbn_xwM]_Gz]phj2g00T" Qkb ⟨_,by conv=>lhs;reduce⟩
def QfO:=b0 0x0 ⟨_,by conv=>lhs;reduce⟩
def Qka:=B0 "NhPMY6Qe4elX=" ⟨_,by conv=>lhs;reduce⟩
def QGQ:=F2 "C:Lveo?R[IaDkItZXlY;k8gGs]5u;NqKsB2qQpEkIFUkb?mMeWtyh<qJYzz3ue38jz54Pm7yhJ;zaDBru]8" QfO Qka ⟨_,by conv=>lhs;reduce⟩
def Qj9:=B0 "PW_Vp7VkFfe3>1P>AFpbTR<Dguu[[1g:s<s2tM_mFt6eH" ⟨_,by conv=>lhs;reduce⟩
def QGP:=F1 "Q14V;bMl]eRPI86J<_L[TB<KKp:" Qj9 ⟨_,by conv=>lhs;reduce⟩
def QfN:=B0 "_cjL;vp_yoPszeN" ⟨_,by conv=>lhs;reduce⟩
def Qj8:=B0 "hZBhoyc>sYjba>s=rhuGp0c>Kdf" ⟨_,by conv=>lhs;reduce⟩
def QDX:=F2 "dpRlgZeAsvaa^?EveR<641pZ>gq[x=LDFlCax=8^J:l=5J1" QfN Qj8 ⟨_,by conv=>lhs;reduce⟩
def Qj7:=B0 "qy0KRP4CYDS6mlmK]C4^LV<tz9[AN>uGaafNbsUcmKUQxuq><;a1n[3FV:B<vIhcN2HMxcq:2" ⟨_,by conv=>lhs;reduce⟩
def Qj6:=B1 "FqxRTRqsrWK?Qw<:z]9ybXRm;PqNBfFdmzfRSG7zZgU7C^s?WcMt61MNoS5" Qj7 ⟨_,by conv=>lhs;reduce⟩
def Qbr:=B0 "wu?VVqgSfG21" ⟨_,by conv=>lhs;reduce⟩
def QfM:=B1 "eW9^3r:^X:8_<wNiItx2u35ducnQmCHRM?x5ohpNMlQ8YP9J7" Qj6 ⟨_,by conv=>lhs;reduce⟩
def QGO:=F2 "_FsZ5JxRfeT1IV5J5wGHcVWQI_GlT9" Qbr QfM ⟨_,by conv=>lhs;reduce⟩
def QGN:=F0 "BDHqY6<cr32]NJeNZ6_njPfBz2" ⟨_,by conv=>lhs;reduce⟩
def QGF:=F0 "B7>4o[A9]P[igEo6vomxQ5Yqw?Qb>2=l5" ⟨_,by conv=>lhs;reduce⟩
def QGE:=Fz0 [">GuHJ=4Gei0fwu2eQI5whXXCffB61W9our1UllXBmRG;ZsE;8AZd54LGpSSdIKh1zA=As>0Q:y1bFY_KGx;;[t2:A<a2F6t3Z;1h",";Gs2<h?:m_mo5Nq:?1HB:uAI]pyoauudNwqBmklG"] ⟨_,by conv=>lhs;reduce⟩
def QGD:=F0 "RgN]1t_2Rm3" ⟨_,by conv=>lhs;reduce⟩
def QGC:=F0 "XqW_>dWAL;^w9YgWIzbV^t4u1" ⟨_,by conv=>lhs;reduce⟩
def Qj1:=B0 "NnGUWnfL[nVb3_M:8PL3mYbPeccasMfg]01WHKW=NU?Rzdrc:VCQ>n>f4q=wFa;KGAcplF>p_=x4[>z8HU=7z40n" ⟨_,by conv=>lhs;reduce⟩
def Qj0:=B0 "GSD0Lzts3XTMaxYdTabqdE2BbT1gxH_AMSeoS4Hmym3NwzfTUWj3vws_v_tYw3Qy" ⟨_,by conv=>lhs;reduce⟩
def QGB:=F2 "Cq0N45w7^I<22Mh^2Hum7VpeQ<A4C=2zI4ddpFdgBai^4yTa[C^7Y0tVdpwIR]Rw4WPNd_fYkbkgXRxP93y^8;:y_tt6sCmu[e1TqIHR:105FL5X<F" Qj1 Qj0 ⟨_,by conv=>lhs;reduce⟩
def Vx:=B0 "?^phTJJW=U2Y:4CTsgp1=GlCD?k>w0Fy<iGHpLJIXPZUoPXs?jJXPrebI20L<15vZhPHy66WbPyMmr>QE77q];xvV]Q61=SJ_5]5J6" ⟨_,by conv=>lhs;reduce⟩
def QGz:=F1 "[]KL1E2l=zi81bU?NSmq:zYChrpPcUjcTrMht7mbHcl>7d>NF1Xt4]RAzHDmY<hcxRDzy5Aim6dSwiN?kwGA_4qvJ=upYaYyRR^bvI9Z1hFuMT" Vx ⟨_,by conv=>lhs;reduce⟩
def Qrd:=fk func405 QGz (by kernel_rfl)
def QjZ:=B0 "[69lpp1<1iku2f^Wk9:A3Fe]Uh4xS?1izWP9X6UqPaIGrTuFQ2qUXCYcy[]S4mIDQYFHF;I9fqtKGRz^Rx]K9tZ1jzanGR]1=g;>QeCUZKYMk2" ⟨_,by conv=>lhs;reduce⟩
def QjY:=B1 "cwaba6KE3cgITwDRwr07nE]z[E5xmpZ1kceIGK998PprX03lSnqeYC334<3" QjZ ⟨_,by conv=>lhs;reduce⟩
def QGy:=F1 "?XzmHC=B:G4zzJK7mb9qtk[JI??DUy4=B]tQQmDW[h2IPL[4cF>" QjY ⟨_,by conv=>lhs;reduce⟩
def QGx:=F0 "vufJ5=4>dx?s9K;1hX1" ⟨_,by conv=>lhs;reduce⟩
def QjU:=Fq0 ["jYgp[GBmFx?Y6ZSpe0B21ZThd37GL[[2cl;KPF92SFE_tKf6[D_hEMQ?Gjkkgg3u7ijX6j^SQ082kz8;Q_?v:<W0hHeWlvY7Nimf","ZtK1ky=rKji4_Y^Cr7UsMAkq=Fnuc42A]3"] ⟨_,by conv=>lhs;reduce⟩
def QGt:=F1 "8EtLD>sm;>AwwP:cW8X?L9XaNvsgfumrnSJqqv;?U?KtEw^TfKa6=;D2" QjU ⟨_,by conv=>lhs;reduce⟩
def Qz3:=B0 "hv3gJ2u;nqP>[iiK981NK;oeH0zYL[cJ" ⟨_,by conv=>lhs;reduce⟩
def QGs:=F1 "grRpekzajYk=x0D" Qz3 ⟨_,by conv=>lhs;reduce⟩
def QFc:=fk func421 QGs (by kernel_rfl)
end Go.Pf
namespace Go.Ev
open Go Go.RowKit
def QFQ (res:List Qdt) (y:IV) (s':Ext) (e:Env) (o:Qm):Prop:=QwQ res e o=some y/\Qc o 0=some (.ext s')
def QAo (res:List Qdt) (Q:Ext->Prop) (e:Env) (o:Qm):Prop:=QwQ res e o=some (.xd [])/\∃ s',Q s'/\Qc o 0=some (.ext s')
def QhV (pre post:List IV):Env:=(pre.length,.cb 0)::(Jg 0 pre++Jg (pre.length+1) post)
theorem Qcn (e f t) (h:∀ v,(t,v) ∉ e):look (e++f) t=look f t:=by
 induction e with
 | nil=>rfl
 | cons p r ih =>
   obtain ⟨k,v⟩:=p;simp only[QLp,look];rw[if_neg (fun e=>h v (by simp[e])),ih (fun v hv=>h v (by simp[hv]))]
theorem QoR (e f t) (h:∃ v,(t,v)∈e):look (e++f) t=look e t:=by
 induction e with
 | nil=>simp at h
 | cons p r ih =>
   obtain ⟨k,v⟩:=p;simp only[QLp,look];grind
section
variable {P:Program} {K:World->Prop}
theorem Qy {f A pre post s s' y} (hok:Qr2 P f A) (hlen:pre.length+post.length+1<=A.nt) (hv:s'.v=s.v) (hy:Q0 y=true)
  (h:WpF P K (FnF (QFQ A.res y s')) [.code A.code] (QhV pre post) [(0,.ext s)]):Qh6 P K f pre post s y s':=by
 refine ⟨hv,fun ok O D w us vs hp hul=>?_⟩;obtain ⟨fn,hfn,hok⟩:=hok;unfold Qeh at hok;split at hok
 ·rename_i c hbody;simp only[QKI,beq_iff_eq] at hok;obtain ⟨⟨hfit,hnt⟩,hres⟩:=hok;have hvl:vs.length=post.length:=by
   have:=hp.len;simp only[QKP] at this;omega
  let args:List Value:=us++s.v::vs
  let a:Act:={ tmps:=args.toArray++Array.replicate (fn.ntmps-args.toArray.size) undef,defers:=[] }
  let w0:XH:=⟨w,fun b=>b<w.heap.size/\¬ O b,fun _ h=>h.1,fun _=>undef⟩
  have hctx:Ctx P K ok w0:=⟨fun w' h=>hp.hK w' h,fun b hb=>by
   by_cases hbl:b<w.heap.size
   ·exact hp.own b (Classical.byContradiction fun hn=>hb ⟨hbl,hn⟩)
   exact hp.new b (QLW.1 hbl)⟩
  let lo:Nat->Option AO:=Qc [(0,.ext s)]
  have xb:∀ i ob,lo i=some ob->i=0/\ob=.ext s:=by
   intro i ob hi;simp only[lo,Qc] at hi;grind
  have hokk:∀ b,ok b/\¬ O b->okL ok lo (fun _=>.ext O D) b:=fun b hb=>⟨hb.1,fun i ob _ hbad=>hb.2 hbad⟩;have hdata:∀ k x u,(pre++post)[k]?=some x->(us++vs)[k]?=some u->QF (okL ok lo (fun _=>.ext O D)) w x u:=fun k x u h1 h2=>(hp.args k x u h1 h2).mono fun b hb _=>⟨hokk b hb,rfl⟩;have htmp:∀ t u,args[t]?=some u->a.tmps.getD t undef=u:=fun t u hu=>by
   have xa:t<args.length:=(QKG.1 hu).1;simp only[a,QLt,QLZ,QLK,xa,if_true,QMk,hu,QLB]
  have hrel:Rel ok ⟨A.nt,[]⟩ w0 (look (QhV pre post)) lo a w (fun _=>.ext O D):=by
   refine ⟨Q8.refl _ _,⟨[],rfl,QMa,by simp⟩,?_,fun t=>?_,fun i ob hi=>?_,fun i j oi oj b hij hi hj=>?_,fun t ht=>by simp at ht⟩
   ·simp[a,args,hnt];omega
   ·simp only[QhV,look];split
    ·rename_i ht;subst ht;rw[htmp pre.length s.v (by simp[args,<- hul])];exact .cb 0 s O D rfl rfl
    rename_i ht;by_cases hin:∃ v,(t,v)∈Jg 0 pre
    ·rw[QoR _ _ _ hin]
     rcases Xy pre 0 t with h1 | ⟨x,_,h2,h3⟩
     ·rw[h1];exact .iv _ _ (.any _)
     rw[h3];simp only[Nat.sub_zero] at h2;have xa:t<us.length:=by rw[hul];exact (QKG.1 h2).1
     rw[htmp t us[t] (by grind)]
     exact .iv _ _ (hdata t x _ (by rw[QKS (by omega)];exact h2) (by rw[QKS xa];exact QKF xa))
    rw[Qcn _ _ _ (fun v hv=>hin ⟨v,hv⟩)]
    rcases Xy post (pre.length+1) t with h1 | ⟨x,hle,h2,h3⟩
    ·rw[h1];exact .iv _ _ (.any _)
    rw[h3];have xa:t-(pre.length+1)<vs.length:=by rw[hvl];exact (QKG.1 h2).1
    have hg:=QKF xa
    rw[htmp t vs[t-(pre.length+1)] (by
     grind)]
    exact .iv _ _ (hdata (t-1) x _ (by rw[QKO (by omega)];rw[<- h2];congr 1;omega) (by rw[QKO (by omega),<- hg];congr 1;omega))
   ·obtain ⟨rfl,rfl⟩:=xb i ob hi;refine ⟨fun b hb=>⟨fun hf=>hf.2 hb,hp.lt b (hp.sub b hb),hp.sub b hb⟩,fun b hb=>?_,hp.J⟩;by_cases hbo:O b
    ·exact .inl hbo
    exact .inr ⟨⟨hp.lt b hb,hbo⟩,hokk b ⟨(hp.okd b hb).resolve_left hbo,hbo⟩⟩
   grind
  refine Qn0 (ac:=A.code) (R:=fun v w'=>∃ O' D',U5 ok O w s' y O' D' v w') hctx hfn hbody hfit hrel h (fun w1 e' o' a' w' L' hle hf hr'=>?_);obtain ⟨hf1,hf2⟩:=hf;obtain ⟨v,h1,h2⟩:=YZ hr' (fun b hb=>hctx.ok b fun h=>hb (hle.fr b h)) hres hf1;refine ⟨v,h1,?_⟩;have hob:=hr'.y9 0 _ hf2;cases hL:L' 0 with
  | ext O' D' =>
    rw[hL] at hob;obtain ⟨g1,g2,g3⟩:=hob;refine ⟨O',D',X6 hy h2,hle.keeps hr'.below,g3,fun b hb=>?_,fun b hb=>(g1 b hb).2.2,fun b hb=>?_,fun b hb=>?_⟩
    ·by_cases hbl:b<w.heap.size
     ·exact .inl (Classical.byContradiction fun hn=>(g1 b hb).1 (hle.fr b ⟨hbl,hn⟩))
     exact .inr (QLW.1 hbl)
    ·rcases g2 b hb with h | ⟨h,_⟩
     ·exact (g1 b h).2.1
     exact hr'.frl b h
    exact (g2 b hb).imp (fun h=>h) (fun h=>h.2.1)
  | _=>rw[hL] at hob;exact hob.elim
 ·simp at hok
theorem Ye {f A xs s s' y} (hok:Qr2 P f A) (hlen:xs.length<=A.nt) (hv:s'.v=s.v) (hy:Q0 y=true)
  (h:WpF P K (FnF (QFQ A.res y s')) [.code A.code] (Jg 0 xs) [(0,.ext s)]):qw P K f xs s y s':=by
 refine ⟨hv,fun ok O D w vs hp=>?_⟩;obtain ⟨fn,hfn,hok⟩:=hok;unfold Qeh at hok;split at hok
 ·rename_i c hbody;simp only[QKI,beq_iff_eq] at hok;obtain ⟨⟨hfit,hnt⟩,hres⟩:=hok;have hvl:vs.length=xs.length:=hp.len
  let a:Act:={ tmps:=vs.toArray++Array.replicate (fn.ntmps-vs.toArray.size) undef,defers:=[] }
  let w0:XH:=⟨w,fun b=>b<w.heap.size/\¬ O b,fun _ h=>h.1,fun _=>undef⟩
  have hctx:Ctx P K ok w0:=⟨fun w' h=>hp.hK w' h,fun b hb=>by
   by_cases hbl:b<w.heap.size
   ·exact hp.own b (Classical.byContradiction fun hn=>hb ⟨hbl,hn⟩)
   exact hp.new b (QLW.1 hbl)⟩
  let lo:Nat->Option AO:=Qc [(0,.ext s)]
  have xb:∀ i ob,lo i=some ob->i=0/\ob=.ext s:=by
   intro i ob hi;simp only[lo,Qc] at hi;grind
  have hokk:∀ b,ok b/\¬ O b->okL ok lo (fun _=>.ext O D) b:=fun b hb=>⟨hb.1,fun i ob _ hbad=>hb.2 hbad⟩;have hdata:∀ k x u,xs[k]?=some x->vs[k]?=some u->QF (okL ok lo (fun _=>.ext O D)) w x u:=fun k x u h1 h2=>(hp.args k x u h1 h2).mono fun b hb _=>⟨hokk b hb,rfl⟩;have htmp:∀ t u,vs[t]?=some u->a.tmps.getD t undef=u:=fun t u hu=>by
   have xa:t<vs.length:=(QKG.1 hu).1;simp only[a,QLt,QLZ,QLK,xa,if_true,QMk,hu,QLB]
  have hrel:Rel ok ⟨A.nt,[]⟩ w0 (look (Jg 0 xs)) lo a w (fun _=>.ext O D):=by
   refine ⟨Q8.refl _ _,⟨[],rfl,QMa,by simp⟩,?_,fun t=>?_,fun i ob hi=>?_,fun i j oi oj b hij hi hj=>?_,fun t ht=>by simp at ht⟩
   ·simp[a,hnt];omega
   ·rcases Xy xs 0 t with h1 | ⟨x,_,h2,h3⟩
    ·rw[h1];exact .iv _ _ (.any _)
    rw[h3];simp only[Nat.sub_zero] at h2;have xa:t<vs.length:=by rw[hvl];exact (QKG.1 h2).1
    rw[htmp t vs[t] (QKF xa)];exact .iv _ _ (hdata t x _ h2 (QKF xa))
   ·obtain ⟨rfl,rfl⟩:=xb i ob hi;refine ⟨fun b hb=>⟨fun hf=>hf.2 hb,hp.lt b (hp.sub b hb),hp.sub b hb⟩,fun b hb=>?_,hp.J⟩;by_cases hbo:O b
    ·exact .inl hbo
    exact .inr ⟨⟨hp.lt b hb,hbo⟩,hokk b ⟨(hp.okd b hb).resolve_left hbo,hbo⟩⟩
   grind
  refine Qn0 (ac:=A.code) (R:=fun v w'=>∃ O' D',U5 ok O w s' y O' D' v w') hctx hfn hbody hfit hrel h (fun w1 e' o' a' w' L' hle hf hr'=>?_);obtain ⟨hf1,hf2⟩:=hf;obtain ⟨v,h1,h2⟩:=YZ hr' (fun b hb=>hctx.ok b fun h=>hb (hle.fr b h)) hres hf1;refine ⟨v,h1,?_⟩;have hob:=hr'.y9 0 _ hf2;cases hL:L' 0 with
  | ext O' D' =>
    rw[hL] at hob;obtain ⟨g1,g2,g3⟩:=hob;refine ⟨O',D',X6 hy h2,hle.keeps hr'.below,g3,fun b hb=>?_,fun b hb=>(g1 b hb).2.2,fun b hb=>?_,fun b hb=>?_⟩
    ·by_cases hbl:b<w.heap.size
     ·exact .inl (Classical.byContradiction fun hn=>(g1 b hb).1 (hle.fr b ⟨hbl,hn⟩))
     exact .inr (QLW.1 hbl)
    ·rcases g2 b hb with h | ⟨h,_⟩
     ·exact (g1 b h).2.1
     exact hr'.frl b h
    exact (g2 b hb).imp (fun h=>h) (fun h=>h.2.1)
  | _=>rw[hL] at hob;exact hob.elim
 ·simp at hok
theorem Qhu {f A pre post s} {Q:Ext->Prop} (hok:Qr2 P f A) (hlen:pre.length+post.length+1<=A.nt) (hv:∀ s',Q s'->s'.v=s.v)
  (h:WpF P K (FnF (QAo A.res Q)) [.code A.code] (QhV pre post) [(0,.ext s)]):Qwc P K f pre post s Q:=by
 refine ⟨hv,fun ok O D w us vs hp hul=>?_⟩;obtain ⟨fn,hfn,hok⟩:=hok;unfold Qeh at hok;split at hok
 ·rename_i c hbody;simp only[QKI,beq_iff_eq] at hok;obtain ⟨⟨hfit,hnt⟩,hres⟩:=hok;have hvl:vs.length=post.length:=by
   have:=hp.len;simp only[QKP] at this;omega
  let args:List Value:=us++s.v::vs
  let a:Act:={ tmps:=args.toArray++Array.replicate (fn.ntmps-args.toArray.size) undef,defers:=[] }
  let w0:XH:=⟨w,fun b=>b<w.heap.size/\¬ O b,fun _ h=>h.1,fun _=>undef⟩
  have hctx:Ctx P K ok w0:=⟨fun w' h=>hp.hK w' h,fun b hb=>by
   by_cases hbl:b<w.heap.size
   ·exact hp.own b (Classical.byContradiction fun hn=>hb ⟨hbl,hn⟩)
   exact hp.new b (QLW.1 hbl)⟩
  let lo:Nat->Option AO:=Qc [(0,.ext s)]
  have xb:∀ i ob,lo i=some ob->i=0/\ob=.ext s:=by
   intro i ob hi;simp only[lo,Qc] at hi;grind
  have hokk:∀ b,ok b/\¬ O b->okL ok lo (fun _=>.ext O D) b:=fun b hb=>⟨hb.1,fun i ob _ hbad=>hb.2 hbad⟩;have hdata:∀ k x u,(pre++post)[k]?=some x->(us++vs)[k]?=some u->QF (okL ok lo (fun _=>.ext O D)) w x u:=fun k x u h1 h2=>(hp.args k x u h1 h2).mono fun b hb _=>⟨hokk b hb,rfl⟩;have htmp:∀ t u,args[t]?=some u->a.tmps.getD t undef=u:=fun t u hu=>by
   have xa:t<args.length:=(QKG.1 hu).1;simp only[a,QLt,QLZ,QLK,xa,if_true,QMk,hu,QLB]
  have hrel:Rel ok ⟨A.nt,[]⟩ w0 (look (QhV pre post)) lo a w (fun _=>.ext O D):=by
   refine ⟨Q8.refl _ _,⟨[],rfl,QMa,by simp⟩,?_,fun t=>?_,fun i ob hi=>?_,fun i j oi oj b hij hi hj=>?_,fun t ht=>by simp at ht⟩
   ·simp[a,args,hnt];omega
   ·simp only[QhV,look];split
    ·rename_i ht;subst ht;rw[htmp pre.length s.v (by simp[args,<- hul])];exact .cb 0 s O D rfl rfl
    rename_i ht;by_cases hin:∃ v,(t,v)∈Jg 0 pre
    ·rw[QoR _ _ _ hin]
     rcases Xy pre 0 t with h1 | ⟨x,_,h2,h3⟩
     ·rw[h1];exact .iv _ _ (.any _)
     rw[h3];simp only[Nat.sub_zero] at h2;have xa:t<us.length:=by rw[hul];exact (QKG.1 h2).1
     rw[htmp t us[t] (by grind)]
     exact .iv _ _ (hdata t x _ (by rw[QKS (by omega)];exact h2) (by rw[QKS xa];exact QKF xa))
    rw[Qcn _ _ _ (fun v hv=>hin ⟨v,hv⟩)]
    rcases Xy post (pre.length+1) t with h1 | ⟨x,hle,h2,h3⟩
    ·rw[h1];exact .iv _ _ (.any _)
    rw[h3];have xa:t-(pre.length+1)<vs.length:=by rw[hvl];exact (QKG.1 h2).1
    have hg:=QKF xa
    rw[htmp t vs[t-(pre.length+1)] (by
     grind)]
    exact .iv _ _ (hdata (t-1) x _ (by rw[QKO (by omega)];rw[<- h2];congr 1;omega) (by rw[QKO (by omega),<- hg];congr 1;omega))
   ·obtain ⟨rfl,rfl⟩:=xb i ob hi;refine ⟨fun b hb=>⟨fun hf=>hf.2 hb,hp.lt b (hp.sub b hb),hp.sub b hb⟩,fun b hb=>?_,hp.J⟩;by_cases hbo:O b
    ·exact .inl hbo
    exact .inr ⟨⟨hp.lt b hb,hbo⟩,hokk b ⟨(hp.okd b hb).resolve_left hbo,hbo⟩⟩
   grind
  refine Qn0 (ac:=A.code) (R:=fun v w'=>∃ s',Q s'/\∃ O' D',U5 ok O w s' (.xd []) O' D' v w') hctx hfn hbody hfit hrel h (fun w1 e' o' a' w' L' hle hf hr'=>?_);obtain ⟨hf1,s',hq,hf2⟩:=hf;obtain ⟨v,h1,h2⟩:=YZ hr' (fun b hb=>hctx.ok b fun h=>hb (hle.fr b h)) hres hf1;refine ⟨v,h1,s',hq,?_⟩;have hob:=hr'.y9 0 _ hf2;cases hL:L' 0 with
  | ext O' D' =>
    rw[hL] at hob;obtain ⟨g1,g2,g3⟩:=hob;refine ⟨O',D',X6 rfl h2,hle.keeps hr'.below,g3,fun b hb=>?_,fun b hb=>(g1 b hb).2.2,fun b hb=>?_,fun b hb=>?_⟩
    ·by_cases hbl:b<w.heap.size
     ·exact .inl (Classical.byContradiction fun hn=>(g1 b hb).1 (hle.fr b ⟨hbl,hn⟩))
     exact .inr (QLW.1 hbl)
    ·rcases g2 b hb with h | ⟨h,_⟩
     ·exact (g1 b h).2.1
     exact hr'.frl b h
    exact (g2 b hb).imp (fun h=>h) (fun h=>h.2.1)
  | _=>rw[hL] at hob;exact hob.elim
 ·simp at hok
end
section
variable {P:Program} {K:World->Prop}
def Rnd (P:Program) (K:World->Prop) (ps:List Nat) (asn body:AC) (ks ids:List Nat) (eK:Env) (x:List IV) (o:Qm) (wy:Way) (o':Qm):Prop :=
 x.length=ps.length/\WpF P K (fun w1 e1 o1=>w1=.fall/\WpF P K (fun w2 e2 o2=>w2=wy/\Q5 ks ids e2=eK/\ZR ids o2 ids=o') [.code body] e1 o1) [.code asn] (Qaf ps x eK) o
inductive VI (P:Program) (K:World->Prop) (ps:List Nat) (asn body:AC) (ks ids:List Nat) (eK:Env):List (List IV)->Qm->Way->Qm->Prop
 | nil (o):VI P K ps asn body ks ids eK [] o .fall o
 | stop (x r o o' wy) (hn:wy≠.fall) (h:Rnd P K ps asn body ks ids eK x o wy o'):VI P K ps asn body ks ids eK (x::r) o wy o'
 | next (x r o o1 o' wy) (h:Rnd P K ps asn body ks ids eK x o .fall o1) (hr:VI P K ps asn body ks ids eK r o1 wy o'):VI P K ps asn body ks ids eK (x::r) o wy o'
theorem VI.index {ps asn body ks ids eK L o o' wy} (h:VI P K ps asn body ks ids eK L o wy o') :
  ∃ (St:Nat->Qm) (Wy:Nat->Way) (m:Nat),St 0=o/\St m=o'/\(if m=0 then .fall else Wy (m-1))=wy/\m<=L.length/\(∀ i,i+1<m->Wy i=.fall)/\(m=L.length\/(0<m/\Wy (m-1)≠.fall)) /\
   ∀ i x,i<m->L[i]?=some x->Rnd P K ps asn body ks ids eK x (St i) (Wy i) (St (i+1)):=by
 induction h with
 | nil o=>exact ⟨fun _=>o,fun _=>.fall,0,rfl,rfl,rfl,QKJ _,fun _ _=>rfl,.inl rfl,fun i x hi=>absurd hi (Nat.not_lt_zero _)⟩
 | stop x r o o' wy hn h =>
   refine ⟨fun i=>if i=0 then o else o',fun _=>wy,1,rfl,rfl,rfl,by simp,fun i hi=>by omega,.inr ⟨by omega,hn⟩,fun i y hi hy=>?_⟩;grind
 | next x r o o1 o' wy h _ ih =>
   obtain ⟨St,Wy,m,h1,h2,h3,h4,h5,h6,h7⟩:=ih;refine ⟨fun i=>if i=0 then o else St (i-1),fun i=>if i=0 then .fall else Wy (i-1),m+1,rfl,by simp[h2],?_,by simp;omega,fun i hi=>?_,?_,fun i y hi hy=>?_⟩
   all_goals grind
theorem QS {F f ps asn body ks ids k e o o' g fs cs L wy}
  (hf:QfI (f.av (look e))=some (g,fs,cs)) (hc:callee P g=true) (hit:qv P K g fs cs L) (hr:VI P K ps asn body ks ids (Q5 ks ids e) L (ZR ids o ids) wy o')
  (h:WpF P K F (Qjb wy k) (Q5 ks ids e) o'):WpF P K F (.code (.range f ps asn body ks ids)::k) e o:=by
 obtain ⟨St,Wy,m,h1,h2,h3,h4,h5,h6,h7⟩:=hr.index;refine .range F f ps asn body ks ids k e o g fs cs L St Wy m (fun i e1 o1=>WpF P K (fun w2 e2 o2=>w2=Wy i/\Q5 ks ids e2=Q5 ks ids e/\ZR ids o2 ids=St (i+1)) [.code body] e1 o1) hf hc hit h1 h4 h5 h6 (fun i x hi hx=>(h7 i x hi hx).1) (fun i x hi hx=>(h7 i x hi hx).2) (fun i e1 o1 _ hM=>hM) ?_;rw[h3,h2];exact h
theorem QrS {F f ps asn body ks ids k e o g fs cs} {S:List (List IV)->Prop} (St:List (List IV)->Qm)
  (hf:QfI (f.av (look e))=some (g,fs,cs)) (hc:callee P g=true) (hit:QrW P K g fs cs S) (h0:St []=ZR ids o ids)
  (hr:∀ p x,Beg S (p++[x])->Rnd P K ps asn body ks ids (Q5 ks ids e) x (St p) .fall (St (p++[x])))
  (h:∀ L,S L->WpF P K F k (Q5 ks ids e) (St L)):WpF P K F (.code (.range f ps asn body ks ids)::k) e o :=
 .rangeS F f ps asn body ks ids k e o g fs cs S St (fun p e1 o1=>WpF P K (fun w2 e2 o2=>w2=.fall/\Q5 ks ids e2=Q5 ks ids e/\ZR ids o2 ids=St p) [.code body] e1 o1) hf hc hit h0 (fun p x hx=>(hr p x hx).1) (fun p x hx=>(hr p x hx).2) (fun p x e1 o1 _ hM=>hM) h
theorem Qjc {g:FuncId} {A:AFn} {pre post:List IV} {S:List (List IV)->Prop} (hok:Qr2 P g A) (hlen:pre.length+post.length+1<=A.nt)
  (h:∀ st:List (List IV)->Ext,(∀ p x,Beg S (p++[x])->Yk P K (st p) x (.bool true) (st (p++[x])))->WpF P K (FnF (QAo A.res fun s'=>∃ L,S L/\s'=st L)) [.code A.code] (QhV pre post) [(0,.ext (st []))]):QrW P K g pre post S:=fun st hst=>by
 refine Qhu hok hlen (fun s' hs=>?_) (h st hst);obtain ⟨L,hL,rfl⟩:=hs;have key:∀ n p r,p.length=n->S (p++r)->(st p).v=(st []).v:=fun n=>by
  induction n with
  | zero =>
    intro p r hp _;rw[QKR hp]
  | succ n ih =>
    intro p r hp hr;rcases List.eq_nil_or_concat p with h | ⟨q,x,h⟩
    ·subst h;cases hp
    rw[List.concat_eq_append] at h;subst h;rw[(hst q x ⟨r,hr⟩).1];exact ih q ([x]++r) (by simpa using hp) (by simpa using hr)
 exact key _ L [] rfl (by simpa using hL)
theorem VI.all {ps:List Nat} {asn body:AC} {ks ids:List Nat} {eK:Env}:∀ (L:List (List IV)) (so:Nat->Qm),(∀ i x,L[i]?=some x->Rnd P K ps asn body ks ids eK x (so i) .fall (so (i+1)))->VI P K ps asn body ks ids eK L (so 0) .fall (so L.length)
 | [],so,_=>.nil _
 | x::r,so,h=>by
   refine .next x r _ _ _ _ (h 0 x rfl) ?_;have:=VI.all r (fun i=>so (i+1)) (fun i y hy=>h (i+1) y (by simpa using hy));simpa using this
@[simp] theorem QAr (k):Qjb .fall k=k:=rfl
@[simp] theorem QBu (k):Qjb .ret k=.code .ret::k:=rfl
@[simp] theorem QAs (id k):Qjb (.exit id) k=.code (.exit id)::k:=rfl
attribute [simp] QfI Qaf QFQ QAo QhV
end
def Yi:Nat->List AV->Env
 | _,[]=>[]
 | i,x::r=>(i,x)::Yi (i+1) r
theorem V5:∀ xs i t,look (Yi i xs) t=.iv .any\/∃ x,i<=t/\xs[t-i]?=some x/\look (Yi i xs) t=x
 | [],i,t=>.inl rfl
 | x::r,i,t=>by
   simp only[Yi,look];split
   ·rename_i h;subst h;exact .inr ⟨x,QKJ _,by simp,rfl⟩
   ·rename_i h;rcases V5 r (i+1) t with h1 | ⟨y,h1,h2,h3⟩
    all_goals grind
def QpZ (P:Program) (fn:Func) (A:AFn) (pins:List Nat):Bool :=
 (match fn.body with | some c=>Qs P ⟨A.nt,pins⟩ A.code c | none=>false)&&fn.ntmps==A.nt&&QY P A.res fn.results.toList
def Zv (P:Program) (f:FuncId) (A:AFn) (pins:List Nat):Prop:=∃ fn,P.funcs[f]?=some fn/\QpZ P fn A pins=true
theorem Qr2.p {P f A} (h:Qr2 P f A):Zv P f A []:=by
 obtain ⟨fn,h1,h2⟩:=h;exact ⟨fn,h1,h2⟩
def QiM (e:Env) (o:Qm):List Qdt->Option (List AV)
 | []=>some []
 | x::r=>match Qsl e o x,QiM e o r with
   | some y,some ys=>some (y::ys)
   | _,_=>none
def Qvz (res:List Qdt) (e:Env) (o:Qm):Option AV :=
 match res with
 | []=>some (.iv (.xd []))
 | [x]=>Qsl e o x
 | xs=>(QiM e o xs).map .xd
def QwR (ids:List Nat) (o:Qm) (y:AV) (z:AV):Prop :=
 match y with
 | .iv r=>imm (fun i=>if ids.contains i then none else Qc o i) 40 z=some r
 | y=>z=rn (nth ids) y
@[simp] theorem Qos (ids o r z):QwR ids o (.iv r) z=(imm (fun i=>if ids.contains i then none else Qc o i) 40 z=some r):=rfl
@[simp] theorem QBf (ids o i n z):QwR ids o (.yl i n) z=(z=.yl (nth ids i) n):=rfl
@[simp] theorem QDy (ids o i n z):QwR ids o (.loc i n) z=(z=.loc (nth ids i) n):=rfl
@[simp] theorem QDz (ids o cs z):QwR ids o (.agg cs) z=(z=.agg (rnL (nth ids) cs)):=rfl
def Qic (res:List Qdt) (ids:List Nat) (pe:List (Nat × Nat × Nat)) (y:AV) (o1:Qm) (e:Env) (o:Qm):Prop :=
 (∃ z,Qvz res e o=some z/\QwR ids o y z)/\(∀ p∈o1,Qc o (nth ids p.1)=some (rnO (nth ids) p.2))/\(∀ q∈pe,look e q.1=.loc q.2.1 q.2.2)
section
variable {P:Program} {K:World->Prop}
theorem QiN {fn rs tmps v w} (hrs:fn.results.toList=[rs]) (hv:(JP tmps rs).run P w=.ok v w):(results fn tmps).run P w=.ok v w:=by
 have hfun:results fn tmps=(do
   let vs <- fn.results.mapM (JP tmps)
   pure (if h:vs.size=1 then vs[0] else .tuple vs)):=by
  unfold results;congr 1
 rw[hfun,QMr,hrs];simp[List.mapM_cons,hv]
theorem results_none {fn tmps w} (hrs:fn.results.toList=[]):(results fn tmps).run P w=.ok undef w:=by
 have hfun:results fn tmps=(do
   let vs <- fn.results.mapM (JP tmps)
   pure (if h:vs.size=1 then vs[0] else .tuple vs)):=by
  unfold results;congr 1
 rw[hfun,QMr,hrs];simp[undef]
theorem Qsk {ok0 N w0 a w L e o fn res z} (h:Rel ok0 N w0 (look e) (Qc o) a w L) (hf:QY P res fn.results.toList=true) (hv:Qvz res e o=some z) :
  ∃ v,(results fn a.tmps).run P w=.ok v w/\QA (okL ok0 (Qc o) L) w (Qc o) L z v:=by
 match res,hv with
 | [],hv =>
   simp only[Qvz,Option.some.injEq] at hv;subst hv;have hrs:fn.results.toList=[]:=by
    generalize fn.results.toList=l at hf;cases l with
    | nil=>rfl
    | cons r s=>simp[QY] at hf
   exact ⟨undef,results_none hrs,.iv _ _ Qb1⟩
 | [x],hv =>
   obtain ⟨rs,hrs⟩:∃ rs,fn.results.toList=[rs]:=by
    generalize fn.results.toList=l at hf
    match l,hf with
    | [r],h=>exact ⟨r,rfl⟩
    | [],h=>cases x<;>simp[QY] at h
    | r::_::_,h=>cases x<;>cases r<;>simp[QY] at h
   rw[hrs] at hf;obtain ⟨v,hv1,hv2⟩:=QlE h hf hv;exact ⟨v,QiN hrs hv1,hv2⟩
 | x::x2::r,hv =>
   simp only[Qvz,QKK] at hv;obtain ⟨zs,hzs,rfl⟩:=hv
   have many:∀ res rs zs,QY P res rs=true->QiM e o res=some zs->∃ vs,(rs.mapM (JP a.tmps)).run P w=.ok vs w/\vs.length=zs.length /\
     ∀ (k:Nat) (z:AV) (v:Value),zs[k]?=some z->vs[k]?=some v->QA (okL ok0 (Qc o) L) w (Qc o) L z v:=by
    intro res;induction res with
    | nil =>
      intro rs zs hf hv;cases rs with
      | cons=>simp[QY] at hf
      | nil =>
        simp only[QiM,Option.some.injEq] at hv;subst hv;exact ⟨[],by simp,rfl,by simp⟩
    | cons y r ih =>
      intro rs zs hf hv;cases rs with
      | nil=>cases y<;>simp[QY] at hf
      | cons s rs =>
        obtain ⟨h1,h2⟩:=Qax hf;simp only[QiM] at hv;split at hv
        ·rename_i u us hu hus;injection hv with hv;subst hv;obtain ⟨v,hr,hrep⟩:=QlE h h1 hu;obtain ⟨vs,hrs,hl,hreps⟩:=ih rs us h2 hus;refine ⟨v::vs,by simp[List.mapM_cons,hr,hrs],by simp[hl],fun k z u hz hu=>?_⟩;grind
        cases hv
   obtain ⟨vs,hrs,hl,hreps⟩:=many _ _ _ hf hzs;have hzl:2<=zs.length:=by
    simp only[QiM] at hzs;grind
   refine ⟨.tuple vs.toArray,?_,.xd _ _ hl hreps⟩
   have hfun:results fn a.tmps=(do
     let vs <- fn.results.mapM (JP a.tmps)
     pure (if h:vs.size=1 then vs[0] else .tuple vs)):=by
    unfold results;congr 1
   rw[hfun,QMr];have hsz:¬ (vs.length=1):=by omega
   simp[hrs,hsz]
theorem QaL {f A args} {o o1:Qm} (Y:AV->Prop) (ids st:List Nat) (pins) (pe) (hok:Zv P f A pins) (hlen:args.length<=A.nt) (hnd:ids.Nodup)
  (ho1:∀ p∈o1,p.1<ids.length/\XR p.2=true/\clO (o1.map (·.1)) p.2=true) (hy:∀ y,Y y->clA (o1.map (·.1)) y=true)
  (hst:∀ i∈st,nth ids i=i/\(∃ cs,Qc o i=some (.box cs))/\(∃ cs,Qc o1 i=some (.box cs))/\∃ t off,(t,i,off)∈pe/\pins.contains t=true/\args[t]?=some (.loc i off))
  (h:WpF P K (FnF fun e o2=>∃ y,Y y/\Qic A.res ids pe y o1 e o2) [.code A.code] (Yi 0 args) o) :
  ∀ (w:World) (ok:Nat->Prop) (L:Nat->Lay) (vs:List Value),(∀ w',Q8 (FrO w (Qc o) L) w w'->K w')->(∀ b,w.heap.size<=b->ok b)->(∀ b,qt (Qc o) L b->ok b) ->
   Qlk (FrO w (Qc o) L) ok w (Qc o) L->vs.length=args.length->(∀ (k:Nat) (x:AV) (u:Value),args[k]?=some x->vs[k]?=some u->QA (okL ok (Qc o) L) w (Qc o) L x u) ->
   Calls P f vs.toArray w (fun e w'=>∃ v L',e=.returned v/\Qlk (FrO w (Qc o) L) ok w' (Qc o1) L'/\(∃ y,Y y/\QA (okL ok (Qc o1) L') w' (Qc o1) L' y v)/\Q8 (FrO w (Qc o) L) w w' /\
    ∀ i∈st,∀ ob,Qc o i=some ob->∃ ob',Qc o1 i=some ob'/\Jj ob ob' (L i) (L' i)):=by
 intro w ok L vs hK hnew hown hlaid hvl hvs;obtain ⟨fn,hfn,hok⟩:=hok;unfold QpZ at hok;split at hok
 ·rename_i c hbody;simp only[QKI,beq_iff_eq] at hok;obtain ⟨⟨hfit,hnt⟩,hresf⟩:=hok
  let a:Act:={ tmps:=vs.toArray++Array.replicate (fn.ntmps-vs.toArray.size) undef,defers:=[] }
  let w0:XH:=⟨w,FrO w (Qc o) L,fun _ h=>h.1,fun t=>a.tmps.getD t undef⟩
  have hctx:Ctx P K ok w0:=⟨fun w' h=>hK w' h,fun b hb=>by
   by_cases hbl:b<w.heap.size
   ·exact hown b (Classical.byContradiction fun hn=>hb ⟨hbl,hn⟩)
   exact hnew b (QLW.1 hbl)⟩
  have hget:∀ t (xa:t<vs.length),a.tmps.getD t undef=vs[t]:=fun t xa=>by
   simp[a,QLt,QLZ,xa]
  have hrel:Rel ok ⟨A.nt,pins⟩ w0 (look (Yi 0 args)) (Qc o) a w L:=by
   refine ⟨Q8.refl _ _,⟨[],rfl,QMa,by simp⟩,?_,fun t=>?_,hlaid.y9,hlaid.apart,fun t _=>rfl⟩
   ·simp[a,hnt];omega
   rcases V5 args 0 t with h1 | ⟨z,_,h2,h3⟩
   ·rw[h1];exact .iv _ _ (.any _)
   rw[h3];simp only[Nat.sub_zero] at h2;have xa:t<vs.length:=by rw[hvl];exact (QKG.1 h2).1
   rw[hget t xa];exact hvs t z _ h2 (QKF xa)
  refine (Qn0 (ac:=A.code) (R:=fun v w'=>∃ L',Qlk (FrO w (Qc o) L) ok w' (Qc o1) L'/\(∃ y,Y y/\QA (okL ok (Qc o1) L') w' (Qc o1) L' y v)/\Q8 (FrO w (Qc o) L) w w'/\∀ i∈st,∀ ob,Qc o i=some ob->∃ ob',Qc o1 i=some ob'/\Jj ob ob' (L i) (L' i)) hctx hfn hbody hfit hrel h (fun w1 e1 o2 a1 w' L' hle hf hr'=>?_)).mono fun e w' ⟨v,he,L',h1⟩=>⟨v,L',he,h1⟩;obtain ⟨y,hY,⟨z,hz,hzy⟩,hobs,hpe⟩:=hf;have hy:=hy y hY;obtain ⟨v,hrun,hrep⟩:=Qsk hr' hresf hz
  let m:=nth ids
  let L1:Nat->Lay:=fun j=>L' (m j)
  have hinj:∀ i j,i<ids.length->j<ids.length->m i=m j->i=j:=fun i j hi hj e=>by
   have h1:=Jr hnd hi;have h2:=Jr hnd hj;grind
  have hlo1:∀ i ob,Qc o1 i=some ob->Qc o2 (m i)=some (rnO m ob)/\L1 i=L' (m i):=fun i ob hob=>⟨hobs (i,ob) (Zb hob),rfl⟩;have hdom:∀ i,(o1.map (·.1)).contains i=true->(Qc o1 i).isSome=true:=fun i hi=>by
   obtain ⟨ob,hob⟩:=JD (o:=o1) (by simpa using hi);rw[hob];rfl
  have hlt1:∀ i ob,Qc o1 i=some ob->i<ids.length:=fun i ob hob=>(ho1 (i,ob) (Zb hob)).1;have hokc:∀ b,okL ok (Qc o2) L' b->okL ok (Qc o1) L1 b:=fun b hb=>⟨hb.1,fun i ob hob hbb=>hb.2 _ _ (hlo1 i ob hob).1 hbb⟩;have hFr:∀ b,FrO w (Qc o) L b->w1.fr b:=fun b hb=>hle.fr b hb;refine ⟨v,hrun,L1,⟨fun i ob hob=>?_,fun i j oi oj b hij hi hj h1 h2=>?_⟩,⟨y,hY,?_⟩,hle.keeps hr'.below,fun i hi ob hob=>?_⟩
  ·obtain ⟨_,h2,h3⟩:=ho1 (i,ob) (Zb hob);exact QlD hokc hdom hlo1 h3 h2 (fun b hb hf=>((hr'.y9 _ _ (hlo1 i ob hob).1).lt hb).1 (hFr b hf)) (hr'.y9 _ _ (hlo1 i ob hob).1)
  ·exact hr'.apart (m i) (m j) _ _ b (fun e=>hij (hinj i j (hlt1 i oi hi) (hlt1 j oj hj) e)) (hlo1 i oi hi).1 (hlo1 j oj hj).1 h1 h2
  ·unfold QwR at hzy;split at hzy
   ·rename_i r
    have hs:=(YU hr' (ok1:=okL ok (Qc o1) L1) hokc (lo':=fun i=>if ids.contains i then none else Qc o2 i)
     (fun id ob hob=>by
       split at hob
       ·cases hob
       exact hob)
     (fun id ob b hob hb=>by
       split at hob
       ·cases hob
       rename_i hni;refine ⟨(hctx.le hle).ok b ((hr'.y9 id ob hob).lt hb).1,fun i oi hi hbb=>?_⟩;refine hr'.apart (m i) id _ ob b (fun e=>hni ?_) (hlo1 i oi hi).1 hob hbb hb;rw[<- e];have hil:=hlt1 i oi hi;simp only[m,nth,List.getD_eq_getElem?_getD,QKF hil,QLB,List.contains_eq_mem,decide_eq_true_eq];exact QKL hil) 40).1 z v r hrep hzy
    exact .iv _ _ hs
   subst hzy;exact QiH hokc hdom hlo1 hy hrep
  obtain ⟨hmi,⟨cs,hcs⟩,⟨cs',hcs'⟩,t,off,hpm,hpin,hat⟩:=hst i hi;refine ⟨_,hcs',?_⟩;rw[hcs] at hob;injection hob with hob;subst hob;have xa:t<vs.length:=by rw[hvl];exact (QKG.1 hat).1
  have hr0:=hvs t _ _ hat (QKF xa);have hr1:=hr'.env t;rw[hpe (t,i,off) hpm] at hr1;rw[hr'.pin t hpin] at hr1;have hpv:w1.pin t=vs[t]:=by rw[hle.pin];exact hget t xa
  rw[hpv] at hr1;have hL1:L1 i=L' i:=by show L' (nth ids i)=L' i;rw[hmi]
  generalize vs[t]=pv at hr0 hr1;cases hr0 with
  | loc _ _ c0 b0 g1 g2 =>
    cases hr1 with
    | loc _ _ c1 _ g3 g4 =>
      rw[g2,hL1,g4];simp only[Jj]
 ·simp at hok
theorem Zp {f A args o o1 y} (ids st pins pe) (hok:Zv P f A pins) (hlen:args.length<=A.nt) (hnd:ids.Nodup)
  (ho1:∀ p∈o1,p.1<ids.length/\XR p.2=true/\clO (o1.map (·.1)) p.2=true) (hy:clA (o1.map (·.1)) y=true)
  (hst:∀ i∈st,nth ids i=i/\(∃ cs,Qc o i=some (.box cs))/\(∃ cs,Qc o1 i=some (.box cs))/\∃ t off,(t,i,off)∈pe/\pins.contains t=true/\args[t]?=some (.loc i off))
  (h:WpF P K (FnF (Qic A.res ids pe y o1)) [.code A.code] (Yi 0 args) o):YD P K f args o st y o1:=fun w ok L vs a b c d e g=>by
 refine (QaL (·=y) ids st pins pe hok hlen hnd ho1 (fun _ e=>e▸hy) hst (by simpa using h) w ok L vs a b c d e g).mono ?_;rintro _ _ ⟨v,L',h1,h2,⟨_,rfl,h3⟩,h4⟩;exact ⟨v,L',h1,h2,h3,h4⟩
theorem Qhv {f A args o o1 sz es} (ids st pins pe) (hok:Zv P f A pins) (hlen:args.length<=A.nt) (hnd:ids.Nodup)
  (ho1:∀ p∈o1,p.1<ids.length/\XR p.2=true/\clO (o1.map (·.1)) p.2=true)
  (hst:∀ i∈st,nth ids i=i/\(∃ cs,Qc o i=some (.box cs))/\(∃ cs,Qc o1 i=some (.box cs))/\∃ t off,(t,i,off)∈pe/\pins.contains t=true/\args[t]?=some (.loc i off))
  (h:WpF P K (FnF fun e o2=>∃ y:AV,(∃ es':List (List IV),es'.Perm es/\y=.iv (.sl sz es'))/\Qic A.res ids pe y o1 e o2) [.code A.code] (Yi 0 args) o):YD P K f args o st (.iv (.bag sz es)) o1:=fun w ok L vs a b c d e g=>by
 refine (QaL _ ids st pins pe hok hlen hnd ho1 (fun _ ⟨_,_,e⟩=>e▸rfl) hst h w ok L vs a b c d e g).mono ?_;rintro _ _ ⟨v,L',h1,h2,⟨_,⟨es',hp,rfl⟩,h3⟩,h4⟩;cases h3 with
 | iv _ _ r=>exact ⟨v,L',h1,h2,.iv _ _ (.bag sz es es' v hp r),h4⟩
theorem YD.none {f args o o' st y} (h:YD P K f args o st y o'):YD P K f args o [] y o' :=
 fun w ok L vs h1 h2 h3 h4 h5 h6=>(h w ok L vs h1 h2 h3 h4 h5 h6).mono fun _ _ ⟨v,L',a,b,c,d,_⟩=>⟨v,L',a,b,c,d,fun _ h=>by simp at h⟩
@[simp] theorem QDx (ids o cs z):QwR ids o (.xd cs) z=(z=.xd (rnL (nth ids) cs)):=rfl
attribute [simp] Qvz QiM Qic Yi
end
mutual
theorem Qvt {st}:∀ {x},clA st x=true->scr st x=x
 | .iv x,_=>rfl
 | .agg cs,h=>by simp only[clA] at h;simp only[scr,scrL_cl h]
 | .loc id off,h=>by simp only[clA] at h;simp only[scr,h,if_true]
 | .yj id n i off,h=>by simp only[clA] at h;simp only[scr,h,if_true]
 | .yl id n,h=>by simp only[clA] at h;simp only[scr,h,if_true]
 | .yn id k n,h=>by simp only[clA] at h;simp only[scr,h,if_true]
 | .ym sz,_=>rfl
 | .zsl sz rows,_=>rfl
 | .yk id,h=>by simp only[clA] at h;simp only[scr,h,if_true]
 | .clo g fs cs,h=>by
   simp only[clA,QKI] at h;simp only[scr,scrL_cl h.1,scrL_cl h.2]
 | .cb id,h=>by simp only[clA] at h;simp only[scr,h,if_true]
 | .xd cs,h=>by simp only[clA] at h;simp only[scr,scrL_cl h]
theorem scrL_cl {st}:∀ {cs},clAL st cs=true->scrL st cs=cs
 | [],_=>rfl
 | x::r,h=>by
   simp only[clAL,QKI] at h;simp only[scrL,Qvt h.1,scrL_cl h.2]
end
theorem Jj.trans {a b c x y z} (h:Jj a b x y) (k:Jj b c y z):Jj a c x z:=by
 cases a<;>cases b<;>cases x<;>cases y<;>first | exact h.elim | skip
 all_goals cases c<;>cases z<;>first | exact k.elim | skip
 all_goals simp only[Jj] at h k |-
 all_goals grind
section
variable {P:Program} {K:World->Prop}
inductive XZ (P:Program) (K:World->Prop) (gc:FuncId) (fs cs:List AV) (st:List Nat):List (List IV)->Qm->Bool->Qm->Prop
 | nil (o):XZ P K gc fs cs st [] o true o
 | stop (x r o o') (h:YD P K gc (fs++x.map AV.iv++cs) o st (.iv (.bool false)) o') (hn:∀ p∈o',XR p.2=true):XZ P K gc fs cs st (x::r) o false o'
 | next (x r o o' o'' b) (h:YD P K gc (fs++x.map AV.iv++cs) o st (.iv (.bool true)) o') (hn:∀ p∈o',XR p.2=true) (hr:XZ P K gc fs cs st r o' b o''):XZ P K gc fs cs st (x::r) o b o''
def QDm (fs cs:List AV) (us vs:List Value) (st:List Nat) (o0:Qm) (L0:Nat->Lay) (o:Qm) (O D:Nat->Prop) (w:World):Prop :=
 ∃ L,(∀ b,O b↔qt (Qc o) L b)/\(∀ b,O b->D b)/\(∀ b,D b->b<w.heap.size)/\Qlk (fun b=>D b/\¬ O b) D w (Qc o) L/\(∀ p∈o,XR p.2=true) /\
  (∀ (k:Nat) (x:AV) (u:Value),fs[k]?=some x->us[k]?=some u->QA (okL D (Qc o) L) w (Qc o) L x u) /\
  (∀ (k:Nat) (x:AV) (u:Value),cs[k]?=some x->vs[k]?=some u->QA (okL D (Qc o) L) w (Qc o) L x u) /\
  ∀ i∈st,∀ ob,Qc o0 i=some ob->∃ ob',Qc o i=some ob'/\Jj ob ob' (L0 i) (L i)
theorem Qbd {o} (h:∀ p∈o,XR p.2=true) {i ob} (ho:Qc o i=some ob):XR ob=true:=h (i,ob) (Zb ho)
theorem QDm.stay {fs cs us vs st o0 o L0 O D w w'} (h:QDm fs cs us vs st o0 L0 o O D w) (hk:Q8 D w w'):QDm fs cs us vs st o0 L0 o O D w':=by
 obtain ⟨L,h1,h2,h3,h4,h5,h6,h7,h8⟩:=h;have hok:∀ b,okL D (Qc o) L b->Y0 w b->okL D (Qc o) L b/\w'.heap[b]?=w.heap[b]?:=fun b hb _=>⟨hb,hk.block b hb.1⟩;have hown:∀ id ob b,Qc o id=some ob->(L id).has b->w'.heap[b]?=w.heap[b]?:=fun id ob b ho hb=>hk.block b (h2 b ((h1 b).2 ⟨id,ob,ho,hb⟩));have all:∀ x v,QA (okL D (Qc o) L) w (Qc o) L x v->QA (okL D (Qc o) L) w' (Qc o) L x v:=fun x v hx=>hx.move hok hown;refine ⟨L,h1,h2,fun b hb=>QLn (h3 b hb) hk.size,⟨fun id ob ho=>?_,h4.apart⟩,h5,fun k x u a b=>all _ _ (h6 k x u a b),fun k x u a b=>all _ _ (h7 k x u a b),h8⟩;exact (h4.y9 id ob ho).move ⟨hk.os,hk.tape,hk.output,hk.size⟩ hok (fun b hb=>⟨fun hf=>hf.2 ((h1 b).2 ⟨id,ob,ho,hb⟩),hown id ob b ho hb⟩) (fun b hb hb'=>⟨hb,hb',hk.block b hb.1⟩) all
def QAB (g:FuncId) (fs cs:List AV) (us vs:List Value) (st:List Nat) (o0:Qm) (L0:Nat->Lay) (o:Qm):Ext :=
 ⟨.func (.func g) us.toArray vs.toArray,rfl,QDm fs cs us vs st o0 L0 o,fun _ _ _ _ h hk=>h.stay hk⟩
theorem QhT {gc fs cs us vs st o0 o o' L0 x y} (hc:callee P gc=true) (lu:us.length=fs.length) (lv:vs.length=cs.length) (hfs:clAL st fs=true) (hcs:clAL st cs=true)
  (hg:YD P K gc (fs++x.map AV.iv++cs) o st (.iv y) o') (hn:∀ p∈o',XR p.2=true):Yk P K (QAB gc fs cs us vs st o0 L0 o) x y (QAB gc fs cs us vs st o0 L0 o'):=by
 refine ⟨rfl,fun ok O D w zs hp=>?_⟩;obtain ⟨L,h1,h2,h3,h4,h5,h6,h7,h8⟩:=hp.J
 have hD:∀ b,okL D (Qc o) L b->okL ok (Qc o) L b:=fun b hb=>⟨(hp.okd b hb.1).resolve_left fun ho=>by
  obtain ⟨i,ob,g1,g2⟩:=(h1 b).1 ho;exact hb.2 i ob g1 g2,hb.2⟩
 have mono:∀ z u,QA (okL D (Qc o) L) w (Qc o) L z u->QA (okL ok (Qc o) L) w (Qc o) L z u:=fun z u hz=>hz.move (fun b hb _=>⟨hD b hb,rfl⟩) (fun _ _ _ _ _=>rfl)
 have hlaid:Qlk (FrO w (Qc o) L) ok w (Qc o) L:=⟨fun id ob ho=>((h4.y9 id ob ho).frameN' (Qbd h5 ho) (B':=FrO w (Qc o) L) fun b hb hf=>hf.2 ⟨id,ob,ho,hb⟩).move ⟨rfl,rfl,rfl,QKJ _⟩ (fun b hb _=>⟨hD b hb,rfl⟩) (fun b hb=>⟨fun hf=>hf.2 ⟨id,ob,ho,hb⟩,rfl⟩)
   (fun b hb hb'=>⟨hb,hD b hb',rfl⟩) mono,h4.apart⟩
 have hFO:∀ b,FrO w (Qc o) L b↔b<w.heap.size/\¬ O b:=fun b=>by unfold FrO;rw[h1 b]
 refine Ans.of_calls hc ((hg w ok L (us++zs++vs) (fun w' hk=>hp.hK w' (hk.mono fun b hb=>(hFO b).2 hb)) hp.new (fun b hb=>hp.own b ((h1 b).2 hb)) hlaid (by simp[lu,lv,hp.len]) (fun k z u hz hu=>?_)).mono ?_)
 ·by_cases k1:k<fs.length
  ·grind
  rw[QK8,QKO (by omega)] at hz;rw[QK8,QKO (by omega),lu] at hu;by_cases k2:k-fs.length<x.length
  ·rw[QKS (by simpa using k2)] at hz;rw[QKS (by rw[hp.len];exact k2)] at hu;rw[QKN,QKK] at hz;obtain ⟨q,hq,rfl⟩:=hz;exact .iv _ _ ((hp.args _ q u hq hu).mono fun b hb _=>⟨⟨hb.1,fun i ob ho hbb=>hb.2 ((h1 b).2 ⟨i,ob,ho,hbb⟩)⟩,rfl⟩)
  rw[QKO (by simpa using k2)] at hz;rw[QKO (by rw[hp.len];omega)] at hu;simp only[QKX,hp.len] at hz hu;exact mono _ _ (h7 _ z u hz hu)
 ·rintro e w' ⟨v,L',rfl,hlaid',hrep,hk,hstay⟩
  let O':Nat->Prop:=qt (Qc o') L'
  let D':Nat->Prop:=fun b=>b<w'.heap.size/\(O' b\/ok b)
  have hO'lt:∀ b,O' b->b<w'.heap.size:=fun b ⟨i,ob,ho,hb⟩=>((hlaid'.y9 i ob ho).lt hb).2;have hO'fr:∀ b,O' b->¬ FrO w (Qc o) L b:=fun b ⟨i,ob,ho,hb⟩=>((hlaid'.y9 i ob ho).lt hb).1;have hnew:∀ b,O' b->O b\/w.heap.size<=b:=fun b hb=>by
   grind
  have hmv:∀ id e sz es mv,Qc o id=some (.arr e sz es mv)->mv<=es.length:=fun id e sz es mv ho=>by
   have hob:=hlaid.y9 id _ ho;cases hL:L id with
   | arr v xs=>rw[hL] at hob;exact hob.2.1
   | _=>rw[hL] at hob;exact hob.elim
  have hokD:∀ b,okL ok (Qc o') L' b->Y0 w' b->okL D' (Qc o') L' b/\w'.heap[b]?=w'.heap[b]?:=fun b hb hpl=>⟨⟨⟨hpl.lt,.inr hb.1⟩,hb.2⟩,rfl⟩;have all':∀ z u,QA (okL ok (Qc o') L') w' (Qc o') L' z u->QA (okL D' (Qc o') L') w' (Qc o') L' z u:=fun z u hz=>hz.move hokD (fun _ _ _ _ _=>rfl);have turn:∀ z u,clA st z=true->QA (okL ok (Qc o) L) w (Qc o) L z u->QA (okL D' (Qc o') L') w' (Qc o') L' z u:=fun z u hz hr=>by
   have:=Qlz (Fr:=FrO w (Qc o) L) (ok':=okL ok (Qc o') L') (ok'':=okL ok (Qc o') L') (w':=w') (lo':=Qc o') (L':=L') (keep:=st) (fun b hb hbs=>by
    have hnO:¬ O b:=fun ho=>by
     obtain ⟨i,ob,g1,g2⟩:=(h1 b).1 ho;exact hb.2 i ob g1 g2
    refine ⟨⟨hb.1,fun i ob ho hbb=>?_⟩,hk.block b ((hFO b).2 ⟨hbs,hnO⟩)⟩;rcases hnew b ⟨i,ob,ho,hbb⟩ with h | h
    ·exact hnO h
    ·omega) hmv (fun id ob hc ho=>by
    obtain ⟨ob',g1,g2⟩:=hstay id (by simpa using hc) ob ho;exact .inr ⟨ob',g1,g2,hlaid'.y9 id ob' g1⟩) hr
   rw[Qvt hz] at this;exact all' _ _ this
  refine ⟨v,rfl,O',D',?_,hk.mono fun b hb=>(hFO b).2 hb,⟨L',fun b=>Iff.rfl,fun b hb=>⟨hO'lt b hb,.inl hb⟩,fun b hb=>hb.1,⟨fun id ob ho=>?_,hlaid'.apart⟩,hn,fun k z u hz hu=>?_,fun k z u hz hu=>?_,fun i hi ob hob=>?_⟩,hnew,fun b hb=>⟨hO'lt b hb,.inl hb⟩,fun b hb=>hb.1,fun b hb=>hb.2⟩
  ·cases hrep with
   | iv _ _ r=>exact r.mono fun b hb _=>⟨⟨hb.1,fun ⟨i,ob,ho,hbb⟩=>hb.2 i ob ho hbb⟩,rfl⟩
  ·exact ((hlaid'.y9 id ob ho).frameN' (Qbd hn ho) (B':=fun b=>D' b/\¬ O' b) fun b hb hf=>hf.2 ⟨id,ob,ho,hb⟩).move ⟨rfl,rfl,rfl,QKJ _⟩ hokD (fun b hb=>⟨fun hf=>hf.2 ⟨id,ob,ho,hb⟩,rfl⟩) (fun b hb hb'=>⟨hb,⟨hb.1,hb'.2⟩,rfl⟩) all'
  ·exact turn z u (qk hfs hz) (mono _ _ (h6 k z u hz hu))
  ·exact turn z u (qk hcs hz) (mono _ _ (h7 k z u hz hu))
  ·obtain ⟨ob',g1,g2⟩:=h8 i hi ob hob;obtain ⟨ob'',g3,g4⟩:=hstay i hi ob' g1;exact ⟨ob'',g3,g2.trans g4⟩
theorem XZ.feeds {gc fs cs us vs st o0 L0} (hc:callee P gc=true) (lu:us.length=fs.length) (lv:vs.length=cs.length) (hfs:clAL st fs=true) (hcs:clAL st cs=true)
  {Ls o o' b} (h:XZ P K gc fs cs st Ls o b o'):Q9 P K Ls (QAB gc fs cs us vs st o0 L0 o) b (QAB gc fs cs us vs st o0 L0 o'):=by
 induction h with
 | nil o=>exact .nil _
 | stop x r o o' h hn=>exact .stop _ _ _ _ (QhT hc lu lv hfs hcs h hn)
 | next x r o o' o'' b h hn _ ih=>exact .next _ _ _ _ _ _ (QhT hc lu lv hfs hcs h hn) ih
theorem Vn {g gc:FuncId} {pre post:List IV} {Ls:List (List IV)} {yf:Bool->IV} {fs cs:List AV} {st:List Nat} {o o':Qm} {b:Bool} (hit:qu P K g pre post Ls yf) (hc:callee P gc=true) (hfs:clAL st fs=true) (hcs:clAL st cs=true)
  (hst:∀ i∈st,∃ bs,Qc o i=some (.box bs)) (hn:∀ p∈o,XR p.2=true) (hr:XZ P K gc fs cs st Ls o b o'):YD P K g (pre.map AV.iv++.clo gc fs cs::post.map AV.iv) o st (.iv (yf b)) o':=by
 intro w ok L ws hK hnew hown hlaid hwl hws;have hwl':ws.length=pre.length+(1+post.length):=by rw[hwl];simp;omega
 have hdec:ws=ws.take pre.length++ws[pre.length]'(by omega)::ws.drop (pre.length+1):=by
  rw[List.getElem_cons_drop,List.take_append_drop]
 have hcv:=hws pre.length (.clo gc fs cs) _ (by simp) (QKF (by omega));generalize ws[pre.length]'(by omega)=cv at hdec hcv;cases hcv with
 | clo _ _ _ us vs lu lv hfx hcx =>
   let O:Nat->Prop:=qt (Qc o) L
   let D:Nat->Prop:=fun b=>b<w.heap.size/\(O b\/ok b)
   have hOlt:∀ b,O b->b<w.heap.size:=fun b ⟨i,ob,ho,hb⟩=>((hlaid.y9 i ob ho).lt hb).2;have hokD:∀ b,okL ok (Qc o) L b->Y0 w b->okL D (Qc o) L b/\w.heap[b]?=w.heap[b]?:=fun b hb hpl=>⟨⟨⟨hpl.lt,.inr hb.1⟩,hb.2⟩,rfl⟩;have all:∀ z u,QA (okL ok (Qc o) L) w (Qc o) L z u->QA (okL D (Qc o) L) w (Qc o) L z u:=fun z u hz=>hz.move hokD (fun _ _ _ _ _=>rfl);have hJ:QDm fs cs us vs st o L o O D w:=by
    refine ⟨L,fun b=>Iff.rfl,fun b hb=>⟨hOlt b hb,.inl hb⟩,fun b hb=>hb.1,⟨fun id ob ho=>?_,hlaid.apart⟩,hn,fun k z u hz hu=>all _ _ (hfx k z u hz hu),fun k z u hz hu=>all _ _ (hcx k z u hz hu),fun i hi ob hob=>?_⟩
    ·exact ((hlaid.y9 id ob ho).frameN' (Qbd hn ho) (B':=fun b=>D b/\¬ O b) fun b hb hf=>hf.2 ⟨id,ob,ho,hb⟩).move ⟨rfl,rfl,rfl,QKJ _⟩ hokD (fun b hb=>⟨fun hf=>hf.2 ⟨id,ob,ho,hb⟩,rfl⟩) (fun b hb hb'=>⟨hb,⟨hb.1,hb'.2⟩,rfl⟩) all
    obtain ⟨bs,h1⟩:=hst i hi;rw[hob] at h1;injection h1 with h1;subst h1;refine ⟨_,hob,?_⟩;have hob2:=hlaid.y9 i _ hob;cases hL:L i with
    | box b=>rfl
    | _=>rw[hL] at hob2;exact hob2.elim
   have hgx:=hit _ _ _ (hr.feeds (us:=us) (vs:=vs) (o0:=o) (L0:=L) hc lu lv hfs hcs);have hpre:Qh8 K ok O D w (QAB gc fs cs us vs st o L o) (pre++post) (ws.take pre.length++ws.drop (pre.length+1)):=by
    refine ⟨fun w' hk=>hK w' (hk.mono fun b hb=>hb),hJ,fun b hb=>⟨hOlt b hb,.inl hb⟩,fun b hb=>hb.1,fun b hb=>hb.2,hnew,hown,by simp;omega,fun k x u hx hu=>?_⟩;have arg:∀ k x u,(pre.map AV.iv++AV.clo gc fs cs::post.map AV.iv)[k]?=some (AV.iv x)->ws[k]?=some u->QF (fun b=>ok b/\¬ O b) w x u:=fun k x u h1 h2=>by
     have:=hws k _ u h1 h2;cases this with
     | iv _ _ r=>exact r.mono fun b hb _=>⟨⟨hb.1,fun ⟨i,ob,ho,hbb⟩=>hb.2 i ob ho hbb⟩,rfl⟩
    by_cases hk:k<pre.length
    ·grind
    rw[QKO (by omega)] at hx;have hmin:(ws.take pre.length).length=pre.length:=by rw[QMh];omega
    rw[QKO (by rw[hmin];omega),hmin,QLP] at hu;refine arg (pre.length+1+(k-pre.length)) x u ?_ hu;rw[QKO (by simp;omega)];grind
   have hcall:=hgx.2 ok O D w (ws.take pre.length) (ws.drop (pre.length+1)) hpre (by simp;omega);have hws2:(ws.take pre.length++(QAB gc fs cs us vs st o L o).v::ws.drop (pre.length+1)).toArray=ws.toArray:=congrArg List.toArray hdec.symm;rw[hws2] at hcall;refine hcall.mono ?_;rintro e w' ⟨v,rfl,O',D',hpost⟩;obtain ⟨L',h1,h2,h3,h4,h5,h6,h7,h8⟩:=hpost.J
   have hokn:∀ b,okL D' (Qc o') L' b->okL ok (Qc o') L' b:=fun b hb=>⟨(hpost.okd b hb.1).resolve_left fun ho=>by
    obtain ⟨i,ob,g1,g2⟩:=(h1 b).1 ho;exact hb.2 i ob g1 g2,hb.2⟩
   have allb:∀ z u,QA (okL D' (Qc o') L') w' (Qc o') L' z u->QA (okL ok (Qc o') L') w' (Qc o') L' z u:=fun z u hz=>hz.move (fun b hb _=>⟨hokn b hb,rfl⟩) (fun _ _ _ _ _=>rfl);have hfr:∀ id ob b,Qc o' id=some ob->(L' id).has b->¬ FrO w (Qc o) L b:=fun id ob b ho hb hf=>by
    rcases hpost.new b ((h1 b).2 ⟨id,ob,ho,hb⟩) with h | h
    ·exact hf.2 h
    have:=hf.1;omega
   refine ⟨v,L',rfl,⟨fun id ob ho=>?_,h4.apart⟩,QA.iv _ _ (hpost.rep.mono fun b hb _=>⟨⟨hb.1,fun i ob ho hbb=>hb.2 ((h1 b).2 ⟨i,ob,ho,hbb⟩)⟩,rfl⟩),hpost.keep,fun i hi ob hob=>?_⟩
   ·exact ((h4.y9 id ob ho).frameN' (Qbd h5 ho) (B':=FrO w (Qc o) L) fun b hb=>hfr id ob b ho hb).move ⟨rfl,rfl,rfl,QKJ _⟩ (fun b hb _=>⟨hokn b hb,rfl⟩) (fun b hb=>⟨hfr id ob b ho hb,rfl⟩) (fun b hb hb'=>⟨hb,hokn b hb',rfl⟩) allb
   ·exact h8 i hi ob hob
end
section
variable {P:Program} {K:World->Prop}
end
end Go.Ev
namespace Go.Pf
open Go Go.Ev Go.Proofs Go.Proofs.Tryz
attribute [simp] c7 c9 c10 c11 c12 c13 c14 c19 c26 c27 c30 c34 c35 c36 c40 c41 c42 c43 c44 c45 c46 c62 c67 c68 c69 c70 c74 c75 c76 c77 c78 c79 c80 c81 c82 c83 c91 c92 c93 c94 c95 c96 c97 c98 c99 QJQ QJP QC9 QJO QC8 QJN QJM QC7 QJL QJK QC6 QJJ QC5 QJI QC4 QJH QC3 QJG QJF QC2 QJE QC1 QJD QC0 QJC QCZ QJB QCY QJA QCX QJz QCW QJy QCV QJx QCU QJw QJv QJu QJt QJs QJc QJb QJa QI9 QI8 QI7 QI6 QI5 QI4 QI3 QI2 QI1 QI0 QIZ QIY QIX QIW QCT QCS QCR QAa QCQ QCP QCO QIV QIU QIT QIS QIR QIQ QIP QIO QIN QIM QIL QIK QIJ QII QIH QIG QIF QIE QID QIC QIB QIA QIz QIy QIx QIv QIu QIt QIs QIr QIq QIp QIo QIn QIm QIk QHX QHW QHV QHU QHT QHS QHR QHQ QHP QHN QHM QHL QHK QHJ QHI QCG QHH QHG QHF QHE QHD QHC QHB QHA QHz QDZ QHy QHx QDY QHw QHv QHu QHt QHs QHr QHq QHp QHa QG2 QG1 QG0 QGZ QGY QGX QGW QGV QGU QGT QGS QGR QGQ QGP QDX QGO
attribute [simp] QGN QGF QGE QGD QGC QGB QGz QGy QGx QGt QGs
abbrev Gd:=Ev.Good prog
abbrev Gh:=YD prog
abbrev Gp:=Qh7 prog
attribute [simp] Qnn IntKind.inR IntKind.min IntKind.max IntKind.bits IntKind.signed
end Go.Pf
namespace Go.Pf
open Go Go.Ev Go.Proofs Go.RowKit Go.Proofs.Tryz
variable {K:World->Prop} (hK:∀ w w',K w->Below w.heap.size w w'->K w')
set_option maxRecDepth 8000
structure Qv where
 zp:Int
 pos:Int
 z2:Int
 bar:Int
 z1:Int
 deriving DecidableEq
structure XB where
 after:Int
 pos:Int
 z2:Int
 bar:Int
 z1:Int
 deriving DecidableEq
structure Qf where
 za:List Qv
 zg:List XB
 zh:Int
 deriving DecidableEq
structure ZC where
 long:Int
 lo:Int
 hi:Int
 deriving DecidableEq
structure ZD where
 zm:Int
 zn:Int
 load:Int
 off:Int
 deriving DecidableEq
structure Machine where
 zd:List ZC
 zr:Int
 zu:Int
 zw:Int
 zk:List ZD
 zh:Int
 deriving DecidableEq
structure Qah where
 zm:Int
 zn:Int
 z5:Int
 deriving DecidableEq
structure Qe where
 zc:Qf
 zb:Machine
 zf:List Qah
 zo:Int
 z6:Int
 deriving DecidableEq
@[simp] def dC (d:Qv):List IV:=[.int .i64 d.zp,.int .i64 d.pos,.int .i64 d.z2,.int .i64 d.bar,.int .i64 d.z1]
@[simp] def sC (s:XB):List IV:=[.int .i64 s.after,.int .i64 s.pos,.int .i64 s.z2,.int .i64 s.bar,.int .i64 s.z1]
@[simp] def leC (l:ZC):List IV:=[.int .i64 l.long,.int .i64 l.lo,.int .i64 l.hi]
@[simp] def baC (b:ZD):List IV:=[.int .i64 b.zm,.int .i64 b.zn,.int .i64 b.load,.int .i64 b.off]
@[simp] def trC (t:Qah):List IV:=[.int .i64 t.zm,.int .i64 t.zn,.int .i64 t.z5]
@[simp] def QU (l:List Int):IV:=.sl 1 (l.map fun n=>[.int .i64 n])
@[simp] def Qz (l:List Qv):IV:=.sl 5 (l.map dC)
@[simp] def Qu (l:List XB):IV:=.sl 5 (l.map sC)
@[simp] def Zt (l:List ZC):IV:=.sl 3 (l.map leC)
@[simp] def J1 (l:List ZD):IV:=.sl 4 (l.map baC)
@[simp] def YW (l:List Qah):IV:=.sl 3 (l.map trC)
@[simp] def chV (c:Qf):IV:=.agg [Qz c.za,Qu c.zg,.int .i64 c.zh]
@[simp] def maV (m:Machine):IV:=.agg [Zt m.zd,.int .i64 m.zr,.int .i64 m.zu,.int .i64 m.zw,J1 m.zk,.int .i64 m.zh]
@[simp] def prV (p:Qe):IV:=.agg [Qz p.zc.za,Qu p.zc.zg,.int .i64 p.zc.zh,Zt p.zb.zd,.int .i64 p.zb.zr,.int .i64 p.zb.zu,.int .i64 p.zb.zw,J1 p.zb.zk,.int .i64 p.zb.zh,
 YW p.zf,.int .i64 p.zo,.int .i64 p.z6]
def inR (n a b:Int):Prop:=a<=n/\n<=b
instance (n a b:Int):Decidable (inR n a b):=by unfold inR;infer_instance
include hK
theorem JG (x a b:Int):Gd K 167 [.int .i64 x,.int .i64 a,.int .i64 b] (.bool (decide (inR x a b))):=by
 refine Qb hK (fk func167 QI5 (by kernel_rfl)) (by simp) ?_;by_cases h:a<=x<;>simp[inR,h]
theorem YJ (x a b:Int):Gd K 251 [.int .i64 x,.int .i64 a,.int .i64 b] (.bool (decide (inR x a b))):=by
 refine Qb hK (fk func251 QHX (by kernel_rfl)) (by simp) ?_;by_cases h:a<=x<;>simp[inR,h]
theorem Vp (x a b:Int):Gd K 256 [.int .i64 x,.int .i64 a,.int .i64 b] (.bool (decide (inR x a b))):=by
 refine Qb hK (fk func256 QHS (by kernel_rfl)) (by simp) ?_;by_cases h:a<=x<;>simp[inR,h]
theorem Yz (x a b:Int):Gd K 35 [.int .i64 x,.int .i64 a,.int .i64 b] (.bool (decide (inR x a b))):=by
 refine Qb hK (fk func35 c35 (by kernel_rfl)) (by simp) ?_;by_cases h:a<=x<;>simp[inR,h]
theorem QpQ (x a b:Int):Gd K 161 [.int .i64 x,.int .i64 a,.int .i64 b] (.bool (decide (inR x a b))):=by
 refine Qb hK (fk func161 QJb (by kernel_rfl)) (by simp) ?_;by_cases h:a<=x<;>simp[inR,h]
theorem Qma (x a b:Int):Gd K 75 [.int .i64 x,.int .i64 a,.int .i64 b] (.bool (decide (inR x a b))):=by
 refine Qb hK (fk func75 c75 (by kernel_rfl)) (by simp) ?_;simp;exact cK (Yz hK x a b) (by simp)
theorem Vr (x a b:Int):Gd K 163 [.int .i64 x,.int .i64 a,.int .i64 b] (.bool (decide (inR x a b))):=by
 refine Qb hK (fk func163 QI9 (by kernel_rfl)) (by simp) ?_;simp;exact cK (QpQ hK x a b) (by simp)
theorem Qjm (a b c:Int) (ha:0<=a/\a<1000000) (hc:0<=c/\c<1000000):Gd K 380 [.int .i64 a,.int .i64 b,.int .i64 c] (.int .i64 (if b=1 then c-1-a else a)):=by
 refine Qb hK (fk func380 QGF (by kernel_rfl)) (by simp) ?_;by_cases hb:b=1
 ·simp[hb,IntKind.inR,IntKind.min,IntKind.max,IntKind.bits,IntKind.signed];omega
 simp[hb]
theorem QpP (a b c:Int) (ha:0<=a/\a<1000000) (hc:0<=c/\c<1000000):Gd K 164 [.int .i64 a,.int .i64 b,.int .i64 c] (.int .i64 (if b=1 then c-1-a else a)):=by
 refine Qb hK (fk func164 QI8 (by kernel_rfl)) (by simp) ?_;by_cases hb:b=1
 ·simp[hb,IntKind.inR,IntKind.min,IntKind.max,IntKind.bits,IntKind.signed];omega
 simp[hb]
theorem QpE (bar z1 least:Int):Gd K 254 [.int .i64 bar,.int .i64 z1,.int .i64 least] (.bool (decide (inR bar least 99/\inR z1 least 99))):=by
 refine Qb hK (fk func254 QHU (by kernel_rfl)) (by simp) ?_;simp;refine cK (YJ hK _ _ _) ?_;by_cases h:inR bar least 99
 ·simp[h];exact cK (YJ hK _ _ _) (by simp)
 ·simp[h]
def grow (d:Qv):Int:=if d.zp=1 then 1 else if d.zp=2 then -1 else 0
theorem Qjr (d:Qv):Gd K 253 [.agg (dC d)] (.int .i64 (grow d)):=by
 refine Qb hK (fk func253 QHV (by kernel_rfl)) (by simp) ?_;by_cases h1:d.zp=1
 ·simp[grow,h1]
 ·by_cases h2:d.zp=2<;>simp[grow,h1,h2]
def Zc (d:Qv) (many:Int):Prop :=
 (d.zp=1/\inR d.z2 0 2/\inR d.pos 0 many/\inR d.bar 0 99/\inR d.z1 0 99)\/(d.zp=2/\inR d.z2 0 2/\inR d.pos 0 (many-1)/\d.bar=0/\d.z1=0) \/
 ((d.zp=3\/d.zp=4)/\d.pos=0/\d.z2=0/\d.bar=0/\d.z1=0)
instance (d:Qv) (many:Int):Decidable (Zc d many):=by unfold Zc;infer_instance
theorem Qyk (d:Qv) (many:Int) (hm:0<=many/\many<1000000):Gd K 252 [.agg (dC d),.int .i64 many] (.bool (decide (Zc d many))):=by
 refine Qb hK (fk func252 QHW (by kernel_rfl)) (by simp) ?_;by_cases h1:d.zp=1
 ·simp[h1,Zc];refine cK (YJ hK _ _ _) ?_;by_cases h:inR d.z2 0 2
  ·simp[h];refine cK (YJ hK _ _ _) ?_;by_cases h':inR d.pos 0 many
   ·simp[h'];exact cK (QpE hK _ _ _) (by simp)
   simp[h']
  simp[h]
 ·by_cases h2:d.zp=2
  ·by_cases h3:d.bar=0
   ·by_cases h4:d.z1=0
    ·simp[h2,h3,h4,Zc];refine cK (YJ hK _ _ _) ?_;by_cases h:inR d.z2 0 2
     ·simp[h];exact ⟨by omega,cK (YJ hK _ _ _) (by simp)⟩
     simp[h]
    simp[h2,h3,h4,Zc]
   simp[h2,h3,Zc]
  ·by_cases h3:d.zp=3
   ·simp[h3,Zc]
   ·by_cases h4:d.zp=4
    ·simp[h4,Zc]
    ·simp[h1,h2,h3,h4,Zc]
omit hK
@[simp] def Xh (l:List Nat):IV:=.sl 1 (l.map fun (n:Nat)=>[.int .i64 (n:Int)])
def cnt (ds:List Qv) (i:Nat):Int:=((ds.take i).map grow).sum
@[simp] theorem QDU (ds:List Qv):cnt ds 0=0:=by simp[cnt]
theorem qi (ds:List Qv) (i:Nat) (h:i<ds.length):cnt ds (i+1)=cnt ds i+grow ds[i]:=by
 unfold cnt;rw[QKH h,QK3,List.sum_append];simp
theorem Qmx (ds:List Qv) (i n:Nat) (h:i<=n):cnt (ds.take n) i=cnt ds i:=by
 simp[cnt,List.take_take,Nat.min_eq_left h]
theorem qT (d:Qv) : -1<=grow d/\grow d<=1:=by
 unfold grow;omega
def OkD (ds:List Qv) (n:Nat):Prop:=∀ i (h:i<ds.length),i<n->Zc ds[i] (cnt ds i)
noncomputable instance (ds:List Qv) (n:Nat):Decidable (OkD ds n):=Classical.propDecidable _
theorem OkD.cnt {ds:List Qv} {n:Nat} (h:OkD ds n):∀ i,i<=n->i<=ds.length->0<=cnt ds i/\cnt ds i<=i
 | 0,_,_=>by simp
 | i+1,h1,h2=>by
   have ih:=OkD.cnt h i (by omega) (by omega);rw[qi ds i (by omega)]
   have hd:=h i (by omega) (by omega);have hb:=qT (ds[i]'(by omega));refine ⟨?_,by push_cast;omega⟩;rcases hd with ⟨h3,_⟩ | ⟨h3,_,h4,_⟩ | ⟨h3,_⟩
   ·simp[grow,h3];omega
   ·simp only[inR] at h4;omega
   ·have:grow (ds[i]'(by omega))=0:=by rcases h3 with h3 | h3<;>simp[grow,h3]
    omega
theorem OkD.succ {ds:List Qv} {n:Nat} (h:OkD ds n) (hn:n<ds.length) (hd:Zc ds[n] (Go.Pf.cnt ds n)):OkD ds (n+1):=fun i hi hin=>by
 rcases QMt.1 hin with h1 | h1
 ·exact h i hi h1
 grind
def qO (ds:List Qv) (n:Nat):List Int:=(List.range (n+1)).map (cnt ds)
@[simp] theorem QBq (ds:List Qv) (n:Nat):(qO ds n).length=n+1:=by simp[qO]
theorem Qd0 (ds:List Qv) (n:Nat):qO ds (n+1)=qO ds n++[cnt ds (n+1)]:=by simp[qO,QLs]
theorem Y5 (ds:List Qv) (n i:Nat) (h:i<n+1):(qO ds n)[i]'(by simpa using h)=cnt ds i:=by simp[qO]
def ZG (s:XB) (ds:List Qv):Prop:=inR s.after 0 ds.length/\inR s.z2 0 1/\inR s.pos 0 (cnt ds s.after.toNat-1)/\inR s.bar (-1) 99/\inR s.z1 (-1) 99
instance (s:XB) (ds:List Qv):Decidable (ZG s ds):=by unfold ZG;infer_instance
structure OkC (c:Qf):Prop where
 len:c.za.length<=12
 slen:c.zg.length<=8
 zh:inR c.zh 0 8
 za:OkD c.za c.za.length
 zg:∀ s∈c.zg,ZG s c.za
noncomputable instance (c:Qf):Decidable (OkC c):=Classical.propDecidable _
def Yn (p:Qv->Bool):List Qv->Nat->List Nat
 | [],_=>[]
 | d::r,i=>if p d then i::Yn p r (i+1) else Yn p r (i+1)
theorem Vm (p:Qv->Bool) (r:List Qv):∀ (l:List Qv) (i:Nat),Yn p (l++r) i=Yn p l i++Yn p r (i+l.length)
 | [],i=>by simp[Yn]
 | d::l,i=>by
   have e:i+1+l.length=i+(l.length+1):=by omega
   simp only[QLp,Yn,Vm p r l,QKV,e];split<;>simp
theorem Qcz (p:Qv->Bool) (ds:List Qv) (i:Nat) (h:i<ds.length):Yn p (ds.take (i+1)) 0=if p ds[i] then Yn p (ds.take i) 0++[i] else Yn p (ds.take i) 0:=by
 rw[QKH h,Vm];have e:(ds.take i).length=i:=by simp;omega
 simp only[e,QKY,Yn];split<;>simp
theorem W8 (p:Qv->Bool):∀ (l:List Qv) (i:Nat),(Yn p l i).length<=l.length
 | [],_=>by simp[Yn]
 | d::l,i=>by
   have:=W8 p l (i+1);simp only[Yn];grind
def ZJ (d:Qv):Bool:=decide (d.zp=1)
def XX (d:Qv):Bool:=decide (d.zp=4)
def YG (ds:List Qv):List Int:=(ds.filter ZJ).map (·.z1)
def Ql (ds:List Qv):Int:=cnt ds ds.length
def Qbv (ds:List Qv):Nat:=(ds.filter ZJ).length
def Zz (c:Qf) (n:Nat):Qf:=⟨c.za.take n,[],0⟩
include hK
theorem QBN (d:Qv) (many:Int) (hm:0<=many/\many<1000000):Gd K 67 [.agg (dC d),.int .i64 many] (.bool (decide (Zc d many))):=by
 refine Qb hK (fk func67 c67 (by kernel_rfl)) (by simp) ?_;by_cases h1:d.zp=1
 ·simp[h1,Zc];refine cK (Yz hK _ _ _) ?_;by_cases h:inR d.z2 0 2
  ·simp[h];refine cK (Yz hK _ _ _) ?_;by_cases h':inR d.pos 0 many
   ·simp[h'];refine cK (Yz hK _ _ _) ?_;by_cases h'':inR d.bar 0 99
    ·simp[h''];exact cK (Yz hK _ _ _) (by simp)
    simp[h'']
   simp[h']
  simp[h]
 ·by_cases h2:d.zp=2
  ·simp[h2,Zc];refine cK (Yz hK _ _ _) ?_;by_cases h:inR d.z2 0 2
   ·simp[h];refine ⟨by omega,cK (Yz hK _ _ _) ?_⟩;by_cases h':inR d.pos 0 (many-1)
    ·simp[h'];omega
    simp[h']
   simp[h]
  ·by_cases h3:d.zp=3
   ·simp[h3,Zc]
   ·by_cases h4:d.zp=4
    ·simp[h4,Zc]
    ·simp[h1,h2,h3,h4,Zc]
theorem Qpw (ds:List Qv) (hl:ds.length<=1000):Gd K 34 [Qz ds] (.xd [if OkD ds ds.length then QU (qO ds ds.length) else .sl 1 [],.bool (decide (OkD ds ds.length))]):=by
 refine Qb hK (fk func34 c34 (by kernel_rfl)) (by simp) ?_;simp;refine Qi (fun i=>[(0,AV.iv (Qz ds)),(4,AV.yl 7 (i+1)),(5,AV.iv (IV.int IntKind.i64 (i:Nat)))]) (fun i=>[(7,AO.arr 3 1 (emb ((qO ds i).map fun n=>[.int .i64 n])) 0)]) ds.length (fun i=>OkD ds i) (fun i _ h=>by omega) ?_ ?_
 ·intro h;rw[Qa Qre.eq_1];simp[h];intro _;exact QKM (by simp)
 ·intro i hi h ih;have hb:=h.cnt i (QKJ _) (by omega);rw[Qa Qre.eq_1];simp[hi,List.getElem?_append,Y5] at ih |-;intro _;refine cK (QBN hK ds[i] (cnt ds i) ⟨by omega,by omega⟩) ?_;by_cases hd:Zc ds[i] (cnt ds i);rotate_left
  ·have hno:¬ OkD ds ds.length:=fun hh=>hd (hh i hi hi);simp[hd,hno]
  ·have ih:=ih (h.succ hi hd);have hs:=qi ds i hi;rw[Qd0,hs] at ih;by_cases h1:ds[i].zp=1
   ·have hg:cnt ds i+grow ds[i]=cnt ds i+1:=by simp[grow,h1]
    rw[hg] at ih;simp[hd,h1,hi];grind
   ·by_cases h2:ds[i].zp=2
    ·have hg:cnt ds i+grow ds[i]=cnt ds i-1:=by simp[grow,h2];omega
     rw[hg] at ih;simp[hd,h2,hi];grind
    ·have hg:cnt ds i+grow ds[i]=cnt ds i:=by simp[grow,h1,h2]
     rw[hg] at ih;simp[hd,h1,h2,hi];grind
theorem QyU (s:XB) (ds:List Qv) (h:OkD ds ds.length) (hl:ds.length<=1000):Gd K 160 [.agg (sC s),QU (qO ds ds.length)] (.bool (decide (ZG s ds))):=by
 refine Qb hK (fk func160 QJc (by kernel_rfl)) (by simp) ?_;by_cases h1:inR s.after 0 ds.length;rotate_left
 ·simp[ZG,h1];intros;refine ⟨by omega,cK (Yz hK _ _ _) ?_⟩;simp[h1]
 ·have h1':=h1;simp only[inR] at h1';have xa:s.after.toNat<ds.length+1:=by omega
  have hb:=h.cnt s.after.toNat (by omega) (by omega);have hg:=Y5 ds ds.length s.after.toNat xa;simp[ZG,h1];intros;refine ⟨by omega,cK (Yz hK _ _ _) ?_⟩;simp[h1];refine cK (Yz hK _ _ _) ?_;by_cases h2:inR s.z2 0 1
  ·simp[h2,xa,hg];refine ⟨by omega,by omega,cK (Yz hK _ _ _) ?_⟩;by_cases h3:inR s.pos 0 (cnt ds s.after.toNat-1)
   ·simp[h3];refine cK (Yz hK _ _ _) ?_;by_cases h4:inR s.bar (-1) 99
    ·simp[h4];exact cK (Yz hK _ _ _) (by simp)
    simp[h4]
   simp[h3]
  ·simp[h2]
theorem Qpr (c:Qf) (hl:c.za.length<=1000) (hs:c.zg.length<=1000):Gd K 62 [chV c] (.int .i64 (if OkC c then 0 else 20)):=by
 refine Qb hK (fk func62 c62 (by kernel_rfl)) (by simp) ?_;by_cases h1:c.za.length<=12;rotate_left
 ·have h1':(12:Int)<c.za.length:=by omega
  have:¬ OkC c:=fun hh=>h1 hh.len;simp[h1',this]
 ·by_cases h2:c.zg.length<=8
  ·have h1':¬ (12:Int)<c.za.length:=by omega
   have h2':¬ (8:Int)<c.zg.length:=by omega
   simp[h1',h2'];intro _ _;refine cK (Yz hK _ _ _) ?_;by_cases h3:inR c.zh 0 8;rotate_left
   ·have:¬ OkC c:=fun hh=>h3 hh.zh;simp[h3,this]
   simp[h3];refine cK (Qpw hK c.za hl) ?_;by_cases h4:OkD c.za c.za.length;rotate_left
   ·have:¬ OkC c:=fun hh=>h4 hh.za;simp[h4,this]
   simp[h4];refine Qi (fun i=>[(1,AV.iv (.ptr [Qz c.za,Qu c.zg,.int .i64 c.zh])),(3,AV.iv (QU (qO c.za c.za.length))),(5,AV.iv (IV.int IntKind.i64 (i:Nat)))]) (fun _=>[]) c.zg.length (fun i=>∀ s∈c.zg.take i,ZG s c.za) (by simp) ?_ ?_
   ·intro h;rw[Qa Qq3.eq_1];have:OkC c:=⟨h1,h2,h3,h4,by simpa using h⟩;simp[this]
   intro i hi h ih;rw[Qa Qq3.eq_1];simp[hi] at ih |-;intro _;refine cK (QyU hK c.zg[i] c.za h4 hl) ?_;by_cases h5:ZG c.zg[i] c.za
   ·simp[h5];refine ⟨by omega,ih ?_⟩;rw[QKH hi]
    grind
   have:¬ OkC c:=fun hh=>h5 (hh.zg _ (QKL hi));simp[h5,this]
  ·have h1':¬ (12:Int)<c.za.length:=by omega
   have h2':(8:Int)<c.zg.length:=by omega
   have:¬ OkC c:=fun hh=>h2 hh.slen;simp[h1',h2',this]
theorem qV (c:Qf) (hl:c.za.length<=1000) (hs:c.zg.length<=1000):Gd K 165 [chV c] (.int .i64 (if OkC c then 0 else 20)):=by
 refine Qb hK (fk func165 QI7 (by kernel_rfl)) (by simp) ?_;by_cases h1:c.za.length<=12;rotate_left
 ·have h1':(12:Int)<c.za.length:=by omega
  have:¬ OkC c:=fun hh=>h1 hh.len;simp[h1',this]
 ·by_cases h2:c.zg.length<=8
  ·have h1':¬ (12:Int)<c.za.length:=by omega
   have h2':¬ (8:Int)<c.zg.length:=by omega
   simp[h1',h2'];intro _ _;refine cK (YJ hK _ _ _) ?_;by_cases h3:inR c.zh 0 8;rotate_left
   ·have:¬ OkC c:=fun hh=>h3 hh.zh;simp[h3,this]
   simp[h3];intro _
   refine Qi (fun i=>[(1,AV.iv (.ptr [Qz c.za,Qu c.zg,.int .i64 c.zh])),(3,AV.yl 24 (i+1)),(26,AV.iv (Qz c.za)),(27,AV.iv (.int .i64 c.za.length)),(28,AV.iv (IV.int IntKind.i64 (i:Nat)))])
    (fun i=>[(24,AO.arr 3 1 (emb ((qO c.za i).map fun n=>[.int .i64 n])) 0)]) c.za.length (fun i=>OkD c.za i) (fun i _ h=>by omega) ?_ ?_
   ·intro h4;rw[Qa Qk0.eq_1];simp;intro _
    refine Qi (fun i=>[(1,AV.iv (.ptr [Qz c.za,Qu c.zg,.int .i64 c.zh])),(3,AV.yl 24 (c.za.length+1)),(52,AV.iv (Qu c.zg)),(53,AV.iv (.int .i64 c.zg.length)),(54,AV.iv (IV.int IntKind.i64 (i:Nat)))])
     (fun i=>[(24,AO.arr 3 1 (emb ((qO c.za c.za.length).map fun n=>[.int .i64 n])) 0)]) c.zg.length (fun i=>∀ s∈c.zg.take i,ZG s c.za) (by simp) ?_ ?_
    ·intro h;rw[Qa QkZ.eq_1];have:OkC c:=⟨h1,h2,h3,h4,by simpa using h⟩;simp[this]
    intro i hi h ih;rw[Qa QkZ.eq_1];simp[hi] at ih |-;intros;have hb0:=h4.cnt c.za.length (QKJ _) (QKJ _);refine cK (YJ hK _ _ _) ?_;by_cases k1:inR c.zg[i].after 0 c.za.length;rotate_left
    ·have:¬ OkC c:=fun hh=>k1 (hh.zg _ (QKL hi)).1;simp[k1,this]
    have k1':=k1;simp only[inR] at k1';have xa:c.zg[i].after.toNat<c.za.length+1:=by omega
    have hb:=h4.cnt c.zg[i].after.toNat (by omega) (by omega);have hg:=Y5 c.za c.za.length c.zg[i].after.toNat xa;simp[k1];refine cK (YJ hK _ _ _) ?_;by_cases k2:inR c.zg[i].z2 0 1;rotate_left
    ·have:¬ OkC c:=fun hh=>k2 (hh.zg _ (QKL hi)).2.1;simp[k2,this]
    simp[k2,xa,hg];have no:∀ q:Prop,(ZG c.zg[i] c.za->q)->¬ q->¬ OkC c:=fun q h1 h2 hh=>h2 (h1 (hh.zg _ (QKL hi)));refine ⟨by omega,by omega,cK (YJ hK _ _ _) ?_⟩;by_cases k3:inR c.zg[i].pos 0 (cnt c.za c.zg[i].after.toNat-1)
    ·simp[k3];refine cK (QpE hK _ _ _) ?_;by_cases k4:inR c.zg[i].bar (-1) 99/\inR c.zg[i].z1 (-1) 99
     ·simp[k4];refine ⟨by omega,ih ?_⟩;rw[QKH hi];intro s hs;rcases QK2.1 hs with hs | hs
      ·exact h s hs
      rw[QLd] at hs;subst hs;exact ⟨k1,k2,k3,k4⟩
     have:=no _ (fun h=>h.2.2.2) k4;simp[k4,this]
    have:=no _ (fun h=>h.2.2.1) k3;simp[k3,this]
   intro i hi h ih;have hb:=h.cnt i (QKJ _) (by omega);rw[Qa Qk0.eq_1];simp[hi,Y5] at ih |-;refine cK (Qyk hK c.za[i] (cnt c.za i) ⟨by omega,by omega⟩) ?_;by_cases hd:Zc c.za[i] (cnt c.za i)
   ·have ih:=ih (h.succ hi hd);have hs:=qi c.za i hi;have hg:=qT c.za[i];rw[Qd0,hs] at ih;simp[hd,hi,Y5];refine cK (Qjr hK c.za[i]) ?_;simp at ih |-
    grind
   have:¬ OkC c:=fun hh=>hd (hh.za i hi hi);simp[hd,this]
  ·have h1':¬ (12:Int)<c.za.length:=by omega
   have h2':(8:Int)<c.zg.length:=by omega
   have:¬ OkC c:=fun hh=>h2 hh.slen;simp[h1',h2',this]
theorem QvT (c:Qf) (hl:c.za.length<=1000):Gd K 10 [chV c] (Xh (Yn XX c.za 0)):=by
 refine Qb hK (fk func10 c10 (by kernel_rfl)) (by simp) ?_;simp
 refine Qi (fun i=>[(1,AV.iv (.ptr [Qz c.za,Qu c.zg,.int .i64 c.zh])),(3,AV.yl 3 (Yn XX (c.za.take i) 0).length),(4,AV.iv (IV.int IntKind.i64 (i:Nat)))])
  (fun i=>[(3,AO.arr 3 1 (emb ((Yn XX (c.za.take i) 0).map fun (n:Nat)=>[.int .i64 (n:Int)])) 0)]) c.za.length (fun i=>True) trivial ?_ ?_
 ·intro _;rw[Qa QrA.eq_1];simp
 ·intro i hi _ ih;have hbn:=W8 XX (c.za.take i) 0;simp at hbn;rw[Qcz _ _ _ hi] at ih;rw[Qa QrA.eq_1];by_cases hw:c.za[i].zp=4
  ·simp[hi,XX,hw] at ih |-
   grind
  ·simp[hi,XX,hw] at ih |-
   grind
theorem QyG (c:Qf) (hl:c.za.length<=1000):Gd K 206 [chV c] (QU (YG c.za)):=by
 refine Qb hK (fk func206 QIA (by kernel_rfl)) (by simp) ?_;simp;intro _
 refine Qi (fun i=>[(3,AV.yl 3 (YG (c.za.take i)).length),(7,AV.iv (Qz c.za)),(8,AV.iv (.int .i64 c.za.length)),(9,AV.iv (IV.int IntKind.i64 (i:Nat)))])
  (fun i=>[(3,AO.arr 3 1 (emb ((YG (c.za.take i)).map fun n=>[.int .i64 n])) 0)]) c.za.length (fun i=>True) trivial ?_ ?_
 ·intro _;rw[Qa QkQ.eq_1];simp
 ·intro i hi _ ih;have hbn:(YG (c.za.take i)).length<=i:=by
   simp only[YG,QKX];grind
  have e:YG (c.za.take (i+1))=if ZJ c.za[i] then YG (c.za.take i)++[c.za[i].z1] else YG (c.za.take i):=by
   rw[QKH hi];simp only[YG,QMw,List.filter_cons,List.filter_nil];split<;>simp
  rw[e] at ih;rw[Qa QkQ.eq_1];by_cases hw:c.za[i].zp=1
  ·simp[hi,ZJ,hw] at ih |-
   grind
  ·simp[hi,ZJ,hw] at ih |-
   grind
theorem QvR (l:List Int) (n:Int):Gd K 19 [QU l,.int .i64 n] (.bool (decide (n∈l))):=by
 refine Qb hK (fk func19 c19 (by kernel_rfl)) (by simp) ?_;simp;refine Qi (fun i=>[(0,AV.iv (QU l)),(1,AV.iv (IV.int IntKind.i64 n)),(5,AV.iv (IV.int IntKind.i64 (i:Nat)))]) (fun _=>[]) l.length (fun i=>n ∉ l.take i) (by simp) ?_ ?_
 ·intro h;rw[Qa Qru.eq_1];simp at h |-;exact fun _=>h
 ·intro i hi h ih;rw[Qa Qru.eq_1];simp[hi] at h ih |-;refine fun hl=>⟨fun e=>e▸QKL hi,fun e=>⟨by omega,ih ?_⟩⟩;rw[QKH hi]
  grind
theorem Qjq (c:Qf) (hl:c.za.length<=1000):Gd K 261 [chV c] (.xd [.int .i64 (Ql c.za),.int .i64 (Qbv c.za)]):=by
 refine Qb hK (fk func261 QHM (by kernel_rfl)) (by simp) ?_;simp;intro _
 refine Qi (fun i=>[(2,AV.iv (.int .i64 (cnt c.za i))),(3,AV.iv (.int .i64 (Qbv (c.za.take i)))),(7,AV.iv (Qz c.za)),(8,AV.iv (.int .i64 c.za.length)),(9,AV.iv (IV.int IntKind.i64 (i:Nat)))])
  (fun i=>[]) c.za.length (fun i => -(i:Int)<=cnt c.za i/\cnt c.za i<=i) (by simp) ?_ ?_
 ·intro _;rw[Qa QkD.eq_1];simp[Ql]
 ·intro i hi hb ih;have hbn:Qbv (c.za.take i)<=i:=QLv (QK5 _ _) (by simp;omega);have e:Qbv (c.za.take (i+1))=if ZJ c.za[i] then Qbv (c.za.take i)+1 else Qbv (c.za.take i):=by
   rw[QKH hi];simp only[Qbv,QMw,List.filter_cons,List.filter_nil];split<;>simp
  have hg:=qT c.za[i];have hs:=qi c.za i hi;rw[hs,e] at ih;rw[Qa QkD.eq_1];simp[hi] at ih |-;refine cK (Qjr hK c.za[i]) ?_;simp;refine ⟨by omega,?_⟩;refine cK (Qjr hK c.za[i]) ?_;by_cases hw:c.za[i].zp=1
  ·have hg1:grow c.za[i]=1:=by simp[grow,hw]
   simp[hg1,ZJ,hw] at ih |-
   grind
  ·have hg1:grow c.za[i]<=0:=by unfold grow;omega
   have hg2:¬ 0<grow c.za[i]:=by omega
   simp[hg2,ZJ,hw] at ih |-
   grind
theorem qU (c:Qf) (hl:c.za.length<=1000) (hs:c.zg.length<=1000):Gd K 169 [chV c] (.xd [.int .i64 (if OkC c then Ql c.za else 0),.int .i64 (if OkC c then 0 else 20)]):=by
 refine Qb hK (fk func169 QI3 (by kernel_rfl)) (by simp) ?_;simp;refine cK (qV hK c hl hs) ?_;by_cases h:OkC c
 ·simp[h];exact cK (Qjq hK c hl) (by simp)
 ·simp[h]
theorem Qfr (c:Qf) (n:Nat) (hn:n<=c.za.length):Gd K 170 [chV c,.int .i64 n] (chV (Zz c n)):=by
 refine Qb hK (fk func170 QI2 (by kernel_rfl)) (by simp) ?_;simp[Zz,QMv];omega
theorem QEu (c:Qf) (n:Int) (hc:OkD c.za c.za.length) (hl:c.za.length<=1000):Gd K 7 [chV c,.int .i64 n] (.bool (decide (inR n 0 (Ql c.za-1)))):=by
 refine Qb hK (fk func7 c7 (by kernel_rfl)) (by simp) ?_;have hb:=hc.cnt _ (QKJ _) (QKJ _);have hg:=Y5 c.za c.za.length c.za.length (by omega);simp;refine cK (Qpw hK c.za hl) ?_;simp[hc,hg,Ql];intro _;intros;and_intros<;>first | omega | exact cK (Yz hK _ _ _) (by simp;rfl)
omit hK
def fi {α:Type} (p:α->Bool) (l:List α):Int:=if l.any p then (l.findIdx p:Int) else -1
theorem QaX {α:Type} (p:α->Bool) (l:List α) (i:Nat) (h:i<l.length) (hp:p l[i]=true) (hn:∀ x∈l.take i,p x=false):fi p l=i:=by
 have h1:l.any p=true:=List.any_eq_true.2 ⟨l[i],QKL h,hp⟩;have h2:l.findIdx p=i:=by
  rw[List.findIdx_eq h];refine ⟨hp,fun j hj=>?_⟩;have hm:l[j]'(by omega)∈l.take i:=by
   rw[List.mem_take_iff_getElem]
   grind
  grind
 simp[fi,h1,h2]
theorem YK {α:Type} (p:α->Bool) (l:List α) (hn:∀ x∈l,p x=false):fi p l = -1:=by
 have h1:l.any p=false:=List.any_eq_false.2 (fun x hx=>by simp[hn x hx]);simp[fi,h1]
theorem Xs {α:Type} (p:α->Bool) (l:List α):decide (0<=fi p l)=l.any p:=by
 unfold fi;grind
def Zl (l:ZC):Bool:=!(decide (inR l.long 1 1000)&&decide (inR l.lo 1 l.hi)&&decide (l.hi<=1000))
def Jf (b:ZD):Bool:=!(decide (inR b.zm 0 9999)&&decide (inR b.zn 0 99)&&decide (inR b.load 0 999999999)&&decide (inR b.off 0 999999999))
structure OkM (m:Machine):Prop where
 len:m.zd.length<=3
 zd:∀ l∈m.zd,Zl l=false
 zr:inR m.zr 0 9999
 zx:inR m.zu 0 m.zw
 zw:m.zw<=20
 blen:m.zk.length<=6
 zk:∀ b∈m.zk,Jf b=false
 zh:inR m.zh 0 6
noncomputable instance (m:Machine):Decidable (OkM m):=Classical.propDecidable _
include hK
theorem QjA (a b c:Int):Gd K 195 [.int .i64 a,.int .i64 b,.int .i64 c] (.bool (decide (inR a 0 9999/\inR b 0 99/\inR c 0 999999999))):=by
 refine Qb hK (fk func195 QIK (by kernel_rfl)) (by simp) ?_;simp;refine cK (Vp hK _ _ _) ?_;by_cases h1:inR a 0 9999
 ·simp[h1];refine cK (Vp hK _ _ _) ?_;by_cases h2:inR b 0 99
  ·simp[h2];exact cK (Vp hK _ _ _) (by simp)
  simp[h2]
 simp[h1]
theorem Qpq (a b c:Int):Gd K 78 [.int .i64 a,.int .i64 b,.int .i64 c] (.bool (decide (inR a 0 9999/\inR b 0 99/\inR c 0 999999999))):=by
 refine Qb hK (fk func78 c78 (by kernel_rfl)) (by simp) ?_;simp;refine cK (Vr hK _ _ _) ?_;by_cases h1:inR a 0 9999
 ·simp[h1];refine cK (Vr hK _ _ _) ?_;by_cases h2:inR b 0 99
  ·simp[h2];exact cK (Vr hK _ _ _) (by simp)
  simp[h2]
 ·simp[h1]
theorem Qyj (l:ZC):Gd K 255 [.agg (leC l)] (.bool (Zl l)):=by
 refine Qb hK (fk func255 QHT (by kernel_rfl)) (by simp) ?_;simp;refine cK (Vp hK _ _ _) ?_;by_cases h1:inR l.long 1 1000
 ·simp[h1];refine cK (Vp hK _ _ _) ?_;by_cases h2:inR l.lo 1 l.hi
  ·by_cases h3:l.hi<=1000
   ·have h3':¬ 1000<l.hi:=by omega
    simp[h1,h2,h3,Zl,h3']
   have h3':1000<l.hi:=by omega
   simp[h1,h2,h3,Zl,h3']
  simp[h2,Zl]
 ·simp[h1,Zl]
theorem Qyi (b:ZD):Gd K 257 [.agg (baC b)] (.bool (Jf b)):=by
 refine Qb hK (fk func257 QHR (by kernel_rfl)) (by simp) ?_;simp;refine cK (QjA hK _ _ _) ?_;by_cases h1:inR b.zm 0 9999/\inR b.zn 0 99/\inR b.load 0 999999999
 ·simp[h1];refine cK (Vp hK _ _ _) ?_;by_cases h2:inR b.off 0 999999999
  ·simp[h1,h2,Jf]
  simp[h2,Jf]
 ·have:Jf b=true:=by
   simp only[Jf,QLb,Bool.and_eq_false_iff,decide_eq_false_iff_not];grind
  simp[h1,this]
theorem QxP (l:List ZC) (g:FuncId) (p:ZC->Bool) (hg:∀ x,Gd K g [.agg (leC x)] (.bool (p x))) (hc:callee prog g=true) (hl:l.length<=1000):Gd K 332 [Zt l,.fn g] (.int .i64 (fi p l)):=by
 refine Qb hK (fk func332 QG2 (by kernel_rfl)) (by simp) ?_;simp;intro _;refine Qi (fun i=>[(0,AV.iv (Zt l)),(1,AV.iv (.fn g)),(7,AV.iv (.int .i64 l.length)),(8,AV.iv (IV.int IntKind.i64 (i:Nat)))]) (fun _=>[]) l.length (fun i=>∀ x∈l.take i,p x=false) (by simp) ?_ ?_
 ·intro h;rw[Qa Qkm.eq_1];rw[QK0] at h;simp[YK p l h]
 ·intro i hi h ih;rw[Qa Qkm.eq_1];simp[hi] at ih |-;refine ⟨hc,cK (hg l[i]) ?_⟩;by_cases hp:p l[i]=true
  ·simp[hp,QaX p l i hi hp h]
  ·have hp':p l[i]=false:=by simpa using hp
   simp[hp'];refine ⟨by omega,ih ?_⟩;rw[QKH hi]
   grind
theorem QxO (l:List ZD) (g:FuncId) (p:ZD->Bool) (hg:∀ x,Gd K g [.agg (baC x)] (.bool (p x))) (hc:callee prog g=true) (hl:l.length<=1000):Gd K 333 [J1 l,.fn g] (.int .i64 (fi p l)):=by
 refine Qb hK (fk func333 QG1 (by kernel_rfl)) (by simp) ?_;simp;intro _;refine Qi (fun i=>[(0,AV.iv (J1 l)),(1,AV.iv (.fn g)),(7,AV.iv (.int .i64 l.length)),(8,AV.iv (IV.int IntKind.i64 (i:Nat)))]) (fun _=>[]) l.length (fun i=>∀ x∈l.take i,p x=false) (by simp) ?_ ?_
 ·intro h;rw[Qa Qkl.eq_1];rw[QK0] at h;simp[YK p l h]
 ·intro i hi h ih;rw[Qa Qkl.eq_1];simp[hi] at ih |-;refine ⟨hc,cK (hg l[i]) ?_⟩;by_cases hp:p l[i]=true
  ·simp[hp,QaX p l i hi hp h]
  ·have hp':p l[i]=false:=by simpa using hp
   simp[hp'];refine ⟨by omega,ih ?_⟩;rw[QKH hi]
   grind
theorem Qpv (l:List Qv) (g:FuncId) (p:Qv->Bool) (hg:∀ x,Gd K g [.agg (dC x)] (.bool (p x))) (hc:callee prog g=true) (hl:l.length<=1000):Gd K 343 [Qz l,.fn g] (.int .i64 (fi p l)):=by
 refine Qb hK (fk func343 QGU (by kernel_rfl)) (by simp) ?_;simp;intro _;refine Qi (fun i=>[(0,AV.iv (Qz l)),(1,AV.iv (.fn g)),(7,AV.iv (.int .i64 l.length)),(8,AV.iv (IV.int IntKind.i64 (i:Nat)))]) (fun _=>[]) l.length (fun i=>∀ x∈l.take i,p x=false) (by simp) ?_ ?_
 ·intro h;rw[Qa Qkd.eq_1];rw[QK0] at h;simp[YK p l h]
 ·intro i hi h ih;rw[Qa Qkd.eq_1];simp[hi] at ih |-;refine ⟨hc,cK (hg l[i]) ?_⟩;by_cases hp:p l[i]=true
  ·simp[hp,QaX p l i hi hp h]
  ·have hp':p l[i]=false:=by simpa using hp
   simp[hp'];refine ⟨by omega,ih ?_⟩;rw[QKH hi]
   grind
theorem QxG (l:List Int) (g:FuncId) (fs cs:List IV) (p:Int->Bool) (hg:∀ x∈l,Gd K g (fs++[.int .i64 x]++cs) (.bool (p x))) (hc:callee prog g=true) (hl:l.length<=1000):Gd K 349 [QU l,.clo g fs cs] (.int .i64 (fi p l)):=by
 refine Qb hK (fk func349 QGP (by kernel_rfl)) (by simp) ?_;simp;intro _;refine Qi (fun i=>[(0,AV.iv (QU l)),(1,AV.iv (.clo g fs cs)),(7,AV.iv (.int .i64 l.length)),(8,AV.iv (IV.int IntKind.i64 (i:Nat)))]) (fun _=>[]) l.length (fun i=>∀ x∈l.take i,p x=false) (by simp) ?_ ?_
 ·intro h;rw[Qa Qj9.eq_1];rw[QK0] at h;simp[YK p l h]
 ·intro i hi h ih;rw[Qa Qj9.eq_1];have hgi:=hg l[i] (QKL hi);rw[QK8] at hgi;simp[hi] at ih |-;refine ⟨hc,cK hgi ?_⟩;by_cases hp:p l[i]=true
  ·simp[hp,QaX p l i hi hp h]
  ·have hp':p l[i]=false:=by simpa using hp
   simp[hp'];refine ⟨by omega,ih ?_⟩;rw[QKH hi]
   grind
theorem Qx6 (l:List Int) (g:FuncId) (fs cs:List IV) (p:Int->Bool) (hg:∀ x∈l,Gd K g (fs++[.int .i64 x]++cs) (.bool (p x))) (hc:callee prog g=true) (hl:l.length<=1000):Gd K 285 [QU l,.clo g fs cs] (.bool (l.any p)):=by
 refine Qb hK (fk func285 QHt (by kernel_rfl)) (by simp) ?_;simp;refine cK (QxG hK l g fs cs p hg hc hl) ?_;simp[Xs]
theorem Qyh (l:List ZC) (g:FuncId) (p:ZC->Bool) (hg:∀ x,Gd K g [.agg (leC x)] (.bool (p x))) (hc:callee prog g=true) (hl:l.length<=1000):Gd K 258 [Zt l,.fn g] (.bool (l.any p)):=by
 refine Qb hK (fk func258 QHQ (by kernel_rfl)) (by simp) ?_;simp;refine cK (QxP hK l g p hg hc hl) ?_;simp[Xs]
theorem Qyg (l:List ZD) (g:FuncId) (p:ZD->Bool) (hg:∀ x,Gd K g [.agg (baC x)] (.bool (p x))) (hc:callee prog g=true) (hl:l.length<=1000):Gd K 259 [J1 l,.fn g] (.bool (l.any p)):=by
 refine Qb hK (fk func259 QHP (by kernel_rfl)) (by simp) ?_;simp;refine cK (QxO hK l g p hg hc hl) ?_;simp[Xs]
theorem QpO (m:Machine) (hl:m.zd.length<=1000) (hb:m.zk.length<=1000):Gd K 166 [maV m] (.int .i64 (if OkM m then 0 else 30)):=by
 refine Qb hK (fk func166 QI6 (by kernel_rfl)) (by simp) ?_;have no:∀ q:Prop,(OkM m->q)->¬ q->¬ OkM m:=fun q h1 h2 h=>h2 (h1 h);by_cases h1:m.zd.length<=3;rotate_left
 ·have h1':(3:Int)<m.zd.length:=by omega
  have:=no _ OkM.len h1;simp[h1',this]
 ·have h1':¬ (3:Int)<m.zd.length:=by omega
  simp[h1'];intro _;refine cK (Qyh hK m.zd 255 Zl (Qyj hK) (by kernel_rfl) hl) ?_;by_cases h2:m.zd.any Zl=true
  ·have:¬ OkM m:=no (m.zd.any Zl=false) (fun h=>by simpa using h.zd) (by simp[h2]);simp[h2,this]
  ·have h2':m.zd.any Zl=false:=by simpa using h2
   simp[h2'];refine cK (Vp hK _ _ _) ?_;by_cases h3:inR m.zr 0 9999;rotate_left
   ·have:=no _ OkM.zr h3;simp[h3,this]
   ·simp[h3];refine cK (Vp hK _ _ _) ?_;by_cases h4:inR m.zu 0 m.zw;rotate_left
    ·have:=no _ OkM.zx h4;simp[h4,this]
    ·by_cases h5:m.zw<=20
     ·have h5':¬ 20<m.zw:=by omega
      by_cases h6:m.zk.length<=6
      ·have h6':¬ (6:Int)<m.zk.length:=by omega
       simp[h4,h5',h6'];intro _;refine cK (Qyg hK m.zk 257 Jf (Qyi hK) (by kernel_rfl) hb) ?_;by_cases h7:m.zk.any Jf=true
       ·have:¬ OkM m:=no (m.zk.any Jf=false) (fun h=>by simpa using h.zk) (by simp[h7]);simp[h7,this]
       have h7':m.zk.any Jf=false:=by simpa using h7
       simp[h7'];refine cK (Vp hK _ _ _) ?_;by_cases h8:inR m.zh 0 6
       ·have:OkM m:=⟨h1,by simpa using h2',h3,h4,h5,h6,by simpa using h7',h8⟩;simp[h8,this]
       have:=no _ OkM.zh h8;simp[h8,this]
      have h6':(6:Int)<m.zk.length:=by omega
      have:=no _ OkM.blen h6;simp[h4,h5',h6',this]
     ·have h5':20<m.zw:=by omega
      have:=no _ OkM.zw h5;simp[h4,h5',this]
omit hK
section
variable {P:Program} {K:World->Prop}
theorem VI.first {ps:List Nat} {asn body:AC} {ks ids:List Nat} {eK:Env} {wy:Ev.Way} (hwy:wy≠.fall):∀ (L:List (List IV)) (so oR:Nat->Qm) (bad:Nat->Prop),
  (∀ i x,L[i]?=some x->(∀ j,j<i->¬ bad j)->¬ bad i->Rnd P K ps asn body ks ids eK x (so i) .fall (so (i+1)))->(∀ i x,L[i]?=some x->(∀ j,j<i->¬ bad j)->bad i->Rnd P K ps asn body ks ids eK x (so i) wy (oR i)) ->
  (∃ i,i<L.length/\bad i/\(∀ j,j<i->¬ bad j)/\VI P K ps asn body ks ids eK L (so 0) wy (oR i))\/((∀ i,i<L.length->¬ bad i)/\VI P K ps asn body ks ids eK L (so 0) .fall (so L.length))
 | [],so,oR,bad,_,_=>.inr ⟨by simp,.nil _⟩
 | x::r,so,oR,bad,h1,h2=>by
   by_cases hb:bad 0
   ·exact .inl ⟨0,by simp,hb,by simp,.stop x r _ _ wy hwy (h2 0 x rfl (by simp) hb)⟩
   have hx:=h1 0 x rfl (by simp) hb;have lift:∀ i,(∀ j,j<i->¬ bad (j+1))->∀ j,j<i+1->¬ bad j:=fun i hh j hj=>by
    cases j with
    | _=>grind
   rcases VI.first hwy r (fun i=>so (i+1)) (fun i=>oR (i+1)) (fun i=>bad (i+1)) (fun i y hy hh hn=>h1 (i+1) y (by simpa using hy) (lift i hh) hn) (fun i y hy hh hn=>h2 (i+1) y (by simpa using hy) (lift i hh) hn) with ⟨i,g1,g2,g3,g4⟩ | ⟨g1,g2⟩
   ·exact .inl ⟨i+1,by simp;omega,g2,lift i g3,.next x r _ _ _ _ hx g4⟩
   refine .inr ⟨fun i hi=>?_,.next x r _ _ _ _ hx g2⟩;cases i with
   | _=>grind
end
def pv (ds:List Qv):List Nat:=Yn XX ds 0
theorem Qb4 (ds:List Qv):(pv ds).length<=ds.length:=W8 _ _ _
theorem qS (p:Qv->Bool):∀ (l:List Qv) (i j:Nat),j∈Yn p l i->i<=j/\j<i+l.length
 | [],i,j,h=>by simp[Yn] at h
 | d::l,i,j,h=>by
   simp only[Yn] at h;split at h
   ·rcases QKU.1 h with h | h
    ·subst h;simp
    have:=qS p l (i+1) j h;simp;omega
   have:=qS p l (i+1) j h;simp;omega
theorem QEg {ds:List Qv} {j:Nat} (h:j∈pv ds):j<ds.length:=by
 have:=qS XX ds 0 j h;omega
theorem QgV {ds:List Qv} {t:Nat} (h:t<(pv ds).length):(pv ds)[t]<ds.length:=QEg (QKL h)
def trs:List Nat->Nat->List (List IV)
 | [],_=>[]
 | j::r,t=>[.int .i64 t,.int .i64 j]::trs r (t+1)
theorem QeI:∀ (l:List Nat) (t i:Nat) (x:List IV),(trs l t)[i]?=some x->∃ h:i<l.length,x=[.int .i64 ((t+i:Nat):Int),.int .i64 (l[i]:Nat)]
 | [],t,i,x,h=>by simp[trs] at h
 | j::r,t,0,x,h=>by
   simp[trs] at h;grind
 | j::r,t,i+1,x,h=>by
   simp[trs] at h;obtain ⟨h1,h2⟩:=QeI r (t+1) i x h;grind
@[simp] theorem Qim:∀ (l:List Nat) (t:Nat),(trs l t).length=l.length
 | [],_=>rfl
 | j::r,t=>by simp[trs,Qim r (t+1)]
section
variable {K:World->Prop}
theorem Qjg (c:Qf) (hl:c.za.length<=1000):qv prog K 260 [] [.ptr [Qz c.za,Qu c.zg,.int .i64 c.zh]] (trs (pv c.za) 0):=by
 intro s b s' hf;refine Qy (fk func260 QHN (by kernel_rfl)) (by simp) hf.v rfl ?_;simp;intro _
 refine Xd c.za.length (fun i e o=>∃ t si,e=[(0,AV.cb 0),(3,AV.iv (.int .i64 (t:Nat))),(7,AV.iv (Qz c.za)),(8,AV.iv (.int .i64 c.za.length)),(9,AV.iv (.int .i64 (i:Nat)))]/\o=[(0,.ext si)]/\t<=i /\
  Q9 prog K (trs (Yn XX (c.za.drop i) i) t) si b s') ?_ ?_ _ _ ⟨0,s,rfl,rfl,QKJ _,by simpa[pv] using hf⟩
 ·rintro e o ⟨t,si,rfl,rfl,ht,hfd⟩;rw[Qa QkE.eq_1];rw[List.drop_length] at hfd;simp only[Yn,trs] at hfd;cases hfd;simp
 ·rintro i e o hi ⟨t,si,rfl,rfl,ht,hfd⟩ ih;rw[Qa QkE.eq_1];rw[QLg hi] at hfd;simp only[Yn] at hfd;by_cases hp:c.za[i].zp=4
  ·simp[XX,hp,trs] at hfd;simp[hi,hp];cases hfd with
   | stop _ _ _ _ hg =>
     refine QR hg rfl ?_;simp
   | next _ _ _ s1 _ _ hg hr =>
     refine QR hg rfl ?_;simp;refine ⟨by omega,by omega,ih _ _ ⟨t+1,s1,by simp,rfl,by omega,by simpa using hr⟩⟩
  ·simp[XX,hp] at hfd;simp[hi,hp];refine ⟨by omega,ih _ _ ⟨t,si,by simp,rfl,by omega,by omega⟩⟩
end
def Ve (t:Qah) (many:Int):Prop:=inR t.zm 0 9999/\inR t.zn 0 99/\inR t.z5 (-1) (many-1)
instance (t:Qah) (many:Int):Decidable (Ve t many):=by unfold Ve;infer_instance
structure OkP (p:Qe):Prop where
 zc:OkC p.zc
 zb:OkM p.zb
 zo:inR p.zo 0 999999999
 z6:inR p.z6 1 12
 many:p.zf.length=(pv p.zc.za).length
 zf:∀ i (h:i<(pv p.zc.za).length) (h':i<p.zf.length),Ve p.zf[i] (cnt p.zc.za (pv p.zc.za)[i])
noncomputable instance (p:Qe):Decidable (OkP p):=Classical.propDecidable _
structure Qva (p:Qe):Prop where
 za:p.zc.za.length<=1000
 zg:p.zc.zg.length<=1000
 zd:p.zb.zd.length<=1000
 zk:p.zb.zk.length<=1000
 zf:p.zf.length<=1000
theorem OkD.take {ds:List Qv} {n m:Nat} (h:OkD ds n) (hm:m<=n):OkD (ds.take m) (ds.take m).length:=fun i hi hin=>by
 have hl:(ds.take m).length<=m:=by simp;omega
 have h1:i<ds.length:=by simp at hi;omega
 rw[List.getElem_take,Qmx ds i m (by omega)]
 exact h i h1 (by omega)
theorem qH {c:Qf} {n:Nat} (h:OkD c.za c.za.length) (hl:c.za.length<=12) (hn:n<=c.za.length):OkC (Zz c n) :=
 ⟨by simp[Zz];omega,by simp[Zz],by simp[Zz,inR],h.take hn,by simp[Zz]⟩
theorem Qcq (c:Qf) (n:Nat) (hn:n<=c.za.length):Ql (Zz c n).za=cnt c.za n:=by
 have:(c.za.take n).length=n:=by simp;omega
 simp only[Ql,Zz,this];exact Qmx _ _ _ (QKJ _)
include hK
theorem QpN (c:Qf):Gd K 168 [chV c] (.clo 260 [] [.ptr [Qz c.za,Qu c.zg,.int .i64 c.zh]]):=by
 refine Qb hK (fk func168 QI4 (by kernel_rfl)) (by simp) ?_;simp
theorem QvK (p:Qe) (hs:Qva p):Gd K 82 [prV p] (.int .i64 (if OkP p then 0 else 60)):=by
 refine Qb hK (fk func82 c82 (by kernel_rfl)) (by simp) ?_;have no:∀ q:Prop,(OkP p->q)->¬ q->¬ OkP p:=fun q h1 h2 h=>h2 (h1 h);simp;refine cK (qV hK p.zc hs.za hs.zg) ?_;by_cases h1:OkC p.zc;rotate_left
 ·have:=no _ OkP.zc h1;simp[h1,this]
 ·simp[h1];refine cK (QpO hK p.zb hs.zd hs.zk) ?_;by_cases h2:OkM p.zb;rotate_left
  ·have:=no _ OkP.zb h2;simp[h2,this]
  ·simp[h2];refine cK (JG hK _ _ _) ?_;by_cases h3:inR p.zo 0 999999999;rotate_left
   ·have:=no _ OkP.zo h3;simp[h3,this]
   ·simp[h3];refine cK (JG hK _ _ _) ?_;by_cases h4:inR p.z6 1 12;rotate_left
    ·have:=no _ OkP.z6 h4;simp[h4,this]
    ·simp[h4];refine cK (QpN hK p.zc) ?_;simp;have hb:=h1.za.cnt
     let bad:Nat->Prop:=fun i=>¬ ∃ (h:i<(pv p.zc.za).length) (h':i<p.zf.length),Ve p.zf[i] (cnt p.zc.za (pv p.zc.za)[i])
     have hpl:=Qb4 p.zc.za;have hd12:=h1.len
     rcases VI.first (P:=prog) (K:=K) (ps:=[34,35]) (asn:=QcS) (body:=QhZ) (ks:=[1,2,3]) (ids:=[2,3]) (eK:=[(1,AV.iv (.ptr [Qz p.zc.za,Qu p.zc.zg,.int .i64 p.zc.zh,Zt p.zb.zd,.int .i64 p.zb.zr,.int .i64 p.zb.zu,.int .i64 p.zb.zw,J1 p.zb.zk,.int .i64 p.zb.zh,YW p.zf,.int .i64 p.zo,.int .i64 p.z6])),(2,AV.loc 2 0),(3,AV.loc 3 0)]) (wy:=.ret) (by simp) (trs (pv p.zc.za) 0)
      (fun i=>[(2,.box [.iv (.int .i64 0)]),(3,.box [.iv (.int .i64 (i:Nat))])]) (fun i=>[(2,.box [.iv (.int .i64 60)]),(3,.box [.iv (.int .i64 ((i+1:Nat):Int))])]) bad
      (fun i x hx hj hn=>by
        obtain ⟨hi,rfl⟩:=QeI _ _ _ _ hx;obtain ⟨_,hi',ho⟩:=Classical.not_not.1 hn;have xa:=QgV hi;refine ⟨rfl,?_⟩;have hi2:¬ (p.zf.length:Int)<=i:=by omega
        simp[QcS,QhZ,hi2,hi'];have hb':=hb (pv p.zc.za)[i] (by omega) (by omega);have hC:OkC (Zz p.zc (pv p.zc.za)[i]):=qH h1.za hd12 (by omega);have hL:=Qcq p.zc (pv p.zc.za)[i] (by omega);refine ⟨by omega,fun _=>?_⟩;refine cK (Qfr hK p.zc (pv p.zc.za)[i] (by omega)) ?_;simp;refine cK (qU hK (Zz p.zc (pv p.zc.za)[i]) (by simp[Zz];omega) (by simp[Zz])) ?_;simp[hC,hL];refine cK (JG hK _ _ _) ?_;simp[ho.1];refine cK (JG hK _ _ _) ?_;simp[ho.2.1];refine ⟨by omega,cK (JG hK _ _ _) ?_⟩;simp[ho.2.2]) (fun i x hx hj hn=>by
        obtain ⟨hi,rfl⟩:=QeI _ _ _ _ hx;have xa:=QgV hi;refine ⟨rfl,?_⟩;by_cases hi':i<p.zf.length
        ·have hi2:¬ (p.zf.length:Int)<=i:=by omega
         have ho:¬ Ve p.zf[i] (cnt p.zc.za (pv p.zc.za)[i]):=fun h=>hn ⟨hi,hi',h⟩;simp[QcS,QhZ,hi2,hi'];have hb':=hb (pv p.zc.za)[i] (by omega) (by omega);have hC:OkC (Zz p.zc (pv p.zc.za)[i]):=qH h1.za hd12 (by omega);have hL:=Qcq p.zc (pv p.zc.za)[i] (by omega);refine ⟨by omega,fun _=>?_⟩;refine cK (Qfr hK p.zc (pv p.zc.za)[i] (by omega)) ?_;simp;refine cK (qU hK (Zz p.zc (pv p.zc.za)[i]) (by simp[Zz];omega) (by simp[Zz])) ?_;simp[hC,hL];refine cK (JG hK _ _ _) ?_;by_cases k1:inR p.zf[i].zm 0 9999
         ·simp[k1];refine cK (JG hK _ _ _) ?_;by_cases k2:inR p.zf[i].zn 0 99
          ·simp[k2];refine ⟨by omega,cK (JG hK _ _ _) ?_⟩;by_cases k3:inR p.zf[i].z5 (-1) (cnt p.zc.za (pv p.zc.za)[i]-1)
           ·exact absurd ⟨k1,k2,k3⟩ ho
           simp[k3]
          simp[k2]
         simp[k1]
        have hi2:(p.zf.length:Int)<=i:=by omega
        simp[QcS,QhZ,hi2];omega) with ⟨i,g1,g2,g3,g4⟩ | ⟨g1,g2⟩
     ·refine QS (wy:=.ret) (o':=[(2,.box [.iv (.int .i64 60)]),(3,.box [.iv (.int .i64 ((i+1:Nat):Int))])]) rfl (by kernel_rfl) (Qjg p.zc hs.za) (by simpa using g4) ?_;rw[Qim] at g1;have:¬ OkP p:=fun hh=>g2 ⟨g1,by rw[hh.many];exact g1,hh.zf i g1 (by rw[hh.many];exact g1)⟩;simp[this]
     ·refine QS (wy:=.fall) (o':=[(2,.box [.iv (.int .i64 0)]),(3,.box [.iv (.int .i64 ((trs (pv p.zc.za) 0).length:Nat))])]) rfl (by kernel_rfl) (Qjg p.zc hs.za) (by simpa using g2) ?_;rw[Qim] at g1;have hge:(pv p.zc.za).length<=p.zf.length:=by
       grind
      by_cases h5:p.zf.length=(pv p.zc.za).length
      ·have:OkP p:=⟨h1,h2,h3,h4,h5,fun i h h'=>by grind⟩;simp[h5,this]
      ·have h5':¬ ((pv p.zc.za).length:Int)=p.zf.length:=by omega
       have:=no _ OkP.many h5;simp[h5',this]
omit hK
def plc (pos e:Int) (n:Nat):Nat:=(if e=1 then (n:Int)-1-pos else pos).toNat
def JM (d:Qv) (e:Int) (k:Nat) (now:List Nat):List Nat :=
 if d.zp=1 then now.take (plc d.pos e (now.length+1))++[k]++now.drop (plc d.pos e (now.length+1))
 else if d.zp=2 then now.take (plc d.pos e now.length)++now.drop (plc d.pos e now.length+1)
 else if d.zp=3 then now.reverse else now
def wn (ds:List Qv) (i:Nat):Nat:=(Yn ZJ (ds.take i) 0).length
theorem Qn1 (ds:List Qv) (i:Nat) (h:i<ds.length):wn ds (i+1)=if ds[i].zp=1 then wn ds i+1 else wn ds i:=by
 unfold wn;rw[Qcz _ _ _ h];by_cases hw:ds[i].zp=1<;>simp[ZJ,hw]
theorem Qih (ds:List Qv) (i:Nat):wn ds i<=i:=by
 have:=W8 ZJ (ds.take i) 0;unfold wn;grind
def cab (ds:List Qv) (e:Nat->Int):Nat->List Nat
 | 0=>[]
 | i+1=>match ds[i]? with
   | some d=>JM d (e i) (wn ds i) (cab ds e i)
   | none=>cab ds e i
theorem UL (ds:List Qv) (e:Nat->Int) (i:Nat) (h:i<ds.length):cab ds e (i+1)=JM ds[i] (e i) (wn ds i) (cab ds e i):=by
 simp only[cab,QKF h]
theorem Qoz {pos e:Int} {n:Nat} (h:0<=pos/\pos<=n):plc pos e (n+1)<=n:=by
 unfold plc;split<;>omega
theorem QlJ {pos e:Int} {n:Nat} (h:0<=pos/\pos<=(n:Int)-1):plc pos e n<n:=by
 unfold plc;split<;>omega
theorem Qob {d:Qv} {e:Int} {k:Nat} {now:List Nat} (h:Zc d now.length):((JM d e k now).length:Int)=now.length+grow d:=by
 rcases h with ⟨h1,_,h3,_⟩ | ⟨h1,_,h3,_⟩ | ⟨h1,_⟩
 ·have:=Qoz (e:=e) h3;simp[JM,grow,h1];omega
 ·have:=QlJ (e:=e) h3;simp[JM,grow,h1];omega
 ·rcases h1 with h1 | h1<;>simp[JM,grow,h1]
theorem ZI {ds:List Qv} (e:Nat->Int) {n:Nat} (h:OkD ds n):∀ i,i<=n->i<=ds.length->((cab ds e i).length:Int)=cnt ds i
 | 0,_,_=>by simp[cab]
 | i+1,h1,h2=>by
   have ih:=ZI e h i (by omega) (by omega);rw[UL ds e i (by omega),Qob (by rw[ih];exact h i (by omega) (by omega)),qi ds i (by omega),ih]
theorem Qlt {d:Qv} {e:Int} {k m:Nat} {now:List Nat} (h:∀ x∈now,x<m) (hk:k<m):∀ x∈JM d e k now,x<m:=by
 intro x hx;unfold JM at hx;grind
theorem ql (ds:List Qv) (e:Nat->Int):∀ i,∀ x∈cab ds e i,x<wn ds i
 | 0=>by simp[cab]
 | i+1=>by
   intro x hx;have ih:=ql ds e i;cases hd:ds[i]? with
   | none =>
     simp only[cab,hd] at hx;have hge:ds.length<=i:=by
      grind
     have e1:wn ds (i+1)=wn ds i:=by simp[wn,QKM hge,QKM (Nat.le_succ_of_le hge)]
     grind
   | some d =>
     have xa:=(QKG.1 hd).1;rw[UL ds e i xa] at hx;rw[Qn1 ds i xa];have hm:∀ y∈cab ds e i,y<wn ds i:=ih;by_cases hw:ds[i].zp=1
     ·rw[if_pos hw]
      exact Qlt (fun y hy=>by grind) (by omega) x hx
     ·rw[if_neg hw]
      have:JM ds[i] (e i) (wn ds i) (cab ds e i)=JM ds[i] (e i) 0 (cab ds e i):=by simp[JM,hw]
      rw[this] at hx;rcases Nat.eq_zero_or_pos (wn ds i) with hz | hp
      ·have he:cab ds e i=[]:=by
        rcases List.eq_nil_or_concat (cab ds e i) with h | ⟨l,a,h⟩
        ·exact h
        have:=hm a (by rw[h];simp);omega
       rw[he] at hx;simp[JM,hw] at hx
      ·exact Qlt hm hp x hx
def QjS (ds:List Qv) (e:Nat->Int) (n:Nat):List (List Nat):=(List.range (n+1)).map (cab ds e)
@[simp] theorem Quo (ds:List Qv) (e:Nat->Int) (n:Nat):(QjS ds e n).length=n+1:=by simp[QjS]
theorem QhX (ds:List Qv) (e:Nat->Int) (n:Nat):QjS ds e (n+1)=QjS ds e n++[cab ds e (n+1)]:=by simp[QjS,QLs]
theorem Qbo (ds:List Qv) (e:Nat->Int) (n i:Nat) (h:i<n+1):(QjS ds e n)[i]'(by simpa using h)=cab ds e i:=by simp[QjS]
@[simp] def QzR (l:List (List Nat)):IV:=.sl 1 (l.map fun c=>[Xh c])
theorem Qt (L:List (List IV)):List.map (List.map AV.iv) L=emb L:=rfl
theorem QO (L M:List (List IV)):emb L++emb M=emb (L++M):=by simp[emb]
theorem QhO (L:List (List IV)) (n:Nat):(emb L).drop n=emb (L.drop n):=by simp[emb,List.map_drop]
theorem QD:emb []=[]:=rfl
theorem Qj (L:List (List IV)):Qd5 (emb L)=some L:=Qbe L
def QI (ends:List Int) (i:Nat):Int:=ends.getD i 0
include hK
theorem QBF (c:Qf) (hl:c.za.length<=1000):Gd K 77 [chV c] (QU (c.za.map fun d=>d.z2.tmod 2)):=by
 refine Qb hK (fk func77 c77 (by kernel_rfl)) (by simp) ?_;simp
 refine Qi (fun i=>[(1,AV.iv (.ptr [Qz c.za,Qu c.zg,.int .i64 c.zh])),(3,AV.yl 3 i),(4,AV.iv (IV.int IntKind.i64 (i:Nat)))])
  (fun i=>[(3,AO.arr 3 1 (emb (((c.za.take i).map fun d=>d.z2.tmod 2).map fun n=>[.int .i64 n])) 0)]) c.za.length (fun i=>True) trivial ?_ ?_
 ·intro _;rw[Qa QqX.eq_1];simp
 ·intro i hi _ ih;rw[Qa QqX.eq_1];rw[QKH hi,QK3] at ih;have e:min i c.za.length=i:=by omega
  simp[hi,e] at ih |-
  grind
theorem QBG (c:Qf) (ends:List Int) (hc:OkD c.za c.za.length) (hl:c.za.length<=1000) (he:c.za.length<=ends.length):Gd K 76 [chV c,QU ends] (QzR (QjS c.za (QI ends) c.za.length)):=by
 refine Qb hK (fk func76 c76 (by kernel_rfl)) (by simp) ?_;simp
 refine Qi (fun i=>[(1,AV.iv (QU ends)),(2,AV.iv (.ptr [Qz c.za,Qu c.zg,.int .i64 c.zh])),(5,AV.iv (Xh (cab c.za (QI ends) i))),(6,AV.yl 14 (i+1)),(7,AV.iv (.int .i64 (wn c.za i))),(8,AV.iv (IV.int IntKind.i64 (i:Nat)))])
  (fun i=>[(14,AO.arr 57 1 (emb ((QjS c.za (QI ends) i).map fun c=>[Xh c])) 0)]) c.za.length (fun i=>True) trivial ?_ ?_
 ·intro _;rw[Qa QqY.eq_1];simp;intro _;exact QKM (by simp)
 ·intro i hi _ ih;have hcl:=ZI (QI ends) hc i (by omega) (by omega);have hcb:=hc.cnt i (by omega) (by omega);have hd:=hc i hi hi;have hw:=Qih c.za i;have hws:=Qn1 c.za i hi;have hei:QI ends i=ends[i]'(by omega):=by simp[QI,List.getD_eq_getElem?_getD,QKF (show i<ends.length by omega)]
  rw[QhX,hws,UL _ _ _ hi] at ih;rw[Qa QqY.eq_1];generalize cab c.za (QI ends) i=now at *;rw[hei] at ih;rcases hd with ⟨h1,h2,h3,h4⟩ | ⟨h1,h2,h3,h4⟩ | ⟨h1,h4⟩
  ·have hi':i<ends.length:=by omega
   simp only[inR] at h3;have hp:(if ends[i]=1 then (now.length:Int)+1-1-c.za[i].pos else c.za[i].pos)=(plc c.za[i].pos ends[i] (now.length+1):Nat):=by
    unfold plc;omega
   have hpl:plc c.za[i].pos ends[i] (now.length+1)<=now.length:=Qoz (by omega);simp[hi,h1,hi',JM] at ih;simp[hi,h1,hi',-List.map_map,Qt,QO,QD,Qj];generalize plc c.za[i].pos ends[i] (now.length+1)=at_ at *;intros;refine ⟨by omega,?_⟩;refine cK (QpP hK c.za[i].pos ends[i] (now.length+1) (by omega) (by omega)) ?_;rw[hp];have hm:min at_ now.length=at_:=by omega
   have hq:at_+1+(now.length-at_)=now.length+1:=by omega
   have hq1:at_+(now.length-at_+1)=now.length+1:=by omega
   have hq2:at_+(1+(now.length-at_))=now.length+1:=by omega
   simp[-List.map_map,Qt,QO,QD,Qj,QhO,hm,hpl,hq,hq1,hq2,QKM];grind
  ·have hi':i<ends.length:=by omega
   have h11:¬ c.za[i].zp=1:=by omega
   simp only[inR] at h3;have hp:(if ends[i]=1 then (now.length:Int)-1-c.za[i].pos else c.za[i].pos)=(plc c.za[i].pos ends[i] now.length:Nat):=by
    unfold plc;split<;>omega
   have hpl:plc c.za[i].pos ends[i] now.length<now.length:=QlJ (by omega);simp[hi,h1,hi',JM] at ih;simp[hi,h1,hi',-List.map_map,Qt,QO,QD,Qj];generalize plc c.za[i].pos ends[i] now.length=at_ at *;intros;refine cK (QpP hK c.za[i].pos ends[i] now.length (by omega) (by omega)) ?_;rw[hp];have hm:min at_ now.length=at_:=by omega
   have hle:at_<=now.length:=by omega
   have hle':at_+1<=now.length:=by omega
   have hti:((at_:Int)+1).toNat=at_+1:=by omega
   have hq:at_+(now.length-(at_+1))=now.length-1:=by omega
   simp[-List.map_map,Qt,QO,QD,Qj,QhO,hm,hle,hle',hti,hq,QKM];grind
  ·rcases h1 with h1 | h1
   ·simp[hi,h1,JM] at ih;simp[hi,h1,-List.map_map,Qt,QO,QD,Qj];intro _ _;refine ⟨by omega,?_⟩;have e00:((now.length:Int)-1)=(now.length:Int)-1-((0:Nat):Int):=by simp
    rw[e00]
    refine Qi (fun k=>[(1,AV.iv (QU ends)),(2,AV.iv (.ptr [Qz c.za,Qu c.zg,.int .i64 c.zh])),(5,AV.iv (Xh now)),(6,AV.yl 14 (i+1)),(7,AV.iv (.int .i64 (wn c.za i))),(8,AV.iv (IV.int IntKind.i64 (i:Nat))),(10,AV.yl 10 k),(13,AV.iv (.int .i64 ((now.length:Int)-1-k)))])
     (fun k=>[(10,AO.arr 3 1 (emb ((now.reverse.take k).map fun (n:Nat)=>[.int .i64 (n:Int)])) 0),(14,AO.arr 57 1 (emb ((QjS c.za (QI ends) i).map fun c=>[Xh c])) 0)]) now.length (fun _=>True) trivial ?_ ?_
    ·intro _;rw[Qa QqZ.eq_1];simp[-List.map_map,Qt,QO,QD,Qj,QKM];grind
    intro k hk _ ih2;rw[Qa QqZ.eq_1];have hrk:now.reverse.take (k+1)=now.reverse.take k++[now[now.length-1-k]'(by omega)]:=by
     rw[QKH (by simpa using hk)]
     grind
    rw[hrk] at ih2;have e0:¬ ((now.length:Int)-1-k<0):=by omega
    have e1:((now.length:Int)-1-k)=((now.length-1-k:Nat):Int):=by omega
    have e2:now.length-1-k<now.length:=by omega
    have e3:min k now.length=k:=by omega
    have e4:((now.length-1-k:Nat):Int)-1=(now.length:Int)-1-((k:Int)+1):=by omega
    simp[-List.map_map,Qt,QO,QD,Qj,e1,e2,e3] at ih2 |-
    grind
   ·simp[hi,h1,JM] at ih;simp[hi,h1,-List.map_map,Qt,QO,QD,Qj];grind
omit hK
@[simp] theorem QBw {α:Type} (f:α->List IV) (l:List α):Qd5 (l.map (List.map AV.iv∘f))=some (l.map f):=by
 rw[<- List.map_map];exact Qbe _
theorem Qv.ext {a b:Qv} (h0:a.zp=b.zp) (h1:a.pos=b.pos) (h2:a.z2=b.z2) (h3:a.bar=b.bar) (h4:a.z1=b.z1):a=b:=by
 cases a;cases b;simp_all
theorem XB.ext {a b:XB} (h0:a.after=b.after) (h1:a.pos=b.pos) (h2:a.z2=b.z2) (h3:a.bar=b.bar) (h4:a.z1=b.z1):a=b:=by
 cases a;cases b;simp_all
theorem ZC.ext {a b:ZC} (h0:a.long=b.long) (h1:a.lo=b.lo) (h2:a.hi=b.hi):a=b:=by
 cases a;cases b;simp_all
theorem ZD.ext {a b:ZD} (h0:a.zm=b.zm) (h1:a.zn=b.zn) (h2:a.load=b.load) (h3:a.off=b.off):a=b:=by
 cases a;cases b;simp_all
theorem Qah.ext {a b:Qah} (h0:a.zm=b.zm) (h1:a.zn=b.zn) (h2:a.z5=b.z5):a=b:=by
 cases a;cases b;simp_all
def Q4 {α:Type} (f:α->Int):List α->Int
 | []=>1
 | a::l=>f a*Q4 f l
theorem QgX {α:Type} (f:α->Int) (l:List α) (a:α):Q4 f (l++[a])=Q4 f l*f a:=by
 induction l with
 | nil=>simp[Q4]
 | cons b l ih=>simp[Q4,ih,Int.mul_assoc]
theorem Qb6 {α:Type} (f:α->Int) (l:List α) (h:∀ a∈l,1<=f a):1<=Q4 f l:=by
 induction l with
 | nil=>simp[Q4]
 | cons b l ih =>
   have h1:=h b (by simp);have h2:=ih fun a ha=>h a (by simp[ha]);have:=QLz h1 h2 (by omega) (by omega);simp only[Q4];omega
def YY (l:ZC):Int:=l.hi-l.lo+1
def sets (m:Machine) (i:Nat):Int:=(m.zw-m.zu+1)*Q4 YY (m.zd.take i)
def Z2 (ds:List Qv):Nat:=ds.countP fun d=>decide (d.z2=2)
def QF9 (m:Machine):Prop:=40<m.zd.length\/40<m.zk.length\/(OkM m/\∃ i,0<i/\i<=m.zd.length/\150<sets m i)
noncomputable instance (m:Machine):Decidable (QF9 m):=Classical.propDecidable _
def Qtp (c:Qf):Prop:=40<c.za.length\/40<c.zg.length\/(OkC c/\5<Z2 c.za)
noncomputable instance (c:Qf):Decidable (Qtp c):=Classical.propDecidable _
def ways (p:Qe):Int:=sets p.zb p.zb.zd.length*(2 ^ Z2 p.zc.za:Nat)
def QKo (p:Qe):Prop:=Qtp p.zc\/QF9 p.zb\/40<p.zf.length\/(OkP p/\48<ways p)
noncomputable instance (p:Qe):Decidable (QKo p):=Classical.propDecidable _
theorem OkM.span {m:Machine} (h:OkM m) {l:ZC} (hl:l∈m.zd):1<=YY l/\YY l<=1000:=by
 have:=h.zd l hl;simp[Zl,inR] at this;have h1:=of_decide_eq_true this.1.2;unfold YY;omega
include hK
theorem QEs (c:Qf) (hl:c.za.length<=1000) (hs:c.zg.length<=1000):Gd K 9 [chV c] (chV c):=by
 refine Qb hK (fk func9 c9 (by kernel_rfl)) (by simp) ?_;simp;omega
theorem QBH (m:Machine) (hl:m.zd.length<=1000) (hb:m.zk.length<=1000):Gd K 74 [maV m] (.int .i64 (if OkM m then 0 else 30)):=by
 refine Qb hK (fk func74 c74 (by kernel_rfl)) (by simp) ?_;have no:∀ q:Prop,(OkM m->q)->¬ q->¬ OkM m:=fun q h1 h2 h=>h2 (h1 h);by_cases h1:m.zd.length<=3;rotate_left
 ·have h1':(3:Int)<m.zd.length:=by omega
  have:=no _ OkM.len h1;simp[h1',this]
 ·have h1':¬ (3:Int)<m.zd.length:=by omega
  simp[h1'];intros;refine cK (Vr hK _ _ _) ?_;by_cases h3:inR m.zr 0 9999;rotate_left
  ·have:=no _ OkM.zr h3;simp[h3,this]
  ·simp[h3];refine cK (Vr hK _ _ _) ?_;by_cases h4:inR m.zu 0 m.zw;rotate_left
   ·have:=no _ OkM.zx h4;simp[h4,this]
   ·by_cases h5:m.zw<=20
    ·have h5':¬ 20<m.zw:=by omega
     by_cases h6:m.zk.length<=6;rotate_left
     ·have h6':(6:Int)<m.zk.length:=by omega
      have:=no _ OkM.blen h6;simp[h4,h5',h6',this]
     have h6':¬ (6:Int)<m.zk.length:=by omega
     simp[h4,h5',h6'];intros;refine cK (Vr hK _ _ _) ?_;by_cases h8:inR m.zh 0 6;rotate_left
     ·have:=no _ OkM.zh h8;simp[h8,this]
     simp[h8];refine Qi (fun i=>[(1,AV.iv (.ptr [Zt m.zd,.int .i64 m.zr,.int .i64 m.zu,.int .i64 m.zw,J1 m.zk,.int .i64 m.zh])),(3,AV.iv (IV.int IntKind.i64 (i:Nat)))]) (fun _=>[]) m.zd.length (fun i=>∀ l∈m.zd.take i,Zl l=false) (by simp) ?_ ?_
     ·intro h2;rw[QK0] at h2;rw[Qa Qq1.eq_1];simp;intros;refine Qi (fun i=>[(1,AV.iv (.ptr [Zt m.zd,.int .i64 m.zr,.int .i64 m.zu,.int .i64 m.zw,J1 m.zk,.int .i64 m.zh])),(4,AV.iv (IV.int IntKind.i64 (i:Nat)))]) (fun _=>[]) m.zk.length (fun i=>∀ l∈m.zk.take i,Jf l=false) (by simp) ?_ ?_
      ·intro h7;rw[QK0] at h7;have:OkM m:=⟨h1,h2,h3,h4,h5,h6,h7,h8⟩;rw[Qa Qq0.eq_1];simp[this]
      intro i hi h ih;rw[Qa Qq0.eq_1];simp[hi] at ih |-;intros;refine cK (Qpq hK _ _ _) ?_;by_cases k1:inR m.zk[i].zm 0 9999/\inR m.zk[i].zn 0 99/\inR m.zk[i].load 0 999999999
      ·simp[k1];refine cK (Vr hK _ _ _) ?_;by_cases k2:inR m.zk[i].off 0 999999999
       ·simp[k2];refine ⟨by omega,ih ?_⟩;rw[QKH hi];intro l hl;rcases QK2.1 hl with hl | hl
        ·exact h l hl
        rw[QLd.1 hl];simp[Jf,k1,k2]
       have:=no _ (fun hh=>hh.zk _ (QKL hi)) (by simp[Jf,k2]);simp[k2,this]
      have:=no _ (fun hh=>hh.zk _ (QKL hi)) (by simp only[Jf];grind);simp[k1,this]
     intro i hi h ih;rw[Qa Qq1.eq_1];simp[hi] at ih |-;intros;refine cK (Vr hK _ _ _) ?_;by_cases k1:inR m.zd[i].long 1 1000;rotate_left
     ·have:=no _ (fun hh=>hh.zd _ (QKL hi)) (by simp[Zl,k1]);simp[k1,this]
     simp[k1,hi];refine cK (Vr hK _ _ _) ?_;by_cases k2:inR m.zd[i].lo 1 m.zd[i].hi
     ·by_cases k3:m.zd[i].hi<=1000
      ·have k3':¬ 1000<m.zd[i].hi:=by omega
       simp[k2,k3',hi];refine ⟨by omega,ih ?_⟩;rw[QKH hi];intro l hl;rcases QK2.1 hl with hl | hl
       ·exact h l hl
       rw[QLd.1 hl];simp[Zl,k1,k2,k3]
      have k3':1000<m.zd[i].hi:=by omega
      have:=no _ (fun hh=>hh.zd _ (QKL hi)) (by simp[Zl,k3]);simp[k2,k3',hi,this]
     have:=no _ (fun hh=>hh.zd _ (QKL hi)) (by simp[Zl,k2]);simp[k2,this]
    ·have h5':20<m.zw:=by omega
     have:=no _ OkM.zw h5;simp[h4,h5',this]
theorem QBZ (p:Qe) (hs:Qva p):Gd K 40 [prV p] (.int .i64 (if OkP p then 0 else 60)):=by
 refine Qb hK (fk func40 c40 (by kernel_rfl)) (by simp) ?_;have no:∀ q:Prop,(OkP p->q)->¬ q->¬ OkP p:=fun q h1 h2 h=>h2 (h1 h);simp;refine cK (Qpr hK p.zc hs.za hs.zg) ?_;by_cases h1:OkC p.zc;rotate_left
 ·have:=no _ OkP.zc h1;simp[h1,this]
 ·simp[h1];refine cK (QBH hK p.zb hs.zd hs.zk) ?_;by_cases h2:OkM p.zb;rotate_left
  ·have:=no _ OkP.zb h2;simp[h2,this]
  ·simp[h2];refine cK (Qma hK _ _ _) ?_;by_cases h3:inR p.zo 0 999999999;rotate_left
   ·have:=no _ OkP.zo h3;simp[h3,this]
   ·simp[h3];refine cK (Qma hK _ _ _) ?_;by_cases h4:inR p.z6 1 12;rotate_left
    ·have:=no _ OkP.z6 h4;simp[h4,this]
    ·simp[h4];refine cK (QvT hK p.zc hs.za) ?_;have hpl:=Qb4 p.zc.za;have hpv:Yn XX p.zc.za 0=pv p.zc.za:=rfl;rw[hpv];by_cases h5:p.zf.length=(pv p.zc.za).length;rotate_left
     ·have h5':¬ ((pv p.zc.za).length:Int)=p.zf.length:=by omega
      have:=no _ OkP.many h5;simp[h5',this]
     ·simp[h5];intros;have h90:=QBF hK p.zc hs.za;have hEl:(p.zc.za.map fun d=>d.z2.tmod 2).length=p.zc.za.length:=by simp
      generalize (p.zc.za.map fun d=>d.z2.tmod 2)=E at h90 hEl;refine cK h90 ?_;simp;refine cK (QBG hK p.zc E h1.za hs.za (by omega)) ?_;simp;refine Qi (fun i=>[(1,AV.iv (.ptr [Qz p.zc.za,Qu p.zc.zg,.int .i64 p.zc.zh,Zt p.zb.zd,.int .i64 p.zb.zr,.int .i64 p.zb.zu,.int .i64 p.zb.zw,J1 p.zb.zk,.int .i64 p.zb.zh,YW p.zf,.int .i64 p.zo,.int .i64 p.z6])),(3,AV.iv (Xh (pv p.zc.za))),(4,AV.iv (QzR (QjS p.zc.za (QI E) p.zc.za.length))),(5,AV.iv (IV.int IntKind.i64 (i:Nat)))]) (fun _=>[]) p.zf.length (fun i=>∀ k (h:k<(pv p.zc.za).length) (h':k<p.zf.length),k<i->Ve p.zf[k] (cnt p.zc.za (pv p.zc.za)[k])) (by simp) ?_ ?_
      ·intro h;have:OkP p:=⟨h1,h2,h3,h4,h5,fun i h1 h2=>h i h1 h2 h2⟩;rw[Qa Qrc.eq_1];simp[this]
      ·intro i hi h ih;have hi':i<(pv p.zc.za).length:=by omega
       have xa:=QgV hi';have hb:=h1.za.cnt (pv p.zc.za)[i] (by omega) (by omega);have hcg:=Qbo p.zc.za (QI E) p.zc.za.length (pv p.zc.za)[i] (by omega);have hcl:=ZI (QI E) h1.za (pv p.zc.za)[i] (by omega) (by omega);rw[Qa Qrc.eq_1];by_cases k:Ve p.zf[i] (cnt p.zc.za (pv p.zc.za)[i])
       ·have ih':=ih (fun k' h1' h2' hk=>by
         grind)
        simp[hi,hi'] at ih' |-;intros;refine cK (Qpq hK _ _ _) ?_;have k1:=k.1;have k2:=k.2.1;have hz:inR 0 0 999999999:=by simp[inR]
        have hlt1:(pv p.zc.za)[i]<p.zc.za.length+1:=by omega
        simp[k1,k2,hz,hi',hlt1,hcg,hcl];have k3:=k.2.2
        (repeat' first|omega|with_reducible apply And.intro|intro)
        refine cK (Qma hK _ _ _) ?_;simp[k3];grind
       ·have:=no _ (fun hh=>hh.zf i hi' hi) k;simp[hi,hi',this];intros;refine cK (Qpq hK _ _ _) ?_;by_cases kk:inR p.zf[i].zm 0 9999/\inR p.zf[i].zn 0 99/\inR 0 0 999999999
        ·have hlt1:(pv p.zc.za)[i]<p.zc.za.length+1:=by omega
         simp[kk,hi',hlt1,hcg,hcl]
         (repeat' first|omega|with_reducible apply And.intro|intro)
         refine cK (Qma hK _ _ _) ?_;have k3:¬ inR p.zf[i].z5 (-1) (cnt p.zc.za (pv p.zc.za)[i]-1):=fun c=>k ⟨kk.1,kk.2.1,c⟩;simp[k3]
        ·simp[kk]
theorem QB7 (c:Qf):Gd K 27 [chV c] (.bool (decide (Qtp c))):=by
 have hd:decide (Qtp c)=decide (40<c.za.length\/40<c.zg.length\/(OkC c/\5<Z2 c.za)):=by
  by_cases h:Qtp c
  ·rw[decide_eq_true h];exact (decide_eq_true (p:=40<c.za.length\/40<c.zg.length\/(OkC c/\5<Z2 c.za)) h).symm
  rw[decide_eq_false h];exact (decide_eq_false (p:=40<c.za.length\/40<c.zg.length\/(OkC c/\5<Z2 c.za)) h).symm
 rw[hd];refine Qb hK (fk func27 c27 (by kernel_rfl)) (by simp) ?_;by_cases h1:c.za.length<=40;rotate_left
 ·have h1':(40:Int)<c.za.length:=by omega
  have h1'':40<c.za.length:=by omega
  simp[h1',h1'']
  try omega
 ·by_cases h2:c.zg.length<=40
  ·have h1':¬ (40:Int)<c.za.length:=by omega
   have h2':¬ (40:Int)<c.zg.length:=by omega
   have h1'':¬ 40<c.za.length:=by omega
   have h2'':¬ 40<c.zg.length:=by omega
   simp[h1',h2',h1'',h2''];intros;refine cK (Qpr hK c (by omega) (by omega)) ?_;by_cases h3:OkC c;rotate_left
   ·simp[h3]
   simp[h3];refine Qi (fun i=>[(1,AV.iv (.ptr [Qz c.za,Qu c.zg,.int .i64 c.zh])),(3,AV.iv (IV.int IntKind.i64 (Z2 (c.za.take i):Nat))),(4,AV.iv (IV.int IntKind.i64 (i:Nat)))]) (fun _=>[]) c.za.length (fun i=>True) trivial ?_ ?_
   ·intro _;rw[Qa Qrm.eq_1];simp;omega
   intro i hi _ ih;have hb:Z2 (c.za.take i)<=i:=by
    have:=QLq (p:=fun d:Qv=>decide (d.z2=2)) (l:=c.za.take i);simp at this;unfold Z2;omega
   rw[Qa Qrm.eq_1]
   have hc:Z2 (c.za.take (i+1))=Z2 (c.za.take i)+if c.za[i].z2=2 then 1 else 0:=by
    unfold Z2;rw[QKH hi,QLD];grind
   rw[hc] at ih;by_cases e:c.za[i].z2=2
   ·simp[hi,e] at ih |-
    grind
   simp[hi,e] at ih |-
   grind
  ·have h1':¬ (40:Int)<c.za.length:=by omega
   have h2':(40:Int)<c.zg.length:=by omega
   have h2'':40<c.zg.length:=by omega
   simp[h1',h2',h2'']
   try omega
omit hK
def d0:Qv:=⟨0,0,0,0,0⟩
def VK (ds:List Qv):List Nat:=Yn ZJ ds 0
def JU (ds:List Qv) (k:Nat):Qv:=ds.getD ((VK ds).getD k 0) d0
theorem Qr5 {ds:List Qv} {j:Nat} (h:j∈VK ds):j<ds.length:=by
 have:=qS ZJ ds 0 j h;omega
theorem QeE (ds:List Qv) (i:Nat):wn ds i<=(VK ds).length:=by
 unfold wn VK
 conv=>rhs;rw[<- List.take_append_drop i ds,Vm]
 simp
def QgQ (ds:List Qv) (s:XB) (now:List Nat):Bool :=
 (decide (s.bar<0)||decide (s.bar=(JU ds (now.getD (plc s.pos s.z2 now.length) 0)).bar)) &&
 (decide (s.z1<0)||decide (s.z1=(JU ds (now.getD (plc s.pos s.z2 now.length) 0)).z1))
def WM (ds:List Qv) (e:Nat->Int) (s:XB):Bool:=QgQ ds s (cab ds e s.after.toNat)
def QN (ds:List Qv) (ss:List XB) (e:Nat->Int):Nat:=ss.countP fun s=>!WM ds e s
theorem Qgb (ds:List Qv) (ss:List XB) (e:Nat->Int) (i:Nat) (h:i<ss.length):QN ds (ss.take (i+1)) e=QN ds (ss.take i) e+if WM ds e ss[i] then 0 else 1:=by
 unfold QN;rw[QKH h,QLD];grind
theorem Qdv (ds:List Qv) (ss:List XB) (e:Nat->Int):QN ds ss e<=ss.length:=QLq
def QDE (ds:List Qv) (ends:List Int):Prop:=ends.length=ds.length/\∀ i (h:i<ds.length) (h':i<ends.length),inR ends[i] 0 1/\(ds[i].z2<2->ends[i]=ds[i].z2)
noncomputable instance (ds:List Qv) (ends:List Int):Decidable (QDE ds ends):=Classical.propDecidable _
def QvH (c:Qf) (ends:List Int):Prop:=QDE c.za ends/\(QN c.za c.zg (QI ends):Int)<=c.zh
noncomputable instance (c:Qf) (ends:List Int):Decidable (QvH c ends):=Classical.propDecidable _
structure Qd where
 zy:List Int
 zx:Int
 deriving DecidableEq
structure Q7 where
 ends:List Int
 set:Qd
 deriving DecidableEq
@[simp] def seC (s:Qd):List IV:=[QU s.zy,.int .i64 s.zx]
@[simp] def tuC (t:Q7):List IV:=[QU t.ends,QU t.set.zy,.int .i64 t.set.zx]
def okS (m:Machine) (s:Qd):Prop:=s.zy.length=m.zd.length/\inR s.zx m.zu m.zw/\∀ i (h:i<m.zd.length) (h':i<s.zy.length),inR s.zy[i] m.zd[i].lo m.zd[i].hi
noncomputable instance (m:Machine) (s:Qd):Decidable (okS m s):=Classical.propDecidable _
def Wc (m:Machine) (zx w mn:Int):Int:=w+max 0 (m.zr-mn*zx)
def VG (m:Machine):Int:=Q4 (·.long) m.zd
def den (s:Qd):Int:=Q4 id s.zy
def num (m:Machine) (s:Qd) (w mn:Int):Int:=Wc m s.zx w mn*VG m
theorem QdQ {α:Type} (f:α->Int) (l:List α) (i:Nat) (h:i<l.length):Q4 f (l.take (i+1))=Q4 f (l.take i)*f l[i]:=by
 rw[QKH h,QgX]
theorem QlG {α:Type} (f:α->Int):∀ (l:List α),(∀ a∈l,1<=f a/\f a<=1000)->1<=Q4 f l/\Q4 f l<=(1000 ^ l.length:Nat)
 | [],_=>by simp[Q4]
 | a::l,h=>by
   have h1:=h a (by simp);have h2:=QlG f l fun a ha=>h a (by simp[ha]);have h3:=QLz h1.1 h2.1 (by omega) (by omega);have h4:=QLz h1.2 h2.2 (by omega) (by omega);simp only[Q4,QKV];omega
theorem QwS {n:Nat} (h:n<=3):1000 ^ n<=1000000000:=by
 have:n=0\/n=1\/n=2\/n=3:=by omega
 grind
theorem Qb7 {α:Type} (f:α->Int) (l:List α) (h:∀ a∈l,1<=f a/\f a<=1000) (hl:l.length<=3):1<=Q4 f l/\Q4 f l<=1000000000:=by
 have h1:=QlG f l h;have h2:=QwS hl;omega
theorem OkM.lever {m:Machine} (h:OkM m) {l:ZC} (hl:l∈m.zd):(1<=l.long/\l.long<=1000)/\1<=l.lo/\l.lo<=l.hi/\l.hi<=1000:=by
 have:=h.zd l hl;simp[Zl] at this;simp only[inR] at this;omega
theorem OkM.bal {m:Machine} (h:OkM m) {b:ZD} (hl:b∈m.zk):inR b.zm 0 9999/\inR b.zn 0 99/\inR b.load 0 999999999/\inR b.off 0 999999999:=by
 have:=h.zk b hl;simp[Jf] at this;grind
theorem OkM.zq {m:Machine} (h:OkM m) {zx w mn:Int} (hl:inR zx m.zu m.zw) (hw:inR w 0 9999) (hm:inR mn 0 99):(0<=mn*zx/\mn*zx<=1980)/\0<=Wc m zx w mn/\Wc m zx w mn<=19998:=by
 have h1:=h.zx;have h2:=h.zw;have h3:=h.zr;simp only[inR] at *;have h4:=QLC (a:=mn) (b:=zx) (by omega) (by omega);have h5:=QLz (show mn<=99 by omega) (show zx<=20 by omega) (by omega) (by omega);unfold Wc;omega
theorem OkM.longs {m:Machine} (h:OkM m) (i:Nat):1<=Q4 (·.long) (m.zd.take i)/\Q4 (·.long) (m.zd.take i)<=1000000000 :=
 Qb7 _ _ (fun a ha=>(h.lever (QLw ha)).1) (by have:=h.len;simp;omega)
theorem OkM.zy {m:Machine} (h:OkM m) {s:Qd} (hs:okS m s) (i:Nat):1<=Q4 id (s.zy.take i)/\Q4 id (s.zy.take i)<=1000000000 :=
 Qb7 _ _ (fun a ha=>by
  obtain ⟨k,hk,rfl⟩:=QLh (QLw ha);have h1:=hs.2.2 k (by rw[<- hs.1];exact hk) hk;have h2:=h.lever (QKL (show k<m.zd.length by grind));simp only[inR,id] at *;omega) (by have:=h.len;have:=hs.1;simp;omega)
theorem OkM.aboveB {m:Machine} (h:OkM m):1<=VG m/\VG m<=1000000000:=by
 have:=h.longs m.zd.length
 rwa [QK0] at this
theorem OkM.denB {m:Machine} (h:OkM m) {s:Qd} (hs:okS m s):1<=den s/\den s<=1000000000:=by
 have:=h.zy hs s.zy.length
 rwa [QK0] at this
theorem OkM.numB {m:Machine} (h:OkM m) {s:Qd} (hs:okS m s) {w mn:Int} (hw:inR w 0 9999) (hm:inR mn 0 99):0<=num m s w mn/\num m s w mn<=19998000000000:=by
 have h1:=h.aboveB;have h2:=(h.zq hs.2.1 hw hm).2;have h3:=QLC (a:=Wc m s.zx w mn) (b:=VG m) (by omega) (by omega);have h4:=QLz h2.2 h1.2 (by omega) (by omega);unfold num;omega
def QdO (m:Machine) (s:Qd) (b:ZD):Bool :=
 decide (num m s b.zm b.zn-b.load*den s<=b.off*den s /\ -(num m s b.zm b.zn-b.load*den s)<=b.off*den s)
def ZT (m:Machine) (bs:List ZD) (s:Qd):Nat:=bs.countP fun b=>!QdO m s b
theorem Qf9 (m:Machine) (bs:List ZD) (s:Qd) (i:Nat) (h:i<bs.length):ZT m (bs.take (i+1)) s=ZT m (bs.take i) s+if QdO m s bs[i] then 0 else 1:=by
 unfold ZT;rw[QKH h,QLD];grind
theorem QmR (m:Machine) (bs:List ZD) (s:Qd):ZT m bs s<=bs.length:=QLq
def W5 (m:Machine) (s:Qd):Prop:=okS m s/\(ZT m m.zk s:Int)<=m.zh
noncomputable instance (m:Machine) (s:Qd):Decidable (W5 m s):=Classical.propDecidable _
def Qfk (p:Qe) (t:Q7):Prop:=QvH p.zc t.ends/\W5 p.zb t.set
noncomputable instance (p:Qe) (t:Q7):Decidable (Qfk p t):=Classical.propDecidable _
include hK
omit hK
def t0:Qah:=⟨0,0,0⟩
def tr (p:Qe) (i:Nat):Qah:=p.zf.getD i t0
theorem Qn8 {p:Qe} {i:Nat} (h:i<p.zf.length):p.zf[i]=tr p i:=by simp[tr,List.getD_eq_getElem?_getD,h]
def Zx (p:Qe) (i:Nat) (e:Nat->Int):List Nat:=cab p.zc.za e ((pv p.zc.za).getD i 0)
def QM (p:Qe) (i:Nat) (e:Nat->Int):Int:=if 0<=(tr p i).z5 then ((Zx p i e).getD (tr p i).z5.toNat 0:Nat) else -1
def V6 (p:Qe) (i:Nat) (s:Qd):Int:=num p.zb s (tr p i).zm (tr p i).zn
def Yh (p:Qe) (i:Nat) (t:Q7):Bool:=decide (0<=(tr p i).z5)&&decide (V6 p i t.set<=p.zo*den t.set)
def Xt (p:Qe) (t:Q7):Nat:=(List.range p.zf.length).countP fun i=>Yh p i t
def inN (l:List Nat) (n:Int):Bool:=decide (n∈l.map fun k:Nat=>(k:Int))
def WP (p:Qe) (link:Int) (t:Q7) (i:Nat):Bool:=decide (p.zo*den t.set<=V6 p i t.set)&&inN (Zx p i (QI t.ends)) link&&!decide (QM p i (QI t.ends)=link)
def Zo (p:Qe) (link:Int) (t:Q7):Bool:=(List.range p.zf.length).any (WP p link t)
def JB (p:Qe) (e:Nat->Int):List Nat:=cab p.zc.za e p.zc.za.length
def UR (p:Qe) (t:Q7):Bool:=((JB p (QI t.ends)).all fun (k:Nat)=>Zo p k t)&&decide ((Xt p t:Int)<p.z6)
def QuV (p:Qe) (z1:Int) (t:Q7) (i:Nat):Bool:=Yh p i t&&decide ((JU p.zc.za (QM p i (QI t.ends)).toNat).z1=z1)
def QAe (p:Qe) (z1:Int) (t:Q7):Bool:=(List.range p.zf.length).any (QuV p z1 t)
def X5 (some many:Int):Int:=if some=many then 1 else if some=0 then 2 else 3
def QbN (l:List Int) (lo:Int) (i:Nat):List Int:=((List.range i).map fun j:Nat=>lo+j).filter fun n=>decide (n∈l)
def Jw (l:List Int) (lo hi:Int):List Int:=QbN l lo (hi+1-lo).toNat
theorem Qis (l:List Int) (lo:Int) (i:Nat):(QbN l lo i).length<=i:=QLv (QK5 _ _) (by simp)
def QoL (p:Qe) (t:Q7) (k:Nat) (m:Int) (i:Nat):Int :=
 if inN (Zx p i (QI t.ends)) k=true/\¬ QM p i (QI t.ends)=k then max m ((V6 p i t.set).tdiv (den t.set)) else m
def Qi1 (p:Qe) (t:Q7) (k:Nat) (n:Nat):Int:=(List.range n).foldl (QoL p t k) (-1)
def QDb (p:Qe) (t:Q7) (now:List Nat):Int:=now.foldl (fun b k=>min b (Qi1 p t k p.zf.length)) 999999999
def QcJ (p:Qe) (t:Q7) (i n:Nat):Nat:=(List.range n).countP fun k=>decide (0<=(tr p k).z5)&&decide (V6 p k t.set<=V6 p i t.set)
def QrD (p:Qe) (t:Q7) (b:Int) (i:Nat):Int :=
 if 0<=(tr p i).z5/\p.z6<=(QcJ p t i p.zf.length:Int) then min b ((V6 p i t.set+den t.set-1).tdiv (den t.set)-1) else b
def Qgf (p:Qe) (t:Q7):Int:=(List.range p.zf.length).foldl (QrD p t) (QDb p t (JB p (QI t.ends)))
theorem Qnl (p:Qe) (t:Q7) (k n:Nat):Qi1 p t k (n+1)=QoL p t k (Qi1 p t k n) n:=by simp[Qi1,QLs]
theorem QdW (a b:Int):(if b<a then b else a)=min a b:=by split<;>omega
theorem QdX (a b:Int):(if a<b then b else a)=max a b:=by split<;>omega
theorem QbI {a b:Int} (h1:0<=a) (h2:1<=b):0<=a.tdiv b/\a.tdiv b<=a:=by
 rw[QLe h1];exact ⟨Int.ediv_nonneg h1 (by omega),Int.ediv_le_self _ h1⟩
structure Fit (p:Qe) (t:Q7):Prop where
 ends:p.zc.za.length<=t.ends.length
 set:okS p.zb t.set
theorem OkP.deedsLen {p:Qe} (h:OkP p):p.zc.za.length<=12:=h.zc.len
theorem OkP.trialsLen {p:Qe} (h:OkP p):p.zf.length<=12:=by
 have:=Qb4 p.zc.za;have:=h.many;have:=h.deedsLen;omega
theorem OkP.trial {p:Qe} (h:OkP p) {i:Nat} (hi:i<p.zf.length):Ve (tr p i) (cnt p.zc.za ((pv p.zc.za).getD i 0)):=by
 have h1:i<(pv p.zc.za).length:=by rw[<- h.many];exact hi
 have:=h.zf i h1 hi;rw[Qn8 hi] at this;grind
theorem OkP.pvGet {p:Qe} (h:OkP p) {i:Nat} (hi:i<p.zf.length):(pv p.zc.za).getD i 0<p.zc.za.length:=by
 have h1:i<(pv p.zc.za).length:=by rw[<- h.many];exact hi
 have:=QgV h1;grind
theorem OkP.thenLen {p:Qe} (h:OkP p) (e:Nat->Int) {i:Nat} (hi:i<p.zf.length):((Zx p i e).length:Int)=cnt p.zc.za ((pv p.zc.za).getD i 0):=by
 have:=h.pvGet hi;exact ZI e h.zc.za _ (by omega) (by omega)
theorem OkP.brokeIn {p:Qe} (h:OkP p) (e:Nat->Int) {i:Nat} (hi:i<p.zf.length) (hb:0<=(tr p i).z5):∃ xa:(tr p i).z5.toNat<(Zx p i e).length,QM p i e=((Zx p i e)[(tr p i).z5.toNat]:Nat):=by
 have h1:=(h.trial hi).2.2;have h2:=h.thenLen e hi;simp only[inR] at h1;have xa:(tr p i).z5.toNat<(Zx p i e).length:=by omega
 exact ⟨xa,by simp[QM,hb,List.getD_eq_getElem?_getD,xa]⟩
theorem OkP.thenLt {p:Qe} (e:Nat->Int) (i:Nat) {k:Nat} (hk:k∈Zx p i e):k<(VK p.zc.za).length :=
 QLn (ql _ _ _ k hk) (QeE _ _)
theorem Qml (p:Qe) (t:Q7):Xt p t<=p.zf.length:=by
 have:=QLq (p:=fun i=>Yh p i t) (l:=List.range p.zf.length);simpa[Xt] using this
theorem Qdp (n:Nat) (f:Nat->Bool):(List.range (n+1)).any f=((List.range n).any f||f n):=by grind
include hK
theorem QpL (p:Qe) (n:Int) (hs:p.zf.length<=1000):Gd K 199 [prV p,.int .i64 n] (.bool (decide (inR n 0 (p.zf.length-1)))):=by
 refine Qb hK (fk func199 QIG (by kernel_rfl)) (by simp) ?_;simp
 (repeat' first|omega|with_reducible apply And.intro|intro)
 exact cK (JG hK _ _ _) (by simp)
end Go.Pf
