/- The laws that compare with the reference: ProofsBroke, ProofsFailures, ProofsGood. -/
import Derived.Test.YtidcmjicfnjcjaaGreatAsks
set_option linter.all false

namespace Go.Pf
open Go Go.Ev Go.Proofs Go.RowKit
set_option maxRecDepth 8000
theorem choices_len:∀ ds:List Deed,(choices ds).length≤2 ^ twos ds
 | []=>by show 1≤2 ^ 0;decide
 | d::r=>by
   have ih:=choices_len r
   by_cases h2:d.frm=2
   ·have e1:twos (d::r)=twos r+1:=by simp[twos,h2]
    rw[e1,Nat.pow_succ]
    simp[choices,endsD,h2]
    omega
   ·have e1:twos (d::r)=twos r:=by simp[twos,h2]
    rw[e1]
    by_cases h0:d.frm=0
    ·simp[choices,endsD,h0];omega
    ·by_cases h1:d.frm=1
     ·simp[choices,endsD,h1];omega
     ·simp[choices,endsD,h0,h1,h2]
theorem ends_le2 (c:Chain):(endsL c [] c.deeds).length≤2 ^ twos c.deeds:=by
 refine Nat.le_trans (List.length_filter_le _ _) ?_
 simpa using choices_len c.deeds
theorem small_of {p:Proof} (h:¬ farP p):Small p:=by
 unfold farP farC farM at h
 simp only[not_or] at h
 exact ⟨by omega,by omega,by omega,by omega,by omega⟩
theorem ways_of {p:Proof} (h:¬ farP p) (hp:OkP p):1≤sets p.machine p.machine.levers.length∧sets p.machine p.machine.levers.length≤48∧2 ^ twos p.chain.deeds≤48:=by
 have h1:ways p≤48:=by
  unfold farP at h
  simp only[not_or] at h
  have:=h.2.2.2
  refine Classical.byContradiction fun hc=>this ⟨hp,by omega⟩
 have hl:=hp.machine.leak
 simp only[inR] at hl
 have h2:1≤sets p.machine p.machine.levers.length:=by
  have h3:=prodF_pos spanL p.machine.levers fun l hl=>(hp.machine.span hl).1
  unfold sets
  rw[List.take_of_length_le (Nat.le_refl _)]
  have h4:1*prodF spanL p.machine.levers≤(p.machine.lhi-p.machine.llo+1)*prodF spanL p.machine.levers:=Int.mul_le_mul_of_nonneg_right (by omega) (by omega)
  omega
 unfold ways at h1
 have hpos:1≤(2 ^ twos p.chain.deeds:Nat):=Nat.pos_of_ne_zero (by simp)
 generalize (2 ^ twos p.chain.deeds:Nat)=W at *
 generalize sets p.machine p.machine.levers.length=S at *
 have a1:S*1≤S*(W:Int):=Int.mul_le_mul_of_nonneg_left (by omega) (by omega)
 have a2:1*(W:Int)≤S*(W:Int):=Int.mul_le_mul_of_nonneg_right h2 (by omega)
 omega
theorem few_of {p:Proof} (h:¬ farP p):Few p:=by
 refine ⟨⟨small_of h,fun hp=>by have:=ways_of h hp;omega⟩,fun hp=>?_,fun hp=>?_,fun hp=>?_⟩
 ·have h1:=ends_le2 p.chain;have h2:=ways_of h hp;omega
 ·have h1:=setsL_le hp.machine;have h2:=ways_of h hp;omega
 ·have h1:=ends_le2 p.chain
  have h2:=ways_of h hp
  have h3:=setsL_le hp.machine
  rw[known_mul,stories_len,loads_len]
  have h4:(endsL p.chain [] p.chain.deeds).length*(setsL p.machine [] p.machine.levers).length≤48*48:=Nat.mul_le_mul (by omega) (by omega)
  omega
section
variable {K:World→Prop} (hK:∀ w w',K w→Below w.heap.size w w'→K w')
include hK
theorem law7 (p:Proof) (trial link:Int):Ev.Good Tryz.prog K 7 [prV p,.agg [.int .i64 trial,.int .i64 link]] (.bool true):=by
 refine good_of_wp hK c7_ok (by simp) ?_
 have g15:=good15 hK
 simp
 refine callK_of (by simpa using good24 hK p) (.inl rfl) ?_
 by_cases hfar:farP p
 ·simp[hfar]
  refine callK_of g15 (.inl rfl) ?_
  simp
 ·have hs:=small_of hfar
  have hf:=few_of hfar
  have g16:=good16 hK p hs
  have g25:=good25 hK p hs
  have g26:=good26 hK p hs
  have g27:=good27 hK p hf
  have g28:=good28 hK p hf.fine
  have g29:=good29 hK p trial hf
  have g30:=good30 hK p trial hf.fine
  have g31:=good31 hK p trial hf
  have g32:=good32 hK p trial hf.fine
  have g18:=good18 hK p link hf
  have g33:=good33 hK p link hf.fine
  have g34:=good34 hK (rBroke p trial) (rBroke p trial)
  have g35:=good35 hK p p
  simp[hfar]
  refine callK_of (by simpa using g16) (.inl rfl) ?_
  simp
  refine callK_of (by simpa using g25) (.inl rfl) ?_
  simp
  refine callK_of (by simpa using g26) (.inl rfl) ?_
  simp
  refine callK_of (by simpa using g27) (.inl rfl) ?_
  simp
  refine callK_of (by simpa using g28) (.inl rfl) ?_
  simp
  refine callK_of (by simpa using g29) (.inl rfl) ?_
  simp
  refine callK_of (by simpa using g30) (.inl rfl) ?_
  simp
  refine callK_of (by simpa using g31) (.inl rfl) ?_
  simp
  refine callK_of (by simpa using g32) (.inl rfl) ?_
  simp
  refine callK_of (by simpa using g18) (.inl rfl) ?_
  simp
  refine callK_of (by simpa using g33) (.inl rfl) ?_
  simp
  refine callK_of (by simpa using g34) (.inl rfl) ?_
  simp
  refine callK_of (by simpa using g35) (.inl rfl) ?_
  simp
  refine callK_of g15 (.inl rfl) ?_
  simp
end
end Go.Pf
