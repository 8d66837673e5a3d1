/- The laws that compare with the reference: ProofsBroke, ProofsFailures, ProofsGood. -/
import Derived.Test.YtidcmjicfnjcjaaGreatAsks
set_option linter.all false

namespace Go.Pf
open Go Go.Ev Go.Proofs Go.RowKit
set_option maxRecDepth 8000
theorem choices_len:∀ ds:List Deed,(choices ds).length≤2 ^ twos ds
 | []=>by show 1≤2 ^ 0;decide
 | d::r=>by
   have ih:=choices_len r
   by_cases h2:d.frm=2
   ·have e1:twos (d::r)=twos r+1:=by simp[twos,h2]
    rw[e1,Nat.pow_succ]
    simp[choices,endsD,h2]
    omega
   ·have e1:twos (d::r)=twos r:=by simp[twos,h2]
    rw[e1]
    by_cases h0:d.frm=0
    ·simp[choices,endsD,h0];omega
    ·by_cases h1:d.frm=1
     ·simp[choices,endsD,h1];omega
     ·simp[choices,endsD,h0,h1,h2]
theorem ends_le2 (c:Chain):(endsL c [] c.deeds).length≤2 ^ twos c.deeds:=by
 refine Nat.le_trans (List.length_filter_le _ _) ?_
 simpa using choices_len c.deeds
theorem small_of {p:Proof} (h:¬ farP p):Small p:=by
 unfold farP farC farM at h
 simp only[not_or] at h
 exact ⟨by omega,by omega,by omega,by omega,by omega⟩
theorem ways_of {p:Proof} (h:¬ farP p) (hp:OkP p):1≤sets p.machine p.machine.levers.length∧sets p.machine p.machine.levers.length≤48∧2 ^ twos p.chain.deeds≤48:=by
 have h1:ways p≤48:=by
  unfold farP at h
  simp only[not_or] at h
  have:=h.2.2.2
  refine Classical.byContradiction fun hc=>this ⟨hp,by omega⟩
 have hl:=hp.machine.leak
 simp only[inR] at hl
 have h2:1≤sets p.machine p.machine.levers.length:=by
  have h3:=prodF_pos spanL p.machine.levers fun l hl=>(hp.machine.span hl).1
  unfold sets
  rw[List.take_of_length_le (Nat.le_refl _)]
  have h4:1*prodF spanL p.machine.levers≤(p.machine.lhi-p.machine.llo+1)*prodF spanL p.machine.levers:=Int.mul_le_mul_of_nonneg_right (by omega) (by omega)
  omega
 unfold ways at h1
 have hpos:1≤(2 ^ twos p.chain.deeds:Nat):=Nat.pos_of_ne_zero (by simp)
 generalize (2 ^ twos p.chain.deeds:Nat)=W at *
 generalize sets p.machine p.machine.levers.length=S at *
 have a1:S*1≤S*(W:Int):=Int.mul_le_mul_of_nonneg_left (by omega) (by omega)
 have a2:1*(W:Int)≤S*(W:Int):=Int.mul_le_mul_of_nonneg_right h2 (by omega)
 omega
theorem few_of {p:Proof} (h:¬ farP p):Few p:=by
 refine ⟨⟨small_of h,fun hp=>by have:=ways_of h hp;omega⟩,fun hp=>?_,fun hp=>?_,fun hp=>?_⟩
 ·have h1:=ends_le2 p.chain;have h2:=ways_of h hp;omega
 ·have h1:=setsL_le hp.machine;have h2:=ways_of h hp;omega
 ·have h1:=ends_le2 p.chain
  have h2:=ways_of h hp
  have h3:=setsL_le hp.machine
  rw[known_mul,stories_len,loads_len]
  have h4:(endsL p.chain [] p.chain.deeds).length*(setsL p.machine [] p.machine.levers).length≤48*48:=Nat.mul_le_mul (by omega) (by omega)
  omega
theorem kL_few {p:Proof} (hf:Few p) (is:Bool):(kL p is).length≤100000:=by
 unfold kL
 split
 ·rename_i h;exact hf.all h.1
 ·simp
section
variable {K:World→Prop} (hK:∀ w w',K w→Below w.heap.size w w'→K w')
include hK
theorem law9 (p:Proof):Ev.Good Tryz.prog K 9 [prV p] (.bool true):=by
 refine good_of_wp hK c9_ok (by simp) ?_
 have g15:=good15 hK
 simp
 refine callK_of (by simpa using good24 hK p) (.inl rfl) ?_
 by_cases hfar:farP p
 ·simp[hfar]
  refine callK_of g15 (.inl rfl) ?_
  simp
 ·have hs:=small_of hfar
  have hf:=few_of hfar
  have g16:=good16 hK p hs
  have g40:=good40 hK p hf
  have g41:=good41 hK p hf.fine
  have g19:=good19 hK p hf
  have g42:=good42 hK p hf.fine (kL_few hf true)
  have g20:=good20 hK p hf
  have g43:=good43 hK p hf.fine
  have g44:=good44 hK p hf
  have g45:=good45 hK p hf.fine
  have g34:=good34 hK (rOpen p) (rOpen p)
  have g35:=good35 hK p p
  simp[hfar]
  refine callK_of (by simpa using g16) (.inl rfl) ?_
  simp
  refine callK_of (by simpa using g40) (.inl rfl) ?_
  simp
  refine callK_of (by simpa using g41) (.inl rfl) ?_
  simp
  refine callK_of (by simpa using g19) (.inl rfl) ?_
  simp
  refine callK_of (by simpa using g42) (.inl rfl) ?_
  simp
  refine callK_of (by simpa using g34) (.inl rfl) ?_
  simp
  refine callK_of (by simpa using g20) (.inl rfl) ?_
  simp
  refine callK_of (by simpa using g43) (.inl rfl) ?_
  simp
  refine callK_of (by simpa using g44) (.inl rfl) ?_
  simp
  refine callK_of (by simpa using g45) (.inl rfl) ?_
  simp
  refine callK_of (by simpa using g35) (.inl rfl) ?_
  simp
  refine callK_of g15 (.inl rfl) ?_
  simp
end
end Go.Pf
