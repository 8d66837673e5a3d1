/- A region's run, from the run of the evaluator. -/
import Derived.Test.YtjjfnbadmpffpaaDoorEvThree
import Derived.Maps.RangeRun
import Derived.Scope
set_option linter.all false

namespace Go.Ev
open Go Go.RowKit

def guardFits (ops : Array Oper) : Option (Nat × Bool) → Option (Nat × Bool) → Bool
  | none, none => true
  | some (t, b), some (j, c) => b == c && ((ops[j]?).bind (·.dst)) == some t
  | _, _ => false

def dstFits (N : Nat) : Option Nat → Option Nat → Bool
  | none, none => true
  | some d, some d' => d == d' && decide (d < N)
  | _, _ => false

def operFits (P : Program) (N : Nat) (ops : Array Oper) (A : AOper) (o : Oper) : Bool := dstFits N A.d o.dst && guardFits ops A.g o.guard && A.op.fits P o.op

def opersFit (P : Program) (N : Nat) (ops : Array Oper) : List AOper → List Oper → Bool
  | [], [] => true
  | A :: r, o :: s => operFits P N ops A o && opersFit P N ops r s
  | _, _ => false

theorem opersFit_get {P : Program} {N : Nat} {ops : Array Oper} : ∀ {as : List AOper} {l : List Oper}, opersFit P N ops as l = true → l.length = as.length ∧
    ∀ (i : Nat) (A : AOper) (o : Oper), as[i]? = some A → l[i]? = some o → operFits P N ops A o = true
  | [], [], _ => by simp
  | A :: r, o :: s, h => by
    simp only [opersFit, Bool.and_eq_true] at h
    obtain ⟨h1, h2⟩ := opersFit_get h.2
    refine ⟨by simp [h1], fun i B p hB hp => ?_⟩
    cases i with
    | zero => simp at hB hp; subst hB hp; exact h.1
    | succ i => exact h2 i B p (by simpa using hB) (by simpa using hp)
  | [], _ :: _, h => by simp [opersFit] at h
  | _ :: _, [], h => by simp [opersFit] at h

structure Ctx (P : Program) (K : World → Prop) (ok0 : Nat → Prop) (w0 : Base) : Prop where
  hK : ∀ w, Keep w0.fr w0.w w → K w
  ok : ∀ b, ¬ w0.fr b → ok0 b

section
variable {P : Program} {K : World → Prop} {ok0 : Nat → Prop} {N : Nat} {w0 : Base} {a : Act} {w : World} {L : Nat → Lay} {o : Oper} {A : AOper} {σ : Fs} {v : AV} {up : Option (Nat × AO)}

theorem dst_spec {x y : Option Nat} (h : dstFits N x y = true) : x = y ∧ ∀ t, y = some t → t < N := by
  unfold dstFits at h
  split at h
  · exact ⟨rfl, by simp⟩
  · simp only [Bool.and_eq_true, beq_iff_eq, decide_eq_true_eq] at h
    obtain ⟨rfl, h⟩ := h
    exact ⟨rfl, fun t ht => by injection ht with ht; omega⟩
  · cases h

theorem okL_new {ok0 : Nat → Prop} {lk : Nat → AV} {lo : Nat → Option AO} (c : Ctx P K ok0 w0) (h : Rel ok0 N w0 lk lo a w L) : ∀ b, w.heap.size ≤ b → okL ok0 lo L b := fun b hb =>
  ⟨c.ok b (h.frlt hb), fun id ob hob hbad => by have := ((h.objs id ob hob).lt hbad).2; omega⟩

/-- An operation that is wanted. -/
theorem gives_wp {C : Act → World → Prop} {Q : Exit → Act → World → Prop} (c : Ctx P K ok0 w0) (h : Rel ok0 N w0 σ.lk σ.lo a w L) (hd : dstFits N A.d o.dst = true) (hf : A.op.fits P o.op = true)
    (hy : Gives P K A.op σ v up) (hC : ∀ a' w' L', Rel ok0 N w0 (σ.app A.d v up).lk (σ.app A.d v up).lo a' w' L' → C a' w') : o.wp P a w C Q := by
  obtain ⟨hde, hdlt⟩ := dst_spec hd
  have fixed : ∀ (g : FuncId) (args : List Opd) (ids : List Nat) (xs : List IV) (r : IV) (bs : List Operand), isAll args bs = true → (execOp a.eval o).run P w = .ok (.enter g (bs.map a.eval).toArray) w → peek σ.lo ids (args.map (·.av σ.lk)) = some xs → Good P K g xs r → (ids = [] ∨ scalar r = true) →
      v = .iv r → up = none → o.wp P a w C Q := by
    intro g args ids xs r bs hall hrun hp hg hr hv hu
    subst hu
    obtain ⟨hbl, hbx⟩ := isAll_spec h hall
    have hkw : K w := c.hK _ h.below
    have fin : (∃ ok : Nat → Prop, (∀ b, w.heap.size ≤ b → ok b) ∧ (bs.map a.eval).length = xs.length ∧ (∀ (k : Nat) (x : IV) (u : Value), xs[k]? = some x → (bs.map a.eval)[k]? = some u → RepI ok w x u) ∧
        (∀ w' u, Below w.heap.size w w' → RepI ok w' r u → RepI (okL ok0 σ.lo L) w' r u)) → o.wp P a w C Q := by
      rintro ⟨ok, h1, h2, h3, h4⟩
      unfold Oper.wp
      rw [hrun]
      simp only [Oper.upon]
      refine (hg w ok _ hkw h1 h2 h3).mono fun e w' hew => ?_
      obtain ⟨u, rfl, hu, hb⟩ := hew
      have hrel := h.ext hb
      have hput := hrel.put o.dst hdlt (x := .iv r) (v := u) (.iv _ _ (h4 w' u hb hu))
      refine hC _ _ L ?_
      rw [hv, hde]
      exact hput
    apply fin
    by_cases hids : ids = []
    · subst hids
      simp only [peek] at hp
      obtain ⟨h5, h6⟩ := ivs_rep hp (by simpa using hbl) hbx
      exact ⟨okL ok0 σ.lo L, okL_new c h, h5, h6, fun _ _ _ h => h⟩
    · have hsc : scalar r = true := hr.resolve_left hids
      have hp' : imms (fun i => if ids.contains i then σ.lo i else none) 40 (args.map (·.av σ.lk)) = some xs := by
        unfold peek at hp
        split at hp
        · exact absurd rfl hids
        · exact hp
      obtain ⟨h5, h6⟩ := (imm_sound h c.ok (lo' := fun i => if ids.contains i then σ.lo i else none) (fun id ob hob => by
        split at hob
        · exact hob
        · cases hob) 40).2 _ _ hp'
      refine ⟨ok0, fun b hb => c.ok b (h.frlt hb), by simp [h5, hbl], fun k x u hx hu => ?_, fun w' u _ hu => scalar_rep hsc hu⟩
      have hk : k < (args.map (·.av σ.lk)).length := by rw [← h5]; exact (List.getElem?_eq_some_iff.1 hx).1
      exact h6 k _ x u (List.getElem?_eq_getElem hk) hx (hbx k _ u (List.getElem?_eq_getElem hk) hu)
  have back : ∀ (g : FuncId) (x : Opd) (args : List Opd) (id : Nat) (xs : List IV) (e : TypeId) (sz : Nat) (rows rows' : List (List IV)) (v0 : Value) (ys : List Value), A.op = .callr g x args id → ivs (args.map (·.av σ.lk)) = some xs → GoodR P K g e sz rows xs rows' →
      (∀ u, RepA (okL ok0 σ.lo L) w σ.lo L (x.av σ.lk) u → u = v0) → ownsF w0.fr w e sz v0 rows.length ys → (∀ b, v0.ownBlock = some b → (∃ ob, σ.lo id = some ob) ∧ (L id).has b) → (∀ c ∈ rows, c.length = sz) → (∀ u ∈ ys, u.oneCell' = true) →
      (∀ (i j : Nat) (c : List IV) (x : IV) (u : Value), rows[i]? = some c → c[j]? = some x → ys[i * sz + j]? = some u → RepI (okL ok0 σ.lo L) w x u) →
      (∀ v' xs' w', RowBack w (okL ok0 σ.lo L) e sz rows v0 rows' v' xs' w' → ∃ L', Rel ok0 N w0 (σ.app A.d v up).lk (σ.app A.d v up).lo (a.put o.dst v') w' L') → o.wp P a w C Q := by
    intro g x args id xs e sz rows rows' v0 ys hop hp hg hx hown hhas hsz h1 hcx hfin
    rw [hop] at hf
    have hf' : AOp.fits P (.call g (x :: args) []) o.op = true := hf
    obtain ⟨bs, hall, hrun⟩ := call_run (a := a) (w := w) hf'
    obtain ⟨b0, bs', rfl⟩ : ∃ b0 bs', bs = b0 :: bs' := by
      cases bs with
      | nil => simp [isAll] at hall
      | cons b0 bs' => exact ⟨b0, bs', rfl⟩
    simp only [isAll, Bool.and_eq_true] at hall
    obtain ⟨hall0, hall⟩ := hall
    obtain ⟨hbl, hbx⟩ := isAll_spec h hall
    obtain ⟨h5, h6⟩ := ivs_rep hp (by simpa using hbl) hbx
    have hv0 := hx _ (Opd.rep h hall0)
    have hnot : ∀ b, okL ok0 σ.lo L b → v0.ownBlock ≠ some b := fun b hb hbad => by
      obtain ⟨⟨ob, hob⟩, hh⟩ := hhas b hbad
      exact hb.2 id ob hob hh
    unfold Oper.wp
    rw [hrun]
    simp only [Oper.upon, List.map_cons, hv0]
    refine (hg w (okL ok0 σ.lo L) v0 ys _ (fun w' hk => c.hK _ (h.below.trans (hk.mono fun k hfr => ⟨Nat.lt_of_lt_of_le (w0.lt k hfr) h.le, fun e => hown.free k e hfr⟩))) (okL_new c h) hown.own hsz h1
      (fun i j c x u a1 a2 a3 => (hcx i j c x u a1 a2 a3).mono fun b hb _ => ⟨⟨hb, hnot b hb⟩, rfl⟩) h5 (fun k x u a1 a2 => (h6 k x u a1 a2).mono fun b hb _ => ⟨⟨hb, hnot b hb⟩, rfl⟩)).mono fun y w' hew => ?_
    obtain ⟨v', xs', rfl, hrb⟩ := hew
    obtain ⟨L', hL'⟩ := hfin v' xs' w' hrb
    exact hC _ _ L' hL'
  generalize hop : A.op = op at hy
  cases hy with
  | plain _ _ s f _ _ he hs =>
    rw [hop] at hf
    obtain ⟨_, n, u, w', L', hrun, hn, hrel, hrep⟩ := op_sound h c.ok hf he hs
    have hput := hrel.put o.dst hdlt hrep
    unfold Oper.wp
    rw [hrun]
    rcases hn with rfl | ⟨rfl, rfl⟩
    · simp only [Oper.upon]
      exact hC _ _ L' (by rw [hde]; exact hput)
    · simp only [Oper.upon]
      exact hC _ _ L' (by rw [hde]; exact hput)
  | callo g args id _ xs q e sz rows mv hp hg hid =>
    rw [hop] at hf
    have hf' : AOp.fits P (.call g args []) o.op = true := hf
    obtain ⟨bs, hall, hrun⟩ := call_run (a := a) (w := w) hf'
    obtain ⟨hbl, hbx⟩ := isAll_spec h hall
    have hkw : K w := c.hK _ h.below
    obtain ⟨h5, h6⟩ := ivs_rep hp (by simpa using hbl) hbx
    unfold Oper.wp
    rw [hrun]
    simp only [Oper.upon]
    refine (hg w (okL ok0 σ.lo L) _ hkw (okL_new c h) h5 h6).mono fun x w' hew => ?_
    obtain ⟨u, l, rfl, hob, hrep, hb⟩ := hew
    have hokk : ∀ b, okL (okL ok0 σ.lo L) (one (rowO e sz rows mv)) (fun _ => l) b → okL ok0 (setO σ.lo id (rowO e sz rows mv)) (setL L id l) b := by
      intro b hb
      refine ⟨hb.1.1, fun i oi hi => ?_⟩
      by_cases hii : i = id
      · subst hii
        simp only [setL, if_true]
        exact hb.2 0 (rowO e sz rows mv) (by simp [one])
      · simp only [setO, hii, if_false] at hi
        simp only [setL, hii, if_false]
        exact hb.1.2 i oi hi
    have hrel := h.new id hid (rowO e sz rows mv) l hb (fun b hbb => Nat.not_lt.1 (hob.lt hbb).1) (rowO_rep (fun b hb => h.frlt (Nat.not_lt.1 hb)) hokk hob)
    have hput := hrel.put o.dst hdlt (x := ren id q) (v := u) (ren_rep hokk (i := 0) (ob := rowO e sz rows mv) (by simp [one]) (by simp [setO]) (by simp [setL]) hrep)
    refine hC _ _ (setL L id l) ?_
    rw [hde]
    exact hput
  | call g args ids _ xs r hp hg hr =>
    rw [hop] at hf
    obtain ⟨bs, hall, hrun⟩ := call_run (a := a) (w := w) hf
    exact fixed g args ids xs r bs hall hrun hp hg hr rfl rfl
  | calld x g args ids _ xs r hx hc hp hg hr =>
    rw [hop] at hf
    obtain ⟨bs, hall, hrun⟩ := calld_run h hf hx hc
    exact fixed g args ids xs r bs hall hrun hp hg hr rfl rfl
  | callr g x args id _ xs e sz rows rows' mv hx hid hp hg =>
    have hob := h.objs _ _ hid
    cases hL : L id with
    | box b => rw [hL] at hob; exact hob.elim
    | one b => rw [hL] at hob; exact hob.elim
    | map b vals => rw [hL] at hob; exact hob.elim
    | arr v0 ys =>
      rw [hL] at hob
      obtain ⟨hown, hmv, hsz, h1, hxx⟩ := hob
      rw [List.length_map] at hown hmv
      refine back g x args id xs e sz rows rows' v0 ys hop hp hg (fun u hu => ?_) hown (fun b hb => ⟨⟨_, hid⟩, by rw [hL]; exact hb⟩) (fun c hc => ?_) h1 (fun i j c x u a1 a2 a3 => ?_) (fun v' xs' w' hrb => ?_)
      · rw [hx] at hu
        exact inv_aref_all hid hL hu
      · have := hsz (c.map AV.iv) (List.mem_map.2 ⟨c, hc, rfl⟩)
        simpa using this
      · exact inv_iv (hxx i j (c.map AV.iv) (.iv x) u (by simp [a1]) (by simp [a2]) a3)
      · obtain ⟨h5, h6⟩ := back_arr h c.ok hid hL hrb
        refine ⟨setL L id (.arr v' xs'), ?_⟩
        rw [← hde]
        exact h5.put A.d (by rw [hde]; exact hdlt) h6
  | callm g x args id _ xs e sz kvs k n rows' hx hn hid hp hg =>
    have hob := h.objs _ _ hid
    cases hL : L id with
    | box b => rw [hL] at hob; exact hob.elim
    | one b => rw [hL] at hob; exact hob.elim
    | arr v ys => rw [hL] at hob; exact hob.elim
    | map b vals =>
      obtain ⟨ys, g1, g2, g3, g4, g5, g6⟩ := map_row h hid hL k
      refine back g x args id xs e sz _ rows' _ ys hop hp hg (fun u hu => ?_) g1 (fun b hb => ⟨⟨_, hid⟩, (g6 b hb).1⟩) g3 g4 g5 (fun v' xs' w' hrb => ?_)
      · rw [hx] at hu
        obtain ⟨b2, vals2, hL2, hu⟩ := refs_mapr hid (by simp [AV.refs]) hu
        rw [hL] at hL2
        injection hL2 with q1 q2
        subst q1 q2
        rcases hu with ⟨hu, _⟩ | ⟨k2, n2, hu, _, _, hu2⟩
        · cases hu
        · injection hu with q1 q2 q3
          subst q2 q3
          exact hu2 hn
      · obtain ⟨h5, h6⟩ := back_map h c.ok hid hL hrb
        refine ⟨setL L id (.map b (mins k v' vals)), ?_⟩
        rw [← hde]
        exact h5.put A.d (by rw [hde]; exact hdlt) (h6 _)

theorem yielded_of {ops : Array Oper} {t j : Nat} {b : Bool} (h : Rel ok0 N w0 σ.lk σ.lo a w L) (ht : σ.lk t = .iv (.bool b)) (hj : ((ops[j]?).bind (·.dst)) = some t) : yielded ops a.tmps j = some b := by
  have r := h.env t
  rw [ht] at r
  have hv := inv_bool r
  unfold yielded
  rw [hj]
  simp only [Option.bind_some]
  cases hg : a.tmps[t]? with
  | none => simp [Array.getD_eq_getD_getElem?, hg, undef] at hv
  | some u => simp [Array.getD_eq_getD_getElem?, hg] at hv; subst hv; rfl

theorem rep_undef {ok : Nat → Prop} {w : World} : RepI ok w (.tup []) undef := .tup [] [] rfl (fun _ _ _ h => by simp at h)

theorem inv_tup {ok : Nat → Prop} {lo : Nat → Option AO} {u : Value} (r : RepA ok w lo L (.iv (.tup [])) u) : u = undef := by
  cases r with
  | iv _ _ h =>
    cases h with
    | tup _ vs hl _ =>
      have : vs = [] := by simpa using hl
      subst this
      rfl

theorem yielded_none {ops : Array Oper} {t j : Nat} (h : Rel ok0 N w0 σ.lk σ.lo a w L) (ht : σ.lk t = .iv (.tup [])) (hj : ((ops[j]?).bind (·.dst)) = some t) : yielded ops a.tmps j = none := by
  have r := h.env t
  rw [ht] at r
  have hv := inv_tup r
  unfold yielded
  rw [hj]
  simp only [Option.bind_some]
  cases hg : a.tmps[t]? with
  | none => rfl
  | some u => simp [Array.getD_eq_getD_getElem?, hg] at hv; subst hv; rfl

/-- An operation's turn. -/
theorem yields_wp {ops : Array Oper} {C : Act → World → Prop} {Q : Exit → Act → World → Prop} (c : Ctx P K ok0 w0) (h : Rel ok0 N w0 σ.lk σ.lo a w L) (hf : operFits P N ops A o = true)
    (hy : Yields P K A σ v up) (hC : ∀ a' w' L', Rel ok0 N w0 (σ.app A.d v up).lk (σ.app A.d v up).lo a' w' L' → C a' w') :
    if Region.wanted o (yielded ops a.tmps) then o.wp P a w C Q else C (a.put o.dst undef) w := by
  simp only [operFits, Bool.and_eq_true] at hf
  obtain ⟨⟨hd, hg⟩, hop⟩ := hf
  unfold Yields at hy
  unfold guardFits at hg
  split at hy
  · rename_i hag
    rw [hag] at hg
    split at hg
    · rename_i hog
      have : Region.wanted o (yielded ops a.tmps) = true := by simp [Region.wanted, hog]
      rw [this, if_pos rfl]
      exact gives_wp c h hd hop hy hC
    · rename_i heq _; cases heq
    · cases hg
  · rename_i t b hag
    rw [hag] at hg
    split at hg
    · rename_i heq _; cases heq
    · rename_i t' b' j b'' heq hog
      injection heq with heq
      injection heq with e1 e2
      subst e1 e2
      simp only [Bool.and_eq_true, beq_iff_eq] at hg
      obtain ⟨rfl, hj⟩ := hg
      rcases hy with ⟨ht, hgv⟩ | ⟨ht, rfl, rfl⟩
      · have hyd := yielded_of h ht hj
        have : Region.wanted o (yielded ops a.tmps) = true := by simp [Region.wanted, hog, hyd]
        rw [this, if_pos rfl]
        exact gives_wp c h hd hop hgv hC
      · have : Region.wanted o (yielded ops a.tmps) = false := by
          rcases ht with ht | ht
          · have hyd := yielded_of h ht hj
            simp [Region.wanted, hog, hyd]
          · have hyd := yielded_none h ht hj
            simp [Region.wanted, hog, hyd]
        rw [this]
        simp only [Bool.false_eq_true, if_false]
        obtain ⟨hde, hdlt⟩ := dst_spec hd
        refine hC _ _ L ?_
        have := h.put o.dst hdlt (x := .iv (.tup [])) (v := undef) (.iv _ _ rep_undef)
        rw [← hde] at this
        rw [← hde]
        exact this
    · cases hg

theorem wpAny_of_A {ops : Array Oper} {as : List AOper} {Q : Fs → Prop} {Q' : Exit → Act → World → Prop} (c : Ctx P K ok0 w0) (hfit : opersFit P N ops as ops.toList = true)
    (hQ : ∀ σ a w L, Rel ok0 N w0 σ.lk σ.lo a w L → Q σ → Q' .normal a w) : ∀ (fuel : Nat) (listed : Array Bool) (σ : Fs) (a : Act) (w : World) (L : Nat → Lay), Rel ok0 N w0 σ.lk σ.lo a w L →
      wpAnyA P K .any ops as Q fuel listed σ → wpAny P .any ops Q' fuel listed a w
  | 0, _, _, _, _, _, hr, h => ⟨h.1, hQ _ _ _ _ hr h.2⟩
  | fuel + 1, listed, σ, a, w, L, hr, h => by
    refine ⟨fun h0 => hQ _ _ _ _ hr (h.1 h0), fun i hi => ?_⟩
    have h2 := h.2 i hi
    obtain ⟨hlen, hget⟩ := opersFit_get hfit
    unfold wpOp
    cases ho : ops[i]? with
    | none =>
      have hA : as[i]? = none := by
        have : ops.size ≤ i := by
          rcases Nat.lt_or_ge i ops.size with hlt | hge
          · simp [hlt] at ho
          · exact hge
        rw [List.getElem?_eq_none_iff]
        simp at hlen; omega
      simp only [aqOp, hA] at h2
      exact wpAny_of_A c hfit hQ fuel _ σ a w L hr h2
    | some o =>
      have hlt : i < as.length := by
        have := (Array.getElem?_eq_some_iff.1 ho).1
        simp at hlen; omega
      have hA : as[i]? = some as[i] := List.getElem?_eq_getElem hlt
      simp only [aqOp, hA] at h2
      obtain ⟨v, up, hy, hc⟩ := h2
      have := yields_wp (ops := ops) (Q := Q') (C := wpAny P .any ops Q' fuel (listed.setIfInBounds i true)) c hr (hget i _ o hA (by simpa using ho)) hy
        (fun a' w' L' hr' => wpAny_of_A c hfit hQ fuel _ _ a' w' L' hr' hc)
      simp only []
      split
      · rename_i hw; rw [if_pos hw] at this; exact .inl this
      · rename_i hw; rw [if_neg hw] at this; exact this

theorem wpOps_of_path {ops : Array Oper} {as : List AOper} {Q' : Exit → Act → World → Prop} {σ' : Fs} (c : Ctx P K ok0 w0) (hfit : opersFit P N ops as ops.toList = true)
    (hQ : ∀ a w L, Rel ok0 N w0 σ'.lk σ'.lo a w L → Q' .normal a w) : ∀ (l : List AOper) (k : Nat) (σ : Fs) (a : Act) (w : World) (L : Nat → Lay), (∀ j, l[j]? = as[k + j]?) → Rel ok0 N w0 σ.lk σ.lo a w L →
      Path P K l σ σ' → wpOps P ops Q' (List.range' k l.length) a w
  | [], _, σ, a, w, L, _, hr, hp => by
    cases hp
    simp only [List.length_nil, List.range'_zero, wpOps]
    exact hQ _ _ _ hr
  | A :: l, k, σ, a, w, L, hl, hr, hp => by
    obtain ⟨hlen, hget⟩ := opersFit_get hfit
    cases hp with
    | cons _ _ _ _ v up hy hp =>
      have hA : as[k]? = some A := by simpa using (hl 0).symm
      have hlt : k < ops.toList.length := by rw [hlen]; exact (List.getElem?_eq_some_iff.1 hA).1
      have ho : ops[k]? = some (ops.toList[k]) := by
        have := List.getElem?_eq_getElem hlt
        simpa using this
      simp only [List.length_cons, List.range'_succ, wpOps, ho]
      have := yields_wp (ops := ops) (Q := Q') (C := wpOps P ops Q' (List.range' (k + 1) l.length)) c hr (hget k A _ hA (List.getElem?_eq_getElem hlt)) hy
        (fun a' w' L' hr' => wpOps_of_path c hfit hQ l (k + 1) _ a' w' L' (fun j => by have := hl (j + 1); simpa [Nat.add_assoc, Nat.add_comm 1 j] using this) hr' hp)
      split
      · rename_i hw; rw [if_pos hw] at this; exact .inl this
      · rename_i hw; rw [if_neg hw] at this; exact this

/-- What the check asks of a region. -/
def regionFits (P : Program) (N : Nat) (as : List AOper) (ops : Array Oper) (draw : Bool) : Bool :=
  opersFit P N ops as ops.toList && (!draw || (P.follows .mixedOrders && Region.lexB .any ops && pairsOk ops as))

theorem region_wp {ops : Array Oper} {as : List AOper} {id : Nat} {draw : Bool} {Q' : Exit → Act → World → Prop} {σ σ' : Fs} (c : Ctx P K ok0 w0) (hfit : regionFits P N as ops draw = true)
    (hr : Rel ok0 N w0 σ.lk σ.lo a w L) (hp : Path P K as σ σ') (hQ : ∀ a w L, Rel ok0 N w0 σ'.lk σ'.lo a w L → Q' .normal a w) : (Code.region id ops draw).wp P Q' a w := by
  simp only [regionFits, Bool.and_eq_true] at hfit
  obtain ⟨hfit, hdraw⟩ := hfit
  obtain ⟨hlen, _⟩ := opersFit_get hfit
  have hlen' : ops.size = as.length := by simpa using hlen
  cases draw with
  | false =>
    refine wp_region ?_
    have := wpOps_of_path c hfit hQ as 0 σ a w L (by simp) hr hp
    rw [hlen', List.range_eq_range']
    exact this
  | true =>
    simp only [Bool.not_true, Bool.false_or, Bool.and_eq_true] at hdraw
    obtain ⟨⟨hm, hB⟩, hpairs⟩ := hdraw
    simp only [Region.lexB, Bool.and_eq_true] at hB
    refine wp_region_any hm ?_
    have hr' : Rel ok0 N w0 σ.lk σ.lo a { w with drawn := w.drawn + 1 } L := hr.ext ⟨rfl, rfl, rfl, Nat.le_refl _, fun _ _ => rfl⟩
    refine wpAny_of_A (Q := fun σ => σ = σ') c hfit (fun τ a' w' L' h1 h2 => by subst h2; exact hQ _ _ _ h1) _ _ σ a _ L hr' ?_
    have := wpAnyA_lex (P := P) (K := K) (Q := fun σ => σ = σ') hlen' hpairs as 0 (Array.replicate ops.size false) σ σ' (by simp) (by simp) (by rw [← hlen']; exact hB.2) hp rfl
    rw [← hlen'] at this
    exact this

end
end Go.Ev

/- The evaluator over a function's body, and that it is sound. -/
namespace Go.Ev
open Go Go.RowKit

abbrev Env := List (Nat × AV)
abbrev Objs := List (Nat × AO)

def look : Env → Nat → AV
  | [], _ => .iv .any
  | (k, v) :: r, t => if t = k then v else look r t

def lookO : Objs → Nat → Option AO
  | [], _ => none
  | (k, o) :: r, i => if i = k then some o else lookO r i

def bnd (d : Option Nat) (v : AV) (e : Env) : Env :=
  match d with
  | none => e
  | some d => (d, v) :: e

def setE (t : Nat) (v : AV) : Env → Env
  | [] => []
  | (k, x) :: r => if t = k then (k, v) :: r else (k, x) :: setE t v r

def setOL (id : Nat) (o : AO) : Objs → Objs
  | [] => [(id, o)]
  | (k, x) :: r => if id = k then (k, o) :: r else (k, x) :: setOL id o r

def upL (up : Option (Nat × AO)) (os : Objs) : Objs :=
  match up with
  | none => os
  | some (id, o) => setOL id o os

theorem look_bnd (d : Option Nat) (v : AV) (e : Env) : look (bnd d v e) = setK (look e) d v := by
  cases d <;> rfl

theorem lookO_setOL (id : Nat) (o : AO) : ∀ os : Objs, lookO (setOL id o os) = setO (lookO os) id o
  | [] => by funext i; simp [setOL, lookO, setO]
  | (k, x) :: r => by
    funext i
    simp only [setOL]
    split
    · rename_i h
      subst h
      simp only [lookO, setO]
      split <;> rfl
    · rename_i h
      simp only [lookO, lookO_setOL id o r, setO]
      by_cases h1 : i = k <;> by_cases h2 : i = id <;> simp_all

theorem lookO_upL (up : Option (Nat × AO)) (os : Objs) : lookO (upL up os) = upO (lookO os) up := by
  cases up with
  | none => rfl
  | some p => obtain ⟨id, o⟩ := p; exact lookO_setOL id o os

theorem look_setE {t : Nat} {v : AV} : ∀ {e : Env}, look e t = v → look (setE t v e) = look e
  | [], _ => rfl
  | (k, x) :: r, h => by
    funext u
    simp only [look] at h
    simp only [setE]
    split
    · rename_i hk
      rw [if_pos hk] at h
      subst h
      rfl
    · rename_i hk
      rw [if_neg hk] at h
      simp only [look]
      split
      · rfl
      · exact congrFun (look_setE h) u

def sig (e : Env) (o : Objs) : Fs := ⟨look e, lookO o⟩

theorem sig_app (e : Env) (o : Objs) (d : Option Nat) (v : AV) (up : Option (Nat × AO)) : (sig e o).app d v up = sig (bnd d v e) (upL up o) := by
  simp [sig, Fs.app, look_bnd, lookO_upL]

def evK (C : AV → Option (Nat × AO) → Prop) : Res → Prop
  | .ok s f v up => s ∧ (f → C v up)
  | .no => False

/-- A row is handed through a call. -/
def rowK (P : Program) (K : World → Prop) (g : FuncId) (id : Nat) (C : AV → Option (Nat × AO) → Prop) (xs : Option (List IV)) : AV → Option AO → Prop
  | .aref i n, some (.arr t sz es mv) => ∃ ys rows rows', i = id ∧ xs = some ys ∧ ivss es = some rows ∧ n = es.length ∧ GoodR P K g t sz rows ys rows' ∧ C (.aref id rows'.length) (some (id, rowO t sz rows' rows'.length))
  | .mref i k n, some (.mapr t sz kvs none) => ∃ ys rows', i = id ∧ xs = some ys ∧ ((mfind k kvs).getD []).length = n ∧ GoodR P K g t sz ((mfind k kvs).getD []) ys rows' ∧ C (.mref id k rows'.length) (some (id, .mapr t sz (mins k rows' kvs) (some k)))
  | _, _ => False

def run1 (P : Program) (K : World → Prop) (op : AOp) (C : AV → Option (Nat × AO) → Prop) (e : Env) (o : Objs) : Prop :=
  match op with
  | .call g args ids => ∃ xs r, peek (lookO o) ids (args.map (·.av (look e))) = some xs ∧ Good P K g xs r ∧ (ids = [] ∨ scalar r = true) ∧ C (.iv r) none
  | .callo g args ids id => ∃ xs q t sz rows mv, ids = [] ∧ ivs (args.map (·.av (look e))) = some xs ∧ GoodO P K g xs q t sz rows mv ∧ lookO o id = none ∧ C (ren id q) (some (id, rowO t sz rows mv))
  | .calld x args ids => ∃ g xs r, x.av (look e) = .iv (.fn g) ∧ callee P g = true ∧ peek (lookO o) ids (args.map (·.av (look e))) = some xs ∧ Good P K g xs r ∧ (ids = [] ∨ scalar r = true) ∧ C (.iv r) none
  | .callr g x args id => rowK P K g id C (ivs (args.map (·.av (look e)))) (x.av (look e)) (lookO o id)
  | op => evK C (ev (look e) (lookO o) op)

def guardK (b : Bool) (C : Bool → AV → Prop) : AV → Prop
  | .iv (.bool c) => (c = b → C true (.iv (.bool b))) ∧ (c = !b → C false (.iv (.bool (!b))))
  | .iv (.tup []) => C false (.iv (.tup []))
  | _ => False

def runOps (P : Program) (K : World → Prop) (C : Env → Objs → Prop) : List AOper → Env → Objs → Prop
  | [], e, o => C e o
  | A :: l, e, o =>
    match A.g with
    | none => run1 P K A.op (fun v up => runOps P K C l (bnd A.d v e) (upL up o)) e o
    | some (t, b) => guardK b (fun w u => match w with
        | true => run1 P K A.op (fun v up => runOps P K C l (bnd A.d v (setE t u e)) (upL up o)) (setE t u e) o
        | false => runOps P K C l (bnd A.d (.iv (.tup [])) (setE t u e)) o) (look e t)

section
variable {P : Program} {K : World → Prop} {ok0 : Nat → Prop} {N : Nat} {w0 : Base} {a : Act} {w : World} {L : Nat → Lay}

theorem run1_mono {op : AOp} {C C' : AV → Option (Nat × AO) → Prop} {e : Env} {o : Objs} (h : ∀ v up, C v up → C' v up) (hh : run1 P K op C e o) : run1 P K op C' e o := by
  have plain : ∀ r, evK C r → evK C' r := by
    intro r hr
    cases r with
    | no => exact hr
    | ok s f v up => exact ⟨hr.1, fun hf => h _ _ (hr.2 hf)⟩
  cases op with
  | call g args ids => obtain ⟨xs, r, h1, h2, h3, h4⟩ := hh; exact ⟨xs, r, h1, h2, h3, h _ _ h4⟩
  | callo g args ids id => obtain ⟨xs, q, t, sz, rows, mv, h0, h1, h2, h3, h4⟩ := hh; exact ⟨xs, q, t, sz, rows, mv, h0, h1, h2, h3, h _ _ h4⟩
  | calld x args ids => obtain ⟨g, xs, r, h0, h1, h2, h3, h4, h5⟩ := hh; exact ⟨g, xs, r, h0, h1, h2, h3, h4, h _ _ h5⟩
  | callr g x args id =>
    simp only [run1] at hh ⊢
    unfold rowK at hh ⊢
    split at hh
    · obtain ⟨ys, rows, rows', h0, h1, h2, h3, h4, h5⟩ := hh
      exact ⟨ys, rows, rows', h0, h1, h2, h3, h4, h _ _ h5⟩
    · obtain ⟨ys, rows', h0, h1, h2, h3, h4⟩ := hh
      exact ⟨ys, rows', h0, h1, h2, h3, h _ _ h4⟩
    · exact hh
  | _ => simp only [run1] at hh ⊢; exact plain _ hh

theorem runOps_mono {C C' : Env → Objs → Prop} (h : ∀ e o, C e o → C' e o) : ∀ (l : List AOper) (e : Env) (o : Objs), runOps P K C l e o → runOps P K C' l e o
  | [], e, o, hh => h _ _ hh
  | A :: l, e, o, hh => by
    simp only [runOps] at hh ⊢
    split at hh
    · exact run1_mono (fun v up => runOps_mono h l _ _) hh
    · rename_i t b _
      unfold guardK at hh ⊢
      split at hh
      · exact ⟨fun hc => run1_mono (fun v up => runOps_mono h l _ _) (hh.1 hc), fun hc => runOps_mono h l _ _ (hh.2 hc)⟩
      · exact runOps_mono h l _ _ hh
      · exact hh

/-- A wanted operation: the way on. -/
theorem run1_gives {A : AOper} {p : Oper} {C : AV → Option (Nat × AO) → Prop} {e : Env} {o : Objs} (c : Ctx P K ok0 w0) (h : Rel ok0 N w0 (look e) (lookO o) a w L) (hf : A.op.fits P p.op = true)
    (hh : run1 P K A.op C e o) : ∃ v up, Gives P K A.op (sig e o) v up ∧ C v up := by
  have plain : evK C (ev (look e) (lookO o) A.op) → ∃ v up, Gives P K A.op (sig e o) v up ∧ C v up := by
    intro hk
    cases hr : ev (look e) (lookO o) A.op with
    | no => rw [hr] at hk; exact hk.elim
    | ok s f v up =>
      rw [hr] at hk
      obtain ⟨hf', _⟩ := op_sound h c.ok hf hr hk.1
      exact ⟨v, up, .plain _ _ s f _ _ hr hk.1, hk.2 hf'⟩
  cases hop : A.op with
  | call g args ids =>
    rw [hop] at hh
    obtain ⟨xs, r, h1, h2, h3, h4⟩ := hh
    exact ⟨.iv r, none, .call g args ids _ xs r h1 h2 h3, h4⟩
  | callo g args ids id =>
    rw [hop] at hh
    obtain ⟨xs, q, t, sz, rows, mv, h0, h1, h2, h3, h4⟩ := hh
    subst h0
    exact ⟨_, _, .callo g args id _ xs q t sz rows mv h1 h2 h3, h4⟩
  | calld x args ids =>
    rw [hop] at hh
    obtain ⟨g, xs, r, h0, h1, h2, h3, h4, h5⟩ := hh
    exact ⟨.iv r, none, .calld x g args ids _ xs r h0 h1 h2 h3 h4, h5⟩
  | callr g x args id =>
    rw [hop] at hh
    simp only [run1] at hh
    generalize hxv : x.av (look e) = xv at hh
    generalize hov : lookO o id = ov at hh
    unfold rowK at hh
    split at hh
    · rename_i i n t sz es mv
      obtain ⟨ys, rows, rows', rfl, h1, h2, rfl, h4, h5⟩ := hh
      have hes := ivss_spec h2
      exact ⟨_, _, .callr g x args i _ ys t sz rows rows' mv (by show x.av (look e) = _; rw [hxv, hes, List.length_map]) (by show lookO o i = _; rw [hov, hes]; rfl) h1 h4, h5⟩
    · rename_i i k n t sz kvs
      obtain ⟨ys, rows', rfl, h1, h2, h3, h4⟩ := hh
      exact ⟨_, _, .callm g x args i _ ys t sz kvs k n rows' hxv h2 hov h1 h3, h4⟩
    · exact hh.elim
  | _ =>
    rw [← hop]
    exact plain (by rw [hop] at hh ⊢; exact hh)

theorem gives_step {A : AOper} {p : Oper} {σ : Fs} {v : AV} {up : Option (Nat × AO)} (c : Ctx P K ok0 w0) (h : Rel ok0 N w0 σ.lk σ.lo a w L) (hd : dstFits N A.d p.dst = true) (hf : A.op.fits P p.op = true)
    (hy : Gives P K A.op σ v up) : ∃ a' w' L', Rel ok0 N w0 (σ.app A.d v up).lk (σ.app A.d v up).lo a' w' L' := by
  have := gives_wp (Q := fun _ _ _ => False) (C := fun a' w' => ∃ L', Rel ok0 N w0 (σ.app A.d v up).lk (σ.app A.d v up).lo a' w' L') c h hd hf hy (fun a' w' L' h => ⟨L', h⟩)
  unfold Oper.wp Oper.upon at this
  split at this
  · obtain ⟨L', h⟩ := this; exact ⟨_, _, L', h⟩
  · obtain ⟨L', h⟩ := this; exact ⟨_, _, L', h⟩
  · obtain ⟨L', h⟩ := this; exact ⟨_, _, L', h⟩
  · obtain ⟨e, w', fr, hR, _⟩ := this []
    cases e with
    | returned v => obtain ⟨L', h⟩ := hR; exact ⟨_, _, L', h⟩
    | panicked ch => exact hR.elim
    | outgrown => obtain ⟨_, _, hq⟩ := hR; exact hq.elim
  · obtain ⟨v, w', hR, _⟩ := this default []
    obtain ⟨L', h⟩ := hR; exact ⟨_, _, L', h⟩
  · exact this.elim
  · exact this.elim

theorem extract {ops : Array Oper} {C : Env → Objs → Prop} (c : Ctx P K ok0 w0) : ∀ (l : List AOper) (ps : List Oper) (e : Env) (o : Objs) (a : Act) (w : World) (L : Nat → Lay), opersFit P N ops l ps = true →
    Rel ok0 N w0 (look e) (lookO o) a w L → runOps P K C l e o → ∃ e' o', Path P K l (sig e o) (sig e' o') ∧ C e' o'
  | [], ps, e, o, a, w, L, _, _, hh => ⟨e, o, .nil _, hh⟩
  | A :: l, [], e, o, a, w, L, hf, _, _ => by simp [opersFit] at hf
  | A :: l, p :: ps, e, o, a, w, L, hf, hr, hh => by
    simp only [opersFit, Bool.and_eq_true] at hf
    obtain ⟨hop, hf⟩ := hf
    have hop' := hop
    simp only [operFits, Bool.and_eq_true] at hop'
    obtain ⟨⟨hd, hg⟩, hfit⟩ := hop'
    simp only [runOps] at hh
    have wanted : ∀ e1 : Env, look e1 = look e → run1 P K A.op (fun v up => runOps P K C l (bnd A.d v e1) (upL up o)) e1 o →
        (∀ v up, Gives P K A.op (sig e o) v up → Yields P K A (sig e o) v up) → ∃ e' o', Path P K (A :: l) (sig e o) (sig e' o') ∧ C e' o' := by
      intro e1 he1 h1 hy
      have hr1 : Rel ok0 N w0 (look e1) (lookO o) a w L := by rw [he1]; exact hr
      obtain ⟨v, up, hgv, hc⟩ := run1_gives c hr1 hfit h1
      have hs1 : sig e1 o = sig e o := by simp [sig, he1]
      rw [hs1] at hgv
      obtain ⟨a', w', L', hr'⟩ := gives_step (σ := sig e o) c hr hd hfit hgv
      have hs2 : (sig e o).app A.d v up = sig (bnd A.d v e1) (upL up o) := by rw [← hs1, sig_app]
      rw [hs2] at hr'
      obtain ⟨e', o', hp, hc'⟩ := extract c l ps _ _ a' w' L' hf hr' hc
      exact ⟨e', o', .cons A l _ _ v up (hy v up hgv) (by rw [hs2]; exact hp), hc'⟩
    have unwanted : ∀ (t : Nat) (b : Bool), A.g = some (t, b) → ∀ x : AV, look e t = x → (look e t = .iv (.bool (!b)) ∨ look e t = .iv (.tup [])) → runOps P K C l (bnd A.d (.iv (.tup [])) (setE t x e)) o →
        ∃ e' o', Path P K (A :: l) (sig e o) (sig e' o') ∧ C e' o' := by
      intro t b hag x hx hor hun
      have hle := look_setE (e := e) hx
      have hs : (sig e o).app A.d (.iv (.tup [])) none = sig (bnd A.d (.iv (.tup [])) (setE t x e)) o := by
        have : sig e o = sig (setE t x e) o := by simp [sig, hle]
        rw [this, sig_app]; rfl
      obtain ⟨hde, hdlt⟩ := dst_spec hd
      have hr' := hr.put p.dst hdlt (x := .iv (.tup [])) (v := undef) (.iv _ _ rep_undef)
      rw [← hde] at hr'
      have hr2 : Rel ok0 N w0 (look (bnd A.d (.iv (.tup [])) (setE t x e))) (lookO o) (a.put A.d undef) w L := by
        rw [look_bnd, hle]; exact hr'
      obtain ⟨e', o', hp, hc'⟩ := extract c l ps _ _ _ w L hf hr2 hun
      exact ⟨e', o', .cons A l _ _ (.iv (.tup [])) none (by unfold Yields; rw [hag]; exact .inr ⟨hor, rfl, rfl⟩) (by rw [hs]; exact hp), hc'⟩
    split at hh
    · rename_i hag
      exact wanted e rfl hh (fun v up h => by unfold Yields; rw [hag]; exact h)
    · rename_i t b hag
      unfold guardK at hh
      split at hh
      · rename_i cb hcb
        by_cases hbc : cb = b
        · subst hbc
          exact wanted _ (look_setE hcb) (hh.1 rfl) (fun v up h => by unfold Yields; rw [hag]; exact .inl ⟨hcb, h⟩)
        · have hcb' : cb = !b := by cases cb <;> cases b <;> simp_all
          subst hcb'
          have hun := hh.2 rfl
          simp only [] at hun
          exact unwanted t b hag _ hcb (.inl hcb) hun
      · rename_i hcb
        exact unwanted t b hag _ hcb (.inr hcb) hh
      · exact hh.elim

end
end Go.Ev

/- A step of a loop over a map's entries; an empty row of a variable that the call has made. -/
namespace Go.Ev
open Go Go.RowKit

def nxtFits (N : Nat) (d dx : Nat) (x : Opd) (ops : Array Oper) : Bool :=
  match ops.toList with
  | [p, q] => p.dst == some d && q.dst == some dx && decide (d < N) && decide (dx < N) && p.guard.isNone && q.guard.isNone &&
      (match p.op with | .next y s => x.is y && !s | _ => false) && (match q.op with | .extract (.tmp m) j => m == d && j == 0 | _ => false)
  | _ => false

section
variable {P : Program} {K : World → Prop} {ok0 : Nat → Prop} {N : Nat} {w0 : Base} {lk : Nat → AV} {lo : Nat → Option AO} {a : Act} {w : World} {L : Nat → Lay}

/-- A step of the iterator. -/
theorem next_step {p : Oper} {y : Operand} {x : Opd} {d id : Nat} {kvs : List (MK × IV)} {seen : List Nat} (h : Rel ok0 N w0 lk lo a w L) (hd : p.dst = some d) (hdN : d < N) (ho : p.op = .next y false) (hx : x.is y = true) (hxv : x.av lk = .oref id) (hid : lo id = some (.miter kvs seen)) :
    ∃ u w' L', (execOp a.eval p).run P w = .ok (.value u) w' ∧
      (((∀ i, i < kvs.length → i ∈ seen) ∧ Rel ok0 N w0 (setK lk (some d) (.iv (.tup [.bool false]))) lo (a.put p.dst u) w' L') ∨
       ∃ i q, kvs[i]? = some q ∧ i ∉ seen ∧ Rel ok0 N w0 (setK lk (some d) (.iv (.tup [.bool true, q.1.iv, q.2]))) (setO lo id (.miter kvs (i :: seen))) (a.put p.dst u) w' L') := by
  have rx := Opd.rep h hx
  rw [hxv] at rx
  obtain ⟨_, b, hL, hv⟩ := refs_miter hid (refs_oref id) rx
  have hob := h.objs _ _ hid
  rw [hL] at hob
  obtain ⟨hF, r, since, sn, hb, hit⟩ := hob
  have over : (∀ i, i < kvs.length → i ∈ seen) → (Instr.next (.pointer (some ⟨b, 0, none⟩)) false p.type).run P w = .ok (.tuple #[.bool false]) w →
      ∃ u w' L', (execOp a.eval p).run P w = .ok (.value u) w' ∧
      (((∀ i, i < kvs.length → i ∈ seen) ∧ Rel ok0 N w0 (setK lk (some d) (.iv (.tup [.bool false]))) lo (a.put p.dst u) w' L') ∨
       ∃ i q, kvs[i]? = some q ∧ i ∉ seen ∧ Rel ok0 N w0 (setK lk (some d) (.iv (.tup [.bool true, q.1.iv, q.2]))) (setO lo id (.miter kvs (i :: seen))) (a.put p.dst u) w' L') := by
    intro hall hrun
    refine ⟨.tuple #[.bool false], w, L, by simp [execOp, ho, hv, hrun], .inl ⟨hall, ?_⟩⟩
    rw [hd]
    refine h.put (some d) (fun t ht => by injection ht with ht; omega) (.iv _ _ (.tup _ [_] rfl fun k x u hk hu => ?_))
    match k with
    | 0 => simp at hk hu; subst hk hu; exact .bool _
    | k + 1 => simp at hk
  cases r with
  | none =>
    have hk : kvs = [] := hit
    subst hk
    refine over (fun i hi => by simp at hi) ?_
    have hb' : w.heap[b]? = some (.mapIter none since sn since) := hb
    simp [Instr.next, getObj, Sem.run, hb']
  | some r =>
    obtain ⟨es, h1, h2, h3, h4, h5, h6⟩ := hit
    have hold : ∀ x ∈ es.toList, x.born < since := fun x hx => by
      obtain ⟨i, hi⟩ := List.getElem?_of_mem hx
      exact h3.born i x (by simpa using hi)
    have stamp : ∀ (i : Nat) (e : MapEntry), es[i]? = some e → (sn.contains e.born = true ↔ i ∈ seen) := by
      intro i e he
      constructor
      · intro hc
        simp only [Array.contains_iff_mem] at hc
        obtain ⟨j, hj⟩ := Array.getElem?_of_mem hc
        have hjl : j < seen.reverse.length := by rw [List.length_reverse, ← h5]; exact (Array.getElem?_eq_some_iff.1 hj).1
        obtain ⟨e', h7, h8⟩ := h6 j _ (List.getElem?_eq_getElem hjl)
        rw [hj] at h8
        injection h8 with h8
        have := h3.apart i _ e e' he h7 h8
        rw [this, ← List.mem_reverse]
        exact List.getElem_mem hjl
      · intro hm
        rw [← List.mem_reverse] at hm
        obtain ⟨j, hj⟩ := List.getElem?_of_mem hm
        obtain ⟨e', h7, h8⟩ := h6 j i hj
        rw [he] at h7
        injection h7 with h7
        subst h7
        simp only [Array.contains_iff_mem]
        exact Array.mem_of_getElem? h8
    rcases run_next_at (P := P) w p.type b r since since sn es since hb h2 hold (Nat.le_refl _) with ⟨h7, hrun⟩ | ⟨e, he, w1, hw1, hrun⟩
    · refine over (fun i hi => ?_) hrun
      have hi' : i < es.size := by rw [h3.size]; exact hi
      have hel : es[i] ∉ (leftOf es sn).toList := by
        have : leftOf es sn = #[] := Array.eq_empty_of_size_eq_zero h7
        rw [this]; simp
      simp only [leftOf, Array.mem_toList_iff, Array.mem_filter, Array.getElem_mem, true_and, Bool.not_eq_true', Bool.not_eq_false] at hel
      exact (stamp i _ (Array.getElem?_eq_getElem hi')).1 hel
    · simp only [leftOf, Array.mem_toList_iff, Array.mem_filter, Bool.not_eq_true'] at he
      obtain ⟨i, hi⟩ := Array.getElem?_of_mem he.1
      have hil : i < kvs.length := by rw [← h3.size]; exact (Array.getElem?_eq_some_iff.1 hi).1
      have hq := List.getElem?_eq_getElem hil
      have hns : i ∉ seen := fun hm => by
        have := (stamp i e hi).2 hm
        rw [he.2] at this
        cases this
      obtain ⟨k', hk1, hk2⟩ := h3.keys i e hi
      rw [hq] at hk1
      injection hk1 with hk1
      have hw1h : w1.heap = w.heap := by rcases hw1 with rfl | rfl <;> rfl
      have hblt : b < w.heap.size := (Array.getElem?_eq_some_iff.1 hb).1
      have hg : Only (fun k => b = k) w (ChangeMaps.setBlock w1 b (.mapIter (some r) since (sn.push e.born) since)) := by
        refine ⟨?_, ?_, ?_, by simp [ChangeMaps.setBlock, hw1h], fun k _ hn => by simp [ChangeMaps.setBlock, hw1h, Array.getElem?_setIfInBounds, hn]⟩ <;> rcases hw1 with rfl | rfl <;> rfl
      refine ⟨.tuple #[.bool true, e.key, e.val], _, setL L id (.one b), by simp [execOp, ho, hv, hrun]; rfl, .inr ⟨i, kvs[i], hq, hns, ?_⟩⟩
      have hrel := h.turnOne (ob' := .miter kvs (i :: seen)) hid hL hg (fun ok lo' L' x' v' a1 a2 hx' hr => by
        obtain ⟨rfl, b', hL', rfl⟩ := refs_miter hid hx' hr
        rw [hL] at hL'
        injection hL' with hL'
        subst hL'
        exact .oref id b _ a1 rfl a2) (fun ok lo' L' hok _ => by
        have hrne : r ≠ b := fun e => by rw [e, hb] at h2; cases h2
        refine ⟨hF, some r, since, sn.push e.born, by simp [ChangeMaps.setBlock, hw1h, hblt], es, (hok r h1 (Array.getElem?_eq_some_iff.1 h2).1).1, (hok r h1 (Array.getElem?_eq_some_iff.1 h2).1).2.trans h2, h3, fun i e p a1 a2 => (h4 i e p a1 a2).mono fun b' hb' hlt => hok b' hb' hlt, by simp [h5], fun j x hj => ?_⟩
        rw [List.reverse_cons, List.getElem?_append] at hj
        rw [Array.getElem?_push]
        split at hj
        · rename_i hjl
          rw [List.length_reverse] at hjl
          rw [if_neg (by omega)]
          exact h6 j x hj
        · rename_i hjl
          rw [List.length_reverse] at hjl hj
          have : j - seen.length = 0 := by
            rcases Nat.eq_zero_or_pos (j - seen.length) with h | h
            · exact h
            · rw [List.getElem?_eq_none (by simp; omega)] at hj; cases hj
          rw [this] at hj
          simp at hj
          subst hj
          exact ⟨e, hi, by rw [if_pos (by omega)]⟩)
      rw [hd]
      refine hrel.put (some d) (fun t ht => by injection ht with ht; omega) (.iv _ _ (.tup _ [_, _, _] rfl fun k x u hk hu => ?_))
      match k with
      | 0 => simp at hk hu; subst hk hu; exact .bool _
      | 1 => simp at hk hu; subst hk hu; rw [hk2, ← hk1]; exact rep_key _ _ _
      | 2 =>
        simp at hk hu
        subst hk hu
        refine (h4 i e kvs[i] hi hq).mono fun b' hb' hlt => ⟨h.okL_turn hid (fun k hk => .inl (by rw [hL]; exact hk)) hb' hlt, hg.block b' hlt fun e => ?_⟩
        subst e
        exact hb'.2 id _ hid (by rw [hL]; rfl)
      | k + 3 => simp at hk

theorem nxt_wp {ops : Array Oper} {d dx cid id : Nat} {x : Opd} {kvs : List (MK × IV)} {seen : List Nat} {Q : Exit → Act → World → Prop} (c : Ctx P K ok0 w0) (h : Rel ok0 N w0 lk lo a w L) (hf : nxtFits N d dx x ops = true) (hxv : x.av lk = .oref id) (hid : lo id = some (.miter kvs seen))
    (hend : (∀ i, i < kvs.length → i ∈ seen) → ∀ a' w' L', Rel ok0 N w0 (setK (setK lk (some d) (.iv (.tup [.bool false]))) (some dx) (.iv (.bool false))) lo a' w' L' → Q .normal a' w')
    (hmore : ∀ i q, kvs[i]? = some q → i ∉ seen → ∀ a' w' L', Rel ok0 N w0 (setK (setK lk (some d) (.iv (.tup [.bool true, q.1.iv, q.2]))) (some dx) (.iv (.bool true))) (setO lo id (.miter kvs (i :: seen))) a' w' L' → Q .normal a' w') :
    (Code.region cid ops false).wp P Q a w := by
  unfold nxtFits at hf
  split at hf
  · rename_i p q hops
    simp only [Bool.and_eq_true, beq_iff_eq, decide_eq_true_eq, Option.isNone_iff_eq_none] at hf
    obtain ⟨⟨⟨⟨⟨⟨⟨hpd, hqd⟩, hdN⟩, hdxN⟩, hpg⟩, hqg⟩, hp⟩, hq⟩ := hf
    have hops' : ops = #[p, q] := by rw [← Array.toList_inj]; exact hops
    subst hops'
    split at hp
    · rename_i y s hpo
      simp only [Bool.and_eq_true, Bool.not_eq_true'] at hp
      obtain ⟨hx, rfl⟩ := hp
      split at hq
      · rename_i m j hqo
        simp only [Bool.and_eq_true, beq_iff_eq] at hq
        obtain ⟨rfl, rfl⟩ := hq
        refine wp_region ?_
        have hr2 : List.range (#[p, q] : Array Oper).size = [0, 1] := rfl
        rw [hr2]
        obtain ⟨u, w1, L1, hrun, hor⟩ := next_step (P := P) h hpd hdN hpo hx hxv hid
        have w1t : Region.wanted p (yielded #[p, q] a.tmps) = true := by simp [Region.wanted, hpg]
        have e1 : ∀ (C : Act → World → Prop) (Q : Exit → Act → World → Prop), p.wp P a w C Q = C (a.put p.dst u) w1 := by
          intro C Q
          unfold Oper.wp
          rw [hrun]
          rfl
        simp only [wpOps, List.getElem?_toArray, List.getElem?_cons_zero, w1t, if_true]
        refine .inl ?_
        rw [e1]
        have w2t : Region.wanted q (yielded #[p, q] (a.put p.dst u).tmps) = true := by simp [Region.wanted, hqg]
        simp only [List.getElem?_cons_succ, List.getElem?_cons_zero, w2t, if_true]
        refine .inl ?_
        have ext : ∀ (lk1 : Nat → AV) (lo1 : Nat → Option AO) (cs : List IV) (bv : Bool) (Q : Exit → Act → World → Prop), Rel ok0 N w0 (setK lk1 (some m) (.iv (.tup (.bool bv :: cs)))) lo1 (a.put p.dst u) w1 L1 →
            (∀ a' w' L', Rel ok0 N w0 (setK (setK lk1 (some m) (.iv (.tup (.bool bv :: cs)))) (some dx) (.iv (.bool bv))) lo1 a' w' L' → Q .normal a' w') →
            q.wp P (a.put p.dst u) w1 (fun a' w' => Q .normal a' w') Q := by
          intro lk1 lo1 cs bv Q hr hQ
          exact gives_wp (A := ⟨some dx, none, .ext (.t m) 0⟩) (σ := ⟨setK lk1 (some m) (.iv (.tup (.bool bv :: cs))), lo1⟩) (v := .iv (.bool bv)) (up := none) c hr (by simp [dstFits, hqd, hdxN]) (by simp [AOp.fits, hqo, fExt, Opd.is, Opd.isTmp])
            (.plain _ _ True True _ _ (by simp [ev, Opd.av, setK, evExt]) trivial) (fun a' w' L' h => hQ a' w' L' h)
        rcases hor with ⟨hall, hr⟩ | ⟨i, kv, hi, hns, hr⟩
        · exact ext _ _ _ _ Q hr (hend hall)
        · exact ext _ _ _ _ Q hr (hmore i kv hi hns)
      · cases hq
    · cases hp
  · cases hf

/-- A variable's slice that is nil becomes a row of its own. -/
theorem gh_rel {id bid off : Nat} {e : TypeId} {sz : Nat} {cs : List AV} (h : Rel ok0 N w0 lk lo a w L) (hid : lo id = none) (hb : lo bid = some (.box cs)) (hc : cs[off]? = some (.nilr sz)) :
    ∃ L', Rel ok0 N w0 lk (setO (setO lo id (.arr e sz [] 0)) bid (.box (cs.set off (.aref id 0)))) a w L' := by
  have hne : bid ≠ id := fun e => by rw [e, hid] at hb; cases hb
  have h1 := h.new id hid (.arr e sz [] 0) (.arr (.slice none 0 0) []) (Below.refl _ w) (fun b hb => by simp [Lay.has, Value.ownBlock] at hb)
    ⟨⟨⟨by simp, .inl ⟨rfl, rfl⟩⟩, fun b hb => by simp [Value.ownBlock] at hb⟩, Nat.le_refl _, by simp, by simp, by simp⟩
  have hb1 : setO lo id (.arr e sz [] 0) bid = some (.box cs) := by simp [setO, hne, hb]
  have hob := h1.objs _ _ hb1
  have hok : ∀ k, okL ok0 (setO lo id (.arr e sz [] 0)) (setL L id (.arr (.slice none 0 0) [])) k → k < w.heap.size → okL ok0 (setO (setO lo id (.arr e sz [] 0)) bid (.box (cs.set off (.aref id 0)))) (setL (setL L id (.arr (.slice none 0 0) [])) bid (setL L id (.arr (.slice none 0 0) []) bid)) k :=
    fun k hk hlt => h1.okL_turn hb1 (fun b hb => .inl hb) hk hlt
  refine ⟨_, h1.turn (o' := .box (cs.set off (.aref id 0))) (l' := setL L id (.arr (.slice none 0 0) []) bid) bid hb1 ⟨rfl, rfl, rfl, Nat.le_refl _, fun _ _ _ => rfl⟩ (fun b hb => .inl hb) (fun z u hz hu => ?_) (fun all => ?_)⟩
  · cases hu with
    | iv => simp [AV.refs] at hz
    | agg => simp [AV.refs] at hz
    | nilr => simp [AV.refs] at hz
    | loc jj off cs2 b ho' hL' =>
      have : jj = bid := by simpa [AV.refs] using hz
      subst this
      exact .loc jj _ _ b (by simp [setO]; rfl) (by simp only [setL, if_true]; exact hL')
    | aref jj e2 sz2 es2 mv2 v2 xs2 ho' hL' =>
      have : jj = bid := by simpa [AV.refs] using hz
      subst this; rw [hb1] at ho'; cases ho'
    | old jj n' e2 sz2 es2 mv2 v2 v2' xs2 ho' hL' =>
      have : jj = bid := by simpa [AV.refs] using hz
      subst this; rw [hb1] at ho'; cases ho'
    | eloc jj n' i' off' e2 sz2 es2 mv2 v2 xs2 b2 ho' hL' =>
      have : jj = bid := by simpa [AV.refs] using hz
      subst this; rw [hb1] at ho'; cases ho'
    | mref jj k2 n2 e2 sz2 kvs2 pend2 b2 vals2 v2 ho' hL' =>
      have : jj = bid := by simpa [AV.refs] using hz
      subst this; rw [hb1] at ho'; cases ho'
    | oref jj b2 o2 ho' hn' hL' =>
      have : jj = bid := by simpa [AV.refs] using hz
      subst this; rw [hb1] at ho'; injection ho' with ho'; subst ho'; cases hn'
    | omap jj b2 kvs2 ho' hL' =>
      have : jj = bid := by simpa [AV.refs] using hz
      subst this; rw [hb1] at ho'; cases ho'
    | orow jj b2 e2 sz2 kvs2 pend2 vals2 ho' hL' =>
      have : jj = bid := by simpa [AV.refs] using hz
      subst this; rw [hb1] at ho'; cases ho'
    | obytes jj b2 cap2 s2 ho' hL' =>
      have : jj = bid := by simpa [AV.refs] using hz
      subst this; rw [hb1] at ho'; cases ho'
    | belem jj j2 b2 s2 ho' hL' hi' =>
      have : jj = bid := by simpa [AV.refs] using hz
      subst this; rw [hb1] at ho'; cases ho'
  · revert hob all
    generalize setL L id (.arr (.slice none 0 0) []) bid = l
    intro hob all
    cases l with
    | box b =>
      obtain ⟨hB, t, vs, hbk, hl, h1', hx⟩ := hob
      refine ⟨hB, t, vs, hbk, by rw [List.length_set]; exact hl, h1', fun k x u hk hu => ?_⟩
      rw [List.getElem?_set] at hk
      split at hk
      · rename_i hko
        subst hko
        have hk' : x = .aref id 0 := by
          split at hk
          · injection hk with hk; exact hk.symm
          · cases hk
        subst hk'
        have hu' : u = .slice none 0 0 := by
          have := hx off _ u hc hu
          cases this
          rfl
        subst hu'
        exact .aref id e sz [] 0 (.slice none 0 0) [] (by simp [setO, Ne.symm hne]) (by simp [setL, Ne.symm hne]) rfl
      · exact all _ _ (hx k x u hk hu)
    | _ => exact hob.elim
end
end Go.Ev

/- Runs of a whole body, and what a caller may take of the function. -/
namespace Go.Ev
open Go Go.RowKit

inductive AC where
  | skip
  | ops (l : List AOper) (draw : Bool)
  | seq (x y : AC)
  | cond (c : Opd) (x y : AC)
  | block (id : Nat) (c : AC)
  | loop (c : AC) (ks ids : List Nat)
  | exit (id : Nat)
  | scope (c : AC)
  | label (l : Nat)
  | ret
  | nxt (d dx : Nat) (x : Opd) (id : Nat)
  | gh (id bid off : Nat) (e : TypeId) (sz : Nat) (c : AC)
  deriving Inhabited

inductive AI where
  | code (c : AC)
  | inBlock (id : Nat)
  | inLoop (c : AC) (ks ids : List Nat)
  | inScope

inductive ARes where
  | tmp (t : Nat)
  | cell (t n : Nat) (ag : Bool)

def codeFits (P : Program) (N : Nat) : AC → Code → Bool
  | .gh _ _ _ _ _ c, c' => codeFits P N c c'
  | .nxt d dx x _, .region _ ops d' => !d' && nxtFits N d dx x ops
  | .skip, .skip => true
  | .ops l d, .region _ ops d' => d == d' && regionFits P N l ops d
  | .seq x y, .seq x' y' => codeFits P N x x' && codeFits P N y y'
  | .cond c x y, .cond c' x' y' => c.is c' && codeFits P N x x' && codeFits P N y y'
  | .block id c, .block id' c' => id == id' && codeFits P N c c'
  | .loop c _ _, .loop c' => codeFits P N c c'
  | .exit id, .exit id' => id == id'
  | .scope c, .scope c' => codeFits P N c c'
  | .label l, .label l' => l == l'
  | .ret, .ret => true
  | _, _ => false

def exitA (id : Nat) : List AI → Option (List AI)
  | .inBlock id' :: k => if id' == id then some k else exitA id k
  | _ :: k => exitA id k
  | [] => none

mutual
/-- A value without what leads to objects that are given up. -/
def scr (ids : List Nat) : AV → AV
  | .iv x => .iv x
  | .agg cs => .agg (scrL ids cs)
  | .loc id off => if ids.contains id then .loc id off else .iv .any
  | .eloc id n i off => if ids.contains id then .eloc id n i off else .iv .any
  | .mref id k n => if ids.contains id then .mref id k n else .iv .any
  | .nilr sz => .nilr sz
  | .oref id => if ids.contains id then .oref id else .iv .any
  | .belem id i => if ids.contains id then .belem id i else .iv .any
  | .aref id n => if ids.contains id then .aref id n else .iv .any
def scrL (ids : List Nat) : List AV → List AV
  | [] => []
  | x :: r => scr ids x :: scrL ids r
end

def scrO (ids : List Nat) : AO → AO
  | .box cs => .box (scrL ids cs)
  | .arr e sz es mv => .arr e sz (es.map (scrL ids)) mv
  | .mapd kvs => .mapd kvs
  | .mapr e sz kvs pend => .mapr e sz kvs pend
  | .siter s pos => .siter s pos
  | .miter kvs seen => .miter kvs seen
  | .bytes s => .bytes s

def keepE (ks ids : List Nat) (e : Env) : Env := ks.map fun t => (t, scr ids (look e t))

def keepO (all : List Nat) (o : Objs) : List Nat → Objs
  | [] => []
  | id :: r => match lookO o id with
    | some x => (id, scrO all x) :: keepO all o r
    | none => keepO all o r

def resV (e : Env) (o : Objs) : ARes → Option IV
  | .tmp t => imm (lookO o) 40 (look e t)
  | .cell t n ag => match look e t with
    | .loc id off => match lookO o id with
      | some (.box cs) => match ag with
        | true => if off + n ≤ cs.length then (imms (lookO o) 40 ((cs.drop off).take n)).map .agg else none
        | false => if n = 1 then (cs[off]?).bind (imm (lookO o) 40) else none
      | _ => none
    | _ => none

def resVs (e : Env) (o : Objs) : List ARes → Option (List IV)
  | [] => some []
  | x :: r => match resV e o x, resVs e o r with
    | some y, some ys => some (y :: ys)
    | _, _ => none

def retV (res : List ARes) (e : Env) (o : Objs) : Option IV :=
  match resVs e o res with
  | some [x] => some x
  | some xs => some (.tup xs)
  | none => none

def resFits (P : Program) : List ARes → List ResultVar → Bool
  | [], [] => true
  | .tmp t :: r, .tmp t' :: s => t == t' && resFits P r s
  | .cell t n ag :: r, .cell t' T :: s => t == t' && Program.agg P T == some ag && Program.sizeIs P T n && resFits P r s
  | _, _ => false

/-- The run comes to the function's end, as F asks. -/
inductive WpF (P : Program) (K : World → Prop) (F : Env → Objs → Prop) : List AI → Env → Objs → Prop
  | skip (k : List AI) (e : Env) (o : Objs) (h : WpF P K F k e o) : WpF P K F (.code .skip :: k) e o
  | region (l : List AOper) (draw : Bool) (k : List AI) (e : Env) (o : Objs) (C : Env → Objs → Prop) (h : runOps P K C l e o) (hC : ∀ e o, C e o → WpF P K F k e o) : WpF P K F (.code (.ops l draw) :: k) e o
  | seq (x y : AC) (k : List AI) (e : Env) (o : Objs) (h : WpF P K F (.code x :: .code y :: k) e o) : WpF P K F (.code (.seq x y) :: k) e o
  | cond (c : Opd) (x y : AC) (k : List AI) (e : Env) (o : Objs) (b : Bool) (hc : c.av (look e) = .iv (.bool b)) (ht : b = true → WpF P K F (.code x :: k) e o) (hf : b = false → WpF P K F (.code y :: k) e o) :
      WpF P K F (.code (.cond c x y) :: k) e o
  | block (id : Nat) (c : AC) (k : List AI) (e : Env) (o : Objs) (h : WpF P K F (.code c :: .inBlock id :: k) e o) : WpF P K F (.code (.block id c) :: k) e o
  | inBlock (id : Nat) (k : List AI) (e : Env) (o : Objs) (h : WpF P K F k e o) : WpF P K F (.inBlock id :: k) e o
  | loop (c : AC) (ks ids : List Nat) (k : List AI) (e : Env) (o : Objs) (h : WpF P K F (.code c :: .inLoop c ks ids :: k) (keepE ks ids e) (keepO ids o ids)) : WpF P K F (.code (.loop c ks ids) :: k) e o
  | inLoop (c : AC) (ks ids : List Nat) (k : List AI) (e : Env) (o : Objs) (h : WpF P K F (.code c :: .inLoop c ks ids :: k) (keepE ks ids e) (keepO ids o ids)) : WpF P K F (.inLoop c ks ids :: k) e o
  | scope (c : AC) (k : List AI) (e : Env) (o : Objs) (h : WpF P K F (.code c :: .inScope :: k) e o) : WpF P K F (.code (.scope c) :: k) e o
  | inScope (k : List AI) (e : Env) (o : Objs) (h : WpF P K F k e o) : WpF P K F (.inScope :: k) e o
  | label (l : Nat) (k : List AI) (e : Env) (o : Objs) (h : WpF P K F k e o) : WpF P K F (.code (.label l) :: k) e o
  | exit (id : Nat) (k k' : List AI) (e : Env) (o : Objs) (hk : exitA id k = some k') (h : WpF P K F k' e o) : WpF P K F (.code (.exit id) :: k) e o
  | nxt (d dx : Nat) (x : Opd) (id : Nat) (k : List AI) (e : Env) (o : Objs) (kvs : List (MK × IV)) (seen : List Nat) (hx : x.av (look e) = .oref id) (ho : lookO o id = some (.miter kvs seen))
      (hend : (∀ i, i < kvs.length → i ∈ seen) → WpF P K F k (bnd (some dx) (.iv (.bool false)) (bnd (some d) (.iv (.tup [.bool false])) e)) o)
      (hmore : ∀ i q, kvs[i]? = some q → i ∉ seen → WpF P K F k (bnd (some dx) (.iv (.bool true)) (bnd (some d) (.iv (.tup [.bool true, q.1.iv, q.2])) e)) (setOL id (.miter kvs (i :: seen)) o)) : WpF P K F (.code (.nxt d dx x id) :: k) e o
  | gh (id bid off : Nat) (t : TypeId) (sz : Nat) (c : AC) (k : List AI) (e : Env) (o : Objs) (cs : List AV) (hid : lookO o id = none) (hb : lookO o bid = some (.box cs)) (hc : cs[off]? = some (.nilr sz))
      (h : WpF P K F (.code c :: k) e (setOL bid (.box (cs.set off (.aref id 0))) (setOL id (.arr t sz [] 0) o))) : WpF P K F (.code (.gh id bid off t sz c) :: k) e o
  | ret (k : List AI) (e : Env) (o : Objs) (h : F e o) : WpF P K F (.code .ret :: k) e o
  | done (e : Env) (o : Objs) (h : F e o) : WpF P K F [] e o

/-- The run returns 'r'. -/
def RetIs (res : List ARes) (r : IV) (e : Env) (o : Objs) : Prop := retV res e o = some r

/-- The rest of the run, as the machine holds it. -/
inductive Fit (P : Program) (N : Nat) : List AI → List Item → Prop
  | nil : Fit P N [] []
  | code (c : AC) (c' : Code) (k : List AI) (k' : List Item) (h : codeFits P N c c' = true) (hk : Fit P N k k') : Fit P N (.code c :: k) (.code c' :: k')
  | inBlock (id : Nat) (k : List AI) (k' : List Item) (hk : Fit P N k k') : Fit P N (.inBlock id :: k) (.inBlock id :: k')
  | inScope (c' : Code) (k : List AI) (k' : List Item) (hk : Fit P N k k') : Fit P N (.inScope :: k) (.inScope c' :: k')
  | inLoop (c : AC) (c' : Code) (ks ids : List Nat) (k : List AI) (k' : List Item) (h : codeFits P N c c' = true) (hk : Fit P N k k') : Fit P N (.inLoop c ks ids :: k) (.inLoop c' :: k')

theorem Fit.exit {P : Program} {N : Nat} {id : Nat} {k : List AI} {k' : List Item} (h : Fit P N k k') : ∀ {j : List AI}, exitA id k = some j → ∃ j', exitTo id k' = some j' ∧ Fit P N j j' := by
  induction h with
  | nil => intro j hj; simp [exitA] at hj
  | code c c' k k' h hk ih => intro j hj; simp only [exitA] at hj; simp only [exitTo]; exact ih hj
  | inBlock id' k k' hk ih =>
    intro j hj
    simp only [exitA] at hj
    simp only [exitTo]
    split at hj
    · rename_i hid
      injection hj with hj
      subst hj
      exact ⟨k', by rw [if_pos hid], hk⟩
    · rename_i hid
      obtain ⟨j', h1, h2⟩ := ih hj
      exact ⟨j', by rw [if_neg hid]; exact h1, h2⟩
  | inScope c' k k' hk ih => intro j hj; simp only [exitA] at hj; simp only [exitTo]; exact ih hj
  | inLoop c c' ks ids k k' h hk ih => intro j hj; simp only [exitA] at hj; simp only [exitTo]; exact ih hj

/-- The machine comes to the function's end, with its result. -/
def Reach (P : Program) (f : FuncId) (cs : List Frame) (m : Machine) (R : Value → World → Prop) : Prop :=
  ∃ w' fr v, Steps P m (lone fr cs w') ∧ fr.fn = f ∧ fr.leaving P w' (.returned v) ∧ R v w'

theorem Reach.steps {P : Program} {f : FuncId} {cs : List Frame} {m m' : Machine} {R : Value → World → Prop} (h : Steps P m m') (hr : Reach P f cs m' R) : Reach P f cs m R :=
  let ⟨w', fr, v, h1, h2⟩ := hr
  ⟨w', fr, v, h.trans h1, h2⟩

section
variable {P : Program} {K : World → Prop} {ok0 : Nat → Prop} {N : Nat} {w0 : Base} {a : Act} {w : World} {L : Nat → Lay}

mutual
theorem scr_rep {ok ok' : Nat → Prop} {lo lo' : Nat → Option AO} {ids : List Nat} (hok : ∀ b, ok b → ok' b) (hlo : ∀ id o, ids.contains id = true → lo id = some o → lo' id = some (scrO ids o)) :
    ∀ {x : AV} {v : Value}, RepA ok w lo L x v → RepA ok' w lo' L (scr ids x) v
  | .iv x, v, h => by
    cases h with
    | iv _ _ r => exact .iv _ _ (r.mono fun b hb _ => ⟨hok b hb, rfl⟩)
  | .agg cs, v, h => by
    cases h with
    | agg _ vs hl h1 hx =>
      simp only [scr]
      obtain ⟨h2, h3⟩ := scrL_rep hok hlo hl hx
      exact .agg _ vs h2 h1 h3
  | .loc id off, v, h => by
    cases h with
    | loc _ _ cs b ho hL =>
      simp only [scr]
      split
      · rename_i hc
        exact .loc id off (scrL ids cs) b (hlo id _ hc ho) hL
      · exact .iv _ _ (.any _)
  | .aref id n, v, h => by
    simp only [scr]
    split
    · rename_i hc
      generalize hq : AV.aref id n = q at h
      cases h with
      | iv => cases hq
      | agg => cases hq
      | loc => cases hq
      | eloc => cases hq
      | nilr => cases hq
      | mref => cases hq
      | oref => cases hq
      | omap => cases hq
      | orow => cases hq
      | obytes => cases hq
      | belem => cases hq
      | aref i2 e2 sz2 es2 mv2 v2 xs hob2 hL hsl =>
        injection hq with hq1 hq2
        subst hq1 hq2
        have := RepA.aref (ok := ok') (w := w) id e2 sz2 (es2.map (scrL ids)) mv2 v xs (hlo id _ hc hob2) hL hsl
        rwa [List.length_map] at this
      | old i2 n2 e2 sz2 es2 mv2 v2 _ xs hob2 hL hsl hn2 hv =>
        injection hq with hq1 hq2
        subst hq1 hq2
        refine .old id n e2 sz2 (es2.map (scrL ids)) mv2 v2 v xs (hlo id _ hc hob2) hL hsl (by simpa using hn2) fun hm => ?_
        rcases hv hm with h | ⟨b, cap, h1, h2, h3, h4⟩
        · exact .inl h
        · exact .inr ⟨b, cap, h1, h2, h3, fun k hk => ⟨(h4 k hk).1.imp (hok b) (fun h => h), (h4 k hk).2⟩⟩
    · exact .iv _ _ (.any _)
  | .eloc id n i off, v, h => by
    simp only [scr]
    split
    · rename_i hc
      cases h with
      | eloc _ _ _ _ e2 sz2 es2 mv2 v2 xs b hob2 hL hn2 hv =>
        refine .eloc id n i off e2 sz2 (es2.map (scrL ids)) mv2 v2 xs b (hlo id _ hc hob2) hL (by simpa using hn2) fun hm => ?_
        obtain ⟨h1, h2, h3⟩ := hv hm
        exact ⟨h1, fun e => h2 (by simpa using e), fun k hk => ⟨(h3 k hk).1.imp (hok b) (fun h => h), (h3 k hk).2⟩⟩
    · exact .iv _ _ (.any _)
  | .nilr sz, v, h => by
    cases h with
    | nilr => exact .nilr sz
  | .mref id k n, v, h => by
    simp only [scr]
    split
    · rename_i hc
      cases h with
      | mref _ _ _ e2 sz2 kvs pend b vals _ ho hL hs hnn hv => exact .mref id k n e2 sz2 kvs pend b vals v (hlo id _ hc ho) hL hs hnn hv
    · exact .iv _ _ (.any _)
  | .oref id, v, h => by
    simp only [scr]
    split
    · rename_i hc
      cases h with
      | oref _ b ob ho hn hL => exact .oref id b _ (hlo id _ hc ho) (by cases ob <;> first | exact hn | cases hn) hL
      | omap _ b kvs ho hL => exact .omap id b kvs (hlo id _ hc ho) hL
      | orow _ b e2 sz2 kvs pend vals ho hL => exact .orow id b e2 sz2 kvs pend vals (hlo id _ hc ho) hL
      | obytes _ b cap s ho hL => exact .obytes id b cap s (hlo id _ hc ho) hL
    · exact .iv _ _ (.any _)
  | .belem id i, v, h => by
    simp only [scr]
    split
    · rename_i hc
      cases h with
      | belem _ _ b s ho hL hi => exact .belem id i b s (hlo id _ hc ho) hL hi
    · exact .iv _ _ (.any _)
theorem scrL_rep {ok ok' : Nat → Prop} {lo lo' : Nat → Option AO} {ids : List Nat} (hok : ∀ b, ok b → ok' b) (hlo : ∀ id o, ids.contains id = true → lo id = some o → lo' id = some (scrO ids o)) :
    ∀ {cs : List AV} {vs : List Value}, vs.length = cs.length → (∀ (k : Nat) (x : AV) (u : Value), cs[k]? = some x → vs[k]? = some u → RepA ok w lo L x u) →
      vs.length = (scrL ids cs).length ∧ ∀ (k : Nat) (x : AV) (u : Value), (scrL ids cs)[k]? = some x → vs[k]? = some u → RepA ok' w lo' L x u
  | [], vs, hl, _ => ⟨by simpa [scrL] using hl, by simp [scrL]⟩
  | x :: r, [], hl, _ => by simp at hl
  | x :: r, v :: vs, hl, hx => by
    obtain ⟨h1, h2⟩ := scrL_rep hok hlo (cs := r) (vs := vs) (by simpa using hl) (fun k y u hy hu => hx (k + 1) y u (by simpa using hy) (by simpa using hu))
    refine ⟨by simp [scrL, h1], fun k y u hy hu => ?_⟩
    cases k with
    | zero =>
      simp [scrL] at hy hu
      subst hy hu
      exact scr_rep hok hlo (hx 0 x v (by simp) (by simp))
    | succ k => exact h2 k y u (by simpa [scrL] using hy) (by simpa using hu)
end

theorem scrL_len (ids : List Nat) : ∀ cs : List AV, (scrL ids cs).length = cs.length
  | [] => rfl
  | x :: r => by simp [scrL, scrL_len ids r]

theorem look_keepE (ids : List Nat) (e : Env) : ∀ (ks : List Nat) (t : Nat), look (keepE ks ids e) t = .iv .any ∨ look (keepE ks ids e) t = scr ids (look e t)
  | [], t => .inl rfl
  | k :: r, t => by
    simp only [keepE, List.map_cons, look]
    split
    · rename_i h; subst h; exact .inr rfl
    · exact look_keepE ids e r t

theorem lookO_keepO (all : List Nat) (o : Objs) : ∀ (l : List Nat) (id : Nat), lookO (keepO all o l) id = if l.contains id then (lookO o id).map (scrO all) else none
  | [], id => by simp [keepO, lookO]
  | i :: r, id => by
    simp only [keepO]
    split
    · rename_i x hx
      simp only [lookO, lookO_keepO all o r id]
      by_cases h : id = i
      · subst h; simp [hx]
      · simp [h]
    · rename_i hx
      rw [lookO_keepO all o r id]
      by_cases h : id = i
      · subst h; simp [hx]
      · simp [h]

theorem Rel.keep {e : Env} {o : Objs} (h : Rel ok0 N w0 (look e) (lookO o) a w L) (ks ids : List Nat) : Rel ok0 N w0 (look (keepE ks ids e)) (lookO (keepO ids o ids)) a w L := by
  have hlo : ∀ id ob, ids.contains id = true → lookO o id = some ob → lookO (keepO ids o ids) id = some (scrO ids ob) := by
    intro id ob hc hob
    rw [lookO_keepO, if_pos hc, hob]; rfl
  have hinv : ∀ id ob, lookO (keepO ids o ids) id = some ob → ∃ ob0, lookO o id = some ob0 ∧ ob = scrO ids ob0 := by
    intro id ob hob
    rw [lookO_keepO] at hob
    split at hob
    · cases hq : lookO o id with
      | none => simp [hq] at hob
      | some q => simp [hq] at hob; exact ⟨q, rfl, hob.symm⟩
    · cases hob
  have hok : ∀ b, okL ok0 (lookO o) L b → okL ok0 (lookO (keepO ids o ids)) L b := fun b hb =>
    ⟨hb.1, fun id ob hob => by obtain ⟨q, hq, _⟩ := hinv id ob hob; exact hb.2 id q hq⟩
  refine ⟨h.below, h.defers, h.size, fun t => ?_, fun id ob hob => ?_, fun i j oi oj b hij hi hj => ?_⟩
  · rcases look_keepE ids e ks t with hq | hq
    · rw [hq]; exact .iv _ _ (.any _)
    · rw [hq]; exact scr_rep hok hlo (h.env t)
  · obtain ⟨q, hq, rfl⟩ := hinv id ob hob
    have := h.objs id q hq
    revert this
    generalize L id = l
    intro this
    have dat : q.data = true → scrO ids q = q → ObjRep w0.fr (okL ok0 (lookO (keepO ids o ids)) L) w (lookO (keepO ids o ids)) L (scrO ids q) l := fun hd he => by
      rw [he]
      exact this.stay (fun _ _ _ => rfl) (fun b hb _ => ⟨hok b hb, rfl⟩) (fun hf => by rw [hd] at hf; cases hf)
    cases q with
    | mapd kvs => exact dat rfl rfl
    | mapr e sz kvs pend => exact dat rfl rfl
    | siter s pos => exact dat rfl rfl
    | miter kvs seen => exact dat rfl rfl
    | bytes s => exact dat rfl rfl
    | box cs =>
      cases l with
      | arr v xs => exact this
      | one b => exact this
      | map b vals => exact this
      | box b =>
        obtain ⟨hB, t, vs, hb, hl, h1, hx⟩ := this
        obtain ⟨h2, h3⟩ := scrL_rep hok hlo hl hx
        exact ⟨hB, t, vs, hb, h2, h1, h3⟩
    | arr e sz es mv =>
      cases l with
      | box b => exact this
      | one b => exact this
      | map b vals => exact this
      | arr v xs =>
        obtain ⟨hown, hm, hs, h1, hx⟩ := this
        refine ⟨by rw [List.length_map]; exact hown, by rw [List.length_map]; exact hm, fun c hc => ?_, h1, fun i j c x u hi hj hu => ?_⟩
        · obtain ⟨d, hd, rfl⟩ := List.mem_map.1 hc
          rw [scrL_len]; exact hs d hd
        · rw [List.getElem?_map, Option.map_eq_some_iff] at hi
          obtain ⟨d, hd, rfl⟩ := hi
          have hjl : j < d.length := by rw [← scrL_len ids]; exact (List.getElem?_eq_some_iff.1 hj).1
          have hds : d.length = sz := hs d (List.mem_of_getElem? hd)
          have hil : i < es.length := (List.getElem?_eq_some_iff.1 hd).1
          -- the cells of this element
          have hvl : ((xs.drop (i * sz)).take sz).length = d.length := by
            have hxl : xs.length = es.length * sz := hown.own.1
            have : (i + 1) * sz ≤ es.length * sz := Nat.mul_le_mul_right sz hil
            rw [Nat.add_mul] at this
            simp; omega
          obtain ⟨_, h3⟩ := scrL_rep (cs := d) (vs := (xs.drop (i * sz)).take sz) hok hlo hvl (fun k y u' hy hu' => by
            rw [List.getElem?_take] at hu'
            split at hu'
            · rw [List.getElem?_drop] at hu'
              exact hx i k d y u' hd hy hu'
            · cases hu')
          refine h3 j x u hj ?_
          rw [List.getElem?_take, if_pos (by omega), List.getElem?_drop]
          exact hu
  · obtain ⟨p, hp, _⟩ := hinv i oi hi
    obtain ⟨q, hq, _⟩ := hinv j oj hj
    exact h.apart i j p q b hij hp hq

end
end Go.Ev

/- Soundness: a run of the evaluator over a function's body shows what a call of the function returns. -/
namespace Go.Ev
open Go Go.RowKit

section
variable {P : Program} {K : World → Prop} {ok0 : Nat → Prop} {N : Nat} {w0 : Base} {a : Act} {w : World} {L : Nat → Lay} {e : Env} {o : Objs}

def resRun (tmps : Array Value) : ResultVar → Sem Value
  | .tmp t => pure (tmps.getD t undef)
  | .cell a t => do loadVar t (← asAddr (tmps.getD a undef))

theorem resV_run (h : Rel ok0 N w0 (look e) (lookO o) a w L) (hok0 : ∀ b, ¬ w0.fr b → ok0 b) {x : ARes} {rs : ResultVar} {y : IV}
    (hf : resFits P [x] [rs] = true) (hv : resV e o x = some y) : ∃ v, (resRun a.tmps rs).run P w = .ok v w ∧ RepI ok0 w y v := by
  have isound := imm_sound h hok0 (lo' := lookO o) (fun _ _ h => h) 40
  cases x with
  | tmp t =>
    cases rs with
    | cell => simp [resFits] at hf
    | tmp t' =>
      simp only [resFits, Bool.and_true, beq_iff_eq] at hf
      subst hf
      exact ⟨a.tmps.getD t undef, rfl, isound.1 _ _ y (h.env t) hv⟩
  | cell t n ag =>
    cases rs with
    | tmp => simp [resFits] at hf
    | cell t' T =>
      simp only [resFits, Bool.and_true, Bool.and_eq_true, beq_iff_eq] at hf
      obtain ⟨⟨rfl, hag⟩, hn⟩ := hf
      simp only [resV] at hv
      have het := h.env t
      generalize look e t = xv at hv het
      split at hv
      · rename_i id off
        split at hv
        · rename_i cs hcs
          have hob := h.objs _ _ hcs
          generalize hpv : a.tmps.getD t undef = pv at het
          cases het with
          | loc _ _ cs' b hob' hL =>
            rw [hcs] at hob'
            injection hob' with hob'
            injection hob' with hob'
            subst hob'
            rw [hL] at hob
            obtain ⟨hB, ty, vs, hb, hl, h1, hxx⟩ := hob
            have cell : ∀ (k : Nat) (u : Value), (vs.drop off)[k]? = some u → w.cell? ⟨b, off + k, none⟩ = some u := by
              intro k u hu
              rw [cell_of_row w b (off + k) _ ty (0, 0) hb]
              simpa [List.getElem?_drop] using hu
            split at hv
            · split at hv
              · rename_i hfit
                simp only [Option.map_eq_some_iff] at hv
                obtain ⟨ys, hys, rfl⟩ := hv
                obtain ⟨hyl, hyx⟩ := isound.2 _ ys hys
                have hlen : ((vs.drop off).take n).length = n := by simp; omega
                have hload := run_loadVar (w := w) hag hn b off ((vs.drop off).take n) hlen (by simp) (fun k u hu => cell k u (by
                  rw [List.getElem?_take] at hu; split at hu <;> first | exact hu | cases hu))
                refine ⟨.agg ((vs.drop off).take n).toArray, ?_, .agg ys _ ?_ (fun u hu => h1 u (List.mem_of_mem_drop (List.mem_of_mem_take hu))) (fun k y u hy hu => ?_)⟩
                · simp [resRun, hpv, asAddr, hload]
                · rw [hlen, hyl]; simp; omega
                · have hk : k < ((cs.drop off).take n).length := by rw [← hyl]; exact (List.getElem?_eq_some_iff.1 hy).1
                  have hck := List.getElem?_eq_getElem hk
                  refine hyx k _ y u hck hy ?_
                  rw [List.getElem?_take] at hck hu
                  split at hck
                  · rename_i hkn
                    rw [if_pos hkn] at hu
                    rw [List.getElem?_drop] at hck hu
                    exact hxx _ _ u hck hu
                  · cases hck
              · cases hv
            · split at hv
              · rename_i hn1
                subst hn1
                simp only [Option.bind_eq_some_iff] at hv
                obtain ⟨c, hc, hy⟩ := hv
                have hlt : off < vs.length := by rw [hl]; exact (List.getElem?_eq_some_iff.1 hc).1
                have hload := run_loadVar (w := w) hag hn b off [vs[off]] rfl (by simp) (fun k u hu => by
                  cases k with
                  | zero => simp at hu; subst hu; exact cell 0 _ (by simp [List.getElem?_drop, hlt])
                  | succ k => simp at hu)
                refine ⟨vs[off], ?_, isound.1 _ _ y (hxx off c _ hc (List.getElem?_eq_getElem hlt)) hy⟩
                simp [resRun, hpv, asAddr, hload]
              · cases hv
        · cases hv
      · cases hv

theorem resFits_cons {x : ARes} {r : List ARes} {rs : ResultVar} {s : List ResultVar} (h : resFits P (x :: r) (rs :: s) = true) : resFits P [x] [rs] = true ∧ resFits P r s = true := by
  cases x <;> cases rs <;> simp_all [resFits]

theorem resVs_run (h : Rel ok0 N w0 (look e) (lookO o) a w L) (hok0 : ∀ b, ¬ w0.fr b → ok0 b) : ∀ {res : List ARes} {rs : List ResultVar} {ys : List IV},
    resFits P res rs = true → resVs e o res = some ys → ∃ vs, (rs.mapM (resRun a.tmps)).run P w = .ok vs w ∧ vs.length = ys.length ∧
      ∀ (k : Nat) (y : IV) (v : Value), ys[k]? = some y → vs[k]? = some v → RepI ok0 w y v
  | [], [], ys, _, hv => by
    simp only [resVs, Option.some.injEq] at hv
    subst hv
    exact ⟨[], by simp, rfl, by simp⟩
  | x :: r, rs :: s, ys, hf, hv => by
    obtain ⟨h1, h2⟩ := resFits_cons hf
    simp only [resVs] at hv
    split at hv
    · rename_i y ys' hy hys
      injection hv with hv
      subst hv
      obtain ⟨v, hr, hrep⟩ := resV_run h hok0 h1 hy
      obtain ⟨vs, hrs, hl, hreps⟩ := resVs_run h hok0 h2 hys
      refine ⟨v :: vs, by simp [List.mapM_cons, hr, hrs], by simp [hl], fun k z u hz hu => ?_⟩
      cases k with
      | zero => simp at hz hu; subst hz hu; exact hrep
      | succ k => exact hreps k z u (by simpa using hz) (by simpa using hu)
    · cases hv
  | [], _ :: _, ys, hf, _ => by simp [resFits] at hf
  | x :: _, [], ys, hf, _ => by cases x <;> simp [resFits] at hf

theorem results_run {fn : Func} {res : List ARes} {r : IV} (h : Rel ok0 N w0 (look e) (lookO o) a w L) (hok0 : ∀ b, ¬ w0.fr b → ok0 b) (hf : resFits P res fn.results.toList = true) (hv : retV res e o = some r) :
    ∃ v, (results fn a.tmps).run P w = .ok v w ∧ RepI ok0 w r v := by
  have hfun : results fn a.tmps = (do
      let vs ← fn.results.mapM (resRun a.tmps)
      pure (if h : vs.size = 1 then vs[0] else .tuple vs)) := by
    unfold results
    congr 1
  rw [hfun, Array.mapM_eq_mapM_toList]
  unfold retV at hv
  split at hv
  · rename_i x hx
    injection hv with hv
    subst hv
    obtain ⟨vs, hrs, hl, hreps⟩ := resVs_run h hok0 hf hx
    obtain ⟨v, rfl⟩ : ∃ v, vs = [v] := by
      cases vs with
      | nil => simp at hl
      | cons v r => cases r with
        | nil => exact ⟨v, rfl⟩
        | cons => simp at hl
    exact ⟨v, by simp [hrs], hreps 0 x v (by simp) (by simp)⟩
  · rename_i xs hxs hne
    injection hv with hv
    subst hv
    obtain ⟨vs, hrs, hl, hreps⟩ := resVs_run h hok0 hf hne
    have hsz : ¬ (vs.length = 1) := by
      intro h1
      rw [hl] at h1
      cases xs with
      | nil => simp at h1
      | cons x r => cases r with
        | nil => exact hxs x rfl
        | cons => simp at h1
    exact ⟨.tuple vs.toArray, by simp [hrs, hsz], .tup xs vs hl hreps⟩
  · cases hv

theorem wp_soundF {f : FuncId} {fn : Func} {F : Env → Objs → Prop} {R : Value → World → Prop} {b : Frame} {cs : List Frame} (c : Ctx P K ok0 w0) (hfn : P.funcs[f]? = some fn)
    (hF : ∀ (e : Env) (o : Objs) (a : Act) (w : World) (L : Nat → Lay), F e o → Rel ok0 N w0 (look e) (lookO o) a w L → ∃ v, (results fn a.tmps).run P w = .ok v w ∧ R v w)
    (hb : b.fn = f) (hbk : b.kind = .normal) {k : List AI} {e : Env} {o : Objs} (h : WpF P K F k e o) :
    ∀ (k' : List Item) (a : Act) (w : World) (L : Nat → Lay), Fit P N k k' → Rel ok0 N w0 (look e) (lookO o) a w L →
      Reach P f cs (lone (b.at a k') cs w) R := by
  have leave : ∀ (e : Env) (o : Objs) (k' : List Item) (a : Act) (w : World) (L : Nat → Lay), F e o → Rel ok0 N w0 (look e) (lookO o) a w L →
      Reach P f cs (lone { b.at a k' with mode := .returning } cs w) R := by
    intro e o k' a w L hv hr
    obtain ⟨v, h1, h2⟩ := hF e o a w L hv hr
    exact ⟨w, _, v, Steps.refl _ _, hb, ⟨rfl, hr.defers, hbk, fn, by simpa [Frame.at, hb] using hfn, h1⟩, h2⟩
  induction h with
  | skip k e o _ ih =>
    intro k' a w L hfit hr
    cases hfit with
    | code _ c' _ k' h hk =>
      cases c' <;> simp only [codeFits, Bool.false_eq_true] at h
      exact .steps (.one step_skip) (ih k' a w L hk hr)
  | region l draw k e o C hrun _ ih =>
    intro k' a w L hfit hr
    cases hfit with
    | code _ c' _ k' h hk =>
      cases c' <;> simp only [codeFits, Bool.false_eq_true, Bool.and_eq_true, beq_iff_eq] at h
      rename_i id ops d
      obtain ⟨rfl, h⟩ := h
      have hof := h
      simp only [regionFits, Bool.and_eq_true] at hof
      obtain ⟨e', o', hp, hc⟩ := extract c l ops.toList e o a w L hof.1 hr hrun
      obtain ⟨x, a', w', hq, harr⟩ := region_wp (id := id) (Q' := fun x a w => x = .normal ∧ ∃ L, Rel ok0 N w0 (look e') (lookO o') a w L) c h hr hp (fun a w L h => ⟨rfl, L, h⟩) b k' cs
      obtain ⟨rfl, L', hr'⟩ := hq
      exact .steps harr (ih e' o' hc k' a' w' L' hk hr')
  | seq x y k e o _ ih =>
    intro k' a w L hfit hr
    cases hfit with
    | code _ c' _ k' h hk =>
      cases c' <;> simp only [codeFits, Bool.false_eq_true, Bool.and_eq_true] at h
      exact .steps (.one step_seq) (ih _ a w L (.code _ _ _ _ h.1 (.code _ _ _ _ h.2 hk)) hr)
  | cond cc x y k e o bb hc _ _ iht ihf =>
    intro k' a w L hfit hr
    cases hfit with
    | code _ c' _ k' h hk =>
      cases c' <;> simp only [codeFits, Bool.false_eq_true, Bool.and_eq_true] at h
      obtain ⟨⟨h1, h2⟩, h3⟩ := h
      have hv := Opd.rep hr h1
      rw [hc] at hv
      have hv := inv_bool hv
      refine .steps (.one (step_cond hv)) ?_
      cases bb
      · exact ihf rfl _ a w L (.code _ _ _ _ h3 hk) hr
      · exact iht rfl _ a w L (.code _ _ _ _ h2 hk) hr
  | block id cc k e o _ ih =>
    intro k' a w L hfit hr
    cases hfit with
    | code _ c' _ k' h hk =>
      cases c' <;> simp only [codeFits, Bool.false_eq_true, Bool.and_eq_true, beq_iff_eq] at h
      obtain ⟨rfl, h⟩ := h
      exact .steps (.one step_block) (ih _ a w L (.code _ _ _ _ h (.inBlock _ _ _ hk)) hr)
  | inBlock id k e o _ ih =>
    intro k' a w L hfit hr
    cases hfit with
    | inBlock _ _ k' hk => exact .steps (.one step_inBlock) (ih _ a w L hk hr)
  | scope cc k e o _ ih =>
    intro k' a w L hfit hr
    cases hfit with
    | code _ c' _ k' h hk =>
      cases c' <;> simp only [codeFits, Bool.false_eq_true] at h
      exact .steps (.one step_scope) (ih _ a w L (.code _ _ _ _ h (.inScope _ _ _ hk)) hr)
  | inScope k e o _ ih =>
    intro k' a w L hfit hr
    cases hfit with
    | inScope _ _ k' hk => exact .steps (.one step_inScope) (ih _ a w L hk hr)
  | label l k e o _ ih =>
    intro k' a w L hfit hr
    cases hfit with
    | code _ c' _ k' h hk =>
      cases c' <;> simp only [codeFits, Bool.false_eq_true, beq_iff_eq] at h
      exact .steps (.one step_label) (ih _ a w L hk hr)
  | loop cc ks ids k e o _ ih =>
    intro k' a w L hfit hr
    cases hfit with
    | code _ c' _ k' h hk =>
      cases c' <;> simp only [codeFits, Bool.false_eq_true] at h
      exact .steps (.one step_loop) (ih _ a w L (.code _ _ _ _ h (.inLoop _ _ _ _ _ _ h hk)) (hr.keep ks ids))
  | inLoop cc ks ids k e o _ ih =>
    intro k' a w L hfit hr
    cases hfit with
    | inLoop _ c' _ _ _ k' h hk => exact .steps (.one step_inLoop) (ih _ a w L (.code _ _ _ _ h (.inLoop _ _ _ _ _ _ h hk)) (hr.keep ks ids))
  | exit id k j e o hk _ ih =>
    intro k' a w L hfit hr
    cases hfit with
    | code _ c' _ k' h hkk =>
      cases c' <;> simp only [codeFits, Bool.false_eq_true, beq_iff_eq] at h
      subst h
      obtain ⟨j', h1, h2⟩ := hkk.exit hk
      exact .steps (.one (step_exit h1)) (ih j' a w L h2 hr)
  | nxt d dx x id k e o kvs seen hx ho _ _ ihe ihm =>
    intro k' a w L hfit hr
    cases hfit with
    | code _ c' _ k' h hk =>
      cases c' <;> simp only [codeFits, Bool.false_eq_true, Bool.and_eq_true, Bool.not_eq_true'] at h
      rename_i cid ops d'
      obtain ⟨rfl, h⟩ := h
      obtain ⟨ex, a', w', hq, harr⟩ := nxt_wp (cid := cid) (Q := fun ex a' w' => ex = .normal ∧ Reach P f cs (lone (b.at a' k') cs w') R) c hr h hx ho
        (fun hall a' w' L' hr' => ⟨rfl, ihe hall _ a' w' L' hk (by rw [look_bnd, look_bnd]; exact hr')⟩)
        (fun i q hi hns a' w' L' hr' => ⟨rfl, ihm i q hi hns _ a' w' L' hk (by rw [look_bnd, look_bnd, lookO_setOL]; exact hr')⟩) b k' cs
      obtain ⟨rfl, hq⟩ := hq
      exact .steps harr hq
  | gh id bid off t sz c k e o cs hid hb hc _ ih =>
    intro k' a w L hfit hr
    cases hfit with
    | code _ c' _ k' h hk =>
      simp only [codeFits] at h
      obtain ⟨L', hr'⟩ := gh_rel (e := t) hr hid hb hc
      exact ih _ a w L' (.code _ _ _ _ h hk) (by rw [lookO_setOL, lookO_setOL]; exact hr')
  | ret k e o hv =>
    intro k' a w L hfit hr
    cases hfit with
    | code _ c' _ k' h hk =>
      cases c' <;> simp only [codeFits, Bool.false_eq_true] at h
      exact .steps (.one step_ret) (leave e o _ a w L hv hr)
  | done e o hv =>
    intro k' a w L hfit hr
    cases hfit
    exact .steps (.one step_end) (leave e o [] a w L hv hr)

theorem wp_sound {f : FuncId} {fn : Func} {res : List ARes} {r : IV} {b : Frame} {cs : List Frame} (c : Ctx P K ok0 w0) (hfn : P.funcs[f]? = some fn) (hres : resFits P res fn.results.toList = true)
    (hb : b.fn = f) (hbk : b.kind = .normal) {k : List AI} {e : Env} {o : Objs} (h : WpF P K (RetIs res r) k e o) :
    ∀ (k' : List Item) (a : Act) (w : World) (L : Nat → Lay), Fit P N k k' → Rel ok0 N w0 (look e) (lookO o) a w L →
      Reach P f cs (lone (b.at a k') cs w) (fun v w' => RepI ok0 w' r v ∧ Keep w0.fr w0.w w') :=
  wp_soundF c hfn (fun e o a w L hv hr => by
    obtain ⟨v, h1, h2⟩ := results_run hr c.ok hres hv
    exact ⟨v, h1, h2, hr.below⟩) hb hbk h

/-- A function of the evaluator. -/
structure AFn where
  nt : Nat
  res : List ARes
  code : AC

def fnFits (P : Program) (fn : Func) (A : AFn) : Bool :=
  (match fn.body with | some c => codeFits P A.nt A.code c | none => false) && fn.ntmps == A.nt && resFits P A.res fn.results.toList

/-- 'A' is the function number 'f'. -/
def FnOk (P : Program) (f : FuncId) (A : AFn) : Prop := ∃ fn, P.funcs[f]? = some fn ∧ fnFits P fn A = true

def argEnv : Nat → List IV → Env
  | _, [] => []
  | i, x :: r => (i, .iv x) :: argEnv (i + 1) r

theorem look_argEnv : ∀ (xs : List IV) (i t : Nat), look (argEnv i xs) t = .iv .any ∨ ∃ x, i ≤ t ∧ xs[t - i]? = some x ∧ look (argEnv i xs) t = .iv x
  | [], i, t => .inl rfl
  | x :: r, i, t => by
    simp only [argEnv, look]
    split
    · rename_i h
      subst h
      exact .inr ⟨x, Nat.le_refl _, by simp, rfl⟩
    · rename_i h
      rcases look_argEnv r (i + 1) t with h1 | ⟨y, h1, h2, h3⟩
      · exact .inl h1
      · refine .inr ⟨y, by omega, ?_, h3⟩
        have : t - i = (t - (i + 1)) + 1 := by omega
        rw [this]
        simpa using h2

theorem calls_of_wp {f : FuncId} {A : AFn} {xs : List IV} {F : Env → Objs → Prop} (hK : ∀ w w', K w → Below w.heap.size w w' → K w') (hok : FnOk P f A) (hlen : xs.length ≤ A.nt)
    (h : WpF P K F [.code A.code] (argEnv 0 xs) []) (w : World) (ok : Nat → Prop) (vs : List Value) (R : Value → World → Prop) (hk : K w) (hnew : ∀ b, w.heap.size ≤ b → ok b) (hvl : vs.length = xs.length)
    (hvs : ∀ (k : Nat) (x : IV) (u : Value), xs[k]? = some x → vs[k]? = some u → RepI ok w x u)
    (hF : ∀ (fn : Func) (e : Env) (o : Objs) (a : Act) (w' : World) (L : Nat → Lay), resFits P A.res fn.results.toList = true → F e o → Rel ok A.nt ⟨w, fun b => b < w.heap.size, fun _ h => h⟩ (look e) (lookO o) a w' L → ∃ v, (results fn a.tmps).run P w' = .ok v w' ∧ R v w') :
    Calls P f vs.toArray w (fun e w' => ∃ v, e = .returned v ∧ R v w') := by
  intro cs
  obtain ⟨fn, hfn, hok⟩ := hok
  unfold fnFits at hok
  · split at hok
    · rename_i c hbody
      simp only [Bool.and_eq_true, beq_iff_eq] at hok
      obtain ⟨⟨hfit, hnt⟩, hres⟩ := hok
      let b : Frame := { (default : Frame) with fn := f, kind := .normal }
      let a : Act := { tmps := vs.toArray ++ Array.replicate (fn.ntmps - vs.toArray.size) undef, defers := [] }
      have henter : Frame.enter P f vs.toArray .normal = b.at a [.code c] := by
        simp [Frame.enter, Frame.at, hfn, hbody, b, a]
      let w0 : Base := ⟨w, fun b => b < w.heap.size, fun _ h => h⟩
      have hctx : Ctx P K ok w0 := ⟨fun w' h => hK w w' hk h.below, fun b hb => hnew b (Nat.not_lt.1 hb)⟩
      have hrel : Rel ok A.nt w0 (look (argEnv 0 xs)) (lookO []) a w (fun _ => .box 0) := by
        refine ⟨Keep.refl _ _, rfl, ?_, fun t => ?_, fun id o ho => by simp [lookO] at ho, fun i j oi oj b hij hi => by simp [lookO] at hi⟩
        · simp [a, hnt]; omega
        · rcases look_argEnv xs 0 t with h1 | ⟨x, _, h2, h3⟩
          · rw [h1]; exact .iv _ _ (.any _)
          · rw [h3]
            simp only [Nat.sub_zero] at h2
            have hlt : t < vs.length := by rw [hvl]; exact (List.getElem?_eq_some_iff.1 h2).1
            have hget : a.tmps.getD t undef = vs[t] := by
              simp [a, Array.getD_eq_getD_getElem?, Array.getElem?_append, hlt]
            rw [hget]
            exact .iv _ _ ((hvs t x _ h2 (List.getElem?_eq_getElem hlt)).mono fun b hb _ => ⟨⟨hb, fun id o ho => by simp [lookO] at ho⟩, rfl⟩)
      obtain ⟨w', fr, v, h1, h2, h3, h4⟩ := wp_soundF (cs := cs) (b := b) (R := R) hctx hfn (fun e o a w L hv hr => hF fn e o a w L hres hv hr) rfl rfl h [.code c] a w _ (.code _ _ _ _ hfit .nil) hrel
      exact ⟨.returned v, w', fr, ⟨v, rfl, h4⟩, by rw [henter]; exact h1, h2, h3⟩
    · simp at hok

theorem good_of_wp {f : FuncId} {A : AFn} {xs : List IV} {r : IV} (hK : ∀ w w', K w → Below w.heap.size w w' → K w') (hok : FnOk P f A) (hlen : xs.length ≤ A.nt)
    (h : WpF P K (RetIs A.res r) [.code A.code] (argEnv 0 xs) []) : Good P K f xs r := by
  intro w ok vs hk hnew hvl hvs
  refine calls_of_wp hK hok hlen h w ok vs (fun v w' => RepI ok w' r v ∧ Below w.heap.size w w') hk hnew hvl hvs (fun fn e o a w' L hres hv hr => ?_)
  obtain ⟨v, h1, h2⟩ := results_run hr (fun b hb => hnew b (Nat.not_lt.1 hb)) hres hv
  exact ⟨v, h1, h2, hr.below.below⟩

/-- A result as it stands at the run's end. -/
def retA (e : Env) (o : Objs) : ARes → Option AV
  | .tmp t => some (look e t)
  | .cell t n ag => match look e t with
    | .loc id off => match lookO o id with
      | some (.box cs) => match ag with
        | true => if off + n ≤ cs.length then some (mkAgg ((cs.drop off).take n)) else none
        | false => if n = 1 then cs[off]? else none
      | _ => none
    | _ => none

theorem resA_run (h : Rel ok0 N w0 (look e) (lookO o) a w L) {x : ARes} {rs : ResultVar} {y : AV}
    (hf : resFits P [x] [rs] = true) (hv : retA e o x = some y) : ∃ v, (resRun a.tmps rs).run P w = .ok v w ∧ RepA (okL ok0 (lookO o) L) w (lookO o) L y v := by
  cases x with
  | tmp t =>
    cases rs with
    | cell => simp [resFits] at hf
    | tmp t' =>
      simp only [resFits, Bool.and_true, beq_iff_eq] at hf
      subst hf
      simp only [retA, Option.some.injEq] at hv
      subst hv
      exact ⟨a.tmps.getD t undef, rfl, h.env t⟩
  | cell t n ag =>
    cases rs with
    | tmp => simp [resFits] at hf
    | cell t' T =>
      simp only [resFits, Bool.and_true, Bool.and_eq_true, beq_iff_eq] at hf
      obtain ⟨⟨rfl, hag⟩, hn⟩ := hf
      simp only [retA] at hv
      have het := h.env t
      generalize look e t = xv at hv het
      split at hv
      · rename_i id off
        split at hv
        · rename_i cs hcs
          have hob := h.objs _ _ hcs
          generalize hpv : a.tmps.getD t undef = pv at het
          cases het with
          | loc _ _ cs' b hob' hL =>
            rw [hcs] at hob'
            injection hob' with hob'
            injection hob' with hob'
            subst hob'
            rw [hL] at hob
            obtain ⟨hB, ty, vs, hb, hl, h1, hxx⟩ := hob
            have cell : ∀ (k : Nat) (u : Value), (vs.drop off)[k]? = some u → w.cell? ⟨b, off + k, none⟩ = some u := by
              intro k u hu
              rw [cell_of_row w b (off + k) _ ty (0, 0) hb]
              simpa [List.getElem?_drop] using hu
            split at hv
            · split at hv
              · rename_i hfit
                injection hv with hv
                subst hv
                have hlen : ((vs.drop off).take n).length = n := by simp; omega
                have hload := run_loadVar (w := w) hag hn b off ((vs.drop off).take n) hlen (by simp) (fun k u hu => cell k u (by
                  rw [List.getElem?_take] at hu; split at hu <;> first | exact hu | cases hu))
                refine ⟨.agg ((vs.drop off).take n).toArray, ?_, rep_mkAgg (by simp; omega) (fun u hu => h1 u (List.mem_of_mem_drop (List.mem_of_mem_take hu))) (fun k y u hy hu => ?_)⟩
                · simp [resRun, hpv, asAddr, hload]
                · rw [List.getElem?_take] at hy hu
                  split at hy
                  · rename_i hkn
                    rw [if_pos hkn] at hu
                    rw [List.getElem?_drop] at hy hu
                    exact hxx _ _ u hy hu
                  · cases hy
              · cases hv
            · split at hv
              · rename_i hn1
                subst hn1
                have hlt : off < vs.length := by rw [hl]; exact (List.getElem?_eq_some_iff.1 hv).1
                have hload := run_loadVar (w := w) hag hn b off [vs[off]] rfl (by simp) (fun k u hu => by
                  cases k with
                  | zero => simp at hu; subst hu; exact cell 0 _ (by simp [List.getElem?_drop, hlt])
                  | succ k => simp at hu)
                refine ⟨vs[off], ?_, hxx off _ _ hv (List.getElem?_eq_getElem hlt)⟩
                simp [resRun, hpv, asAddr, hload]
              · cases hv
        · cases hv
      · cases hv

/-- The end of a run that returns one new row of its own. -/
def EndO (x : ARes) (id : Nat) (q : AV) (ob : AO) (e : Env) (o : Objs) : Prop := retA e o x = some (ren id q) ∧ lookO o id = some ob

theorem goodo_of_wp {f : FuncId} {A : AFn} {xs : List IV} {q : AV} {e : TypeId} {sz : Nat} {rows : List (List IV)} {mv : Nat} (x : ARes) (id : Nat) (hK : ∀ w w', K w → Below w.heap.size w w' → K w') (hok : FnOk P f A) (hlen : xs.length ≤ A.nt)
    (hres : A.res = [x]) (h : WpF P K (EndO x id q (rowO e sz rows mv)) [.code A.code] (argEnv 0 xs) []) : GoodO P K f xs q e sz rows mv := by
  intro w ok vs hk hnew hvl hvs
  have := calls_of_wp hK hok hlen h w ok vs (fun v w' => ∃ l, ObjRep (fun b => b < w.heap.size) (okL ok (one (rowO e sz rows mv)) (fun _ => l)) w' (one (rowO e sz rows mv)) (fun _ => l) (rowO e sz rows mv) l ∧
      RepA (okL ok (one (rowO e sz rows mv)) (fun _ => l)) w' (one (rowO e sz rows mv)) (fun _ => l) (ren 0 q) v ∧ Below w.heap.size w w') hk hnew hvl hvs (fun fn e' o a w' L hres' hv hr => ?_)
  · refine this.mono fun x w' ⟨v, hx, l, h1, h2, h3⟩ => ⟨v, l, hx, h1, h2, h3⟩
  · rw [hres] at hres'
    obtain ⟨h1, h2⟩ := hv
    obtain ⟨rs, hrs⟩ : ∃ rs, fn.results.toList = [rs] := by
      match hfr : fn.results.toList, hres' with
      | [r], h => exact ⟨r, rfl⟩
      | [], h => cases x <;> simp [resFits] at h
      | r :: _ :: _, h => cases x <;> cases r <;> simp [resFits] at h
    rw [hrs] at hres'
    obtain ⟨v, hv1, hv2⟩ := resA_run hr hres' h1
    have hrun : (results fn a.tmps).run P w' = .ok v w' := by
      have hfun : results fn a.tmps = (do
          let vs ← fn.results.mapM (resRun a.tmps)
          pure (if h : vs.size = 1 then vs[0] else .tuple vs)) := by
        unfold results
        congr 1
      rw [hfun, Array.mapM_eq_mapM_toList, hrs]
      simp [List.mapM_cons, hv1]
    have hokk : ∀ b, okL ok (lookO o) L b → okL ok (one (rowO e sz rows mv)) (fun _ => L id) b := by
      intro b hb
      refine ⟨hb.1, fun i oi _ => hb.2 id _ h2⟩
    refine ⟨_, hrun, L id, rowO_rep (fun _ h => h) hokk (hr.objs id _ h2), ren_rep (lo' := one (rowO e sz rows mv)) (j := 0) hokk h2 rfl rfl hv2, hr.below.below⟩

/-! ### Functions that hand a row back -/

def rowIs (e : TypeId) (sz : Nat) (rows : List (List IV)) : Option AO → Prop
  | some (.arr e' sz' es _) => e' = e ∧ sz' = sz ∧ es = rows.map (List.map AV.iv)
  | _ => False

/-- The end of a run that returns the row that it has been handed, grown. -/
def EndR (t : Nat) (ty : TypeId) (sz : Nat) (rows' : List (List IV)) (e : Env) (o : Objs) : Prop := look e t = .aref 0 rows'.length ∧ rowIs ty sz rows' (lookO o 0)

theorem goodr_of_wp {f : FuncId} {A : AFn} {ty : TypeId} {sz : Nat} {rows rows' : List (List IV)} {args : List IV} (t : Nat) (hok : FnOk P f A) (hlen : args.length + 1 ≤ A.nt) (hres : A.res = [.tmp t]) (hlt : rows.length < rows'.length)
    (h : WpF P K (EndR t ty sz rows') [.code A.code] ((0, .aref 0 rows.length) :: argEnv 1 args) [(0, rowO ty sz rows 0)]) : GoodR P K f ty sz rows args rows' := by
  intro w ok v0 xs vs hk hnew hown hsz h1 hcx hvl hvs cs
  obtain ⟨fn, hfn, hok⟩ := hok
  unfold fnFits at hok
  split at hok
  · rename_i c hbody
    simp only [Bool.and_eq_true, beq_iff_eq] at hok
    obtain ⟨⟨hfit, hnt⟩, hresf⟩ := hok
    let b : Frame := { (default : Frame) with fn := f, kind := .normal }
    let a : Act := { tmps := (v0 :: vs).toArray ++ Array.replicate (fn.ntmps - (v0 :: vs).toArray.size) undef, defers := [] }
    have henter : Frame.enter P f (v0 :: vs).toArray .normal = b.at a [.code c] := by
      simp [Frame.enter, Frame.at, hfn, hbody, b, a]
    let w0 : Base := ⟨w, Fr0 w v0, fun _ h => h.1⟩
    let okc : Nat → Prop := fun b => ok b ∨ v0.ownBlock = some b
    have hctx : Ctx P K okc w0 := ⟨fun w' h => hk w' h, fun b hb => by
      by_cases hbl : b < w.heap.size
      · by_cases hbo : v0.ownBlock = some b
        · exact .inr hbo
        · exact absurd ⟨hbl, hbo⟩ hb
      · exact .inl (hnew b (Nat.not_lt.1 hbl))⟩
    have hokc : ∀ b, ok b ∧ v0.ownBlock ≠ some b → okL okc (lookO [(0, rowO ty sz rows 0)]) (fun _ => .arr v0 xs) b := fun b hb => ⟨.inl hb.1, fun id o _ => hb.2⟩
    have hsl := ownsRow_isSl hown
    have hrel : Rel okc A.nt w0 (look ((0, .aref 0 rows.length) :: argEnv 1 args)) (lookO [(0, rowO ty sz rows 0)]) a w (fun _ => .arr v0 xs) := by
      refine ⟨Keep.refl _ _, rfl, ?_, fun t => ?_, fun id o ho => ?_, fun i j oi oj b hij hi hj => ?_⟩
      · simp [a, hnt]; omega
      · simp only [look]
        split
        · rename_i ht
          subst ht
          have hget : a.tmps.getD 0 undef = v0 := by simp [a, Array.getD_eq_getD_getElem?, Array.getElem?_append]
          rw [hget]
          have := RepA.aref (ok := okL okc (lookO [(0, rowO ty sz rows 0)]) (fun _ => .arr v0 xs)) (w := w) (lo := lookO [(0, rowO ty sz rows 0)]) (L := fun _ => .arr v0 xs) 0 ty sz (rows.map (List.map AV.iv)) 0 v0 xs (by simp [lookO, rowO]) rfl hsl
          rwa [List.length_map] at this
        · rcases look_argEnv args 1 t with h1 | ⟨x, ht, h2, h3⟩
          · rw [h1]; exact .iv _ _ (.any _)
          · rw [h3]
            have hlt : t - 1 < vs.length := by rw [hvl]; exact (List.getElem?_eq_some_iff.1 h2).1
            have hget : a.tmps.getD t undef = vs[t - 1] := by
              obtain ⟨s, rfl⟩ : ∃ s, t = s + 1 := ⟨t - 1, by omega⟩
              simp only [Nat.add_sub_cancel] at hlt ⊢
              simp [a, Array.getD_eq_getD_getElem?, Array.getElem?_append, hlt]
            rw [hget]
            exact .iv _ _ ((hvs (t - 1) x _ h2 (List.getElem?_eq_getElem hlt)).mono fun b hb _ => ⟨hokc b hb, rfl⟩)
      · simp only [lookO] at ho
        split at ho
        · injection ho with ho
          subst ho
          refine ⟨⟨by rw [List.length_map]; exact hown, fun b hb hf => hf.2 hb⟩, Nat.zero_le _, fun c hc => ?_, h1, fun i j c x u hi hj hu => ?_⟩
          · obtain ⟨d, hd, rfl⟩ := List.mem_map.1 hc
            rw [List.length_map]; exact hsz d hd
          · rw [List.getElem?_map, Option.map_eq_some_iff] at hi
            obtain ⟨d, hd, rfl⟩ := hi
            rw [List.getElem?_map, Option.map_eq_some_iff] at hj
            obtain ⟨y, hy, rfl⟩ := hj
            exact .iv _ _ ((hcx i j d y u hd hy hu).mono fun b hb _ => ⟨hokc b hb, rfl⟩)
        · cases ho
      · simp only [lookO] at hi hj
        split at hi
        · split at hj
          · omega
          · cases hj
        · cases hi
    obtain ⟨w', fr, v, h2, h3, h4, h5⟩ := wp_soundF (cs := cs) (b := b) (R := fun v w' => ∃ xs', RowBack w ok ty sz rows v0 rows' v xs' w') hctx hfn (fun e' o' a' w' L hv hr => by
      obtain ⟨hv1, hv2⟩ := hv
      unfold rowIs at hv2
      split at hv2
      · rename_i e2 sz2 es2 mv2 hob
        obtain ⟨rfl, rfl, rfl⟩ := hv2
        have hobj := hr.objs 0 _ hob
        rw [hres] at hresf
        have hres' : fn.results.toList = [.tmp t] := by
          match hfr : fn.results.toList, hresf with
          | [.tmp t'], h => simp [resFits] at h; rw [h]
          | [.cell _ _], h => simp [resFits] at h
          | [], h => simp [resFits] at h
          | .tmp _ :: _ :: _, h => simp [resFits] at h
          | .cell _ _ :: _ :: _, h => simp [resFits] at h
        have hrun : (results fn a'.tmps).run P w' = .ok (a'.tmps.getD t undef) w' := by
          have hfun : results fn a'.tmps = (do
              let vs ← fn.results.mapM (resRun a'.tmps)
              pure (if h : vs.size = 1 then vs[0] else .tuple vs)) := by
            unfold results
            congr 1
          rw [hfun, Array.mapM_eq_mapM_toList, hres']
          simp [List.mapM_cons, resRun]
        have henv := hr.env t
        rw [hv1] at henv
        cases hL : L 0 with
        | box b => rw [hL] at hobj; exact hobj.elim
        | one b => rw [hL] at hobj; exact hobj.elim
        | map b vals => rw [hL] at hobj; exact hobj.elim
        | arr v1 xs1 =>
          rw [hL] at hobj
          obtain ⟨q1, q2, q3, q4, q5⟩ := hobj
          rw [List.length_map] at q1
          have hv := inv_aref_all (rows := rows') hob hL henv
          refine ⟨_, hrun, xs1, ?_⟩
          rw [hv]
          refine ⟨hr.below, q1.own, fun b hb => ?_, fun c hc => ?_, q4, fun i j c x u a1 a2 a3 => ?_, by omega, fun hs => by omega⟩
          · by_cases hbl : b < w.heap.size
            · by_cases hbo : v0.ownBlock = some b
              · exact .inl hbo
              · exact absurd ⟨hbl, hbo⟩ (q1.free b hb)
            · exact .inr (Nat.not_lt.1 hbl)
          · have := q3 (c.map AV.iv) (List.mem_map.2 ⟨c, hc, rfl⟩)
            simpa using this
          · refine (inv_iv (q5 i j (c.map AV.iv) (.iv x) u (by simp [a1]) (by simp [a2]) a3)).mono fun b hb _ => ⟨⟨hb.1, fun hbad => hb.2 0 _ hob (by rw [hL]; exact hbad)⟩, rfl⟩
      · exact hv2.elim) rfl rfl h [.code c] a w _ (.code _ _ _ _ hfit .nil) hrel
    obtain ⟨xs', hrb⟩ := h5
    exact ⟨.returned v, w', fr, ⟨v, xs', rfl, hrb⟩, by rw [henter]; exact h2, h3, h4⟩
  · simp at hok

/-- A world in which a value reads as a row. -/
def KRow (K : World → Prop) (sz : Nat) (rows : List (List IV)) (v0 : Value) (w : World) : Prop := K w ∧ RepI (fun _ => True) w (.sl sz rows) v0

theorem KRow.stay {sz : Nat} {rows : List (List IV)} {v0 : Value} (hK : ∀ w w', K w → Below w.heap.size w w' → K w') : ∀ w w', KRow K sz rows v0 w → Below w.heap.size w w' → KRow K sz rows v0 w' :=
  fun w w' h hb => ⟨hK w w' h.1 hb, h.2.mono fun b _ hlt => ⟨trivial, hb.block b hlt⟩⟩

theorem good_row {f : FuncId} {sz : Nat} {rows : List (List IV)} {v0 : Value} {args : List IV} {r : IV} (hg : Good P K f (.sl sz rows :: args) r) (hr : scalar r = true) : Good P (KRow K sz rows v0) f (.lit v0 :: args) r := by
  intro w ok vs hk hnew hvl hvs
  refine (hg w (fun _ => True) vs hk.1 (fun _ _ => trivial) hvl (fun k x u hx hu => ?_)).mono fun e w' ⟨v, he, hv, hb⟩ => ⟨v, he, scalar_rep hr hv, hb⟩
  cases k with
  | zero =>
    have := hvs 0 (.lit v0) u rfl hu
    cases this
    simp at hx
    subst hx
    exact hk.2
  | succ k => exact (hvs (k + 1) x u (by simpa using hx) hu).mono fun _ _ _ => ⟨trivial, rfl⟩

theorem Good.weak {K' : World → Prop} {f : FuncId} {args : List IV} {r : IV} (hg : Good P K f args r) (h : ∀ w, K' w → K w) : Good P K' f args r := fun w ok vs hk => hg w ok vs (h w hk)

theorem goodr_same {f : FuncId} {ty : TypeId} {sz : Nat} {rows : List (List IV)} {args : List IV} (h : ∀ v0, Good P (KRow K sz rows v0) f (.lit v0 :: args) (.lit v0)) : GoodR P K f ty sz rows args rows := by
  intro w ok v0 xs vs hk hnew hown hsz h1 hcx hvl hvs
  have hlt : ∀ b, v0.ownBlock = some b → b < w.heap.size := fun b hb => (hown.lt b hb).2
  have hrep : RepI (fun _ => True) w (.sl sz rows) v0 := row_repI (Fr := fun _ => False) ⟨hown, fun _ _ h => h⟩ (fun _ _ => trivial) hsz h1 fun i j c x u a1 a2 a3 => (hcx i j c x u a1 a2 a3).mono fun _ _ _ => ⟨trivial, rfl⟩
  refine (h v0 w (fun b => ok b ∧ v0.ownBlock ≠ some b) (v0 :: vs) ⟨hk w (Keep.refl _ _), hrep⟩ (fun b hb => ⟨hnew b hb, fun hbad => by have := hlt b hbad; omega⟩) (by simp [hvl]) (fun k x u hx hu => ?_)).mono fun e w' ⟨v, he, hv, hb⟩ => ?_
  · cases k with
    | zero => simp at hx hu; subst hx hu; exact .lit _
    | succ k => exact hvs k x u (by simpa using hx) (by simpa using hu)
  · cases hv
    have hkeep : Keep (Fr0 w v0) w w' := ⟨hb.os, hb.tape, hb.output, hb.size, fun k hk => hb.block k hk.1⟩
    have hst : ownsF (fun _ => False) w' ty sz v0 rows.length xs := (ownsF.stay (Fr := fun _ => False) ⟨hown, fun _ _ h => h⟩ fun b hb' => hb.block b (hlt b hb'))
    exact ⟨v0, xs, he, hkeep, hst.own, fun b hb => .inl hb, hsz, h1, fun i j c x u a1 a2 a3 => (hcx i j c x u a1 a2 a3).mono fun b hb' hbl => ⟨⟨.inl hb'.1, hb'.2⟩, hb.block b hbl⟩, Nat.le_refl _, fun _ => rfl⟩

end
end Go.Ev

/- How a run of the evaluator is reckoned by simp. -/
namespace Go.Ev
open Go Go.RowKit

def AOp.isCall : AOp → Bool
  | .call _ _ _ | .callo _ _ _ _ | .calld _ _ _ | .callr _ _ _ _ => true
  | .yy _ => false
  | .mov _ | .nilo _ _ _ | .pick _ _ _ | .ext _ _ | .not _ | .bin _ _ _ | .beq _ _ _ | .cvi _ _ | .cvs _ | .b2s _ | .i2s _ | .nilc _ | .fld _ _ | .ldi _ _ _ | .ldo _ _ _ _ | .sto _ _ _ _ | .ixi _ _ _ | .ixo _ _ _ _
  | .ixs _ _ | .sli _ _ _ _ | .sls _ _ _ | .boxi _ | .boxo _ _ | .alo _ _ | .bld _ _ | .bsl _ _ | .bso _ _ _ _ | .len _ | .leno _ _ | .lst _ | .app _ _ _ _ _ _ => false

theorem ivs_map : ∀ (l : List IV), ivs (l.map AV.iv) = some l
  | [] => rfl
  | a :: l => by simp [ivs, ivs_map l, AV.iv?]
theorem ivss_map : ∀ (L : List (List IV)), ivss (L.map (List.map AV.iv)) = some L
  | [] => rfl
  | a :: l => by simp [ivss, ivss_map l, ivs_map]

section
variable {P : Program} {K : World → Prop} {F : Env → Objs → Prop}

def opK (P : Program) (K : World → Prop) (C : Env → Objs → Prop) (d : Option Nat) (l : List AOper) (e : Env) (o : Objs) : Res → Prop
  | .ok s f v up => s ∧ (f → runOps P K C l (bnd d v e) (upL up o))
  | .no => False

def gK (P : Program) (K : World → Prop) (C : Env → Objs → Prop) (d : Option Nat) (t : Nat) (b : Bool) (op : AOp) (l : List AOper) (e : Env) (o : Objs) : AV → Prop
  | .iv (.bool c) => (c = b → runOps P K C (⟨d, none, op⟩ :: l) (setE t (.iv (.bool b)) e) o) ∧ (c = !b → runOps P K C l (bnd d (.iv (.tup [])) (setE t (.iv (.bool (!b))) e)) o)
  | .iv (.tup []) => runOps P K C l (bnd d (.iv (.tup [])) (setE t (.iv (.tup [])) e)) o
  | _ => False

/-- A call comes: of the function g, on these arguments. -/
def callK (P : Program) (K : World → Prop) (C : Env → Objs → Prop) (d : Option Nat) (g : FuncId) (own : Bool) (l : List AOper) (e : Env) (o : Objs) (xs : Option (List IV)) : Prop :=
  ∃ ys r, xs = some ys ∧ Good P K g ys r ∧ (own = false ∨ scalar r = true) ∧ runOps P K C l (bnd d (.iv r) e) o

/-- A call comes that returns a new row, object id. -/
def callO (P : Program) (K : World → Prop) (C : Env → Objs → Prop) (d : Option Nat) (g : FuncId) (id : Nat) (ids : List Nat) (l : List AOper) (e : Env) (o : Objs) (xs : Option (List IV)) : Prop :=
  ∃ ys q t sz rows mv, ids = [] ∧ xs = some ys ∧ GoodO P K g ys q t sz rows mv ∧ lookO o id = none ∧ runOps P K C l (bnd d (ren id q) e) (setOL id (rowO t sz rows mv) o)

def condK (X Y : Prop) : AV → Prop
  | .iv (.bool b) => (b = true → X) ∧ (b = false → Y)
  | _ => False

@[simp] theorem gK_skip (C : Env → Objs → Prop) (d : Option Nat) (t : Nat) (b : Bool) (op : AOp) (l : List AOper) (e : Env) (o : Objs) : gK P K C d t b op l e o (.iv (.tup [])) = runOps P K C l (bnd d (.iv (.tup [])) (setE t (.iv (.tup [])) e)) o := rfl
@[simp] theorem opK_ok (C : Env → Objs → Prop) (d : Option Nat) (l : List AOper) (e : Env) (o : Objs) (s f : Prop) (v : AV) (up : Option (Nat × AO)) :
    opK P K C d l e o (.ok s f v up) = (s ∧ (f → runOps P K C l (bnd d v e) (upL up o))) := rfl
@[simp] theorem opK_no (C : Env → Objs → Prop) (d : Option Nat) (l : List AOper) (e : Env) (o : Objs) : opK P K C d l e o .no = False := rfl
@[simp] theorem gK_tt (C : Env → Objs → Prop) (d : Option Nat) (t : Nat) (c : Bool) (op : AOp) (l : List AOper) (e : Env) (o : Objs) (h : c = true) : gK P K C d t true op l e o (.iv (.bool c)) = runOps P K C (⟨d, none, op⟩ :: l) (setE t (.iv (.bool true)) e) o := by subst h; simp [gK]
@[simp] theorem gK_tf (C : Env → Objs → Prop) (d : Option Nat) (t : Nat) (c : Bool) (op : AOp) (l : List AOper) (e : Env) (o : Objs) (h : c = false) : gK P K C d t true op l e o (.iv (.bool c)) = runOps P K C l (bnd d (.iv (.tup [])) (setE t (.iv (.bool false)) e)) o := by subst h; simp [gK]
@[simp] theorem gK_ff (C : Env → Objs → Prop) (d : Option Nat) (t : Nat) (c : Bool) (op : AOp) (l : List AOper) (e : Env) (o : Objs) (h : c = false) : gK P K C d t false op l e o (.iv (.bool c)) = runOps P K C (⟨d, none, op⟩ :: l) (setE t (.iv (.bool false)) e) o := by subst h; simp [gK]
@[simp] theorem gK_ft (C : Env → Objs → Prop) (d : Option Nat) (t : Nat) (c : Bool) (op : AOp) (l : List AOper) (e : Env) (o : Objs) (h : c = true) : gK P K C d t false op l e o (.iv (.bool c)) = runOps P K C l (bnd d (.iv (.tup [])) (setE t (.iv (.bool true)) e)) o := by subst h; simp [gK]
@[simp] theorem gK_bt (C : Env → Objs → Prop) (d : Option Nat) (t : Nat) (c : Bool) (op : AOp) (l : List AOper) (e : Env) (o : Objs) : gK P K C d t true op l e o (.iv (.bool c)) =
    ((c = true → runOps P K C (⟨d, none, op⟩ :: l) (setE t (.iv (.bool true)) e) o) ∧ (c = false → runOps P K C l (bnd d (.iv (.tup [])) (setE t (.iv (.bool false)) e)) o)) := rfl
@[simp] theorem gK_bf (C : Env → Objs → Prop) (d : Option Nat) (t : Nat) (c : Bool) (op : AOp) (l : List AOper) (e : Env) (o : Objs) : gK P K C d t false op l e o (.iv (.bool c)) =
    ((c = false → runOps P K C (⟨d, none, op⟩ :: l) (setE t (.iv (.bool false)) e) o) ∧ (c = true → runOps P K C l (bnd d (.iv (.tup [])) (setE t (.iv (.bool true)) e)) o)) := rfl
@[simp] theorem condK_true (X Y : Prop) (b : Bool) (h : b = true) : condK X Y (.iv (.bool b)) = X := by subst h; simp [condK]
@[simp] theorem condK_false (X Y : Prop) (b : Bool) (h : b = false) : condK X Y (.iv (.bool b)) = Y := by subst h; simp [condK]
@[simp] theorem condK_bool (X Y : Prop) (b : Bool) : condK X Y (.iv (.bool b)) = ((b = true → X) ∧ (b = false → Y)) := rfl

theorem runOps_nil (C : Env → Objs → Prop) (e : Env) (o : Objs) : runOps P K C [] e o = C e o := rfl

theorem runOps_plain (C : Env → Objs → Prop) (d : Option Nat) (op : AOp) (l : List AOper) (e : Env) (o : Objs) (h : op.isCall = false) :
    runOps P K C (⟨d, none, op⟩ :: l) e o = opK P K C d l e o (ev (look e) (lookO o) op) := by
  simp only [runOps]
  cases op with
  | call g args ids => simp [AOp.isCall] at h
  | callo g args ids id => simp [AOp.isCall] at h
  | calld x args ids => simp [AOp.isCall] at h
  | callr g x args id => simp [AOp.isCall] at h
  | _ =>
    simp only [run1]
    unfold evK opK
    rfl

theorem st_mov (C : Env → Objs → Prop) (d : Option Nat) (x : Opd) (l : List AOper) (e : Env) (o : Objs) : runOps P K C (⟨d, none, .mov x⟩ :: l) e o = opK P K C d l e o (ev (look e) (lookO o) (.mov x)) := runOps_plain C d _ l e o rfl
theorem st_nilo (C : Env → Objs → Prop) (d : Option Nat) (id : Nat) (t : Nat) (sz : Nat) (l : List AOper) (e : Env) (o : Objs) : runOps P K C (⟨d, none, .nilo id t sz⟩ :: l) e o = opK P K C d l e o (ev (look e) (lookO o) (.nilo id t sz)) := runOps_plain C d _ l e o rfl
theorem st_pick (C : Env → Objs → Prop) (d : Option Nat) (c : Opd) (x : Opd) (y : Opd) (l : List AOper) (e : Env) (o : Objs) : runOps P K C (⟨d, none, .pick c x y⟩ :: l) e o = opK P K C d l e o (ev (look e) (lookO o) (.pick c x y)) := runOps_plain C d _ l e o rfl
theorem st_ext (C : Env → Objs → Prop) (d : Option Nat) (x : Opd) (i : Nat) (l : List AOper) (e : Env) (o : Objs) : runOps P K C (⟨d, none, .ext x i⟩ :: l) e o = opK P K C d l e o (ev (look e) (lookO o) (.ext x i)) := runOps_plain C d _ l e o rfl
theorem st_not (C : Env → Objs → Prop) (d : Option Nat) (x : Opd) (l : List AOper) (e : Env) (o : Objs) : runOps P K C (⟨d, none, .not x⟩ :: l) e o = opK P K C d l e o (ev (look e) (lookO o) (.not x)) := runOps_plain C d _ l e o rfl
theorem st_bin (C : Env → Objs → Prop) (d : Option Nat) (b : BinOp) (x : Opd) (y : Opd) (l : List AOper) (e : Env) (o : Objs) : runOps P K C (⟨d, none, .bin b x y⟩ :: l) e o = opK P K C d l e o (ev (look e) (lookO o) (.bin b x y)) := runOps_plain C d _ l e o rfl
theorem st_beq (C : Env → Objs → Prop) (d : Option Nat) (n : Bool) (x : Opd) (y : Opd) (l : List AOper) (e : Env) (o : Objs) : runOps P K C (⟨d, none, .beq n x y⟩ :: l) e o = opK P K C d l e o (ev (look e) (lookO o) (.beq n x y)) := runOps_plain C d _ l e o rfl
theorem st_cvi (C : Env → Objs → Prop) (d : Option Nat) (k : IntKind) (x : Opd) (l : List AOper) (e : Env) (o : Objs) : runOps P K C (⟨d, none, .cvi k x⟩ :: l) e o = opK P K C d l e o (ev (look e) (lookO o) (.cvi k x)) := runOps_plain C d _ l e o rfl
theorem st_cvs (C : Env → Objs → Prop) (d : Option Nat) (x : Opd) (l : List AOper) (e : Env) (o : Objs) : runOps P K C (⟨d, none, .cvs x⟩ :: l) e o = opK P K C d l e o (ev (look e) (lookO o) (.cvs x)) := runOps_plain C d _ l e o rfl
theorem st_b2s (C : Env → Objs → Prop) (d : Option Nat) (x : Opd) (l : List AOper) (e : Env) (o : Objs) : runOps P K C (⟨d, none, .b2s x⟩ :: l) e o = opK P K C d l e o (ev (look e) (lookO o) (.b2s x)) := runOps_plain C d _ l e o rfl
theorem st_i2s (C : Env → Objs → Prop) (d : Option Nat) (x : Opd) (l : List AOper) (e : Env) (o : Objs) : runOps P K C (⟨d, none, .i2s x⟩ :: l) e o = opK P K C d l e o (ev (look e) (lookO o) (.i2s x)) := runOps_plain C d _ l e o rfl
theorem st_nilc (C : Env → Objs → Prop) (d : Option Nat) (x : Opd) (l : List AOper) (e : Env) (o : Objs) : runOps P K C (⟨d, none, .nilc x⟩ :: l) e o = opK P K C d l e o (ev (look e) (lookO o) (.nilc x)) := runOps_plain C d _ l e o rfl
theorem st_fld (C : Env → Objs → Prop) (d : Option Nat) (n : Nat) (x : Opd) (l : List AOper) (e : Env) (o : Objs) : runOps P K C (⟨d, none, .fld n x⟩ :: l) e o = opK P K C d l e o (ev (look e) (lookO o) (.fld n x)) := runOps_plain C d _ l e o rfl
theorem st_ldi (C : Env → Objs → Prop) (d : Option Nat) (n : Nat) (g : Bool) (x : Opd) (l : List AOper) (e : Env) (o : Objs) : runOps P K C (⟨d, none, .ldi n g x⟩ :: l) e o = opK P K C d l e o (ev (look e) (lookO o) (.ldi n g x)) := runOps_plain C d _ l e o rfl
theorem st_ldo (C : Env → Objs → Prop) (d : Option Nat) (id : Nat) (n : Nat) (g : Bool) (x : Opd) (l : List AOper) (e : Env) (o : Objs) : runOps P K C (⟨d, none, .ldo id n g x⟩ :: l) e o = opK P K C d l e o (ev (look e) (lookO o) (.ldo id n g x)) := runOps_plain C d _ l e o rfl
theorem st_sto (C : Env → Objs → Prop) (d : Option Nat) (id : Nat) (n : Nat) (x : Opd) (y : Opd) (l : List AOper) (e : Env) (o : Objs) : runOps P K C (⟨d, none, .sto id n x y⟩ :: l) e o = opK P K C d l e o (ev (look e) (lookO o) (.sto id n x y)) := runOps_plain C d _ l e o rfl
theorem st_ixi (C : Env → Objs → Prop) (d : Option Nat) (sz : Nat) (x : Opd) (i : Opd) (l : List AOper) (e : Env) (o : Objs) : runOps P K C (⟨d, none, .ixi sz x i⟩ :: l) e o = opK P K C d l e o (ev (look e) (lookO o) (.ixi sz x i)) := runOps_plain C d _ l e o rfl
theorem st_ixo (C : Env → Objs → Prop) (d : Option Nat) (id : Nat) (sz : Nat) (x : Opd) (i : Opd) (l : List AOper) (e : Env) (o : Objs) : runOps P K C (⟨d, none, .ixo id sz x i⟩ :: l) e o = opK P K C d l e o (ev (look e) (lookO o) (.ixo id sz x i)) := runOps_plain C d _ l e o rfl
theorem st_ixs (C : Env → Objs → Prop) (d : Option Nat) (x : Opd) (i : Opd) (l : List AOper) (e : Env) (o : Objs) : runOps P K C (⟨d, none, .ixs x i⟩ :: l) e o = opK P K C d l e o (ev (look e) (lookO o) (.ixs x i)) := runOps_plain C d _ l e o rfl
theorem st_sli (C : Env → Objs → Prop) (d : Option Nat) (sz : Nat) (x : Opd) (i : Option Opd) (j : Option Opd) (l : List AOper) (e : Env) (o : Objs) : runOps P K C (⟨d, none, .sli sz x i j⟩ :: l) e o = opK P K C d l e o (ev (look e) (lookO o) (.sli sz x i j)) := runOps_plain C d _ l e o rfl
theorem st_sls (C : Env → Objs → Prop) (d : Option Nat) (x : Opd) (i : Option Opd) (j : Option Opd) (l : List AOper) (e : Env) (o : Objs) : runOps P K C (⟨d, none, .sls x i j⟩ :: l) e o = opK P K C d l e o (ev (look e) (lookO o) (.sls x i j)) := runOps_plain C d _ l e o rfl
theorem st_boxi (C : Env → Objs → Prop) (d : Option Nat) (x : Opd) (l : List AOper) (e : Env) (o : Objs) : runOps P K C (⟨d, none, .boxi x⟩ :: l) e o = opK P K C d l e o (ev (look e) (lookO o) (.boxi x)) := runOps_plain C d _ l e o rfl
theorem st_boxo (C : Env → Objs → Prop) (d : Option Nat) (id : Nat) (x : Opd) (l : List AOper) (e : Env) (o : Objs) : runOps P K C (⟨d, none, .boxo id x⟩ :: l) e o = opK P K C d l e o (ev (look e) (lookO o) (.boxo id x)) := runOps_plain C d _ l e o rfl
theorem st_alo (C : Env → Objs → Prop) (d : Option Nat) (id : Nat) (zs : List Opd) (l : List AOper) (e : Env) (o : Objs) : runOps P K C (⟨d, none, .alo id zs⟩ :: l) e o = opK P K C d l e o (ev (look e) (lookO o) (.alo id zs)) := runOps_plain C d _ l e o rfl
theorem st_bld (C : Env → Objs → Prop) (d : Option Nat) (zs : List Opd) (ps : List (Nat × Nat × Opd)) (l : List AOper) (e : Env) (o : Objs) : runOps P K C (⟨d, none, .bld zs ps⟩ :: l) e o = opK P K C d l e o (ev (look e) (lookO o) (.bld zs ps)) := runOps_plain C d _ l e o rfl
theorem st_bsl (C : Env → Objs → Prop) (d : Option Nat) (sz : Nat) (ps : List Opd) (l : List AOper) (e : Env) (o : Objs) : runOps P K C (⟨d, none, .bsl sz ps⟩ :: l) e o = opK P K C d l e o (ev (look e) (lookO o) (.bsl sz ps)) := runOps_plain C d _ l e o rfl
theorem st_bso (C : Env → Objs → Prop) (d : Option Nat) (id : Nat) (t : Nat) (sz : Nat) (ps : List Opd) (l : List AOper) (e : Env) (o : Objs) : runOps P K C (⟨d, none, .bso id t sz ps⟩ :: l) e o = opK P K C d l e o (ev (look e) (lookO o) (.bso id t sz ps)) := runOps_plain C d _ l e o rfl
theorem st_len (C : Env → Objs → Prop) (d : Option Nat) (x : Opd) (l : List AOper) (e : Env) (o : Objs) : runOps P K C (⟨d, none, .len x⟩ :: l) e o = opK P K C d l e o (ev (look e) (lookO o) (.len x)) := runOps_plain C d _ l e o rfl
theorem st_leno (C : Env → Objs → Prop) (d : Option Nat) (id : Nat) (x : Opd) (l : List AOper) (e : Env) (o : Objs) : runOps P K C (⟨d, none, .leno id x⟩ :: l) e o = opK P K C d l e o (ev (look e) (lookO o) (.leno id x)) := runOps_plain C d _ l e o rfl
theorem st_lst (C : Env → Objs → Prop) (d : Option Nat) (x : Opd) (l : List AOper) (e : Env) (o : Objs) : runOps P K C (⟨d, none, .lst x⟩ :: l) e o = opK P K C d l e o (ev (look e) (lookO o) (.lst x)) := runOps_plain C d _ l e o rfl
theorem st_app (C : Env → Objs → Prop) (d : Option Nat) (id : Nat) (t : Nat) (sz : Nat) (n : Nat) (x : Opd) (y : Opd) (l : List AOper) (e : Env) (o : Objs) : runOps P K C (⟨d, none, .app id t sz n x y⟩ :: l) e o = opK P K C d l e o (ev (look e) (lookO o) (.app id t sz n x y)) := runOps_plain C d _ l e o rfl

theorem runOps_call (C : Env → Objs → Prop) (d : Option Nat) (g : FuncId) (args : List Opd) (ids : List Nat) (l : List AOper) (e : Env) (o : Objs) :
    runOps P K C (⟨d, none, .call g args ids⟩ :: l) e o = callK P K C d g (!ids.isEmpty) l e o (peek (lookO o) ids (args.map (·.av (look e)))) := by
  simp only [runOps, run1, callK, upL]
  congr
  funext xs
  congr
  funext r
  cases ids <;> simp

theorem st_yy (C : Env → Objs → Prop) (d : Option Nat) (op : YOp) (l : List AOper) (e : Env) (o : Objs) : runOps P K C (⟨d, none, .yy op⟩ :: l) e o = opK P K C d l e o (evY (look e) (lookO o) op) := runOps_plain C d _ l e o rfl

/-- A call of a function value. -/
def callD (P : Program) (K : World → Prop) (C : Env → Objs → Prop) (d : Option Nat) (own : Bool) (l : List AOper) (e : Env) (o : Objs) (xs : Option (List IV)) : AV → Prop
  | .iv (.fn g) => callee P g = true ∧ callK P K C d g own l e o xs
  | _ => False
@[simp] theorem callD_fn (C : Env → Objs → Prop) (d : Option Nat) (own : Bool) (l : List AOper) (e : Env) (o : Objs) (xs : Option (List IV)) (g : FuncId) : callD P K C d own l e o xs (.iv (.fn g)) = (callee P g = true ∧ callK P K C d g own l e o xs) := rfl

theorem runOps_calld (C : Env → Objs → Prop) (d : Option Nat) (x : Opd) (args : List Opd) (ids : List Nat) (l : List AOper) (e : Env) (o : Objs) :
    runOps P K C (⟨d, none, .calld x args ids⟩ :: l) e o = callD P K C d (!ids.isEmpty) l e o (peek (lookO o) ids (args.map (·.av (look e)))) (x.av (look e)) := by
  apply propext
  simp only [runOps, run1]
  constructor
  · rintro ⟨g, xs, r, h0, h1, h2, h3, h4, h5⟩
    rw [h0]
    exact ⟨h1, xs, r, h2, h3, by cases ids <;> simp at h4 ⊢; exact h4, h5⟩
  · intro h
    generalize hx : x.av (look e) = xv at h
    unfold callD at h
    split at h
    · rename_i g
      obtain ⟨h1, xs, r, h2, h3, h4, h5⟩ := h
      exact ⟨g, xs, r, rfl, h1, h2, h3, by cases ids <;> simp at h4 ⊢; exact h4, h5⟩
    · exact h.elim

/-- A row is handed through a call: what it is now. -/
def callRK (P : Program) (K : World → Prop) (C : Env → Objs → Prop) (d : Option Nat) (g : FuncId) (id : Nat) (l : List AOper) (e : Env) (o : Objs) (xs : Option (List IV)) (x : AV) (ob : Option AO) : Prop :=
  rowK P K g id (fun v up => runOps P K C l (bnd d v e) (upL up o)) xs x ob
theorem runOps_callr (C : Env → Objs → Prop) (d : Option Nat) (g : FuncId) (x : Opd) (args : List Opd) (id : Nat) (l : List AOper) (e : Env) (o : Objs) :
    runOps P K C (⟨d, none, .callr g x args id⟩ :: l) e o = callRK P K C d g id l e o (ivs (args.map (·.av (look e)))) (x.av (look e)) (lookO o id) := rfl
theorem callR_arr {C : Env → Objs → Prop} {d : Option Nat} {g : FuncId} {id mv : Nat} {t : TypeId} {sz : Nat} {l : List AOper} {e : Env} {o : Objs} {ys : List IV} {rows rows' : List (List IV)} (hg : GoodR P K g t sz rows ys rows')
    (h : runOps P K C l (bnd d (.aref id rows'.length) e) (setOL id (.arr t sz (rows'.map (List.map AV.iv)) rows'.length) o)) : callRK P K C d g id l e o (some ys) (.aref id rows.length) (some (.arr t sz (rows.map (List.map AV.iv)) mv)) :=
  ⟨ys, rows, rows', rfl, rfl, ivss_map rows, by simp, hg, h⟩
theorem callR_map {C : Env → Objs → Prop} {d : Option Nat} {g : FuncId} {id : Nat} {t : TypeId} {sz : Nat} {l : List AOper} {e : Env} {o : Objs} {ys : List IV} {kvs : List (MK × List (List IV))} {k : MK} {n : Nat} {rows' : List (List IV)} (hn : ((mfind k kvs).getD []).length = n) (hg : GoodR P K g t sz ((mfind k kvs).getD []) ys rows')
    (h : runOps P K C l (bnd d (.mref id k rows'.length) e) (setOL id (.mapr t sz (mins k rows' kvs) (some k)) o)) : callRK P K C d g id l e o (some ys) (.mref id k n) (some (.mapr t sz kvs none)) :=
  ⟨ys, rows', rfl, rfl, hn, hg, h⟩

theorem runOps_callo (C : Env → Objs → Prop) (d : Option Nat) (g : FuncId) (args : List Opd) (ids : List Nat) (id : Nat) (l : List AOper) (e : Env) (o : Objs) :
    runOps P K C (⟨d, none, .callo g args ids id⟩ :: l) e o = callO P K C d g id ids l e o (ivs (args.map (·.av (look e)))) := rfl
theorem callO_of {C : Env → Objs → Prop} {d : Option Nat} {g : FuncId} {id : Nat} {l : List AOper} {e : Env} {o : Objs} {ys : List IV} {q : AV} {t : TypeId} {sz : Nat} {rows : List (List IV)} {mv : Nat} (hg : GoodO P K g ys q t sz rows mv) (hid : lookO o id = none)
    (h : runOps P K C l (bnd d (ren id q) e) (setOL id (.arr t sz (rows.map (List.map AV.iv)) mv) o)) : callO P K C d g id [] l e o (some ys) := ⟨ys, q, t, sz, rows, mv, rfl, rfl, hg, hid, h⟩

theorem runOps_guard (C : Env → Objs → Prop) (d : Option Nat) (t : Nat) (b : Bool) (op : AOp) (l : List AOper) (e : Env) (o : Objs) :
    runOps P K C (⟨d, some (t, b), op⟩ :: l) e o = gK P K C d t b op l e o (look e t) := by
  simp only [runOps]
  generalize look e t = v
  cases v with
  | iv x =>
    cases x with
    | tup cs => cases cs <;> rfl
    | _ => rfl
  | _ => rfl

theorem callK_of {C : Env → Objs → Prop} {d : Option Nat} {g : FuncId} {own : Bool} {l : List AOper} {e : Env} {o : Objs} {ys : List IV} {r : IV} (hg : Good P K g ys r) (hs : own = false ∨ scalar r = true)
    (h : runOps P K C l (bnd d (.iv r) e) o) : callK P K C d g own l e o (some ys) := ⟨ys, r, rfl, hg, hs, h⟩

theorem Wp_skip (k : List AI) (e : Env) (o : Objs) : WpF P K F (.code .skip :: k) e o ↔ WpF P K F k e o :=
  ⟨fun h => by cases h; assumption, .skip k e o⟩
theorem Wp_seq (x y : AC) (k : List AI) (e : Env) (o : Objs) : WpF P K F (.code (.seq x y) :: k) e o ↔ WpF P K F (.code x :: .code y :: k) e o :=
  ⟨fun h => by cases h; assumption, .seq x y k e o⟩
theorem Wp_ops (l : List AOper) (draw : Bool) (k : List AI) (e : Env) (o : Objs) : WpF P K F (.code (.ops l draw) :: k) e o ↔ runOps P K (WpF P K F k) l e o :=
  ⟨fun h => by cases h with | region _ _ _ _ _ C h hC => exact runOps_mono hC l e o h, fun h => .region l draw k e o _ h fun _ _ h => h⟩
theorem Wp_cond (c : Opd) (x y : AC) (k : List AI) (e : Env) (o : Objs) : WpF P K F (.code (.cond c x y) :: k) e o ↔ condK (WpF P K F (.code x :: k) e o) (WpF P K F (.code y :: k) e o) (c.av (look e)) := by
  constructor
  · intro h
    cases h with
    | cond _ _ _ _ _ _ b hc ht hf => rw [hc]; exact ⟨ht, hf⟩
  · intro h
    unfold condK at h
    split at h
    · rename_i b hb
      exact .cond c x y k e o b hb h.1 h.2
    · exact h.elim
theorem Wp_block (id : Nat) (c : AC) (k : List AI) (e : Env) (o : Objs) : WpF P K F (.code (.block id c) :: k) e o ↔ WpF P K F (.code c :: .inBlock id :: k) e o :=
  ⟨fun h => by cases h; assumption, .block id c k e o⟩
theorem Wp_inBlock (id : Nat) (k : List AI) (e : Env) (o : Objs) : WpF P K F (.inBlock id :: k) e o ↔ WpF P K F k e o :=
  ⟨fun h => by cases h; assumption, .inBlock id k e o⟩
theorem Wp_scope (c : AC) (k : List AI) (e : Env) (o : Objs) : WpF P K F (.code (.scope c) :: k) e o ↔ WpF P K F (.code c :: .inScope :: k) e o :=
  ⟨fun h => by cases h; assumption, .scope c k e o⟩
theorem Wp_inScope (k : List AI) (e : Env) (o : Objs) : WpF P K F (.inScope :: k) e o ↔ WpF P K F k e o :=
  ⟨fun h => by cases h; assumption, .inScope k e o⟩
theorem Wp_label (l : Nat) (k : List AI) (e : Env) (o : Objs) : WpF P K F (.code (.label l) :: k) e o ↔ WpF P K F k e o :=
  ⟨fun h => by cases h; assumption, .label l k e o⟩
theorem Wp_ret (k : List AI) (e : Env) (o : Objs) : WpF P K F (.code .ret :: k) e o ↔ F e o :=
  ⟨fun h => by cases h; assumption, .ret k e o⟩
theorem Wp_nil (e : Env) (o : Objs) : WpF P K F [] e o ↔ F e o :=
  ⟨fun h => by cases h; assumption, .done e o⟩

/-- The steps of a loop over a map. -/
def nxtK (P : Program) (K : World → Prop) (F : Env → Objs → Prop) (d dx id : Nat) (k : List AI) (e : Env) (o : Objs) : AV → Option AO → Prop
  | .oref i, some (.miter kvs seen) => i = id ∧ ((∀ i, i < kvs.length → i ∈ seen) → WpF P K F k ((dx, .iv (.bool false)) :: (d, .iv (.tup [.bool false])) :: e) o) ∧
      (∀ i q, kvs[i]? = some q → i ∉ seen → WpF P K F k ((dx, .iv (.bool true)) :: (d, .iv (.tup [.bool true, q.1.iv, q.2])) :: e) (setOL id (.miter kvs (i :: seen)) o))
  | _, _ => False
@[simp] theorem nxtK_iter (d dx id : Nat) (k : List AI) (e : Env) (o : Objs) (i : Nat) (kvs : List (MK × IV)) (seen : List Nat) : nxtK P K F d dx id k e o (.oref i) (some (.miter kvs seen)) =
    (i = id ∧ ((∀ i, i < kvs.length → i ∈ seen) → WpF P K F k ((dx, .iv (.bool false)) :: (d, .iv (.tup [.bool false])) :: e) o) ∧
      (∀ i q, kvs[i]? = some q → i ∉ seen → WpF P K F k ((dx, .iv (.bool true)) :: (d, .iv (.tup [.bool true, q.1.iv, q.2])) :: e) (setOL id (.miter kvs (i :: seen)) o))) := rfl
theorem Wp_nxt (d dx : Nat) (x : Opd) (id : Nat) (k : List AI) (e : Env) (o : Objs) : WpF P K F (.code (.nxt d dx x id) :: k) e o ↔ nxtK P K F d dx id k e o (x.av (look e)) (lookO o id) := by
  constructor
  · intro h
    cases h with
    | nxt _ _ _ _ _ _ _ kvs seen hx ho hend hmore =>
      rw [hx, ho]
      exact ⟨rfl, hend, hmore⟩
  · intro h
    generalize hx : x.av (look e) = xv at h
    generalize ho : lookO o id = ov at h
    unfold nxtK at h
    split at h
    · obtain ⟨rfl, h1, h2⟩ := h
      exact .nxt d dx x _ k e o _ _ hx ho h1 h2
    · exact h.elim

def ghK (P : Program) (K : World → Prop) (F : Env → Objs → Prop) (id bid off : Nat) (t : TypeId) (sz : Nat) (c : AC) (k : List AI) (e : Env) (o : Objs) : Option AO → Option AO → Prop
  | none, some (.box cs) => cs[off]? = some (.nilr sz) ∧ WpF P K F (.code c :: k) e (setOL bid (.box (cs.set off (.aref id 0))) (setOL id (.arr t sz [] 0) o))
  | _, _ => False
@[simp] theorem ghK_box (id bid off : Nat) (t : TypeId) (sz : Nat) (c : AC) (k : List AI) (e : Env) (o : Objs) (cs : List AV) : ghK P K F id bid off t sz c k e o none (some (.box cs)) =
    (cs[off]? = some (.nilr sz) ∧ WpF P K F (.code c :: k) e (setOL bid (.box (cs.set off (.aref id 0))) (setOL id (.arr t sz [] 0) o))) := rfl
theorem Wp_gh (id bid off : Nat) (t : TypeId) (sz : Nat) (c : AC) (k : List AI) (e : Env) (o : Objs) : WpF P K F (.code (.gh id bid off t sz c) :: k) e o ↔ ghK P K F id bid off t sz c k e o (lookO o id) (lookO o bid) := by
  constructor
  · intro h
    cases h with
    | gh _ _ _ _ _ _ _ _ _ cs hid hb hc h =>
      rw [hid, hb]
      exact ⟨hc, h⟩
  · intro h
    generalize hx : lookO o id = xv at h
    generalize ho : lookO o bid = ov at h
    unfold ghK at h
    split at h
    · exact .gh id bid off t sz c k e o _ hx ho h.1 h.2
    · exact h.elim

def exitK (P : Program) (K : World → Prop) (F : Env → Objs → Prop) (e : Env) (o : Objs) : Option (List AI) → Prop
  | some k => WpF P K F k e o
  | none => False
@[simp] theorem exitK_some (k : List AI) (e : Env) (o : Objs) : exitK P K F e o (some k) = WpF P K F k e o := rfl
theorem Wp_exit (id : Nat) (k : List AI) (e : Env) (o : Objs) : WpF P K F (.code (.exit id) :: k) e o ↔ exitK P K F e o (exitA id k) := by
  constructor
  · intro h
    cases h with
    | exit _ _ k' _ _ hk h => rw [hk]; exact h
  · intro h
    unfold exitK at h
    split at h
    · rename_i k' hk
      exact .exit id k k' e o hk h
    · exact h.elim

theorem Wp_loop (c : AC) (ks ids : List Nat) (k : List AI) (e : Env) (o : Objs) : WpF P K F (.code (.loop c ks ids) :: k) e o ↔ WpF P K F (.inLoop c ks ids :: k) e o :=
  ⟨fun h => by cases h; exact .inLoop _ _ _ _ _ _ (by assumption), fun h => by cases h; exact .loop _ _ _ _ _ _ (by assumption)⟩

/-- The loop's head: what is given up at it is given up already. -/
theorem Wp_inLoop_keep (c : AC) (ks ids : List Nat) (k : List AI) (e : Env) (o : Objs) : WpF P K F (.inLoop c ks ids :: k) e o ↔ WpF P K F (.code c :: .inLoop c ks ids :: k) (keepE ks ids e) (keepO ids o ids) :=
  ⟨fun h => by cases h; assumption, fun h => .inLoop _ _ _ _ _ _ h⟩

/-- The loop's head, the slots and objects that live on given. -/
def LoopF (P : Program) (K : World → Prop) (F : Env → Objs → Prop) (c : AC) (ks ids : List Nat) (k : List AI) (e : Env) (o : Objs) : Prop :=
  WpF P K F (.code c :: .inLoop c ks ids :: k) e o

theorem RetIs_eq (res : List ARes) (r : IV) (e : Env) (o : Objs) : RetIs res r e o = (retV res e o = some r) := rfl

theorem Wp_inLoop (c : AC) (ks ids : List Nat) (k : List AI) (e : Env) (o : Objs) : WpF P K F (.inLoop c ks ids :: k) e o ↔ LoopF P K F c ks ids k (keepE ks ids e) (keepO ids o ids) := Wp_inLoop_keep c ks ids k e o
theorem LoopAt_iff (c : AC) (ks ids : List Nat) (k : List AI) (e : Env) (o : Objs) : LoopF P K F c ks ids k e o ↔ WpF P K F (.code c :: .inLoop c ks ids :: k) e o := Iff.rfl

/-- A loop that goes up to n. -/
theorem loop_up {c : AC} {ks ids : List Nat} {k : List AI} (st : Nat → Env) (so : Nat → Objs) (n : Nat) (hn : LoopF P K F c ks ids k (st n) (so n))
    (hs : ∀ i, i < n → LoopF P K F c ks ids k (st (i + 1)) (so (i + 1)) → LoopF P K F c ks ids k (st i) (so i)) : LoopF P K F c ks ids k (st 0) (so 0) := by
  have : ∀ m, m ≤ n → LoopF P K F c ks ids k (st (n - m)) (so (n - m)) := by
    intro m
    induction m with
    | zero => intro _; simpa using hn
    | succ m ih =>
      intro hm
      have h1 := ih (by omega)
      have e1 : n - m = (n - (m + 1)) + 1 := by omega
      rw [e1] at h1
      exact hs _ (by omega) h1
  have := this n (Nat.le_refl _)
  simpa using this

end

attribute [simp] st_mov st_nilo st_pick st_ext st_not st_bin st_beq st_cvi st_cvs st_b2s st_i2s st_nilc st_fld st_ldi st_ldo st_sto st_ixi st_ixo st_ixs st_sli st_sls st_boxi st_boxo st_alo st_bld st_bsl st_bso st_len st_leno st_lst st_app st_yy
attribute [simp] RetIs_eq runOps_nil runOps_call runOps_callo runOps_calld runOps_callr runOps_guard Wp_nxt Wp_gh Wp_skip Wp_seq Wp_scope Wp_inScope Wp_label Wp_ops Wp_cond Wp_block Wp_inBlock Wp_ret Wp_nil Wp_exit Wp_loop Wp_inLoop
attribute [simp] look lookO bnd setE setOL upL ev Opd.av evPick evExt evNot evBin evInt evBeq evCvi evCvs evB2s evI2s evNilc evFld evLdi evLdo evSto evIxi evIxo evIxs evSli evSls evBoxi evBoxo evLen evLeno evLst evApp evY keyOf MK.iv MK.kind
attribute [simp] AV.iv? ivs mkAgg AV.cells fillA rowsA ivss byteOf bytesOf optNat exitA keepE keepO scr scrL scrO resV resVs retV imm imms immss argEnv peek scalar scalars ren renL retA EndO

end Go.Ev

/- Rules for loops, and for how numbers are reckoned. -/
namespace Go.Ev
open Go Go.RowKit
section
variable {P : Program} {K : World → Prop} {F : Env → Objs → Prop}

/-- A loop that goes up to n, or leaves before; what is known at its head. -/
theorem loop_q {c : AC} {ks ids : List Nat} {k : List AI} (st : Nat → Env) (so : Nat → Objs) (n : Nat) (Q : Nat → Prop) (h0 : Q 0)
    (hn : Q n → LoopF P K F c ks ids k (st n) (so n))
    (hs : ∀ i, i < n → Q i → (Q (i + 1) → LoopF P K F c ks ids k (st (i + 1)) (so (i + 1))) → LoopF P K F c ks ids k (st i) (so i)) : LoopF P K F c ks ids k (st 0) (so 0) := by
  have : ∀ m, m ≤ n → Q (n - m) → LoopF P K F c ks ids k (st (n - m)) (so (n - m)) := by
    intro m
    induction m with
    | zero => intro _ h; simpa using hn (by simpa using h)
    | succ m ih =>
      intro hm hq
      have h1 := ih (by omega)
      have e1 : n - m = (n - (m + 1)) + 1 := by omega
      rw [e1] at h1
      exact hs _ (by omega) hq h1
  have := this n (Nat.le_refl _)
  simp at this
  exact this h0

/-- A loop with a state that is found out as it goes. -/
theorem loop_i {c : AC} {ks ids : List Nat} {k : List AI} (n : Nat) (I : Nat → Env → Objs → Prop)
    (hn : ∀ e o, I n e o → LoopF P K F c ks ids k e o)
    (hs : ∀ i e o, i < n → I i e o → (∀ e' o', I (i + 1) e' o' → LoopF P K F c ks ids k e' o') → LoopF P K F c ks ids k e o)
    (e : Env) (o : Objs) (h0 : I 0 e o) : LoopF P K F c ks ids k e o := by
  have : ∀ m, m ≤ n → ∀ e o, I (n - m) e o → LoopF P K F c ks ids k e o := by
    intro m
    induction m with
    | zero => intro _ e o h; exact hn e o (by simpa using h)
    | succ m ih =>
      intro hm e o hi
      have h1 := ih (by omega)
      have e1 : n - m = (n - (m + 1)) + 1 := by omega
      rw [e1] at h1
      exact hs _ e o (by omega) hi h1
  exact this n (Nat.le_refl _) e o (by simpa using h0)
end

section
variable {P : Program} {K : World → Prop} {F : Env → Objs → Prop}
/-- A loop over a map's entries, in whichever order they come. -/
theorem loop_seen {c : AC} {ks ids : List Nat} {k : List AI} (st : List Nat → Env) (so : List Nat → Objs) (n : Nat) (I : List Nat → Prop)
    (h : ∀ seen, I seen → (∀ i, i < n → i ∉ seen → I (i :: seen) → LoopF P K F c ks ids k (st (i :: seen)) (so (i :: seen))) → LoopF P K F c ks ids k (st seen) (so seen)) :
    ∀ seen, I seen → LoopF P K F c ks ids k (st seen) (so seen) := by
  have : ∀ m seen, ((List.range n).filter (fun i => !seen.contains i)).length ≤ m → I seen → LoopF P K F c ks ids k (st seen) (so seen) := by
    intro m
    induction m with
    | zero =>
      intro seen hm hI
      refine h seen hI fun i hi hns _ => ?_
      have : i ∈ (List.range n).filter (fun i => !seen.contains i) := by simp [hi, hns]
      have h0 : (List.range n).filter (fun i => !seen.contains i) = [] := List.eq_nil_of_length_eq_zero (by omega)
      rw [h0] at this
      cases this
    | succ m ih =>
      intro seen hm hI
      refine h seen hI fun i hi hns hI' => ih (i :: seen) ?_ hI'
      have hsub : ((List.range n).filter (fun j => !(i :: seen).contains j)) = ((List.range n).filter (fun j => !seen.contains j)).filter (fun j => j != i) := by
        rw [List.filter_filter]
        congr 1
        funext j
        simp only [List.contains_cons, Bool.not_or]
        rfl
      rw [hsub]
      have hmem : i ∈ (List.range n).filter (fun i => !seen.contains i) := by simp [hi, hns]
      have := (List.length_filter_lt_length_iff_exists (p := fun j => j != i)).2 ⟨i, hmem, by simp⟩
      omega
  exact fun seen hI => this _ seen (Nat.le_refl _) hI
end

section
variable {P : Program} {K : World → Prop} {F : Env → Objs → Prop}
theorem LoopAt_enter {c c' : AC} (h : c = c') (ks ids : List Nat) (k : List AI) (e : Env) (o : Objs) : LoopF P K F c ks ids k e o ↔ WpF P K F (.code c' :: .inLoop c ks ids :: k) e o := by subst h; exact Iff.rfl

theorem LoopAt_congr {c : AC} {ks ids : List Nat} {k : List AI} {e e' : Env} {o o' : Objs} (h1 : e = e') (h2 : o = o') : LoopF P K F c ks ids k e o = LoopF P K F c ks ids k e' o' := by subst h1 h2; rfl
theorem Wp_congr {k : List AI} {e e' : Env} {o o' : Objs} (h1 : e = e') (h2 : o = o') : WpF P K F k e o = WpF P K F k e' o' := by subst h1 h2; rfl
theorem runOps_congr {C : Env → Objs → Prop} {l l' : List AOper} {e e' : Env} {o o' : Objs} (h0 : l = l') (h1 : e = e') (h2 : o = o') : runOps P K C l e o = runOps P K C l' e' o' := by subst h0 h1 h2; rfl
theorem opK_congr {C : Env → Objs → Prop} {d : Option Nat} {l : List AOper} {e : Env} {o : Objs} {R R' : Res} (h : R = R') : opK P K C d l e o R = opK P K C d l e o R' := by subst h; rfl
theorem gK_congr {C : Env → Objs → Prop} {d : Option Nat} {t : Nat} {b : Bool} {op : AOp} {l : List AOper} {e : Env} {o : Objs} {v v' : AV} (h : v = v') : gK P K C d t b op l e o v = gK P K C d t b op l e o v' := by subst h; rfl
theorem callK_congr {C : Env → Objs → Prop} {d : Option Nat} {g : FuncId} {own own' : Bool} {l : List AOper} {e : Env} {o : Objs} {v v' : Option (List IV)} (h : own = own') (h' : v = v') : callK P K C d g own l e o v = callK P K C d g own' l e o v' := by subst h h'; rfl
theorem condK_congr {X Y : Prop} {v v' : AV} (h : v = v') : condK X Y v = condK X Y v' := by subst h; rfl
end

@[simp] theorem inR_i64 (n : Int) : IntKind.inR .i64 n ↔ -9223372036854775808 ≤ n ∧ n ≤ 9223372036854775807 := Iff.rfl
@[simp] theorem inR_u64 (n : Int) : IntKind.inR .u64 n ↔ 0 ≤ n ∧ n ≤ 18446744073709551615 := Iff.rfl
@[simp] theorem inR_u8 (n : Int) : IntKind.inR .u8 n ↔ 0 ≤ n ∧ n ≤ 255 := Iff.rfl
@[simp] theorem inR_i32 (n : Int) : IntKind.inR .i32 n ↔ -2147483648 ≤ n ∧ n ≤ 2147483647 := Iff.rfl
theorem maxLen_val : maxLen = 9223372036854775807 := rfl

theorem wrap_i64 {n : Int} (h : -9223372036854775808 ≤ n) (h' : n ≤ 9223372036854775807) : IntKind.wrap .i64 n = n := by
  unfold IntKind.wrap
  simp [IntKind.bits, IntKind.signed]
  omega
theorem wrap_u64 {n : Int} (h : 0 ≤ n) (h' : n ≤ 18446744073709551615) : IntKind.wrap .u64 n = n := by
  unfold IntKind.wrap
  simp [IntKind.bits, IntKind.signed]
  omega
theorem wrap_u8 {n : Int} (h : 0 ≤ n) (h' : n ≤ 255) : IntKind.wrap .u8 n = n := by
  unfold IntKind.wrap
  simp [IntKind.bits, IntKind.signed]
  omega

end Go.Ev

/- How shifts and bits are reckoned, on natural numbers. -/
namespace Go.Ev
open Go Go.RowKit

theorem shr_nat (k : IntKind) (hk : k.bits = 64) (a i : Nat) (ha : a < 2 ^ 64) : shrV k (a : Int) (i : Int) = ((a >>> i : Nat) : Int) := by
  unfold shrV
  rw [hk]
  have : ((i : Int)).toNat = i := rfl
  rw [this]
  have e : (2 ^ (min i 64) : Int) = ((2 ^ (min i 64) : Nat) : Int) := by push_cast; rfl
  rw [e, Int.fdiv_eq_ediv_of_nonneg _ (Int.natCast_nonneg _), ← Int.natCast_ediv, Nat.shiftRight_eq_div_pow]
  by_cases h : i ≤ 64
  · rw [Nat.min_eq_left h]
  · rw [Nat.min_eq_right (by omega), Nat.div_eq_of_lt ha, Nat.div_eq_of_lt]
    exact Nat.lt_of_lt_of_le ha (Nat.pow_le_pow_right (by omega) (by omega))

theorem shl_u64 (a i : Nat) (hi : i < 64) (ha : a * 2 ^ i < 2 ^ 64) : shlV .u64 (a : Int) (i : Int) = ((a * 2 ^ i : Nat) : Int) := by
  unfold shlV
  have : ((i : Int)).toNat = i := rfl
  rw [this, show (IntKind.u64).bits = 64 from rfl, Nat.min_eq_left (by omega)]
  have e : (a : Int) * (2 ^ i : Int) = ((a * 2 ^ i : Nat) : Int) := by push_cast; rfl
  rw [e]
  exact wrap_u64 (Int.natCast_nonneg _) (by omega)
theorem shl_i64 (a i : Nat) (hi : i < 64) (ha : a * 2 ^ i < 2 ^ 63) : shlV .i64 (a : Int) (i : Int) = ((a * 2 ^ i : Nat) : Int) := by
  unfold shlV
  have : ((i : Int)).toNat = i := rfl
  rw [this, show (IntKind.i64).bits = 64 from rfl, Nat.min_eq_left (by omega)]
  have e : (a : Int) * (2 ^ i : Int) = ((a * 2 ^ i : Nat) : Int) := by push_cast; rfl
  rw [e]
  exact wrap_i64 (by omega) (by omega)

theorem ofInt_toNat (a : Nat) (ha : a < 2 ^ 64) : (BitVec.ofInt 64 (a : Int)).toNat = a := by
  simp
  omega

theorem and_u64 (a b : Nat) (ha : a < 2 ^ 64) (hb : b < 2 ^ 64) : bitOp .and .u64 (a : Int) (b : Int) = ((a &&& b : Nat) : Int) := by
  show IntKind.wrap .u64 ((BitVec.ofInt 64 (a : Int) &&& BitVec.ofInt 64 (b : Int)).toNat : Int) = _
  rw [BitVec.toNat_and, ofInt_toNat a (by omega), ofInt_toNat b (by omega)]
  have : a &&& b < 2 ^ 64 := Nat.and_lt_two_pow _ hb
  exact wrap_u64 (Int.natCast_nonneg _) (by omega)
theorem or_u64 (a b : Nat) (ha : a < 2 ^ 64) (hb : b < 2 ^ 64) : bitOp .or .u64 (a : Int) (b : Int) = ((a ||| b : Nat) : Int) := by
  show IntKind.wrap .u64 ((BitVec.ofInt 64 (a : Int) ||| BitVec.ofInt 64 (b : Int)).toNat : Int) = _
  rw [BitVec.toNat_or, ofInt_toNat a (by omega), ofInt_toNat b (by omega)]
  have : a ||| b < 2 ^ 64 := Nat.or_lt_two_pow ha hb
  exact wrap_u64 (Int.natCast_nonneg _) (by omega)
theorem xor_u64 (a b : Nat) (ha : a < 2 ^ 64) (hb : b < 2 ^ 64) : bitOp .xor .u64 (a : Int) (b : Int) = ((a ^^^ b : Nat) : Int) := by
  show IntKind.wrap .u64 ((BitVec.ofInt 64 (a : Int) ^^^ BitVec.ofInt 64 (b : Int)).toNat : Int) = _
  rw [BitVec.toNat_xor, ofInt_toNat a (by omega), ofInt_toNat b (by omega)]
  have : a ^^^ b < 2 ^ 64 := Nat.xor_lt_two_pow ha hb
  exact wrap_u64 (Int.natCast_nonneg _) (by omega)
theorem and_i64 (a b : Nat) (ha : a < 2 ^ 63) (hb : b < 2 ^ 63) : bitOp .and .i64 (a : Int) (b : Int) = ((a &&& b : Nat) : Int) := by
  show IntKind.wrap .i64 ((BitVec.ofInt 64 (a : Int) &&& BitVec.ofInt 64 (b : Int)).toNat : Int) = _
  rw [BitVec.toNat_and, ofInt_toNat a (by omega), ofInt_toNat b (by omega)]
  have : a &&& b < 2 ^ 63 := Nat.and_lt_two_pow _ hb
  exact wrap_i64 (by omega) (by omega)
theorem or_i64 (a b : Nat) (ha : a < 2 ^ 63) (hb : b < 2 ^ 63) : bitOp .or .i64 (a : Int) (b : Int) = ((a ||| b : Nat) : Int) := by
  show IntKind.wrap .i64 ((BitVec.ofInt 64 (a : Int) ||| BitVec.ofInt 64 (b : Int)).toNat : Int) = _
  rw [BitVec.toNat_or, ofInt_toNat a (by omega), ofInt_toNat b (by omega)]
  have : a ||| b < 2 ^ 63 := Nat.or_lt_two_pow ha hb
  exact wrap_i64 (by omega) (by omega)
theorem xor_i64 (a b : Nat) (ha : a < 2 ^ 63) (hb : b < 2 ^ 63) : bitOp .xor .i64 (a : Int) (b : Int) = ((a ^^^ b : Nat) : Int) := by
  show IntKind.wrap .i64 ((BitVec.ofInt 64 (a : Int) ^^^ BitVec.ofInt 64 (b : Int)).toNat : Int) = _
  rw [BitVec.toNat_xor, ofInt_toNat a (by omega), ofInt_toNat b (by omega)]
  have : a ^^^ b < 2 ^ 63 := Nat.xor_lt_two_pow ha hb
  exact wrap_i64 (by omega) (by omega)

theorem and_one (a : Nat) (i : Nat) : (a >>> i) &&& 1 = (a.testBit i).toNat := by
  rw [Nat.testBit, Nat.and_comm]
  have h := Nat.one_and_eq_mod_two (a >>> i)
  rw [h]
  rcases Nat.mod_two_eq_zero_or_one (a >>> i) with e | e <;> simp [e]

theorem bit_u64 (a i : Nat) (ha : a < 2 ^ 64) : bitOp .and .u64 (shrV .u64 (a : Int) (i : Int)) 1 = ((a.testBit i).toNat : Int) := by
  rw [shr_nat _ rfl a i ha]
  have h : a >>> i < 2 ^ 64 := Nat.lt_of_le_of_lt (by rw [Nat.shiftRight_eq_div_pow]; exact Nat.div_le_self _ _) ha
  have := and_u64 (a >>> i) 1 h (by omega)
  rw [and_one] at this
  simpa using this
theorem bit_i64 (a i : Nat) (ha : a < 2 ^ 63) : bitOp .and .i64 (shrV .i64 (a : Int) (i : Int)) 1 = ((a.testBit i).toNat : Int) := by
  rw [shr_nat _ rfl a i (by omega)]
  have h : a >>> i < 2 ^ 63 := Nat.lt_of_le_of_lt (by rw [Nat.shiftRight_eq_div_pow]; exact Nat.div_le_self _ _) ha
  have := and_i64 (a >>> i) 1 h (by omega)
  rw [and_one] at this
  simpa using this

theorem toNat_one (b : Bool) : ((b.toNat : Int) = 1) ↔ b = true := by cases b <;> simp
theorem toNat_le_one (b : Bool) : b.toNat ≤ 1 := by cases b <;> decide

end Go.Ev

/- Rows of data inside an own object. -/
namespace Go.Ev
open Go Go.RowKit

/-- Rows of data, as rows of an own object. -/
def emb (L : List (List IV)) : List (List AV) := L.map (List.map AV.iv)

@[simp] theorem emb_length (L : List (List IV)) : (emb L).length = L.length := by simp [emb]
@[simp] theorem emb_app (L ys : List (List IV)) : emb L ++ List.map (List.map AV.iv) ys = emb (L ++ ys) := by simp [emb]
@[simp] theorem emb_app1 (L : List (List IV)) (a : IV) : emb L ++ [[.iv a]] = emb (L ++ [[a]]) := by simp [emb]
@[simp] theorem emb_app2 (L : List (List IV)) (a b : IV) : emb L ++ [[.iv a, .iv b]] = emb (L ++ [[a, b]]) := by simp [emb]
@[simp] theorem emb_app3 (L : List (List IV)) (a b c : IV) : emb L ++ [[.iv a, .iv b, .iv c]] = emb (L ++ [[a, b, c]]) := by simp [emb]
@[simp] theorem emb_app4 (L : List (List IV)) (a b c d : IV) : emb L ++ [[.iv a, .iv b, .iv c, .iv d]] = emb (L ++ [[a, b, c, d]]) := by simp [emb]
@[simp] theorem emb_app0 (L : List (List IV)) : emb L ++ [] = emb L := List.append_nil _
@[simp] theorem emb_take (L : List (List IV)) (n : Nat) : (emb L).take n = emb (L.take n) := by simp [emb, List.map_take]
@[simp] theorem emb_get (L : List (List IV)) (n : Nat) : (emb L)[n]? = (L[n]?).map (List.map AV.iv) := by simp [emb]
@[simp] theorem emb_getElem (L : List (List IV)) (n : Nat) (h : n < (emb L).length) : (emb L)[n] = (L[n]'(by simpa using h)).map AV.iv := by simp [emb]
@[simp] theorem emb_set1 (L : List (List IV)) (n : Nat) (a : IV) : (emb L).set n [.iv a] = emb (L.set n [a]) := by simp [emb, List.map_set]
@[simp] theorem emb_set2 (L : List (List IV)) (n : Nat) (a b : IV) : (emb L).set n [.iv a, .iv b] = emb (L.set n [a, b]) := by simp [emb, List.map_set]
@[simp] theorem ivs_iv (l : List IV) : ivs (l.map AV.iv) = some l := by
  induction l with
  | nil => rfl
  | cons a l ih => simp [ivs, ih, AV.iv?]
@[simp] theorem ivss_emb (L : List (List IV)) : ivss (emb L) = some L := by
  induction L with
  | nil => rfl
  | cons a l ih =>
    show (match ivs (a.map AV.iv), ivss (emb l) with
    | some y, some ys => some (y :: ys)
    | _, _ => none) = _
    rw [ih, ivs_iv]
theorem scrL_iv (ids : List Nat) (c : List IV) : scrL ids (c.map AV.iv) = c.map AV.iv := by
  induction c with
  | nil => rfl
  | cons a l ih => simp [scrL, scr, ih]
@[simp] theorem scr_emb (ids : List Nat) (L : List (List IV)) : List.map (scrL ids) (emb L) = emb L := by
  simp only [emb, List.map_map]
  apply List.map_congr_left
  intro c _
  exact scrL_iv ids c
@[simp] theorem take_map_len {α β : Type} (f : α → β) (l : List α) : List.take l.length (l.map f) = l.map f := by
  rw [List.take_of_length_le]
  simp
theorem emb_nil : emb [] = [] := rfl
theorem emb_one (c : List IV) : emb [c] = [c.map AV.iv] := rfl
section
variable {P : Program} {K : World → Prop}
theorem callO_emb {C : Env → Objs → Prop} {d : Option Nat} {g : FuncId} {id : Nat} {l : List AOper} {e : Env} {o : Objs} {ys : List IV} {q : AV} {t : TypeId} {sz : Nat} {rows : List (List IV)} {mv : Nat} (hg : GoodO P K g ys q t sz rows mv) (hid : lookO o id = none)
    (h : runOps P K C l (bnd d (ren id q) e) (setOL id (.arr t sz (emb rows) mv) o)) : callO P K C d g id [] l e o (some ys) := callO_of hg hid h
theorem rowO_emb (e : TypeId) (sz : Nat) (rows : List (List IV)) (mv : Nat) : rowO e sz rows mv = .arr e sz (emb rows) mv := rfl
end
end Go.Ev
