/- Each operation of the evaluator does what the translation's operation does: bytes to string, new variables, literals. -/
import Derived.Test.YtahldekpgadgdaaDoorEvOne
import Derived.Laws.IdiomStrings
set_option linter.all false

namespace Go.Ev
open Go Go.RowKit

section
variable {P : Program} {ok0 : Nat → Prop} {N : Nat} {w0 : World} {lk : Nat → AV} {lo : Nat → Option AO} {a : Act} {w : World} {L : Nat → Lay} {o : Oper}
variable {s f : Prop} {v : AV} {up : Option (Nat × AO)}

theorem isBytes_spec {t : TypeId} (h : isBytes P t = true) : ∃ e, P.underlying t = some (.slice e) ∧ P.underlying e = some (.int .u8) := by
  unfold isBytes at h
  split at h
  · rename_i e he
    refine ⟨e, he, ?_⟩
    have : isInt P e = some .u8 := by simpa using h
    unfold isInt at this
    split at this
    · rename_i k hk; injection this with this; rw [hk, this]
    · cases this
  · cases h

theorem byteOf_spec {c : List IV} {n : Int} (h : byteOf c = some n) : c = [.int .u8 n] := by
  unfold byteOf at h
  split at h
  · injection h with h; rw [h]
  · cases h

theorem bytesOf_spec : ∀ {es : List (List IV)} {ns : List Int}, bytesOf es = some ns → es.length = ns.length ∧ ∀ (k : Nat) (c : List IV), es[k]? = some c → ∃ n : Int, c = [.int .u8 n] ∧ ns[k]? = some n
  | [], ns, h => by simp [bytesOf] at h; subst h; simp
  | c :: r, ns, h => by
    unfold bytesOf at h
    split at h
    · rename_i n ns' h1 h2
      injection h with h
      subst h
      obtain ⟨h3, h4⟩ := bytesOf_spec h2
      refine ⟨by simp [h3], fun k d hd => ?_⟩
      cases k with
      | zero => simp at hd; subst hd; exact ⟨n, byteOf_spec h1, by simp⟩
      | succ k => simpa using h4 k d (by simpa using hd)
    · cases h

theorem done_b2s {x : Opd} (h : Rel ok0 N w0 lk lo a w L) (hf : fB2s P x o.op = true)
    (he : evB2s (x.av lk) = .ok s f v up) (hs : s) : f ∧ Done P o ok0 N w0 lk lo a w v up := by
  unfold fB2s at hf
  split at hf
  · rename_i sT d y ho
    simp only [Bool.and_eq_true] at hf
    obtain ⟨⟨hx, hsb⟩, hd⟩ := hf
    obtain ⟨e, hse, hee⟩ := isBytes_spec hsb
    have hd' : P.underlying d = some .string := by
      unfold isString at hd
      split at hd
      · rename_i hk; exact hk
      · cases hd
    have rx := Opd.rep h hx
    generalize x.av lk = xv at rx he
    generalize hey : a.eval y = yv at rx
    unfold evB2s at he
    split at he
    · rename_i sz es
      split at he
      · rename_i ns hns
        injection he with e1 e2 e3 e4
        subst e1 e2 e3 e4
        obtain ⟨hlen, hel⟩ := bytesOf_spec hns
        cases rx with
        | iv _ _ r => cases r with
          | nils =>
            have : ns = [] := List.eq_nil_of_length_eq_zero (by simpa using hlen.symm)
            subst this
            refine ⟨trivial, Done.pure h (u := .string ⟨[].toArray⟩) ?_ (rep_str _)⟩
            have hc := run_convert_bytes_string (P := P) w sT d e none 0 0 hse hee hd'
            simp only [execOp, ho, hey, Sem.run_bind, hc]
            simp [Conv.bytesToString]
            rfl
          | nilz _ a0 =>
            have : ns = [] := List.eq_nil_of_length_eq_zero (by simpa using hlen.symm)
            subst this
            refine ⟨trivial, Done.pure h (u := .string ⟨[].toArray⟩) ?_ (rep_str _)⟩
            have hc := run_convert_bytes_back (P := P) w sT d e a0 0 [] hse hee hd' (fun j hj => by simp at hj)
            simp only [List.length_nil] at hc
            simp only [execOp, ho, hey, Sem.run_bind, hc]
            rfl
          | sl _ _ b off cap u hl hc hes hcell hxx =>
            refine ⟨trivial, Done.pure h (u := .string ⟨(bytesV ns).toArray⟩) ?_ (rep_str _)⟩
            have hszz : ∀ i, i < es.length → sz = 1 := by
              intro i hi
              obtain ⟨n, hn, _⟩ := hel i es[i] (List.getElem?_eq_getElem hi)
              have := hes es[i] (List.getElem_mem hi)
              rw [hn] at this
              exact this.symm
            have hbl : (bytesV ns).length = es.length := by simp [bytesV, hlen]
            have hback := run_convert_bytes_back (P := P) w sT d e ⟨b, off, none⟩ cap (bytesV ns) hse hee hd' (fun j hj => by
              rw [hbl] at hj
              obtain ⟨n, hn, hb⟩ := hel j es[j] (List.getElem?_eq_getElem hj)
              have hsz1 := hszz j hj
              have hr := hxx j 0 es[j] (.int .u8 n) (List.getElem?_eq_getElem hj) (by rw [hn]; rfl)
              rw [hsz1, Nat.mul_one, Nat.add_zero] at hr
              have huj : u j = .int .u8 n := inv_int (lo := lo) (L := L) (.iv _ _ hr)
              have hcj := (hcell j (by rw [hsz1]; omega)).2.1
              rw [addr_add, hcj, huj]
              have hnj : ns[j]'(by omega) = n := by
                have := List.getElem?_eq_some_iff.1 hb
                exact this.2
              have hin := hs n (List.mem_of_getElem? hb)
              have : (bytesV ns)[j] = UInt8.ofNat n.toNat := by simp [bytesV, hnj]
              rw [this]
              congr 2
              have : n.toNat < 256 := by omega
              simp [Nat.mod_eq_of_lt this]
              omega)
            rw [hbl] at hback
            simp only [execOp, ho, hey, Sem.run_bind, hback]
            rfl
      · cases he
    · cases he
  · cases hf

theorem done_i2s {x : Opd} (h : Rel ok0 N w0 lk lo a w L) (hf : fCvs P x o.op = true)
    (he : evI2s (x.av lk) = .ok s f v up) (hs : s) : f ∧ Done P o ok0 N w0 lk lo a w v up := by
  unfold fCvs at hf
  split at hf
  · rename_i sT d y ho
    simp only [Bool.and_eq_true] at hf
    obtain ⟨⟨hx, hsm⟩, hd⟩ := hf
    have hd' : P.underlying d = some .string := by
      unfold isString at hd
      split at hd
      · rename_i hk; exact hk
      · cases hd
    have rx := Opd.rep h hx
    generalize x.av lk = xv at rx he
    unfold evI2s at he
    split at he
    · rename_i k n
      injection he with e1 e2 e3 e4
      subst e1 e2 e3 e4
      have hx := inv_int rx
      refine ⟨trivial, Done.pure h (u := .string ⟨[UInt8.ofNat n.toNat].toArray⟩) ?_ (rep_str _)⟩
      obtain ⟨ds, hds⟩ := Option.isSome_iff_exists.1 hsm
      have hval : Utf8.valid n = true := by simp [Utf8.valid]; omega
      have hlt : n.toNat < 0x80 := by omega
      have henc : Utf8.encode n = ⟨#[UInt8.ofNat n.toNat]⟩ := by simp [Utf8.encode, hval, hlt]
      simp [execOp, ho, hx, convert, run_underlying hds, run_underlying hd', Conv.intToString, henc]
    · cases he
  · cases hf

/-- Behind a new block of cells. -/
theorem below_alloc (w : World) (ob : Obj) : Below w.heap.size w (w.alloc ob) := (Below.refl _ _).alloc (Nat.le_refl _) ob

theorem cell_alloc_new (w : World) (vs : List Value) (t : TypeId) (k : Nat) (u : Value) (h : vs[k]? = some u) : (w.alloc (.cells vs.toArray t)).cell? ⟨w.heap.size, k, none⟩ = some u := by
  rw [cell_of_row _ _ _ _ t (0, 0) (heap_alloc_new w _)]
  simpa using h

theorem ivs_rep {ok : Nat → Prop} {lo : Nat → Option AO} {L : Nat → Lay} {cs : List AV} {xs : List IV} {vs : List Value} (hc : ivs cs = some xs) (hl : vs.length = cs.length)
    (hx : ∀ (k : Nat) (x : AV) (u : Value), cs[k]? = some x → vs[k]? = some u → RepA ok w lo L x u) :
    vs.length = xs.length ∧ ∀ (k : Nat) (x : IV) (u : Value), xs[k]? = some x → vs[k]? = some u → RepI ok w x u := by
  have := ivs_spec hc
  subst this
  refine ⟨by simpa using hl, fun k x u h1 h2 => ?_⟩
  have := hx k (.iv x) u (by simp [h1]) h2
  cases this; assumption

theorem done_boxi {x : Opd} (h : Rel ok0 N w0 lk lo a w L) (hok0 : ∀ b, w0.heap.size ≤ b → ok0 b) (hf : fBox x o.op = true)
    (he : evBoxi (x.av lk) = .ok s f v up) : f ∧ Done P o ok0 N w0 lk lo a w v up := by
  unfold fBox at hf
  split at hf
  · rename_i t y ho
    have rx := Opd.rep h hf
    generalize x.av lk = xv at rx he
    generalize hey : a.eval y = yv at rx
    unfold evBoxi at he
    split at he
    · rename_i cs hcs
      split at he
      · rename_i xs hxs
        injection he with e1 e2 e3 e4
        subst e1 e2 e3 e4
        obtain ⟨vs, hv, hl, h1, hx⟩ := rep_cells rx hcs
        obtain ⟨hl2, hx2⟩ := ivs_rep hxs hl hx
        have hrel := h.ext (below_alloc w (.cells vs.toArray t))
        refine ⟨trivial, _, .pointer (some ⟨w.heap.size, 0, none⟩), _, L, ?_, .inl rfl, hrel, ?_⟩
        · simp only [execOp, ho, hey, Instr.box, newVar, newRow, newObj, Sem.run_bind, hv, Sem.run, Result.andThen_ok, Sem.run_pure]
          rfl
        · have hnew : okL ok0 lo L w.heap.size := ⟨hok0 _ h.le, fun id ob hob hb => by
            have := ((h.objs id ob hob).lt hb).2; omega⟩
          refine .iv _ _ (.ptr xs w.heap.size 0 (fun k => vs.getD k undef) (fun k hk => ?_) (fun k z hz => ?_))
          · have hk' : k < vs.length := by omega
            refine ⟨hnew, ?_, h1 _ ?_⟩
            · rw [Nat.zero_add]
              exact cell_alloc_new w vs t k _ (getD_some hk')
            · exact List.mem_of_getElem? (getD_some (d := undef) hk')
          · have hk : k < vs.length := by rw [hl2]; exact (List.getElem?_eq_some_iff.1 hz).1
            refine (hx2 k z _ hz (getD_some hk)).mono fun b hb hlt => ⟨hb, (below_alloc w _).block b hlt⟩
      · cases he
    · cases he
  · cases hf

/-- An object of one variable. -/
theorem Rel.newBox {id : Nat} {cs : List AV} {vs : List Value} {t : TypeId} (h : Rel ok0 N w0 lk lo a w L) (hid : lo id = none) (hl : vs.length = cs.length) (h1 : ∀ u ∈ vs, u.oneCell' = true)
    (hx : ∀ (k : Nat) (x : AV) (u : Value), cs[k]? = some x → vs[k]? = some u → RepA (okL ok0 lo L) w lo L x u) :
    Rel ok0 N w0 lk (setO lo id (.box cs)) a (w.alloc (.cells vs.toArray t)) (setL L id (.box w.heap.size)) := by
  have hb := below_alloc w (.cells vs.toArray t)
  have hok : ∀ b, okL ok0 lo L b → b < w.heap.size → okL ok0 (setO lo id (.box cs)) (setL L id (.box w.heap.size)) b := by
    intro b hb hlt
    refine ⟨hb.1, fun i o' hi he => ?_⟩
    by_cases hii : i = id
    · subst hii
      simp only [setL, if_true, Lay.block, Option.some.injEq] at he
      omega
    · simp only [setO, hii, if_false] at hi
      simp only [setL, hii, if_false] at he
      exact hb.2 i o' hi he
  refine h.new id hid _ _ hb (fun b hb => by simp only [Lay.block, Option.some.injEq] at hb; omega) ?_
  refine ⟨h.le, t, vs, heap_alloc_new w _, hl, h1, fun k x u h2 h3 => (hx k x u h2 h3).ext hok hb.block fun i o' hi => ?_⟩
  have : i ≠ id := by intro e; subst e; rw [hid] at hi; cases hi
  simp [setO, setL, this, hi]

theorem done_boxo {id : Nat} {x : Opd} (h : Rel ok0 N w0 lk lo a w L) (hf : fBox x o.op = true)
    (he : evBoxo lo id (x.av lk) = .ok s f v up) : f ∧ Done P o ok0 N w0 lk lo a w v up := by
  unfold fBox at hf
  split at hf
  · rename_i t y ho
    have rx := Opd.rep h hf
    generalize x.av lk = xv at rx he
    generalize hey : a.eval y = yv at rx
    unfold evBoxo at he
    split at he
    · rename_i cs hcs hid
      injection he with e1 e2 e3 e4
      subst e1 e2 e3 e4
      obtain ⟨vs, hv, hl, h1, hx⟩ := rep_cells rx hcs
      refine ⟨trivial, _, .pointer (some ⟨w.heap.size, 0, none⟩), _, _, ?_, .inl rfl, h.newBox (t := t) hid hl h1 hx, ?_⟩
      · simp only [execOp, ho, hey, Instr.box, newVar, newRow, newObj, Sem.run_bind, hv, Sem.run, Result.andThen_ok, Sem.run_pure]
        rfl
      · exact .loc id 0 cs w.heap.size (by simp [upO, setO]) (by simp [setL])
    · cases he
  · cases hf

theorem zerosAre_spec {ok : Nat → Prop} {lk : Nat → AV} : ∀ {zs : List Opd} {vs : List Value}, zerosAre zs vs = true → vs.length = (zs.map (·.av lk)).length ∧
    ∀ (k : Nat) (x : AV) (u : Value), (zs.map (·.av lk))[k]? = some x → vs[k]? = some u → RepA ok w lo L x u ∧ u.oneCell' = true
  | [], [], _ => by simp
  | x :: r, v :: s, h => by
    simp only [zerosAre, Bool.and_eq_true] at h
    obtain ⟨h1, h2⟩ := zerosAre_spec (ok := ok) (lk := lk) h.2
    refine ⟨by simpa using h1, fun k y u hy hu => ?_⟩
    cases k with
    | zero =>
      simp at hy hu
      subst hy hu
      refine ⟨Opd.repVal h.1, ?_⟩
      have := h.1
      unfold Opd.isVal at this
      cases v <;> first | rfl | (cases x <;> simp [isI, isB, isS, isN, isP] at this)
    | succ k => exact h2 k y u (by simpa using hy) (by simpa using hu)
  | [], _ :: _, h => by simp [zerosAre] at h
  | _ :: _, [], h => by simp [zerosAre] at h

theorem zeroIs_spec {t : TypeId} {zs : List Opd} (h : Program.zeroIs P t zs = true) : ∃ i z, P.info? t = some i ∧ i.zero = some z ∧ zerosAre zs z.cells.toList = true ∧ i.size = zs.length := by
  unfold Program.zeroIs at h
  split at h
  · rename_i i hi
    split at h
    · rename_i z hz
      simp only [Bool.and_eq_true, beq_iff_eq] at h
      exact ⟨i, z, hi, hz, h.1, h.2⟩
    · cases h
  · cases h

theorem done_alo {id : Nat} {zs : List Opd} (h : Rel ok0 N w0 lk lo a w L) (hid : lo id = none) (hf : fAlo P zs o.op = true) :
    Done P o ok0 N w0 lk lo a w (.loc id 0) (some (id, .box (zs.map (·.av lk)))) := by
  unfold fAlo at hf
  split at hf
  · rename_i t ho
    obtain ⟨i, z, hi, hz, hzs, _⟩ := zeroIs_spec hf
    obtain ⟨hl, hx⟩ := zerosAre_spec (w := w) (lo := lo) (L := L) (ok := okL ok0 lo L) (lk := lk) hzs
    have h1 : ∀ u ∈ z.cells.toList, u.oneCell' = true := by
      intro u hu
      obtain ⟨k, hk, rfl⟩ := List.getElem_of_mem hu
      have hk2 : k < (zs.map (·.av lk)).length := by omega
      exact (hx k _ _ (List.getElem?_eq_getElem hk2) (List.getElem?_eq_getElem hk)).2
    refine ⟨_, .pointer (some ⟨w.heap.size, 0, none⟩), _, _, ?_, .inl rfl, h.newBox (t := t) hid hl h1 (fun k x u h2 h3 => (hx k x u h2 h3).1), ?_⟩
    · simp only [execOp, ho, Instr.alloc, zeroValue, typeInfo, program, Sem.run_bind, Sem.run, hi, hz, Result.andThen_ok, Sem.run_pure, newVar, newRow, newObj, Array.toArray_toList]
      rfl
    · exact .loc id 0 (zs.map (·.av lk)) w.heap.size (by simp [upO, setO]) (by simp [setL])
  · cases hf

theorem done_nilo {id : Nat} {e : TypeId} {sz : Nat} (h : Rel ok0 N w0 lk lo a w L) (hid : lo id = none) (hf : fNil o.op = true) :
    Done P o ok0 N w0 lk lo a w (.aref id 0) (some (id, .arr e sz [] 0)) := by
  have fin : ∀ y, Opd.is (.nil 0) y = true → (execOp a.eval o).run P w = .ok (.value (a.eval y)) w → Done P o ok0 N w0 lk lo a w (.aref id 0) (some (id, .arr e sz [] 0)) := by
    intro y hy hr
    have hv : a.eval y = .slice none 0 0 := by
      cases y with
      | tmp m => simp [Opd.is, Opd.isTmp] at hy
      | const c =>
        simp only [Opd.is, Opd.isVal] at hy
        unfold isN at hy
        split at hy
        · simp only [Bool.and_eq_true, beq_iff_eq] at hy
          rw [hy.1, hy.2]
          rfl
        · cases hy
      | global g => simp [Opd.is] at hy
      | func g => simp [Opd.is] at hy
    refine ⟨_, .slice none 0 0, w, setL L id (.arr (.slice none 0 0) []), (hv ▸ hr), .inl rfl, ?_, ?_⟩
    · exact h.new id hid _ _ (Below.refl _ _) (by simp [Lay.block, Value.ownBlock]) ⟨World.ownsRow_nil w _ e sz, Nat.zero_le _, by simp, by simp, by simp⟩
    · exact .aref id e sz [] 0 _ [] (by simp [upO, setO]) (by simp [setL]) rfl
  unfold fNil at hf
  split at hf
  · rename_i y ho
    exact fin y hf (by simp [execOp, ho])
  · rename_i y ho
    exact fin y hf (by simp [execOp, ho])
  · cases hf

end
end Go.Ev

/- Each operation of the evaluator does what the translation's operation does: composite literals. -/
namespace Go.Ev
open Go Go.RowKit

theorem splice_get {α : Type} (l vs : List α) (o k : Nat) (h : o + vs.length ≤ l.length) :
    (l.take o ++ vs ++ l.drop (o + vs.length))[k]? = if k < o then l[k]? else if k < o + vs.length then vs[k - o]? else l[k]? := by
  rw [List.append_assoc, List.getElem?_append]
  have ho : (l.take o).length = o := by simp; omega
  rw [ho]
  by_cases h1 : k < o
  · rw [if_pos h1, if_pos h1, List.getElem?_take, if_pos h1]
  · rw [if_neg h1, if_neg h1, List.getElem?_append]
    by_cases h2 : k < o + vs.length
    · rw [if_pos (by omega), if_pos h2]
    · rw [if_neg (by omega), if_neg h2, List.getElem?_drop]
      congr 1
      omega

theorem splice_len {α : Type} (l vs : List α) (o : Nat) (h : o + vs.length ≤ l.length) : (l.take o ++ vs ++ l.drop (o + vs.length)).length = l.length := by
  simp; omega

theorem foldl_set (off : Nat) : ∀ (vs : List Value) (i : Nat) (cur : Array Value), off + i + vs.length ≤ cur.size →
    ((vs.zipIdx i).foldl (fun cs p => cs.setIfInBounds (off + p.2) p.1) cur) = (cur.toList.take (off + i) ++ vs ++ cur.toList.drop (off + i + vs.length)).toArray
  | [], i, cur, _ => by simp
  | v :: r, i, cur, h => by
    simp only [List.zipIdx_cons, List.foldl_cons]
    rw [foldl_set off r (i + 1) (cur.setIfInBounds (off + i) v) (by simp at h ⊢; omega)]
    congr 1
    have e := list_seg_step cur.toList (off + i) v r (by simp at h ⊢; omega)
    simpa [Array.toList_setIfInBounds, Nat.add_assoc] using e

section
variable {P : Program} {ok0 : Nat → Prop} {N : Nat} {w0 : World} {lk : Nat → AV} {lo : Nat → Option AO} {a : Act} {w : World} {L : Nat → Lay} {o : Oper}
variable {s f : Prop} {v : AV} {up : Option (Nat × AO)}

/-- Some cells, as abstract values. -/
def RepL (ok : Nat → Prop) (w : World) (lo : Nat → Option AO) (L : Nat → Lay) (cs : List AV) (vs : List Value) : Prop :=
  vs.length = cs.length ∧ (∀ u ∈ vs, u.oneCell' = true) ∧ ∀ (k : Nat) (x : AV) (u : Value), cs[k]? = some x → vs[k]? = some u → RepA ok w lo L x u

theorem RepL.splice {ok : Nat → Prop} {cs ds : List AV} {vs us : List Value} (h : RepL ok w lo L cs vs) (h' : RepL ok w lo L ds us) {o : Nat} (ho : o + ds.length ≤ cs.length) :
    RepL ok w lo L (cs.take o ++ ds ++ cs.drop (o + ds.length)) (vs.take o ++ us ++ vs.drop (o + us.length)) := by
  obtain ⟨h1, h2, h3⟩ := h
  obtain ⟨h4, h5, h6⟩ := h'
  refine ⟨?_, ?_, fun k x u hx hu => ?_⟩
  · rw [splice_len cs ds o ho, splice_len vs us o (by omega), h1]
  · intro u hu
    simp only [List.mem_append] at hu
    rcases hu with (hu | hu) | hu
    · exact h2 u (List.mem_of_mem_take hu)
    · exact h5 u hu
    · exact h2 u (List.mem_of_mem_drop hu)
  · rw [splice_get cs ds o k ho] at hx
    rw [splice_get vs us o k (by omega), h4] at hu
    split at hx
    · rename_i hk; rw [if_pos hk] at hu; exact h3 k x u hx hu
    · rename_i hk
      rw [if_neg hk] at hu
      split at hx
      · rename_i hk2; rw [if_pos hk2] at hu; exact h6 _ x u hx hu
      · rename_i hk2; rw [if_neg hk2] at hu; exact h3 k x u hx hu

theorem rep_cells' {ok : Nat → Prop} {x : AV} {v : Value} {cs : List AV} (h : RepA ok w lo L x v) (hc : x.cells = some cs) : ∃ vs : List Value, v.cells = vs.toArray ∧ RepL ok w lo L cs vs := by
  obtain ⟨vs, h1, h2, h3, h4⟩ := rep_cells h hc
  exact ⟨vs, h1, h2, h3, h4⟩

theorem fill_spec (h : Rel ok0 N w0 lk lo a w L) (place : Nat → Option (Nat × Nat)) : ∀ (parts : List (Nat × Nat × Opd)) (ps : List (Nat × Operand)) (cs cs' : List AV) (cur : List Value),
    partsAre place parts ps = true → fillA cs (parts.map fun (o, s, x) => (o, s, x.av lk)) = some cs' → RepL (okL ok0 lo L) w lo L cs cur →
    ∃ cur', Instr.fill place cur.toArray (ps.map fun (i, x) => (i, a.eval x)) = some (List.toArray cur') ∧ RepL (okL ok0 lo L) w lo L cs' cur'
  | [], [], cs, cs', cur, _, hf, hr => by
    simp [fillA] at hf
    subst hf
    exact ⟨cur, by simp [Instr.fill], hr⟩
  | (off, sz, x) :: r, (i, y) :: t, cs, cs', cur, hp, hf, hr => by
    simp only [partsAre, Bool.and_eq_true] at hp
    obtain ⟨⟨hpl, hx⟩, hp⟩ := hp
    split at hpl
    · rename_i o z hpi
      simp only [Bool.and_eq_true, beq_iff_eq] at hpl
      obtain ⟨rfl, rfl⟩ := hpl
      simp only [List.map_cons, fillA] at hf
      split at hf
      · rename_i vs hvs
        split at hf
        · rename_i hc
          obtain ⟨rfl, hfit⟩ := hc
          obtain ⟨us, hus, hru⟩ := rep_cells' (Opd.rep h hx) hvs
          obtain ⟨cur', h1, h2⟩ := fill_spec h place r t _ cs' _ hp hf (hr.splice hru hfit)
          refine ⟨cur', ?_, h2⟩
          have hsz : us.length = vs.length := hru.1
          have hcl : cur.length = cs.length := hr.1
          simp only [List.map_cons, Instr.fill, hpi, hus, List.size_toArray, hsz, ne_eq, not_true_eq_false, decide_false, Bool.false_or, gt_iff_lt, decide_eq_true_eq]
          rw [if_neg (by omega), ← h1]
          congr 1
          have := foldl_set o us 0 cur.toArray (by simp; omega)
          simp only [Nat.add_zero] at this
          rw [← this]
          simp
        · cases hf
      · cases hf
    · cases hpl
  | [], _ :: _, _, _, _, hp, _, _ => by simp [partsAre] at hp
  | _ :: _, [], _, _, _, hp, _, _ => by simp [partsAre] at hp

theorem done_bld {zs : List Opd} {parts : List (Nat × Nat × Opd)} {cs : List AV} (h : Rel ok0 N w0 lk lo a w L) (hf : fBld P zs parts o.op = true)
    (he : fillA (zs.map (·.av lk)) (parts.map fun (o, s, x) => (o, s, x.av lk)) = some cs) : Done P o ok0 N w0 lk lo a w (mkAgg cs) none := by
  unfold fBld at hf
  split at hf
  · rename_i t ps ho
    simp only [Bool.and_eq_true] at hf
    obtain ⟨hz, hb⟩ := hf
    obtain ⟨i, z, hi, hzz, hzs, _⟩ := zeroIs_spec hz
    obtain ⟨hl, hx⟩ := zerosAre_spec (w := w) (lo := lo) (L := L) (ok := okL ok0 lo L) (lk := lk) hzs
    have h1 : ∀ u ∈ z.cells.toList, u.oneCell' = true := by
      intro u hu
      obtain ⟨k, hk, rfl⟩ := List.getElem_of_mem hu
      have hk2 : k < (zs.map (·.av lk)).length := by omega
      exact (hx k _ _ (List.getElem?_eq_getElem hk2) (List.getElem?_eq_getElem hk)).2
    unfold buildIs placesOf at hb
    split at hb
    · rename_i places hpl
      split at hpl
      · rename_i fields hu
        obtain ⟨cur', h2, h3⟩ := fill_spec h _ parts ps.toList _ cs z.cells.toList hb he ⟨hl, h1, fun k x u a b => (hx k x u a b).1⟩
        have hbuilt : P.built t (ps.toList.map fun (i, x) => (i, a.eval x)) = some cur'.toArray := by
          unfold Program.built
          simp only [hi, hu, hzz, hpl]
          simpa using h2
        have hrun := run_build (P := P) w t (ps.map fun (i, x) => (i, a.eval x)) cur'.toArray (by simpa using hbuilt)
        exact Done.pure h (u := .agg cur'.toArray) (by simp only [execOp, ho, Sem.run_bind, hrun, Result.andThen_ok, Sem.run_pure]) (rep_mkAgg h3.1 h3.2.1 h3.2.2)
      · cases hpl
    · cases hb
  · cases hf

/-- A literal of a slice: its elements one behind the other. -/
theorem seq_spec (h : Rel ok0 N w0 lk lo a w L) (sz : Nat) : ∀ (parts : List Opd) (ps : List (Nat × Operand)) (k : Nat) (rows : List (List AV)) (done rest : List Value),
    seqAre k parts ps = true → rowsA sz (parts.map (·.av lk)) = some rows → done.length = k * sz → rest.length = parts.length * sz →
    ∃ news, Instr.fill (fun i => some (i * sz, sz)) (done ++ rest).toArray (ps.map fun (i, x) => (i, a.eval x)) = some (List.toArray (done ++ news)) ∧ news = (ps.map fun p => (a.eval p.2).cells.toList).flatten ∧ news.length = parts.length * sz ∧
      (∀ u ∈ news, u.oneCell' = true) ∧ rows.length = parts.length ∧ (∀ c ∈ rows, c.length = sz) ∧
      ∀ (i j : Nat) (c : List AV) (x : AV) (u : Value), rows[i]? = some c → c[j]? = some x → news[i * sz + j]? = some u → RepA (okL ok0 lo L) w lo L x u
  | [], [], k, rows, done, rest, _, hr, _, hl => by
    simp [rowsA] at hr
    subst hr
    have : rest = [] := List.eq_nil_of_length_eq_zero (by simpa using hl)
    subst this
    exact ⟨[], by simp [Instr.fill], by simp, by simp, by simp, rfl, by simp, by simp⟩
  | x :: r, (i, y) :: t, k, rows, done, rest, hs, hr, hd, hl => by
    simp only [seqAre, Bool.and_eq_true, beq_iff_eq] at hs
    obtain ⟨⟨rfl, hx⟩, hs⟩ := hs
    simp only [List.map_cons, rowsA] at hr
    split at hr
    · rename_i c cs hc hcs
      split at hr
      · rename_i hcl
        injection hr with hr
        subst hr
        obtain ⟨us, hus, hru⟩ := rep_cells' (Opd.rep h hx) hc
        have hul : us.length = sz := hru.1.trans hcl
        have hrl : rest.length = sz + r.length * sz := by rw [hl, List.length_cons, Nat.add_mul]; omega
        have hdu : (done ++ us).length = (i + 1) * sz := by simp [hd, hul, Nat.add_mul]
        obtain ⟨news, h1, hn, h2, h3, h4, h5, h6⟩ := seq_spec h sz r t (i + 1) cs (done ++ us) (rest.drop sz) hs hcs hdu (by simp [hrl])
        refine ⟨us ++ news, ?_, by simp [hus, hn], by rw [List.length_append, h2, hul, List.length_cons, Nat.add_mul]; omega, ?_, by simp [h4], ?_, ?_⟩
        · simp only [List.map_cons, Instr.fill, hus, List.size_toArray, hul, ne_eq, not_true_eq_false, decide_false, Bool.false_or, gt_iff_lt, decide_eq_true_eq]
          rw [if_neg (by simp [hd, hrl]; try omega)]
          rw [← List.append_assoc, ← h1]
          congr 1
          have := foldl_set (i * sz) us 0 (done ++ rest).toArray (by simp [hd, hrl, hul])
          simp only [Nat.add_zero] at this
          have e1 : (done ++ rest).toArray.toList.take (i * sz) = done := by simp [← hd]
          have e2 : (done ++ rest).toArray.toList.drop (i * sz + us.length) = rest.drop sz := by
            rw [hul, ← hd, List.drop_append]
            simp
          rw [e1, e2] at this
          rw [← this]
          simp
        · intro u hu
          rcases List.mem_append.1 hu with hu | hu
          · exact hru.2.1 u hu
          · exact h3 u hu
        · intro c' hc'
          rcases List.mem_cons.1 hc' with rfl | hc'
          · exact hcl
          · exact h5 c' hc'
        · intro i' j c' z u hi hj hu
          cases i' with
          | zero =>
            simp only [List.getElem?_cons_zero, Option.some.injEq] at hi
            subst hi
            have hjl : j < us.length := by rw [hul, ← hcl]; exact (List.getElem?_eq_some_iff.1 hj).1
            rw [Nat.zero_mul, Nat.zero_add, List.getElem?_append_left hjl] at hu
            exact hru.2.2 j z u hj hu
          | succ i' =>
            simp only [List.getElem?_cons_succ] at hi
            rw [List.getElem?_append_right (by rw [hul, Nat.add_mul]; omega)] at hu
            refine h6 i' j c' z u hi hj ?_
            rw [← hu]
            congr 1
            rw [hul, Nat.add_mul]
            omega
      · cases hr
    · cases hr
  | [], _ :: _, _, _, _, _, hs, _, _, _ => by simp [seqAre] at hs
  | _ :: _, [], _, _, _, _, hs, _, _, _ => by simp [seqAre] at hs

theorem run_buildSlice {t e : TypeId} {i : TypeInfo} {sz : Nat} (hu : P.underlying t = some (.slice e)) (hi : P.info? e = some i) (hs : i.size = sz) (hz : i.zero.isSome = true)
    (n : Nat) (hn : n * sz ≤ 65536) (parts : Array (Nat × Value)) (cells : Array Value)
    (hfill : ∀ zs : List Value, zs.length = n * sz → Instr.fill (fun i => some (i * sz, sz)) zs.toArray parts.toList = some cells) :
    (Instr.buildSlice t n parts).run P w = .ok (.slice (some ⟨w.heap.size, 0, none⟩) n n) (w.alloc (.cells cells e)) := by
  obtain ⟨z, hz⟩ := Option.isSome_iff_exists.1 hz
  have hbig : ¬ (n * sz > 2 ^ 24) := by omega
  have key : ∀ zero : Array Value, Instr.fill (fun i => some (i * sz, sz)) ((Array.range (n * sz)).map (zero[· % zero.size]!)) parts.toList = some cells := by
    intro zero
    have := hfill ((Array.range (n * sz)).map (zero[· % zero.size]!)).toList (by simp)
    rwa [Array.toArray_toList] at this
  simp only [Instr.buildSlice, Sem.run_bind, run_underlying hu, Result.andThen_ok, sizeOf, typeInfo, program, Sem.run, hi, Sem.run_pure, hs, if_neg hbig, zeroValue]
  by_cases h0 : n * sz = 0
  · simp only [if_pos h0, Sem.run_bind, Sem.run_pure, Result.andThen_ok, key, newRow, newObj, Sem.run]
    rfl
  · simp only [if_neg h0, Sem.run_bind, Sem.run_pure, Result.andThen_ok, key, newRow, newObj, Sem.run, hi, hz]
    rfl

end
end Go.Ev

/- Each operation of the evaluator does what the translation's operation does: slice literals, stores. -/
namespace Go.Ev
open Go Go.RowKit

section
variable {P : Program} {ok0 : Nat → Prop} {N : Nat} {w0 : World} {lk : Nat → AV} {lo : Nat → Option AO} {a : Act} {w : World} {L : Nat → Lay} {o : Oper}
variable {s f : Prop} {v : AV} {up : Option (Nat × AO)}

theorem ivss_spec : ∀ {rows : List (List AV)} {es : List (List IV)}, ivss rows = some es → rows = es.map (·.map .iv)
  | [], es, h => by simp [ivss] at h; subst h; rfl
  | x :: r, es, h => by
    simp only [ivss] at h
    split at h
    · rename_i y ys h1 h2
      injection h with h
      subst h
      simp [ivs_spec h1, ivss_spec h2]
    · cases h

theorem elemZero_spec {t e : TypeId} (h : elemZero P t = true) (hu : P.underlying t = some (.slice e)) {i : TypeInfo} (hi : P.info? e = some i) : i.zero.isSome = true := by
  unfold elemZero at h
  rw [hu] at h
  simp only [hasZero, hi] at h
  exact h

theorem bsl_run {sz : Nat} {parts : List Opd} {t e : TypeId} {i : TypeInfo} {n : Nat} {ps : Array (Nat × Operand)} {rows : List (List AV)} (h : Rel ok0 N w0 lk lo a w L)
    (ho : o.op = .buildSlice t n ps) (hn : n = parts.length) (hsq : seqAre 0 parts ps.toList = true) (hu : P.underlying t = some (.slice e)) (hi : P.info? e = some i) (hs : i.size = sz)
    (hz : i.zero.isSome = true) (hb : parts.length * sz ≤ 65536) (hr : rowsA sz (parts.map (·.av lk)) = some rows) :
    ∃ news : List Value, (execOp a.eval o).run P w = .ok (.value (.slice (some ⟨w.heap.size, 0, none⟩) parts.length parts.length)) (w.alloc (.cells news.toArray e)) ∧ news.length = parts.length * sz ∧
      (∀ u ∈ news, u.oneCell' = true) ∧ rows.length = parts.length ∧ (∀ c ∈ rows, c.length = sz) ∧
      ∀ (i j : Nat) (c : List AV) (x : AV) (u : Value), rows[i]? = some c → c[j]? = some x → news[i * sz + j]? = some u → RepA (okL ok0 lo L) w lo L x u := by
  subst hn
  obtain ⟨news, _, h1, h2, h3, h4, h5, h6⟩ := seq_spec h sz parts ps.toList 0 rows [] (List.replicate (parts.length * sz) undef) hsq hr (by simp) (by simp)
  refine ⟨news, ?_, h2, h3, h4, h5, h6⟩
  have := run_buildSlice (w := w) hu hi hs hz parts.length hb (ps.map fun (i, x) => (i, a.eval x)) news.toArray (fun zs hzs => by
    obtain ⟨news', h1', h2', _⟩ := seq_spec h sz parts ps.toList 0 rows [] zs hsq hr (by simp) hzs
    rw [List.nil_append] at h1'
    have e : news' = news := h2'.trans h1.symm
    rw [List.nil_append, e] at h1'
    simpa using h1')
  simp only [execOp, ho, Sem.run_bind, this, Result.andThen_ok, Sem.run_pure]

theorem done_bsl {sz : Nat} {parts : List Opd} {rows : List (List AV)} {es : List (List IV)} (h : Rel ok0 N w0 lk lo a w L) (hok0 : ∀ b, w0.heap.size ≤ b → ok0 b) (hf : fBsl P sz parts o.op = true)
    (hr : rowsA sz (parts.map (·.av lk)) = some rows) (hes : ivss rows = some es) : Done P o ok0 N w0 lk lo a w (.iv (.sl sz es)) none := by
  unfold fBsl at hf
  split at hf
  · rename_i t n ps ho
    simp only [Bool.and_eq_true, beq_iff_eq, decide_eq_true_eq] at hf
    obtain ⟨⟨⟨⟨⟨hn, hsq⟩, hsz⟩, hez⟩, hb⟩, hpl⟩ := hf
    obtain ⟨e, i, hu, hi, hs⟩ := elemSize_spec hsz
    obtain ⟨news, hrun, hnl, h1, hrl, hrs, hx⟩ := bsl_run h ho hn hsq hu hi hs (elemZero_spec hez hu hi) hb hr
    have hrel := h.ext (below_alloc w (.cells news.toArray e))
    have hrows := ivss_spec hes
    have hel : es.length = parts.length := by rw [← hrl, hrows]; simp
    refine ⟨_, _, _, L, hrun, .inl rfl, hrel, ?_⟩
    have hnew : okL ok0 lo L w.heap.size := ⟨hok0 _ h.le, fun id ob hob hb => by
      have := ((h.objs id ob hob).lt hb).2; omega⟩
    rw [← hel]
    refine .iv _ _ (.sl sz es w.heap.size 0 es.length (fun k => news.getD k undef) (Nat.le_refl _) (by simp only [maxLen]; omega) (fun c hc => ?_) (fun k hk => ?_) (fun i j c z hi hj => ?_))
    · have := hrs (c.map .iv) (by rw [hrows]; exact List.mem_map_of_mem hc)
      simpa using this
    · have hk' : k < news.length := by rw [hnl, ← hel]; exact hk
      refine ⟨hnew, ?_, h1 _ (List.mem_of_getElem? (getD_some (d := undef) hk'))⟩
      rw [Nat.zero_add]
      exact cell_alloc_new w news e k _ (getD_some hk')
    · have hil : i < es.length := (List.getElem?_eq_some_iff.1 hi).1
      have hcl : c.length = sz := by
        have := hrs (c.map .iv) (by rw [hrows]; exact List.mem_map_of_mem (List.mem_of_getElem? hi))
        simpa using this
      have hjl : j < sz := by rw [← hcl]; exact (List.getElem?_eq_some_iff.1 hj).1
      have hk' : i * sz + j < news.length := by rw [hnl, ← hel]; exact idx_lt hil hjl
      have := hx i j (c.map .iv) (.iv z) _ (by rw [hrows]; simp [hi]) (by simp [hj]) (getD_some (d := undef) hk')
      cases this with
      | iv _ _ r => exact r.mono fun b hb hlt => ⟨hb, (below_alloc w _).block b hlt⟩
  · cases hf

theorem sliceOf_spec {t e : TypeId} {sz : Nat} (h : Program.sliceOf P t e sz = true) : ∃ i, P.underlying t = some (.slice e) ∧ P.info? e = some i ∧ i.size = sz := by
  unfold Program.sliceOf Program.sizeIs at h
  split at h
  · rename_i e' he
    simp only [Bool.and_eq_true, beq_iff_eq] at h
    obtain ⟨rfl, h⟩ := h
    split at h
    · rename_i i hi
      exact ⟨i, he, hi, by simpa using h⟩
    · cases h
  · cases h

theorem done_bso {id : Nat} {e : TypeId} {sz : Nat} {parts : List Opd} {rows : List (List AV)} (h : Rel ok0 N w0 lk lo a w L) (hid : lo id = none) (hf : fBso P e sz parts o.op = true)
    (hr : rowsA sz (parts.map (·.av lk)) = some rows) : Done P o ok0 N w0 lk lo a w (.aref id parts.length) (some (id, .arr e sz rows 0)) := by
  unfold fBso at hf
  split at hf
  · rename_i t n ps ho
    simp only [Bool.and_eq_true, beq_iff_eq, decide_eq_true_eq] at hf
    obtain ⟨⟨⟨⟨⟨hn, hsq⟩, hsz⟩, hez⟩, hb⟩, hpl⟩ := hf
    obtain ⟨i, hu, hi, hs⟩ := sliceOf_spec hsz
    obtain ⟨news, hrun, hnl, h1, hrl, hrs, hx⟩ := bsl_run h ho hn hsq hu hi hs (elemZero_spec hez hu hi) hb hr
    have hbel := below_alloc w (.cells news.toArray e)
    have hok : ∀ b, okL ok0 lo L b → b < w.heap.size → okL ok0 (setO lo id (.arr e sz rows 0)) (setL L id (.arr (.slice (some ⟨w.heap.size, 0, none⟩) parts.length parts.length) news)) b := by
      intro b hb hlt
      refine ⟨hb.1, fun i o' hi he => ?_⟩
      by_cases hii : i = id
      · subst hii
        simp only [setL, if_true, Lay.block, Value.ownBlock, Option.some.injEq] at he
        omega
      · simp only [setO, hii, if_false] at hi
        simp only [setL, hii, if_false] at he
        exact hb.2 i o' hi he
    refine ⟨_, _, _, setL L id (.arr (.slice (some ⟨w.heap.size, 0, none⟩) parts.length parts.length) news), hrun, .inl rfl, ?_, ?_⟩
    · refine h.new id hid _ _ hbel (fun b hb => by simp only [Lay.block, Value.ownBlock, Option.some.injEq] at hb; omega) ?_
      refine ⟨⟨by rw [hrl]; exact hnl, .inr ⟨w.heap.size, parts.length, news.toArray, by rw [hrl], h.le, heap_alloc_new w _, by omega, by simp only [maxLen]; omega, by simpa using hnl, ?_⟩⟩, Nat.zero_le _, hrs, h1, fun i j c x u h2 h3 h4 => ?_⟩
      · rw [hrl, ← hnl]
        simp
      · refine (hx i j c x u h2 h3 h4).ext hok hbel.block fun i o' hi => ?_
        have : i ≠ id := by intro e; subst e; rw [hid] at hi; cases hi
        simp [setO, setL, this, hi]
    · rw [← hrl]
      exact .aref id e sz rows 0 _ news (by simp [upO, setO]) (by simp [setL]) rfl
  · cases hf

end
end Go.Ev

/- Each operation of the evaluator does what the translation's operation does: stores. -/
namespace Go.Ev
open Go Go.RowKit

theorem setO_self (lo : Nat → Option AO) (id : Nat) (o : AO) : setO lo id o id = some o := by simp [setO]
theorem setL_self (L : Nat → Lay) (id : Nat) (l : Lay) : setL L id l id = l := by simp [setL]

theorem grownBy_setRow (w : World) (b : Nat) (cs : Array Value) : w.grownBy (w.setRow b cs) (some b) :=
  ⟨rfl, rfl, rfl, by simp [World.setRow], fun k _ hne => setRow_other w b k cs (by simpa using hne)⟩

section
variable {P : Program} {ok0 : Nat → Prop} {N : Nat} {w0 : World} {lk : Nat → AV} {lo : Nat → Option AO} {a : Act} {w : World} {L : Nat → Lay} {o : Oper}
variable {s f : Prop} {v : AV} {up : Option (Nat × AO)}

theorem done_sto {id n : Nat} {x y : Opd} (h : Rel ok0 N w0 lk lo a w L) (hf : fSto P n x y o.op = true)
    (he : evSto lo id n (y.av lk) (x.av lk) = .ok s f v up) (hs : s) : f ∧ Done P o ok0 N w0 lk lo a w v up := by
  unfold fSto at hf
  split at hf
  · rename_i t x' y' ho
    simp only [Bool.and_eq_true] at hf
    obtain ⟨⟨hx, hy⟩, hn⟩ := hf
    have rx := Opd.rep h hx
    have ry := Opd.rep h hy
    generalize x.av lk = xv at rx he
    generalize y.av lk = yv at ry he
    generalize hey : a.eval x' = pv at rx
    unfold evSto at he
    split at he
    · rename_i i off
      split at he
      · rename_i hii
        subst hii
        split at he
        · rename_i cs vs hcs hvs
          injection he with e1 e2 e3 e4
          subst e1 e2 e3 e4
          obtain ⟨hvl, hfit⟩ := hs
          obtain ⟨us, hus, hru⟩ := rep_cells' ry hvs
          have hob := h.objs _ _ hcs
          cases rx with
          | loc _ _ cs' b hob' hL =>
            rw [hcs] at hob'
            injection hob' with hob'
            injection hob' with hob'
            subst hob'
            rw [hL] at hob
            obtain ⟨hB, ty, cur, hb, hl, h1, hxx⟩ := hob
            have hul : us.length = n := by rw [hru.1]; exact hvl
            have hst := run_storeVar (w := w) hn b off (a.eval y') us cur hus hul hb (by omega) hru.2.1
            have hLb : (L i).block = some b := by rw [hL]; rfl
            have hg := grownBy_setRow w b (cur.take off ++ us ++ cur.drop (off + n)).toArray
            have hset := setRow_heap w b cur.toArray (cur.take off ++ us ++ cur.drop (off + n)).toArray ty (0, 0) hb
            have hLL : setL L i (.box b) = L := by
              funext j
              by_cases hj : j = i
              · subst hj; simp [setL, hL]
              · simp [setL, hj]
            have key : Rel ok0 N w0 lk (setO lo i (.box (cs.take off ++ vs ++ cs.drop (off + n)))) a (w.setRow b (cur.take off ++ us ++ cur.drop (off + n)).toArray) (setL L i (.box b)) := by
              refine h.turn i hcs (by rw [hLb]; exact hg) (fun b' hb' => .inl (by rw [hLb]; exact hb')) (fun z u hz hr => ?_) (fun all => ?_)
              · cases hr with
                | iv _ _ r => simp [AV.refs] at hz
                | agg => simp [AV.refs] at hz
                | loc j off' cs'' b'' ho' hL' =>
                  have : j = i := by simpa [AV.refs] using hz
                  subst this
                  rw [hL] at hL'
                  injection hL' with hL'
                  subst hL'
                  exact .loc j off' _ b (setO_self _ _ _) (setL_self _ _ _)
                | aref j e sz es mv v xs ho' hL' =>
                  have : j = i := by simpa [AV.refs] using hz
                  subst this
                  rw [hcs] at ho'; cases ho'
                | old j n' e sz es mv v v' xs ho' hL' =>
                  have : j = i := by simpa [AV.refs] using hz
                  subst this
                  rw [hcs] at ho'; cases ho'
                | eloc j n' i' off' e sz es mv v xs b'' ho' hL' =>
                  have : j = i := by simpa [AV.refs] using hz
                  subst this
                  rw [hcs] at ho'; cases ho'
              · have hsp := RepL.splice (cs := cs) (ds := vs) (vs := cur) (us := us) (o := off) ⟨hl, h1, hxx⟩ hru (by omega)
                rw [hvl, hul] at hsp
                obtain ⟨g1, g2, g3⟩ := hsp
                exact ⟨hB, ty, _, hset, g1, g2, fun k z u hk hu => all _ _ (g3 k z u hk hu)⟩
            refine ⟨trivial, _, undef, _, _, ?_, .inr ⟨rfl, rfl⟩, key, .iv _ _ (.any _)⟩
            simp only [execOp, ho, hey, Instr.storeAt, Instr.sureAddr, Sem.run_bind, Sem.run_pure, Result.andThen_ok, hst]
        · cases he
      · cases he
    · rename_i i m j off
      split at he
      · rename_i hii
        subst hii
        split at he
        · rename_i e sz es mv vs hcs hvs
          injection he with e1 e2 e3 e4
          subst e1 e2 e3 e4
          obtain ⟨hvl, rfl, hmv, hfit⟩ := hs
          obtain ⟨us, hus, hru⟩ := rep_cells' ry hvs
          have hob := h.objs _ _ hcs
          cases rx with
          | eloc _ _ _ _ e' sz' es' mv' v' xs b hob' hL hm hv =>
            rw [hcs] at hob'
            injection hob' with hob'
            injection hob' with g1 g2 g3 g4
            subst g1 g2 g3 g4
            rw [hL] at hob
            obtain ⟨hown, hmv2, hsz, h1, hxx⟩ := hob
            obtain ⟨hj, hbl, hcells⟩ := hv hmv
            have hbl := hbl rfl
            rcases hown.2 with ⟨hv', _⟩ | ⟨g, cap, cur, hv', hB, hg, hnc, hcm, hcs', htake⟩
            · rw [hv'] at hbl; simp [Value.ownBlock] at hbl
            · have hgb : g = b := by rw [hv'] at hbl; simpa [Value.ownBlock] using hbl
              subst hgb
              have hul : us.length = n := by rw [hru.1]; exact hvl
              have hcurl : cur.size = cap * sz := hcs'
              have hbig : j * sz + sz ≤ es.length * sz := by
                have : (j + 1) * sz ≤ es.length * sz := Nat.mul_le_mul_right sz (by omega)
                rw [Nat.add_mul] at this
                omega
              have hcapb : es.length * sz ≤ cap * sz := Nat.mul_le_mul_right sz hnc
              have hst := run_storeVar (w := w) hn g (j * sz + off) (a.eval y') us cur.toList hus hul (by simpa using hg) (by simp; omega) hru.2.1
              have hLb : (L i).block = some g := by rw [hL]; exact hbl
              have hgr := grownBy_setRow w g (cur.toList.take (j * sz + off) ++ us ++ cur.toList.drop (j * sz + off + n)).toArray
              have hset := setRow_heap w g cur (cur.toList.take (j * sz + off) ++ us ++ cur.toList.drop (j * sz + off + n)).toArray e (0, 0) hg
              have hxl : xs.length = es.length * sz := hown.1
              have hlenj := flat_len hsz hj
              have hvl2 : vs.length = us.length := by omega
              have hxs' : (cur.toList.take (j * sz + off) ++ us ++ cur.toList.drop (j * sz + off + n)).take (es.length * sz) = xs.take (j * sz + off) ++ us ++ xs.drop (j * sz + off + us.length) := by
                apply List.ext_getElem?
                intro k
                rw [List.getElem?_take, splice_get xs us _ _ (by omega), ← hul, splice_get cur.toList us _ _ (by simp; omega), ← htake]
                by_cases hk : k < es.length * sz
                · rw [if_pos hk]
                  simp only [List.getElem?_take, if_pos hk]
                · rw [if_neg hk, if_neg (by omega), if_neg (by omega), List.getElem?_take, if_neg hk]
              have hesl : (es.set j ((es.getD j []).take off ++ vs ++ (es.getD j []).drop (off + n))).length = es.length := by simp
              have key : Rel ok0 N w0 lk (setO lo i (.arr e sz (es.set j ((es.getD j []).take off ++ vs ++ (es.getD j []).drop (off + n))) es.length)) a
                  (w.setRow g (cur.toList.take (j * sz + off) ++ us ++ cur.toList.drop (j * sz + off + n)).toArray) (setL L i (.arr v' (xs.take (j * sz + off) ++ us ++ xs.drop (j * sz + off + us.length)))) := by
                refine h.turn i hcs (by rw [hLb]; exact hgr) (fun b' hb' => .inl (by rw [hLb]; simp only [Lay.block] at hb'; rw [← hb']; exact hbl.symm)) (fun z u hz hr => ?_) (fun all => ?_)
                · cases hr with
                  | iv _ _ r => simp [AV.refs] at hz
                  | agg => simp [AV.refs] at hz
                  | loc jj off' cs'' b'' ho' hL' =>
                    have : jj = i := by simpa [AV.refs] using hz
                    subst this
                    rw [hcs] at ho'; cases ho'
                  | aref jj e2 sz2 es2 mv2 v2 xs2 ho' hL' hsl =>
                    have : jj = i := by simpa [AV.refs] using hz
                    subst this
                    rw [hcs] at ho'
                    injection ho' with ho'
                    injection ho' with g1 g2 g3 g4
                    subst g1 g2 g3 g4
                    rw [hL] at hL'
                    injection hL' with hL' _
                    subst hL'
                    rw [← hesl]
                    exact .aref jj e sz _ _ v' _ (setO_self _ _ _) (setL_self _ _ _) hsl
                  | old jj n' e2 sz2 es2 mv2 v2 v2' xs2 ho' hL' hsl hn' hv2 =>
                    have : jj = i := by simpa [AV.refs] using hz
                    subst this
                    rw [hcs] at ho'
                    injection ho' with ho'
                    injection ho' with g1 g2 g3 g4
                    subst g1 g2 g3 g4
                    exact .old jj n' e sz _ es.length v' _ _ (setO_self _ _ _) (setL_self _ _ _) hsl (by rw [hesl]; exact hn') (fun hbad => by omega)
                  | eloc jj n' i' off' e2 sz2 es2 mv2 v2 xs2 b2 ho' hL' hn' hv2 =>
                    have : jj = i := by simpa [AV.refs] using hz
                    subst this
                    rw [hcs] at ho'
                    injection ho' with ho'
                    injection ho' with g1 g2 g3 g4
                    subst g1 g2 g3 g4
                    rw [hL] at hL'
                    injection hL' with hL' hL2
                    subst hL' hL2
                    refine .eloc jj n' i' off' e sz _ es.length v' _ b2 (setO_self _ _ _) (setL_self _ _ _) (by rw [hesl]; exact hn') (fun hbad => ?_)
                    have hn'' : n' = es.length := by omega
                    subst hn''
                    obtain ⟨k1, k2, k3⟩ := hv2 hmv
                    have hb2 := k2 rfl
                    have : b2 = g := by rw [hbl] at hb2; injection hb2 with hb2; exact hb2.symm
                    subst this
                    refine ⟨k1, fun _ => hbl, fun k hk => ⟨.inr hbl, ?_⟩⟩
                    have hk' : k < (xs.take (j * sz + off) ++ us ++ xs.drop (j * sz + off + us.length)).length := by
                      rw [splice_len xs us _ (by omega), hxl]; exact hk
                    obtain ⟨u, hu⟩ : ∃ u, (xs.take (j * sz + off) ++ us ++ xs.drop (j * sz + off + us.length))[k]? = some u := ⟨_, List.getElem?_eq_getElem hk'⟩
                    refine ⟨u, ?_, hu⟩
                    rw [cell_of_row _ _ _ _ e (0, 0) hset]
                    rw [← hxs', List.getElem?_take, if_pos hk] at hu
                    simpa using hu
                · refine ⟨⟨?_, .inr ⟨g, cap, _, ?_, hB, hset, ?_, hcm, ?_, ?_⟩⟩, ?_, ?_, ?_, ?_⟩
                  · rw [splice_len xs us _ (by omega), hesl, hxl]
                  · rw [hesl]; exact hv'
                  · rw [hesl]; exact hnc
                  · have := splice_len cur.toList us (j * sz + off) (by simp; omega)
                    rw [hul] at this
                    simp only [List.size_toArray, this, Array.length_toList]
                    exact hcurl
                  · rw [hesl]
                    simpa using hxs'
                  · rw [hesl]; exact Nat.le_refl _
                  · intro c hc
                    rcases List.mem_or_eq_of_mem_set hc with hc | rfl
                    · exact hsz c hc
                    · have := splice_len (es.getD j []) vs off (by omega)
                      rw [hvl] at this
                      rw [this, hlenj]
                  · intro u hu
                    simp only [List.mem_append] at hu
                    rcases hu with (hu | hu) | hu
                    · exact h1 u (List.mem_of_mem_take hu)
                    · exact hru.2.1 u hu
                    · exact h1 u (List.mem_of_mem_drop hu)
                  · intro ii jj c z u hi hjj hu
                    refine all _ _ ?_
                    rw [splice_get xs us _ _ (by omega)] at hu
                    rw [List.getElem?_set] at hi
                    simp only [if_pos hj] at hi
                    split at hi
                    · rename_i hij
                      subst hij
                      injection hi with hi
                      subst hi
                      have hsplit := splice_get (es.getD j []) vs off jj (by omega)
                      rw [hvl] at hsplit
                      rw [hsplit] at hjj
                      by_cases g1 : jj < off
                      · rw [if_pos g1] at hjj
                        rw [if_pos (by omega)] at hu
                        exact hxx j jj _ z u (getD_some hj) hjj hu
                      · rw [if_neg g1] at hjj
                        rw [if_neg (by omega)] at hu
                        by_cases g2 : jj < off + n
                        · rw [if_pos g2] at hjj
                          rw [if_pos (by omega)] at hu
                          rw [show j * sz + jj - (j * sz + off) = jj - off by omega] at hu
                          exact hru.2.2 _ z u hjj hu
                        · rw [if_neg g2] at hjj
                          rw [if_neg (by omega)] at hu
                          exact hxx j jj _ z u (getD_some hj) hjj hu
                    · rename_i hij
                      have hjlt : jj < sz := by
                        rw [← hsz c (List.mem_of_getElem? hi)]
                        exact (List.getElem?_eq_some_iff.1 hjj).1
                      have hne : ii * sz + jj < j * sz + off ∨ j * sz + off + us.length ≤ ii * sz + jj := by
                        rcases Nat.lt_or_gt_of_ne hij with hlt | hgt
                        · right
                          have : (j + 1) * sz ≤ ii * sz := Nat.mul_le_mul_right sz hlt
                          rw [Nat.add_mul] at this
                          omega
                        · left
                          have : (ii + 1) * sz ≤ j * sz := Nat.mul_le_mul_right sz hgt
                          rw [Nat.add_mul] at this
                          omega
                      rcases hne with hne | hne
                      · rw [if_pos hne] at hu
                        exact hxx ii jj c z u hi hjj hu
                      · rw [if_neg (by omega), if_neg (by omega)] at hu
                        exact hxx ii jj c z u hi hjj hu
              refine ⟨trivial, _, undef, _, _, ?_, .inr ⟨rfl, rfl⟩, key, .iv _ _ (.any _)⟩
              simp only [execOp, ho, hey, Instr.storeAt, Instr.sureAddr, Sem.run_bind, Sem.run_pure, Result.andThen_ok, hst]
        · cases he
      · cases he
    · cases he
  · cases hf

end
end Go.Ev

/- Each operation of the evaluator does what the translation's operation does: append. -/
namespace Go.Ev
open Go Go.RowKit

section
variable {P : Program} {ok0 : Nat → Prop} {N : Nat} {w0 : World} {lk : Nat → AV} {lo : Nat → Option AO} {a : Act} {w : World} {L : Nat → Lay} {o : Oper}
variable {s f : Prop} {v : AV} {up : Option (Nat × AO)}

theorem Rel.okL_turn {id : Nat} {o o' : AO} {l' : Lay} (h : Rel ok0 N w0 lk lo a w L) (hid : lo id = some o)
    (hl' : ∀ b, l'.block = some b → (L id).block = some b ∨ w.heap.size ≤ b) {b : Nat} (hb : okL ok0 lo L b) (hlt : b < w.heap.size) : okL ok0 (setO lo id o') (setL L id l') b := by
  refine ⟨hb.1, fun i oi hi he => ?_⟩
  by_cases hii : i = id
  · subst hii
    simp only [setL, if_true] at he
    rcases hl' b he with h1 | h1
    · exact hb.2 _ _ hid h1
    · omega
  · simp only [setO, hii, if_false] at hi
    simp only [setL, hii, if_false] at he
    exact hb.2 i oi hi he

/-- A row has grown by some elements. -/
theorem app_core {id : Nat} {e : TypeId} {sz mv : Nat} {es : List (List AV)} {ys : List (List IV)} {vv vv' : Value} {xs news : List Value} {w' : World} (h : Rel ok0 N w0 lk lo a w L)
    (hob : lo id = some (.arr e sz es mv)) (hL : L id = .arr vv xs) (hm : 0 < ys.length)
    (hg : w.grownBy w' vv.ownBlock) (hown' : w'.ownsRow w0.heap.size e sz vv' (es.length + ys.length) (xs ++ news))
    (hblk : ∀ b, vv'.ownBlock = some b → vv.ownBlock = some b ∨ w.heap.size ≤ b)
    (hpre : ∀ b k u, (okL ok0 lo L b ∨ vv.ownBlock = some b) → k < es.length * sz → w.cell? ⟨b, k, none⟩ = some u →
      (okL ok0 (setO lo id (.arr e sz (es ++ ys.map (List.map AV.iv)) mv)) (setL L id (.arr vv' (xs ++ news))) b ∨ vv'.ownBlock = some b) ∧ w'.cell? ⟨b, k, none⟩ = some u)
    (hsl : isSl vv' = true)
    (hys : ∀ c ∈ ys, c.length = sz) (h1 : ∀ u ∈ news, u.oneCell' = true)
    (hx : ∀ (i j : Nat) (c : List IV) (x : IV) (u : Value), ys[i]? = some c → c[j]? = some x → news[i * sz + j]? = some u → RepI (okL ok0 lo L) w x u) :
    Rel ok0 N w0 lk (setO lo id (.arr e sz (es ++ ys.map (List.map AV.iv)) mv)) a w' (setL L id (.arr vv' (xs ++ news))) ∧
    RepA (okL ok0 (setO lo id (.arr e sz (es ++ ys.map (List.map AV.iv)) mv)) (setL L id (.arr vv' (xs ++ news)))) w' (setO lo id (.arr e sz (es ++ ys.map (List.map AV.iv)) mv)) (setL L id (.arr vv' (xs ++ news))) (.aref id (es.length + ys.length)) vv' := by
  have hor := h.objs _ _ hob
  rw [hL] at hor
  obtain ⟨hown, hmv, hsz, h1x, hxx⟩ := hor
  have hxl : xs.length = es.length * sz := hown.1
  have hesl : (es ++ ys.map (List.map AV.iv)).length = es.length + ys.length := by simp
  have cells : ∀ b n, n ≤ es.length → (∀ k, k < n * sz → (okL ok0 lo L b ∨ vv.ownBlock = some b) ∧ ∃ u, w.cell? ⟨b, k, none⟩ = some u ∧ xs[k]? = some u) →
      (∀ k, k < n * sz → (okL ok0 (setO lo id (.arr e sz (es ++ ys.map (List.map AV.iv)) mv)) (setL L id (.arr vv' (xs ++ news))) b ∨ vv'.ownBlock = some b) ∧ ∃ u, w'.cell? ⟨b, k, none⟩ = some u ∧ (xs ++ news)[k]? = some u) := by
    intro b n hn hc k hk
    obtain ⟨hb, u, hcu, hxu⟩ := hc k hk
    have hk2 : k < es.length * sz := Nat.lt_of_lt_of_le hk (Nat.mul_le_mul_right sz hn)
    obtain ⟨hb', hcu'⟩ := hpre b k u hb hk2 hcu
    exact ⟨hb', u, hcu', by rw [List.getElem?_append_left (by omega)]; exact hxu⟩
  refine ⟨h.turn id hob (by rw [hL]; exact hg) (fun b hb => by rw [hL]; exact hblk b hb) (fun z u hz hr => ?_) (fun all => ?_), ?_⟩
  · cases hr with
    | iv _ _ r => simp [AV.refs] at hz
    | agg => simp [AV.refs] at hz
    | loc jj off' cs'' b'' ho' hL' =>
      have : jj = id := by simpa [AV.refs] using hz
      subst this
      rw [hob] at ho'; cases ho'
    | aref jj e2 sz2 es2 mv2 v2 xs2 ho' hL' hsl2 =>
      have : jj = id := by simpa [AV.refs] using hz
      subst this
      rw [hob] at ho'
      injection ho' with ho'
      injection ho' with g1 g2 g3 g4
      subst g1 g2 g3 g4
      rw [hL] at hL'
      injection hL' with hL' hL2
      subst hL' hL2
      refine .old jj es.length e sz _ mv vv' _ _ (setO_self _ _ _) (setL_self _ _ _) hsl2 (by rw [hesl]; omega) (fun _ => ?_)
      rcases hown.2 with ⟨hv', h00⟩ | ⟨g, cap, cur, hv', hB, hgg, hnc, hcm, hcs', htake⟩
      · exact .inl ⟨hv', h00⟩
      · refine .inr ⟨g, cap, hv', hnc, hcm, cells g es.length (Nat.le_refl _) fun k hk => ⟨.inr (by rw [hv']; rfl), ?_⟩⟩
        have hk' : k < xs.length := by omega
        refine ⟨xs[k], ?_, List.getElem?_eq_getElem hk'⟩
        have := hown.cells (g := g) (by rw [hv']; rfl) k xs[k] (List.getElem?_eq_getElem hk')
        rwa [addr_add, Nat.zero_add] at this
    | old jj n' e2 sz2 es2 mv2 v2 v2' xs2 ho' hL' hsl2 hn' hv2 =>
      have : jj = id := by simpa [AV.refs] using hz
      subst this
      rw [hob] at ho'
      injection ho' with ho'
      injection ho' with g1 g2 g3 g4
      subst g1 g2 g3 g4
      rw [hL] at hL'
      injection hL' with hL' hL2
      subst hL' hL2
      refine .old jj n' e sz _ mv vv' _ _ (setO_self _ _ _) (setL_self _ _ _) hsl2 (by rw [hesl]; omega) (fun hmm => ?_)
      rcases hv2 hmm with hh | ⟨b, cap, q1, q2, q3, q4⟩
      · exact .inl hh
      · exact .inr ⟨b, cap, q1, q2, q3, cells b n' (by omega) q4⟩
    | eloc jj n' i' off' e2 sz2 es2 mv2 v2 xs2 b2 ho' hL' hn' hv2 =>
      have : jj = id := by simpa [AV.refs] using hz
      subst this
      rw [hob] at ho'
      injection ho' with ho'
      injection ho' with g1 g2 g3 g4
      subst g1 g2 g3 g4
      rw [hL] at hL'
      injection hL' with hL' hL2
      subst hL' hL2
      refine .eloc jj n' i' off' e sz _ mv vv' _ b2 (setO_self _ _ _) (setL_self _ _ _) (by rw [hesl]; omega) (fun hmm => ?_)
      obtain ⟨k1, k2, k3⟩ := hv2 hmm
      exact ⟨k1, fun hbad => by rw [hesl] at hbad; omega, cells b2 n' hn' k3⟩
  · refine ⟨by rw [hesl]; exact hown', by rw [hesl]; omega, ?_, ?_, ?_⟩
    · intro c hc
      rcases List.mem_append.1 hc with hc | hc
      · exact hsz c hc
      · obtain ⟨d, hd, rfl⟩ := List.mem_map.1 hc
        simpa using hys d hd
    · intro u hu
      rcases List.mem_append.1 hu with hu | hu
      · exact h1x u hu
      · exact h1 u hu
    · intro i j c z u hi hj hu
      rw [List.getElem?_append] at hi
      split at hi
      · rename_i hlt
        have hjl : j < sz := by
          rw [← hsz c (List.mem_of_getElem? hi)]
          exact (List.getElem?_eq_some_iff.1 hj).1
        have hidx := idx_lt hlt hjl
        rw [List.getElem?_append_left (by omega)] at hu
        exact all _ _ (hxx i j c z u hi hj hu)
      · rename_i hge
        rw [List.getElem?_map, Option.map_eq_some_iff] at hi
        obtain ⟨d, hd, rfl⟩ := hi
        rw [List.getElem?_map, Option.map_eq_some_iff] at hj
        obtain ⟨y, hy, rfl⟩ := hj
        have hle : es.length * sz ≤ i * sz := Nat.mul_le_mul_right sz (by omega)
        rw [List.getElem?_append_right (by omega), hxl] at hu
        have : i * sz + j - es.length * sz = (i - es.length) * sz + j := by
          rw [Nat.sub_mul]; omega
        rw [this] at hu
        exact all _ _ (.iv _ _ (hx _ j d y u hd hy hu))
  · rw [← hesl]
    exact .aref id e sz _ mv vv' _ (setO_self _ _ _) (setL_self _ _ _) hsl

theorem app_spec {e : TypeId} {sz bytes : Nat} {x y : Opd} (hf : fApp P e sz bytes x y o.op = true) : ∃ x' y' t i z, o.op = .call { callee := .builtin .append, args := #[x', y'], argTypes := #[t, t] } ∧
    x.is x' = true ∧ y.is y' = true ∧ P.underlying t = some (.slice e) ∧ P.info? e = some i ∧ i.size = sz ∧ i.bytes = bytes ∧ i.zero = some z ∧ z.cells.size = sz ∧ 0 < sz := by
  unfold fApp at hf
  split at hf
  · rename_i as ts ho
    split at hf
    · rename_i x' y' t t' has hts
      simp only [Bool.and_eq_true, beq_iff_eq, decide_eq_true_eq] at hf
      obtain ⟨⟨⟨⟨⟨hx, hy⟩, rfl⟩, hs⟩, hpos⟩, hb⟩ := hf
      obtain ⟨i, hu, hi, hsz⟩ := sliceOf_spec hs
      unfold bytesAre at hb
      rw [hi] at hb
      simp only [Bool.and_eq_true, beq_iff_eq] at hb
      obtain ⟨hb1, hb2⟩ := hb
      split at hb2
      · rename_i z hz
        have e1 : as = #[x', y'] := by cases as; simp_all
        have e2 : ts = #[t, t] := by cases ts; simp_all
        exact ⟨x', y', t, i, z, by rw [ho, e1, e2], hx, hy, hu, hi, hsz, hb1, hz, by simpa using hb2, hpos⟩
      · cases hb2
    · cases hf
  · cases hf

theorem run_append_zero {t ty e : TypeId} {i : TypeInfo} (hu : P.underlying t = some (.slice e)) (hi : P.info? e = some i) (base : Option Addr) (n cap : Nat) (hnc : n ≤ cap) (y : Value)
    (hy : y = .slice none 0 0 ∨ ∃ ad c, y = .slice (some ad) 0 c) : (Builtin.append_ #[t, t] ty #[.slice base n cap, y]).run P w = .ok (.slice base n cap) w := by
  rcases hy with rfl | ⟨ad, c, rfl⟩ <;> cases base <;>
    simp [Builtin.append_, run_underlying hu, sizeOf, typeInfo, hi, Builtin.lenOf, Builtin.firstCells, hnc, loadCells, loadCellsFrom, storeCells]

theorem done_app {id : Nat} {e : TypeId} {sz bytes : Nat} {x y : Opd} (h : Rel ok0 N w0 lk lo a w L) (hok0 : ∀ b, w0.heap.size ≤ b → ok0 b) (hf : fApp P e sz bytes x y o.op = true)
    (he : evApp lo id e sz bytes (x.av lk) (y.av lk) = .ok s f v up) (hs : s) : f ∧ Done P o ok0 N w0 lk lo a w v up := by
  obtain ⟨x', y', t, ti, z, ho, hx, hy, hu, hi, hsz, hby, hz, hzs, hpos⟩ := app_spec hf
  have rx := Opd.rep h hx
  have ry := Opd.rep h hy
  generalize x.av lk = xv at rx he
  generalize y.av lk = yv at ry he
  generalize hex : a.eval x' = vv at rx
  generalize hey : a.eval y' = yy at ry
  have run : ∀ u w', (Builtin.append_ #[t, t] o.type #[vv, yy]).run P w = .ok u w' → (execOp a.eval o).run P w = .ok (.value u) w' := by
    intro u w' hr
    simp [execOp, ho, resolve, invoke, builtin, hex, hey, hr]
  unfold evApp at he
  split at he
  · rename_i i n sy ys
    split at he
    · rename_i hii
      subst hii
      split at he
      · rename_i e' sz' es mv hob
        split at he
        · rename_i hees
          obtain ⟨rfl, rfl⟩ := hees
          injection he with e1 e2 e3 e4
          subst e1 e2 e3 e4
          obtain ⟨rfl, rfl, hmv, hmax, hbytes⟩ := hs
          have hor := h.objs _ _ hob
          -- the current slice value
          have hcur : ∃ xs, L i = .arr vv xs ∧ isSl vv = true := by
            generalize hq : AV.aref i es.length = q at rx
            cases rx with
            | iv => cases hq
            | agg => cases hq
            | loc => cases hq
            | eloc => cases hq
            | aref i2 e2 sz2 es2 mv2 v2 xs hob2 hL hsl =>
              injection hq with hq1 hq2
              subst hq1
              exact ⟨xs, hL, hsl⟩
            | old i2 n2 e2 sz2 es2 mv2 v2 _ xs hob2 hL hsl hn2 hv =>
              injection hq with hq1 hq2
              subst hq1
              rw [hob] at hob2
              injection hob2 with hob2
              injection hob2 with g1 g2 g3 g4
              subst g3
              omega
          obtain ⟨xs, hL, hsl⟩ := hcur
          have hor' := hor
          rw [hL] at hor'
          obtain ⟨hown, hmv2, hszs, h1x, hxx⟩ := hor'
          have hyshape : ((∃ a0, yy = .slice a0 0 0) ∧ ys = []) ∨ ∃ (b off cap : Nat) (u : Nat → Value), yy = .slice (some ⟨b, off, none⟩) ys.length cap ∧ (∀ c ∈ ys, c.length = sy) ∧
              (∀ k, k < ys.length * sy → okL ok0 lo L b ∧ w.cell? ⟨b, off + k, none⟩ = some (u k) ∧ (u k).oneCell' = true) ∧
              (∀ (i j : Nat) (c : List IV) (x : IV), ys[i]? = some c → c[j]? = some x → RepI (okL ok0 lo L) w x (u (i * sy + j))) := by
            cases ry with
            | iv _ _ r => cases r with
              | nils => exact .inl ⟨⟨_, rfl⟩, rfl⟩
              | nilz => exact .inl ⟨⟨_, rfl⟩, rfl⟩
              | sl _ _ b off cap u hl hc hes hcell hxx => exact .inr ⟨b, off, cap, u, rfl, hes, hcell, hxx⟩
          by_cases hm : ys.length = 0
          · have hnil : ys = [] := List.eq_nil_of_length_eq_zero hm
            subst hnil
            have hvshape : ∃ base cap, vv = .slice base es.length cap ∧ es.length ≤ cap := by
              rcases hown.2 with ⟨hv', h00⟩ | ⟨g, cap, cur, hv', hB, hgg, hnc, hcm, hcs', htake⟩
              · exact ⟨none, 0, by rw [hv', h00], by omega⟩
              · exact ⟨_, cap, hv', hnc⟩
            obtain ⟨base, cap, hvb, hbc⟩ := hvshape
            have hr := run_append_zero (P := P) (w := w) (ty := o.type) hu hi base es.length cap hbc yy (by
              rcases hyshape with ⟨⟨a0, h1⟩, _⟩ | ⟨b, off, c, u, h1, _⟩
              · cases a0 with
                | none => exact .inl h1
                | some a0 => exact .inr ⟨_, _, h1⟩
              · exact .inr ⟨_, _, h1⟩)
            rw [← hvb] at hr
            have hlo : setO lo i (.arr e' sy (es ++ ([] : List (List IV)).map (List.map AV.iv)) mv) = lo := by
              funext j
              by_cases hj : j = i
              · subst hj; simp [setO, hob]
              · simp [setO, hj]
            refine ⟨trivial, _, vv, w, L, run _ _ hr, .inl rfl, ?_, ?_⟩
            · simp only [upO]; rw [hlo]; exact h
            · simp only [upO]; rw [hlo]
              simp only [List.length_nil, Nat.add_zero]
              exact .aref i e' sy es mv vv xs hob hL hsl
          · rcases hyshape with ⟨_, h0⟩ | ⟨b, off, c, u, hyy, hyl, hyc, hyx⟩
            · exact absurd (by rw [h0]; rfl) hm
            · let news := (List.range (ys.length * sy)).map u
              have hnl : news.length = ys.length * ti.size := by simp [news, hsz]
              have hnews : ∀ j u', news[j]? = some u' → w.cell? ((⟨b, off, none⟩ : Addr).add j) = some u' := by
                intro j u' hj
                simp only [news, List.getElem?_map, Option.map_eq_some_iff] at hj
                obtain ⟨k', hk', rfl⟩ := hj
                obtain ⟨h3, h4⟩ := List.getElem?_eq_some_iff.1 hk'
                simp at h3 h4
                subst h4
                rw [addr_add]
                exact (hyc j h3).2.1
              have hn1 : ∀ u' ∈ news, u'.oneCell' = true := by
                intro u' hu'
                simp only [news, List.mem_map, List.mem_range] at hu'
                obtain ⟨k, hk, rfl⟩ := hu'
                exact (hyc k hk).2.2
              have hnx : ∀ (i j : Nat) (c : List IV) (x : IV) (u' : Value), ys[i]? = some c → c[j]? = some x → news[i * sy + j]? = some u' → RepI (okL ok0 lo L) w x u' := by
                intro i j c x u' h2 h3 h4
                simp only [news, List.getElem?_map, Option.map_eq_some_iff] at h4
                obtain ⟨k', hk', rfl⟩ := h4
                obtain ⟨h5, h6⟩ := List.getElem?_eq_some_iff.1 hk'
                simp at h5 h6
                subst h6
                exact hyx i j c x h2 h3
              have hml : es.length + ys.length ≤ 9223372036854775807 := by simp only [maxLen] at hmax; omega
              have fin : ∀ vv' w', (Builtin.append_ #[t, t] o.type #[vv, yy]).run P w = .ok vv' w' → w.grownBy w' vv.ownBlock → w'.ownsRow w0.heap.size e' sy vv' (es.length + ys.length) (xs ++ news) →
                  (∀ b, vv'.ownBlock = some b → vv.ownBlock = some b ∨ w.heap.size ≤ b) → isSl vv' = true →
                  (∀ b k u, (okL ok0 lo L b ∨ vv.ownBlock = some b) → k < es.length * sy → w.cell? ⟨b, k, none⟩ = some u →
                    (okL ok0 (setO lo i (.arr e' sy (es ++ ys.map (List.map AV.iv)) mv)) (setL L i (.arr vv' (xs ++ news))) b ∨ vv'.ownBlock = some b) ∧ w'.cell? ⟨b, k, none⟩ = some u) →
                  True ∧ Done P o ok0 N w0 lk lo a w (.aref i (es.length + ys.length)) (some (i, .arr e' sy (es ++ ys.map (List.map AV.iv)) mv)) := by
                intro vv' w' hr hg hown' hblk hsl' hpre
                obtain ⟨r1, r2⟩ := app_core h hob hL (by omega) hg hown' hblk hpre hsl' hyl hn1 hnx
                exact ⟨trivial, _, vv', w', _, run _ _ hr, .inl rfl, r1, r2⟩
              have fresh : ∀ (cap' : Nat) (cells : List Value), es.length + ys.length ≤ cap' → cap' ≤ maxLen → cells.length = cap' * sy → cells.take ((es.length + ys.length) * sy) = xs ++ news →
                  (Builtin.append_ #[t, t] o.type #[vv, yy]).run P w = .ok (.slice (some ⟨w.heap.size, 0, none⟩) (es.length + ys.length) cap') (w.drew.alloc (.cells cells.toArray e')) →
                  True ∧ Done P o ok0 N w0 lk lo a w (.aref i (es.length + ys.length)) (some (i, .arr e' sy (es ++ ys.map (List.map AV.iv)) mv)) := by
                intro cap' cells h1 h2 h3 h4 hr
                have hheap : ∀ k, k < w.heap.size → (w.drew.alloc (.cells cells.toArray e')).heap[k]? = w.heap[k]? := fun k hk => heap_alloc_old w.drew _ k hk
                have hbl : ∀ b, (Lay.arr (.slice (some ⟨w.heap.size, 0, none⟩) (es.length + ys.length) cap') (xs ++ news)).block = some b → (L i).block = some b ∨ w.heap.size ≤ b := by
                  intro b hb
                  simp only [Lay.block, Value.ownBlock, Option.some.injEq] at hb
                  exact .inr (by omega)
                refine fin _ _ hr ⟨rfl, rfl, rfl, by simp, fun k hk _ => hheap k hk⟩ ⟨?_, .inr ⟨w.heap.size, cap', cells.toArray, rfl, h.le, heap_alloc_new w.drew _, h1, h2, by simpa using h3, by simpa using h4⟩⟩ (fun b hb => ?_) rfl (fun b k u hb hk hc => ?_)
                · rw [List.length_append, hown.1, hnl, hsz, Nat.add_mul]
                · simp only [Value.ownBlock, Option.some.injEq] at hb
                  exact .inr (by omega)
                · have hlt := World.block_lt_of_cell? w ⟨b, k, none⟩ hc
                  refine ⟨.inl ?_, (World.cell?_of_block (a := ⟨b, k, none⟩) (hheap b hlt)).trans hc⟩
                  rcases hb with hb | hb
                  · exact h.okL_turn hob hbl hb hlt
                  · have hge := (hown.lt b hb).1
                    refine ⟨hok0 b hge, fun j oj hj hbad => ?_⟩
                    by_cases hji : j = i
                    · subst hji
                      simp only [setL, if_true, Lay.block, Value.ownBlock, Option.some.injEq] at hbad
                      simp only [] at hlt
                      omega
                    · simp only [setO, hji, if_false] at hj
                      simp only [setL, hji, if_false] at hbad
                      exact h.apart j i oj _ b hji hj hob hbad (by rw [hL]; exact hb)
              rcases hown.2 with ⟨hv', h00⟩ | ⟨g, cap, cur, hv', hB, hgg, hnc, hcm, hcs', htake⟩
              · have hxs0 : xs = [] := List.eq_nil_of_length_eq_zero (by rw [hown.1, h00]; simp)
                have hr := run_append_nil (P := P) w t o.type e' ti z hu hi hz ⟨b, off, none⟩ ys.length c news hnl hnews (by omega) (by omega) (by rw [hby]; rw [h00, Nat.zero_add] at hbytes; omega)
                have hge := grownCap_ge w ys.length 0 e'
                have hle := grownCap_le_maxLen w ys.length 0 e' (by omega)
                have hzl : (Builtin.zeroCells z.cells (grownCap w ys.length 0 e' - ys.length)).toList.length = (grownCap w ys.length 0 e' - ys.length) * sy := by
                  rw [Array.length_toList, size_zeroCells, hzs]
                refine fresh (grownCap w ys.length 0 e') (news ++ (Builtin.zeroCells z.cells (grownCap w ys.length 0 e' - ys.length)).toList) (by omega) hle ?_ ?_ ?_
                · rw [List.length_append, hnl, hzl, hsz, ← Nat.add_mul]
                  congr 1
                  omega
                · rw [h00, Nat.zero_add, hxs0, List.nil_append, ← hsz, ← hnl]
                  exact List.take_left
                · rw [h00, Nat.zero_add, hv', hyy, hr]
                  congr 3
                  apply Array.ext'
                  simp
              · by_cases hroom : es.length + ys.length ≤ cap
                · have hfit : es.length * ti.size + news.length ≤ cur.size := by rw [hnl, hcs', hsz, ← Nat.add_mul]; exact Nat.mul_le_mul_right _ hroom
                  have hr := run_append_room (P := P) w t o.type e' ti hu hi g es.length cap cur hgg ⟨b, off, none⟩ ys.length c news hnl hnews hn1 hroom hfit
                  rw [hsz] at hr hfit
                  have hset := setRow_heap w g cur (cur.toList.take (es.length * sy) ++ news ++ cur.toList.drop (es.length * sy + news.length)).toArray e' (0, 0) hgg
                  have hob' : vv.ownBlock = some g := by rw [hv']; rfl
                  have hlen := splice_len cur.toList news (es.length * sy) (by simpa using hfit)
                  refine fin _ _ (by rw [hv', hyy]; exact hr) (by rw [hob']; exact grownBy_setRow w g _) ⟨?_, .inr ⟨g, cap, _, rfl, hB, hset, hroom, hcm, ?_, ?_⟩⟩ (fun b hb => .inl (by rw [hob']; exact hb)) rfl (fun b' k u hb hk hc => ?_)
                  · rw [List.length_append, hown.1, hnl, hsz, Nat.add_mul]
                  · simp only [List.size_toArray, hlen, Array.length_toList]; exact hcs'
                  · simp only []
                    rw [htake]
                    have : (es.length + ys.length) * sy = (xs ++ news).length := by rw [List.length_append, hown.1, hnl, hsz, Nat.add_mul]
                    rw [this]
                    exact List.take_left
                  · have hlt := World.block_lt_of_cell? w ⟨b', k, none⟩ hc
                    rcases hb with hb | hb
                    · have hne : b' ≠ g := fun e => hb.2 i _ hob (by rw [hL]; simp only [Lay.block]; rw [hob', e])
                      refine ⟨.inl (h.okL_turn hob (fun b hb => .inl ?_) hb hlt), (World.cell?_of_block (a := ⟨b', k, none⟩) (setRow_other w g b' _ hne)).trans hc⟩
                      rw [hL]; simp only [Lay.block] at hb ⊢; rw [hob']; exact hb
                    · have : b' = g := by rw [hob'] at hb; injection hb with hb; exact hb.symm
                      subst this
                      refine ⟨.inr rfl, ?_⟩
                      rw [cell_of_row _ _ _ _ e' (0, 0) hset]
                      rw [cell_of_row _ _ _ _ e' (0, 0) hgg] at hc
                      simp only [List.getElem?_toArray]
                      rw [splice_get _ _ _ _ (by simpa using hfit), if_pos hk]
                      simpa using hc
                · have holds : ∀ j u, xs[j]? = some u → w.cell? ((⟨g, 0, none⟩ : Addr).add j) = some u := hown.cells (g := g) (by rw [hv']; rfl)
                  have hr := run_append_grow (P := P) w t o.type e' ti z hu hi hz ⟨g, 0, none⟩ es.length cap xs (by rw [hown.1, hsz]) holds ⟨b, off, none⟩ ys.length c news hnl hnews (by omega) (by omega)
                    (growslice_fits (by omega) (by rw [hby]; exact hbytes))
                  have hge := grownCap_ge w (es.length + ys.length) cap e'
                  have hle := grownCap_le_maxLen w (es.length + ys.length) cap e' (by omega)
                  have hzl : (Builtin.zeroCells z.cells (grownCap w (es.length + ys.length) cap e' - (es.length + ys.length))).toList.length = (grownCap w (es.length + ys.length) cap e' - (es.length + ys.length)) * sy := by
                    rw [Array.length_toList, size_zeroCells, hzs]
                  have htot : (xs ++ news).length = (es.length + ys.length) * sy := by rw [List.length_append, hown.1, hnl, hsz, Nat.add_mul]
                  refine fresh (grownCap w (es.length + ys.length) cap e') (xs ++ news ++ (Builtin.zeroCells z.cells (grownCap w (es.length + ys.length) cap e' - (es.length + ys.length))).toList) hge hle ?_ ?_ ?_
                  · rw [List.length_append, htot, hzl, ← Nat.add_mul]
                    congr 1
                    omega
                  · rw [← htot]
                    exact List.take_left
                  · rw [hv', hyy, hr]
                    congr 3
                    apply Array.ext'
                    simp
        · cases he
      · cases he
    · cases he
  · cases he

end
end Go.Ev

/- Every operation of the evaluator does what the translation's operation does; which slots and objects an operation looks at. -/
namespace Go.Ev
open Go Go.RowKit

section
variable {P : Program} {ok0 : Nat → Prop} {N : Nat} {w0 : World} {lk : Nat → AV} {lo : Nat → Option AO} {a : Act} {w : World} {L : Nat → Lay} {o : Oper}
variable {s f : Prop} {v : AV} {up : Option (Nat × AO)}

theorem op_sound {op : AOp} (h : Rel ok0 N w0 lk lo a w L) (hok0 : ∀ b, w0.heap.size ≤ b → ok0 b) (hf : op.fits P o.op = true)
    (he : ev lk lo op = .ok s f v up) (hs : s) : f ∧ Done P o ok0 N w0 lk lo a w v up := by
  cases op with
  | mov x =>
    simp only [ev] at he
    injection he with e1 e2 e3 e4
    subst e2 e3 e4
    exact ⟨trivial, done_mov h hf⟩
  | nilo id e sz =>
    simp only [ev] at he
    split at he
    · rename_i hid
      injection he with e1 e2 e3 e4
      subst e2 e3 e4
      exact ⟨trivial, done_nilo h hid hf⟩
    · cases he
  | pick c x y => exact done_pick h hf he
  | ext x i => exact done_ext h hf he
  | not x => exact done_not h hf he
  | bin op x y => exact done_bin h hf he hs
  | beq n x y => exact done_beq h hf he
  | cvi k x => exact done_cvi h hf he
  | cvs x => exact done_cvs h hf he
  | b2s x => exact done_b2s h hf he hs
  | i2s x => exact done_i2s h hf he hs
  | nilc x => exact done_nilc h hf he
  | fld off x => exact done_fld h hf he hs
  | ldi n ag x => exact done_ldi h hf he hs
  | ldo id n ag x => exact done_ldo h hf he hs
  | sto id n x y => exact done_sto h hf he hs
  | ixi sz x i => exact done_ixi h hf he hs
  | ixo id sz x i => exact done_ixo h hf he hs
  | ixs x i => exact done_ixs h hf he hs
  | sli sz x l h' => exact done_sli h hf he hs
  | sls x l h' => exact done_sls h hf he hs
  | boxi x => exact done_boxi h hok0 hf he
  | boxo id x => exact done_boxo h hf he
  | alo id zs =>
    simp only [ev] at he
    split at he
    · rename_i hid
      injection he with e1 e2 e3 e4
      subst e2 e3 e4
      exact ⟨trivial, done_alo h hid hf⟩
    · cases he
  | bld zs parts =>
    simp only [ev] at he
    split at he
    · rename_i cs hcs
      injection he with e1 e2 e3 e4
      subst e2 e3 e4
      exact ⟨trivial, done_bld h hf hcs⟩
    · cases he
  | bsl sz parts =>
    simp only [ev] at he
    split at he
    · rename_i rows hr
      split at he
      · rename_i es hes
        injection he with e1 e2 e3 e4
        subst e2 e3 e4
        exact ⟨trivial, done_bsl h hok0 hf hr hes⟩
      · cases he
    · cases he
  | bso id e sz parts =>
    simp only [ev] at he
    split at he
    · rename_i rows hid hr
      injection he with e1 e2 e3 e4
      subst e2 e3 e4
      exact ⟨trivial, done_bso h hid hf hr⟩
    · cases he
  | len x => exact done_len h hf he
  | leno id x => exact done_leno h hf he hs
  | lst x => exact done_lst h hf he
  | app id e sz bytes x y => exact done_app h hok0 hf he hs
  | call g args ids => cases he
end

/-! ### What an operation looks at -/

def Opd.tmps : Opd → List Nat
  | .t n => [n]
  | _ => []

def optT : Option Opd → List Nat
  | some x => x.tmps
  | none => []

def AOp.tmps : AOp → List Nat
  | .mov x | .ext x _ | .not x | .cvi _ x | .cvs x | .b2s x | .i2s x | .nilc x | .fld _ x | .ldi _ _ x | .ldo _ _ _ x | .boxi x | .boxo _ x | .len x | .leno _ x | .lst x => x.tmps
  | .nilo _ _ _ => []
  | .pick c x y => c.tmps ++ x.tmps ++ y.tmps
  | .bin _ x y | .beq _ x y | .sto _ _ x y | .ixi _ x y | .ixo _ _ x y | .ixs x y | .app _ _ _ _ x y => x.tmps ++ y.tmps
  | .sli _ x l h | .sls x l h => x.tmps ++ optT l ++ optT h
  | .alo _ zs => zs.flatMap (·.tmps)
  | .bld zs parts => zs.flatMap (·.tmps) ++ parts.flatMap (·.2.2.tmps)
  | .bsl _ parts | .bso _ _ _ parts | .call _ parts _ => parts.flatMap (·.tmps)

/-- The objects that it looks at, or sets. -/
def AOp.objs : AOp → List Nat
  | .nilo id _ _ | .ldo id _ _ _ | .sto id _ _ _ | .ixo id _ _ _ | .boxo id _ | .alo id _ | .bso id _ _ _ | .leno id _ | .app id _ _ _ _ _ => [id]
  | .call _ _ ids => ids
  | _ => []

/-- The objects that it sets. -/
def AOp.sets : AOp → List Nat
  | .nilo id _ _ | .sto id _ _ _ | .boxo id _ | .alo id _ | .bso id _ _ _ | .app id _ _ _ _ _ => [id]
  | _ => []

theorem Opd.av_congr {lk lk' : Nat → AV} {x : Opd} (h : ∀ t ∈ x.tmps, lk' t = lk t) : x.av lk' = x.av lk := by
  cases x <;> first | rfl | exact h _ (by simp [Opd.tmps])

theorem optNat_congr {lk lk' : Nat → AV} {d : Nat} {x : Option Opd} (h : ∀ t ∈ optT x, lk' t = lk t) : optNat lk' d x = optNat lk d x := by
  cases x with
  | none => rfl
  | some x => simp only [optNat, Opd.av_congr (x := x) h]

theorem map_av_congr {lk lk' : Nat → AV} : ∀ {xs : List Opd}, (∀ t ∈ xs.flatMap (·.tmps), lk' t = lk t) → xs.map (·.av lk') = xs.map (·.av lk)
  | [], _ => rfl
  | x :: r, h => by
    simp only [List.flatMap_cons, List.mem_append] at h
    simp only [List.map_cons, Opd.av_congr (x := x) (fun t ht => h t (.inl ht)), map_av_congr (xs := r) (fun t ht => h t (.inr ht))]

theorem parts_congr {lk lk' : Nat → AV} : ∀ {xs : List (Nat × Nat × Opd)}, (∀ t ∈ xs.flatMap (·.2.2.tmps), lk' t = lk t) →
    (xs.map fun (o, s, x) => (o, s, x.av lk')) = xs.map fun (o, s, x) => (o, s, x.av lk)
  | [], _ => rfl
  | (o, s, x) :: r, h => by
    simp only [List.flatMap_cons, List.mem_append] at h
    simp only [List.map_cons, Opd.av_congr (x := x) (fun t ht => h t (.inl ht)), parts_congr (xs := r) (fun t ht => h t (.inr ht))]

theorem ev_congr {lk lk' : Nat → AV} {lo lo' : Nat → Option AO} {op : AOp} (h : ∀ t ∈ op.tmps, lk' t = lk t) (h' : ∀ i ∈ op.objs, lo' i = lo i) : ev lk' lo' op = ev lk lo op := by
  have one : ∀ x : Opd, (∀ t ∈ x.tmps, t ∈ op.tmps) → x.av lk' = x.av lk := fun x hx => Opd.av_congr fun t ht => h t (hx t ht)
  have opt : ∀ (d : Nat) (x : Option Opd), (∀ t ∈ optT x, t ∈ op.tmps) → optNat lk' d x = optNat lk d x := fun d x hx => optNat_congr fun t ht => h t (hx t ht)
  have lst : ∀ xs : List Opd, (∀ t ∈ xs.flatMap (·.tmps), t ∈ op.tmps) → xs.map (·.av lk') = xs.map (·.av lk) := fun xs hx => map_av_congr fun t ht => h t (hx t ht)
  have obj : ∀ i ∈ op.objs, lo' i = lo i := h'
  cases op with
  | mov x => simp only [ev, one x (by simp [AOp.tmps])]
  | nilo id e sz => simp only [ev, obj id (by simp [AOp.objs])]
  | pick c x y => simp only [ev, one c (by simp +contextual [AOp.tmps]), one x (by simp +contextual [AOp.tmps]), one y (by simp +contextual [AOp.tmps])]
  | ext x i => simp only [ev, one x (by simp [AOp.tmps])]
  | not x => simp only [ev, one x (by simp [AOp.tmps])]
  | bin o x y => simp only [ev, one x (by simp +contextual [AOp.tmps]), one y (by simp +contextual [AOp.tmps])]
  | beq n x y => simp only [ev, one x (by simp +contextual [AOp.tmps]), one y (by simp +contextual [AOp.tmps])]
  | cvi k x => simp only [ev, one x (by simp [AOp.tmps])]
  | cvs x => simp only [ev, one x (by simp [AOp.tmps])]
  | b2s x => simp only [ev, one x (by simp [AOp.tmps])]
  | i2s x => simp only [ev, one x (by simp [AOp.tmps])]
  | nilc x => simp only [ev, one x (by simp [AOp.tmps])]
  | fld o x => simp only [ev, one x (by simp [AOp.tmps])]
  | ldi n ag x => simp only [ev, one x (by simp [AOp.tmps])]
  | ldo id n ag x => simp only [ev, one x (by simp [AOp.tmps]), evLdo, obj id (by simp [AOp.objs])]
  | sto id n x y => simp only [ev, one x (by simp +contextual [AOp.tmps]), one y (by simp +contextual [AOp.tmps]), evSto, obj id (by simp [AOp.objs])]
  | ixi sz x i => simp only [ev, one x (by simp +contextual [AOp.tmps]), one i (by simp +contextual [AOp.tmps])]
  | ixo id sz x i => simp only [ev, one x (by simp +contextual [AOp.tmps]), one i (by simp +contextual [AOp.tmps]), evIxo, obj id (by simp [AOp.objs])]
  | ixs x i => simp only [ev, one x (by simp +contextual [AOp.tmps]), one i (by simp +contextual [AOp.tmps])]
  | sli sz x l r => simp only [ev, one x (by simp +contextual [AOp.tmps]), evSli, fun d => opt d l (by simp +contextual [AOp.tmps]), fun d => opt d r (by simp +contextual [AOp.tmps])]
  | sls x l r => simp only [ev, one x (by simp +contextual [AOp.tmps]), evSls, fun d => opt d l (by simp +contextual [AOp.tmps]), fun d => opt d r (by simp +contextual [AOp.tmps])]
  | boxi x => simp only [ev, one x (by simp [AOp.tmps])]
  | boxo id x => simp only [ev, one x (by simp [AOp.tmps]), evBoxo, obj id (by simp [AOp.objs])]
  | alo id zs => simp only [ev, lst zs (by simp [AOp.tmps]), obj id (by simp [AOp.objs])]
  | bld zs parts =>
    have hp := parts_congr (lk := lk) (lk' := lk') (xs := parts) fun t ht => h t (by simp only [AOp.tmps, List.mem_append]; exact .inr ht)
    simp only [ev, lst zs (by simp +contextual [AOp.tmps]), hp]
  | bsl sz parts => simp only [ev, lst parts (by simp [AOp.tmps])]
  | bso id e sz parts => simp only [ev, lst parts (by simp [AOp.tmps]), obj id (by simp [AOp.objs])]
  | len x => simp only [ev, one x (by simp [AOp.tmps])]
  | leno id x => simp only [ev, one x (by simp [AOp.tmps]), evLeno, obj id (by simp [AOp.objs])]
  | lst x => simp only [ev, one x (by simp [AOp.tmps])]
  | app id e sz bytes x y => simp only [ev, one x (by simp +contextual [AOp.tmps]), one y (by simp +contextual [AOp.tmps]), evApp, obj id (by simp [AOp.objs])]
  | call f args ids => simp only [ev]

end Go.Ev

/- What a caller may take of a function; a run of a region's operations in the text's order serves every order. -/
namespace Go.Ev
open Go Go.RowKit

/-- The call returns data that reads as 'r', for arguments that read as 'args', and leaves what was there alone. -/
def Good (P : Program) (K : World → Prop) (f : FuncId) (args : List IV) (r : IV) : Prop :=
  ∀ (w : World) (ok : Nat → Prop) (vs : List Value), K w → (∀ b, w.heap.size ≤ b → ok b) → vs.length = args.length →
    (∀ (k : Nat) (x : IV) (u : Value), args[k]? = some x → vs[k]? = some u → RepI ok w x u) →
    Calls P f vs.toArray w (fun e w' => ∃ v, e = .returned v ∧ RepI ok w' r v ∧ Below w.heap.size w w')

mutual
/-- A value as data, its objects read. -/
def imm (lo : Nat → Option AO) : Nat → AV → Option IV
  | 0, _ => none
  | _ + 1, .iv x => some x
  | n + 1, .agg cs => (imms lo n cs).map .agg
  | n + 1, .loc id off => match lo id with
    | some (.box cs) => (imms lo n cs).map fun xs => .ptr (xs.drop off)
    | _ => none
  | n + 1, .aref id m => match lo id with
    | some (.arr _ sz es mv) => if mv ≤ m ∧ m ≤ es.length then (immss lo n (es.take m)).map (.sl sz) else none
    | _ => none
  | _ + 1, .eloc _ _ _ _ => none
def imms (lo : Nat → Option AO) : Nat → List AV → Option (List IV)
  | 0, _ => none
  | _ + 1, [] => some []
  | n + 1, x :: r => match imm lo n x, imms lo n r with
    | some y, some ys => some (y :: ys)
    | _, _ => none
def immss (lo : Nat → Option AO) : Nat → List (List AV) → Option (List (List IV))
  | 0, _ => none
  | _ + 1, rows => ivss rows
end

def noRef : AV → Bool
  | .iv _ => true
  | _ => false

mutual
def scalar : IV → Bool
  | .any | .bool _ | .int _ _ | .str _ | .nilp => true
  | .tup cs => scalars cs
  | _ => false
def scalars : List IV → Bool
  | [] => true
  | x :: r => scalar x && scalars r
end

/-- The arguments of a call as data. -/
def peek (lo : Nat → Option AO) (ids : List Nat) (xs : List AV) : Option (List IV) :=
  match ids with
  | [] => ivs xs
  | _ => imms (fun i => if ids.contains i then lo i else none) 40 xs

section
variable {P : Program} {K : World → Prop} {ok0 : Nat → Prop} {N : Nat} {w0 : World} {lk : Nat → AV} {lo : Nat → Option AO} {a : Act} {w : World} {L : Nat → Lay} {o : Oper}
variable {s f : Prop} {v : AV} {up : Option (Nat × AO)}

theorem ev_sets {op : AOp} {id : Nat} {ob : AO} (he : ev lk lo op = .ok s f v (some (id, ob))) : id ∈ op.sets := by
  cases op <;> simp only [ev] at he <;> simp only [AOp.sets] <;>
    (try simp only [evPick, evExt, evNot, evBin, evInt, evBeq, evCvi, evCvs, evB2s, evI2s, evNilc, evFld, evLdi, evLdo, evSto, evIxi, evIxo, evIxs, evSli, evSls, evBoxi, evBoxo, evLen, evLeno, evLst, evApp] at he) <;>
    (repeat' (split at he)) <;>
    first
      | (cases he; done)
      | (injection he with _ _ _ e; injection e with e; injection e with e _; simp [e])

theorem okL_le {b : Nat} (h : okL ok0 lo L b) : ok0 b := h.1

theorem imm_rows (h : Rel ok0 N w0 lk lo a w L) (hok0 : ∀ b, w0.heap.size ≤ b → ok0 b) {id n : Nat} {e : TypeId} {sz mv : Nat} {es : List (List AV)} {ys : List (List IV)} {vv : Value}
    (hob : lo id = some (.arr e sz es mv)) (hmv : mv ≤ n) (hn : n ≤ es.length) (hys : es.take n = ys.map (List.map AV.iv)) (hr : RepA (okL ok0 lo L) w lo L (.aref id n) vv) : RepI ok0 w (.sl sz ys) vv := by
  have hor := h.objs _ _ hob
  have hyl : ys.length = n := by
    have := congrArg List.length hys
    simp at this; omega
  have fin : ∀ (b cap : Nat) (v : Value) (xs : List Value), L id = .arr v xs → vv = .slice (some ⟨b, 0, none⟩) n cap → n ≤ cap → cap ≤ maxLen →
      (∀ k, k < n * sz → (okL ok0 lo L b ∨ v.ownBlock = some b) ∧ ∃ u, w.cell? ⟨b, k, none⟩ = some u ∧ xs[k]? = some u) → RepI ok0 w (.sl sz ys) vv := by
    intro b cap v xs hL hvv hnc hcm hcells
    rw [hL] at hor
    obtain ⟨hown, hmv2, hsz, h1, hxx⟩ := hor
    have hys2 : ∀ (i : Nat) (c : List IV), ys[i]? = some c → es[i]? = some (c.map AV.iv) := by
      intro i c hc
      have : (es.take n)[i]? = some (c.map AV.iv) := by rw [hys]; simp [hc]
      rw [List.getElem?_take] at this
      split at this
      · exact this
      · cases this
    have hcl : ∀ c ∈ ys, c.length = sz := by
      intro c hc
      obtain ⟨i, hi⟩ := List.getElem?_of_mem hc
      have := hsz _ (List.mem_of_getElem? (hys2 i c hi))
      simpa using this
    rw [hvv, ← hyl]
    refine .sl sz ys b 0 cap (fun k => xs.getD k undef) (by omega) hcm hcl (fun k hk => ?_) (fun i j c x hi hj => ?_)
    · rw [hyl] at hk
      obtain ⟨hb, u, hc, hx⟩ := hcells k hk
      rw [Nat.zero_add]
      have e : xs.getD k undef = u := by simp [List.getD, hx]
      rw [e]
      refine ⟨?_, hc, h1 u (List.mem_of_getElem? hx)⟩
      rcases hb with hb | hb
      · exact hb.1
      · exact hok0 b (hown.lt b hb).1
    · have hil : i < n := by rw [← hyl]; exact (List.getElem?_eq_some_iff.1 hi).1
      have hjl : j < sz := by rw [← hcl c (List.mem_of_getElem? hi)]; exact (List.getElem?_eq_some_iff.1 hj).1
      obtain ⟨_, u, _, hx⟩ := hcells (i * sz + j) (idx_lt hil hjl)
      have e : xs.getD (i * sz + j) undef = u := by simp [List.getD, hx]
      rw [e]
      have := hxx i j _ (.iv x) u (hys2 i c hi) (by simp [hj]) hx
      cases this with
      | iv _ _ r => exact r.mono fun b hb _ => ⟨hb.1, rfl⟩
  have nil : n = 0 → vv = .slice none 0 0 → RepI ok0 w (.sl sz ys) vv := by
    intro h0 hv
    have : ys = [] := List.eq_nil_of_length_eq_zero (by omega)
    rw [this, hv]
    exact .nils sz
  generalize hq : AV.aref id n = q at hr
  cases hr with
  | iv => cases hq
  | agg => cases hq
  | loc => cases hq
  | eloc => cases hq
  | aref i2 e2 sz2 es2 mv2 v2 xs hob2 hL hsl =>
    injection hq with hq1 hq2
    subst hq1
    rw [hob] at hob2
    injection hob2 with hob2
    injection hob2 with g1 g2 g3 g4
    subst g1 g2 g3 g4
    have hor' := hor
    rw [hL] at hor'
    obtain ⟨hown, _⟩ := hor'
    rcases hown.2 with ⟨hv', h00⟩ | ⟨g, cap, cur, hv', hB, hgg, hnc, hcm, hcs', htake⟩
    · exact nil (by omega) hv'
    · refine fin g cap _ xs hL (by rw [hq2]; exact hv') (by omega) hcm fun k hk => ⟨.inr (by rw [hv']; rfl), ?_⟩
      have hk' : k < xs.length := by rw [hown.1, ← hq2]; exact hk
      refine ⟨xs[k], ?_, List.getElem?_eq_getElem hk'⟩
      have := hown.cells (g := g) (by rw [hv']; rfl) k xs[k] (List.getElem?_eq_getElem hk')
      rwa [addr_add, Nat.zero_add] at this
  | old i2 n2 e2 sz2 es2 mv2 v2 _ xs hob2 hL hsl hn2 hv =>
    injection hq with hq1 hq2
    subst hq1 hq2
    rw [hob] at hob2
    injection hob2 with hob2
    injection hob2 with g1 g2 g3 g4
    subst g1 g2 g3 g4
    rcases hv hmv with ⟨hv, h00⟩ | ⟨b, cap, hv', hnc, hcm, hcells⟩
    · exact nil h00 hv
    · exact fin b cap _ xs hL hv' hnc hcm hcells

theorem imm_sound (h : Rel ok0 N w0 lk lo a w L) (hok0 : ∀ b, w0.heap.size ≤ b → ok0 b) {lo' : Nat → Option AO} (hlo : ∀ id o, lo' id = some o → lo id = some o) :
    ∀ n : Nat, (∀ (x : AV) (v : Value) (y : IV), RepA (okL ok0 lo L) w lo L x v → imm lo' n x = some y → RepI ok0 w y v) ∧
      (∀ (cs : List AV) (ys : List IV), imms lo' n cs = some ys → ys.length = cs.length ∧ ∀ (k : Nat) (x : AV) (y : IV) (v : Value), cs[k]? = some x → ys[k]? = some y → RepA (okL ok0 lo L) w lo L x v → RepI ok0 w y v) := by
  intro n
  induction n with
  | zero => exact ⟨fun x v y _ hi => by simp [imm] at hi, fun cs ys hi => by simp [imms] at hi⟩
  | succ n ih =>
    refine ⟨fun x v y hr hi => ?_, fun cs ys hi => ?_⟩
    · cases x with
      | iv z =>
        simp only [imm, Option.some.injEq] at hi
        subst hi
        cases hr with
        | iv _ _ r => exact r.mono fun b hb _ => ⟨hb.1, rfl⟩
      | agg cs =>
        simp only [imm, Option.map_eq_some_iff] at hi
        obtain ⟨ys, hys, rfl⟩ := hi
        obtain ⟨hl, hx⟩ := ih.2 cs ys hys
        cases hr with
        | agg _ vs hvl h1 hxx =>
          refine .agg ys vs (by omega) h1 fun k y u hy hu => ?_
          have hk : k < cs.length := by rw [← hl]; exact (List.getElem?_eq_some_iff.1 hy).1
          exact hx k cs[k] y u (List.getElem?_eq_getElem hk) hy (hxx k _ u (List.getElem?_eq_getElem hk) hu)
      | loc id off =>
        simp only [imm] at hi
        split at hi
        · rename_i cs hcs
          simp only [Option.map_eq_some_iff] at hi
          obtain ⟨ys, hys, rfl⟩ := hi
          obtain ⟨hl, hx⟩ := ih.2 cs ys hys
          have hob := h.objs _ _ (hlo _ _ hcs)
          cases hr with
          | loc _ _ cs' b hob' hL =>
            rw [hL] at hob
            obtain ⟨hB, ty, vs, hb, hvl, h1, hxx⟩ := hob
            refine .ptr _ b off (fun k => vs.getD (off + k) undef) (fun k hk => ?_) (fun k y hy => ?_)
            · have hk' : off + k < vs.length := by simp at hk; omega
              refine ⟨hok0 b hB, ?_, h1 _ (List.mem_of_getElem? (getD_some (d := undef) hk'))⟩
              rw [cell_of_row _ _ _ _ ty (0, 0) hb]
              simpa using getD_some (d := undef) hk'
            · rw [List.getElem?_drop] at hy
              have hk : off + k < cs.length := by rw [← hl]; exact (List.getElem?_eq_some_iff.1 hy).1
              have hk' : off + k < vs.length := by omega
              exact hx _ cs[off + k] y _ (List.getElem?_eq_getElem hk) hy (hxx _ _ _ (List.getElem?_eq_getElem hk) (getD_some hk'))
        · cases hi
      | eloc => simp [imm] at hi
      | aref id m =>
        simp only [imm] at hi
        split at hi
        · rename_i e sz es mv hob
          split at hi
          · rename_i hm
            simp only [Option.map_eq_some_iff] at hi
            obtain ⟨ys, hys, rfl⟩ := hi
            cases n with
            | zero => simp [immss] at hys
            | succ n =>
              simp only [immss] at hys
              exact imm_rows h hok0 (hlo _ _ hob) hm.1 hm.2 (ivss_spec hys) hr
          · cases hi
        · cases hi
    · cases cs with
      | nil =>
        simp only [imms, Option.some.injEq] at hi
        subst hi
        exact ⟨rfl, by simp⟩
      | cons x r =>
        simp only [imms] at hi
        split at hi
        · rename_i y ys' h1 h2
          injection hi with hi
          subst hi
          obtain ⟨hl, hx⟩ := ih.2 r ys' h2
          refine ⟨by simp [hl], fun k z y' v hz hy hr => ?_⟩
          cases k with
          | zero =>
            simp at hz hy
            subst hz hy
            exact ih.1 x v y hr h1
          | succ k => exact hx k z y' v (by simpa using hz) (by simpa using hy) hr
        · cases hi

mutual
theorem scalar_rep {ok ok' : Nat → Prop} : ∀ {x : IV} {v : Value}, scalar x = true → RepI ok w x v → RepI ok' w x v
  | .any, _, _, h => by cases h; exact .any _
  | .bool _, _, _, h => by cases h; exact .bool _
  | .int _ _, _, _, h => by cases h; exact .int _ _
  | .str _, _, _, h => by cases h; exact .str _
  | .nilp, _, _, h => by cases h; exact .nilp
  | .sl _ _, _, hs, _ => by simp [scalar] at hs
  | .ptr _, _, hs, _ => by simp [scalar] at hs
  | .agg _, _, hs, _ => by simp [scalar] at hs
  | .tup cs, _, hs, h => by
    simp only [scalar] at hs
    cases h with
    | tup _ vs hl hx => exact .tup cs vs hl fun k x u h1 h2 => scalars_rep hs k x u h1 (hx k x u h1 h2)
theorem scalars_rep {ok ok' : Nat → Prop} : ∀ {cs : List IV}, scalars cs = true → ∀ (k : Nat) (x : IV) (u : Value), cs[k]? = some x → RepI ok w x u → RepI ok' w x u
  | [], _, k, x, u, h, _ => by simp at h
  | y :: r, hs, k, x, u, h, hr => by
    simp only [scalars, Bool.and_eq_true] at hs
    cases k with
    | zero => simp at h; subst h; exact scalar_rep hs.1 hr
    | succ k => exact scalars_rep hs.2 k x u (by simpa using h) hr
end

theorem isAll_spec (h : Rel ok0 N w0 lk lo a w L) : ∀ {xs : List Opd} {ys : List Operand}, isAll xs ys = true → ys.length = xs.length ∧
    ∀ (k : Nat) (x : AV) (u : Value), (xs.map (·.av lk))[k]? = some x → (ys.map a.eval)[k]? = some u → RepA (okL ok0 lo L) w lo L x u
  | [], [], _ => by simp
  | x :: r, y :: t, hi => by
    simp only [isAll, Bool.and_eq_true] at hi
    obtain ⟨hl, hx⟩ := isAll_spec h hi.2
    refine ⟨by simp [hl], fun k z u hz hu => ?_⟩
    cases k with
    | zero => simp at hz hu; subst hz hu; exact Opd.rep h hi.1
    | succ k => exact hx k z u (by simpa using hz) (by simpa using hu)
  | [], _ :: _, hi => by simp [isAll] at hi
  | _ :: _, [], hi => by simp [isAll] at hi

theorem call_run {g : FuncId} {args : List Opd} {ids : List Nat} (hf : AOp.fits P (.call g args ids) o.op = true) : ∃ as : List Operand, isAll args as = true ∧ (execOp a.eval o).run P w = .ok (.enter g (as.map a.eval).toArray) w := by
  simp only [AOp.fits] at hf
  unfold fCall at hf
  split at hf
  · rename_i f' as ts ho
    simp only [Bool.and_eq_true, beq_iff_eq] at hf
    obtain ⟨⟨rfl, ha⟩, hc⟩ := hf
    refine ⟨as.toList, ha, ?_⟩
    unfold callee at hc
    split at hc
    · rename_i fn hfn
      simp only [Bool.and_eq_true, Bool.not_eq_true', beq_eq_false_iff_ne, ne_eq] at hc
      obtain ⟨hb, hn⟩ := hc
      have hb' : fn.body ≠ none := by cases h : fn.body <;> simp_all
      simp [execOp, ho, resolve, Deferred.ofValue, invoke, callFunc, program, Sem.run, hfn, hn, Act.eval, hb']
      apply Array.ext'
      simp
    · cases hc
  · cases hf

end
end Go.Ev

/- A region's operations in the text's order serve every order. -/
namespace Go.Ev
open Go Go.RowKit

structure Fs where
  lk : Nat → AV
  lo : Nat → Option AO

def Fs.app (σ : Fs) (d : Option Nat) (v : AV) (up : Option (Nat × AO)) : Fs := ⟨setK σ.lk d v, upO σ.lo up⟩

/-- What an operation that is wanted gives. -/
def Gives (P : Program) (K : World → Prop) (op : AOp) (σ : Fs) (v : AV) (up : Option (Nat × AO)) : Prop :=
  (∃ s f, ev σ.lk σ.lo op = .ok s f v up ∧ s) ∨
  (∃ g args ids xs r, op = .call g args ids ∧ peek σ.lo ids (args.map (·.av σ.lk)) = some xs ∧ Good P K g xs r ∧ (ids = [] ∨ scalar r = true) ∧ v = .iv r ∧ up = none)

def Yields (P : Program) (K : World → Prop) (A : AOper) (σ : Fs) (v : AV) (up : Option (Nat × AO)) : Prop :=
  match A.g with
  | none => Gives P K A.op σ v up
  | some (t, b) => (σ.lk t = .iv (.bool b) ∧ Gives P K A.op σ v up) ∨ ((σ.lk t = .iv (.bool (!b)) ∨ σ.lk t = .iv (.tup [])) ∧ v = .iv (.tup []) ∧ up = none)

def AOper.tmps (A : AOper) : List Nat := A.op.tmps ++ (match A.g with | some (t, _) => [t] | none => [])

theorem peek_congr {lo lo' : Nat → Option AO} {ids : List Nat} {xs : List AV} (h : ∀ i ∈ ids, lo' i = lo i) : peek lo' ids xs = peek lo ids xs := by
  unfold peek
  split
  · rfl
  · congr 1
    funext i
    split
    · rename_i hi
      exact h i (by simpa using hi)
    · rfl

section
variable {P : Program} {K : World → Prop}

theorem Gives.congr {op : AOp} {σ σ' : Fs} {v : AV} {up : Option (Nat × AO)} (h : Gives P K op σ v up) (h1 : ∀ t ∈ op.tmps, σ'.lk t = σ.lk t) (h2 : ∀ i ∈ op.objs, σ'.lo i = σ.lo i) : Gives P K op σ' v up := by
  rcases h with ⟨s, f, he, hs⟩ | ⟨g, args, ids, xs, r, rfl, hp, hg, hr, hv, hu⟩
  · exact .inl ⟨s, f, by rw [ev_congr h1 h2]; exact he, hs⟩
  · refine .inr ⟨g, args, ids, xs, r, rfl, ?_, hg, hr, hv, hu⟩
    rw [map_av_congr (lk := σ.lk) (lk' := σ'.lk) (by simpa [AOp.tmps] using h1), peek_congr (lo := σ.lo) (by simpa [AOp.objs] using h2)]
    exact hp

theorem Gives.sets {op : AOp} {σ : Fs} {v : AV} {id : Nat} {ob : AO} (h : Gives P K op σ v (some (id, ob))) : id ∈ op.sets := by
  rcases h with ⟨s, f, he, hs⟩ | ⟨g, args, ids, xs, r, rfl, hp, hg, hr, hv, hu⟩
  · exact ev_sets he
  · cases hu

theorem Yields.congr {A : AOper} {σ σ' : Fs} {v : AV} {up : Option (Nat × AO)} (h : Yields P K A σ v up) (h1 : ∀ t ∈ A.tmps, σ'.lk t = σ.lk t) (h2 : ∀ i ∈ A.op.objs, σ'.lo i = σ.lo i) : Yields P K A σ' v up := by
  unfold Yields AOper.tmps at *
  cases hg : A.g with
  | none =>
    simp only [hg] at h h1 ⊢
    exact h.congr (fun t ht => h1 t (by simp [ht])) h2
  | some tb =>
    obtain ⟨t, b⟩ := tb
    simp only [hg] at h h1 ⊢
    have ht := h1 t (by simp)
    rw [ht]
    exact h.imp (fun ⟨h3, h4⟩ => ⟨h3, h4.congr (fun t ht => h1 t (by simp [ht])) h2⟩) id

theorem Yields.sets {A : AOper} {σ : Fs} {v : AV} {id : Nat} {ob : AO} (h : Yields P K A σ v (some (id, ob))) : id ∈ A.op.sets := by
  unfold Yields at h
  split at h
  · exact h.sets
  · rcases h with ⟨_, h⟩ | ⟨_, _, h⟩
    · exact h.sets
    · cases h

/-- Two operations that do not look at what the other sets. -/
def apartA (A B : AOper) : Bool :=
  (match A.d with | some d => !B.tmps.contains d && B.d != some d | none => true) &&
  (match B.d with | some d => !A.tmps.contains d | none => true) &&
  A.op.sets.all (fun i => !B.op.objs.contains i && !B.op.sets.contains i) &&
  B.op.sets.all (fun i => !A.op.objs.contains i)

theorem apartA_spec {A B : AOper} (h : apartA A B = true) : (∀ d, A.d = some d → d ∉ B.tmps ∧ B.d ≠ some d) ∧ (∀ d, B.d = some d → d ∉ A.tmps) ∧
    (∀ i ∈ A.op.sets, i ∉ B.op.objs ∧ i ∉ B.op.sets) ∧ (∀ i ∈ B.op.sets, i ∉ A.op.objs) := by
  simp only [apartA, Bool.and_eq_true, List.all_eq_true] at h
  obtain ⟨⟨⟨h1, h2⟩, h3⟩, h4⟩ := h
  refine ⟨fun d hd => ?_, fun d hd => ?_, fun i hi => ?_, fun i hi => ?_⟩
  · simp [hd] at h1; exact h1
  · simp [hd] at h2; exact h2
  · have := h3 i hi; simp at this; exact this
  · have := h4 i hi; simp at this; exact this

theorem setK_keep {lk : Nat → AV} {d : Option Nat} {v : AV} {t : Nat} (h : ∀ x, d = some x → x ≠ t) : setK lk d v t = lk t := by
  cases d with
  | none => rfl
  | some x => simp [setK, Ne.symm (h x rfl)]

theorem upO_keep {lo : Nat → Option AO} {up : Option (Nat × AO)} {i : Nat} (h : ∀ x o, up = some (x, o) → x ≠ i) : upO lo up i = lo i := by
  cases up with
  | none => rfl
  | some p => obtain ⟨x, o⟩ := p; simp [upO, setO, Ne.symm (h x o rfl)]

theorem app_comm {A B : AOper} (h : apartA A B = true) {σ : Fs} {v u : AV} {up uq : Option (Nat × AO)} (hs : ∀ i o, up = some (i, o) → i ∈ A.op.sets) (hs' : ∀ i o, uq = some (i, o) → i ∈ B.op.sets) :
    (σ.app A.d v up).app B.d u uq = (σ.app B.d u uq).app A.d v up := by
  obtain ⟨h1, h2, h3, h4⟩ := apartA_spec h
  unfold Fs.app
  congr 1
  · funext t
    cases hA : A.d with
    | none => rfl
    | some d =>
      cases hB : B.d with
      | none => rfl
      | some d' =>
        have hne : d' ≠ d := fun e => (h1 d hA).2 (by rw [hB, e])
        simp only [setK]
        by_cases e1 : t = d' <;> by_cases e2 : t = d <;> simp_all
  · funext i
    cases up with
    | none => rfl
    | some p =>
      cases uq with
      | none => rfl
      | some q =>
        obtain ⟨x, ox⟩ := p
        obtain ⟨y, oy⟩ := q
        have hx := hs x ox rfl
        have hy := hs' y oy rfl
        have hne : y ≠ x := fun e => (h3 x hx).2 (e ▸ hy)
        simp only [upO, setO]
        by_cases e1 : i = y <;> by_cases e2 : i = x <;> simp_all

variable {ops : Array Oper} {as : List AOper} {md : Region.Mode}

def aqOp (P : Program) (K : World → Prop) (as : List AOper) (i : Nat) (C : Fs → Prop) (σ : Fs) : Prop :=
  match as[i]? with
  | none => C σ
  | some A => ∃ v up, Yields P K A σ v up ∧ C (σ.app A.d v up)

theorem aqOp_mono {i : Nat} {C C' : Fs → Prop} {σ : Fs} (h : ∀ σ, C σ → C' σ) (hh : aqOp P K as i C σ) : aqOp P K as i C' σ := by
  unfold aqOp at *
  split at hh
  · exact h _ hh
  · obtain ⟨v, up, h1, h2⟩ := hh; exact ⟨v, up, h1, h _ h2⟩

def wpAnyA (P : Program) (K : World → Prop) (md : Region.Mode) (ops : Array Oper) (as : List AOper) (Q : Fs → Prop) : Nat → Array Bool → Fs → Prop
  | 0, listed, σ => Region.ready md ops listed = [] ∧ Q σ
  | fuel + 1, listed, σ =>
    (Region.ready md ops listed = [] → Q σ) ∧
    ∀ i ∈ Region.ready md ops listed, aqOp P K as i (wpAnyA P K md ops as Q fuel (listed.setIfInBounds i true)) σ

theorem aqOp_put {j : Nat} {Ai Aj : AOper} {v : AV} {up : Option (Nat × AO)} (hj : as[j]? = some Aj) (hap : apartA Ai Aj = true) {C : Fs → Prop} {σ : Fs}
    (hy : Yields P K Ai σ v up) (h : aqOp P K as j C (σ.app Ai.d v up)) :
    aqOp P K as j (fun σ' => Yields P K Ai σ' v up ∧ C (σ'.app Ai.d v up)) σ := by
  obtain ⟨h1, h2, h3, h4⟩ := apartA_spec hap
  have hsi : ∀ i o, up = some (i, o) → i ∈ Ai.op.sets := fun i o e => by subst e; exact hy.sets
  unfold aqOp at *
  simp only [hj] at *
  obtain ⟨u, uq, hu, hc⟩ := h
  have hu' : Yields P K Aj σ u uq := by
    refine hu.congr (fun t ht => ?_) (fun i hi => ?_)
    · simp only [Fs.app]
      exact (setK_keep fun x hx e => (h1 x hx).1 (e ▸ ht)).symm
    · simp only [Fs.app]
      exact (upO_keep fun x o hx e => (h3 x (hsi x o hx)).1 (e ▸ hi)).symm
  have hsj : ∀ i o, uq = some (i, o) → i ∈ Aj.op.sets := fun i o e => by subst e; exact hu.sets
  refine ⟨u, uq, hu', hy.congr (fun t ht => ?_) (fun i hi => ?_), ?_⟩
  · simp only [Fs.app]
    exact setK_keep fun x hx e => h2 x hx (e ▸ ht)
  · simp only [Fs.app]
    exact upO_keep fun x o hx e => h4 x (hsj x o hx) (e ▸ hi)
  · rw [← app_comm hap hsi hsj]
    exact hc

theorem wpAnyA_first {Q : Fs → Prop} {i : Nat} {Ai : AOper} {v : AV} {up : Option (Nat × AO)} (hlen : ops.size = as.length) (hi : as[i]? = some Ai) :
    ∀ (fuel : Nat) (listed : Array Bool) (σ : Fs),
      (∀ j Aj oj, as[j]? = some Aj → ops[j]? = some oj → j ≠ i → listed.getD j true = false → (∀ e ∈ oj.after, Region.binds md e = true → e.on ≠ i) → apartA Ai Aj = true) →
      i ∈ Region.ready md ops listed → Yields P K Ai σ v up →
      wpAnyA P K md ops as Q fuel (listed.setIfInBounds i true) (σ.app Ai.d v up) → wpAnyA P K md ops as Q (fuel + 1) listed σ := by
  intro fuel
  induction fuel with
  | zero =>
    intro listed σ _ hr hy H
    refine ⟨fun h => (by rw [h] at hr; cases hr), fun j hj => ?_⟩
    by_cases hji : j = i
    · subst hji
      unfold aqOp; simp only [hi]; exact ⟨v, up, hy, H⟩
    · have := ready_mono hj hji
      rw [H.1] at this
      cases this
  | succ fuel ih =>
    intro listed σ hfree hr hy H
    refine ⟨fun h => (by rw [h] at hr; cases hr), fun j hj => ?_⟩
    by_cases hji : j = i
    · subst hji
      unfold aqOp; simp only [hi]; exact ⟨v, up, hy, H⟩
    · have h1 := H.2 j (ready_mono hj hji)
      obtain ⟨hjun, oj, hoj, hall⟩ := mem_ready.1 hj
      have hjlt : j < as.length := by
        have := (Array.getElem?_eq_some_iff.1 hoj).1
        omega
      have hAj : as[j]? = some as[j] := List.getElem?_eq_getElem hjlt
      have hnot : ∀ e ∈ oj.after, Region.binds md e = true → e.on ≠ i := fun e he hb heq => by
        have h1 := hall e he hb
        have h0 := (mem_ready.1 hr).1
        rw [heq] at h1
        rcases Nat.lt_or_ge i listed.size with h' | h'
        · simp [h'] at h0 h1; rw [h0] at h1; cases h1
        · simp [Array.getElem?_eq_none h'] at h1
      have h2 := aqOp_put hAj (hfree j _ oj hAj hoj hji hjun hnot) hy h1
      have hfree' : ∀ k Ak ok, as[k]? = some Ak → ops[k]? = some ok → k ≠ i → (listed.setIfInBounds j true).getD k true = false →
          (∀ e ∈ ok.after, Region.binds md e = true → e.on ≠ i) → apartA Ai Ak = true := fun k Ak ok hAk hok hki hun hno => by
        refine hfree k Ak ok hAk hok hki ?_ hno
        by_cases hjk : j = k
        · subst hjk; exact hjun
        · rw [getD_set_ne true hjk] at hun; exact hun
      refine aqOp_mono (fun σ' h3 => ih (listed.setIfInBounds j true) σ' hfree' (ready_mono hr (Ne.symm hji)) h3.1 ?_) h2
      rw [Array.setIfInBounds_comm _ _ hji]
      exact h3.2

/-- Each operation, in the text's order. -/
inductive Path (P : Program) (K : World → Prop) : List AOper → Fs → Fs → Prop
  | nil (σ : Fs) : Path P K [] σ σ
  | cons (A : AOper) (l : List AOper) (σ σ' : Fs) (v : AV) (up : Option (Nat × AO)) (hy : Yields P K A σ v up) (h : Path P K l (σ.app A.d v up) σ') : Path P K (A :: l) σ σ'

/-- Operations that need not wait for each other are apart. -/
def pairsOk (ops : Array Oper) (as : List AOper) : Bool :=
  (List.range as.length).all fun i => (List.range as.length).all fun j =>
    match as[i]?, as[j]?, ops[j]? with
    | some A, some B, some o => !decide (i < j) || o.after.any (fun e => Region.binds .any e && e.on == i) || apartA A B
    | _, _, _ => false

theorem pairsOk_spec (h : pairsOk ops as = true) {i j : Nat} {A B : AOper} {o : Oper} (hi : as[i]? = some A) (hj : as[j]? = some B) (ho : ops[j]? = some o) (hij : i < j)
    (hn : ∀ e ∈ o.after, Region.binds .any e = true → e.on ≠ i) : apartA A B = true := by
  simp only [pairsOk, List.all_eq_true, List.mem_range] at h
  have := h i (List.getElem?_eq_some_iff.1 hi).1 j (List.getElem?_eq_some_iff.1 hj).1
  simp only [hi, hj, ho, hij, decide_true, Bool.not_true, Bool.false_or, Bool.or_eq_true, Array.any_eq_true'] at this
  rcases this with ⟨e, he, hb⟩ | h
  · simp only [Bool.and_eq_true, beq_iff_eq] at hb
    exact absurd hb.2 (hn e he hb.1)
  · exact h

theorem wpAnyA_lex {Q : Fs → Prop} (hlen : ops.size = as.length) (hpairs : pairsOk ops as = true) : ∀ (l : List AOper) (k : Nat) (listed : Array Bool) (σ σ' : Fs), (∀ j, l[j]? = as[k + j]?) →
    (∀ j, j < k → listed.getD j true = true) → Region.lexFrom .any ops l.length k listed = true → Path P K l σ σ' → Q σ' → wpAnyA P K .any ops as Q l.length listed σ
  | [], _, _, σ, σ', _, _, hB, hp, h => by
    cases hp
    exact ⟨by simpa [Region.lexFrom] using hB, h⟩
  | A :: l, k, listed, σ, σ', hl, hlist, hB, hp, h => by
    have h0 : as[k]? = some A := by simpa using (hl 0).symm
    simp only [List.length_cons, Region.lexFrom, Bool.and_eq_true] at hB
    obtain ⟨⟨hr, hf⟩, hB'⟩ := hB
    cases hp with
    | cons _ _ _ _ v up hy hp =>
      refine wpAnyA_first hlen h0 l.length listed σ (fun j Aj oj hAj hoj hji hun hno => ?_) (by simpa using hr) hy
        (wpAnyA_lex hlen hpairs l (k + 1) _ _ σ' (fun j => by have := hl (j + 1); simpa [Nat.add_assoc, Nat.add_comm 1 j] using this) (fun j hj => ?_) hB' hp h)
      · have hjk : k < j := by
          rcases Nat.lt_or_ge j k with hlt | hge
          · rw [hlist j hlt] at hun; cases hun
          · omega
        exact pairsOk_spec hpairs h0 hAj hoj hjk hno
      · by_cases hjk : j = k
        · subst hjk
          by_cases hs : j < listed.size
          · simp [hs]
          · simp [Array.getElem?_eq_none (Nat.le_of_not_lt hs)]
        · rw [getD_set_ne true (Ne.symm hjk)]
          exact hlist j (by omega)

end
end Go.Ev

/- A region's run, from the run of the evaluator. -/
namespace Go.Ev
open Go Go.RowKit

def guardFits (ops : Array Oper) : Option (Nat × Bool) → Option (Nat × Bool) → Bool
  | none, none => true
  | some (t, b), some (j, c) => b == c && ((ops[j]?).bind (·.dst)) == some t
  | _, _ => false

def dstFits (N : Nat) : Option Nat → Option Nat → Bool
  | none, none => true
  | some d, some d' => d == d' && decide (d < N)
  | _, _ => false

def operFits (P : Program) (N : Nat) (ops : Array Oper) (A : AOper) (o : Oper) : Bool := dstFits N A.d o.dst && guardFits ops A.g o.guard && A.op.fits P o.op

def opersFit (P : Program) (N : Nat) (ops : Array Oper) : List AOper → List Oper → Bool
  | [], [] => true
  | A :: r, o :: s => operFits P N ops A o && opersFit P N ops r s
  | _, _ => false

theorem opersFit_get {P : Program} {N : Nat} {ops : Array Oper} : ∀ {as : List AOper} {l : List Oper}, opersFit P N ops as l = true → l.length = as.length ∧
    ∀ (i : Nat) (A : AOper) (o : Oper), as[i]? = some A → l[i]? = some o → operFits P N ops A o = true
  | [], [], _ => by simp
  | A :: r, o :: s, h => by
    simp only [opersFit, Bool.and_eq_true] at h
    obtain ⟨h1, h2⟩ := opersFit_get h.2
    refine ⟨by simp [h1], fun i B p hB hp => ?_⟩
    cases i with
    | zero => simp at hB hp; subst hB hp; exact h.1
    | succ i => exact h2 i B p (by simpa using hB) (by simpa using hp)
  | [], _ :: _, h => by simp [opersFit] at h
  | _ :: _, [], h => by simp [opersFit] at h

structure Ctx (P : Program) (K : World → Prop) (ok0 : Nat → Prop) (w0 : World) : Prop where
  hK : ∀ w w', K w → Below w.heap.size w w' → K w'
  k0 : K w0
  ok : ∀ b, w0.heap.size ≤ b → ok0 b

section
variable {P : Program} {K : World → Prop} {ok0 : Nat → Prop} {N : Nat} {w0 : World} {a : Act} {w : World} {L : Nat → Lay} {o : Oper} {A : AOper} {σ : Fs} {v : AV} {up : Option (Nat × AO)}

theorem dst_spec {x y : Option Nat} (h : dstFits N x y = true) : x = y ∧ ∀ t, y = some t → t < N := by
  unfold dstFits at h
  split at h
  · exact ⟨rfl, by simp⟩
  · simp only [Bool.and_eq_true, beq_iff_eq, decide_eq_true_eq] at h
    obtain ⟨rfl, h⟩ := h
    exact ⟨rfl, fun t ht => by injection ht with ht; omega⟩
  · cases h

theorem okL_new {ok0 : Nat → Prop} {lk : Nat → AV} {lo : Nat → Option AO} (c : Ctx P K ok0 w0) (h : Rel ok0 N w0 lk lo a w L) : ∀ b, w.heap.size ≤ b → okL ok0 lo L b := fun b hb =>
  ⟨c.ok b (Nat.le_trans h.le hb), fun id ob hob hbad => by have := ((h.objs id ob hob).lt hbad).2; omega⟩

/-- An operation that is wanted. -/
theorem gives_wp {C : Act → World → Prop} {Q : Exit → Act → World → Prop} (c : Ctx P K ok0 w0) (h : Rel ok0 N w0 σ.lk σ.lo a w L) (hd : dstFits N A.d o.dst = true) (hf : A.op.fits P o.op = true)
    (hy : Gives P K A.op σ v up) (hC : ∀ a' w' L', Rel ok0 N w0 (σ.app A.d v up).lk (σ.app A.d v up).lo a' w' L' → C a' w') : o.wp P a w C Q := by
  obtain ⟨hde, hdlt⟩ := dst_spec hd
  rcases hy with ⟨s, f, he, hs⟩ | ⟨g, args, ids, xs, r, hop, hp, hg, hr, hv, hu⟩
  · obtain ⟨_, n, u, w', L', hrun, hn, hrel, hrep⟩ := op_sound h c.ok hf he hs
    have hput := hrel.put o.dst hdlt hrep
    unfold Oper.wp
    rw [hrun]
    rcases hn with rfl | ⟨rfl, rfl⟩
    · simp only [Oper.upon]
      exact hC _ _ L' (by rw [hde]; exact hput)
    · simp only [Oper.upon]
      exact hC _ _ L' (by rw [hde]; exact hput)
  · subst hu
    rw [hop] at hf
    obtain ⟨bs, hall, hrun⟩ := call_run (a := a) (w := w) hf
    obtain ⟨hbl, hbx⟩ := isAll_spec h hall
    have hkw : K w := c.hK _ _ c.k0 h.below
    have fin : (∃ ok : Nat → Prop, (∀ b, w.heap.size ≤ b → ok b) ∧ (bs.map a.eval).length = xs.length ∧ (∀ (k : Nat) (x : IV) (u : Value), xs[k]? = some x → (bs.map a.eval)[k]? = some u → RepI ok w x u) ∧
        (∀ w' u, Below w.heap.size w w' → RepI ok w' r u → RepI (okL ok0 σ.lo L) w' r u)) → o.wp P a w C Q := by
      rintro ⟨ok, h1, h2, h3, h4⟩
      unfold Oper.wp
      rw [hrun]
      simp only [Oper.upon]
      refine (hg w ok _ hkw h1 h2 h3).mono fun e w' hew => ?_
      obtain ⟨u, rfl, hu, hb⟩ := hew
      have hrel := h.ext hb
      have hput := hrel.put o.dst hdlt (x := .iv r) (v := u) (.iv _ _ (h4 w' u hb hu))
      refine hC _ _ L ?_
      rw [hv, hde]
      exact hput
    apply fin
    by_cases hids : ids = []
    · subst hids
      simp only [peek] at hp
      obtain ⟨h5, h6⟩ := ivs_rep hp (by simpa using hbl) hbx
      exact ⟨okL ok0 σ.lo L, okL_new c h, h5, h6, fun _ _ _ h => h⟩
    · have hsc : scalar r = true := hr.resolve_left hids
      have hp' : imms (fun i => if ids.contains i then σ.lo i else none) 40 (args.map (·.av σ.lk)) = some xs := by
        unfold peek at hp
        split at hp
        · exact absurd rfl hids
        · exact hp
      obtain ⟨h5, h6⟩ := (imm_sound h c.ok (lo' := fun i => if ids.contains i then σ.lo i else none) (fun id ob hob => by
        split at hob
        · exact hob
        · cases hob) 40).2 _ _ hp'
      refine ⟨ok0, fun b hb => c.ok b (Nat.le_trans h.le hb), by simp [h5, hbl], fun k x u hx hu => ?_, fun w' u _ hu => scalar_rep hsc hu⟩
      have hk : k < (args.map (·.av σ.lk)).length := by rw [← h5]; exact (List.getElem?_eq_some_iff.1 hx).1
      exact h6 k _ x u (List.getElem?_eq_getElem hk) hx (hbx k _ u (List.getElem?_eq_getElem hk) hu)

theorem yielded_of {ops : Array Oper} {t j : Nat} {b : Bool} (h : Rel ok0 N w0 σ.lk σ.lo a w L) (ht : σ.lk t = .iv (.bool b)) (hj : ((ops[j]?).bind (·.dst)) = some t) : yielded ops a.tmps j = some b := by
  have r := h.env t
  rw [ht] at r
  have hv := inv_bool r
  unfold yielded
  rw [hj]
  simp only [Option.bind_some]
  cases hg : a.tmps[t]? with
  | none => simp [Array.getD_eq_getD_getElem?, hg, undef] at hv
  | some u => simp [Array.getD_eq_getD_getElem?, hg] at hv; subst hv; rfl

theorem rep_undef {ok : Nat → Prop} {w : World} : RepI ok w (.tup []) undef := .tup [] [] rfl (fun _ _ _ h => by simp at h)

theorem inv_tup {ok : Nat → Prop} {lo : Nat → Option AO} {u : Value} (r : RepA ok w lo L (.iv (.tup [])) u) : u = undef := by
  cases r with
  | iv _ _ h =>
    cases h with
    | tup _ vs hl _ =>
      have : vs = [] := by simpa using hl
      subst this
      rfl

theorem yielded_none {ops : Array Oper} {t j : Nat} (h : Rel ok0 N w0 σ.lk σ.lo a w L) (ht : σ.lk t = .iv (.tup [])) (hj : ((ops[j]?).bind (·.dst)) = some t) : yielded ops a.tmps j = none := by
  have r := h.env t
  rw [ht] at r
  have hv := inv_tup r
  unfold yielded
  rw [hj]
  simp only [Option.bind_some]
  cases hg : a.tmps[t]? with
  | none => rfl
  | some u => simp [Array.getD_eq_getD_getElem?, hg] at hv; subst hv; rfl

/-- An operation's turn. -/
theorem yields_wp {ops : Array Oper} {C : Act → World → Prop} {Q : Exit → Act → World → Prop} (c : Ctx P K ok0 w0) (h : Rel ok0 N w0 σ.lk σ.lo a w L) (hf : operFits P N ops A o = true)
    (hy : Yields P K A σ v up) (hC : ∀ a' w' L', Rel ok0 N w0 (σ.app A.d v up).lk (σ.app A.d v up).lo a' w' L' → C a' w') :
    if Region.wanted o (yielded ops a.tmps) then o.wp P a w C Q else C (a.put o.dst undef) w := by
  simp only [operFits, Bool.and_eq_true] at hf
  obtain ⟨⟨hd, hg⟩, hop⟩ := hf
  unfold Yields at hy
  unfold guardFits at hg
  split at hy
  · rename_i hag
    rw [hag] at hg
    split at hg
    · rename_i hog
      have : Region.wanted o (yielded ops a.tmps) = true := by simp [Region.wanted, hog]
      rw [this, if_pos rfl]
      exact gives_wp c h hd hop hy hC
    · rename_i heq _; cases heq
    · cases hg
  · rename_i t b hag
    rw [hag] at hg
    split at hg
    · rename_i heq _; cases heq
    · rename_i t' b' j b'' heq hog
      injection heq with heq
      injection heq with e1 e2
      subst e1 e2
      simp only [Bool.and_eq_true, beq_iff_eq] at hg
      obtain ⟨rfl, hj⟩ := hg
      rcases hy with ⟨ht, hgv⟩ | ⟨ht, rfl, rfl⟩
      · have hyd := yielded_of h ht hj
        have : Region.wanted o (yielded ops a.tmps) = true := by simp [Region.wanted, hog, hyd]
        rw [this, if_pos rfl]
        exact gives_wp c h hd hop hgv hC
      · have : Region.wanted o (yielded ops a.tmps) = false := by
          rcases ht with ht | ht
          · have hyd := yielded_of h ht hj
            simp [Region.wanted, hog, hyd]
          · have hyd := yielded_none h ht hj
            simp [Region.wanted, hog, hyd]
        rw [this]
        simp only [Bool.false_eq_true, if_false]
        obtain ⟨hde, hdlt⟩ := dst_spec hd
        refine hC _ _ L ?_
        have := h.put o.dst hdlt (x := .iv (.tup [])) (v := undef) (.iv _ _ rep_undef)
        rw [← hde] at this
        rw [← hde]
        exact this
    · cases hg

theorem wpAny_of_A {ops : Array Oper} {as : List AOper} {Q : Fs → Prop} {Q' : Exit → Act → World → Prop} (c : Ctx P K ok0 w0) (hfit : opersFit P N ops as ops.toList = true)
    (hQ : ∀ σ a w L, Rel ok0 N w0 σ.lk σ.lo a w L → Q σ → Q' .normal a w) : ∀ (fuel : Nat) (listed : Array Bool) (σ : Fs) (a : Act) (w : World) (L : Nat → Lay), Rel ok0 N w0 σ.lk σ.lo a w L →
      wpAnyA P K .any ops as Q fuel listed σ → wpAny P .any ops Q' fuel listed a w
  | 0, _, _, _, _, _, hr, h => ⟨h.1, hQ _ _ _ _ hr h.2⟩
  | fuel + 1, listed, σ, a, w, L, hr, h => by
    refine ⟨fun h0 => hQ _ _ _ _ hr (h.1 h0), fun i hi => ?_⟩
    have h2 := h.2 i hi
    obtain ⟨hlen, hget⟩ := opersFit_get hfit
    unfold wpOp
    cases ho : ops[i]? with
    | none =>
      have hA : as[i]? = none := by
        have : ops.size ≤ i := by
          rcases Nat.lt_or_ge i ops.size with hlt | hge
          · simp [hlt] at ho
          · exact hge
        rw [List.getElem?_eq_none_iff]
        simp at hlen; omega
      simp only [aqOp, hA] at h2
      exact wpAny_of_A c hfit hQ fuel _ σ a w L hr h2
    | some o =>
      have hlt : i < as.length := by
        have := (Array.getElem?_eq_some_iff.1 ho).1
        simp at hlen; omega
      have hA : as[i]? = some as[i] := List.getElem?_eq_getElem hlt
      simp only [aqOp, hA] at h2
      obtain ⟨v, up, hy, hc⟩ := h2
      have := yields_wp (ops := ops) (Q := Q') (C := wpAny P .any ops Q' fuel (listed.setIfInBounds i true)) c hr (hget i _ o hA (by simpa using ho)) hy
        (fun a' w' L' hr' => wpAny_of_A c hfit hQ fuel _ _ a' w' L' hr' hc)
      simp only []
      split
      · rename_i hw; rw [if_pos hw] at this; exact .inl this
      · rename_i hw; rw [if_neg hw] at this; exact this

theorem wpOps_of_path {ops : Array Oper} {as : List AOper} {Q' : Exit → Act → World → Prop} {σ' : Fs} (c : Ctx P K ok0 w0) (hfit : opersFit P N ops as ops.toList = true)
    (hQ : ∀ a w L, Rel ok0 N w0 σ'.lk σ'.lo a w L → Q' .normal a w) : ∀ (l : List AOper) (k : Nat) (σ : Fs) (a : Act) (w : World) (L : Nat → Lay), (∀ j, l[j]? = as[k + j]?) → Rel ok0 N w0 σ.lk σ.lo a w L →
      Path P K l σ σ' → wpOps P ops Q' (List.range' k l.length) a w
  | [], _, σ, a, w, L, _, hr, hp => by
    cases hp
    simp only [List.length_nil, List.range'_zero, wpOps]
    exact hQ _ _ _ hr
  | A :: l, k, σ, a, w, L, hl, hr, hp => by
    obtain ⟨hlen, hget⟩ := opersFit_get hfit
    cases hp with
    | cons _ _ _ _ v up hy hp =>
      have hA : as[k]? = some A := by simpa using (hl 0).symm
      have hlt : k < ops.toList.length := by rw [hlen]; exact (List.getElem?_eq_some_iff.1 hA).1
      have ho : ops[k]? = some (ops.toList[k]) := by
        have := List.getElem?_eq_getElem hlt
        simpa using this
      simp only [List.length_cons, List.range'_succ, wpOps, ho]
      have := yields_wp (ops := ops) (Q := Q') (C := wpOps P ops Q' (List.range' (k + 1) l.length)) c hr (hget k A _ hA (List.getElem?_eq_getElem hlt)) hy
        (fun a' w' L' hr' => wpOps_of_path c hfit hQ l (k + 1) _ a' w' L' (fun j => by have := hl (j + 1); simpa [Nat.add_assoc, Nat.add_comm 1 j] using this) hr' hp)
      split
      · rename_i hw; rw [if_pos hw] at this; exact .inl this
      · rename_i hw; rw [if_neg hw] at this; exact this

/-- What the check asks of a region. -/
def regionFits (P : Program) (N : Nat) (as : List AOper) (ops : Array Oper) (draw : Bool) : Bool :=
  opersFit P N ops as ops.toList && (!draw || (P.follows .mixedOrders && Region.lexB .any ops && pairsOk ops as))

theorem region_wp {ops : Array Oper} {as : List AOper} {id : Nat} {draw : Bool} {Q' : Exit → Act → World → Prop} {σ σ' : Fs} (c : Ctx P K ok0 w0) (hfit : regionFits P N as ops draw = true)
    (hr : Rel ok0 N w0 σ.lk σ.lo a w L) (hp : Path P K as σ σ') (hQ : ∀ a w L, Rel ok0 N w0 σ'.lk σ'.lo a w L → Q' .normal a w) : (Code.region id ops draw).wp P Q' a w := by
  simp only [regionFits, Bool.and_eq_true] at hfit
  obtain ⟨hfit, hdraw⟩ := hfit
  obtain ⟨hlen, _⟩ := opersFit_get hfit
  have hlen' : ops.size = as.length := by simpa using hlen
  cases draw with
  | false =>
    refine wp_region ?_
    have := wpOps_of_path c hfit hQ as 0 σ a w L (by simp) hr hp
    rw [hlen', List.range_eq_range']
    exact this
  | true =>
    simp only [Bool.not_true, Bool.false_or, Bool.and_eq_true] at hdraw
    obtain ⟨⟨hm, hB⟩, hpairs⟩ := hdraw
    simp only [Region.lexB, Bool.and_eq_true] at hB
    refine wp_region_any hm ?_
    have hr' : Rel ok0 N w0 σ.lk σ.lo a { w with drawn := w.drawn + 1 } L := hr.ext ⟨rfl, rfl, rfl, Nat.le_refl _, fun _ _ => rfl⟩
    refine wpAny_of_A (Q := fun σ => σ = σ') c hfit (fun τ a' w' L' h1 h2 => by subst h2; exact hQ _ _ _ h1) _ _ σ a _ L hr' ?_
    have := wpAnyA_lex (P := P) (K := K) (Q := fun σ => σ = σ') hlen' hpairs as 0 (Array.replicate ops.size false) σ σ' (by simp) (by simp) (by rw [← hlen']; exact hB.2) hp rfl
    rw [← hlen'] at this
    exact this

end
end Go.Ev
