/- Each operation of the evaluator does what the translation's operation does: byte rows, strings' runes, maps. -/
import Derived.Test.YtjjfnbadmpffpaaDoorEvTwo
import Derived.Laws.Cover4
import Derived.Laws.MakeOwn
import Derived.Lib.ConvBytes
import Derived.Lib.OthersKept
import Derived.MapKept
import Derived.MapFrom
import Derived.Carry
import Derived.Maps.RangeRun
set_option linter.all false

namespace Go.Ev
open Go Go.RowKit

section
variable {P : Program} {ok0 : Nat → Prop} {N : Nat} {w0 : Base} {lk : Nat → AV} {lo : Nat → Option AO} {a : Act} {w : World} {L : Nat → Lay} {o : Oper}
variable {s f : Prop} {v : AV} {up : Option (Nat × AO)}

/-- A new object that takes one block, the world otherwise grown. -/
theorem Rel.newOne {w' : World} {id : Nat} {ob : AO} (h : Rel ok0 N w0 lk lo a w L) (hid : lo id = none) (hb : Below w.heap.size w w') (hd : ob.data = true)
    (ho : ∀ (ok : Nat → Prop) (lo' : Nat → Option AO) (L' : Nat → Lay), ¬ w0.fr w.heap.size → (∀ b, okL ok0 lo L b → b < w.heap.size → ok b) → ObjRep w0.fr ok w' lo' L' ob (.one w.heap.size)) :
    Rel ok0 N w0 lk (setO lo id ob) a w' (setL L id (.one w.heap.size)) := by
  refine h.new id hid ob (.one w.heap.size) hb (fun b hb => by simp only [Lay.has] at hb; omega) (ho _ _ _ (h.frlt (Nat.le_refl _)) fun b hb hlt => ?_)
  refine ⟨hb.1, fun i oi hi he => ?_⟩
  by_cases hii : i = id
  · subst hii
    simp only [setL, if_true, Lay.has] at he
    omega
  · simp only [setO, hii, if_false] at hi
    simp only [setL, hii, if_false] at he
    exact hb.2 i oi hi he

/-- An object that stays in its one block has turned. -/
theorem Rel.turnOne {w' : World} {id b : Nat} {ob ob' : AO} (h : Rel ok0 N w0 lk lo a w L) (hid : lo id = some ob) (hL : L id = .one b) (hg : Only (fun k => b = k) w w')
    (href : ∀ (ok : Nat → Prop) (lo' : Nat → Option AO) (L' : Nat → Lay) (x : AV) (v : Value), lo' id = some ob' → L' id = .one b → AV.refs id x = true → RepA (okL ok0 lo L) w lo L x v → RepA ok w' lo' L' x v)
    (ho : ∀ (ok : Nat → Prop) (lo' : Nat → Option AO) (L' : Nat → Lay), (∀ k, okL ok0 lo L k → k < w.heap.size → ok k ∧ w'.heap[k]? = w.heap[k]?) → ObjRep w0.fr (okL ok0 lo L) w lo L ob (.one b) → ObjRep w0.fr ok w' lo' L' ob' (.one b)) :
    Rel ok0 N w0 lk (setO lo id ob') a w' (setL L id (.one b)) := by
  have hl' : ∀ k, (Lay.one b).has k → (L id).has k ∨ w.heap.size ≤ k := fun k hk => .inl (by rw [hL]; exact hk)
  have hok : ∀ k, okL ok0 lo L k → k < w.heap.size → okL ok0 (setO lo id ob') (setL L id (.one b)) k := fun k hk hlt => h.okL_turn hid hl' hk hlt
  refine h.turn id hid ⟨hg.os, hg.tape, hg.output, hg.size, fun k hk hn => hg.block k hk (fun e => hn (by rw [hL]; exact e))⟩ hl' (fun x v hx hr => href _ _ _ x v (by simp [setO]) (by simp [setL]) hx hr) (fun _ => ?_)
  have := h.objs id ob hid
  rw [hL] at this
  refine ho _ _ _ (fun k hk hlt => ⟨hok k hk hlt, hg.block k hlt (fun e => hk.2 id ob hid (by rw [hL]; exact e))⟩) this

theorem only_setObj (w : World) (b : Nat) (ob : Obj) : Only (fun k => b = k) w { w with heap := w.heap.setIfInBounds b ob } :=
  ⟨rfl, rfl, rfl, by simp, fun k _ hn => by simp [Array.getElem?_setIfInBounds, hn]⟩

theorem inv_iv {x : IV} {u : Value} (r : RepA (okL ok0 lo L) w lo L (.iv x) u) : RepI (okL ok0 lo L) w x u := by cases r; assumption

theorem done_s2b {id : Nat} {x : Opd} (h : Rel ok0 N w0 lk lo a w L) (hf : YOp.fits P (.s2b id x) o.op = true) (he : evY lk lo (.s2b id x) = .ok s f v up) (hs : s) : f ∧ Done P o ok0 N w0 lk lo a w v up := by
  simp only [YOp.fits] at hf
  split at hf
  · rename_i sT dT y ho
    simp only [Bool.and_eq_true] at hf
    obtain ⟨⟨hx, hs1⟩, hd⟩ := hf
    have rx := Opd.rep h hx
    simp only [evY] at he
    split at he
    · rename_i st hxv hid
      injection he with e1 e2 e3 e4
      subst e1 e2 e3 e4
      rw [hxv] at rx
      have hv := inv_str rx
      unfold isString at hs1
      split at hs1
      · rename_i hus
        unfold isBytes at hd
        split at hd
        · rename_i e hud
          have hue : P.underlying e = some (.int .u8) := by
            simp only [beq_iff_eq] at hd
            unfold isInt at hd
            split at hd
            · rename_i k hk; injection hd with hd; rw [hk, hd]
            · cases hd
          have hrun := Lib.run_convert_string_bytes (P := P) w sT dT e ⟨st.toArray⟩ hus hud hue
          have hold : ∀ k, k < w.heap.size → (Lib.bytesWorld w e ⟨st.toArray⟩).heap[k]? = w.heap[k]? := fun k hk => Lib.bytesWorld_at_old w e _ k hk
          have hb : Below w.heap.size w (Lib.bytesWorld w e ⟨st.toArray⟩) := ⟨rfl, rfl, rfl, by rw [Lib.bytesWorld_size]; omega, hold⟩
          have hsz : (⟨st.toArray⟩ : ByteArray).size = st.length := by simp [ByteArray.size]
          have hge := grownCap_ge w st.length 0 e
          have hnew := Lib.bytesWorld_at_new w e ⟨st.toArray⟩
          refine ⟨trivial, _, .slice (some ⟨w.heap.size, 0, none⟩) st.length (grownCap w st.length 0 e), _, _, by simp [execOp, ho, hv, hrun, hsz], .inl rfl, h.newOne hid hb rfl (fun ok lo' L' hF _ => ⟨hF, _, _, hnew, ?_, fun i c hc => ?_⟩), ?_⟩
          · simp only [Lib.bytesCells, hsz, Array.size_append, Array.size_map, Array.size_replicate]
            simp
          · have hi : i < st.length := (List.getElem?_eq_some_iff.1 hc).1
            have hc' : st[i] = c := (List.getElem?_eq_some_iff.1 hc).2
            simp only [Lib.bytesCells]
            rw [Array.getElem?_append_left (by simpa using hi)]
            simp [hi, hc']
          · exact .obytes id _ _ st (by simp [upO, setO]) (by simp [setL])
        · cases hd
      · cases hs1
    · cases he
  · cases hf

theorem bytes_cell {ok : Nat → Prop} {B : Nat → Prop} {st : List UInt8} {b i : Nat} {c : UInt8} (h : ObjRep B ok w lo L (.bytes st) (.one b)) (hc : st[i]? = some c) : w.cell? ⟨b, i, none⟩ = some (.int .u8 c.toNat) := by
  obtain ⟨_, cur, t, hb, _, hx⟩ := h
  simp [World.cell?, hb, hx i c hc]

theorem done_b2so {id : Nat} {x : Opd} (h : Rel ok0 N w0 lk lo a w L) (hf : YOp.fits P (.b2so id x) o.op = true) (he : evY lk lo (.b2so id x) = .ok s f v up) : f ∧ Done P o ok0 N w0 lk lo a w v up := by
  simp only [YOp.fits] at hf
  split at hf
  · rename_i sT dT y ho
    simp only [Bool.and_eq_true] at hf
    obtain ⟨⟨hx, hs1⟩, hd⟩ := hf
    have rx := Opd.rep h hx
    simp only [evY] at he
    split at he
    · rename_i i st hxv hid
      split at he
      · rename_i hii
        subst hii
        injection he with e1 e2 e3 e4
        subst e1 e2 e3 e4
        rw [hxv] at rx
        generalize hey : a.eval y = yv at rx
        have hob := h.objs _ _ hid
        cases rx with
        | oref _ b oo ho' hn hL => rw [hid] at ho'; injection ho' with ho'; subst ho'; cases hn
        | omap _ b kvs ho' hL => rw [hid] at ho'; cases ho'
        | orow _ b e sz kvs pend vals ho' hL => rw [hid] at ho'; cases ho'
        | obytes _ b cap s2 ho' hL =>
          rw [hid] at ho'
          injection ho' with ho'
          injection ho' with ho'
          subst ho'
          rw [hL] at hob
          unfold isString at hd
          split at hd
          · rename_i hud
            unfold isBytes at hs1
            split at hs1
            · rename_i e hus
              have hue : P.underlying e = some (.int .u8) := by
                simp only [beq_iff_eq] at hs1
                unfold isInt at hs1
                split at hs1
                · rename_i k hk; injection hs1 with hs1; rw [hk, hs1]
                · cases hs1
              have hrun := run_convert_bytes_back (P := P) w sT dT e ⟨b, 0, none⟩ cap st hus hue hud (fun j hj => by
                rw [addr_add, Nat.zero_add]
                exact bytes_cell hob (List.getElem?_eq_getElem hj))
              exact ⟨trivial, Done.pure h (u := .string ⟨st.toArray⟩) (by simp [execOp, ho, hey, hrun]) (rep_str st)⟩
            · cases hs1
          · cases hd
      · cases he
    · cases he
  · cases hf

theorem inv_obytes {id : Nat} {st : List UInt8} {u : Value} (hid : lo id = some (.bytes st)) (r : RepA (okL ok0 lo L) w lo L (.oref id) u) : ∃ b cap, L id = .one b ∧ u = .slice (some ⟨b, 0, none⟩) st.length cap := by
  cases r with
  | oref _ b oo ho' hn hL => rw [hid] at ho'; injection ho' with ho'; subst ho'; cases hn
  | omap _ b kvs ho' hL => rw [hid] at ho'; cases ho'
  | orow _ b e sz kvs pend vals ho' hL => rw [hid] at ho'; cases ho'
  | obytes _ b cap s2 ho' hL =>
    rw [hid] at ho'
    injection ho' with ho'
    injection ho' with ho'
    subst ho'
    exact ⟨b, cap, hL, rfl⟩
theorem inv_belem {id n : Nat} {st : List UInt8} {u : Value} (hid : lo id = some (.bytes st)) (r : RepA (okL ok0 lo L) w lo L (.belem id n) u) : ∃ b, L id = .one b ∧ u = .pointer (some ⟨b, n, none⟩) := by
  cases r with
  | belem _ _ b s2 ho' hL hi => exact ⟨b, hL, rfl⟩

theorem done_ixb {id : Nat} {x i : Opd} (h : Rel ok0 N w0 lk lo a w L) (hf : YOp.fits P (.ixb id x i) o.op = true) (he : evY lk lo (.ixb id x i) = .ok s f v up) (hs : s) : f ∧ Done P o ok0 N w0 lk lo a w v up := by
  simp only [YOp.fits] at hf
  split at hf
  · rename_i t x' i' ho
    simp only [Bool.and_eq_true] at hf
    obtain ⟨⟨hx, hi⟩, hsz⟩ := hf
    obtain ⟨e, ti, hu, hti, hts⟩ := elemSize_spec hsz
    have rx := Opd.rep h hx
    have ri := Opd.rep h hi
    simp only [evY] at he
    split at he
    · rename_i j k n st hxv hiv hid
      split at he
      · rename_i hji
        subst hji
        injection he with e1 e2 e3 e4
        subst e1 e2 e3 e4
        rw [hxv] at rx
        rw [hiv] at ri
        have hei := inv_int ri
        obtain ⟨b, cap, hL, hv⟩ := inv_obytes hid rx
        refine ⟨trivial, Done.pure h (u := .pointer (some ⟨b, 0 + n.toNat * 1, none⟩)) ?_ ?_⟩
        · simp only [execOp, ho, hv, hei, Sem.run_bind, run_indexAt hu hti hts b 0 st.length cap k n hs.1 hs.2]
          rfl
        · rw [Nat.zero_add, Nat.mul_one]
          exact .belem j n.toNat b st hid hL hs.2
      · cases he
    · cases he
  · cases hf

theorem done_ldb {id : Nat} {x : Opd} (h : Rel ok0 N w0 lk lo a w L) (hf : YOp.fits P (.ldb id x) o.op = true) (he : evY lk lo (.ldb id x) = .ok s f v up) (hs : s) : f ∧ Done P o ok0 N w0 lk lo a w v up := by
  simp only [YOp.fits] at hf
  split at hf
  · rename_i t y ho
    simp only [Bool.and_eq_true, beq_iff_eq] at hf
    obtain ⟨⟨hx, hag⟩, hn⟩ := hf
    have rx := Opd.rep h hx
    simp only [evY] at he
    split at he
    · rename_i j n st hxv hid
      split at he
      · rename_i hji
        subst hji
        injection he with e1 e2 e3 e4
        subst e1 e2 e3 e4
        rw [hxv] at rx
        obtain ⟨b, hL, hv⟩ := inv_belem hid rx
        have hob := h.objs _ _ hid
        rw [hL] at hob
        have hc := bytes_cell hob (List.getElem?_eq_getElem hs)
        have hload := run_loadVar (P := P) (w := w) hag hn b n [.int .u8 (st[n]).toNat] rfl (by simp) (fun k u hu => by
          cases k with
          | zero => simp at hu; subst hu; exact hc
          | succ k => simp at hu)
        refine ⟨trivial, Done.pure h (u := .int .u8 (st[n]).toNat) ?_ ?_⟩
        · simp [execOp, ho, hv, Instr.loadAt, Instr.sureAddr, hload]
        · have e : st.getD n 0 = st[n] := by simp [List.getD, hs]
          rw [e]
          exact rep_int _ _
      · cases he
    · cases he
  · cases hf

theorem run_storeByte {t : TypeId} {b n : Nat} {u : Value} {cur : Array Value} {ty : TypeId} (hn : Program.sizeIs P t 1 = true) (hu : u.oneCell' = true) (hc : u.cells = #[u]) (hb : w.heap[b]? = some (.cells cur ty (cur.size, cur.size + 1))) (hlt : n < cur.size) :
    (storeVar t ⟨b, n, none⟩ u).run P w = .ok () (w.setRow b (cur.setIfInBounds n u)) := by
  unfold Program.sizeIs at hn
  cases hi : P.info? t with
  | none => simp [hi] at hn
  | some i =>
    have hs : i.size = 1 := by simpa [hi] using hn
    have hcell : w.cell? ⟨b, n, none⟩ = some cur[n] := by simp [World.cell?, hb, hlt]
    have hfro : w.frozen? ⟨b, n, none⟩ = false := by
      simp only [World.frozen?, hb, Bool.and_eq_false_iff, decide_eq_false_iff_not]
      left
      omega
    have hst : (store ((⟨b, n, none⟩ : Addr).add 0) u).run P w = .ok () (w.setRow b (cur.setIfInBounds n u)) := by
      rw [addr_add, Nat.add_zero, run_store P w _ u _ hu, hcell]
      simp [hfro, setCell_eq_setRow w b n cur ty _ u hb]
    have hsz : (sizeOf t).run P w = .ok 1 w := by simp [sizeOf, typeInfo, hi, hs]
    simp [storeVar, hc, hsz, storeCells, hst]

theorem done_stb {id : Nat} {x y : Opd} (h : Rel ok0 N w0 lk lo a w L) (hf : YOp.fits P (.stb id x y) o.op = true) (he : evY lk lo (.stb id x y) = .ok s f v up) (hs : s) : f ∧ Done P o ok0 N w0 lk lo a w v up := by
  simp only [YOp.fits] at hf
  split at hf
  · rename_i t x' y' ho
    simp only [Bool.and_eq_true] at hf
    obtain ⟨⟨hx, hy⟩, hn⟩ := hf
    have rx := Opd.rep h hx
    have ry := Opd.rep h hy
    simp only [evY] at he
    split at he
    · rename_i j n m st hxv hyv hid
      split at he
      · rename_i hji
        subst hji
        injection he with e1 e2 e3 e4
        subst e1 e2 e3 e4
        rw [hxv] at rx
        rw [hyv] at ry
        have hey := inv_int ry
        obtain ⟨b, hL, hv⟩ := inv_belem hid rx
        have hob := h.objs _ _ hid
        rw [hL] at hob
        obtain ⟨hF, cur, ty, hb, hlen, hcells⟩ := hob
        obtain ⟨hlt, hm0, hm1⟩ := hs
        have hltc : n < cur.size := by omega
        have hst := run_storeByte (P := P) (u := .int .u8 m) hn rfl rfl hb hltc
        have hset := setRow_heap w b cur (cur.setIfInBounds n (.int .u8 m)) ty (cur.size, cur.size + 1) hb
        have hg := Only.of (S := fun k => b = k) (grownBy_setRow w b (cur.setIfInBounds n (.int .u8 m))) (fun k hk => by injection hk)
        refine ⟨trivial, .skip, undef, _, setL L j (.one b), ?_, .inr ⟨rfl, rfl⟩, h.turnOne (ob' := .bytes (st.set n (UInt8.ofNat m.toNat))) hid hL hg (fun ok lo' L' x v h1 h2 hx hr => ?_) (fun ok lo' L' hok _ => ?_), ?_⟩
        · simp [execOp, ho, hv, hey, Instr.storeAt, Instr.sureAddr, hst]
        · cases hr with
          | iv _ _ r => simp [AV.refs] at hx
          | agg => simp [AV.refs] at hx
          | loc i off cs b2 ho' hL' => have : i = j := by simpa [AV.refs] using hx
                                       subst this; rw [hid] at ho'; cases ho'
          | aref i e sz es mv v xs ho' hL' => have : i = j := by simpa [AV.refs] using hx
                                              subst this; rw [hid] at ho'; cases ho'
          | old i n2 e sz es mv v v' xs ho' hL' => have : i = j := by simpa [AV.refs] using hx
                                                   subst this; rw [hid] at ho'; cases ho'
          | eloc i n2 k off e sz es mv v xs b2 ho' hL' => have : i = j := by simpa [AV.refs] using hx
                                                          subst this; rw [hid] at ho'; cases ho'
          | nilr sz => simp [AV.refs] at hx
          | mref i k n2 e sz kvs pend b2 vals v ho' hL' =>
            have : i = j := by simpa [AV.refs] using hx
            subst this; rw [hid] at ho'; cases ho'
          | oref i b2 oo ho' hn' hL' => have : i = j := by simpa [AV.refs] using hx
                                        subst this; rw [hid] at ho'; injection ho' with ho'; subst ho'; cases hn'
          | omap i b2 kvs ho' hL' => have : i = j := by simpa [AV.refs] using hx
                                     subst this; rw [hid] at ho'; cases ho'
          | orow i b2 e sz kvs pend vals ho' hL' => have : i = j := by simpa [AV.refs] using hx
                                                    subst this; rw [hid] at ho'; cases ho'
          | obytes i b2 cap s2 ho' hL' =>
            have : i = j := by simpa [AV.refs] using hx
            subst this
            rw [hid] at ho'
            injection ho' with ho'
            injection ho' with ho'
            subst ho'
            rw [hL] at hL'
            injection hL' with hL'
            subst hL'
            have := RepA.obytes (ok := ok) (w := w.setRow b (cur.setIfInBounds n (.int .u8 m))) i b cap _ h1 h2
            rwa [List.length_set] at this
          | belem i k b2 s2 ho' hL' hk =>
            have : i = j := by simpa [AV.refs] using hx
            subst this
            rw [hid] at ho'
            injection ho' with ho'
            injection ho' with ho'
            subst ho'
            rw [hL] at hL'
            injection hL' with hL'
            subst hL'
            exact .belem i k b _ h1 h2 (by rw [List.length_set]; exact hk)
        · refine ⟨hF, cur.setIfInBounds n (.int .u8 m), ty, by simpa using hset, by simpa using hlen, fun i c hc => ?_⟩
          rw [List.getElem?_set] at hc
          rw [Array.getElem?_setIfInBounds]
          split at hc
          · rename_i hni
            subst hni
            rw [if_pos rfl, if_pos hltc]
            injection hc with hc
            subst hc
            have e : (UInt8.ofNat m.toNat).toNat = m.toNat := by simp; omega
            rw [e, Int.toNat_of_nonneg hm0]
          · rename_i hni
            rw [if_neg hni]
            exact hcells i c hc
        · exact .iv _ _ (.any _)
      · cases he
    · cases he
  · cases hf

theorem done_mx {mn : Bool} {x y : Opd} (h : Rel ok0 N w0 lk lo a w L) (hf : YOp.fits P (.mx mn x y) o.op = true) (he : evY lk lo (.mx mn x y) = .ok s f v up) : f ∧ Done P o ok0 N w0 lk lo a w v up := by
  simp only [YOp.fits] at hf
  split at hf
  · rename_i b as ts ho
    split at hf
    · rename_i x' y' has
      simp only [Bool.and_eq_true] at hf
      obtain ⟨⟨hb, hx⟩, hy⟩ := hf
      have rx := Opd.rep h hx
      have ry := Opd.rep h hy
      simp only [evY] at he
      split at he
      · rename_i k p k' q hxv hyv
        split at he
        · rename_i hkk
          subst hkk
          injection he with e1 e2 e3 e4
          subst e1 e2 e3 e4
          rw [hxv] at rx
          rw [hyv] at ry
          have hex := inv_int rx
          have hey := inv_int ry
          have has' : as = #[x', y'] := by rw [← Array.toList_inj]; exact has
          cases mn with
          | true =>
            cases b <;> first | (cases hb; done) | skip
            refine ⟨trivial, Done.pure h (u := .int k (if q < p then q else p)) ?_ (rep_int _ _)⟩
            simp [execOp, ho, has', hex, hey, resolve, invoke, builtin, Builtin.min_, Builtin.min2]
          | false =>
            cases b <;> first | (cases hb; done) | skip
            refine ⟨trivial, Done.pure h (u := .int k (if p < q then q else p)) ?_ (rep_int _ _)⟩
            simp [execOp, ho, has', hex, hey, resolve, invoke, builtin, Builtin.max_, Builtin.max2]
        · cases he
      · cases he
    · cases hf
  · cases hf

theorem done_rngs {id : Nat} {x : Opd} (h : Rel ok0 N w0 lk lo a w L) (hf : YOp.fits P (.rngs id x) o.op = true) (he : evY lk lo (.rngs id x) = .ok s f v up) : f ∧ Done P o ok0 N w0 lk lo a w v up := by
  simp only [YOp.fits] at hf
  split at hf
  · rename_i t y ho
    simp only [Bool.and_eq_true] at hf
    obtain ⟨hx, hst⟩ := hf
    have rx := Opd.rep h hx
    simp only [evY] at he
    split at he
    · rename_i st hxv hid
      injection he with e1 e2 e3 e4
      subst e1 e2 e3 e4
      rw [hxv] at rx
      have hv := inv_str rx
      unfold isString at hst
      split at hst
      · rename_i hu
        have hrun := run_range_string (P := P) w t ⟨st.toArray⟩ hu
        have hw : w.iter ⟨st.toArray⟩ 0 = w.alloc (.stringIter ⟨st.toArray⟩ 0) := rfl
        rw [hw] at hrun
        refine ⟨trivial, _, .pointer (some ⟨w.heap.size, 0, none⟩), _, _, by simp [execOp, ho, hv, hrun], .inl rfl, h.newOne hid (below_alloc w _) rfl (fun ok lo' L' hF _ => ⟨hF, heap_alloc_new w _⟩), ?_⟩
        exact .oref id _ (.siter st 0) (by simp [upO, setO]) rfl (by simp [setL])
      · cases hst
    · cases he
  · cases hf

theorem done_mkm {id : Nat} {r : Option (TypeId × Nat)} (h : Rel ok0 N w0 lk lo a w L) (hf : YOp.fits P (.mkm id r) o.op = true) (he : evY lk lo (.mkm id r) = .ok s f v up) : f ∧ Done P o ok0 N w0 lk lo a w v up := by
  simp only [YOp.fits] at hf
  split at hf
  · rename_i t ho
    simp only [evY] at he
    split at he
    · rename_i hid
      injection he with e1 e2 e3 e4
      subst e1 e2 e3 e4
      have hrun := run_makeMap (P := P) t w
      have mr : ∀ key, MapRep 0 #[] 0 key := fun key => ⟨rfl, by simp, by simp, by simp⟩
      cases r with
      | none =>
        refine ⟨trivial, _, .map (some w.heap.size), _, _, by simp [execOp, ho, hrun], .inl rfl, h.newOne hid (below_alloc w _) rfl (fun ok lo' L' hF _ => ⟨hF, #[], 0, heap_alloc_new w _, mr _, by simp, by simp⟩), ?_⟩
        exact .omap id _ [] (by simp [upO, setO]) (by simp [setL])
      | some p =>
        obtain ⟨e, sz⟩ := p
        refine ⟨trivial, _, .map (some w.heap.size), w.alloc (.map #[] 0), setL L id (.map w.heap.size []), by simp [execOp, ho, hrun], .inl rfl, ?_, ?_⟩
        · refine h.new id hid _ _ (below_alloc w _) (fun b hb => by simp [Lay.has] at hb; omega) ⟨h.frlt (Nat.le_refl _), ⟨#[], 0, heap_alloc_new w _, 0, Nat.le_refl _, mr _, by simp, by simp⟩, by simp, rfl, by simp, by simp⟩
        · exact .orow id _ e sz [] none [] (by simp [upO, setO]) (by simp [setL])
    · cases he
  · cases hf
theorem refs_siter {id : Nat} {st : List UInt8} {pos : Nat} {x : AV} {u : Value} (hid : lo id = some (.siter st pos)) (hx : AV.refs id x = true) (hr : RepA (okL ok0 lo L) w lo L x u) : x = .oref id ∧ ∃ b, L id = .one b ∧ u = .pointer (some ⟨b, 0, none⟩) := by
  cases hr with
  | iv _ _ r => simp [AV.refs] at hx
  | agg => simp [AV.refs] at hx
  | loc i off cs b2 ho' hL' =>
    have : i = id := by simpa [AV.refs] using hx
    subst this
    rw [hid] at ho'; cases ho'
  | aref i e sz es mv v xs ho' hL' =>
    have : i = id := by simpa [AV.refs] using hx
    subst this
    rw [hid] at ho'; cases ho'
  | old i n2 e sz es mv v v' xs ho' hL' =>
    have : i = id := by simpa [AV.refs] using hx
    subst this
    rw [hid] at ho'; cases ho'
  | eloc i n2 k off e sz es mv v xs b2 ho' hL' =>
    have : i = id := by simpa [AV.refs] using hx
    subst this
    rw [hid] at ho'; cases ho'
  | nilr sz => simp [AV.refs] at hx
  | mref i k n2 e sz kvs2 pend b2 vals v ho' hL' =>
    have : i = id := by simpa [AV.refs] using hx
    subst this
    rw [hid] at ho'; cases ho'
  | oref i b2 oo ho' hn' hL' =>
    have : i = id := by simpa [AV.refs] using hx
    subst this
    exact ⟨rfl, b2, hL', rfl⟩
  | omap i b2 kvs2 ho' hL' =>
    have : i = id := by simpa [AV.refs] using hx
    subst this
    rw [hid] at ho'; cases ho'
  | orow i b2 e sz kvs2 pend vals ho' hL' =>
    have : i = id := by simpa [AV.refs] using hx
    subst this
    rw [hid] at ho'; cases ho'
  | obytes i b2 cap s2 ho' hL' =>
    have : i = id := by simpa [AV.refs] using hx
    subst this
    rw [hid] at ho'; cases ho'
  | belem i k b2 s2 ho' hL' hk =>
    have : i = id := by simpa [AV.refs] using hx
    subst this
    rw [hid] at ho'; cases ho'

theorem refs_miter {id : Nat} {kvs : List (MK × IV)} {seen : List Nat} {x : AV} {u : Value} (hid : lo id = some (.miter kvs seen)) (hx : AV.refs id x = true) (hr : RepA (okL ok0 lo L) w lo L x u) : x = .oref id ∧ ∃ b, L id = .one b ∧ u = .pointer (some ⟨b, 0, none⟩) := by
  cases hr with
  | iv _ _ r => simp [AV.refs] at hx
  | agg => simp [AV.refs] at hx
  | loc i off cs b2 ho' hL' =>
    have : i = id := by simpa [AV.refs] using hx
    subst this
    rw [hid] at ho'; cases ho'
  | aref i e sz es mv v xs ho' hL' =>
    have : i = id := by simpa [AV.refs] using hx
    subst this
    rw [hid] at ho'; cases ho'
  | old i n2 e sz es mv v v' xs ho' hL' =>
    have : i = id := by simpa [AV.refs] using hx
    subst this
    rw [hid] at ho'; cases ho'
  | eloc i n2 k off e sz es mv v xs b2 ho' hL' =>
    have : i = id := by simpa [AV.refs] using hx
    subst this
    rw [hid] at ho'; cases ho'
  | nilr sz => simp [AV.refs] at hx
  | mref i k n2 e sz kvs2 pend b2 vals v ho' hL' =>
    have : i = id := by simpa [AV.refs] using hx
    subst this
    rw [hid] at ho'; cases ho'
  | oref i b2 oo ho' hn' hL' =>
    have : i = id := by simpa [AV.refs] using hx
    subst this
    exact ⟨rfl, b2, hL', rfl⟩
  | omap i b2 kvs2 ho' hL' =>
    have : i = id := by simpa [AV.refs] using hx
    subst this
    rw [hid] at ho'; cases ho'
  | orow i b2 e sz kvs2 pend vals ho' hL' =>
    have : i = id := by simpa [AV.refs] using hx
    subst this
    rw [hid] at ho'; cases ho'
  | obytes i b2 cap s2 ho' hL' =>
    have : i = id := by simpa [AV.refs] using hx
    subst this
    rw [hid] at ho'; cases ho'
  | belem i k b2 s2 ho' hL' hk =>
    have : i = id := by simpa [AV.refs] using hx
    subst this
    rw [hid] at ho'; cases ho'

theorem refs_mapd {id : Nat} {kvs : List (MK × IV)} {x : AV} {u : Value} (hid : lo id = some (.mapd kvs)) (hx : AV.refs id x = true) (hr : RepA (okL ok0 lo L) w lo L x u) : x = .oref id ∧ ∃ b, L id = .one b ∧ u = .map (some b) := by
  cases hr with
  | iv _ _ r => simp [AV.refs] at hx
  | agg => simp [AV.refs] at hx
  | loc i off cs b2 ho' hL' =>
    have : i = id := by simpa [AV.refs] using hx
    subst this
    rw [hid] at ho'; cases ho'
  | aref i e sz es mv v xs ho' hL' =>
    have : i = id := by simpa [AV.refs] using hx
    subst this
    rw [hid] at ho'; cases ho'
  | old i n2 e sz es mv v v' xs ho' hL' =>
    have : i = id := by simpa [AV.refs] using hx
    subst this
    rw [hid] at ho'; cases ho'
  | eloc i n2 k off e sz es mv v xs b2 ho' hL' =>
    have : i = id := by simpa [AV.refs] using hx
    subst this
    rw [hid] at ho'; cases ho'
  | nilr sz => simp [AV.refs] at hx
  | mref i k n2 e sz kvs2 pend b2 vals v ho' hL' =>
    have : i = id := by simpa [AV.refs] using hx
    subst this
    rw [hid] at ho'; cases ho'
  | oref i b2 oo ho' hn' hL' =>
    have : i = id := by simpa [AV.refs] using hx
    subst this
    rw [hid] at ho'; injection ho' with ho'; subst ho'; cases hn'
  | omap i b2 kvs2 ho' hL' =>
    have : i = id := by simpa [AV.refs] using hx
    subst this
    exact ⟨rfl, b2, hL', rfl⟩
  | orow i b2 e sz kvs2 pend vals ho' hL' =>
    have : i = id := by simpa [AV.refs] using hx
    subst this
    rw [hid] at ho'; cases ho'
  | obytes i b2 cap s2 ho' hL' =>
    have : i = id := by simpa [AV.refs] using hx
    subst this
    rw [hid] at ho'; cases ho'
  | belem i k b2 s2 ho' hL' hk =>
    have : i = id := by simpa [AV.refs] using hx
    subst this
    rw [hid] at ho'; cases ho'

theorem refs_mapr {id : Nat} {e : TypeId} {sz : Nat} {kvs : List (MK × List (List IV))} {pend : Option MK} {x : AV} {u : Value} (hid : lo id = some (.mapr e sz kvs pend)) (hx : AV.refs id x = true) (hr : RepA (okL ok0 lo L) w lo L x u) : ∃ b vals, L id = .map b vals ∧ ((x = .oref id ∧ u = .map (some b)) ∨ ∃ k n, x = .mref id k n ∧ isSl u = true ∧ n ≤ ((mfind k kvs).getD []).length ∧ (((mfind k kvs).getD []).length = n → u = (mfind k vals).getD (.slice none 0 0))) := by
  cases hr with
  | iv _ _ r => simp [AV.refs] at hx
  | agg => simp [AV.refs] at hx
  | loc i off cs b2 ho' hL' =>
    have : i = id := by simpa [AV.refs] using hx
    subst this
    rw [hid] at ho'; cases ho'
  | aref i e sz es mv v xs ho' hL' =>
    have : i = id := by simpa [AV.refs] using hx
    subst this
    rw [hid] at ho'; cases ho'
  | old i n2 e sz es mv v v' xs ho' hL' =>
    have : i = id := by simpa [AV.refs] using hx
    subst this
    rw [hid] at ho'; cases ho'
  | eloc i n2 k off e sz es mv v xs b2 ho' hL' =>
    have : i = id := by simpa [AV.refs] using hx
    subst this
    rw [hid] at ho'; cases ho'
  | nilr sz => simp [AV.refs] at hx
  | mref i k n2 e sz kvs2 pend b2 vals v ho' hL' =>
    have : i = id := by simpa [AV.refs] using hx
    subst this
    rename_i hn' h1' hv'
    rw [hid] at ho'
    injection ho' with ho'
    injection ho' with g1 g2 g3 g4
    subst g1 g2 g3 g4
    exact ⟨b2, vals, hL', .inr ⟨k, n2, rfl, h1', hn', hv'⟩⟩
  | oref i b2 oo ho' hn' hL' =>
    have : i = id := by simpa [AV.refs] using hx
    subst this
    rw [hid] at ho'; injection ho' with ho'; subst ho'; cases hn'
  | omap i b2 kvs2 ho' hL' =>
    have : i = id := by simpa [AV.refs] using hx
    subst this
    rw [hid] at ho'; cases ho'
  | orow i b2 e sz kvs2 pend vals ho' hL' =>
    have : i = id := by simpa [AV.refs] using hx
    subst this
    exact ⟨b2, vals, hL', .inl ⟨rfl, rfl⟩⟩
  | obytes i b2 cap s2 ho' hL' =>
    have : i = id := by simpa [AV.refs] using hx
    subst this
    rw [hid] at ho'; cases ho'
  | belem i k b2 s2 ho' hL' hk =>
    have : i = id := by simpa [AV.refs] using hx
    subst this
    rw [hid] at ho'; cases ho'

theorem refs_oref (id : Nat) : AV.refs id (.oref id) = true := by simp [AV.refs]

theorem done_nxts {id : Nat} {x : Opd} (h : Rel ok0 N w0 lk lo a w L) (hf : YOp.fits P (.nxts id x) o.op = true) (he : evY lk lo (.nxts id x) = .ok s f v up) : f ∧ Done P o ok0 N w0 lk lo a w v up := by
  simp only [YOp.fits] at hf
  split at hf
  · rename_i y s2 ho
    simp only [Bool.and_eq_true] at hf
    obtain ⟨hx, hs2⟩ := hf
    subst hs2
    have rx := Opd.rep h hx
    simp only [evY] at he
    split at he
    · rename_i j st pos hxv hid
      split at he
      · rename_i hji
        subst hji
        rw [hxv] at rx
        obtain ⟨_, b, hL, hv⟩ := refs_siter hid (refs_oref j) rx
        have hob := h.objs _ _ hid
        rw [hL] at hob
        obtain ⟨hF, hb⟩ := hob
        have hsz : (⟨st.toArray⟩ : ByteArray).size = st.length := by simp [ByteArray.size]
        split at he
        · rename_i hpos
          injection he with e1 e2 e3 e4
          subst e1 e2 e3 e4
          have hrun := Lib.run_next_any_at (P := P) w b ⟨st.toArray⟩ pos o.type hb (by rw [hsz]; exact hpos)
          refine ⟨trivial, _, .tuple #[.bool true, .int .i64 pos, .int .i32 (decS st pos).1], _, setL L j (.one b), by simp [execOp, ho, hv, hrun, decS]; rfl, .inl rfl, h.turnOne (ob' := .siter st (pos + (decS st pos).2)) hid hL (only_setObj w b _) (fun ok lo' L' x' v' h1 h2 hx' hr => ?_) (fun ok lo' L' hok _ => ?_), ?_⟩
          · obtain ⟨rfl, b', hL', rfl⟩ := refs_siter hid hx' hr
            rw [hL] at hL'
            injection hL' with hL'
            subst hL'
            exact .oref j b _ h1 rfl h2
          · refine ⟨hF, ?_⟩
            have hlt : b < w.heap.size := (Array.getElem?_eq_some_iff.1 hb).1
            simp [hlt, decS]
          · refine .iv _ _ (.tup _ [_, _, _] rfl fun k x u hk hu => ?_)
            match k with
            | 0 => simp at hk hu; subst hk hu; exact .bool _
            | 1 => simp at hk hu; subst hk hu; exact .int _ _
            | 2 => simp at hk hu; subst hk hu; exact .int _ _
            | k + 3 => simp at hk
        · rename_i hpos
          injection he with e1 e2 e3 e4
          subst e1 e2 e3 e4
          have hrun := Lib.run_next_end_at (P := P) w b ⟨st.toArray⟩ pos o.type hb (by rw [hsz]; exact hpos)
          refine ⟨trivial, Done.pure h (u := .tuple #[.bool false]) (by simp [execOp, ho, hv, hrun]) (.iv _ _ (.tup _ [_] rfl fun k x u hk hu => ?_))⟩
          match k with
          | 0 => simp at hk hu; subst hk hu; exact .bool _
          | k + 1 => simp at hk
      · cases he
    · cases he
  · cases hf

/-! ### Maps -/

theorem kinds_get {α : Type} {kk : Option IntKind} : ∀ {kvs : List (MK × α)}, kindsOk kk kvs → ∀ {i : Nat} {p : MK × α}, kvs[i]? = some p → p.1.kind = kk
  | [], _, i, p, h => by simp at h
  | q :: r, hk, i, p, h => by
    cases i with
    | zero => simp at h; subst h; exact hk.1
    | succ i => exact kinds_get hk.2 (by simpa using h)

theorem keyOf_spec {kk : Option IntKind} {x : AV} {k : MK} (h : keyOf kk x = some k) : k.kind = kk ∧ ∀ {ok : Nat → Prop} {u : Value}, RepA ok w lo L x u → u = k.val := by
  unfold keyOf at h
  split at h
  · split at h
    · rename_i hk
      injection h with h
      subst h
      exact ⟨hk.symm, fun r => inv_int r⟩
    · cases h
  · split at h
    · rename_i hk
      injection h with h
      subst h
      exact ⟨hk.symm, fun r => inv_str r⟩
    · cases h
  · cases h

theorem isKey_of {kk : Option IntKind} {t : TypeId} (ht : keyTy P kk t = true) {k : MK} (hk : k.kind = kk) : ∃ d, P.underlying t = some d ∧ MapKept.IsKey d k.val := by
  unfold keyTy at ht
  split at ht
  · rename_i k1 k2 hu
    simp only [beq_iff_eq] at ht
    subst ht
    cases k with
    | int k n => simp only [MK.kind, Option.some.injEq] at hk; subst hk; exact ⟨_, hu, rfl⟩
    | str s => cases hk
  · rename_i hu
    cases k with
    | int k n => cases hk
    | str s => exact ⟨_, hu, trivial⟩
  · cases ht

theorem val_inj {a b : MK} (h : a.val = b.val) : a = b := by
  cases a <;> cases b <;> simp only [MK.val] at h
  · injection h with h1 h2; subst h1 h2; rfl
  · cases h
  · cases h
  · injection h with h
    injection h with h
    have := congrArg Array.toList h
    simp at this
    subst this
    rfl

theorem mfind_some {α : Type} {k : MK} : ∀ {kvs : List (MK × α)} {y : α}, mfind k kvs = some y → ∃ i : Nat, kvs[i]? = some (k, y)
  | [], y, h => by simp [mfind] at h
  | p :: r, y, h => by
    unfold mfind at h
    split at h
    · rename_i hk
      injection h with h
      exact ⟨0, by obtain ⟨a, b⟩ := p; simp at hk h; subst hk h; rfl⟩
    · obtain ⟨i, hi⟩ := mfind_some h
      exact ⟨i + 1, by simpa using hi⟩

theorem mfind_of {α : Type} {k : MK} : ∀ {kvs : List (MK × α)}, (∀ (i j : Nat) (p q : MK × α), kvs[i]? = some p → kvs[j]? = some q → p.1 = q.1 → i = j) → ∀ {i : Nat} {y : α}, kvs[i]? = some (k, y) → mfind k kvs = some y
  | [], _, i, y, h => by simp at h
  | p :: r, hd, i, y, h => by
    unfold mfind
    cases i with
    | zero =>
      simp at h
      subst h
      simp
    | succ i =>
      have hne : p.1 ≠ k := fun e => by
        have := hd 0 (i + 1) p (k, y) rfl h e
        omega
      rw [if_neg hne]
      exact mfind_of (fun i j p q a b c => by have := hd (i + 1) (j + 1) p q (by simpa using a) (by simpa using b) c; omega) (by simpa using h)

theorem mfind_none {α : Type} {k : MK} : ∀ {kvs : List (MK × α)}, mfind k kvs = none → ∀ (i : Nat) (p : MK × α), kvs[i]? = some p → p.1 ≠ k
  | [], _, i, p, h => by simp at h
  | q :: r, hn, i, p, h => by
    unfold mfind at hn
    split at hn
    · cases hn
    · rename_i hk
      cases i with
      | zero => simp at h; subst h; exact hk
      | succ i => exact mfind_none hn i p (by simpa using h)

/-- Where a key is found in a map's entries. -/
theorem findNow_map {α : Type} {d : TypeDesc} {kvs : List (MK × α)} {n : Nat} {es : Array MapEntry} {clock : Nat} (hm : MapRep n es clock (fun i => (kvs[i]?).map (·.1))) (hn : n ≤ kvs.length)
    (hd : ∀ (i j : Nat) (p q : MK × α), kvs[i]? = some p → kvs[j]? = some q → p.1 = q.1 → i = j) {k : MK} (hk : MapKept.IsKey d k.val) (hks : ∀ (i : Nat) (p : MK × α), kvs[i]? = some p → MapKept.IsKey d p.1.val) :
    (Instr.findNow d k.val es.toList 0 = some none ∧ ∀ (i : Nat) (p : MK × α), i < n → kvs[i]? = some p → p.1 ≠ k) ∨
    ∃ (i : Nat) (e : MapEntry) (p : MK × α), Instr.findNow d k.val es.toList 0 = some (some (i, e.val)) ∧ i < n ∧ es[i]? = some e ∧ kvs[i]? = some p ∧ p.1 = k ∧ e.key = k.val := by
  have keyAt : ∀ (i : Nat) (e : MapEntry), es[i]? = some e → ∃ p : MK × α, kvs[i]? = some p ∧ e.key = p.1.val ∧ i < n := by
    intro i e he
    obtain ⟨k', h1, h2⟩ := hm.keys i e he
    rw [Option.map_eq_some_iff] at h1
    obtain ⟨p, h3, h4⟩ := h1
    have := (Array.getElem?_eq_some_iff.1 he).1
    rw [hm.size] at this
    exact ⟨p, h3, by rw [h2, ← h4], this⟩
  rcases MapKept.findNow_spec hk es.toList 0 (fun x hx => by
    obtain ⟨i, hi⟩ := List.getElem?_of_mem hx
    obtain ⟨p, h1, h2, _⟩ := keyAt i x (by simpa using hi)
    rw [h2]
    exact hks i p h1) with ⟨h1, h2⟩ | ⟨j, e, h1, h2, h3⟩
  · refine .inl ⟨h1, fun i p hi hp e => ?_⟩
    have hlt : i < es.size := by rw [hm.size]; exact hi
    have he := Array.getElem?_eq_getElem hlt
    obtain ⟨p', h3, h4, _⟩ := keyAt i _ he
    rw [hp] at h3
    injection h3 with h3
    subst h3
    exact h2 es[i] (by simp) (by rw [h4, e])
  · have he : es[j]? = some e := by simpa using h2
    obtain ⟨p, h4, h5, h6⟩ := keyAt j e he
    refine .inr ⟨j, e, p, by simpa using h1, h6, he, h4, val_inj (by rw [← h5, h3]), h3⟩

theorem run_lookup {t kt et : TypeId} {d : TypeDesc} {r : Nat} {es : Array MapEntry} {clock : Nat} {key z : Value} {i : TypeInfo} {res : Option (Nat × Value)} (hm : P.underlying t = some (.map kt et)) (hd : P.underlying kt = some d)
    (hb : w.heap[r]? = some (.map es clock)) (hk : MapKept.IsKey d key) (hi : P.info? et = some i) (hz : i.zero = some z) (hf : Instr.findNow d key es.toList 0 = some res) :
    (Instr.lookup t (.map (some r)) key false).run P w = .ok ((res.map (·.2)).getD z) w := by
  have hc := MapKept.run_checkKey (P := P) (w := w) hd hk es.isEmpty 9999
  have hff := MapKept.run_findKey (P := P) (w := w) hd hf
  have hzz : (zeroValue et).run P w = .ok z w := by simp [zeroValue, typeInfo, hi, hz]
  cases res with
  | none => simp [Instr.lookup, run_underlying hm, MapKept.run_getObj_map hb, hc, hff, hzz]
  | some q => simp [Instr.lookup, run_underlying hm, MapKept.run_getObj_map hb, hc, hff]

theorem mapTy_spec {kk : Option IntKind} {t e : TypeId} (h : mapTy P kk t = some e) : ∃ kt, P.underlying t = some (.map kt e) ∧ keyTy P kk kt = true := by
  unfold mapTy at h
  split at h
  · rename_i k e' hu
    split at h
    · rename_i hk
      injection h with h
      subst h
      exact ⟨k, hu, hk⟩
    · cases h
  · cases h
theorem mapZ_spec {kk : Option IntKind} {z : Opd} {t : TypeId} (h : mapZ P kk z t = true) : ∃ kt e i v, P.underlying t = some (.map kt e) ∧ keyTy P kk kt = true ∧ P.info? e = some i ∧ i.zero = some v ∧ z.isVal v = true := by
  unfold mapZ at h
  split at h
  · rename_i e he
    obtain ⟨kt, h1, h2⟩ := mapTy_spec he
    split at h
    · rename_i i hi
      split at h
      · rename_i v hv
        exact ⟨kt, e, i, v, h1, h2, hi, hv, h⟩
      · cases h
    · cases h
  · cases h

theorem kinds_isKey {α : Type} {kk : Option IntKind} {kt : TypeId} {d : TypeDesc} {kvs : List (MK × α)} (hk : kindsOk kk kvs) (ht : keyTy P kk kt = true) (hd : P.underlying kt = some d) : ∀ (i : Nat) (p : MK × α), kvs[i]? = some p → MapKept.IsKey d p.1.val := by
  intro i p hp
  obtain ⟨d', h1, h2⟩ := isKey_of ht (kinds_get hk hp)
  rw [hd] at h1
  injection h1 with h1
  subst h1
  exact h2

/-- A look into data entries. -/
theorem look_data {kvs : List (MK × IV)} {es : Array MapEntry} {clock r : Nat} {t kt et : TypeId} {d : TypeDesc} {k : MK} {z : Value} {zv : IV} {i : TypeInfo} {ok : Nat → Prop} (hm : P.underlying t = some (.map kt et)) (hd : P.underlying kt = some d)
    (hb : w.heap[r]? = some (.map es clock)) (hmr : MapRep kvs.length es clock (fun i => (kvs[i]?).map (·.1))) (hdd : ∀ (i j : Nat) (p q : MK × IV), kvs[i]? = some p → kvs[j]? = some q → p.1 = q.1 → i = j)
    (hx : ∀ (i : Nat) (e : MapEntry) (p : MK × IV), es[i]? = some e → kvs[i]? = some p → RepI ok w p.2 e.val) (hk : MapKept.IsKey d k.val) (hks : ∀ (i : Nat) (p : MK × IV), kvs[i]? = some p → MapKept.IsKey d p.1.val)
    (hi : P.info? et = some i) (hz : i.zero = some z) (hzr : RepI ok w zv z) : ∃ u, (Instr.lookup t (.map (some r)) k.val false).run P w = .ok u w ∧ RepI ok w ((mfind k kvs).getD zv) u := by
  rcases findNow_map hmr (Nat.le_refl _) hdd hk hks with ⟨h1, h2⟩ | ⟨j, e, p, h1, _, h3, h4, h5, _⟩
  · refine ⟨z, run_lookup hm hd hb hk hi hz h1, ?_⟩
    cases hf : mfind k kvs with
    | none => exact hzr
    | some y =>
      obtain ⟨j, hj⟩ := mfind_some hf
      exact absurd rfl (h2 j _ (List.getElem?_eq_some_iff.1 hj).1 hj)
  · refine ⟨e.val, run_lookup hm hd hb hk hi hz h1, ?_⟩
    obtain ⟨a, y⟩ := p
    simp only at h5
    subst h5
    rw [mfind_of hdd h4]
    exact hx j e _ h3 h4

theorem done_lki {kk : Option IntKind} {z x k : Opd} (h : Rel ok0 N w0 lk lo a w L) (hf : YOp.fits P (.lki kk z x k) o.op = true) (he : evY lk lo (.lki kk z x k) = .ok s f v up) (hs : s) : f ∧ Done P o ok0 N w0 lk lo a w v up := by
  simp only [YOp.fits] at hf
  split at hf
  · rename_i t x' k' c ho
    simp only [Bool.and_eq_true, Bool.not_eq_true'] at hf
    obtain ⟨⟨⟨hx, hk⟩, hc⟩, hz⟩ := hf
    subst hc
    have rx := Opd.rep h hx
    have rk := Opd.rep h hk
    simp only [evY] at he
    split at he
    · rename_i kvs key zv hxv hkv hzv
      injection he with e1 e2 e3 e4
      subst e1 e2 e3 e4
      obtain ⟨kt, et, i, zz, hm, hkt, hi, hiz, hzz⟩ := mapZ_spec hz
      obtain ⟨hkk, hkval⟩ := keyOf_spec (w := w) (lo := lo) (L := L) hkv
      obtain ⟨d, hd, hik⟩ := isKey_of hkt hkk
      have hke := hkval rk
      rw [hxv] at rx
      have hzr : RepI (okL ok0 lo L) w zv zz := by
        have := Opd.repVal (ok := okL ok0 lo L) (w := w) (lo := lo) (L := L) (lk := lk) hzz
        rw [hzv] at this
        exact inv_iv this
      have ri := inv_iv rx
      generalize hey : a.eval x' = xv at ri
      cases ri with
      | mapn =>
        have hc := MapKept.run_checkKey (P := P) (w := w) hd hik true 9999
        have hff := MapKept.run_findKey (P := P) (w := w) (k := key.val) (l := []) (a := none) hd rfl
        have hzz : (zeroValue et).run P w = .ok zz w := by simp [zeroValue, typeInfo, hi, hiz]
        exact ⟨trivial, Done.pure h (u := zz) (by simp [execOp, ho, hey, hke, Instr.lookup, run_underlying hm, hc, hff, hzz]) (.iv _ _ (by simpa [mfind] using hzr))⟩
      | map _ r es clock hok hr hmr hdd hxx =>
        obtain ⟨u, h1, h2⟩ := look_data (P := P) hm hd hr hmr hdd hxx hik (kinds_isKey hs hkt hd) hi hiz hzr
        exact ⟨trivial, Done.pure h (u := u) (by simp [execOp, ho, hey, hke, h1]) (.iv _ _ h2)⟩
    · cases he
  · cases hf

theorem done_lkd {id : Nat} {kk : Option IntKind} {z x k : Opd} (h : Rel ok0 N w0 lk lo a w L) (hf : YOp.fits P (.lkd id kk z x k) o.op = true) (he : evY lk lo (.lkd id kk z x k) = .ok s f v up) (hs : s) : f ∧ Done P o ok0 N w0 lk lo a w v up := by
  simp only [YOp.fits] at hf
  split at hf
  · rename_i t x' k' c ho
    simp only [Bool.and_eq_true, Bool.not_eq_true'] at hf
    obtain ⟨⟨⟨hx, hk⟩, hc⟩, hz⟩ := hf
    subst hc
    have rx := Opd.rep h hx
    have rk := Opd.rep h hk
    simp only [evY] at he
    split at he
    · rename_i j key zv kvs hxv hkv hzv hid
      split at he
      · rename_i hji
        subst hji
        injection he with e1 e2 e3 e4
        subst e1 e2 e3 e4
        obtain ⟨kt, et, i, zz, hm, hkt, hi, hiz, hzz⟩ := mapZ_spec hz
        obtain ⟨hkk, hkval⟩ := keyOf_spec (w := w) (lo := lo) (L := L) hkv
        obtain ⟨d, hd, hik⟩ := isKey_of hkt hkk
        have hke := hkval rk
        rw [hxv] at rx
        have hzr : RepI (okL ok0 lo L) w zv zz := by
          have := Opd.repVal (ok := okL ok0 lo L) (w := w) (lo := lo) (L := L) (lk := lk) hzz
          rw [hzv] at this
          exact inv_iv this
        obtain ⟨_, b, hL, hv⟩ := refs_mapd hid (refs_oref j) rx
        have hob := h.objs _ _ hid
        rw [hL] at hob
        obtain ⟨hF, es, clock, hb, hmr, hdd, hxx⟩ := hob
        obtain ⟨u, h1, h2⟩ := look_data (P := P) hm hd hb hmr hdd hxx hik (kinds_isKey hs hkt hd) hi hiz hzr
        exact ⟨trivial, Done.pure h (u := u) (by simp [execOp, ho, hv, hke, h1]) (.iv _ _ h2)⟩
      · cases he
    · cases he
  · cases hf

theorem ownsF.isSl {Fr : Nat → Prop} {e : TypeId} {sz : Nat} {v : Value} {n : Nat} {xs : List Value} (h : ownsF Fr w e sz v n xs) : Ev.isSl v = true := by
  rcases h.own.2 with ⟨hv, _⟩ | ⟨g, cap, cur, hv, _⟩ <;> rw [hv] <;> rfl

theorem vals_apart {α β : Type} {kvs : List (MK × α)} {vals : List (MK × β)} (hk : vals.map (·.1) = kvs.map (·.1)) (hd : ∀ (i j : Nat) (p q : MK × α), kvs[i]? = some p → kvs[j]? = some q → p.1 = q.1 → i = j) :
    ∀ (i j : Nat) (p q : MK × β), vals[i]? = some p → vals[j]? = some q → p.1 = q.1 → i = j := by
  intro i j p q hp hq hpq
  obtain ⟨p', h1, h2⟩ := val_of hk hp
  obtain ⟨q', h3, h4⟩ := val_of hk hq
  exact hd i j p' q' h1 h3 (by rw [h2, h4, hpq])

theorem val_at {α β : Type} {kvs : List (MK × α)} {vals : List (MK × β)} (hk : vals.map (·.1) = kvs.map (·.1)) {i : Nat} {p : MK × α} (hp : kvs[i]? = some p) : ∃ q, vals[i]? = some q ∧ q.1 = p.1 := val_of hk.symm hp

theorem done_lkr {id : Nat} {kk : Option IntKind} {x k : Opd} (h : Rel ok0 N w0 lk lo a w L) (hf : YOp.fits P (.lkr id kk x k) o.op = true) (he : evY lk lo (.lkr id kk x k) = .ok s f v up) (hs : s) : f ∧ Done P o ok0 N w0 lk lo a w v up := by
  simp only [YOp.fits] at hf
  split at hf
  · rename_i t x' k' c ho
    simp only [Bool.and_eq_true, Bool.not_eq_true'] at hf
    obtain ⟨⟨⟨hx, hk⟩, hc⟩, hz⟩ := hf
    subst hc
    have rx := Opd.rep h hx
    have rk := Opd.rep h hk
    simp only [evY] at he
    split at he
    · rename_i j key e sz kvs hxv hkv hid
      split at he
      · rename_i hji
        subst hji
        injection he with e1 e2 e3 e4
        subst e1 e2 e3 e4
        obtain ⟨kt, et, i, zz, hm, hkt, hi, hiz, hzz⟩ := mapZ_spec hz
        obtain ⟨hkk, hkval⟩ := keyOf_spec (w := w) (lo := lo) (L := L) hkv
        obtain ⟨d, hd, hik⟩ := isKey_of hkt hkk
        have hke := hkval rk
        rw [hxv] at rx
        have hzn : zz = .slice none 0 0 := by
          simp only [Opd.isVal] at hzz
          unfold isN at hzz
          split at hzz
          · simp only [Bool.and_eq_true, beq_iff_eq] at hzz
            rw [hzz.1, hzz.2]
          · cases hzz
        subst hzn
        obtain ⟨b, vals, hL, hv⟩ := refs_mapr hid (refs_oref j) rx
        rcases hv with ⟨_, hv⟩ | ⟨_, _, hv, _⟩
        · have hob := h.objs _ _ hid
          rw [hL] at hob
          obtain ⟨hF, ⟨es, clock, hb, n, hn, hmr, hnew, hval⟩, hdd, hkv2, hrow, hap⟩ := hob
          have hnk : n = kvs.length := by
            rcases Nat.lt_or_ge n kvs.length with hlt | hge
            · have := hnew n _ (List.getElem?_eq_getElem hlt) (Nat.le_refl _)
              cases this
            · omega
          have fin : ∀ u, (Instr.lookup t (.map (some b)) key.val false).run P w = .ok u w → isSl u = true → u = (mfind key vals).getD (.slice none 0 0) → True ∧ Done P o ok0 N w0 lk lo a w (.mref j key ((mfind key kvs).getD []).length) none := by
            intro u hr h1 h2
            exact ⟨trivial, Done.pure h (u := u) (by simp [execOp, ho, hv, hke, hr]) (.mref j key _ e sz kvs none b vals u hid hL h1 (Nat.le_refl _) fun _ => h2)⟩
          rcases findNow_map hmr hn hdd hik (kinds_isKey hs hkt hd) with ⟨h1, h2⟩ | ⟨i2, e2, p, h1, _, h3, h4, h5, _⟩
          · refine fin _ (run_lookup hm hd hb hik hi hiz h1) rfl ?_
            cases hf : mfind key vals with
            | none => rfl
            | some y =>
              obtain ⟨j2, hj2⟩ := mfind_some hf
              obtain ⟨p, h3, h4⟩ := val_of hkv2 hj2
              exact absurd h4 (h2 j2 p (by rw [hnk]; exact (List.getElem?_eq_some_iff.1 h3).1) h3)
          · obtain ⟨q, h6, h7⟩ := val_at hkv2 h4
            have h8 := hval i2 e2 q h3 h6 (by simp)
            obtain ⟨xs, h9, _⟩ := hrow i2 p q h4 h6
            refine fin _ (run_lookup hm hd hb hik hi hiz h1) (by simp only [Option.map_some, Option.getD_some]; rw [h8]; exact h9.isSl) ?_
            have : vals[i2]? = some (key, q.2) := by rw [h6, ← h5, ← h7]
            rw [mfind_of (vals_apart hkv2 hdd) this]
            exact h8
        · cases hv
      · cases he
    · cases he
  · cases hf

theorem mins_none {α : Type} {k : MK} {y : α} : ∀ {kvs : List (MK × α)}, (∀ (i : Nat) (p : MK × α), kvs[i]? = some p → p.1 ≠ k) → mins k y kvs = kvs ++ [(k, y)]
  | [], _ => rfl
  | p :: r, h => by
    unfold mins
    rw [if_neg (h 0 p rfl), mins_none (fun i p hp => h (i + 1) p (by simpa using hp))]
    rfl
theorem mins_some {α : Type} {k : MK} {y : α} : ∀ {kvs : List (MK × α)}, (∀ (i j : Nat) (p q : MK × α), kvs[i]? = some p → kvs[j]? = some q → p.1 = q.1 → i = j) → ∀ {i : Nat} {p : MK × α}, kvs[i]? = some p → p.1 = k → mins k y kvs = kvs.set i (k, y)
  | [], _, i, p, h, _ => by simp at h
  | q :: r, hd, i, p, h, hk => by
    unfold mins
    cases i with
    | zero =>
      simp at h
      subst h
      rw [if_pos hk]
      rfl
    | succ i =>
      have hne : q.1 ≠ k := fun e => by
        have := hd 0 (i + 1) q p rfl h (by rw [e, hk])
        omega
      rw [if_neg hne, mins_some (fun i j p q a b c => by have := hd (i + 1) (j + 1) p q (by simpa using a) (by simpa using b) c; omega) (by simpa using h) hk]
      rfl

theorem run_mapUpdate_new {t kt et : TypeId} {d : TypeDesc} {r : Nat} {es : Array MapEntry} {clock : Nat} {key value : Value} (hm : P.underlying t = some (.map kt et)) (hd : P.underlying kt = some d) (hb : w.heap[r]? = some (.map es clock))
    (hk : MapKept.IsKey d key) (hf : Instr.findNow d key es.toList 0 = some none) :
    (Instr.mapUpdate t (.map (some r)) key value).run P w = .ok () { w with heap := w.heap.setIfInBounds r (.map (es.push { key, val := value, born := clock }) (clock + 1)) } := by
  simp [Instr.mapUpdate, run_underlying hm, MapKept.run_getObj_map hb, MapKept.run_checkKey (P := P) (w := w) hd hk false 9999, MapKept.run_findKey (P := P) (w := w) hd hf, MapKept.run_setObj_map _ hb]
theorem run_mapUpdate_old {t kt et : TypeId} {d : TypeDesc} {r i : Nat} {es : Array MapEntry} {clock : Nat} {key value : Value} {e : MapEntry} (hm : P.underlying t = some (.map kt et)) (hd : P.underlying kt = some d) (hb : w.heap[r]? = some (.map es clock))
    (hk : MapKept.IsKey d key) (hf : Instr.findNow d key es.toList 0 = some (some (i, e.val))) (he : es[i]? = some e) (hek : e.key = key) :
    (Instr.mapUpdate t (.map (some r)) key value).run P w = .ok () { w with heap := w.heap.setIfInBounds r (.map (es.modify i fun e => { e with key, val := value }) clock) } := by
  simp [Instr.mapUpdate, run_underlying hm, MapKept.run_getObj_map hb, MapKept.run_checkKey (P := P) (w := w) hd hk false 9999, MapKept.run_findKey (P := P) (w := w) hd hf, he, hek, MapKept.run_keyThatStays (P := P) (w := w) hk, MapKept.run_setObj_map _ hb]

theorem rep_push {n : Nat} {es : Array MapEntry} {clock : Nat} {key key' : Nat → Option MK} {k : MK} {u : Value} (h : MapRep n es clock key) (hk : ∀ i, i < n → key' i = key i) (hn : key' n = some k) :
    MapRep (n + 1) (es.push { key := k.val, val := u, born := clock }) (clock + 1) key' := by
  refine ⟨by simp [h.size], fun i e he => ?_, fun i e he => ?_, fun i j e f he hf heq => ?_⟩
  · rw [Array.getElem?_push] at he
    split at he
    · rename_i hi
      injection he with he
      subst he
      exact ⟨k, by rw [hi, h.size]; exact hn, rfl⟩
    · have := (Array.getElem?_eq_some_iff.1 he).1
      rw [hk i (by rw [← h.size]; exact this)]
      exact h.keys i e he
  · rw [Array.getElem?_push] at he
    split at he
    · injection he with he
      subst he
      exact Nat.lt_succ_self _
    · exact Nat.lt_succ_of_lt (h.born i e he)
  · rw [Array.getElem?_push] at he hf
    split at he <;> split at hf
    · omega
    · injection he with he
      subst he
      have := h.born j f hf
      simp only at heq
      omega
    · injection hf with hf
      subst hf
      have := h.born i e he
      simp only at heq
      omega
    · exact h.apart i j e f he hf heq

theorem rep_modify {n : Nat} {es : Array MapEntry} {clock : Nat} {key : Nat → Option MK} {k : MK} {u : Value} {i0 : Nat} {e0 : MapEntry} (h : MapRep n es clock key) (h0 : es[i0]? = some e0) (hk : e0.key = k.val) :
    MapRep n (es.modify i0 fun e : MapEntry => { e with key := k.val, val := u }) clock key ∧ (∀ (i : Nat) (e : MapEntry), i ≠ i0 → (es.modify i0 fun e : MapEntry => { e with key := k.val, val := u })[i]? = some e → es[i]? = some e) ∧
      ∀ e : MapEntry, (es.modify i0 fun e : MapEntry => { e with key := k.val, val := u })[i0]? = some e → e.val = u := by
  have get : ∀ (i : Nat) (e : MapEntry), (es.modify i0 fun e : MapEntry => { e with key := k.val, val := u })[i]? = some e → ∃ e' : MapEntry, es[i]? = some e' ∧ e.key = e'.key ∧ e.born = e'.born := by
    intro i e he
    rw [Array.getElem?_modify] at he
    split at he
    · rename_i hi
      subst hi
      rw [h0] at he
      simp at he
      subst he
      exact ⟨e0, h0, hk.symm, rfl⟩
    · exact ⟨e, he, rfl, rfl⟩
  refine ⟨⟨by simp [h.size], fun i e he => ?_, fun i e he => ?_, fun i j e f he hf heq => ?_⟩, fun i e hi he => ?_, fun e he => ?_⟩
  · obtain ⟨e', h1, h2, _⟩ := get i e he
    rw [h2]
    exact h.keys i e' h1
  · obtain ⟨e', h1, _, h3⟩ := get i e he
    rw [h3]
    exact h.born i e' h1
  · obtain ⟨e', h1, _, h3⟩ := get i e he
    obtain ⟨f', h4, _, h6⟩ := get j f hf
    exact h.apart i j e' f' h1 h4 (by rw [← h3, ← h6, heq])
  · rw [Array.getElem?_modify, if_neg (Ne.symm hi)] at he
    exact he
  · rw [Array.getElem?_modify, if_pos rfl, h0] at he
    simp at he
    subst he
    rfl

theorem mins_apart {α : Type} {k : MK} {y : α} {kvs : List (MK × α)} (hd : ∀ (i j : Nat) (p q : MK × α), kvs[i]? = some p → kvs[j]? = some q → p.1 = q.1 → i = j) :
    ∀ (i j : Nat) (p q : MK × α), (mins k y kvs)[i]? = some p → (mins k y kvs)[j]? = some q → p.1 = q.1 → i = j := by
  cases hf : mfind k kvs with
  | none =>
    have hn := mfind_none hf
    rw [mins_none hn]
    intro i j p q hp hq he
    have side : ∀ (i : Nat) (p : MK × α), (kvs ++ [(k, y)])[i]? = some p → (kvs[i]? = some p ∧ i < kvs.length) ∨ (i = kvs.length ∧ p = (k, y)) := by
      intro i p hp
      rw [List.getElem?_append] at hp
      split at hp
      · rename_i hi; exact .inl ⟨hp, hi⟩
      · rename_i hi
        have : i - kvs.length = 0 := by
          rcases Nat.eq_zero_or_pos (i - kvs.length) with h | h
          · exact h
          · rw [List.getElem?_eq_none (by simp; omega)] at hp; cases hp
        rw [this] at hp
        simp at hp
        exact .inr ⟨by omega, hp.symm⟩
    rcases side i p hp with ⟨h1, h1'⟩ | ⟨h1, h1'⟩ <;> rcases side j q hq with ⟨h2, h2'⟩ | ⟨h2, h2'⟩
    · exact hd i j p q h1 h2 he
    · subst h2'; exact absurd he (hn i p h1)
    · subst h1'; exact absurd he.symm (hn j q h2)
    · omega
  | some y0 =>
    obtain ⟨i0, h0⟩ := mfind_some hf
    rw [mins_some hd h0 rfl]
    intro i j p q hp hq he
    have hlt := (List.getElem?_eq_some_iff.1 h0).1
    rw [List.getElem?_set] at hp hq
    split at hp <;> split at hq
    · omega
    · rename_i h1 h2
      subst h1
      injection hp with hp
      subst hp
      exact hd i0 j _ q h0 hq he
    · rename_i h1 h2
      subst h2
      injection hq with hq
      subst hq
      exact hd i i0 p _ hp h0 he
    · exact hd i j p q hp hq he

theorem mins_len {α β : Type} {k : MK} {y : α} {y' : β} {kvs : List (MK × α)} {vals : List (MK × β)} (h : vals.map (·.1) = kvs.map (·.1)) : (mins k y' vals).map (·.1) = (mins k y kvs).map (·.1) := by
  induction kvs generalizing vals with
  | nil =>
    have : vals = [] := by simpa using h
    subst this
    rfl
  | cons p r ih =>
    cases vals with
    | nil => simp at h
    | cons q s =>
      simp only [List.map_cons, List.cons.injEq] at h
      simp only [mins, h.1]
      split
      · simp [h.2]
      · simp only [List.map_cons, h.1, ih h.2]

theorem mfind_mins_self {α : Type} {k : MK} {y : α} : ∀ (kvs : List (MK × α)), mfind k (mins k y kvs) = some y
  | [] => by simp [mins, mfind]
  | p :: r => by
    unfold mins
    split
    · simp [mfind]
    · rename_i h
      simp only [mfind, if_neg h]
      exact mfind_mins_self r
theorem mfind_mins_ne {α : Type} {k k' : MK} {y : α} (hk : k' ≠ k) : ∀ (kvs : List (MK × α)), mfind k' (mins k y kvs) = mfind k' kvs
  | [] => by simp [mins, mfind, Ne.symm hk]
  | p :: r => by
    unfold mins
    split
    · rename_i h
      simp only [mfind, h, if_neg (Ne.symm hk)]
    · simp only [mfind, mfind_mins_ne hk r]

theorem done_mupd {id : Nat} {kk : Option IntKind} {x k y : Opd} (h : Rel ok0 N w0 lk lo a w L) (hf : YOp.fits P (.mupd id kk x k y) o.op = true) (he : evY lk lo (.mupd id kk x k y) = .ok s f v up) (hs : s) : f ∧ Done P o ok0 N w0 lk lo a w v up := by
  simp only [YOp.fits] at hf
  split at hf
  · rename_i t x' k' v' ho
    simp only [Bool.and_eq_true] at hf
    obtain ⟨⟨⟨hx, hk⟩, hy⟩, hm⟩ := hf
    have rx := Opd.rep h hx
    have rk := Opd.rep h hk
    have ry := Opd.rep h hy
    simp only [evY] at he
    split at he
    · rename_i j key yv kvs hxv hkv hyv hid
      split at he
      · rename_i hji
        subst hji
        injection he with e1 e2 e3 e4
        subst e1 e2 e3 e4
        cases hmt : mapTy P kk t with
        | none => rw [hmt] at hm; cases hm
        | some et =>
        obtain ⟨kt, hmu, hkt⟩ := mapTy_spec hmt
        obtain ⟨hkk, hkval⟩ := keyOf_spec (w := w) (lo := lo) (L := L) hkv
        obtain ⟨d, hd, hik⟩ := isKey_of hkt hkk
        have hke := hkval rk
        rw [hxv] at rx
        rw [hyv] at ry
        have ryi := inv_iv ry
        obtain ⟨_, b, hL, hv⟩ := refs_mapd hid (refs_oref j) rx
        have hob := h.objs _ _ hid
        rw [hL] at hob
        obtain ⟨hF, es, clock, hb, hmr, hdd, hxx⟩ := hob
        have fin : ∀ (es' : Array MapEntry) (clock' : Nat), (Instr.mapUpdate t (.map (some b)) key.val (a.eval v')).run P w = .ok () { w with heap := w.heap.setIfInBounds b (.map es' clock') } →
            MapRep (mins key yv kvs).length es' clock' (fun i => ((mins key yv kvs)[i]?).map (·.1)) →
            (∀ (i : Nat) (e : MapEntry) (p : MK × IV), es'[i]? = some e → (mins key yv kvs)[i]? = some p → RepI (okL ok0 lo L) w p.2 e.val) → True ∧ Done P o ok0 N w0 lk lo a w (.iv .any) (some (j, .mapd (mins key yv kvs))) := by
          intro es' clock' hrun hmr' hx'
          refine ⟨trivial, .skip, undef, { w with heap := w.heap.setIfInBounds b (.map es' clock') }, setL L j (.one b), ?_, .inr ⟨rfl, rfl⟩, h.turnOne (ob' := .mapd (mins key yv kvs)) hid hL (only_setObj w b _) (fun ok lo' L' x'' u h1 h2 hx'' hr => ?_) (fun ok lo' L' hok _ => ?_), ?_⟩
          · simp [execOp, ho, hv, hke, hrun]
          · obtain ⟨rfl, b', hL', rfl⟩ := refs_mapd hid hx'' hr
            rw [hL] at hL'
            injection hL' with hL'
            subst hL'
            exact .omap j b _ h1 h2
          · refine ⟨hF, es', clock', ?_, hmr', mins_apart hdd, fun i e p h1 h2 => (hx' i e p h1 h2).mono fun b' hb' hlt => hok b' hb' hlt⟩
            have hlt : b < w.heap.size := (Array.getElem?_eq_some_iff.1 hb).1
            simp [hlt]
          · exact .iv _ _ (.any _)
        have hks := kinds_isKey hs hkt hd
        rcases findNow_map hmr (Nat.le_refl _) hdd hik hks with ⟨h1, h2⟩ | ⟨i2, e2, p, h1, hi2, h3, h4, h5, h6⟩
        · have hn : ∀ (i : Nat) (p : MK × IV), kvs[i]? = some p → p.1 ≠ key := fun i p hp => h2 i p (List.getElem?_eq_some_iff.1 hp).1 hp
          refine fin _ _ (run_mapUpdate_new hmu hd hb hik h1) ?_ ?_
          · rw [mins_none hn, List.length_append, List.length_singleton]
            exact rep_push (key' := fun (i : Nat) => ((kvs ++ [(key, yv)])[i]?).map (fun p : MK × IV => p.1)) hmr (fun i hi => by simp only [List.getElem?_append_left hi]) (by simp)
          · rw [mins_none hn]
            intro i e p he hp
            rw [Array.getElem?_push] at he
            have hsz := hmr.size
            split at he
            · rename_i hi
              injection he with he
              subst he
              rw [hi, hsz] at hp
              simp at hp
              subst hp
              exact ryi
            · have hi := (Array.getElem?_eq_some_iff.1 he).1
              rw [List.getElem?_append_left (by omega)] at hp
              exact hxx i e p he hp
        · obtain ⟨hr1, hr2, hr3⟩ := rep_modify (u := a.eval v') hmr h3 h6
          refine fin _ _ (run_mapUpdate_old hmu hd hb hik h1 h3 h6) ?_ ?_
          · rw [mins_some hdd h4 h5, List.length_set]
            have : (fun (i : Nat) => ((kvs.set i2 (key, yv))[i]?).map (fun p : MK × IV => p.1)) = fun (i : Nat) => (kvs[i]?).map (fun p : MK × IV => p.1) := by
              funext i
              rw [List.getElem?_set]
              split
              · rename_i hi
                subst hi
                rw [h4]
                simp [h5]
              · rfl
            rw [this]
            exact hr1
          · rw [mins_some hdd h4 h5]
            intro i e p' he hp
            rw [List.getElem?_set] at hp
            split at hp
            · rename_i hi
              subst hi
              injection hp with hp
              subst hp
              rw [hr3 e he]
              exact ryi
            · rename_i hi
              exact hxx i e p' (hr2 i e (Ne.symm hi) he) hp
      · cases he
    · cases he
  · cases hf

theorem done_mupr {id : Nat} {kk : Option IntKind} {x k y : Opd} (h : Rel ok0 N w0 lk lo a w L) (hf : YOp.fits P (.mupr id kk x k y) o.op = true) (he : evY lk lo (.mupr id kk x k y) = .ok s f v up) (hs : s) : f ∧ Done P o ok0 N w0 lk lo a w v up := by
  simp only [YOp.fits] at hf
  split at hf
  · rename_i t x' k' v' ho
    simp only [Bool.and_eq_true] at hf
    obtain ⟨⟨⟨hx, hk⟩, hy⟩, hm⟩ := hf
    have rx := Opd.rep h hx
    have rk := Opd.rep h hk
    have ry := Opd.rep h hy
    simp only [evY] at he
    split at he
    · rename_i j key i0 key0 m e sz kvs pk hxv hkv hyv hid
      split at he
      · rename_i hji
        obtain ⟨rfl, rfl, rfl, rfl⟩ := hji
        injection he with e1 e2 e3 e4
        subst e1 e2 e3 e4
        obtain ⟨hks0, hsome, hlen⟩ := hs
        cases hmt : mapTy P kk t with
        | none => rw [hmt] at hm; cases hm
        | some et =>
        obtain ⟨kt, hmu, hkt⟩ := mapTy_spec hmt
        obtain ⟨hkk, hkval⟩ := keyOf_spec (w := w) (lo := lo) (L := L) hkv
        obtain ⟨d, hd, hik⟩ := isKey_of hkt hkk
        have hke := hkval rk
        rw [hxv] at rx
        rw [hyv] at ry
        obtain ⟨b, vals, hL, hv⟩ := refs_mapr hid (refs_oref _) rx
        have hv : a.eval x' = .map (some b) := by
          rcases hv with ⟨_, hv⟩ | ⟨_, _, hv, _⟩
          · exact hv
          · cases hv
        obtain ⟨b2, vals2, hL2, hv2⟩ := refs_mapr hid (by simp [AV.refs]) ry
        rw [hL] at hL2
        injection hL2 with g1 g2
        subst g1 g2
        have hu : a.eval v' = (mfind pk vals).getD (.slice none 0 0) := by
          rcases hv2 with ⟨hv2, _⟩ | ⟨k2, n2, hv2, _, _, hv3⟩
          · cases hv2
          · injection hv2 with g1 g2 g3
            subst g2 g3
            exact hv3 hlen
        have hob := h.objs _ _ hid
        rw [hL] at hob
        obtain ⟨hF, ⟨es, clock, hb, n, hn, hmr, hnew, hval⟩, hdd, hkv2, hrow, hap⟩ := hob
        obtain ⟨y0, hy0⟩ := Option.isSome_iff_exists.1 hsome
        obtain ⟨i1, hi1⟩ := mfind_some hy0
        obtain ⟨q1, hq1, hq1k⟩ := val_at hkv2 hi1
        have hvd := vals_apart hkv2 hdd
        have hq1' : vals[i1]? = some (pk, q1.2) := by rw [hq1]; simp only at hq1k; rw [← hq1k]
        have hu : a.eval v' = q1.2 := by rw [hu, mfind_of hvd hq1']; rfl
        have fin : ∀ (es' : Array MapEntry) (clock' : Nat), (Instr.mapUpdate t (.map (some b)) pk.val (a.eval v')).run P w = .ok () { w with heap := w.heap.setIfInBounds b (.map es' clock') } →
            MapRows kvs none vals es' clock' → True ∧ Done P o ok0 N w0 lk lo a w (.iv .any) (some (i0, .mapr e sz kvs none)) := by
          intro es' clock' hrun hrows
          have hl' : ∀ k, (Lay.map b vals).has k → (L i0).has k ∨ w.heap.size ≤ k := fun k hk => .inl (by rw [hL]; exact hk)
          have hg : Only (L i0).has w { w with heap := w.heap.setIfInBounds b (.map es' clock') } := by
            obtain ⟨g1, g2, g3, g4, g5⟩ := only_setObj w b (.map es' clock')
            exact ⟨g1, g2, g3, g4, fun k hk hn => g5 k hk (fun e => hn (by rw [hL]; exact .inl e))⟩
          have hok : ∀ k, okL ok0 lo L k → k < w.heap.size → okL ok0 (setO lo i0 (.mapr e sz kvs none)) (setL L i0 (.map b vals)) k := fun k hk hlt => h.okL_turn hid hl' hk hlt
          refine ⟨trivial, .skip, undef, { w with heap := w.heap.setIfInBounds b (.map es' clock') }, setL L i0 (.map b vals), ?_, .inr ⟨rfl, rfl⟩, h.turn (o' := .mapr e sz kvs none) i0 hid hg hl' (fun x'' u hx'' hr => ?_) (fun _ => ?_), ?_⟩
          · simp [execOp, ho, hv, hke, hrun]
          · obtain ⟨b3, vals3, hL3, hr⟩ := refs_mapr hid hx'' hr
            rw [hL] at hL3
            injection hL3 with g1 g2
            subst g1 g2
            rcases hr with ⟨rfl, rfl⟩ | ⟨k3, n3, rfl, h3, h3n, h4⟩
            · exact .orow i0 b e sz kvs none vals (by simp [setO]) (by simp [setL])
            · exact .mref i0 k3 n3 e sz kvs none b vals u (by simp [setO]) (by simp [setL]) h3 h3n h4
          · have hlt : b < w.heap.size := (Array.getElem?_eq_some_iff.1 hb).1
            refine ⟨hF, ⟨es', clock', by simp [hlt], hrows⟩, hdd, hkv2, fun i p q hp hq => ?_, hap⟩
            obtain ⟨xs, h1, h2, h3, h4, h5⟩ := hrow i p q hp hq
            refine ⟨xs, h1.stay fun b' hb' => ?_, h2, h3, h4, fun i j c x u a1 a2 a3 => (h5 i j c x u a1 a2 a3).mono fun b' hb' hlt' => ⟨hok b' hb' hlt', hg.block b' hlt' (hb'.2 i0 _ hid)⟩⟩
            have : b ≠ b' := fun e => h2 (by rw [hb', e])
            simp [Array.getElem?_setIfInBounds, this]
          · exact .iv _ _ (.any _)
        have hks := kinds_isKey hks0 hkt hd
        rcases findNow_map hmr hn hdd hik hks with ⟨h1, h2⟩ | ⟨i2, e2, p, h1, hi2, h3, h4, h5, h6⟩
        · have hi1n : n ≤ i1 := by
            rcases Nat.lt_or_ge i1 n with hlt | hge
            · exact absurd rfl (h2 i1 _ hlt hi1)
            · exact hge
          have hi1l := (List.getElem?_eq_some_iff.1 hi1).1
          have only : ∀ i, n ≤ i → i < kvs.length → i = i1 := fun i h3 h4 => by
            have := hnew i _ (List.getElem?_eq_getElem h4) h3
            injection this with this
            exact hdd i i1 _ _ (List.getElem?_eq_getElem h4) hi1 this.symm
          have hni : n = i1 := only n (Nat.le_refl _) (by omega)
          have hnl : kvs.length = n + 1 := by
            rcases Nat.lt_or_ge (n + 1) kvs.length with hlt | hge
            · have := only (n + 1) (by omega) hlt; omega
            · omega
          refine fin _ _ (run_mapUpdate_new hmu hd hb hik h1) ⟨n + 1, by omega, rep_push (key' := fun (i : Nat) => (kvs[i]?).map (fun p : MK × List (List IV) => p.1)) hmr (fun _ _ => rfl) (by simp only [hni, hi1, Option.map_some]), fun i p hp hi => ?_, fun i e q he hq _ => ?_⟩
          · have := (List.getElem?_eq_some_iff.1 hp).1; omega
          · rw [Array.getElem?_push] at he
            have hsz := hmr.size
            split at he
            · rename_i hi
              injection he with he
              subst he
              have : i = i1 := by omega
              subst this
              rw [hq1] at hq
              injection hq with hq
              subst hq
              exact hu
            · have hi := (Array.getElem?_eq_some_iff.1 he).1
              refine hval i e q he hq fun hbad => ?_
              injection hbad with hbad
              obtain ⟨p, hp, hpq⟩ := val_of hkv2 hq
              exact h2 i p (by omega) hp (by rw [hpq, ← hbad])
        · have hnl : n = kvs.length := by
            rcases Nat.lt_or_ge n kvs.length with hlt | hge
            · have := hnew n _ (List.getElem?_eq_getElem hlt) (Nat.le_refl _)
              injection this with this
              have := hdd n i2 _ _ (List.getElem?_eq_getElem hlt) h4 (by rw [h5, this])
              omega
            · omega
          obtain ⟨hr1, hr2, hr3⟩ := rep_modify (u := a.eval v') hmr h3 h6
          refine fin _ _ (run_mapUpdate_old hmu hd hb hik h1 h3 h6) ⟨n, hn, hr1, fun i p hp hi => ?_, fun i e q he hq _ => ?_⟩
          · have := (List.getElem?_eq_some_iff.1 hp).1; omega
          · by_cases hii : i = i2
            · subst hii
              have : i = i1 := hdd i i1 _ _ h4 hi1 h5
              subst this
              rw [hr3 e he, hu]
              rw [hq1] at hq
              injection hq with hq
              rw [hq]
            · refine hval i e q (hr2 i e hii he) hq fun hbad => ?_
              injection hbad with hbad
              obtain ⟨p', hp, hpq⟩ := val_of hkv2 hq
              exact hii (hdd i i2 p' p hp h4 (by rw [hpq, h5, ← hbad]))
      · cases he
    · cases he
  · cases hf

theorem flat1 {α : Type} : ∀ {es : List (List α)}, (∀ c ∈ es, c.length = 1) → es.flatten.length = es.length ∧ ∀ (k : Nat) (x : α), es.flatten[k]? = some x → ∃ c, es[k]? = some c ∧ c[0]? = some x
  | [], _ => ⟨rfl, fun k x h => by simp at h⟩
  | c :: r, h => by
    obtain ⟨h1, h2⟩ := flat1 (es := r) (fun c hc => h c (List.mem_cons_of_mem _ hc))
    obtain ⟨y, rfl⟩ : ∃ y, c = [y] := by
      have := h c (by simp)
      match c, this with
      | [y], _ => exact ⟨y, rfl⟩
    refine ⟨by simp [h1], fun k x hk => ?_⟩
    cases k with
    | zero => simp at hk; subst hk; exact ⟨[y], rfl, rfl⟩
    | succ k => exact h2 k x (by simpa using hk)

theorem done_bla {zs parts : List Opd} (h : Rel ok0 N w0 lk lo a w L) (hf : YOp.fits P (.bla zs parts) o.op = true) (he : evY lk lo (.bla zs parts) = .ok s f v up) : f ∧ Done P o ok0 N w0 lk lo a w v up := by
  simp only [YOp.fits] at hf
  split at hf
  · rename_i t ps ho
    simp only [Bool.and_eq_true] at hf
    obtain ⟨ha, hsq⟩ := hf
    simp only [evY] at he
    split at he
    · rename_i rows hr
      split at he
      · rename_i es hes
        injection he with e1 e2 e3 e4
        subst e1 e2 e3 e4
        unfold arrOf at ha
        split at ha
        · rename_i n e hu
          simp only [Bool.and_eq_true, beq_iff_eq] at ha
          obtain ⟨⟨⟨hn, hsz⟩, hz⟩, hzl⟩ := ha
          obtain ⟨i, z, hi, hzz, hzs, _⟩ := zeroIs_spec hz
          obtain ⟨hl, _⟩ := zerosAre_spec (w := w) (lo := lo) (L := L) (ok := okL ok0 lo L) (lk := lk) hzs
          have hzc : z.cells.toList.length = parts.length * 1 := by rw [hl, List.length_map, hzl, Nat.mul_one]
          obtain ⟨news, h1, hnw, h2, h3, h4, h5, h6⟩ := seq_spec h 1 parts ps.toList 0 rows [] z.cells.toList hsq hr rfl hzc
          unfold Program.sizeIs at hsz
          cases hie : P.info? e with
          | none => rw [hie] at hsz; cases hsz
          | some ie =>
            have hs1 : ie.size = 1 := by simpa [hie] using hsz
            have hbuilt : P.built t (ps.toList.map fun (i, x) => (i, a.eval x)) = some news.toArray := by
              unfold Program.built
              simp only [hi, hu, hzz, hie, hs1]
              simpa using h1
            have hrun := run_build (P := P) w t (ps.map fun (i, x) => (i, a.eval x)) news.toArray (by simpa using hbuilt)
            have hrows := ivss_spec hes
            have hc1 : ∀ c ∈ es, c.length = 1 := fun c hc => by
              have := h5 (c.map AV.iv) (by rw [hrows]; exact List.mem_map.2 ⟨c, hc, rfl⟩)
              simpa using this
            obtain ⟨f1, f2⟩ := flat1 hc1
            have hel : es.length = parts.length := by rw [← h4, hrows, List.length_map]
            refine ⟨trivial, Done.pure h (u := .agg news.toArray) (by simp only [execOp, ho, Sem.run_bind, hrun, Result.andThen_ok, Sem.run_pure]) (.iv _ _ (.agg _ news (by rw [h2, f1, hel, Nat.mul_one]) h3 fun k x u hx hu => ?_))⟩
            obtain ⟨c, hc, hcx⟩ := f2 k x hx
            exact inv_iv (h6 k 0 (c.map AV.iv) (.iv x) u (by rw [hrows]; simp [hc]) (by simp [hcx]) (by simpa using hu))
        · cases ha
      · cases he
    · cases he
  · cases hf

theorem done_ixg {len : Nat} {x i : Opd} (h : Rel ok0 N w0 lk lo a w L) (hf : YOp.fits P (.ixg len x i) o.op = true) (he : evY lk lo (.ixg len x i) = .ok s f v up) (hs : s) : f ∧ Done P o ok0 N w0 lk lo a w v up := by
  simp only [YOp.fits] at hf
  split at hf
  · rename_i t x' i' ho
    simp only [Bool.and_eq_true] at hf
    obtain ⟨⟨hx, hi⟩, ht⟩ := hf
    have rx := Opd.rep h hx
    have ri := Opd.rep h hi
    simp only [evY] at he
    split at he
    · rename_i xs kk n hxv hiv
      split at he
      · rename_i c hc
        injection he with e1 e2 e3 e4
        subst e1 e2 e3 e4
        rw [hxv] at rx
        rw [hiv] at ri
        have hei := inv_int ri
        have rx := inv_iv rx
        generalize hey : a.eval x' = xv at rx
        cases rx with
        | agg _ vs hl h1 hxx =>
          unfold arrSize1 at ht
          split at ht
          · rename_i m e hu
            simp only [Bool.and_eq_true, beq_iff_eq] at ht
            obtain ⟨⟨rfl, hsz⟩, hag⟩ := ht
            unfold Program.sizeIs at hsz
            cases hie : P.info? e with
            | none => rw [hie] at hsz; cases hsz
            | some ie =>
              have hs1 : ie.size = 1 := by simpa [hie] using hsz
              have hlt : n.toNat < vs.length := by rw [hl]; exact (List.getElem?_eq_some_iff.1 hc).1
              have hag' : (isAgg e).run P w = .ok false w := by
                unfold Program.agg at hag
                cases hue : P.underlying e with
                | none => rw [hue] at hag; cases hag
                | some d => cases d <;> simp [hue] at hag <;> simp [isAgg, run_underlying hue]
              refine ⟨trivial, Done.pure h (u := vs[n.toNat]) ?_ (.iv _ _ (hxx n.toNat c _ hc (List.getElem?_eq_getElem hlt)))⟩
              have hcond : 0 ≤ n ∧ n < (m : Int) := hs
              simp [execOp, ho, hey, hei, Instr.index, asIntOf, run_underlying hu, hcond, part, hag', sizeOf, typeInfo, hie, hs1, hlt]
          · cases ht
      · cases he
    · cases he
  · cases hf

theorem done_mks {id : Nat} {e : TypeId} {bytes : Nat} {zs : List Opd} {n : Opd} (h : Rel ok0 N w0 lk lo a w L) (hf : YOp.fits P (.mks id e bytes zs n) o.op = true) (he : evY lk lo (.mks id e bytes zs n) = .ok s f v up) (hs : s) : f ∧ Done P o ok0 N w0 lk lo a w v up := by
  simp only [YOp.fits] at hf
  split at hf
  · rename_i t l c ho
    simp only [Bool.and_eq_true] at hf
    obtain ⟨⟨⟨⟨hl, hc⟩, ht⟩, hz⟩, hb⟩ := hf
    have rl := Opd.rep h hl
    have rc := Opd.rep h hc
    simp only [evY] at he
    split at he
    · rename_i k m hnv hid
      injection he with e1 e2 e3 e4
      subst e1 e2 e3 e4
      rw [hnv] at rl rc
      have hel := inv_int rl
      have hec := inv_int rc
      obtain ⟨hm0, hby, hm63, hzp⟩ := hs
      split at ht
      · rename_i e' hu
        simp only [beq_iff_eq] at ht
        subst ht
        obtain ⟨i, z, hi, hzz, hzs, hsize⟩ := zeroIs_spec hz
        rw [hi] at hb
        simp only [beq_iff_eq] at hb
        subst hb
        obtain ⟨hzl, hzx⟩ := zerosAre_spec (w := w) (lo := lo) (L := L) (ok := okL ok0 lo L) (lk := lk) hzs
        have hzl' : z.cells.size = zs.length := by simpa using hzl
        have hrun := run_make (P := P) w t e' i z hu hi hzz k k m m hm0 (Int.le_refl _) (by omega) hm63
        rw [hsize] at hrun
        have hzc : ∀ j, j < m.toNat * zs.length → (madeCells z.cells (m.toNat * zs.length)).toList[j]? = z.cells.toList[j % zs.length]? := by
          intro j hj
          have hlt : j % zs.length < z.cells.size := by rw [hzl']; exact Nat.mod_lt _ hzp
          simp [madeCells, hj, hzl', Nat.mod_lt _ hzp, getElem!_pos, hlt]
        have hone : ∀ u ∈ z.cells.toList, u.oneCell' = true := by
          intro u hu
          obtain ⟨k, hk, rfl⟩ := List.getElem_of_mem hu
          have hk2 : k < (zs.map (·.av lk)).length := by omega
          exact (hzx k _ _ (List.getElem?_eq_getElem hk2) (List.getElem?_eq_getElem hk)).2
        have hbel := below_alloc w (.cells (madeCells z.cells (m.toNat * zs.length)) e')
        have hok : ∀ b, okL ok0 lo L b → b < w.heap.size → okL ok0 (setO lo id (.arr e' zs.length (List.replicate m.toNat (zs.map (·.av lk))) 0)) (setL L id (.arr (.slice (some ⟨w.heap.size, 0, none⟩) m.toNat m.toNat) (madeCells z.cells (m.toNat * zs.length)).toList)) b := by
          intro b hb hlt
          refine ⟨hb.1, fun i o' hi he => ?_⟩
          by_cases hii : i = id
          · subst hii
            simp only [setL, if_true, Lay.has, Value.ownBlock, Option.some.injEq] at he
            omega
          · simp only [setO, hii, if_false] at hi
            simp only [setL, hii, if_false] at he
            exact hb.2 i o' hi he
        refine ⟨trivial, _, .slice (some ⟨w.heap.size, 0, none⟩) m.toNat m.toNat, w.alloc (.cells (madeCells z.cells (m.toNat * zs.length)) e'), setL L id (.arr (.slice (some ⟨w.heap.size, 0, none⟩) m.toNat m.toNat) (madeCells z.cells (m.toNat * zs.length)).toList), by simp [execOp, ho, hel, hec, hrun], .inl rfl, ?_, ?_⟩
        · refine h.new id hid _ _ hbel (fun b hb => by simp only [Lay.has, Value.ownBlock, Option.some.injEq] at hb; omega) ?_
          refine ⟨⟨⟨by simp [size_madeCells], .inr ⟨w.heap.size, m.toNat, madeCells z.cells (m.toNat * zs.length), by simp, Nat.zero_le _, heap_alloc_new w _, by simp, by simp only [maxLen]; omega, by simp [size_madeCells], ?_⟩⟩, fun b hb => by simp only [Value.ownBlock, Option.some.injEq] at hb; exact h.frlt (by omega)⟩, Nat.zero_le _, fun c hc => ?_, fun u hu => ?_, fun i2 j c x u h2 h3 h4 => ?_⟩
          · rw [List.length_replicate, List.take_of_length_le]
            simp [size_madeCells]
          · rw [List.eq_of_mem_replicate hc, List.length_map]
          · obtain ⟨j, hj, rfl⟩ := List.getElem_of_mem hu
            have hj' : j < m.toNat * zs.length := by simpa [size_madeCells] using hj
            have := hzc j hj'
            rw [List.getElem?_eq_getElem hj] at this
            exact hone _ (List.mem_of_getElem? this.symm)
          · rw [List.getElem?_replicate] at h2
            split at h2
            · rename_i hi2
              injection h2 with h2
              subst h2
              have hjl : j < zs.length := by have := (List.getElem?_eq_some_iff.1 h3).1; simpa using this
              have hjj := idx_lt hi2 hjl
              rw [hzc _ hjj] at h4
              have hmod : (i2 * zs.length + j) % zs.length = j := by rw [Nat.add_comm, Nat.add_mul_mod_self_right, Nat.mod_eq_of_lt hjl]
              rw [hmod] at h4
              refine ((hzx j x u h3 h4).1).ext hok hbel.block fun i o' hi => ?_
              have : i ≠ id := by intro e; subst e; rw [hid] at hi; cases hi
              simp [setO, setL, this, hi]
            · cases h2
        · have := RepA.aref (ok := okL ok0 (upO lo (some (id, .arr e' zs.length (List.replicate m.toNat (zs.map (·.av lk))) 0))) (setL L id (.arr (.slice (some ⟨w.heap.size, 0, none⟩) m.toNat m.toNat) (madeCells z.cells (m.toNat * zs.length)).toList))) (w := w.alloc (.cells (madeCells z.cells (m.toNat * zs.length)) e')) (lo := upO lo (some (id, .arr e' zs.length (List.replicate m.toNat (zs.map (·.av lk))) 0))) (L := setL L id (.arr (.slice (some ⟨w.heap.size, 0, none⟩) m.toNat m.toNat) (madeCells z.cells (m.toNat * zs.length)).toList)) id e' zs.length (List.replicate m.toNat (zs.map (·.av lk))) 0 (.slice (some ⟨w.heap.size, 0, none⟩) m.toNat m.toNat) (madeCells z.cells (m.toNat * zs.length)).toList (by simp [upO, setO]) (by simp [setL]) rfl
          rwa [List.length_replicate] at this
      · cases ht
    · cases he
  · cases hf

theorem runesOf_spec : ∀ {es : List (List IV)} {ns : List Int}, runesOf es = some ns → es = ns.map fun n => [.int .i32 n]
  | [], ns, h => by simp [runesOf] at h; subst h; rfl
  | c :: r, ns, h => by
    unfold runesOf at h
    split at h
    · rename_i heq; cases heq
    · rename_i n r' heq
      injection heq with h1 h2
      subst h1 h2
      rw [Option.map_eq_some_iff] at h
      obtain ⟨ms, h3, rfl⟩ := h
      simp [runesOf_spec h3]
    · cases h

theorem runesBytes_ascii (ns : List Int) (h : ∀ n ∈ ns, 0 ≤ n ∧ n < 128) : runesBytes ns = ⟨(bytesV ns).toArray⟩ := by
  have : ∀ (ns : List Int), (∀ n ∈ ns, 0 ≤ n ∧ n < 128) → ∀ s : ByteArray, ns.foldl (fun r n => r ++ Utf8.encode n) s = s ++ ⟨(bytesV ns).toArray⟩ := by
    intro ns
    induction ns with
    | nil =>
      intro _ s
      simp only [List.foldl_nil, bytesV, List.map_nil]
      exact (ByteArray.append_empty).symm
    | cons n r ih =>
      intro h s
      rw [List.foldl_cons, ih (fun n hn => h n (List.mem_cons_of_mem _ hn))]
      have hn := h n (by simp)
      have he : Utf8.encode n = ⟨#[UInt8.ofNat n.toNat]⟩ := by
        have hv : Utf8.valid n = true := by
          unfold Utf8.valid
          simp
          omega
        unfold Utf8.encode
        simp only [hv, if_true]
        rw [if_pos (by omega)]
      rw [he]
      apply ByteArray.ext
      simp [bytesV]
  unfold runesBytes
  rw [this ns h]
  apply ByteArray.ext
  simp

theorem done_r2s {x : Opd} (h : Rel ok0 N w0 lk lo a w L) (hf : YOp.fits P (.r2s x) o.op = true) (he : evY lk lo (.r2s x) = .ok s f v up) (hs : s) : f ∧ Done P o ok0 N w0 lk lo a w v up := by
  simp only [YOp.fits] at hf
  split at hf
  · rename_i sT dT y ho
    simp only [Bool.and_eq_true] at hf
    obtain ⟨⟨hx, hd⟩, hsrc⟩ := hf
    have rx := Opd.rep h hx
    simp only [evY] at he
    split at he
    · rename_i es hxv
      split at he
      · rename_i ns hns
        injection he with e1 e2 e3 e4
        subst e1 e2 e3 e4
        rw [hxv] at rx
        have rx := inv_iv rx
        have hes := runesOf_spec hns
        unfold isString at hd
        split at hd
        · rename_i hud
          split at hsrc
          · rename_i e hus
            have hue : P.underlying e = some (.int .i32) := by
              simp only [beq_iff_eq] at hsrc
              unfold isInt at hsrc
              split at hsrc
              · rename_i k hk; injection hsrc with hsrc; rw [hk, hsrc]
              · cases hsrc
            generalize hey : a.eval y = yv at rx
            have hb := runesBytes_ascii ns hs
            have fin : (convert sT dT yv).run P w = .ok (.string (runesBytes ns)) w → True ∧ Done P o ok0 N w0 lk lo a w (.iv (.str (bytesV ns))) none := fun hrun =>
              ⟨trivial, Done.pure h (u := .string ⟨(bytesV ns).toArray⟩) (by rw [← hb]; simp [execOp, ho, hey, hrun]) (rep_str _)⟩
            cases rx with
            | nils =>
              have : ns = [] := by simpa using hes.symm
              subst this
              exact fin (run_convert_runes_nil w sT dT e 0 0 hus hue hud)
            | nilz _ ad =>
              have : ns = [] := by simpa using hes.symm
              subst this
              refine fin ?_
              rw [run_convert_runes_string w sT dT e _ _ _ hus hue hud]
              exact run_runesToString w ad 0 0 [] (run_loadCells_list (P := P) w ad [] (by simp))
            | sl _ _ b off cap u hl hc hsz hu hxx =>
              refine fin ?_
              rw [run_convert_runes_string w sT dT e _ _ _ hus hue hud]
              have hnl : ns.length = es.length := by rw [hes, List.length_map]
              rw [← hnl]
              refine run_runesToString w _ ns.length cap ns ?_
              have := run_loadCells_list (P := P) w ⟨b, off, none⟩ (ns.map (Value.int .i32)) (fun j v hv => by
                rw [List.getElem?_map, Option.map_eq_some_iff] at hv
                obtain ⟨m, hm, rfl⟩ := hv
                have hj : j < es.length := by rw [← hnl]; exact (List.getElem?_eq_some_iff.1 hm).1
                obtain ⟨_, h2, _⟩ := hu j (by omega)
                have h3 := hxx j 0 [.int .i32 m] (.int .i32 m) (by rw [hes]; simp [hm]) rfl
                rw [addr_add, h2]
                simp only [Nat.mul_one, Nat.add_zero] at h3
                generalize u j = uj at h3
                cases h3
                rfl)
              rwa [List.length_map] at this
          · cases hsrc
        · cases hd
      · cases he
    · cases he
  · cases hf

theorem done_rngm {id : Nat} {x : Opd} (h : Rel ok0 N w0 lk lo a w L) (hf : YOp.fits P (.rngm id x) o.op = true) (he : evY lk lo (.rngm id x) = .ok s f v up) : f ∧ Done P o ok0 N w0 lk lo a w v up := by
  simp only [YOp.fits] at hf
  split at hf
  · rename_i t y ho
    simp only [Bool.and_eq_true] at hf
    obtain ⟨hx, hst⟩ := hf
    have rx := Opd.rep h hx
    simp only [evY] at he
    split at he
    · rename_i kvs hxv hid
      injection he with e1 e2 e3 e4
      subst e1 e2 e3 e4
      rw [hxv] at rx
      have rx := inv_iv rx
      split at hst
      · rename_i kt et hu
        generalize hey : a.eval y = yv at rx
        cases rx with
        | mapn =>
          have hrun : (Instr.range t (.map none)).run P w = .ok (.pointer (some ⟨w.heap.size, 0, none⟩)) (w.alloc (.mapIter none 0 #[] 0)) := by
            simp [Instr.range, run_underlying hu]
          refine ⟨trivial, _, .pointer (some ⟨w.heap.size, 0, none⟩), _, _, by simp [execOp, ho, hey, hrun], .inl rfl, h.newOne hid (below_alloc w _) rfl (fun ok lo' L' hF _ => ⟨hF, none, 0, #[], heap_alloc_new w _, rfl⟩), ?_⟩
          exact .oref id _ (.miter [] []) (by simp [upO, setO]) rfl (by simp [setL])
        | map _ r es clock hok hr hmr hdd hxx =>
          have hrun : (Instr.range t (.map (some r))).run P w = .ok (.pointer (some ⟨w.heap.size, 0, none⟩)) (w.alloc (.mapIter (some r) clock #[] clock)) := by
            simp [Instr.range, run_underlying hu, MapKept.run_getObj_map hr]
          have hlt := (Array.getElem?_eq_some_iff.1 hr).1
          have hold : ∀ b, b < w.heap.size → (w.alloc (.mapIter (some r) clock #[] clock)).heap[b]? = w.heap[b]? := (below_alloc w _).block
          refine ⟨trivial, _, .pointer (some ⟨w.heap.size, 0, none⟩), _, _, by simp [execOp, ho, hey, hrun], .inl rfl, h.newOne hid (below_alloc w _) rfl (fun ok lo' L' hF hokk => ⟨hF, some r, clock, #[], heap_alloc_new w _, es, hokk r hok hlt, (hold r hlt).trans hr, hmr, fun i e p h1 h2 => (hxx i e p h1 h2).mono fun b hb hlt => ⟨hokk b hb hlt, hold b hlt⟩, rfl, by simp⟩), ?_⟩
          exact .oref id _ (.miter kvs []) (by simp [upO, setO]) rfl (by simp [setL])
      · cases hst
    · cases he
  · cases hf

theorem born_nodup {n : Nat} {es : Array MapEntry} {clock : Nat} {key : Nat → Option MK} (h : MapRep n es clock key) : (es.toList.map (·.born)).Nodup := by
  rw [List.nodup_iff_pairwise_ne, List.pairwise_iff_getElem]
  intro i j hi hj hij he
  simp only [List.length_map, Array.length_toList] at hi hj
  simp only [List.getElem_map, Array.getElem_toList] at he
  have := h.apart i j es[i] es[j] (Array.getElem?_eq_getElem hi) (Array.getElem?_eq_getElem hj) he
  omega

theorem rep_key (ok : Nat → Prop) (w : World) (k : MK) : RepI ok w k.iv k.val := by
  cases k with
  | int k n => exact .int k n
  | str s => exact .str s

theorem done_ent {id : Nat} {x : Opd} (h : Rel ok0 N w0 lk lo a w L) (hf : YOp.fits P (.ent id x) o.op = true) (he : evY lk lo (.ent id x) = .ok s f v up) : f ∧ Done P o ok0 N w0 lk lo a w v up := by
  simp only [YOp.fits] at hf
  split at hf
  · rename_i y ho
    have rx := Opd.rep h hf
    simp only [evY] at he
    split at he
    · rename_i j kvs i seen hxv hid
      split at he
      · rename_i hji
        subst hji
        split at he
        · rename_i p hp
          injection he with e1 e2 e3 e4
          subst e1 e2 e3 e4
          rw [hxv] at rx
          obtain ⟨_, b, hL, hv⟩ := refs_miter hid (refs_oref j) rx
          have hob := h.objs _ _ hid
          rw [hL] at hob
          obtain ⟨hF, r, since, sn, hb, hit⟩ := hob
          cases r with
          | none => have : kvs = [] := hit
                    subst this
                    simp at hp
          | some r =>
            obtain ⟨es, h1, h2, h3, h4, h5, h6⟩ := hit
            obtain ⟨e, he1, he2⟩ := h6 seen.length i (by simp)
            have hsn : ∃ s' : Array Nat, sn = s'.push e.born := by
              refine ⟨sn.pop, ?_⟩
              apply Array.ext
              · simp [h5]
              · intro k hk1 hk2
                rw [Array.getElem_push]
                split
                · simp
                · rename_i hlt
                  simp [h5] at hlt hk1
                  have hk : k = seen.length := by omega
                  subst hk
                  exact (Array.getElem?_eq_some_iff.1 he2).2
            obtain ⟨s', hs'⟩ := hsn
            subst hs'
            have hrun := run_entry_at (P := P) w b r since s' es since e hb h2 (List.mem_of_getElem? (by simpa using he1)) (born_nodup h3)
            refine ⟨trivial, Done.pure h (u := .tuple #[e.key, e.val]) (by simp [execOp, ho, hv, hrun]) (.iv _ _ (.tup _ [_, _] rfl fun k x u hk hu => ?_))⟩
            obtain ⟨k', hk1, hk2⟩ := h3.keys i e he1
            rw [hp] at hk1
            injection hk1 with hk1
            match k with
            | 0 => simp at hk hu; subst hk hu; rw [hk2, ← hk1]; exact rep_key _ _ _
            | 1 => simp at hk hu; subst hk hu; exact h4 i e p he1 hp
            | k + 2 => simp at hk
        · cases he
      · cases he
    · cases he
  · cases hf

theorem done_yy {op : YOp} (h : Rel ok0 N w0 lk lo a w L) (hf : YOp.fits P op o.op = true) (he : evY lk lo op = .ok s f v up) (hs : s) : f ∧ Done P o ok0 N w0 lk lo a w v up := by
  cases op with
  | no => cases he
  | s2b id x => exact done_s2b h hf he hs
  | b2so id x => exact done_b2so h hf he
  | ixb id x i => exact done_ixb h hf he hs
  | ldb id x => exact done_ldb h hf he hs
  | stb id x y => exact done_stb h hf he hs
  | mks id e b zs n => exact done_mks h hf he hs
  | r2s x => exact done_r2s h hf he hs
  | mx mn x y => exact done_mx h hf he
  | rngs id x => exact done_rngs h hf he
  | nxts id x => exact done_nxts h hf he
  | mkm id r => exact done_mkm h hf he
  | lki kk z x k => exact done_lki h hf he hs
  | lkd id kk z x k => exact done_lkd h hf he hs
  | lkr id kk x k => exact done_lkr h hf he hs
  | mupd id kk x k y => exact done_mupd h hf he hs
  | mupr id kk x k y => exact done_mupr h hf he hs
  | bla zs ps => exact done_bla h hf he
  | ixg len x i => exact done_ixg h hf he hs
  | rngm id x => exact done_rngm h hf he
  | ent id x => exact done_ent h hf he
end
end Go.Ev

/- Every operation of the evaluator does what the translation's operation does; which slots and objects an operation looks at. -/
namespace Go.Ev
open Go Go.RowKit

section
variable {P : Program} {ok0 : Nat → Prop} {N : Nat} {w0 : Base} {lk : Nat → AV} {lo : Nat → Option AO} {a : Act} {w : World} {L : Nat → Lay} {o : Oper}
variable {s f : Prop} {v : AV} {up : Option (Nat × AO)}

theorem op_sound {op : AOp} (h : Rel ok0 N w0 lk lo a w L) (hok0 : ∀ b, ¬ w0.fr b → ok0 b) (hf : op.fits P o.op = true)
    (he : ev lk lo op = .ok s f v up) (hs : s) : f ∧ Done P o ok0 N w0 lk lo a w v up := by
  cases op with
  | mov x =>
    simp only [ev] at he
    injection he with e1 e2 e3 e4
    subst e2 e3 e4
    exact ⟨trivial, done_mov h hf⟩
  | nilo id e sz =>
    simp only [ev] at he
    split at he
    · rename_i hid
      injection he with e1 e2 e3 e4
      subst e2 e3 e4
      exact ⟨trivial, done_nilo h hid hf⟩
    · cases he
  | pick c x y => exact done_pick h hf he
  | ext x i => exact done_ext h hf he
  | not x => exact done_not h hf he
  | bin op x y => exact done_bin h hf he hs
  | beq n x y => exact done_beq h hf he
  | cvi k x => exact done_cvi h hf he
  | cvs x => exact done_cvs h hf he
  | b2s x => exact done_b2s h hf he hs
  | i2s x => exact done_i2s h hf he hs
  | nilc x => exact done_nilc h hf he
  | fld off x => exact done_fld h hf he hs
  | ldi n ag x => exact done_ldi h hf he hs
  | ldo id n ag x => exact done_ldo h hf he hs
  | sto id n x y => exact done_sto h hf he hs
  | ixi sz x i => exact done_ixi h hf he hs
  | ixo id sz x i => exact done_ixo h hf he hs
  | ixs x i => exact done_ixs h hf he hs
  | sli sz x l h' => exact done_sli h hf he hs
  | sls x l h' => exact done_sls h hf he hs
  | boxi x => exact done_boxi h hok0 hf he
  | boxo id x => exact done_boxo h hf he
  | alo id zs =>
    simp only [ev] at he
    split at he
    · rename_i hid
      injection he with e1 e2 e3 e4
      subst e2 e3 e4
      exact ⟨trivial, done_alo h hid hf⟩
    · cases he
  | bld zs parts =>
    simp only [ev] at he
    split at he
    · rename_i cs hcs
      injection he with e1 e2 e3 e4
      subst e2 e3 e4
      exact ⟨trivial, done_bld h hf hcs⟩
    · cases he
  | bsl sz parts =>
    simp only [ev] at he
    split at he
    · rename_i rows hr
      split at he
      · rename_i es hes
        injection he with e1 e2 e3 e4
        subst e2 e3 e4
        exact ⟨trivial, done_bsl h hok0 hf hr hes⟩
      · cases he
    · cases he
  | bso id e sz parts =>
    simp only [ev] at he
    split at he
    · rename_i rows hid hr
      injection he with e1 e2 e3 e4
      subst e2 e3 e4
      exact ⟨trivial, done_bso h hid hf hr⟩
    · cases he
  | len x => exact done_len h hf he
  | leno id x => exact done_leno h hf he hs
  | lst x => exact done_lst h hf he
  | app id e sz bytes x y => exact done_app h hok0 hf he hs
  | call g args ids => cases he
  | callo g args ids id => cases he
  | calld x args ids => cases he
  | callr g x args id => cases he
  | yy op => exact done_yy h hf he hs
end

/-! ### What an operation looks at -/

def Opd.tmps : Opd → List Nat
  | .t n => [n]
  | _ => []

def optT : Option Opd → List Nat
  | some x => x.tmps
  | none => []

def YOp.tmps : YOp → List Nat
  | .no | .mkm _ _ => []
  | .s2b _ x | .b2so _ x | .ldb _ x | .r2s x | .rngs _ x | .nxts _ x | .rngm _ x | .ent _ x => x.tmps
  | .ixb _ x y | .stb _ x y | .mx _ x y | .lkr _ _ x y | .ixg _ x y => x.tmps ++ y.tmps
  | .mks _ _ _ zs n => zs.flatMap (·.tmps) ++ n.tmps
  | .lki _ z x k | .lkd _ _ z x k => z.tmps ++ x.tmps ++ k.tmps
  | .mupd _ _ x k v | .mupr _ _ x k v => x.tmps ++ k.tmps ++ v.tmps
  | .bla _ parts => parts.flatMap (·.tmps)
def YOp.objs : YOp → List Nat
  | .s2b id _ | .b2so id _ | .ixb id _ _ | .ldb id _ | .stb id _ _ | .mks id _ _ _ _ | .rngs id _ | .nxts id _ | .mkm id _ | .lkd id _ _ _ _ | .lkr id _ _ _ | .mupd id _ _ _ _ | .mupr id _ _ _ _ | .rngm id _ | .ent id _ => [id]
  | _ => []
def YOp.sets : YOp → List Nat
  | .s2b id _ | .stb id _ _ | .mks id _ _ _ _ | .rngs id _ | .nxts id _ | .mkm id _ | .mupd id _ _ _ _ | .mupr id _ _ _ _ | .rngm id _ => [id]
  | _ => []

def AOp.tmps : AOp → List Nat
  | .mov x | .ext x _ | .not x | .cvi _ x | .cvs x | .b2s x | .i2s x | .nilc x | .fld _ x | .ldi _ _ x | .ldo _ _ _ x | .boxi x | .boxo _ x | .len x | .leno _ x | .lst x => x.tmps
  | .nilo _ _ _ => []
  | .pick c x y => c.tmps ++ x.tmps ++ y.tmps
  | .bin _ x y | .beq _ x y | .sto _ _ x y | .ixi _ x y | .ixo _ _ x y | .ixs x y | .app _ _ _ _ x y => x.tmps ++ y.tmps
  | .sli _ x l h | .sls x l h => x.tmps ++ optT l ++ optT h
  | .alo _ zs => zs.flatMap (·.tmps)
  | .bld zs parts => zs.flatMap (·.tmps) ++ parts.flatMap (·.2.2.tmps)
  | .bsl _ parts | .bso _ _ _ parts | .call _ parts _ | .callo _ parts _ _ => parts.flatMap (·.tmps)
  | .calld x parts _ | .callr _ x parts _ => x.tmps ++ parts.flatMap (·.tmps)
  | .yy op => op.tmps

/-- The objects that it looks at, or sets. -/
def AOp.objs : AOp → List Nat
  | .nilo id _ _ | .ldo id _ _ _ | .sto id _ _ _ | .ixo id _ _ _ | .boxo id _ | .alo id _ | .bso id _ _ _ | .leno id _ | .app id _ _ _ _ _ => [id]
  | .call _ _ ids => ids
  | .callo _ _ ids id => id :: ids
  | .calld _ _ ids => ids
  | .callr _ _ _ id => [id]
  | .yy op => op.objs
  | _ => []

/-- The objects that it sets. -/
def AOp.sets : AOp → List Nat
  | .nilo id _ _ | .sto id _ _ _ | .boxo id _ | .alo id _ | .bso id _ _ _ | .app id _ _ _ _ _ | .callo _ _ _ id | .callr _ _ _ id => [id]
  | .yy op => op.sets
  | _ => []

theorem Opd.av_congr {lk lk' : Nat → AV} {x : Opd} (h : ∀ t ∈ x.tmps, lk' t = lk t) : x.av lk' = x.av lk := by
  cases x <;> first | rfl | exact h _ (by simp [Opd.tmps])

theorem optNat_congr {lk lk' : Nat → AV} {d : Nat} {x : Option Opd} (h : ∀ t ∈ optT x, lk' t = lk t) : optNat lk' d x = optNat lk d x := by
  cases x with
  | none => rfl
  | some x => simp only [optNat, Opd.av_congr (x := x) h]

theorem map_av_congr {lk lk' : Nat → AV} : ∀ {xs : List Opd}, (∀ t ∈ xs.flatMap (·.tmps), lk' t = lk t) → xs.map (·.av lk') = xs.map (·.av lk)
  | [], _ => rfl
  | x :: r, h => by
    simp only [List.flatMap_cons, List.mem_append] at h
    simp only [List.map_cons, Opd.av_congr (x := x) (fun t ht => h t (.inl ht)), map_av_congr (xs := r) (fun t ht => h t (.inr ht))]

theorem parts_congr {lk lk' : Nat → AV} : ∀ {xs : List (Nat × Nat × Opd)}, (∀ t ∈ xs.flatMap (·.2.2.tmps), lk' t = lk t) →
    (xs.map fun (o, s, x) => (o, s, x.av lk')) = xs.map fun (o, s, x) => (o, s, x.av lk)
  | [], _ => rfl
  | (o, s, x) :: r, h => by
    simp only [List.flatMap_cons, List.mem_append] at h
    simp only [List.map_cons, Opd.av_congr (x := x) (fun t ht => h t (.inl ht)), parts_congr (xs := r) (fun t ht => h t (.inr ht))]

theorem evY_congr {lk lk' : Nat → AV} {lo lo' : Nat → Option AO} {op : YOp} (h : ∀ t ∈ op.tmps, lk' t = lk t) (h' : ∀ i ∈ op.objs, lo' i = lo i) : evY lk' lo' op = evY lk lo op := by
  have one : ∀ x : Opd, (∀ t ∈ x.tmps, t ∈ op.tmps) → x.av lk' = x.av lk := fun x hx => Opd.av_congr fun t ht => h t (hx t ht)
  have lst : ∀ xs : List Opd, (∀ t ∈ xs.flatMap (·.tmps), t ∈ op.tmps) → xs.map (·.av lk') = xs.map (·.av lk) := fun xs hx => map_av_congr fun t ht => h t (hx t ht)
  have obj : ∀ i ∈ op.objs, lo' i = lo i := h'
  cases op with
  | no => rfl
  | s2b id x => simp only [evY, one x (by simp [YOp.tmps]), obj id (by simp [YOp.objs])]
  | b2so id x => simp only [evY, one x (by simp [YOp.tmps]), obj id (by simp [YOp.objs])]
  | ldb id x => simp only [evY, one x (by simp [YOp.tmps]), obj id (by simp [YOp.objs])]
  | r2s x => simp only [evY, one x (by simp [YOp.tmps])]
  | rngs id x => simp only [evY, one x (by simp [YOp.tmps]), obj id (by simp [YOp.objs])]
  | nxts id x => simp only [evY, one x (by simp [YOp.tmps]), obj id (by simp [YOp.objs])]
  | rngm id x => simp only [evY, one x (by simp [YOp.tmps]), obj id (by simp [YOp.objs])]
  | ent id x => simp only [evY, one x (by simp [YOp.tmps]), obj id (by simp [YOp.objs])]
  | ixb id x y => simp only [evY, one x (by simp +contextual [YOp.tmps]), one y (by simp +contextual [YOp.tmps]), obj id (by simp [YOp.objs])]
  | stb id x y => simp only [evY, one x (by simp +contextual [YOp.tmps]), one y (by simp +contextual [YOp.tmps]), obj id (by simp [YOp.objs])]
  | mx mn x y => simp only [evY, one x (by simp +contextual [YOp.tmps]), one y (by simp +contextual [YOp.tmps])]
  | ixg len x y => simp only [evY, one x (by simp +contextual [YOp.tmps]), one y (by simp +contextual [YOp.tmps])]
  | lkr id kk x y => simp only [evY, one x (by simp +contextual [YOp.tmps]), one y (by simp +contextual [YOp.tmps]), obj id (by simp [YOp.objs])]
  | mks id e b zs n => simp only [evY, lst zs (by simp +contextual [YOp.tmps]), one n (by simp +contextual [YOp.tmps]), obj id (by simp [YOp.objs])]
  | mkm id r => simp only [evY, obj id (by simp [YOp.objs])]
  | lki kk z x k => simp only [evY, one z (by simp +contextual [YOp.tmps]), one x (by simp +contextual [YOp.tmps]), one k (by simp +contextual [YOp.tmps])]
  | lkd id kk z x k => simp only [evY, one z (by simp +contextual [YOp.tmps]), one x (by simp +contextual [YOp.tmps]), one k (by simp +contextual [YOp.tmps]), obj id (by simp [YOp.objs])]
  | mupd id kk x k v => simp only [evY, one v (by simp +contextual [YOp.tmps]), one x (by simp +contextual [YOp.tmps]), one k (by simp +contextual [YOp.tmps]), obj id (by simp [YOp.objs])]
  | mupr id kk x k v => simp only [evY, one v (by simp +contextual [YOp.tmps]), one x (by simp +contextual [YOp.tmps]), one k (by simp +contextual [YOp.tmps]), obj id (by simp [YOp.objs])]
  | bla zs parts => simp only [evY, lst parts (by simp [YOp.tmps])]

theorem ev_congr {lk lk' : Nat → AV} {lo lo' : Nat → Option AO} {op : AOp} (h : ∀ t ∈ op.tmps, lk' t = lk t) (h' : ∀ i ∈ op.objs, lo' i = lo i) : ev lk' lo' op = ev lk lo op := by
  have one : ∀ x : Opd, (∀ t ∈ x.tmps, t ∈ op.tmps) → x.av lk' = x.av lk := fun x hx => Opd.av_congr fun t ht => h t (hx t ht)
  have opt : ∀ (d : Nat) (x : Option Opd), (∀ t ∈ optT x, t ∈ op.tmps) → optNat lk' d x = optNat lk d x := fun d x hx => optNat_congr fun t ht => h t (hx t ht)
  have lst : ∀ xs : List Opd, (∀ t ∈ xs.flatMap (·.tmps), t ∈ op.tmps) → xs.map (·.av lk') = xs.map (·.av lk) := fun xs hx => map_av_congr fun t ht => h t (hx t ht)
  have obj : ∀ i ∈ op.objs, lo' i = lo i := h'
  cases op with
  | mov x => simp only [ev, one x (by simp [AOp.tmps])]
  | nilo id e sz => simp only [ev, obj id (by simp [AOp.objs])]
  | pick c x y => simp only [ev, one c (by simp +contextual [AOp.tmps]), one x (by simp +contextual [AOp.tmps]), one y (by simp +contextual [AOp.tmps])]
  | ext x i => simp only [ev, one x (by simp [AOp.tmps])]
  | not x => simp only [ev, one x (by simp [AOp.tmps])]
  | bin o x y => simp only [ev, one x (by simp +contextual [AOp.tmps]), one y (by simp +contextual [AOp.tmps])]
  | beq n x y => simp only [ev, one x (by simp +contextual [AOp.tmps]), one y (by simp +contextual [AOp.tmps])]
  | cvi k x => simp only [ev, one x (by simp [AOp.tmps])]
  | cvs x => simp only [ev, one x (by simp [AOp.tmps])]
  | b2s x => simp only [ev, one x (by simp [AOp.tmps])]
  | i2s x => simp only [ev, one x (by simp [AOp.tmps])]
  | nilc x => simp only [ev, one x (by simp [AOp.tmps])]
  | fld o x => simp only [ev, one x (by simp [AOp.tmps])]
  | ldi n ag x => simp only [ev, one x (by simp [AOp.tmps])]
  | ldo id n ag x => simp only [ev, one x (by simp [AOp.tmps]), evLdo, obj id (by simp [AOp.objs])]
  | sto id n x y => simp only [ev, one x (by simp +contextual [AOp.tmps]), one y (by simp +contextual [AOp.tmps]), evSto, obj id (by simp [AOp.objs])]
  | ixi sz x i => simp only [ev, one x (by simp +contextual [AOp.tmps]), one i (by simp +contextual [AOp.tmps])]
  | ixo id sz x i => simp only [ev, one x (by simp +contextual [AOp.tmps]), one i (by simp +contextual [AOp.tmps]), evIxo, obj id (by simp [AOp.objs])]
  | ixs x i => simp only [ev, one x (by simp +contextual [AOp.tmps]), one i (by simp +contextual [AOp.tmps])]
  | sli sz x l r => simp only [ev, one x (by simp +contextual [AOp.tmps]), evSli, fun d => opt d l (by simp +contextual [AOp.tmps]), fun d => opt d r (by simp +contextual [AOp.tmps])]
  | sls x l r => simp only [ev, one x (by simp +contextual [AOp.tmps]), evSls, fun d => opt d l (by simp +contextual [AOp.tmps]), fun d => opt d r (by simp +contextual [AOp.tmps])]
  | boxi x => simp only [ev, one x (by simp [AOp.tmps])]
  | boxo id x => simp only [ev, one x (by simp [AOp.tmps]), evBoxo, obj id (by simp [AOp.objs])]
  | alo id zs => simp only [ev, lst zs (by simp [AOp.tmps]), obj id (by simp [AOp.objs])]
  | bld zs parts =>
    have hp := parts_congr (lk := lk) (lk' := lk') (xs := parts) fun t ht => h t (by simp only [AOp.tmps, List.mem_append]; exact .inr ht)
    simp only [ev, lst zs (by simp +contextual [AOp.tmps]), hp]
  | bsl sz parts => simp only [ev, lst parts (by simp [AOp.tmps])]
  | bso id e sz parts => simp only [ev, lst parts (by simp [AOp.tmps]), obj id (by simp [AOp.objs])]
  | len x => simp only [ev, one x (by simp [AOp.tmps])]
  | leno id x => simp only [ev, one x (by simp [AOp.tmps]), evLeno, obj id (by simp [AOp.objs])]
  | lst x => simp only [ev, one x (by simp [AOp.tmps])]
  | app id e sz bytes x y => simp only [ev, one x (by simp +contextual [AOp.tmps]), one y (by simp +contextual [AOp.tmps]), evApp, obj id (by simp [AOp.objs])]
  | call f args ids => simp only [ev]
  | callo f args ids id => simp only [ev]
  | calld x args ids => simp only [ev]
  | callr f x args id => simp only [ev]
  | yy op => simp only [ev, evY_congr (op := op) (fun t ht => h t (by simpa [AOp.tmps] using ht)) (fun i hi => h' i (by simpa [AOp.objs] using hi))]

end Go.Ev

/- What a caller may take of a function; a run of a region's operations in the text's order serves every order. -/
namespace Go.Ev
open Go Go.RowKit

/-- The call returns data that reads as 'r', for arguments that read as 'args', and leaves what was there alone. -/
def Good (P : Program) (K : World → Prop) (f : FuncId) (args : List IV) (r : IV) : Prop :=
  ∀ (w : World) (ok : Nat → Prop) (vs : List Value), K w → (∀ b, w.heap.size ≤ b → ok b) → vs.length = args.length →
    (∀ (k : Nat) (x : IV) (u : Value), args[k]? = some x → vs[k]? = some u → RepI ok w x u) →
    Calls P f vs.toArray w (fun e w' => ∃ v, e = .returned v ∧ RepI ok w' r v ∧ Below w.heap.size w w')

mutual
/-- A value with its object numbered anew. -/
def ren (j : Nat) : AV → AV
  | .iv x => .iv x
  | .agg cs => .agg (renL j cs)
  | .loc _ off => .loc j off
  | .eloc _ n i off => .eloc j n i off
  | .aref _ n => .aref j n
  | .mref _ k n => .mref j k n
  | .nilr sz => .nilr sz
  | .oref _ => .oref j
  | .belem _ i => .belem j i
def renL (j : Nat) : List AV → List AV
  | [] => []
  | x :: r => ren j x :: renL j r
end

/-- One object alone, a row of data. -/
def one (ob : AO) : Nat → Option AO := fun i => if i = 0 then some ob else none
def rowO (e : TypeId) (sz : Nat) (rows : List (List IV)) (mv : Nat) : AO := .arr e sz (rows.map (List.map AV.iv)) mv

/-- The call returns a value that leads to one new row of its own, beside data. -/
def GoodO (P : Program) (K : World → Prop) (f : FuncId) (args : List IV) (q : AV) (e : TypeId) (sz : Nat) (rows : List (List IV)) (mv : Nat) : Prop :=
  ∀ (w : World) (ok : Nat → Prop) (vs : List Value), K w → (∀ b, w.heap.size ≤ b → ok b) → vs.length = args.length →
    (∀ (k : Nat) (x : IV) (u : Value), args[k]? = some x → vs[k]? = some u → RepI ok w x u) →
    Calls P f vs.toArray w (fun x w' => ∃ v l, x = .returned v ∧ ObjRep (fun b => b < w.heap.size) (okL ok (one (rowO e sz rows mv)) (fun _ => l)) w' (one (rowO e sz rows mv)) (fun _ => l) (rowO e sz rows mv) l ∧
      RepA (okL ok (one (rowO e sz rows mv)) (fun _ => l)) w' (one (rowO e sz rows mv)) (fun _ => l) (ren 0 q) v ∧ Below w.heap.size w w')

mutual
theorem ren_rep {ok ok' : Nat → Prop} {w : World} {lo lo' : Nat → Option AO} {L L' : Nat → Lay} {i j : Nat} {ob : AO} (hok : ∀ b, ok b → ok' b) (h1 : lo i = some ob) (h2 : lo' j = some ob) (h3 : L' j = L i) :
    ∀ {x : AV} {v : Value}, RepA ok w lo L (ren i x) v → RepA ok' w lo' L' (ren j x) v
  | .iv x, v, h => by
    cases h with
    | iv _ _ r => exact .iv _ _ (r.mono fun b hb _ => ⟨hok b hb, rfl⟩)
  | .agg cs, v, h => by
    simp only [ren] at h ⊢
    cases h with
    | agg _ vs hl hc hx =>
      obtain ⟨h4, h5⟩ := renL_rep hok h1 h2 h3 (cs := cs) hl hx
      exact .agg _ vs h4 hc h5
  | .loc id off, v, h => by
    simp only [ren] at h ⊢
    cases h with
    | loc _ _ cs b ho hL =>
      rw [h1] at ho
      injection ho with ho
      subst ho
      exact .loc j off cs b h2 (h3.trans hL)
  | .aref id n, v, h => by
    simp only [ren] at h ⊢
    generalize hq : AV.aref i n = q at h
    cases h with
    | iv => cases hq
    | agg => cases hq
    | loc => cases hq
    | eloc => cases hq
    | nilr => cases hq
    | mref => cases hq
    | oref => cases hq
    | omap => cases hq
    | orow => cases hq
    | obytes => cases hq
    | belem => cases hq
    | aref i2 e2 sz2 es2 mv2 v2 xs ho hL hsl =>
      injection hq with hq1 hq2
      subst hq1 hq2
      rw [h1] at ho
      injection ho with ho
      subst ho
      exact .aref j e2 sz2 es2 mv2 v xs h2 (h3.trans hL) hsl
    | old i2 n2 e2 sz2 es2 mv2 v2 _ xs ho hL hsl hn2 hv =>
      injection hq with hq1 hq2
      subst hq1 hq2
      rw [h1] at ho
      injection ho with ho
      subst ho
      refine .old j n e2 sz2 es2 mv2 v2 v xs h2 (h3.trans hL) hsl hn2 fun hm => ?_
      rcases hv hm with h | ⟨b, cap, h4, h5, h6, h7⟩
      · exact .inl h
      · exact .inr ⟨b, cap, h4, h5, h6, fun k hk => ⟨(h7 k hk).1.imp (hok b) (fun h => h), (h7 k hk).2⟩⟩
  | .eloc id n k off, v, h => by
    simp only [ren] at h ⊢
    cases h with
    | eloc _ _ _ _ e2 sz2 es2 mv2 v2 xs b ho hL hn2 hv =>
      rw [h1] at ho
      injection ho with ho
      subst ho
      refine .eloc j n k off e2 sz2 es2 mv2 v2 xs b h2 (h3.trans hL) hn2 fun hm => ?_
      obtain ⟨h4, h5, h6⟩ := hv hm
      exact ⟨h4, h5, fun k hk => ⟨(h6 k hk).1.imp (hok b) (fun h => h), (h6 k hk).2⟩⟩
  | .nilr sz, v, h => by
    simp only [ren] at h ⊢
    cases h with
    | nilr => exact .nilr sz
  | .mref id k n, v, h => by
    simp only [ren] at h ⊢
    cases h with
    | mref _ _ _ e2 sz2 kvs pend b vals _ ho hL hs hnn hv =>
      rw [h1] at ho
      injection ho with ho
      subst ho
      exact .mref j k n e2 sz2 kvs pend b vals v h2 (h3.trans hL) hs hnn hv
  | .oref id, v, h => by
    simp only [ren] at h ⊢
    cases h with
    | oref _ b o ho hn hL =>
      rw [h1] at ho
      injection ho with ho
      subst ho
      exact .oref j b _ h2 hn (h3.trans hL)
    | omap _ b kvs ho hL =>
      rw [h1] at ho
      injection ho with ho
      subst ho
      exact .omap j b kvs h2 (h3.trans hL)
    | orow _ b e2 sz2 kvs pend vals ho hL =>
      rw [h1] at ho
      injection ho with ho
      subst ho
      exact .orow j b e2 sz2 kvs pend vals h2 (h3.trans hL)
    | obytes _ b cap s ho hL =>
      rw [h1] at ho
      injection ho with ho
      subst ho
      exact .obytes j b cap s h2 (h3.trans hL)
  | .belem id i, v, h => by
    simp only [ren] at h ⊢
    cases h with
    | belem _ _ b s ho hL hi =>
      rw [h1] at ho
      injection ho with ho
      subst ho
      exact .belem j i b s h2 (h3.trans hL) hi
theorem renL_rep {ok ok' : Nat → Prop} {w : World} {lo lo' : Nat → Option AO} {L L' : Nat → Lay} {i j : Nat} {ob : AO} (hok : ∀ b, ok b → ok' b) (h1 : lo i = some ob) (h2 : lo' j = some ob) (h3 : L' j = L i) :
    ∀ {cs : List AV} {vs : List Value}, vs.length = (renL i cs).length → (∀ (k : Nat) (x : AV) (u : Value), (renL i cs)[k]? = some x → vs[k]? = some u → RepA ok w lo L x u) →
      vs.length = (renL j cs).length ∧ ∀ (k : Nat) (x : AV) (u : Value), (renL j cs)[k]? = some x → vs[k]? = some u → RepA ok' w lo' L' x u
  | [], vs, hl, _ => ⟨by simpa [renL] using hl, by simp [renL]⟩
  | x :: r, [], hl, _ => by simp [renL] at hl
  | x :: r, v :: vs, hl, hx => by
    obtain ⟨h4, h5⟩ := renL_rep hok h1 h2 h3 (cs := r) (vs := vs) (by simpa [renL] using hl) (fun k y u hy hu => hx (k + 1) y u (by simpa [renL] using hy) (by simpa using hu))
    refine ⟨by simp [renL, h4], fun k y u hy hu => ?_⟩
    cases k with
    | zero =>
      simp [renL] at hy hu
      subst hy hu
      exact ren_rep hok h1 h2 h3 (hx 0 (ren i x) v (by simp [renL]) (by simp))
    | succ k => exact h5 k y u (by simpa [renL] using hy) (by simpa using hu)
end

theorem rowO_rep {B B' : Nat → Prop} {ok ok' : Nat → Prop} {w : World} {lo lo' : Nat → Option AO} {L L' : Nat → Lay} {e : TypeId} {sz : Nat} {rows : List (List IV)} {mv : Nat} {l : Lay} (hB : ∀ b, ¬ B b → ¬ B' b) (hok : ∀ b, ok b → ok' b)
    (h : ObjRep B ok w lo L (rowO e sz rows mv) l) : ObjRep B' ok' w lo' L' (rowO e sz rows mv) l := by
  unfold rowO at *
  cases l with
  | box b => exact h
  | one b => exact h
  | map b vals => exact h
  | arr v xs =>
    obtain ⟨h1, h2, h3, h4, h5⟩ := h
    refine ⟨⟨h1.own, fun b hb => hB b (h1.free b hb)⟩, h2, h3, h4, fun i j c x u hi hj hu => ?_⟩
    have := h5 i j c x u hi hj hu
    rw [List.getElem?_map, Option.map_eq_some_iff] at hi
    obtain ⟨d, _, rfl⟩ := hi
    rw [List.getElem?_map, Option.map_eq_some_iff] at hj
    obtain ⟨y, _, rfl⟩ := hj
    cases this with
    | iv _ _ r => exact .iv _ _ (r.mono fun b hb _ => ⟨hok b hb, rfl⟩)

mutual
/-- A value as data, its objects read. -/
def imm (lo : Nat → Option AO) : Nat → AV → Option IV
  | 0, _ => none
  | _ + 1, .iv x => some x
  | n + 1, .agg cs => (imms lo n cs).map .agg
  | n + 1, .loc id off => match lo id with
    | some (.box cs) => (imms lo n cs).map fun xs => .ptr (xs.drop off)
    | _ => none
  | n + 1, .aref id m => match lo id with
    | some (.arr _ sz es mv) => if mv ≤ m ∧ m ≤ es.length then (immss lo n (es.take m)).map (.sl sz) else none
    | _ => none
  | _ + 1, .eloc _ _ _ _ => none
  | _ + 1, .mref _ _ _ => none
  | _ + 1, .nilr sz => some (.sl sz [])
  | _ + 1, .belem _ _ => none
  | _ + 1, .oref id => match lo id with
    | some (.mapd kvs) => some (.map kvs)
    | some (.mapr _ sz kvs pend) => if pend = none then some (.map (kvs.map fun p => (p.1, .sl sz p.2))) else none
    | _ => none
def imms (lo : Nat → Option AO) : Nat → List AV → Option (List IV)
  | 0, _ => none
  | _ + 1, [] => some []
  | n + 1, x :: r => match imm lo n x, imms lo n r with
    | some y, some ys => some (y :: ys)
    | _, _ => none
def immss (lo : Nat → Option AO) : Nat → List (List AV) → Option (List (List IV))
  | 0, _ => none
  | _ + 1, rows => ivss rows
end

def noRef : AV → Bool
  | .iv _ => true
  | _ => false

mutual
def scalar : IV → Bool
  | .any | .bool _ | .int _ _ | .str _ | .nilp => true
  | .tup cs => scalars cs
  | _ => false
def scalars : List IV → Bool
  | [] => true
  | x :: r => scalar x && scalars r
end

/-- The arguments of a call as data. -/
def peek (lo : Nat → Option AO) (ids : List Nat) (xs : List AV) : Option (List IV) :=
  match ids with
  | [] => ivs xs
  | _ => imms (fun i => if ids.contains i then lo i else none) 40 xs

section
variable {P : Program} {K : World → Prop} {ok0 : Nat → Prop} {N : Nat} {w0 : Base} {lk : Nat → AV} {lo : Nat → Option AO} {a : Act} {w : World} {L : Nat → Lay} {o : Oper}
variable {s f : Prop} {v : AV} {up : Option (Nat × AO)}

theorem evY_sets {op : YOp} {id : Nat} {ob : AO} (he : evY lk lo op = .ok s f v (some (id, ob))) : id ∈ op.sets := by
  cases op <;> simp only [evY] at he <;> simp only [YOp.sets] <;>
    (repeat' (split at he)) <;>
    first
      | (cases he; done)
      | (injection he with _ _ _ e; injection e with e; injection e with e _; simp [e])

theorem ev_sets {op : AOp} {id : Nat} {ob : AO} (he : ev lk lo op = .ok s f v (some (id, ob))) : id ∈ op.sets := by
  by_cases hy : ∃ y, op = .yy y
  · obtain ⟨y, rfl⟩ := hy
    exact evY_sets he
  have hy' : ∀ y, op ≠ .yy y := fun y e => hy ⟨y, e⟩
  clear hy
  cases op <;> simp only [ev] at he <;> simp only [AOp.sets] <;> (try exact absurd rfl (hy' _)) <;>
    (try simp only [evPick, evExt, evNot, evBin, evInt, evBeq, evCvi, evCvs, evB2s, evI2s, evNilc, evFld, evLdi, evLdo, evSto, evIxi, evIxo, evIxs, evSli, evSls, evBoxi, evBoxo, evLen, evLeno, evLst, evApp] at he) <;>
    (repeat' (split at he)) <;>
    first
      | (cases he; done)
      | (injection he with _ _ _ e; injection e with e; injection e with e _; simp [e])

theorem okL_le {b : Nat} (h : okL ok0 lo L b) : ok0 b := h.1

theorem imm_rows (h : Rel ok0 N w0 lk lo a w L) (hok0 : ∀ b, ¬ w0.fr b → ok0 b) {id n : Nat} {e : TypeId} {sz mv : Nat} {es : List (List AV)} {ys : List (List IV)} {vv : Value}
    (hob : lo id = some (.arr e sz es mv)) (hmv : mv ≤ n) (hn : n ≤ es.length) (hys : es.take n = ys.map (List.map AV.iv)) (hr : RepA (okL ok0 lo L) w lo L (.aref id n) vv) : RepI ok0 w (.sl sz ys) vv := by
  have hor := h.objs _ _ hob
  have hyl : ys.length = n := by
    have := congrArg List.length hys
    simp at this; omega
  have fin : ∀ (b cap : Nat) (v : Value) (xs : List Value), L id = .arr v xs → vv = .slice (some ⟨b, 0, none⟩) n cap → n ≤ cap → cap ≤ maxLen →
      (∀ k, k < n * sz → (okL ok0 lo L b ∨ v.ownBlock = some b) ∧ ∃ u, w.cell? ⟨b, k, none⟩ = some u ∧ xs[k]? = some u) → RepI ok0 w (.sl sz ys) vv := by
    intro b cap v xs hL hvv hnc hcm hcells
    rw [hL] at hor
    obtain ⟨hown, hmv2, hsz, h1, hxx⟩ := hor
    have hys2 : ∀ (i : Nat) (c : List IV), ys[i]? = some c → es[i]? = some (c.map AV.iv) := by
      intro i c hc
      have : (es.take n)[i]? = some (c.map AV.iv) := by rw [hys]; simp [hc]
      rw [List.getElem?_take] at this
      split at this
      · exact this
      · cases this
    have hcl : ∀ c ∈ ys, c.length = sz := by
      intro c hc
      obtain ⟨i, hi⟩ := List.getElem?_of_mem hc
      have := hsz _ (List.mem_of_getElem? (hys2 i c hi))
      simpa using this
    rw [hvv, ← hyl]
    refine .sl sz ys b 0 cap (fun k => xs.getD k undef) (by omega) hcm hcl (fun k hk => ?_) (fun i j c x hi hj => ?_)
    · rw [hyl] at hk
      obtain ⟨hb, u, hc, hx⟩ := hcells k hk
      rw [Nat.zero_add]
      have e : xs.getD k undef = u := by simp [List.getD, hx]
      rw [e]
      refine ⟨?_, hc, h1 u (List.mem_of_getElem? hx)⟩
      rcases hb with hb | hb
      · exact hb.1
      · exact hok0 b (hown.lt b hb).1
    · have hil : i < n := by rw [← hyl]; exact (List.getElem?_eq_some_iff.1 hi).1
      have hjl : j < sz := by rw [← hcl c (List.mem_of_getElem? hi)]; exact (List.getElem?_eq_some_iff.1 hj).1
      obtain ⟨_, u, _, hx⟩ := hcells (i * sz + j) (idx_lt hil hjl)
      have e : xs.getD (i * sz + j) undef = u := by simp [List.getD, hx]
      rw [e]
      have := hxx i j _ (.iv x) u (hys2 i c hi) (by simp [hj]) hx
      cases this with
      | iv _ _ r => exact r.mono fun b hb _ => ⟨hb.1, rfl⟩
  have nil : n = 0 → vv = .slice none 0 0 → RepI ok0 w (.sl sz ys) vv := by
    intro h0 hv
    have : ys = [] := List.eq_nil_of_length_eq_zero (by omega)
    rw [this, hv]
    exact .nils sz
  generalize hq : AV.aref id n = q at hr
  cases hr with
  | iv => cases hq
  | agg => cases hq
  | loc => cases hq
  | eloc => cases hq
  | nilr => cases hq
  | mref => cases hq
  | oref => cases hq
  | omap => cases hq
  | orow => cases hq
  | obytes => cases hq
  | belem => cases hq
  | aref i2 e2 sz2 es2 mv2 v2 xs hob2 hL hsl =>
    injection hq with hq1 hq2
    subst hq1
    rw [hob] at hob2
    injection hob2 with hob2
    injection hob2 with g1 g2 g3 g4
    subst g1 g2 g3 g4
    have hor' := hor
    rw [hL] at hor'
    obtain ⟨hown, _⟩ := hor'
    rcases hown.own.2 with ⟨hv', h00⟩ | ⟨g, cap, cur, hv', hB, hgg, hnc, hcm, hcs', htake⟩
    · exact nil (by omega) hv'
    · refine fin g cap _ xs hL (by rw [hq2]; exact hv') (by omega) hcm fun k hk => ⟨.inr (by rw [hv']; rfl), ?_⟩
      have hk' : k < xs.length := by rw [hown.own.1, ← hq2]; exact hk
      refine ⟨xs[k], ?_, List.getElem?_eq_getElem hk'⟩
      have := hown.own.cells (g := g) (by rw [hv']; rfl) k xs[k] (List.getElem?_eq_getElem hk')
      rwa [addr_add, Nat.zero_add] at this
  | old i2 n2 e2 sz2 es2 mv2 v2 _ xs hob2 hL hsl hn2 hv =>
    injection hq with hq1 hq2
    subst hq1 hq2
    rw [hob] at hob2
    injection hob2 with hob2
    injection hob2 with g1 g2 g3 g4
    subst g1 g2 g3 g4
    rcases hv hmv with ⟨hv, h00⟩ | ⟨b, cap, hv', hnc, hcm, hcells⟩
    · exact nil h00 hv
    · exact fin b cap _ xs hL hv' hnc hcm hcells

theorem row_repI {ok0 : Nat → Prop} {Fr : Nat → Prop} {w : World} {e : TypeId} {sz : Nat} {v : Value} {xs : List Value} {rows : List (List IV)} (h : ownsF Fr w e sz v rows.length xs) (hok : ∀ b, v.ownBlock = some b → ok0 b)
    (hsz : ∀ c ∈ rows, c.length = sz) (h1 : ∀ u ∈ xs, u.oneCell' = true)
    (hx : ∀ (i j : Nat) (c : List IV) (x : IV) (u : Value), rows[i]? = some c → c[j]? = some x → xs[i * sz + j]? = some u → RepI ok0 w x u) : RepI ok0 w (.sl sz rows) v := by
  rcases h.own.2 with ⟨hv, h0⟩ | ⟨g, cap, cur, hv, _, hg, hn, hc, hcs, htake⟩
  · have : rows = [] := List.eq_nil_of_length_eq_zero h0
    subst this hv
    exact .nils sz
  · have hgb : v.ownBlock = some g := by rw [hv]; rfl
    have hxl := h.own.1
    rw [hv]
    refine .sl sz rows g 0 cap (fun k => xs.getD k undef) hn hc hsz (fun k hk => ?_) (fun i j c x hi hj => ?_)
    · have hk' : k < xs.length := by omega
      have e : xs.getD k undef = xs[k] := by simp [List.getD, hk']
      rw [e]
      refine ⟨hok g hgb, ?_, h1 _ (List.getElem_mem hk')⟩
      have := h.own.cells hgb k xs[k] (List.getElem?_eq_getElem hk')
      rwa [addr_add] at this
    · have hil : i < rows.length := (List.getElem?_eq_some_iff.1 hi).1
      have hjl : j < sz := by rw [← hsz c (List.mem_of_getElem? hi)]; exact (List.getElem?_eq_some_iff.1 hj).1
      have hk' : i * sz + j < xs.length := by rw [hxl]; exact idx_lt hil hjl
      have e : xs.getD (i * sz + j) undef = xs[i * sz + j] := by simp [List.getD, hk']
      rw [e]
      exact hx i j c x _ hi hj (List.getElem?_eq_getElem hk')

theorem imm_sound (h : Rel ok0 N w0 lk lo a w L) (hok0 : ∀ b, ¬ w0.fr b → ok0 b) {lo' : Nat → Option AO} (hlo : ∀ id o, lo' id = some o → lo id = some o) :
    ∀ n : Nat, (∀ (x : AV) (v : Value) (y : IV), RepA (okL ok0 lo L) w lo L x v → imm lo' n x = some y → RepI ok0 w y v) ∧
      (∀ (cs : List AV) (ys : List IV), imms lo' n cs = some ys → ys.length = cs.length ∧ ∀ (k : Nat) (x : AV) (y : IV) (v : Value), cs[k]? = some x → ys[k]? = some y → RepA (okL ok0 lo L) w lo L x v → RepI ok0 w y v) := by
  intro n
  induction n with
  | zero => exact ⟨fun x v y _ hi => by simp [imm] at hi, fun cs ys hi => by simp [imms] at hi⟩
  | succ n ih =>
    refine ⟨fun x v y hr hi => ?_, fun cs ys hi => ?_⟩
    · cases x with
      | iv z =>
        simp only [imm, Option.some.injEq] at hi
        subst hi
        cases hr with
        | iv _ _ r => exact r.mono fun b hb _ => ⟨hb.1, rfl⟩
      | agg cs =>
        simp only [imm, Option.map_eq_some_iff] at hi
        obtain ⟨ys, hys, rfl⟩ := hi
        obtain ⟨hl, hx⟩ := ih.2 cs ys hys
        cases hr with
        | agg _ vs hvl h1 hxx =>
          refine .agg ys vs (by omega) h1 fun k y u hy hu => ?_
          have hk : k < cs.length := by rw [← hl]; exact (List.getElem?_eq_some_iff.1 hy).1
          exact hx k cs[k] y u (List.getElem?_eq_getElem hk) hy (hxx k _ u (List.getElem?_eq_getElem hk) hu)
      | loc id off =>
        simp only [imm] at hi
        split at hi
        · rename_i cs hcs
          simp only [Option.map_eq_some_iff] at hi
          obtain ⟨ys, hys, rfl⟩ := hi
          obtain ⟨hl, hx⟩ := ih.2 cs ys hys
          have hob := h.objs _ _ (hlo _ _ hcs)
          cases hr with
          | loc _ _ cs' b hob' hL =>
            rw [hL] at hob
            obtain ⟨hB, ty, vs, hb, hvl, h1, hxx⟩ := hob
            refine .ptr _ b off (fun k => vs.getD (off + k) undef) (fun k hk => ?_) (fun k y hy => ?_)
            · have hk' : off + k < vs.length := by simp at hk; omega
              refine ⟨hok0 b hB, ?_, h1 _ (List.mem_of_getElem? (getD_some (d := undef) hk'))⟩
              rw [cell_of_row _ _ _ _ ty (0, 0) hb]
              simpa using getD_some (d := undef) hk'
            · rw [List.getElem?_drop] at hy
              have hk : off + k < cs.length := by rw [← hl]; exact (List.getElem?_eq_some_iff.1 hy).1
              have hk' : off + k < vs.length := by omega
              exact hx _ cs[off + k] y _ (List.getElem?_eq_getElem hk) hy (hxx _ _ _ (List.getElem?_eq_getElem hk) (getD_some hk'))
        · cases hi
      | eloc => simp [imm] at hi
      | mref => simp [imm] at hi
      | nilr sz =>
        simp only [imm, Option.some.injEq] at hi
        subst hi
        cases hr with
        | nilr => exact .nils sz
      | belem => simp [imm] at hi
      | oref id =>
        simp only [imm] at hi
        split at hi
        · rename_i kvs hob
          injection hi with hi
          subst hi
          have hob' := hlo _ _ hob
          have hor := h.objs _ _ hob'
          cases hr with
          | oref _ b o ho hn hL => rw [hob'] at ho; injection ho with ho; subst ho; cases hn
          | orow _ b e2 sz2 kvs2 pend2 vals2 ho hL => rw [hob'] at ho; cases ho
          | obytes _ b cap s ho hL => rw [hob'] at ho; cases ho
          | omap _ b kvs2 ho hL =>
            rw [hL] at hor
            obtain ⟨hB, es, clock, hb, hm, hd, hx⟩ := hor
            exact .map kvs b es clock (hok0 b hB) hb hm hd fun i e p h1 h2 => (hx i e p h1 h2).mono fun b hb _ => ⟨hb.1, rfl⟩
        · rename_i e sz kvs pend hob
          split at hi
          · rename_i hpn
            subst hpn
            injection hi with hi
            subst hi
            have hob' := hlo _ _ hob
            have hor := h.objs _ _ hob'
            cases hr with
            | oref _ b o ho hn hL => rw [hob'] at ho; injection ho with ho; subst ho; cases hn
            | omap _ b kvs2 ho hL => rw [hob'] at ho; cases ho
            | obytes _ b cap s ho hL => rw [hob'] at ho; cases ho
            | orow _ b e2 sz2 kvs2 pend2 vals ho hL =>
              rw [hL] at hor
              obtain ⟨hB, ⟨es, clock, hb, m, hmn, hm, hnew, hval⟩, hd, hk, hrow, ha⟩ := hor
              have hmk : m = kvs.length := by
                rcases Nat.lt_or_ge m kvs.length with hlt | hge
                · have := hnew m _ (List.getElem?_eq_getElem hlt) (Nat.le_refl _)
                  cases this
                · omega
              subst hmk
              refine .map _ b es clock (hok0 b hB) hb ?_ (fun i j p q hp hq hpq => ?_) (fun i e2 p he hp => ?_)
              · have : (fun (i : Nat) => ((kvs.map fun p => (p.1, IV.sl sz p.2))[i]?).map (fun p : MK × IV => p.1)) = fun i => (kvs[i]?).map (fun p : MK × List (List IV) => p.1) := by
                  funext i
                  rw [List.getElem?_map]
                  cases kvs[i]? <;> rfl
                rw [List.length_map, this]
                exact hm
              · rw [List.getElem?_map, Option.map_eq_some_iff] at hp hq
                obtain ⟨p', hp', rfl⟩ := hp
                obtain ⟨q', hq', rfl⟩ := hq
                exact hd i j p' q' hp' hq' hpq
              · rw [List.getElem?_map, Option.map_eq_some_iff] at hp
                obtain ⟨p', hp', rfl⟩ := hp
                have hvl : vals.length = kvs.length := by have := congrArg List.length hk; simpa using this
                have hil : i < vals.length := by rw [hvl]; exact (List.getElem?_eq_some_iff.1 hp').1
                have hq := List.getElem?_eq_getElem hil
                rw [hval i e2 _ he hq (by simp)]
                obtain ⟨xs, h1, h2, h3, h4, h5⟩ := hrow i p' _ hp' hq
                exact row_repI h1 (fun b hb => hok0 b (h1.free b hb)) h3 h4 fun i j c x u a1 a2 a3 => (h5 i j c x u a1 a2 a3).mono fun b hb _ => ⟨hb.1, rfl⟩
          · cases hi
        · cases hi
      | aref id m =>
        simp only [imm] at hi
        split at hi
        · rename_i e sz es mv hob
          split at hi
          · rename_i hm
            simp only [Option.map_eq_some_iff] at hi
            obtain ⟨ys, hys, rfl⟩ := hi
            cases n with
            | zero => simp [immss] at hys
            | succ n =>
              simp only [immss] at hys
              exact imm_rows h hok0 (hlo _ _ hob) hm.1 hm.2 (ivss_spec hys) hr
          · cases hi
        · cases hi
    · cases cs with
      | nil =>
        simp only [imms, Option.some.injEq] at hi
        subst hi
        exact ⟨rfl, by simp⟩
      | cons x r =>
        simp only [imms] at hi
        split at hi
        · rename_i y ys' h1 h2
          injection hi with hi
          subst hi
          obtain ⟨hl, hx⟩ := ih.2 r ys' h2
          refine ⟨by simp [hl], fun k z y' v hz hy hr => ?_⟩
          cases k with
          | zero =>
            simp at hz hy
            subst hz hy
            exact ih.1 x v y hr h1
          | succ k => exact hx k z y' v (by simpa using hz) (by simpa using hy) hr
        · cases hi

mutual
theorem scalar_rep {ok ok' : Nat → Prop} : ∀ {x : IV} {v : Value}, scalar x = true → RepI ok w x v → RepI ok' w x v
  | .any, _, _, h => by cases h; exact .any _
  | .bool _, _, _, h => by cases h; exact .bool _
  | .int _ _, _, _, h => by cases h; exact .int _ _
  | .str _, _, _, h => by cases h; exact .str _
  | .nilp, _, _, h => by cases h; exact .nilp
  | .sl _ _, _, hs, _ => by simp [scalar] at hs
  | .ptr _, _, hs, _ => by simp [scalar] at hs
  | .agg _, _, hs, _ => by simp [scalar] at hs
  | .tup cs, _, hs, h => by
    simp only [scalar] at hs
    cases h with
    | tup _ vs hl hx => exact .tup cs vs hl fun k x u h1 h2 => scalars_rep hs k x u h1 (hx k x u h1 h2)
theorem scalars_rep {ok ok' : Nat → Prop} : ∀ {cs : List IV}, scalars cs = true → ∀ (k : Nat) (x : IV) (u : Value), cs[k]? = some x → RepI ok w x u → RepI ok' w x u
  | [], _, k, x, u, h, _ => by simp at h
  | y :: r, hs, k, x, u, h, hr => by
    simp only [scalars, Bool.and_eq_true] at hs
    cases k with
    | zero => simp at h; subst h; exact scalar_rep hs.1 hr
    | succ k => exact scalars_rep hs.2 k x u (by simpa using h) hr
end

theorem isAll_spec (h : Rel ok0 N w0 lk lo a w L) : ∀ {xs : List Opd} {ys : List Operand}, isAll xs ys = true → ys.length = xs.length ∧
    ∀ (k : Nat) (x : AV) (u : Value), (xs.map (·.av lk))[k]? = some x → (ys.map a.eval)[k]? = some u → RepA (okL ok0 lo L) w lo L x u
  | [], [], _ => by simp
  | x :: r, y :: t, hi => by
    simp only [isAll, Bool.and_eq_true] at hi
    obtain ⟨hl, hx⟩ := isAll_spec h hi.2
    refine ⟨by simp [hl], fun k z u hz hu => ?_⟩
    cases k with
    | zero => simp at hz hu; subst hz hu; exact Opd.rep h hi.1
    | succ k => exact hx k z u (by simpa using hz) (by simpa using hu)
  | [], _ :: _, hi => by simp [isAll] at hi
  | _ :: _, [], hi => by simp [isAll] at hi

theorem calld_run {x : Opd} {g : FuncId} {args : List Opd} {ids : List Nat} (h : Rel ok0 N w0 lk lo a w L) (hf : AOp.fits P (.calld x args ids) o.op = true) (hx : x.av lk = .iv (.fn g)) (hc : callee P g = true) :
    ∃ as : List Operand, isAll args as = true ∧ (execOp a.eval o).run P w = .ok (.enter g (as.map a.eval).toArray) w := by
  simp only [AOp.fits] at hf
  unfold fCalld at hf
  split at hf
  · rename_i m as ts ho
    simp only [Bool.and_eq_true] at hf
    obtain ⟨hxm, ha⟩ := hf
    refine ⟨as.toList, ha, ?_⟩
    have hxm' : x.is (.tmp m) = true := hxm
    have rx := Opd.rep h hxm'
    rw [hx] at rx
    generalize hey : a.eval (.tmp m) = yv at rx
    have hyv : yv = .func (.func g) #[] #[] := by
      cases rx with
      | iv _ _ r => cases r; rfl
    subst hyv
    unfold callee at hc
    split at hc
    · rename_i fn hfn
      simp only [Bool.and_eq_true, Bool.not_eq_true', beq_eq_false_iff_ne, ne_eq] at hc
      obtain ⟨hb, hn⟩ := hc
      have hb' : fn.body ≠ none := by cases h : fn.body <;> simp_all
      simp [execOp, ho, resolve, hey, Deferred.ofValue, invoke, callFunc, program, Sem.run, hfn, hn, hb']
      apply Array.ext'
      simp
    · cases hc
  · cases hf

theorem call_run {g : FuncId} {args : List Opd} {ids : List Nat} (hf : AOp.fits P (.call g args ids) o.op = true) : ∃ as : List Operand, isAll args as = true ∧ (execOp a.eval o).run P w = .ok (.enter g (as.map a.eval).toArray) w := by
  simp only [AOp.fits] at hf
  unfold fCall at hf
  split at hf
  · rename_i f' as ts ho
    simp only [Bool.and_eq_true, beq_iff_eq] at hf
    obtain ⟨⟨rfl, ha⟩, hc⟩ := hf
    refine ⟨as.toList, ha, ?_⟩
    unfold callee at hc
    split at hc
    · rename_i fn hfn
      simp only [Bool.and_eq_true, Bool.not_eq_true', beq_eq_false_iff_ne, ne_eq] at hc
      obtain ⟨hb, hn⟩ := hc
      have hb' : fn.body ≠ none := by cases h : fn.body <;> simp_all
      simp [execOp, ho, resolve, Deferred.ofValue, invoke, callFunc, program, Sem.run, hfn, hn, Act.eval, hb']
      apply Array.ext'
      simp
    · cases hc
  · cases hf

end
end Go.Ev

/- A function that takes a row of the caller's own and hands it back, longer or as it was. -/
namespace Go.Ev
open Go Go.RowKit

/-- All blocks but the row's. -/
def Fr0 (w : World) (v0 : Value) (b : Nat) : Prop := b < w.heap.size ∧ v0.ownBlock ≠ some b

/-- What the call returns: the row, grown or as it was. -/
structure RowBack (w : World) (ok : Nat → Prop) (e : TypeId) (sz : Nat) (rows : List (List IV)) (v0 : Value) (rows' : List (List IV)) (v' : Value) (xs' : List Value) (w' : World) : Prop where
  keep : Keep (Fr0 w v0) w w'
  own : w'.ownsRow 0 e sz v' rows'.length xs'
  blk : ∀ b, v'.ownBlock = some b → v0.ownBlock = some b ∨ w.heap.size ≤ b
  size : ∀ c ∈ rows', c.length = sz
  one : ∀ u ∈ xs', u.oneCell' = true
  cells : ∀ (i j : Nat) (c : List IV) (x : IV) (u : Value), rows'[i]? = some c → c[j]? = some x → xs'[i * sz + j]? = some u → RepI (fun b => (ok b ∨ v0.ownBlock = some b) ∧ v'.ownBlock ≠ some b) w' x u
  le : rows.length ≤ rows'.length
  same : rows'.length = rows.length → v' = v0

def GoodR (P : Program) (K : World → Prop) (f : FuncId) (e : TypeId) (sz : Nat) (rows : List (List IV)) (args : List IV) (rows' : List (List IV)) : Prop :=
  ∀ (w : World) (ok : Nat → Prop) (v0 : Value) (xs vs : List Value), (∀ w', Keep (Fr0 w v0) w w' → K w') → (∀ b, w.heap.size ≤ b → ok b) →
    w.ownsRow 0 e sz v0 rows.length xs → (∀ c ∈ rows, c.length = sz) → (∀ u ∈ xs, u.oneCell' = true) →
    (∀ (i j : Nat) (c : List IV) (x : IV) (u : Value), rows[i]? = some c → c[j]? = some x → xs[i * sz + j]? = some u → RepI (fun b => ok b ∧ v0.ownBlock ≠ some b) w x u) →
    vs.length = args.length → (∀ (k : Nat) (x : IV) (u : Value), args[k]? = some x → vs[k]? = some u → RepI (fun b => ok b ∧ v0.ownBlock ≠ some b) w x u) →
    Calls P f (v0 :: vs).toArray w (fun x w' => ∃ v' xs', x = .returned v' ∧ RowBack w ok e sz rows v0 rows' v' xs' w')

section
variable {P : Program} {ok0 : Nat → Prop} {N : Nat} {w0 : Base} {lk : Nat → AV} {lo : Nat → Option AO} {a : Act} {w : World} {L : Nat → Lay}

theorem ownsRow_isSl {w : World} {base : Nat} {e : TypeId} {sz : Nat} {v : Value} {n : Nat} {xs : List Value} (h : w.ownsRow base e sz v n xs) : isSl v = true := by
  rcases h.2 with ⟨hv, _⟩ | ⟨g, cap, cur, hv, _⟩ <;> rw [hv] <;> rfl

theorem ownsF.lt' {Fr : Nat → Prop} {w : World} {e : TypeId} {sz : Nat} {v : Value} {n : Nat} {xs : List Value} (h : ownsF Fr w e sz v n xs) {b : Nat} (hb : v.ownBlock = some b) : b < w.heap.size := (h.lt b hb).2

/-- The blocks that data may lie in, behind the call. -/
theorem okL_back {id : Nat} {o : AO} {l' : Lay} {v0 v' : Value} (h : Rel ok0 N w0 lk lo a w L) (hok0 : ∀ b, ¬ w0.fr b → ok0 b) {o0 : AO} (hid : lo id = some o0) (h0 : ∀ b, v0.ownBlock = some b → (L id).has b ∧ ¬ w0.fr b)
    (hl' : ∀ b, l'.has b → v'.ownBlock = some b ∨ ((L id).has b ∧ v0.ownBlock ≠ some b)) {b : Nat} (hb : (okL ok0 lo L b ∨ v0.ownBlock = some b) ∧ v'.ownBlock ≠ some b) : okL ok0 (setO lo id o) (setL L id l') b := by
  obtain ⟨h1, h2⟩ := hb
  refine ⟨?_, fun i oi hi he => ?_⟩
  · rcases h1 with h1 | h1
    · exact h1.1
    · exact hok0 b (h0 b h1).2
  · by_cases hii : i = id
    · subst hii
      simp only [setL, if_true] at he
      rcases hl' b he with h3 | ⟨h3, h4⟩
      · exact h2 h3
      · rcases h1 with h1 | h1
        · exact h1.2 _ _ hid h3
        · exact h4 h1
    · simp only [setO, hii, if_false] at hi
      simp only [setL, hii, if_false] at he
      rcases h1 with h1 | h1
      · exact h1.2 i oi hi he
      · exact h.apart i id oi o0 b hii hi hid he (h0 b h1).1

theorem inv_aref_all {id : Nat} {e : TypeId} {sz mv : Nat} {rows : List (List IV)} {v0 u : Value} {xs : List Value} {ok : Nat → Prop} (hid : lo id = some (rowO e sz rows mv)) (hL : L id = .arr v0 xs) (hr : RepA ok w lo L (.aref id rows.length) u) : u = v0 := by
  generalize hq : AV.aref id rows.length = q at hr
  cases hr with
  | iv => cases hq
  | agg => cases hq
  | loc => cases hq
  | eloc => cases hq
  | nilr => cases hq
  | mref => cases hq
  | oref => cases hq
  | omap => cases hq
  | orow => cases hq
  | obytes => cases hq
  | belem => cases hq
  | aref i2 e2 sz2 es2 mv2 v2 xs2 hob2 hL2 hsl =>
    injection hq with hq1 hq2
    subst hq1
    rw [hL] at hL2
    injection hL2 with g1 g2
    exact g1.symm
  | old i2 n2 e2 sz2 es2 mv2 v2 _ xs2 hob2 hL2 hsl hn2 hv =>
    injection hq with hq1 hq2
    subst hq1 hq2
    rw [hid] at hob2
    injection hob2 with hob2
    injection hob2 with g1 g2 g3 g4
    subst g3
    rw [List.length_map] at hn2
    omega

theorem back_arr {id mv : Nat} {e : TypeId} {sz : Nat} {rows rows' : List (List IV)} {v0 v' : Value} {xs xs' : List Value} {w' : World} (h : Rel ok0 N w0 lk lo a w L) (hok0 : ∀ b, ¬ w0.fr b → ok0 b)
    (hid : lo id = some (rowO e sz rows mv)) (hL : L id = .arr v0 xs) (hr : RowBack w (okL ok0 lo L) e sz rows v0 rows' v' xs' w') :
    Rel ok0 N w0 lk (setO lo id (rowO e sz rows' rows'.length)) a w' (setL L id (.arr v' xs')) ∧
    RepA (okL ok0 (setO lo id (rowO e sz rows' rows'.length)) (setL L id (.arr v' xs'))) w' (setO lo id (rowO e sz rows' rows'.length)) (setL L id (.arr v' xs')) (.aref id rows'.length) v' := by
  have hob := h.objs _ _ hid
  rw [hL] at hob
  obtain ⟨hown, hmv, hsz, h1, hxx⟩ := hob
  rw [List.length_map] at hown hmv
  have h0 : ∀ b, v0.ownBlock = some b → (L id).has b ∧ ¬ w0.fr b := fun b hb => ⟨by rw [hL]; exact hb, hown.free b hb⟩
  have hl' : ∀ b, (Lay.arr v' xs').has b → (L id).has b ∨ w.heap.size ≤ b := fun b hb => (hr.blk b hb).imp (fun h => (h0 b h).1) (fun h => h)
  have hg : Only (L id).has w w' := ⟨hr.keep.os, hr.keep.tape, hr.keep.output, hr.keep.size, fun k hk hn => hr.keep.block k ⟨hk, fun e => hn (h0 k e).1⟩⟩
  have hlen' : (rows'.map (List.map AV.iv)).length = rows'.length := by simp
  have hlen : (rows.map (List.map AV.iv)).length = rows.length := by simp
  have hsl' := ownsRow_isSl hr.own
  have res : ∀ ok, RepA ok w' (setO lo id (rowO e sz rows' rows'.length)) (setL L id (.arr v' xs')) (.aref id rows'.length) v' := fun ok => by
    have := RepA.aref (ok := ok) (w := w') (lo := setO lo id (rowO e sz rows' rows'.length)) (L := setL L id (.arr v' xs')) id e sz (rows'.map (List.map AV.iv)) rows'.length v' xs' (by simp [setO, rowO]) (by simp [setL]) hsl'
    rwa [hlen'] at this
  refine ⟨h.turn id hid hg hl' (fun z u hz hu => ?_) (fun _ => ?_), res _⟩
  · cases hu with
    | iv => simp [AV.refs] at hz
    | agg => simp [AV.refs] at hz
    | nilr => simp [AV.refs] at hz
    | loc jj off cs b ho' hL' => have : jj = id := by simpa [AV.refs] using hz
                                 subst this; rw [hid] at ho'; cases ho'
    | mref jj k2 n2 e2 sz2 kvs2 pend2 b2 vals2 v2 ho' hL' =>
      have : jj = id := by simpa [AV.refs] using hz
      subst this; rw [hid] at ho'; cases ho'
    | oref jj b2 o2 ho' hn' hL' =>
      have : jj = id := by simpa [AV.refs] using hz
      subst this; rw [hid] at ho'; injection ho' with ho'; subst ho'; cases hn'
    | omap jj b2 kvs2 ho' hL' =>
      have : jj = id := by simpa [AV.refs] using hz
      subst this; rw [hid] at ho'; cases ho'
    | orow jj b2 e2 sz2 kvs2 pend2 vals2 ho' hL' =>
      have : jj = id := by simpa [AV.refs] using hz
      subst this; rw [hid] at ho'; cases ho'
    | obytes jj b2 cap2 s2 ho' hL' =>
      have : jj = id := by simpa [AV.refs] using hz
      subst this; rw [hid] at ho'; cases ho'
    | belem jj j2 b2 s2 ho' hL' hi' =>
      have : jj = id := by simpa [AV.refs] using hz
      subst this; rw [hid] at ho'; cases ho'
    | aref jj e2 sz2 es2 mv2 v2 xs2 ho' hL' hsl2 =>
      have : jj = id := by simpa [AV.refs] using hz
      subst this
      rw [hid] at ho'
      injection ho' with ho'
      injection ho' with g1 g2 g3 g4
      subst g1 g2 g3 g4
      rw [hL] at hL'
      injection hL' with g1 g2
      subst g1 g2
      rw [hlen]
      by_cases hs : rows'.length = rows.length
      · have := res (okL ok0 (setO lo jj (rowO e sz rows' rows'.length)) (setL L jj (.arr v' xs')))
        rw [hs, hr.same hs] at this
        rw [hr.same hs]
        rw [hs]
        exact this
      · have hle := hr.le
        exact .old jj rows.length e sz (rows'.map (List.map AV.iv)) rows'.length v' v0 xs' (by simp [setO, rowO]) (by simp [setL]) hsl2 (by rw [hlen']; omega) (fun hm => by omega)
    | old jj n' e2 sz2 es2 mv2 v2 v2' xs2 ho' hL' hsl2 hn' hv2 =>
      have : jj = id := by simpa [AV.refs] using hz
      subst this
      rw [hid] at ho'
      injection ho' with ho'
      injection ho' with g1 g2 g3 g4
      subst g1 g2 g3 g4
      rw [hlen] at hn'
      have hle := hr.le
      exact .old jj n' e sz (rows'.map (List.map AV.iv)) rows'.length v' _ xs' (by simp [setO, rowO]) (by simp [setL]) hsl2 (by rw [hlen']; omega) (fun hm => by omega)
    | eloc jj n' i' off' e2 sz2 es2 mv2 v2 xs2 b2 ho' hL' hn' hv2 =>
      have : jj = id := by simpa [AV.refs] using hz
      subst this
      rw [hid] at ho'
      injection ho' with ho'
      injection ho' with g1 g2 g3 g4
      subst g1 g2 g3 g4
      rw [hL] at hL'
      injection hL' with g1 g2
      subst g1 g2
      rw [hlen] at hn' hv2
      have hle := hr.le
      refine .eloc jj n' i' off' e sz (rows'.map (List.map AV.iv)) rows'.length v' xs' b2 (by simp [setO, rowO]) (by simp [setL]) (by rw [hlen']; omega) (fun hm => ?_)
      have hs : rows'.length = rows.length := by omega
      have hnr : n' = rows.length := by omega
      obtain ⟨k1, k2, k3⟩ := hv2 (by omega)
      have hb2 : v'.ownBlock = some b2 := by rw [hr.same hs]; exact k2 hnr
      refine ⟨k1, fun _ => hb2, fun k hk => ⟨.inr hb2, ?_⟩⟩
      have hk' : k < xs'.length := by rw [hr.own.1, hs, ← hnr]; exact hk
      refine ⟨xs'[k], ?_, List.getElem?_eq_getElem hk'⟩
      have := hr.own.cells (g := b2) hb2 k xs'[k] (List.getElem?_eq_getElem hk')
      rwa [addr_add, Nat.zero_add] at this
  · refine ⟨by rw [hlen']; exact ⟨hr.own, fun b hb => (hr.blk b hb).elim (fun h1 => hown.free b h1) (fun h2 => h.frlt h2)⟩, by rw [hlen']; exact Nat.le_refl _, fun c hc => ?_, hr.one, fun i j c x u hi hj hu => ?_⟩
    · obtain ⟨d, hd, rfl⟩ := List.mem_map.1 hc
      rw [List.length_map]
      exact hr.size d hd
    · rw [List.getElem?_map, Option.map_eq_some_iff] at hi
      obtain ⟨d, hd, rfl⟩ := hi
      rw [List.getElem?_map, Option.map_eq_some_iff] at hj
      obtain ⟨y, hy, rfl⟩ := hj
      exact .iv _ _ ((hr.cells i j d y u hd hy hu).mono fun b hb _ => ⟨okL_back (l' := .arr v' xs') h hok0 hid h0 (fun b hb => .inl hb) hb, rfl⟩)


/-! ### A map's row -/

theorem mins_get_ne {α : Type} {k : MK} {y : α} : ∀ {l : List (MK × α)} {i : Nat} {q : MK × α}, (mins k y l)[i]? = some q → q.1 ≠ k → l[i]? = some q
  | [], i, q, h, hn => by
    cases i with
    | zero => simp [mins] at h; subst h; exact absurd rfl hn
    | succ i => simp [mins] at h
  | p :: r, i, q, h, hn => by
    unfold mins at h
    split at h
    · cases i with
      | zero => simp at h; subst h; exact absurd rfl hn
      | succ i => simpa using h
    · cases i with
      | zero => simpa using h
      | succ i => exact mins_get_ne (l := r) (by simpa using h) hn
theorem mins_get_eq {α : Type} {k : MK} {y : α} : ∀ {l : List (MK × α)}, (∀ (i j : Nat) (p q : MK × α), l[i]? = some p → l[j]? = some q → p.1 = q.1 → i = j) → ∀ {i : Nat} {q : MK × α}, (mins k y l)[i]? = some q → q.1 = k → q = (k, y)
  | [], _, i, q, h, _ => by
    cases i with
    | zero => simp [mins] at h; exact h.symm
    | succ i => simp [mins] at h
  | p :: r, hd, i, q, h, hk => by
    unfold mins at h
    split at h
    · rename_i hp
      cases i with
      | zero => simp at h; exact h.symm
      | succ i =>
        have := hd 0 (i + 1) p q rfl (by simpa using h) (by rw [hp, hk])
        omega
    · rename_i hp
      cases i with
      | zero => simp at h; subst h; exact absurd hk hp
      | succ i => exact mins_get_eq (l := r) (fun i j p q a b c => by have := hd (i + 1) (j + 1) p q (by simpa using a) (by simpa using b) c; omega) (by simpa using h) hk
theorem mins_key_lt {α : Type} {k : MK} {y : α} : ∀ {l : List (MK × α)} {i : Nat}, i < l.length → ((mins k y l)[i]?).map (·.1) = (l[i]?).map (·.1)
  | [], i, h => by simp at h
  | p :: r, i, h => by
    unfold mins
    split
    · rename_i hp
      cases i with
      | zero => simp [hp]
      | succ i => simp
    · cases i with
      | zero => simp
      | succ i => simpa using mins_key_lt (l := r) (i := i) (by simpa using h)
theorem mins_key_ge {α : Type} {k : MK} {y : α} : ∀ {l : List (MK × α)} {i : Nat} {p : MK × α}, (mins k y l)[i]? = some p → l.length ≤ i → p.1 = k
  | [], i, p, h, _ => by
    cases i with
    | zero => simp [mins] at h; subst h; rfl
    | succ i => simp [mins] at h
  | q :: r, i, p, h, hi => by
    unfold mins at h
    split at h
    · cases i with
      | zero => simp at hi
      | succ i =>
        have := (List.getElem?_eq_some_iff.1 h).1
        simp at this hi
        omega
    · cases i with
      | zero => simp at hi
      | succ i => exact mins_key_ge (l := r) (by simpa using h) (by simpa using hi)
theorem mins_len_ge {α : Type} {k : MK} {y : α} : ∀ (l : List (MK × α)), l.length ≤ (mins k y l).length
  | [] => by simp [mins]
  | p :: r => by
    unfold mins
    split
    · simp
    · have := mins_len_ge (k := k) (y := y) r
      simp only [List.length_cons]
      omega
theorem mins_mem {α : Type} {k : MK} {y : α} {l : List (MK × α)} {p : MK × α} (h : p ∈ mins k y l) : p = (k, y) ∨ (p ∈ l ∧ p.1 ≠ k) ∨ (p ∈ l) := by
  induction l with
  | nil => simp [mins] at h; exact .inl h
  | cons q r ih =>
    unfold mins at h
    split at h
    · rcases List.mem_cons.1 h with h | h
      · exact .inl h
      · exact .inr (.inr (List.mem_cons_of_mem _ h))
    · rcases List.mem_cons.1 h with h | h
      · exact .inr (.inr (by rw [h]; exact List.mem_cons_self))
      · rcases ih h with h | ⟨h, _⟩ | h
        · exact .inl h
        · exact .inr (.inr (List.mem_cons_of_mem _ h))
        · exact .inr (.inr (List.mem_cons_of_mem _ h))

/-- The row that a map holds for a key; none: nil. -/
theorem map_row {id : Nat} {e : TypeId} {sz : Nat} {kvs : List (MK × List (List IV))} {pend : Option MK} {b : Nat} {vals : List (MK × Value)} (h : Rel ok0 N w0 lk lo a w L) (hid : lo id = some (.mapr e sz kvs pend)) (hL : L id = .map b vals) (k : MK) :
    ∃ xs, ownsF w0.fr w e sz ((mfind k vals).getD (.slice none 0 0)) ((mfind k kvs).getD []).length xs ∧ ((mfind k vals).getD (.slice none 0 0)).ownBlock ≠ some b ∧ (∀ c ∈ (mfind k kvs).getD [], c.length = sz) ∧ (∀ u ∈ xs, u.oneCell' = true) ∧
      (∀ (i j : Nat) (c : List IV) (x : IV) (u : Value), ((mfind k kvs).getD [])[i]? = some c → c[j]? = some x → xs[i * sz + j]? = some u → RepI (okL ok0 lo L) w x u) ∧
      (∀ g, ((mfind k vals).getD (.slice none 0 0)).ownBlock = some g → (L id).has g ∧ ∀ (j : Nat) (q : MK × Value), vals[j]? = some q → q.1 ≠ k → q.2.ownBlock ≠ some g) := by
  have hob := h.objs _ _ hid
  rw [hL] at hob
  obtain ⟨hF, _, hdd, hkv2, hrow, hap⟩ := hob
  cases hf : mfind k vals with
  | none =>
    have hkn : mfind k kvs = none := by
      cases hk : mfind k kvs with
      | none => rfl
      | some y =>
        obtain ⟨i, hi⟩ := mfind_some hk
        obtain ⟨q, hq, hqk⟩ := val_at hkv2 hi
        exact absurd hqk (mfind_none hf i q hq)
    rw [hkn]
    exact ⟨[], ⟨⟨by simp, .inl ⟨rfl, rfl⟩⟩, fun b hb => by simp [Value.ownBlock] at hb⟩, by simp [Value.ownBlock], by simp, by simp, by simp, fun g hg => by simp [Value.ownBlock] at hg⟩
  | some v0 =>
    obtain ⟨i, hi⟩ := mfind_some hf
    obtain ⟨p, hp, hpk⟩ := val_of hkv2 hi
    simp only at hpk
    have hp' : kvs[i]? = some (k, p.2) := by rw [hp, ← hpk]
    have hk : mfind k kvs = some p.2 := mfind_of hdd hp'
    obtain ⟨xs, h1, h2, h3, h4, h5⟩ := hrow i p _ hp hi
    rw [hk]
    simp only [Option.getD_some]
    refine ⟨xs, h1, h2, h3, h4, h5, fun g hg => ⟨by rw [hL]; exact .inr ⟨_, List.mem_of_getElem? hi, hg⟩, fun j q hq hqk hqg => ?_⟩⟩
    have hne : i ≠ j := fun e => by
      subst e
      rw [hi] at hq
      injection hq with hq
      subst hq
      exact hqk rfl
    exact hap i j _ q g hne hi hq hg hqg

theorem back_map {id : Nat} {e : TypeId} {sz : Nat} {kvs : List (MK × List (List IV))} {b : Nat} {vals : List (MK × Value)} {k : MK} {rows' : List (List IV)} {v' : Value} {xs' : List Value} {w' : World} (h : Rel ok0 N w0 lk lo a w L) (hok0 : ∀ b, ¬ w0.fr b → ok0 b)
    (hid : lo id = some (.mapr e sz kvs none)) (hL : L id = .map b vals) (hr : RowBack w (okL ok0 lo L) e sz ((mfind k kvs).getD []) ((mfind k vals).getD (.slice none 0 0)) rows' v' xs' w') :
    Rel ok0 N w0 lk (setO lo id (.mapr e sz (mins k rows' kvs) (some k))) a w' (setL L id (.map b (mins k v' vals))) ∧
    ∀ ok, RepA ok w' (setO lo id (.mapr e sz (mins k rows' kvs) (some k))) (setL L id (.map b (mins k v' vals))) (.mref id k rows'.length) v' := by
  obtain ⟨xs, g1, g2, g3, g4, g5, g6⟩ := map_row h hid hL k
  have hob := h.objs _ _ hid
  rw [hL] at hob
  obtain ⟨hF, ⟨es, clock, hb, n, hn, hmr, hnew, hval⟩, hdd, hkv2, hrow, hap⟩ := hob
  generalize hv0 : (mfind k vals).getD (.slice none 0 0) = v0 at hr g1 g2 g6
  generalize hrows : (mfind k kvs).getD [] = rows at hr g1 g3 g5
  have hblt := (Array.getElem?_eq_some_iff.1 hb).1
  have h0 : ∀ b, v0.ownBlock = some b → (L id).has b ∧ ¬ w0.fr b := fun b hb => ⟨(g6 b hb).1, g1.free b hb⟩
  have hvd := vals_apart hkv2 hdd
  have mem : ∀ (p : MK × Value), p ∈ mins k v' vals → p = (k, v') ∨ ∃ j : Nat, vals[j]? = some p ∧ p.1 ≠ k := by
    intro p hp
    obtain ⟨j, hj⟩ := List.getElem?_of_mem hp
    by_cases hpk : p.1 = k
    · exact .inl (mins_get_eq hvd hj hpk)
    · exact .inr ⟨j, mins_get_ne hj hpk, hpk⟩
  have hl2 : ∀ g, (Lay.map b (mins k v' vals)).has g → v'.ownBlock = some g ∨ ((L id).has g ∧ v0.ownBlock ≠ some g) := by
    intro g hg
    rcases hg with hg | ⟨p, hp, hg⟩
    · subst hg
      exact .inr ⟨by rw [hL]; exact .inl rfl, g2⟩
    · rcases mem p hp with rfl | ⟨j, hj, hjk⟩
      · exact .inl hg
      · exact .inr ⟨by rw [hL]; exact .inr ⟨p, List.mem_of_getElem? hj, hg⟩, fun hbad => (g6 g hbad).2 j p hj hjk hg⟩
  have hl' : ∀ g, (Lay.map b (mins k v' vals)).has g → (L id).has g ∨ w.heap.size ≤ g := by
    intro g hg
    rcases hl2 g hg with h1 | ⟨h1, _⟩
    · exact (hr.blk g h1).imp (fun h => (h0 g h).1) (fun h => h)
    · exact .inl h1
  have hg : Only (L id).has w w' := ⟨hr.keep.os, hr.keep.tape, hr.keep.output, hr.keep.size, fun k hk hn => hr.keep.block k ⟨hk, fun e => hn (h0 k e).1⟩⟩
  have hsl' := ownsRow_isSl hr.own
  have hf1 := mfind_mins_self (k := k) (y := rows') kvs
  have hf2 := mfind_mins_self (k := k) (y := v') vals
  have hok : ∀ g, okL ok0 lo L g → g < w.heap.size → okL ok0 (setO lo id (.mapr e sz (mins k rows' kvs) (some k))) (setL L id (.map b (mins k v' vals))) g := fun g hk hlt => h.okL_turn hid hl' hk hlt
  have heq : ∀ g, okL ok0 lo L g → g < w.heap.size → w'.heap[g]? = w.heap[g]? := fun g hk hlt => hg.block g hlt (hk.2 id _ hid)
  refine ⟨h.turn id hid hg hl' (fun z u hz hu => ?_) (fun _ => ?_), fun ok => ?_⟩
  · obtain ⟨b3, vals3, hL3, hu⟩ := refs_mapr hid hz hu
    rw [hL] at hL3
    injection hL3 with q1 q2
    subst q1 q2
    rcases hu with ⟨rfl, rfl⟩ | ⟨k3, n3, rfl, h3, h3n, h4⟩
    · exact .orow id b e sz (mins k rows' kvs) (some k) (mins k v' vals) (by simp [setO]) (by simp [setL])
    · by_cases hk3 : k3 = k
      · subst hk3
        rw [hrows] at h3n h4
        rw [hv0] at h4
        have hle := hr.le
        refine .mref id k3 n3 e sz (mins k3 rows' kvs) (some k3) b (mins k3 v' vals) u (by simp [setO]) (by simp [setL]) h3 (by rw [hf1]; simp only [Option.getD_some]; omega) (fun hl => ?_)
        rw [hf1] at hl
        rw [hf2]
        simp only [Option.getD_some] at hl ⊢
        have : rows'.length = rows.length := by omega
        rw [hr.same this]
        exact h4 (by omega)
      · have e1 := mfind_mins_ne (y := rows') hk3 kvs
        have e2 := mfind_mins_ne (y := v') hk3 vals
        exact .mref id k3 n3 e sz (mins k rows' kvs) (some k) b (mins k v' vals) u (by simp [setO]) (by simp [setL]) h3 (by rw [e1]; exact h3n) (fun hl => by rw [e2]; exact h4 (by rw [e1] at hl; exact hl))
  · have hkl : n = kvs.length := by
      rcases Nat.lt_or_ge n kvs.length with hlt | hge
      · have := hnew n _ (List.getElem?_eq_getElem hlt) (Nat.le_refl _)
        cases this
      · omega
    refine ⟨hF, ⟨es, clock, (hr.keep.block b ⟨hblt, g2⟩).trans hb, n, by have := mins_len_ge (k := k) (y := rows') kvs; omega, ⟨hmr.size, fun i e he => ?_, hmr.born, hmr.apart⟩, fun i p hp hi => ?_, fun i e q he hq hqk => ?_⟩, mins_apart hdd, mins_len hkv2, fun i p q hp hq => ?_, fun i j p q g hij hp hq hpg hqg => ?_⟩
    · have hi := (Array.getElem?_eq_some_iff.1 he).1
      rw [hmr.size, hkl] at hi
      rw [mins_key_lt hi]
      exact hmr.keys i e he
    · rw [mins_key_ge hp (by omega)]
    · have hqk' : q.1 ≠ k := fun e => hqk (by rw [e])
      exact hval i e q he (mins_get_ne hq hqk') (by simp)
    · have hpq : q.1 = p.1 := by
        obtain ⟨p', hp', hpq⟩ := val_of (mins_len (k := k) (y := rows') (y' := v') hkv2) hq
        rw [hp] at hp'
        injection hp' with hp'
        rw [hp', hpq]
      by_cases hpk : p.1 = k
      · have e1 := mins_get_eq hdd hp hpk
        have e2 := mins_get_eq hvd hq (by rw [hpq, hpk])
        subst e1 e2
        refine ⟨xs', ⟨hr.own, fun g hg => (hr.blk g hg).elim (fun h1 => g1.free g h1) (fun h2 => h.frlt h2)⟩, fun hbad => ?_, hr.size, hr.one, fun i j c x u h1 h2 h3 => (hr.cells i j c x u h1 h2 h3).mono fun g hg _ => ⟨okL_back (l' := .map b (mins k v' vals)) h hok0 hid h0 hl2 hg, rfl⟩⟩
        rcases hr.blk b hbad with h1 | h1
        · exact g2 h1
        · omega
      · have hqk : q.1 ≠ k := by rw [hpq]; exact hpk
        have hp' := mins_get_ne hp hpk
        have hq' := mins_get_ne hq hqk
        obtain ⟨ys, h1, h2, h3, h4, h5⟩ := hrow i p q hp' hq'
        refine ⟨ys, h1.stay fun g hg => hr.keep.block g ⟨h1.lt' hg, fun hbad => (g6 g hbad).2 i q hq' hqk hg⟩, h2, h3, h4, fun i j c x u a1 a2 a3 => (h5 i j c x u a1 a2 a3).mono fun g hg hlt => ⟨hok g hg hlt, heq g hg hlt⟩⟩
    · have clash : ∀ (i j : Nat) (q : MK × Value), (mins k v' vals)[j]? = some q → q.1 ≠ k → v'.ownBlock = some g → q.2.ownBlock = some g → False := by
        intro i j q hq hqk h1 h2
        have hq' := mins_get_ne hq hqk
        rcases hr.blk g h1 with h3 | h3
        · exact (g6 g h3).2 j q hq' hqk h2
        · obtain ⟨p', hp', _⟩ := val_of hkv2 hq'
          obtain ⟨ys, h4, _⟩ := hrow j p' q hp' hq'
          have := h4.lt' h2
          omega
      by_cases hpk : p.1 = k
      · have hqk : q.1 ≠ k := fun e => hij (mins_apart hvd i j p q hp hq (by rw [hpk, e]))
        have e1 := mins_get_eq hvd hp hpk
        subst e1
        exact clash i j q hq hqk hpg hqg
      · by_cases hqk : q.1 = k
        · have e1 := mins_get_eq hvd hq hqk
          subst e1
          exact clash j i p hp hpk hqg hpg
        · exact hap i j p q g hij (mins_get_ne hp hpk) (mins_get_ne hq hqk) hpg hqg
  · exact .mref id k rows'.length e sz (mins k rows' kvs) (some k) b (mins k v' vals) v' (by simp [setO]) (by simp [setL]) hsl' (by rw [hf1]; simp) (fun _ => by rw [hf2]; rfl)
end
end Go.Ev

/- A region's operations in the text's order serve every order. -/
namespace Go.Ev
open Go Go.RowKit

structure Fs where
  lk : Nat → AV
  lo : Nat → Option AO

def Fs.app (σ : Fs) (d : Option Nat) (v : AV) (up : Option (Nat × AO)) : Fs := ⟨setK σ.lk d v, upO σ.lo up⟩

/-- What an operation that is wanted gives. -/
inductive Gives (P : Program) (K : World → Prop) : AOp → Fs → AV → Option (Nat × AO) → Prop
  | plain (op : AOp) (σ : Fs) (s f : Prop) (v : AV) (up : Option (Nat × AO)) (he : ev σ.lk σ.lo op = .ok s f v up) (hs : s) : Gives P K op σ v up
  | call (g : FuncId) (args : List Opd) (ids : List Nat) (σ : Fs) (xs : List IV) (r : IV) (hp : peek σ.lo ids (args.map (·.av σ.lk)) = some xs) (hg : Good P K g xs r) (hr : ids = [] ∨ scalar r = true) : Gives P K (.call g args ids) σ (.iv r) none
  | callo (g : FuncId) (args : List Opd) (id : Nat) (σ : Fs) (xs : List IV) (q : AV) (e : TypeId) (sz : Nat) (rows : List (List IV)) (mv : Nat) (hp : ivs (args.map (·.av σ.lk)) = some xs) (hg : GoodO P K g xs q e sz rows mv) (hid : σ.lo id = none) :
      Gives P K (.callo g args [] id) σ (ren id q) (some (id, rowO e sz rows mv))
  | calld (x : Opd) (g : FuncId) (args : List Opd) (ids : List Nat) (σ : Fs) (xs : List IV) (r : IV) (hx : x.av σ.lk = .iv (.fn g)) (hc : callee P g = true) (hp : peek σ.lo ids (args.map (·.av σ.lk)) = some xs) (hg : Good P K g xs r) (hr : ids = [] ∨ scalar r = true) :
      Gives P K (.calld x args ids) σ (.iv r) none
  | callr (g : FuncId) (x : Opd) (args : List Opd) (id : Nat) (σ : Fs) (xs : List IV) (e : TypeId) (sz : Nat) (rows rows' : List (List IV)) (mv : Nat) (hx : x.av σ.lk = .aref id rows.length) (hid : σ.lo id = some (rowO e sz rows mv)) (hp : ivs (args.map (·.av σ.lk)) = some xs) (hg : GoodR P K g e sz rows xs rows') :
      Gives P K (.callr g x args id) σ (.aref id rows'.length) (some (id, rowO e sz rows' rows'.length))
  | callm (g : FuncId) (x : Opd) (args : List Opd) (id : Nat) (σ : Fs) (xs : List IV) (e : TypeId) (sz : Nat) (kvs : List (MK × List (List IV))) (k : MK) (n : Nat) (rows' : List (List IV)) (hx : x.av σ.lk = .mref id k n) (hn : ((mfind k kvs).getD []).length = n) (hid : σ.lo id = some (.mapr e sz kvs none))
      (hp : ivs (args.map (·.av σ.lk)) = some xs) (hg : GoodR P K g e sz ((mfind k kvs).getD []) xs rows') :
      Gives P K (.callr g x args id) σ (.mref id k rows'.length) (some (id, .mapr e sz (mins k rows' kvs) (some k)))

def Yields (P : Program) (K : World → Prop) (A : AOper) (σ : Fs) (v : AV) (up : Option (Nat × AO)) : Prop :=
  match A.g with
  | none => Gives P K A.op σ v up
  | some (t, b) => (σ.lk t = .iv (.bool b) ∧ Gives P K A.op σ v up) ∨ ((σ.lk t = .iv (.bool (!b)) ∨ σ.lk t = .iv (.tup [])) ∧ v = .iv (.tup []) ∧ up = none)

def AOper.tmps (A : AOper) : List Nat := A.op.tmps ++ (match A.g with | some (t, _) => [t] | none => [])

theorem peek_congr {lo lo' : Nat → Option AO} {ids : List Nat} {xs : List AV} (h : ∀ i ∈ ids, lo' i = lo i) : peek lo' ids xs = peek lo ids xs := by
  unfold peek
  split
  · rfl
  · congr 1
    funext i
    split
    · rename_i hi
      exact h i (by simpa using hi)
    · rfl

section
variable {P : Program} {K : World → Prop}

theorem Gives.congr {op : AOp} {σ σ' : Fs} {v : AV} {up : Option (Nat × AO)} (h : Gives P K op σ v up) (h1 : ∀ t ∈ op.tmps, σ'.lk t = σ.lk t) (h2 : ∀ i ∈ op.objs, σ'.lo i = σ.lo i) : Gives P K op σ' v up := by
  cases h with
  | plain op σ s f v up he hs => exact .plain _ _ s f _ _ (by rw [ev_congr h1 h2]; exact he) hs
  | call g args ids _ xs r hp hg hr =>
    refine .call g args ids σ' xs r ?_ hg hr
    rw [map_av_congr (lk := σ.lk) (lk' := σ'.lk) (by simpa [AOp.tmps] using h1), peek_congr (lo := σ.lo) (by simpa [AOp.objs] using h2)]
    exact hp
  | callo g args id _ xs q e sz rows mv hp hg hid =>
    refine .callo g args id σ' xs q e sz rows mv ?_ hg ?_
    · rw [map_av_congr (lk := σ.lk) (lk' := σ'.lk) (by simpa [AOp.tmps] using h1)]
      exact hp
    · rw [h2 id (by simp [AOp.objs])]
      exact hid
  | calld x g args ids _ xs r hx hc hp hg hr =>
    refine .calld x g args ids σ' xs r ?_ hc ?_ hg hr
    · rw [Opd.av_congr (lk := σ.lk) (fun t ht => h1 t (by simp [AOp.tmps, ht]))]
      exact hx
    · rw [map_av_congr (lk := σ.lk) (lk' := σ'.lk) (fun t ht => h1 t (by simp only [AOp.tmps, List.mem_append]; exact .inr ht)), peek_congr (lo := σ.lo) (by simpa [AOp.objs] using h2)]
      exact hp
  | callr g x args id _ xs e sz rows rows' mv hx hid hp hg =>
    refine .callr g x args id σ' xs e sz rows rows' mv ?_ ?_ ?_ hg
    · rw [Opd.av_congr (lk := σ.lk) (fun t ht => h1 t (by simp [AOp.tmps, ht]))]
      exact hx
    · rw [h2 id (by simp [AOp.objs])]
      exact hid
    · rw [map_av_congr (lk := σ.lk) (lk' := σ'.lk) (fun t ht => h1 t (by simp only [AOp.tmps, List.mem_append]; exact .inr ht))]
      exact hp
  | callm g x args id _ xs e sz kvs k n rows' hx hn hid hp hg =>
    refine .callm g x args id σ' xs e sz kvs k n rows' ?_ hn ?_ ?_ hg
    · rw [Opd.av_congr (lk := σ.lk) (fun t ht => h1 t (by simp [AOp.tmps, ht]))]
      exact hx
    · rw [h2 id (by simp [AOp.objs])]
      exact hid
    · rw [map_av_congr (lk := σ.lk) (lk' := σ'.lk) (fun t ht => h1 t (by simp only [AOp.tmps, List.mem_append]; exact .inr ht))]
      exact hp

theorem Gives.sets {op : AOp} {σ : Fs} {v : AV} {id : Nat} {ob : AO} (h : Gives P K op σ v (some (id, ob))) : id ∈ op.sets := by
  cases h with
  | plain _ _ s f _ _ he hs => exact ev_sets he
  | callo => simp [AOp.sets]
  | callr => simp [AOp.sets]
  | callm => simp [AOp.sets]

theorem Yields.congr {A : AOper} {σ σ' : Fs} {v : AV} {up : Option (Nat × AO)} (h : Yields P K A σ v up) (h1 : ∀ t ∈ A.tmps, σ'.lk t = σ.lk t) (h2 : ∀ i ∈ A.op.objs, σ'.lo i = σ.lo i) : Yields P K A σ' v up := by
  unfold Yields AOper.tmps at *
  cases hg : A.g with
  | none =>
    simp only [hg] at h h1 ⊢
    exact h.congr (fun t ht => h1 t (by simp [ht])) h2
  | some tb =>
    obtain ⟨t, b⟩ := tb
    simp only [hg] at h h1 ⊢
    have ht := h1 t (by simp)
    rw [ht]
    exact h.imp (fun ⟨h3, h4⟩ => ⟨h3, h4.congr (fun t ht => h1 t (by simp [ht])) h2⟩) id

theorem Yields.sets {A : AOper} {σ : Fs} {v : AV} {id : Nat} {ob : AO} (h : Yields P K A σ v (some (id, ob))) : id ∈ A.op.sets := by
  unfold Yields at h
  split at h
  · exact h.sets
  · rcases h with ⟨_, h⟩ | ⟨_, _, h⟩
    · exact h.sets
    · cases h

/-- Two operations that do not look at what the other sets. -/
def apartA (A B : AOper) : Bool :=
  (match A.d with | some d => !B.tmps.contains d && B.d != some d | none => true) &&
  (match B.d with | some d => !A.tmps.contains d | none => true) &&
  A.op.sets.all (fun i => !B.op.objs.contains i && !B.op.sets.contains i) &&
  B.op.sets.all (fun i => !A.op.objs.contains i)

theorem apartA_spec {A B : AOper} (h : apartA A B = true) : (∀ d, A.d = some d → d ∉ B.tmps ∧ B.d ≠ some d) ∧ (∀ d, B.d = some d → d ∉ A.tmps) ∧
    (∀ i ∈ A.op.sets, i ∉ B.op.objs ∧ i ∉ B.op.sets) ∧ (∀ i ∈ B.op.sets, i ∉ A.op.objs) := by
  simp only [apartA, Bool.and_eq_true, List.all_eq_true] at h
  obtain ⟨⟨⟨h1, h2⟩, h3⟩, h4⟩ := h
  refine ⟨fun d hd => ?_, fun d hd => ?_, fun i hi => ?_, fun i hi => ?_⟩
  · simp [hd] at h1; exact h1
  · simp [hd] at h2; exact h2
  · have := h3 i hi; simp at this; exact this
  · have := h4 i hi; simp at this; exact this

theorem setK_keep {lk : Nat → AV} {d : Option Nat} {v : AV} {t : Nat} (h : ∀ x, d = some x → x ≠ t) : setK lk d v t = lk t := by
  cases d with
  | none => rfl
  | some x => simp [setK, Ne.symm (h x rfl)]

theorem upO_keep {lo : Nat → Option AO} {up : Option (Nat × AO)} {i : Nat} (h : ∀ x o, up = some (x, o) → x ≠ i) : upO lo up i = lo i := by
  cases up with
  | none => rfl
  | some p => obtain ⟨x, o⟩ := p; simp [upO, setO, Ne.symm (h x o rfl)]

theorem app_comm {A B : AOper} (h : apartA A B = true) {σ : Fs} {v u : AV} {up uq : Option (Nat × AO)} (hs : ∀ i o, up = some (i, o) → i ∈ A.op.sets) (hs' : ∀ i o, uq = some (i, o) → i ∈ B.op.sets) :
    (σ.app A.d v up).app B.d u uq = (σ.app B.d u uq).app A.d v up := by
  obtain ⟨h1, h2, h3, h4⟩ := apartA_spec h
  unfold Fs.app
  congr 1
  · funext t
    cases hA : A.d with
    | none => rfl
    | some d =>
      cases hB : B.d with
      | none => rfl
      | some d' =>
        have hne : d' ≠ d := fun e => (h1 d hA).2 (by rw [hB, e])
        simp only [setK]
        by_cases e1 : t = d' <;> by_cases e2 : t = d <;> simp_all
  · funext i
    cases up with
    | none => rfl
    | some p =>
      cases uq with
      | none => rfl
      | some q =>
        obtain ⟨x, ox⟩ := p
        obtain ⟨y, oy⟩ := q
        have hx := hs x ox rfl
        have hy := hs' y oy rfl
        have hne : y ≠ x := fun e => (h3 x hx).2 (e ▸ hy)
        simp only [upO, setO]
        by_cases e1 : i = y <;> by_cases e2 : i = x <;> simp_all

variable {ops : Array Oper} {as : List AOper} {md : Region.Mode}

def aqOp (P : Program) (K : World → Prop) (as : List AOper) (i : Nat) (C : Fs → Prop) (σ : Fs) : Prop :=
  match as[i]? with
  | none => C σ
  | some A => ∃ v up, Yields P K A σ v up ∧ C (σ.app A.d v up)

theorem aqOp_mono {i : Nat} {C C' : Fs → Prop} {σ : Fs} (h : ∀ σ, C σ → C' σ) (hh : aqOp P K as i C σ) : aqOp P K as i C' σ := by
  unfold aqOp at *
  split at hh
  · exact h _ hh
  · obtain ⟨v, up, h1, h2⟩ := hh; exact ⟨v, up, h1, h _ h2⟩

def wpAnyA (P : Program) (K : World → Prop) (md : Region.Mode) (ops : Array Oper) (as : List AOper) (Q : Fs → Prop) : Nat → Array Bool → Fs → Prop
  | 0, listed, σ => Region.ready md ops listed = [] ∧ Q σ
  | fuel + 1, listed, σ =>
    (Region.ready md ops listed = [] → Q σ) ∧
    ∀ i ∈ Region.ready md ops listed, aqOp P K as i (wpAnyA P K md ops as Q fuel (listed.setIfInBounds i true)) σ

theorem aqOp_put {j : Nat} {Ai Aj : AOper} {v : AV} {up : Option (Nat × AO)} (hj : as[j]? = some Aj) (hap : apartA Ai Aj = true) {C : Fs → Prop} {σ : Fs}
    (hy : Yields P K Ai σ v up) (h : aqOp P K as j C (σ.app Ai.d v up)) :
    aqOp P K as j (fun σ' => Yields P K Ai σ' v up ∧ C (σ'.app Ai.d v up)) σ := by
  obtain ⟨h1, h2, h3, h4⟩ := apartA_spec hap
  have hsi : ∀ i o, up = some (i, o) → i ∈ Ai.op.sets := fun i o e => by subst e; exact hy.sets
  unfold aqOp at *
  simp only [hj] at *
  obtain ⟨u, uq, hu, hc⟩ := h
  have hu' : Yields P K Aj σ u uq := by
    refine hu.congr (fun t ht => ?_) (fun i hi => ?_)
    · simp only [Fs.app]
      exact (setK_keep fun x hx e => (h1 x hx).1 (e ▸ ht)).symm
    · simp only [Fs.app]
      exact (upO_keep fun x o hx e => (h3 x (hsi x o hx)).1 (e ▸ hi)).symm
  have hsj : ∀ i o, uq = some (i, o) → i ∈ Aj.op.sets := fun i o e => by subst e; exact hu.sets
  refine ⟨u, uq, hu', hy.congr (fun t ht => ?_) (fun i hi => ?_), ?_⟩
  · simp only [Fs.app]
    exact setK_keep fun x hx e => h2 x hx (e ▸ ht)
  · simp only [Fs.app]
    exact upO_keep fun x o hx e => h4 x (hsj x o hx) (e ▸ hi)
  · rw [← app_comm hap hsi hsj]
    exact hc

theorem wpAnyA_first {Q : Fs → Prop} {i : Nat} {Ai : AOper} {v : AV} {up : Option (Nat × AO)} (hlen : ops.size = as.length) (hi : as[i]? = some Ai) :
    ∀ (fuel : Nat) (listed : Array Bool) (σ : Fs),
      (∀ j Aj oj, as[j]? = some Aj → ops[j]? = some oj → j ≠ i → listed.getD j true = false → (∀ e ∈ oj.after, Region.binds md e = true → e.on ≠ i) → apartA Ai Aj = true) →
      i ∈ Region.ready md ops listed → Yields P K Ai σ v up →
      wpAnyA P K md ops as Q fuel (listed.setIfInBounds i true) (σ.app Ai.d v up) → wpAnyA P K md ops as Q (fuel + 1) listed σ := by
  intro fuel
  induction fuel with
  | zero =>
    intro listed σ _ hr hy H
    refine ⟨fun h => (by rw [h] at hr; cases hr), fun j hj => ?_⟩
    by_cases hji : j = i
    · subst hji
      unfold aqOp; simp only [hi]; exact ⟨v, up, hy, H⟩
    · have := ready_mono hj hji
      rw [H.1] at this
      cases this
  | succ fuel ih =>
    intro listed σ hfree hr hy H
    refine ⟨fun h => (by rw [h] at hr; cases hr), fun j hj => ?_⟩
    by_cases hji : j = i
    · subst hji
      unfold aqOp; simp only [hi]; exact ⟨v, up, hy, H⟩
    · have h1 := H.2 j (ready_mono hj hji)
      obtain ⟨hjun, oj, hoj, hall⟩ := mem_ready.1 hj
      have hjlt : j < as.length := by
        have := (Array.getElem?_eq_some_iff.1 hoj).1
        omega
      have hAj : as[j]? = some as[j] := List.getElem?_eq_getElem hjlt
      have hnot : ∀ e ∈ oj.after, Region.binds md e = true → e.on ≠ i := fun e he hb heq => by
        have h1 := hall e he hb
        have h0 := (mem_ready.1 hr).1
        rw [heq] at h1
        rcases Nat.lt_or_ge i listed.size with h' | h'
        · simp [h'] at h0 h1; rw [h0] at h1; cases h1
        · simp [Array.getElem?_eq_none h'] at h1
      have h2 := aqOp_put hAj (hfree j _ oj hAj hoj hji hjun hnot) hy h1
      have hfree' : ∀ k Ak ok, as[k]? = some Ak → ops[k]? = some ok → k ≠ i → (listed.setIfInBounds j true).getD k true = false →
          (∀ e ∈ ok.after, Region.binds md e = true → e.on ≠ i) → apartA Ai Ak = true := fun k Ak ok hAk hok hki hun hno => by
        refine hfree k Ak ok hAk hok hki ?_ hno
        by_cases hjk : j = k
        · subst hjk; exact hjun
        · rw [getD_set_ne true hjk] at hun; exact hun
      refine aqOp_mono (fun σ' h3 => ih (listed.setIfInBounds j true) σ' hfree' (ready_mono hr (Ne.symm hji)) h3.1 ?_) h2
      rw [Array.setIfInBounds_comm _ _ hji]
      exact h3.2

/-- Each operation, in the text's order. -/
inductive Path (P : Program) (K : World → Prop) : List AOper → Fs → Fs → Prop
  | nil (σ : Fs) : Path P K [] σ σ
  | cons (A : AOper) (l : List AOper) (σ σ' : Fs) (v : AV) (up : Option (Nat × AO)) (hy : Yields P K A σ v up) (h : Path P K l (σ.app A.d v up) σ') : Path P K (A :: l) σ σ'

/-- Operations that need not wait for each other are apart. -/
def pairsOk (ops : Array Oper) (as : List AOper) : Bool :=
  (List.range as.length).all fun i => (List.range as.length).all fun j =>
    match as[i]?, as[j]?, ops[j]? with
    | some A, some B, some o => !decide (i < j) || o.after.any (fun e => Region.binds .any e && e.on == i) || apartA A B
    | _, _, _ => false

theorem pairsOk_spec (h : pairsOk ops as = true) {i j : Nat} {A B : AOper} {o : Oper} (hi : as[i]? = some A) (hj : as[j]? = some B) (ho : ops[j]? = some o) (hij : i < j)
    (hn : ∀ e ∈ o.after, Region.binds .any e = true → e.on ≠ i) : apartA A B = true := by
  simp only [pairsOk, List.all_eq_true, List.mem_range] at h
  have := h i (List.getElem?_eq_some_iff.1 hi).1 j (List.getElem?_eq_some_iff.1 hj).1
  simp only [hi, hj, ho, hij, decide_true, Bool.not_true, Bool.false_or, Bool.or_eq_true, Array.any_eq_true'] at this
  rcases this with ⟨e, he, hb⟩ | h
  · simp only [Bool.and_eq_true, beq_iff_eq] at hb
    exact absurd hb.2 (hn e he hb.1)
  · exact h

theorem wpAnyA_lex {Q : Fs → Prop} (hlen : ops.size = as.length) (hpairs : pairsOk ops as = true) : ∀ (l : List AOper) (k : Nat) (listed : Array Bool) (σ σ' : Fs), (∀ j, l[j]? = as[k + j]?) →
    (∀ j, j < k → listed.getD j true = true) → Region.lexFrom .any ops l.length k listed = true → Path P K l σ σ' → Q σ' → wpAnyA P K .any ops as Q l.length listed σ
  | [], _, _, σ, σ', _, _, hB, hp, h => by
    cases hp
    exact ⟨by simpa [Region.lexFrom] using hB, h⟩
  | A :: l, k, listed, σ, σ', hl, hlist, hB, hp, h => by
    have h0 : as[k]? = some A := by simpa using (hl 0).symm
    simp only [List.length_cons, Region.lexFrom, Bool.and_eq_true] at hB
    obtain ⟨⟨hr, hf⟩, hB'⟩ := hB
    cases hp with
    | cons _ _ _ _ v up hy hp =>
      refine wpAnyA_first hlen h0 l.length listed σ (fun j Aj oj hAj hoj hji hun hno => ?_) (by simpa using hr) hy
        (wpAnyA_lex hlen hpairs l (k + 1) _ _ σ' (fun j => by have := hl (j + 1); simpa [Nat.add_assoc, Nat.add_comm 1 j] using this) (fun j hj => ?_) hB' hp h)
      · have hjk : k < j := by
          rcases Nat.lt_or_ge j k with hlt | hge
          · rw [hlist j hlt] at hun; cases hun
          · omega
        exact pairsOk_spec hpairs h0 hAj hoj hjk hno
      · by_cases hjk : j = k
        · subst hjk
          by_cases hs : j < listed.size
          · simp [hs]
          · simp [Array.getElem?_eq_none (Nat.le_of_not_lt hs)]
        · rw [getD_set_ne true (Ne.symm hjk)]
          exact hlist j (by omega)

end
end Go.Ev
