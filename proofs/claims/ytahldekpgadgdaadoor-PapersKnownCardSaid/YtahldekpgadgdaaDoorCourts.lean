/- Which facts matter, and where readings do not agree. -/
import Derived.Test.YtahldekpgadgdaaDoorAsks
set_option linter.all false

namespace Go.Pp
open Go Go.Ev Go.Proofs Go.RowKit

def mattersAt (fs : List Int) (L : List Rd) (i : Nat) : Bool := (tru fs).any fun t => L.any fun r => val r t != val r (t ^^^ 2 ^ i)
def mattersN (fs : List Int) (L : List Rd) (m : Nat) : List Nat := (List.range m).filter fun i => decide (fs.getD i 0 = 3) && mattersAt fs L i
theorem mattersN_succ (fs : List Int) (L : List Rd) (m : Nat) : mattersN fs L (m + 1) = mattersN fs L m ++ (if decide (fs.getD m 0 = 3) && mattersAt fs L m then [m] else []) := by
  simp only [mattersN, List.range_succ, List.filter_append, List.filter_cons, List.filter_nil]
theorem mattersN_len (fs : List Int) (L : List Rd) (m : Nat) : (mattersN fs L m).length ≤ m := by
  have := List.length_filter_le (fun i => decide (fs.getD i 0 = 3) && mattersAt fs L i) (List.range m)
  simpa [mattersN] using this
def mattersL (s : W) (fs : List Int) : List Nat := mattersN fs (rs s fs) fs.length
def mattersV (s : W) (fs : List Int) : IV := .tup [natsI (mattersL s fs), .int .i64 (err s fs)]
theorem mattersL_none {s : W} {fs : List Int} (h : err s fs ≠ 0) : mattersL s fs = [] := by
  simp [mattersL, mattersN, mattersAt, rs_err h]

/-- Where two readings do not agree: the first truth. -/
def clash (L : List Rd) (t : Nat) : Bool := match L with | [] => false | r0 :: L' => (r0 :: L').any fun r => val r t != val r0 t
def doubtAt (s : W) (fs : List Int) : Option Nat := (tru fs).find? (clash (rs s fs))
def bitsOf (t n : Nat) : List Nat := (List.range n).map fun i => (t.testBit i).toNat
def doubtE (s : W) (fs : List Int) : Int := if err s fs ≠ 0 then err s fs else match doubtAt s fs with | some _ => 0 | none => 3
def doubtL (s : W) (fs : List Int) : List Nat := if err s fs ≠ 0 then [] else match doubtAt s fs with | some t => bitsOf t fs.length | none => []
def doubtV (s : W) (fs : List Int) : IV := .tup [natsI (doubtL s fs), .int .i64 (doubtE s fs)]
def clearV (s : W) (fs : List Int) : IV := .tup [.bool (decide (err s fs = 0) && (doubtAt s fs).isNone), .int .i64 (err s fs)]

theorem err_val (s : W) (fs : List Int) : err s fs = 0 ∨ err s fs = 130 ∨ err s fs = 131 := by
  unfold err
  split
  · exact .inr (.inl rfl)
  · split
    · exact .inr (.inr rfl)
    · exact .inl rfl

@[simp] def ob4 (id : Nat) (M : List Nat) : Objs := [(id, AO.arr 3 1 (emb (M.map fun n => [.int .i64 (n : Nat)])) 0)]

theorem bits41 {K : World → Prop} {r : IV} (t : Nat) (fs : List Int) (ht : t < 64) (hf : fs.length ≤ 6) (kk : List AI)
    (h : LoopF Tryd.prog K (RetIs [ARes.tmp 2, ARes.tmp 3] r) c41_b0 [7, 10, 52, 53] [10] kk
      [(7, .iv (.int .u64 t)), (10, .aref 10 (bitsOf t fs.length).length), (52, .iv (.int .i64 (fs.length : Nat))), (53, .iv (.int .i64 (fs.length : Nat)))] (ob4 10 (bitsOf t fs.length))) :
    LoopF Tryd.prog K (RetIs [ARes.tmp 2, ARes.tmp 3] r) c41_b0 [7, 10, 52, 53] [10] kk
      [(7, .iv (.int .u64 t)), (10, .aref 10 0), (52, .iv (.int .i64 (fs.length : Nat))), (53, .iv (.int .i64 0))] (ob4 10 []) := by
  have := loop_up (P := Tryd.prog) (K := K) (F := RetIs [ARes.tmp 2, ARes.tmp 3] r) (c := c41_b0) (ks := [7, 10, 52, 53]) (ids := [10]) (k := kk)
    (fun i => [(7, .iv (.int .u64 t)), (10, .aref 10 (bitsOf t i).length), (52, .iv (.int .i64 (fs.length : Nat))), (53, .iv (.int .i64 (i : Nat)))]) (fun i => ob4 10 (bitsOf t i)) fs.length h (fun i hi ih => ?_)
  · simpa [bitsOf] using this
  · have e1 : bitsOf t (i + 1) = bitsOf t i ++ [(t.testBit i).toNat] := by simp [bitsOf, List.range_succ]
    have e2 : (bitsOf t i).length = i := by simp [bitsOf]
    have e3 := bit_u64 t i (by omega)
    have e4 := toNat_le_one (t.testBit i)
    have e5 : IntKind.wrap .i64 (((t.testBit i).toNat : Nat) : Int) = (t.testBit i).toNat := wrap_i64 (by omega) (by omega)
    have hi' : (i : Int) < fs.length := by omega
    rw [e1] at ih
    generalize bitsOf t i = M at *
    rw [LoopAt_enter c41_b0.eq_1]
    simp at ih
    simp [hi', e3, e5]
    exact ⟨by omega, by omega, ih⟩

section
variable {K : World → Prop} (hK : ∀ w w', K w → Below w.heap.size w w' → K w')
include hK
variable (hS : ∀ s : W, s.length ≤ 1000 → Good Tryd.prog K 63 [.str s, .str [32]] (strs (spl s)))
include hS
theorem good40 (s : W) (fs : List Int) (hs : fit s) : Good Tryd.prog K 40 [paperV s fs] (mattersV s fs) := by
  refine good_of_wp hK c40_ok (by simp) ?_
  simp
  refine callK_of (good52 hK hS s fs hs.1 hs.2) (by simp) ?_
  by_cases h : err s fs = 0
  · have hl := rs_len s fs
    have hc := (err_ok h).1
    have hf := factsOk_len hc
    have ht := tru_len hf
    have hlt := tru_lt hf
    simp only [mattersV, mattersL, pap, h, if_true]
    generalize rs s fs = L at *
    generalize hT : tru fs = T at *
    have at_ : ∀ i, mattersAt fs L i = T.any fun t => L.any fun r => val r t != val r (t ^^^ 2 ^ i) := fun i => by rw [← hT]; rfl
    simp
    intro _
    refine loop_up (fun i => [(4, .iv (.ptr [rds L, nats T])), (6, .aref 6 (mattersN fs L i).length), (22, .iv (ints fs)), (23, .iv (.int .i64 (fs.length : Nat))), (24, .iv (.int .i64 (i : Nat)))]) (fun i => ob4 6 (mattersN fs L i)) fs.length ?_ ?_
    · rw [LoopAt_enter c40_b2.eq_1]
      simp
    · intro i hi ih
      have e1 := mattersN_len fs L i
      rw [mattersN_succ] at ih
      generalize mattersN fs L i = M at *
      have hp : 2 ^ i ≤ 2 ^ 5 := Nat.pow_le_pow_right (by omega) (by omega)
      have hsh : shlV .u64 1 (i : Int) = 2 ^ i := by
        have := shl_u64 1 i (by omega) (by omega)
        simpa using this
      rw [LoopAt_enter c40_b2.eq_1]
      simp [hi] at ih ⊢
      refine ⟨fun f3 => ?_, fun f3 => ?_⟩
      · simp [f3] at ih
        exact ⟨by omega, ih⟩
      · simp [f3] at ih
        intro _
        have yes : mattersAt fs L i = true → _ := fun hm => by rw [if_pos hm] at ih; exact ih
        have no : mattersAt fs L i = false → _ := fun hm => by rw [if_neg (by simp [hm])] at ih; exact ih
        clear ih
        refine loop_q (fun j => [(4, .iv (.ptr [rds L, nats T])), (6, .aref 6 M.length), (7, .iv (.int .i64 (i : Nat))), (22, .iv (ints fs)), (23, .iv (.int .i64 (fs.length : Nat))), (24, .iv (.int .i64 (i : Nat))), (34, .iv (nats T)), (35, .iv (.int .i64 (T.length : Nat))), (36, .iv (.int .i64 (j : Nat)))]) (fun _ => ob4 6 M) T.length
          (fun j => ∀ t ∈ T.take j, ∀ r ∈ L, val r t = val r (t ^^^ 2 ^ i)) (by simp) ?_ ?_
        · intro hq
          have hm : mattersAt fs L i = false := by
            rw [at_]
            simp at hq ⊢
            exact hq
          have := no hm
          rw [LoopAt_enter c40_b1.eq_1]
          simp at this ⊢
          exact ⟨by omega, this⟩
        · intro j hj hq ihj
          rw [LoopAt_enter c40_b1.eq_1]
          simp [hj]
          intro _
          refine loop_q (fun k => [(4, .iv (.ptr [rds L, nats T])), (6, .aref 6 M.length), (7, .iv (.int .i64 (i : Nat))), (10, .iv (.int .u64 (T[j] : Nat))), (22, .iv (ints fs)), (23, .iv (.int .i64 (fs.length : Nat))), (24, .iv (.int .i64 (i : Nat))), (34, .iv (nats T)), (35, .iv (.int .i64 (T.length : Nat))), (36, .iv (.int .i64 (j : Nat))), (43, .iv (rds L)), (44, .iv (.int .i64 (L.length : Nat))), (45, .iv (.int .i64 (k : Nat)))]) (fun _ => ob4 6 M) L.length
            (fun k => ∀ r ∈ L.take k, val r T[j] = val r (T[j] ^^^ 2 ^ i)) (by simp) ?_ ?_
          · intro hqk
            simp at hqk
            have := ihj fun t ht => by
              rw [List.take_succ_eq_append_getElem hj] at ht
              rcases List.mem_append.1 ht with c | c
              · exact hq t c
              · rw [List.mem_singleton] at c; subst c; exact hqk
            rw [LoopAt_enter c40_b0.eq_1]
            simp at this ⊢
            exact ⟨by omega, this⟩
          · intro k hk hqk ihk
            have htj := hlt _ (List.getElem_mem hj)
            have hx : bitOp .xor .u64 (T[j] : Int) (2 ^ i) = ((T[j] ^^^ 2 ^ i : Nat) : Int) := by
              have := xor_u64 T[j] (2 ^ i) (by omega) (by omega)
              rw [← this]
              simp
            have hx2 : T[j] ^^^ 2 ^ i < 2 ^ 64 := Nat.xor_lt_two_pow (by omega) (by omega)
            rw [LoopAt_enter c40_b0.eq_1]
            simp [hk]
            refine callK_of (good61 hK L[k] T[j] (by omega)) (by simp) ?_
            simp [hsh, hx]
            refine callK_of (good61 hK L[k] (T[j] ^^^ 2 ^ i) hx2) (by simp) ?_
            simp
            refine ⟨fun e => ⟨by omega, by omega, ?_⟩, fun e => ⟨by omega, ?_⟩⟩
            · have hm : mattersAt fs L i = true := by
                rw [at_]
                simp only [List.any_eq_true]
                exact ⟨T[j], List.getElem_mem hj, L[k], List.getElem_mem hk, by simpa using e⟩
              have := yes hm
              simpa using this
            · have := ihk fun r hr => by
                rw [List.take_succ_eq_append_getElem hk] at hr
                rcases List.mem_append.1 hr with c | c
                · exact hqk r c
                · rw [List.mem_singleton] at c; subst c; exact e
              simpa using this
  · simp [h, pap, mattersV, mattersL_none h]

theorem good41 (s : W) (fs : List Int) (hs : fit s) : Good Tryd.prog K 41 [paperV s fs] (doubtV s fs) := by
  refine good_of_wp hK c41_ok (by simp) ?_
  simp
  refine callK_of (good52 hK hS s fs hs.1 hs.2) (by simp) ?_
  by_cases h : err s fs = 0
  · have hl := rs_len s fs
    have hc := (err_ok h).1
    have hf := factsOk_len hc
    have ht := tru_len hf
    have hlt := tru_lt hf
    have hn := (err_ok h).2.2
    have dn : (∀ t ∈ tru fs, clash (rs s fs) t = false) → doubtV s fs = .tup [natsI [], .int .i64 3] := by
      intro hd
      have : doubtAt s fs = none := by
        simp only [doubtAt, List.find?_eq_none]
        intro t ht
        simp [hd t ht]
      simp [doubtV, doubtL, doubtE, h, this]
    have ds : ∀ j (hj : j < (tru fs).length), (∀ t ∈ (tru fs).take j, clash (rs s fs) t = false) → clash (rs s fs) (tru fs)[j] = true → doubtV s fs = .tup [natsI (bitsOf (tru fs)[j] fs.length), .int .i64 0] := by
      intro j hj hd hcl
      have : doubtAt s fs = some (tru fs)[j] := by
        have e1 : tru fs = (tru fs).take j ++ (tru fs)[j] :: (tru fs).drop (j + 1) := by
          rw [List.getElem_cons_drop, List.take_append_drop]
        have e2 : ((tru fs).take j).find? (clash (rs s fs)) = none := by
          rw [List.find?_eq_none]
          intro t ht
          simp [hd t ht]
        unfold doubtAt
        conv => lhs; rw [e1]
        rw [List.find?_append, e2, List.find?_cons, hcl]
        rfl
      simp [doubtV, doubtL, doubtE, h, this]
    generalize doubtV s fs = D at *
    simp only [pap, h, if_true]
    generalize rs s fs = L at *
    generalize tru fs = T at *
    obtain ⟨r0, L', hL⟩ := List.exists_cons_of_ne_nil hn
    have h0 : 0 < L.length := by subst hL; simp
    have hr0 : L[0] = r0 := by subst hL; rfl
    have hcl : ∀ t, clash L t = L.any fun r => val r t != val r0 t := fun t => by subst hL; rfl
    simp
    intro _
    refine loop_q (fun j => [(1, .iv (.ptr [.str s, ints fs])), (4, .iv (.ptr [rds L, nats T])), (23, .iv (nats T)), (24, .iv (.int .i64 (T.length : Nat))), (25, .iv (.int .i64 (j : Nat)))]) (fun _ => []) T.length
      (fun j => ∀ t ∈ T.take j, clash L t = false) (by simp) ?_ ?_
    · intro hq
      have := dn (by simpa using hq)
      rw [LoopAt_enter c41_b2.eq_1]
      simp [this]
    · intro j hj hq ihj
      rw [LoopAt_enter c41_b2.eq_1]
      simp [hj]
      intro _
      refine loop_q (fun k => [(1, .iv (.ptr [.str s, ints fs])), (4, .iv (.ptr [rds L, nats T])), (7, .iv (.int .u64 (T[j] : Nat))), (23, .iv (nats T)), (24, .iv (.int .i64 (T.length : Nat))), (25, .iv (.int .i64 (j : Nat))), (32, .iv (rds L)), (33, .iv (.int .i64 (L.length : Nat))), (34, .iv (.int .i64 (k : Nat)))]) (fun _ => []) L.length
        (fun k => ∀ r ∈ L.take k, val r T[j] = val r0 T[j]) (by simp) ?_ ?_
      · intro hqk
        simp at hqk
        have := ihj fun t ht => by
          rw [List.take_succ_eq_append_getElem hj] at ht
          rcases List.mem_append.1 ht with c | c
          · exact hq t c
          · rw [List.mem_singleton] at c
            subst c
            rw [hcl]
            simpa using hqk
        rw [LoopAt_enter c41_b1.eq_1]
        simp at this ⊢
        exact ⟨by omega, this⟩
      · intro k hk hqk ihk
        have htj := hlt _ (List.getElem_mem hj)
        rw [LoopAt_enter c41_b1.eq_1]
        simp [hk]
        refine callK_of (good61 hK L[k] T[j] (by omega)) (by simp) ?_
        simp [h0, hr0]
        refine callK_of (good61 hK r0 T[j] (by omega)) (by simp) ?_
        simp
        refine ⟨fun e => ⟨by omega, ?_⟩, fun e _ => ?_⟩
        · have := ihk fun r hr => by
            rw [List.take_succ_eq_append_getElem hk] at hr
            rcases List.mem_append.1 hr with c | c
            · exact hqk r c
            · rw [List.mem_singleton] at c; subst c; exact e
          simpa using this
        · have hd := ds j hj hq (by
            rw [hcl]
            simp only [List.any_eq_true]
            exact ⟨L[k], List.getElem_mem hk, by simpa using e⟩)
          rw [hd]
          refine bits41 T[j] fs htj hf _ ?_
          rw [LoopAt_enter c41_b0.eq_1]
          simp
  · simp [h, pap, doubtV, doubtL, doubtE]

theorem good39 (s : W) (fs : List Int) (hs : fit s) : Good Tryd.prog K 39 [paperV s fs] (clearV s fs) := by
  refine good_of_wp hK c39_ok (by simp) ?_
  simp
  refine callK_of (good41 hK hS s fs hs) (by simp) ?_
  have he := err_val s fs
  by_cases h : err s fs = 0
  · cases hd : doubtAt s fs with
    | some t => simp [doubtV, clearV, doubtE, h, hd]
    | none => simp [doubtV, clearV, doubtE, h, hd]
  · have h3 : ¬ err s fs = 3 := by omega
    simp [doubtV, clearV, doubtE, h, h3]

omit hS
theorem good44 (s : W) (fs : List Int) (hs : fit s) : Good Tryd.prog K 44 [paperV s fs] (clearV s fs) := by
  refine good_of_wp hK c44_ok (by simp) ?_
  simp
  refine callK_of (good33 hK s fs hs) (by simp) ?_
  by_cases h : err s fs = 0
  · have hc := (err_ok h).1
    have hf := factsOk_len hc
    have hlt := tru_lt hf
    have hn := (err_ok h).2.2
    have hcv : clearV s fs = .tup [.bool ((tru fs).all fun t => !clash (rs s fs) t), .int .i64 0] := by
      have : (doubtAt s fs).isNone = (tru fs).all fun t => !clash (rs s fs) t := by
        rw [Bool.eq_iff_iff]
        simp [doubtAt]
      simp [clearV, h, this]
    rw [hcv]
    simp [h]
    refine callK_of (good25 hK s fs hf) (by simp) ?_
    simp
    rw [← tru_eq fs hc]
    generalize rs s fs = L at *
    generalize tru fs = T at *
    have g46 : ∀ t, t < 64 → Good Tryd.prog K 46 [rrs L, .int .i64 (t : Nat)] (.bool (clash L t)) := by
      intro t ht
      have := good46 hK (L.map fun r => (text r, tset r)) t (by simp; exact fun a _ => tset_lt a) (by omega)
      obtain ⟨r0, L', rfl⟩ := List.exists_cons_of_ne_nil hn
      simp only [List.map_cons, List.headD_cons, List.map_map] at this
      have e : (((text r0, tset r0) :: L'.map fun r => (text r, tset r)).any fun x => x.2.testBit t != (tset r0).testBit t) = clash (r0 :: L') t := by
        simp only [clash, List.any_cons, List.any_map, Function.comp_def, tset_bit _ t ht]
      rw [e] at this
      exact this
    refine loop_q (fun j => [(4, .iv (rrs L)), (6, .iv (natsI T)), (7, .iv (.int .i64 (j : Nat)))]) (fun _ => []) T.length (fun j => ∀ t ∈ T.take j, clash L t = false) (by simp) ?_ ?_
    · intro hq
      simp at hq
      rw [LoopAt_enter c44_b0.eq_1]
      simp
      exact fun _ => hq
    · intro j hj hq ihj
      rw [LoopAt_enter c44_b0.eq_1]
      simp [hj]
      intro _
      refine callK_of (g46 T[j] (hlt _ (List.getElem_mem hj))) (by simp) ?_
      simp
      refine ⟨fun e => ⟨T[j], List.getElem_mem hj, e⟩, fun e => ⟨by omega, ?_⟩⟩
      have := ihj fun t ht => by
        rw [List.take_succ_eq_append_getElem hj] at ht
        rcases List.mem_append.1 ht with c | c
        · exact hq t c
        · rw [List.mem_singleton] at c; subst c; exact e
      simpa using this
  · simp [h, clearV]
end
end Go.Pp

/- The document's Matters and Number, and the texts. -/
namespace Go.Pp
open Go Go.Ev Go.Proofs Go.RowKit

theorem okT_iff (fs : List Int) (n : Nat) : ∀ m, okT fs n m = true ↔ ∀ i, i < m → (n.testBit i = true → fs.getD i 0 ≠ 2) ∧ (n.testBit i = false → fs.getD i 0 ≠ 1)
  | 0 => by simp [okT]
  | m + 1 => by
    simp only [okT, Bool.and_eq_true, okT_iff fs n m, Bool.or_eq_true, Bool.not_eq_true', decide_eq_true_eq]
    constructor
    · rintro ⟨⟨h1, h2⟩, h3⟩ i hi
      rcases Nat.lt_succ_iff_lt_or_eq.1 hi with c | c
      · exact h1 i c
      · subst c
        exact ⟨fun hb => by simpa [hb] using h2, fun hb => by simpa [hb] using h3⟩
    · intro h
      refine ⟨⟨fun i hi => h i (by omega), ?_⟩, ?_⟩
      · cases hb : n.testBit m with
        | false => exact .inl rfl
        | true => exact .inr ((h m (by omega)).1 hb)
      · cases hb : n.testBit m with
        | false => exact .inr ((h m (by omega)).2 hb)
        | true => exact .inl rfl

theorem mem_tru {fs : List Int} (h : factsOk fs = true) (t : Nat) : t ∈ tru fs ↔ t < 2 ^ fs.length ∧ ∀ i, i < fs.length → (t.testBit i = true → fs.getD i 0 ≠ 2) ∧ (t.testBit i = false → fs.getD i 0 ≠ 1) := by
  rw [tru_eq fs h]
  simp only [truths, truthsN, List.mem_filter, List.mem_range, okT_iff]

theorem flip_bit (t i j : Nat) : (t ^^^ 2 ^ i).testBit j = (t.testBit j != decide (i = j)) := by
  rw [Nat.testBit_xor, Nat.testBit_two_pow]
theorem flip_lt {t i n : Nat} (h : t < 2 ^ n) (hi : i < n) : t ^^^ 2 ^ i < 2 ^ n := Nat.xor_lt_two_pow h (Nat.pow_lt_pow_right (by omega) hi)
theorem flip_mem {fs : List Int} (h : factsOk fs = true) {t i : Nat} (hi : i < fs.length) (ht : t ∈ tru fs) : t ^^^ 2 ^ i ∈ tru fs ↔ fs.getD i 0 = 3 := by
  have h3 : 1 ≤ fs.getD i 0 ∧ fs.getD i 0 ≤ 3 := by
    simp [factsOk] at h
    have := h.1 _ (List.getElem_mem hi)
    simpa [hi] using this
  rw [mem_tru h] at ht ⊢
  constructor
  · intro hm
    have h1 := ht.2 i hi
    have h2 := hm.2 i hi
    rw [flip_bit] at h2
    generalize fs.getD i 0 = g at *
    cases hb : t.testBit i <;> simp [hb] at h1 h2 <;> omega
  · intro hm
    refine ⟨flip_lt ht.1 hi, fun j hj => ?_⟩
    by_cases hij : i = j
    · subst hij
      rw [hm]
      exact ⟨fun _ => by decide, fun _ => by decide⟩
    · rw [flip_bit]
      simp only [hij, decide_false, Bool.bne_false]
      exact ht.2 j hj

section
variable {K : World → Prop} (hK : ∀ w w', K w → Below w.heap.size w w' → K w')
include hK
theorem good60n (T : List Nat) (o : Nat) : Good Tryd.prog K 60 [natsI T, .int .i64 o] (.bool (decide (o ∈ T))) := by
  have := good60 hK (T.map fun n : Nat => (n : Int)) o
  rw [← natsI_eq] at this
  have e : decide ((o : Int) ∈ T.map fun n : Nat => (n : Int)) = decide (o ∈ T) := by
    congr 1
    simp only [List.mem_map, eq_iff_iff]
    exact ⟨fun ⟨a, ha, e⟩ => by have : a = o := by omega
                                subst this; exact ha, fun h => ⟨o, h, rfl⟩⟩
  rw [e] at this
  exact this

theorem good45 (s : W) (fs : List Int) (hs : fit s) : Good Tryd.prog K 45 [paperV s fs] (mattersV s fs) := by
  refine good_of_wp hK c45_ok (by simp) ?_
  simp
  refine callK_of (good33 hK s fs hs) (by simp) ?_
  by_cases h : err s fs = 0
  · have hl := rs_len s fs
    have hc := (err_ok h).1
    have hf := factsOk_len hc
    have ht := tru_len hf
    have hlt := tru_lt hf
    have hfm := fun {t i} => flip_mem hc (t := t) (i := i)
    simp only [mattersV, mattersL, h]
    simp
    refine callK_of (good25 hK s fs hf) (by simp) ?_
    rw [← tru_eq fs hc]
    generalize rs s fs = L at *
    generalize hT : tru fs = T at *
    have at_ : ∀ i, i < fs.length → (decide (fs.getD i 0 = 3) && mattersAt fs L i) = T.any fun t => decide (t ^^^ 2 ^ i ∈ T) && L.any fun r => val r t != val r (t ^^^ 2 ^ i) := by
      intro i hi
      rw [Bool.eq_iff_iff]
      simp only [mattersAt, hT, Bool.and_eq_true, decide_eq_true_eq, List.any_eq_true]
      constructor
      · rintro ⟨h3, t, ht, r, hr, hv⟩
        exact ⟨t, ht, (hfm hi ht).2 h3, r, hr, hv⟩
      · rintro ⟨t, ht, hm, r, hr, hv⟩
        exact ⟨(hfm hi ht).1 hm, t, ht, r, hr, hv⟩
    simp
    refine loop_up (fun i => [(1, .iv (.ptr [.str s, ints fs])), (4, .iv (rrs L)), (6, .iv (natsI T)), (7, .aref 7 (mattersN fs L i).length), (8, .iv (.int .i64 (i : Nat)))]) (fun i => ob4 7 (mattersN fs L i)) fs.length ?_ ?_
    · rw [LoopAt_enter c45_b2.eq_1]
      simp
    · intro i hi ih
      have e1 := mattersN_len fs L i
      rw [mattersN_succ, at_ i hi] at ih
      generalize mattersN fs L i = M at *
      have hp : 2 ^ i ≤ 2 ^ 5 := Nat.pow_le_pow_right (by omega) (by omega)
      have hw : IntKind.wrap .u64 (i : Int) = i := wrap_u64 (by omega) (by omega)
      have hsh : shlV .i64 1 (i : Int) = 2 ^ i := by
        have := shl_i64 1 i (by omega) (by omega)
        simpa using this
      rw [LoopAt_enter c45_b2.eq_1]
      simp [hi]
      intro _
      refine loop_up (fun j => [(1, .iv (.ptr [.str s, ints fs])), (4, .iv (rrs L)), (6, .iv (natsI T)), (7, .aref 7 M.length), (8, .iv (.int .i64 (i : Nat))), (9, .iv (.bool ((T.take j).any fun t => decide (t ^^^ 2 ^ i ∈ T) && L.any fun r => val r t != val r (t ^^^ 2 ^ i)))), (10, .iv (.int .i64 (j : Nat)))]) (fun _ => ob4 7 M) T.length ?_ ?_
      · rw [LoopAt_enter c45_b1.eq_1]
        cases hm : (T.any fun t => decide (t ^^^ 2 ^ i ∈ T) && L.any fun r => val r t != val r (t ^^^ 2 ^ i)) <;> simp only [hm, Bool.false_eq_true, if_false, if_true] at ih <;> simp at ih <;> simp only [List.take_length, hm] <;> simp
        · exact fun _ => ⟨by omega, ih⟩
        · exact fun _ => ⟨by omega, by omega, ih⟩
      · intro j hj ihj
        have htj := hlt _ (List.getElem_mem hj)
        have hx : bitOp .xor .i64 (T[j] : Int) (2 ^ i) = ((T[j] ^^^ 2 ^ i : Nat) : Int) := by
          have := xor_i64 T[j] (2 ^ i) (by omega) (by omega)
          rw [← this]
          simp
        have hx2 : T[j] ^^^ 2 ^ i < 2 ^ 6 := Nat.xor_lt_two_pow (by omega) (by omega)
        have e2 : ((T.take (j + 1)).any fun t => decide (t ^^^ 2 ^ i ∈ T) && L.any fun r => val r t != val r (t ^^^ 2 ^ i)) = (((T.take j).any fun t => decide (t ^^^ 2 ^ i ∈ T) && L.any fun r => val r t != val r (t ^^^ 2 ^ i)) || (decide (T[j] ^^^ 2 ^ i ∈ T) && L.any fun r => val r T[j] != val r (T[j] ^^^ 2 ^ i))) := by
          rw [List.take_succ_eq_append_getElem hj, List.any_append]
          simp
        rw [e2] at ihj
        generalize ((T.take j).any fun t => decide (t ^^^ 2 ^ i ∈ T) && L.any fun r => val r t != val r (t ^^^ 2 ^ i)) = B at *
        rw [LoopAt_enter c45_b1.eq_1]
        simp [hj, hw, hsh, hx]
        intro _
        by_cases ho : T[j] ^^^ 2 ^ i ∈ T
        · have g60 := good60n hK T (T[j] ^^^ 2 ^ i)
          have hv : ∀ r : Rd, (tset r).testBit T[j] = val r T[j] := fun r => tset_bit r _ htj
          have hv2 : ∀ r : Rd, (tset r).testBit (T[j] ^^^ 2 ^ i) = val r (T[j] ^^^ 2 ^ i) := fun r => tset_bit r _ (by omega)
          simp only [ho, decide_true, Bool.true_and] at ihj g60
          generalize T[j] ^^^ 2 ^ i = o at *
          refine loop_up (fun k => [(1, .iv (.ptr [.str s, ints fs])), (4, .iv (rrs L)), (6, .iv (natsI T)), (7, .aref 7 M.length), (8, .iv (.int .i64 (i : Nat))), (9, .iv (.bool (((L.take k).any fun r => val r T[j] != val r o) || B))), (10, .iv (.int .i64 (j : Nat))), (11, .iv (.int .i64 (o : Nat))), (12, .iv (.int .i64 (k : Nat)))]) (fun _ => ob4 7 M) L.length ?_ ?_
          · rw [LoopAt_enter c45_b0.eq_1]
            rw [Bool.or_comm] at ihj
            simp at ihj ⊢
            exact fun _ => ⟨by omega, ihj⟩
          · intro k hk ihk
            have e3 : ((L.take (k + 1)).any fun r => val r T[j] != val r o) = (((L.take k).any fun r => val r T[j] != val r o) || (val L[k] T[j] != val L[k] o)) := by
              rw [List.take_succ_eq_append_getElem hk, List.any_append]
              simp
            rw [e3, Bool.or_assoc, Bool.or_comm (val L[k] T[j] != val L[k] o) B, ← Bool.or_assoc] at ihk
            generalize (((L.take k).any fun r => val r T[j] != val r o) || B) = C at *
            rw [LoopAt_enter c45_b0.eq_1]
            simp [hk]
            intro _
            refine callK_of g60 (by simp) ?_
            cases C with
            | true =>
              simp at ihk ⊢
              exact ⟨by omega, ihk⟩
            | false =>
              simp [hk, hj]
              refine callK_of (good38 hK (text L[k]) (tset L[k]) T[j] (tset_lt _) (by omega)) (by simp) ?_
              simp [hk]
              refine callK_of (good38 hK (text L[k]) (tset L[k]) o (tset_lt _) (by omega)) (by simp) ?_
              simp [hv, hv2] at ihk ⊢
              exact ⟨by omega, ihk⟩
        · have g60 := good60n hK T (T[j] ^^^ 2 ^ i)
          simp only [ho, decide_false, Bool.false_and, Bool.or_false] at ihj g60
          rw [LoopAt_enter c45_b0.eq_1]
          simp
          refine fun _ => ⟨fun hk => ?_, fun hk => ?_⟩
          · refine callK_of g60 (by simp) ?_
            simp at ihj ⊢
            exact ⟨by omega, ihj⟩
          · simp at ihj
            exact ⟨by omega, ihj⟩
  · simp [h, mattersV, mattersL_none h]

theorem good15 (t : W) (ht : t.length ≤ 1000) : Good Tryd.prog K 15 [.str t] (.str (t.filter fun c => c != 40 && c != 41)) := by
  refine good_of_wp hK c15_ok (by simp) ?_
  simp
  refine loop_up (fun i => [(0, .iv (.str t)), (3, .iv (.str ((t.take i).filter fun c => c != 40 && c != 41))), (4, .iv (.int .i64 (i : Nat)))]) (fun _ => []) t.length ?_ ?_
  · rw [LoopAt_enter c15_b0.eq_1]
    simp
  · intro i hi ih
    have e1 : ((t.take (i + 1)).filter fun c => c != 40 && c != 41) = ((t.take i).filter fun c => c != 40 && c != 41) ++ (if t[i] != 40 && t[i] != 41 then [t[i]] else []) := by
      rw [List.take_succ_eq_append_getElem hi, List.filter_append]
      simp only [List.filter_cons, List.filter_nil]
    have e2 : ((t.take i).filter fun c => c != 40 && c != 41).length ≤ 1000 := by
      have := List.length_filter_le (fun c => c != 40 && c != 41) (t.take i)
      simp at this
      omega
    rw [e1] at ih
    generalize ((t.take i).filter fun c => c != 40 && c != 41) = Y at *
    have h6 : t[i].toNat < 256 := t[i].toNat_lt
    have h40 : t[i] = 40 ↔ (t[i].toNat : Int) = 40 := by
      rw [← UInt8.toNat_inj]
      simp
      omega
    have h41 : t[i] = 41 ↔ (t[i].toNat : Int) = 41 := by
      rw [← UInt8.toNat_inj]
      simp
      omega
    rw [LoopAt_enter c15_b0.eq_1]
    simp [hi]
    refine ⟨fun a => ⟨fun b => ?_, fun b => ⟨by omega, ?_⟩⟩, fun a => ⟨by omega, ?_⟩⟩
    · have n40 : ¬ t[i] = 40 := fun c => a (h40.1 c)
      have n41 : ¬ t[i] = 41 := fun c => b (h41.1 c)
      simp [n40, n41] at ih
      simp [bytesV]
      exact ⟨by omega, by omega, by omega, ih⟩
    · simp [h41.2 b] at ih
      exact ih
    · simp [h40.2 a] at ih
      exact ih

def textsL (s : W) (fs : List Int) : List W := (rs s fs).map text
variable (hS : ∀ s : W, s.length ≤ 1000 → Good Tryd.prog K 63 [.str s, .str [32]] (strs (spl s)))
include hS
theorem good14 (s : W) (fs : List Int) (hs : fit s) : Good Tryd.prog K 14 [paperV s fs] (.tup [strs (textsL s fs), .bool (decide (err s fs = 0))]) := by
  refine good_of_wp hK c14_ok (by simp) ?_
  simp
  refine callK_of (good21 hK hS s fs hs) (by simp) ?_
  by_cases h : err s fs = 0
  · have hl := rs_len s fs
    have hn := (err_ok h).2.2
    have hp : 0 < (rs s fs).length := List.length_pos_iff.2 hn
    have h1 : ¬ ((rs s fs).length : Int) < 1 := by omega
    have h2 : ¬ (5000 : Int) < (rs s fs).length := by omega
    simp [h, h1, h2]
    refine loop_up (fun i => [(1, .iv (.ptr [.str s, ints fs])), (4, .iv (.int .i64 ((rs s fs).length : Nat))), (6, .aref 6 (((rs s fs).take i).map text).length), (7, .iv (.int .i64 (i : Nat)))]) (fun i => [(6, AO.arr 9 1 (emb ((((rs s fs).take i).map text).map fun s => [.str s])) 0)]) (rs s fs).length ?_ ?_
    · rw [LoopAt_enter c14_b0.eq_1]
      simp [textsL]
    · intro i hi ih
      have e1 : ((rs s fs).take (i + 1)).map text = ((rs s fs).take i).map text ++ [text (rs s fs)[i]] := by
        rw [List.take_succ_eq_append_getElem hi, List.map_append]
        rfl
      have e2 : (((rs s fs).take i).map text).length ≤ 323 := by
        simp
        omega
      have e3 := rs_text s fs _ (List.getElem_mem hi)
      have hat : rdAt s fs (i : Nat) = some (rs s fs)[i] := by simp [rdAt, hi]
      have e4 : writeV s fs (i : Nat) = .tup [.str (text (rs s fs)[i]), .int .i64 0] := by simp [writeV, hat, oneE_some hat]
      have g16 := good16 hK hS s fs (i : Nat) hs
      rw [e4] at g16
      rw [e1] at ih
      generalize ((rs s fs).take i).map text = Y at *
      have n500 : ¬ (500 : Int) < (text (rs s fs)[i]).length := by omega
      have hi' : (i : Int) < (rs s fs).length := by omega
      rw [LoopAt_enter c14_b0.eq_1]
      simp [hi']
      refine callK_of g16 (by simp) ?_
      simp [n500] at ih ⊢
      exact ⟨by omega, by omega, ih⟩
  · simp [h, textsL, rs_err h]
end
end Go.Pp
