/- What the functions of papers, and the document's, return. -/
import Derived.Test.YtahldekpgadgdaaDoorRead
set_option linter.all false

namespace Go.Pp
open Go Go.Ev Go.Proofs Go.RowKit

def fit (s : W) : Prop := s.length ≤ 1000 ∧ ((spl s).length ≤ 9 ∨ 11 < (spl s).length)
def rdAt (s : W) (fs : List Int) (n : Int) : Option Rd := if 0 ≤ n then (rs s fs)[n.toNat]? else none
def oneE (s : W) (fs : List Int) (n : Int) : Int := if err s fs ≠ 0 then err s fs else if (rdAt s fs n).isSome then 0 else 1
def cnt (fs : List Int) (r : Rd) : Nat := (tru fs).countP (val r)

theorem rs_len (s : W) (fs : List Int) : (rs s fs).length ≤ 323 := by
  unfold rs
  split
  · rename_i h
    exact rdg_small (by omega) h.2
  · simp
theorem rs_text (s : W) (fs : List Int) : ∀ r ∈ rs s fs, (text r).length ≤ 81 := by
  unfold rs
  split
  · rename_i h
    intro r hr
    have := rdg_text _ _ _ r hr
    omega
  · simp
theorem factsOk_len {fs : List Int} (h : factsOk fs = true) : fs.length ≤ 6 := by
  simp [factsOk] at h
  exact h.2
theorem rs_fok (s : W) (fs : List Int) : ∀ r ∈ rs s fs, fok r := by
  unfold rs
  split
  · rename_i h
    exact rdg_fok _ (factsOk_len h.1) _ _
  · simp
theorem rs_err {s : W} {fs : List Int} (h : err s fs ≠ 0) : rs s fs = [] := by
  unfold err at h
  split at h
  · rename_i h1
    simp [rs, h1]
  · split at h
    · assumption
    · exact absurd rfl h
theorem err_ok {s : W} {fs : List Int} (h : err s fs = 0) : factsOk fs = true ∧ (spl s).length ≤ 9 ∧ rs s fs ≠ [] := by
  unfold err at h
  split at h
  · cases h
  · split at h
    · cases h
    · rename_i h1 h2
      refine ⟨by simpa using h1, ?_, h2⟩
      unfold rs at h2
      split at h2
      · rename_i h3; exact h3.2
      · exact absurd rfl h2
theorem rs_mem {s : W} {fs : List Int} {r : Rd} (h : r ∈ rs s fs) : err s fs = 0 := by
  by_cases h1 : err s fs = 0
  · exact h1
  · rw [rs_err h1] at h; cases h
theorem tru_len {fs : List Int} (h : fs.length ≤ 6) : (tru fs).length ≤ 64 := by
  have h1 := trN_len fs fs.length
  have h2 : 2 ^ fs.length ≤ 2 ^ 6 := Nat.pow_le_pow_right (by omega) h
  unfold tru
  omega
theorem tru_lt {fs : List Int} (h : fs.length ≤ 6) : ∀ t ∈ tru fs, t < 64 := by
  intro t ht
  have h1 := trN_lt fs fs.length t ht
  have h2 : 2 ^ fs.length ≤ 2 ^ 6 := Nat.pow_le_pow_right (by omega) h
  omega
theorem rdAt_mem {s : W} {fs : List Int} {n : Int} {r : Rd} (h : rdAt s fs n = some r) : r ∈ rs s fs ∧ 0 ≤ n ∧ ∃ h : n.toNat < (rs s fs).length, (rs s fs)[n.toNat] = r := by
  unfold rdAt at h
  split at h
  · obtain ⟨h1, h2⟩ := List.getElem?_eq_some_iff.1 h
    exact ⟨h2 ▸ List.getElem_mem h1, by assumption, h1, h2⟩
  · cases h
theorem rdAt_none {s : W} {fs : List Int} {n : Int} (h : rdAt s fs n = none) : n < 0 ∨ ((rs s fs).length : Int) ≤ n := by
  unfold rdAt at h
  split at h
  · have := List.getElem?_eq_none_iff.1 h
    omega
  · omega
theorem cnt_eq {fs : List Int} (h : factsOk fs = true) (r : Rd) : (truths fs).countP (fun t => (tset r).testBit t) = cnt fs r := by
  unfold cnt
  rw [tru_eq fs h]
  apply List.countP_congr
  intro t ht
  have := tru_lt (factsOk_len h) t (by rw [tru_eq fs h]; exact ht)
  rw [tset_bit r t this]

def writeV (s : W) (fs : List Int) (n : Int) : IV := .tup [.str (match rdAt s fs n with | some r => text r | none => []), .int .i64 (oneE s fs n)]
def countV (s : W) (fs : List Int) (n : Int) : IV := .tup [.int .i64 (match rdAt s fs n with | some r => (cnt fs r : Nat) | none => 0), .int .i64 (oneE s fs n)]
def meansOf (fs : List Int) (r : Rd) : Int := known (cnt fs r : Nat) ((tru fs).length : Nat)
def meansV (s : W) (fs : List Int) (n : Int) : IV := .tup [.int .i64 (match rdAt s fs n with | some r => meansOf fs r | none => 0), .int .i64 (oneE s fs n)]

theorem oneE_some {s : W} {fs : List Int} {n : Int} {r : Rd} (h : rdAt s fs n = some r) : oneE s fs n = 0 := by
  have h1 := rs_mem (rdAt_mem h).1
  simp [oneE, h, h1]
theorem oneE_none {s : W} {fs : List Int} {n : Int} (h : rdAt s fs n = none) : oneE s fs n ≠ 0 := by
  unfold oneE
  split
  · assumption
  · simp [h]

section
variable {K : World → Prop} (hK : ∀ w w', K w → Below w.heap.size w w' → K w')
include hK

theorem good33 (s : W) (fs : List Int) (hs : fit s) : Good Tryd.prog K 33 [paperV s fs] (.tup [rrs (rs s fs), .int .i64 (err s fs)]) := by
  refine good_of_wp hK c33_ok (by simp) ?_
  simp
  refine callK_of (good58 hK s fs) (by simp) ?_
  have hc : (fs.all (fun k => decide (1 ≤ k) && decide (k ≤ 3)) && decide (fs.length ≤ 6)) = factsOk fs := rfl
  rw [hc]
  cases h1 : factsOk fs with
  | false => simp [rs, err, h1]
  | true =>
    have hf := factsOk_len h1
    simp
    refine ⟨fun e => ?_, fun e => ?_⟩
    · have h2 : rs s fs = [] := long_none s fs (by omega)
      simp [h2, err, h1]
    · refine callK_of (good18 hK s (by omega)) (by simp) ?_
      simp
      refine fun _ => ⟨fun e2 => ?_, fun e2 _ => ?_⟩
      · have h2 : rs s fs = [] := by simp [rs]; omega
        simp [h2, err, h1]
      · have h4 : (spl s).length ≤ 9 := by rcases hs.2 with h | h <;> omega
        have h5 : rs s fs = rdg fs.length 9 (spl s) := by simp [rs, h1, h4]
        refine callK_of (good59 hK fs.length hf 9 (by omega) (spl s) h4) (by simp) ?_
        rw [← h5]
        simp
        refine fun _ => ⟨fun e => ?_, fun e => ?_⟩
        · simp [err, h1, e]
        · simp [err, h1, e]

theorem good20 (s : W) (fs : List Int) (hs : fit s) : Good Tryd.prog K 20 [paperV s fs] (.int .i64 (err s fs)) := by
  refine good_of_wp hK c20_ok (by simp) ?_
  simp
  refine callK_of (good33 hK s fs hs) (by simp) ?_
  simp
theorem good22 (s : W) (fs : List Int) (hs : fit s) : Good Tryd.prog K 22 [paperV s fs] (.tup [.int .i64 ((rs s fs).length : Nat), .int .i64 (err s fs)]) := by
  refine good_of_wp hK c22_ok (by simp) ?_
  simp
  refine callK_of (good33 hK s fs hs) (by simp) ?_
  simp

theorem good53 (s : W) (fs : List Int) (n : Int) (hs : fit s) : Good Tryd.prog K 53 [paperV s fs, .int .i64 n]
    (.tup [.agg (match rdAt s fs n with | some r => rrow r | none => [.str [], .int .u64 0]), .int .i64 (oneE s fs n)]) := by
  refine good_of_wp hK c53_ok (by simp) ?_
  simp
  refine callK_of (good33 hK s fs hs) (by simp) ?_
  by_cases h : err s fs = 0
  · have hl := rs_len s fs
    simp [h]
    refine fun _ => ⟨by omega, ?_⟩
    refine callK_of (good42 hK n 0 _) (by simp) ?_
    cases hr : rdAt s fs n with
    | some r =>
      obtain ⟨h1, h2, h3, h4⟩ := rdAt_mem hr
      have h5 : (n : Int) ≤ (rs s fs).length - 1 := by omega
      simp [h2, h3, h4, h5, oneE, h, hr]
    | none =>
      have h5 := rdAt_none hr
      have h6 : (decide (0 ≤ n) && decide (n ≤ ((rs s fs).length : Int) - 1)) = false := by
        simp
        omega
      rw [h6]
      simp [oneE, h, hr]
  · have h1 := rs_err h
    have h2 : rdAt s fs n = none := by simp [rdAt, h1]
    simp [h, h2, oneE]

theorem good23 (s : W) (fs : List Int) (n : Int) (hs : fit s) : Good Tryd.prog K 23 [paperV s fs, .int .i64 n] (writeV s fs n) := by
  refine good_of_wp hK c23_ok (by simp) ?_
  simp
  refine callK_of (good53 hK s fs n hs) (by simp) ?_
  cases hr : rdAt s fs n with
  | some r => simp [writeV, hr]
  | none => simp [writeV, hr]
theorem good30 (s : W) (fs : List Int) (n : Int) (hs : fit s) : Good Tryd.prog K 30 [paperV s fs, .int .i64 n] (countV s fs n) := by
  refine good_of_wp hK c30_ok (by simp) ?_
  simp
  refine callK_of (good53 hK s fs n hs) (by simp) ?_
  cases hr : rdAt s fs n with
  | some r =>
    have hc := (err_ok (rs_mem (rdAt_mem hr).1)).1
    have hf := factsOk_len hc
    simp [countV, hr, oneE_some hr]
    refine callK_of (good57 hK s (text r) fs (tset r) (tset_lt r) hf) (by simp) ?_
    simp [cnt_eq hc]
  | none => simp [countV, hr, oneE_none hr]
theorem good29 (s : W) (fs : List Int) (n : Int) (hs : fit s) : Good Tryd.prog K 29 [paperV s fs, .int .i64 n] (meansV s fs n) := by
  refine good_of_wp hK c29_ok (by simp) ?_
  simp
  refine callK_of (good53 hK s fs n hs) (by simp) ?_
  cases hr : rdAt s fs n with
  | some r =>
    have hc := (err_ok (rs_mem (rdAt_mem hr).1)).1
    have hf := factsOk_len hc
    simp [meansV, hr, oneE_some hr]
    refine callK_of (good57 hK s (text r) fs (tset r) (tset_lt r) hf) (by simp) ?_
    simp
    refine callK_of (good25 hK s fs hf) (by simp) ?_
    simp
    intro _
    refine callK_of (good56 hK _ _) (by simp) ?_
    simp [cnt_eq hc, meansOf, tru_eq fs hc]
  | none => simp [meansV, hr, oneE_none hr]

variable (hS : ∀ s : W, s.length ≤ 1000 → Good Tryd.prog K 63 [.str s, .str [32]] (strs (spl s)))
include hS
theorem good19 (s : W) (fs : List Int) (hs : fit s) : Good Tryd.prog K 19 [paperV s fs] (.int .i64 (err s fs)) := by
  refine good_of_wp hK c19_ok (by simp) ?_
  simp
  refine callK_of (good52 hK hS s fs hs.1 hs.2) (by simp) ?_
  simp
theorem good21 (s : W) (fs : List Int) (hs : fit s) : Good Tryd.prog K 21 [paperV s fs] (.tup [.int .i64 ((rs s fs).length : Nat), .int .i64 (err s fs)]) := by
  refine good_of_wp hK c21_ok (by simp) ?_
  simp
  refine callK_of (good52 hK hS s fs hs.1 hs.2) (by simp) ?_
  by_cases h : err s fs = 0
  · simp [h, pap]
  · simp [h, pap, rs_err h]
theorem good50 (s : W) (fs : List Int) (n : Int) (hs : fit s) : Good Tryd.prog K 50 [paperV s fs, .int .i64 n]
    (.tup (match rdAt s fs n with | some r => [.ptr [rds (rs s fs), nats (tru fs)], enc r, .int .i64 0] | none => [.nilp, .nilp, .int .i64 (oneE s fs n)])) := by
  refine good_of_wp hK c50_ok (by simp) ?_
  simp
  refine callK_of (good52 hK hS s fs hs.1 hs.2) (by simp) ?_
  by_cases h : err s fs = 0
  · have hl := rs_len s fs
    cases hr : rdAt s fs n with
    | some r =>
      obtain ⟨h1, h2, h3, h4⟩ := rdAt_mem hr
      have h5 : n < (rs s fs).length := by omega
      have h6 : ¬ n < 0 := by omega
      simp [h, pap, h2, h3, h4, h5, h6]
      all_goals (try omega)
    | none =>
      have h5 := rdAt_none hr
      by_cases h6 : n < 0
      · simp [h, pap, h6, oneE, hr]
      · have h7 : ((rs s fs).length : Int) ≤ n := by omega
        have h8 : 0 ≤ n := by omega
        simp [h, pap, h6, h7, h8, oneE, hr]
  · have h1 := rs_err h
    have h2 : rdAt s fs n = none := by simp [rdAt, h1]
    simp [h, pap, h2, oneE]

theorem good16 (s : W) (fs : List Int) (n : Int) (hs : fit s) : Good Tryd.prog K 16 [paperV s fs, .int .i64 n] (writeV s fs n) := by
  refine good_of_wp hK c16_ok (by simp) ?_
  simp
  refine callK_of (good50 hK hS s fs n hs) (by simp) ?_
  cases hr : rdAt s fs n with
  | some r =>
    have h1 := rs_text s fs r (rdAt_mem hr).1
    simp [writeV, hr, oneE_some hr]
    refine callK_of (good51 hK r (rs_fok s fs r (rdAt_mem hr).1) (by omega)) (by simp) ?_
    simp
  | none => simp [writeV, hr, oneE_none hr]
theorem good26 (s : W) (fs : List Int) (n : Int) (hs : fit s) : Good Tryd.prog K 26 [paperV s fs, .int .i64 n] (countV s fs n) := by
  refine good_of_wp hK c26_ok (by simp) ?_
  simp
  refine callK_of (good50 hK hS s fs n hs) (by simp) ?_
  cases hr : rdAt s fs n with
  | some r =>
    have hf := factsOk_len (err_ok (rs_mem (rdAt_mem hr).1)).1
    simp [countV, hr, oneE_some hr]
    refine callK_of (good54 hK (rds (rs s fs)) (tru fs) r (tru_lt hf) (tru_len hf)) (by simp) ?_
    simp [cnt]
  | none => simp [countV, hr, oneE_none hr]
theorem good28 (s : W) (fs : List Int) (n : Int) (hs : fit s) : Good Tryd.prog K 28 [paperV s fs, .int .i64 n] (meansV s fs n) := by
  refine good_of_wp hK c28_ok (by simp) ?_
  simp
  refine callK_of (good50 hK hS s fs n hs) (by simp) ?_
  cases hr : rdAt s fs n with
  | some r =>
    have hf := factsOk_len (err_ok (rs_mem (rdAt_mem hr).1)).1
    simp [meansV, hr, oneE_some hr]
    refine callK_of (good55 hK (rds (rs s fs)) (tru fs) r (tru_lt hf) (tru_len hf)) (by simp) ?_
    simp [meansOf, cnt]
  | none => simp [meansV, hr, oneE_none hr]
end
end Go.Pp

/- What the functions over all readings return. -/
namespace Go.Pp
open Go Go.Ev Go.Proofs Go.RowKit

def bestN (c : Rd → Nat) (L : List Rd) : Nat → Nat
  | 0 => 0
  | i + 1 => match L[i]?, L[bestN c L i]? with
    | some a, some b => if c a < c b then i else bestN c L i
    | _, _ => bestN c L i
theorem bestN_lt (c : Rd → Nat) (L : List Rd) (h : 0 < L.length) : ∀ i, i ≤ L.length → bestN c L i < L.length
  | 0, _ => h
  | i + 1, hi => by
    have := bestN_lt c L h i (by omega)
    simp only [bestN]
    split
    · split
      · omega
      · exact this
    · exact this
theorem bestN_succ (c : Rd → Nat) (L : List Rd) (i : Nat) (hi : i < L.length) (hb : bestN c L i < L.length) : bestN c L (i + 1) = if c L[i] < c L[bestN c L i] then i else bestN c L i := by
  simp only [bestN, List.getElem?_eq_getElem hi, List.getElem?_eq_getElem hb]
def strictV (s : W) (fs : List Int) : IV := .tup [.int .i64 (bestN (cnt fs) (rs s fs) (rs s fs).length : Nat), .int .i64 (err s fs)]

def courtOf (fs : List Int) : List Rd → Int
  | [] => 0
  | r :: L => if (r :: L).all (fun a => decide (meansOf fs a = meansOf fs r)) then meansOf fs r else 3
def courtV (s : W) (fs : List Int) : IV := .tup [.int .i64 (courtOf fs (rs s fs)), .int .i64 (err s fs)]

theorem sum_le (c : Rd → Nat) (T : Nat) : ∀ L : List Rd, (∀ a ∈ L, c a ≤ T) → (L.map c).sum ≤ L.length * T ∧ ((L.map c).sum = L.length * T ↔ ∀ a ∈ L, c a = T)
  | [], _ => by simp
  | a :: L, h => by
    have ⟨h1, h2⟩ := sum_le c T L (fun x hx => h x (by simp [hx]))
    have h3 := h a (by simp)
    simp only [List.map_cons, List.sum_cons, List.length_cons, List.forall_mem_cons, Nat.add_mul, Nat.one_mul]
    refine ⟨by omega, fun e => ⟨by omega, h2.1 (by omega)⟩, fun e => ?_⟩
    rw [h2.2 e.2, e.1, Nat.add_comm]
theorem sum_zero (c : Rd → Nat) : ∀ L : List Rd, (L.map c).sum = 0 ↔ ∀ a ∈ L, c a = 0
  | [] => by simp
  | a :: L => by
    have h2 := sum_zero c L
    simp only [List.map_cons, List.sum_cons, List.forall_mem_cons]
    rw [← h2]
    omega
theorem trN_pos (fs : List Int) : ∀ i, 0 < (trN fs i).length
  | 0 => by simp [trN]
  | i + 1 => by
    have := trN_pos fs i
    simp only [trN, trStep]
    split
    · simpa using this
    · split
      · simp; omega
      · exact this
theorem cnt_le (fs : List Int) (r : Rd) : cnt fs r ≤ (tru fs).length := List.countP_le_length
theorem court_eq (fs : List Int) (L : List Rd) (h : L ≠ []) : known (((L.map (cnt fs)).sum : Nat) : Int) ((L.length * (tru fs).length : Nat) : Int) = courtOf fs L := by
  have hT : 0 < (tru fs).length := trN_pos fs _
  obtain ⟨h1, h2⟩ := sum_le (cnt fs) (tru fs).length L (fun a _ => cnt_le fs a)
  have h3 := sum_zero (cnt fs) L
  obtain ⟨r, L', rfl⟩ := List.exists_cons_of_ne_nil h
  have h4 : 0 < (r :: L').length * (tru fs).length := Nat.mul_pos (by simp) hT
  have hr : r ∈ r :: L' := by simp
  generalize hS : ((r :: L').map (cnt fs)).sum = S at *
  generalize (r :: L').length * (tru fs).length = M at *
  have km : ∀ a, meansOf fs a = if cnt fs a = (tru fs).length then 1 else if cnt fs a = 0 then 2 else 3 := by
    intro a
    simp only [meansOf, known]
    norm_cast
  simp only [courtOf, known]
  norm_cast
  by_cases hall : (r :: L').all (fun a => decide (meansOf fs a = meansOf fs r)) = true
  · rw [if_pos hall]
    have hall : ∀ a ∈ r :: L', meansOf fs a = meansOf fs r := fun a ha => by
      have := List.all_eq_true.1 hall a ha
      simpa using this
    by_cases c1 : cnt fs r = (tru fs).length
    · have : S = M := h2.2 fun a ha => by
        have e := hall a ha
        rw [km, km r, if_pos c1] at e
        split at e
        · assumption
        · split at e <;> cases e
      rw [km r, if_pos c1, if_pos this]
    · have n1 : ¬ S = M := fun e => c1 (h2.1 e r hr)
      by_cases c2 : cnt fs r = 0
      · have : S = 0 := h3.2 fun a ha => by
          have e := hall a ha
          rw [km, km r, if_neg c1, if_pos c2] at e
          split at e
          · cases e
          · split at e
            · assumption
            · cases e
        rw [km r, if_neg c1, if_pos c2, if_neg n1, if_pos this]
      · have n2 : ¬ S = 0 := fun e => c2 (h3.1 e r hr)
        rw [km r, if_neg c1, if_neg c2, if_neg n1, if_neg n2]
  · rw [if_neg hall]
    have n1 : ¬ S = M := fun e => hall (List.all_eq_true.2 fun a ha => by
      simp [km, h2.1 e a ha, h2.1 e r hr])
    have n2 : ¬ S = 0 := fun e => hall (List.all_eq_true.2 fun a ha => by
      simp [km, h3.1 e a ha, h3.1 e r hr])
    rw [if_neg n1, if_neg n2]

def farB (s : W) (fs : List Int) : Bool := decide (40 < fs.length) || decide (100 < s.length) || decide (9 < (spl s).length)
def readyB (s : W) (fs : List Int) : Bool := !farB s fs && decide (err s fs = 0)
theorem fit_of_far {s : W} {fs : List Int} (h : farB s fs = false) : fit s := by
  simp [farB] at h
  exact ⟨by omega, .inl h.2⟩

section
variable {K : World → Prop} (hK : ∀ w w', K w → Below w.heap.size w w' → K w')
include hK

theorem good17 (s : W) (fs : List Int) (hf : fs.length * 8 ≤ 140737488355328) : Good Tryd.prog K 17 [paperV s fs] (paperV s fs) := by
  refine good_of_wp hK c17_ok (by simp) ?_
  have e : ivss (List.map (List.map AV.iv ∘ fun n => [IV.int IntKind.i64 n]) fs) = some (fs.map fun n => [IV.int IntKind.i64 n]) := by
    have := ivss_emb (fs.map fun n => [IV.int IntKind.i64 n])
    simpa [emb] using this
  simp [e]
  omega

theorem good27 (s : W) (fs : List Int) : Good Tryd.prog K 27 [paperV s fs] (.bool (farB s fs)) := by
  refine good_of_wp hK c27_ok (by simp) ?_
  simp [farB]
  refine fun _ => ⟨fun h1 => ⟨fun h2 => ?_, fun h2 => ?_⟩, fun h1 => ?_⟩
  · refine callK_of (good18 hK s (by omega)) (by simp) ?_
    have h3 : ¬ 40 < fs.length := by omega
    have h4 : ¬ 100 < s.length := by omega
    simp [h3, h4]
    exact fun _ => by omega
  · omega
  · omega

theorem good12 (s : W) (fs : List Int) : Good Tryd.prog K 12 [paperV s fs] (.bool (readyB s fs)) := by
  refine good_of_wp hK c12_ok (by simp) ?_
  simp
  refine callK_of (good27 hK s fs) (by simp) ?_
  cases hf : farB s fs with
  | true => simp [readyB, hf]
  | false =>
    simp
    refine callK_of (good20 hK s fs (fit_of_far hf)) (by simp) ?_
    simp [readyB, hf]

theorem good49 : Good Tryd.prog K 49 [] (paperV [110, 111, 116, 32, 97, 32, 97, 110, 100, 32, 98, 32, 111, 114, 32, 99] [3, 3, 1]) := by
  refine good_of_wp hK c49_ok (by simp) ?_
  simp

theorem good32 (s : W) (fs : List Int) (hs : fit s) : Good Tryd.prog K 32 [paperV s fs] (strictV s fs) := by
  refine good_of_wp hK c32_ok (by simp) ?_
  simp
  refine callK_of (good33 hK s fs hs) (by simp) ?_
  simp [strictV]
  have hl := rs_len s fs
  have hm : ∀ r ∈ rs s fs, factsOk fs = true := fun r hr => (err_ok (rs_mem hr)).1
  generalize rs s fs = L at *
  refine loop_up (fun i => [(1, .iv (.ptr [.str s, ints fs])), (4, .iv (rrs L)), (5, .iv (.int .i64 (err s fs))), (6, .iv (.int .i64 (bestN (cnt fs) L i : Nat))), (7, .iv (.int .i64 (i : Nat)))]) (fun _ => []) L.length ?_ ?_
  · rw [LoopAt_enter c32_b0.eq_1]
    simp
  · intro i hi ih
    have hb := bestN_lt (cnt fs) L (by omega) i (by omega)
    rw [bestN_succ _ _ i hi hb] at ih
    have hc := hm _ (List.getElem_mem hi)
    have hf := factsOk_len hc
    generalize bestN (cnt fs) L i = b at *
    rw [LoopAt_enter c32_b0.eq_1]
    simp [hi]
    intro _
    refine callK_of (good57 hK s (text L[i]) fs (tset L[i]) (tset_lt _) hf) (by simp) ?_
    simp [hb]
    refine callK_of (good57 hK s (text L[b]) fs (tset L[b]) (tset_lt _) hf) (by simp) ?_
    simp [cnt_eq hc]
    refine ⟨fun e => ⟨by omega, ?_⟩, fun e => ⟨by omega, ?_⟩⟩
    · simpa [e] using ih
    · have e' : ¬ cnt fs L[i] < cnt fs L[b] := by omega
      simpa [e'] using ih

theorem good43 (s : W) (fs : List Int) (hs : fit s) : Good Tryd.prog K 43 [paperV s fs] (courtV s fs) := by
  refine good_of_wp hK c43_ok (by simp) ?_
  simp
  refine callK_of (good33 hK s fs hs) (by simp) ?_
  by_cases h : err s fs = 0
  · have hl := rs_len s fs
    have hc := (err_ok h).1
    have hf := factsOk_len hc
    have ht := tru_len hf
    simp [h, courtV]
    refine loop_up (fun i => [(1, .iv (.ptr [.str s, ints fs])), (4, .iv (rrs (rs s fs))), (6, .iv (.int .i64 ((((rs s fs).take i).map (cnt fs)).sum : Nat))), (7, .iv (.int .i64 (i : Nat)))]) (fun _ => []) (rs s fs).length ?_ ?_
    · rw [LoopAt_enter c43_b0.eq_1]
      simp
      intro _
      refine callK_of (good25 hK s fs hf) (by simp) ?_
      simp
      intro _
      have hm := Nat.mul_le_mul hl ht
      rw [← tru_eq fs hc]
      have e := court_eq fs (rs s fs) (err_ok h).2.2
      push_cast at e
      refine ⟨?_, ?_⟩
      · omega
      refine callK_of (good56 hK _ _) (by simp) ?_
      simp [e]
    · intro i hi ih
      have e1 : (((rs s fs).take (i + 1)).map (cnt fs)).sum = (((rs s fs).take i).map (cnt fs)).sum + cnt fs (rs s fs)[i] := by
        rw [List.take_succ_eq_append_getElem hi, List.map_append, List.sum_append]
        simp
      have e2 := (sum_le (cnt fs) (tru fs).length ((rs s fs).take i) (fun a _ => cnt_le fs a)).1
      have e3 := cnt_le fs (rs s fs)[i]
      have e4 := Nat.mul_le_mul (show ((rs s fs).take i).length ≤ 323 by simp; omega) ht
      rw [e1] at ih
      generalize (((rs s fs).take i).map (cnt fs)).sum = S at *
      rw [LoopAt_enter c43_b0.eq_1]
      simp [hi]
      intro _
      refine callK_of (good57 hK s (text (rs s fs)[i]) fs (tset (rs s fs)[i]) (tset_lt _) hf) (by simp) ?_
      simp [cnt_eq hc] at ih ⊢
      exact ⟨by omega, by omega, ih⟩
  · simp [h, courtV, courtOf, rs_err h]

variable (hS : ∀ s : W, s.length ≤ 1000 → Good Tryd.prog K 63 [.str s, .str [32]] (strs (spl s)))
include hS
theorem good31 (s : W) (fs : List Int) (hs : fit s) : Good Tryd.prog K 31 [paperV s fs] (strictV s fs) := by
  refine good_of_wp hK c31_ok (by simp) ?_
  simp
  refine callK_of (good52 hK hS s fs hs.1 hs.2) (by simp) ?_
  by_cases h : err s fs = 0
  · have hl := rs_len s fs
    have hc := (err_ok h).1
    have hf := factsOk_len hc
    simp [h, pap, strictV]
    intro _
    have g54 := fun r => good54 hK (rds (rs s fs)) (tru fs) r (tru_lt hf) (tru_len hf)
    generalize rs s fs = L at *
    refine loop_up (fun i => [(4, .iv (.ptr [rds L, nats (tru fs)])), (6, .iv (.int .i64 (bestN (cnt fs) L i : Nat))), (20, .iv (rds L)), (21, .iv (.int .i64 (L.length : Nat))), (22, .iv (.int .i64 (i : Nat)))]) (fun _ => []) L.length ?_ ?_
    · rw [LoopAt_enter c31_b0.eq_1]
      simp
    · intro i hi ih
      have hb := bestN_lt (cnt fs) L (by omega) i (by omega)
      rw [bestN_succ _ _ i hi hb] at ih
      generalize bestN (cnt fs) L i = b at *
      rw [LoopAt_enter c31_b0.eq_1]
      simp [hi]
      refine callK_of (g54 L[i]) (by simp) ?_
      simp [hb]
      refine callK_of (g54 L[b]) (by simp) ?_
      simp
      change _ ∧ _
      refine ⟨fun e => ⟨by omega, ?_⟩, fun e => ⟨by omega, ?_⟩⟩
      · have e' : cnt fs L[i] < cnt fs L[b] := e
        simpa [e'] using ih
      · have e' : ¬ cnt fs L[i] < cnt fs L[b] := by unfold cnt; omega
        simpa [e'] using ih
  · simp [h, pap, strictV, rs_err h, bestN]

theorem good35 (s : W) (fs : List Int) (hs : fit s) : Good Tryd.prog K 35 [paperV s fs] (courtV s fs) := by
  refine good_of_wp hK c35_ok (by simp) ?_
  simp
  refine callK_of (good52 hK hS s fs hs.1 hs.2) (by simp) ?_
  by_cases h : err s fs = 0
  · have hl := rs_len s fs
    have hc := (err_ok h).1
    have hf := factsOk_len hc
    have hn := (err_ok h).2.2
    have g55 := fun r => good55 hK (rds (rs s fs)) (tru fs) r (tru_lt hf) (tru_len hf)
    simp only [courtV, pap, h, if_true]
    generalize rs s fs = L at *
    obtain ⟨r0, L', rfl⟩ := List.exists_cons_of_ne_nil hn
    simp
    refine callK_of (g55 r0) (by simp) ?_
    simp
    intro _
    change LoopF _ _ (RetIs _ (IV.tup [.int .i64 (if (r0 :: L').all (fun a => decide (meansOf fs a = meansOf fs r0)) then meansOf fs r0 else 3), .int .i64 0])) _ _ _ _ _ _
    have g55' : ∀ r, Good Tryd.prog K 55 [.ptr [rds (r0 :: L'), nats (tru fs)], enc r] (.int .i64 (meansOf fs r)) := g55
    have hm : known ↑(List.countP (val r0) (tru fs)) ↑(tru fs).length = meansOf fs r0 := rfl
    rw [hm]
    have hlen : ((L'.length : Int) + 1) = ((r0 :: L').length : Nat) := by simp
    rw [hlen]
    have hmap : [IV.ptr (encC r0)] :: List.map (fun r => [IV.ptr (encC r)]) L' = (r0 :: L').map fun r => [IV.ptr (encC r)] := rfl
    rw [hmap]
    generalize r0 :: L' = L at *
    refine loop_q (fun i => [(4, .iv (.ptr [rds L, nats (tru fs)])), (6, .iv (.int .i64 (meansOf fs r0))), (28, .iv (rds L)), (29, .iv (.int .i64 (L.length : Nat))), (30, .iv (.int .i64 (i : Nat)))]) (fun _ => []) L.length (fun i => ∀ a ∈ L.take i, meansOf fs a = meansOf fs r0) (by simp) ?_ ?_
    · intro hq
      rw [LoopAt_enter c35_b0.eq_1]
      simp at hq ⊢
      exact fun x hx hne => absurd (hq x hx) hne
    · intro i hi hq ih
      rw [LoopAt_enter c35_b0.eq_1]
      simp [hi]
      refine callK_of (g55' L[i]) (by simp) ?_
      simp
      refine ⟨fun e => ?_, fun e => ⟨by omega, ?_⟩⟩
      · intro hall
        exact absurd (hall _ (List.getElem_mem hi)) e
      · have := ih fun a ha => by
          rw [List.take_succ_eq_append_getElem hi] at ha
          rcases List.mem_append.1 ha with c | c
          · exact hq a c
          · rw [List.mem_singleton] at c; subst c; exact e
        simpa using this
  · simp [h, pap, courtV, rs_err h, courtOf]
end
end Go.Pp
