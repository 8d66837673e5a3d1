/- The laws BooksWrite, BooksJoin, BooksRead, BooksBack. -/
import Derived.Test.YtjjfnbadmpffpaaDoorSame
set_option linter.all false

set_option maxRecDepth 8000
namespace Go.Bk
open Go Go.Ev Go.Proofs Go.RowKit

def jnL (lines : List W) (lost : List Int) (i : Nat) : List W := ((List.range i).filter fun k => decide (lost.getD k 0 = 0)).map fun k => lines.getD k []
theorem jnL_succ (lines : List W) (lost : List Int) (i : Nat) : jnL lines lost (i + 1) = jnL lines lost i ++ if lost.getD i 0 = 0 then [lines.getD i []] else [] := by
  simp only [jnL, List.range_succ, List.filter_append, List.map_append]
  congr 1
  by_cases h : lost.getD i 0 = 0
  · rw [if_pos h]; simp only [List.filter_cons, h, decide_true, if_true, List.filter_nil, List.map_cons, List.map_nil]
  · rw [if_neg h]; simp only [List.filter_cons, h, decide_false, Bool.false_eq_true, if_false, List.filter_nil, List.map_nil]
theorem total_app (a b : List W) : total (a ++ b) = total a + total b := by simp [total]
theorem jnL_total (lines : List W) (lost : List Int) : ∀ i, i ≤ lines.length → total (jnL lines lost i) ≤ total (lines.take i)
  | 0, _ => by simp [jnL, total]
  | i + 1, h => by
    have hi : i < lines.length := h
    have ih := jnL_total lines lost i (by omega)
    have := total_take lines i hi
    have e2 : lines.getD i [] = lines[i] := by simp [hi]
    rw [jnL_succ, total_app, e2]
    split
    · have : total [lines[i]] = lines[i].length + 1 := by simp [total]
      omega
    · have : total ([] : List W) = 0 := rfl
      omega
theorem large_small {T : List W} (h : large T = false) : ∀ s ∈ T, s.length ≤ 1000000 := by
  intro s hs
  have := total_mem hs
  simp [large] at h
  omega

theorem maxL_spec (l : List Int) : ∀ a : Int, maxL a l ∈ a :: l ∧ ∀ x ∈ a :: l, x ≤ maxL a l := by
  induction l with
  | nil => intro a; simp [maxL]
  | cons b l ih =>
    intro a
    obtain ⟨h1, h2⟩ := ih (if a < b then b else a)
    have e : maxL a (b :: l) = maxL (if a < b then b else a) l := rfl
    rw [e]
    generalize maxL (if a < b then b else a) l = M at *
    refine ⟨?_, fun x hx => ?_⟩
    · split at h1
      · simp at h1 ⊢; rcases h1 with h1 | h1
        · exact .inr (.inl h1)
        · exact .inr (.inr h1)
      · simp at h1 ⊢; rcases h1 with h1 | h1
        · exact .inl h1
        · exact .inr (.inr h1)
    · have h3 := h2 (if a < b then b else a) (by simp)
      rcases List.mem_cons.1 hx with rfl | hx
      · split at h3 <;> omega
      · rcases List.mem_cons.1 hx with rfl | hx
        · split at h3 <;> omega
        · exact h2 x (by simp [hx])
theorem lostR_eq (ls : List W) : lostR (pgTo ls ls.length) = if manyF (fnd ls) < 0 then ([], 142) else (lostF (fnd ls) (manyF (fnd ls)).toNat, 0) := by
  have h := pg_all ls
  have he := pg_ends ls ls.length
  generalize pgTo ls ls.length = p at *
  obtain ⟨m1, m2⟩ := many_ends ls h
  unfold lostR
  cases hends : p.ends with
  | nil => rw [m1 hends]; simp
  | cons e es =>
    obtain ⟨m3, m4⟩ := m2 (by rw [hends]; simp)
    obtain ⟨q1, q2⟩ := maxL_spec es e
    have hm := he _ m3
    rw [hends] at m3 m4
    have e1 : manyF (fnd ls) = maxL e es := Int.le_antisymm (q2 _ m3) (m4 _ q1)
    have hn : ¬ manyF (fnd ls) < 0 := by omega
    rw [if_neg hn, lost_eq ls h, Int.toNat_of_nonneg (by omega), e1]

theorem rd_tx {l : W} {k : Int} {t : W} (h : rd l = some (k, t, false)) : tx t = true := by
  simp only [rd, Option.map_eq_some_iff] at h
  obtain ⟨r, hr, hp⟩ := h
  have hrow := (fits_spec ((rowOf_iff _ _).1 hr)).1
  rcases row_kind hrow with ⟨k', t', h1, _, h2⟩ | ⟨e, _, _, h2⟩
  · rw [h2] at hp
    injection hp with _ b
    injection b with b _
    subst b
    unfold numOf at h1
    split at h1
    · injection h1 with _ b; injection b with _ b; cases b
    · rename_i hc
      simp only [Bool.or_eq_true, decide_eq_true_eq, Bool.not_eq_true', not_or, Bool.not_eq_false] at hc
      injection h1 with _ b; injection b with b _
      rw [← b]
      exact hc.2
  · rw [h2] at hp; injection hp with _ b; injection b with _ b; cases b

theorem readP_texts (ls : List W) : Texts (readP (pgTo ls ls.length)).1 ∧ (readP (pgTo ls ls.length)).2.1.length ≤ 40 ∧ ((readP (pgTo ls ls.length)).2.2 ≠ 0 → (readP (pgTo ls ls.length)).1 = [] ∧ (readP (pgTo ls ls.length)).2.1 = []) := by
  have h := pg_all ls
  have he := pg_ends ls ls.length
  generalize pgTo ls ls.length = p at *
  have h0 : Texts [] := ⟨by simp, by simp⟩
  unfold readP
  split
  · exact ⟨h0, by simp, by simp⟩
  · cases hends : p.ends with
    | nil => exact ⟨h0, by simp, by simp⟩
    | cons e es =>
      have := he e (by rw [hends]; simp)
      simp only
      split
      · exact ⟨h0, by simp, by simp⟩
      · refine ⟨⟨by rw [textsP_len]; omega, ?_⟩, ?_, by simp⟩
        · intro s hs
          simp only [textsP, List.mem_map, List.mem_range] at hs
          obtain ⟨i, _, rfl⟩ := hs
          cases hx : (afind (i : Int) p.rows).getD [] with
          | nil => rfl
          | cons a r =>
            have : a ∈ (afind (i : Int) p.rows).getD [] := by rw [hx]; simp
            rw [h.rows] at this
            obtain ⟨l, _, hl⟩ := this
            exact rd_tx hl
        · have := mendP_len p e.toNat
          simp only
          omega
theorem readB_texts (b : W) : Texts (readB b).1 ∧ (readB b).2.1.length ≤ 40 ∧ ((readB b).2.2 ≠ 0 → (readB b).1 = [] ∧ (readB b).2.1 = []) := by
  unfold readB
  cases cutL b with
  | none => exact ⟨⟨by simp, by simp⟩, by simp, by simp⟩
  | some ls => exact readP_texts ls
theorem texts_len {T : List W} (h : Texts T) : ∀ s ∈ T, s.length ≤ 1000000 := fun s hs => by have := tx_len (h.tx s hs); omega

section
variable {K : World → Prop} (hK : ∀ w w', K w → Below w.heap.size w w' → K w')
include hK

theorem good17 (T : List W) (h : ∀ s ∈ T, s.length ≤ 1000000000000000) : Ev.Good Tryd.prog K 17 [strs T] (.bool (!large T && decide (errT T = 0))) := by
  refine good_of_wp hK c17_ok (by simp) ?_
  have g12 := good12 hK T h
  simp at g12 ⊢
  refine callK_of g12 (by simp) ?_
  cases hL : large T with
  | true => simp
  | false =>
    have g42 := good42 hK T (large_small hL)
    simp at g42 ⊢
    refine callK_of g42 (by simp) ?_
    simp

theorem good20 (lines : List W) (lost : List Int) (hl : lines.length = lost.length) (hb : total lines ≤ 100000) : Ev.Good Tryd.prog K 20 [strs lines, ints lost] (.str (jn (jnL lines lost lines.length))) := by
  refine good_of_wp hK c20_ok (by simp) ?_
  simp
  refine loop_up (fun i => [(0, AV.iv (strs lines)), (1, .iv (ints lost)), (5, .iv (.str (jn (jnL lines lost i)))), (6, .iv (.int .i64 (i : Nat)))]) (fun _ => []) lines.length ?_ ?_
  · rw [LoopAt_enter c20_b0.eq_1]
    simp
  · intro i hi ih
    rw [LoopAt_enter c20_b0.eq_1]
    have hi2 : i < lost.length := by omega
    have e1 : lost.getD i 0 = lost[i] := by simp [hi2]
    have e2 : lines.getD i [] = lines[i] := by simp [hi]
    rw [jnL_succ, e1, e2] at ih
    have hlen : (jn (jnL lines lost i)).length ≤ total (lines.take i) := by
      rw [jn_len]
      exact jnL_total lines lost i (by omega)
    have ht := total_take lines i hi
    have ht2 := total_le lines (i + 1)
    generalize jnL lines lost i = J at *
    by_cases h0 : lost[i] = 0
    · simp [h0, jn_app, jn] at ih
      simp [hi, hi2, h0]
      repeat' (first | omega | assumption | intro _ | apply And.intro)
    · simp [h0] at ih
      simp [hi, hi2, h0]
      repeat' (first | omega | assumption | intro _ | apply And.intro)

variable (hS : ∀ s : W, s.length ≤ 1000000 → Ev.Good Tryd.prog K 68 [.str s, .str [10]] (strs (spl s)))
include hS

theorem good13 : Ev.Good Tryd.prog K 13 [] (.bool true) := by
  have g14 := good14 hK [[97, 98], [99]] (by simp)
  have gB := good19 hK hS exB (by decide) (cut_bound _ (by decide))
  have gC := good21 hK hS exC (by decide) (cut_bound _ (by decide))
  have gD := good19 hK hS exD (by decide) (cut_bound _ (by decide))
  have g16 := good16 hK [[97, 98], [99]] [[97, 98], [99]]
  have g22a := good22 hK [0, 1] [0, 1]
  have g22b := good22 hK [0] [0]
  obtain ⟨ls, hc, hb⟩ := ex_cutC
  rw [hc] at gC
  simp only [hb, ex_write, ex_readB, ex_readD] at g14 gB gC gD
  refine good_of_wp hK c13_ok (by simp) ?_
  simp at g14 gB gC gD g16 g22a g22b ⊢
  simp only [exA, exB, exC, exD, List.cons_append, List.nil_append] at g14 gB gC gD
  refine callK_of g14 (by simp) ?_
  simp
  refine callK_of gB (by simp) ?_
  simp
  refine callK_of gC (by simp) ?_
  simp
  refine callK_of gD (by simp) ?_
  simp
  refine callK_of g16 (by simp) ?_
  simp
  refine callK_of g22a (by simp) ?_
  simp
  refine callK_of g22b (by simp) ?_
  simp

theorem law3 (T : List W) (h : ∀ s ∈ T, s.length ≤ 1000000000000000) : Ev.Good Tryd.prog K 3 [strs T] (.bool true) := by
  refine good_of_wp hK c3_ok (by simp) ?_
  have g12 := good12 hK T h
  have g13 := good13 hK hS
  simp
  refine callK_of g12 (by simp) ?_
  cases hL : large T with
  | true =>
    simp
    refine callK_of g13 (by simp) ?_
    simp
  | false =>
    have hs := large_small hL
    have g14 := good14 hK T hs
    have g15 := good15 hK T hs
    have g16 := good16 hK T T
    simp at g14 g15 g16 ⊢
    have hlen := total_len T
    have hto : total T ≤ 5000 := by simp [large] at hL; omega
    have em : List.map (List.map AV.iv ∘ fun s => [IV.str s]) T = emb (txE T) := by simp [emb, txE]
    have em2 : txE T = List.map (fun s => [IV.str s]) T := rfl
    have em3 : (txE T).length = T.length := by simp [txE]
    have em4 : (txE T).take T.length = txE T := List.take_of_length_le (by omega)
    refine ⟨⟨by omega, by omega⟩, ?_⟩
    simp [em, ← em2]
    rw [← em2] at g14 g15 g16
    refine callK_of g14 (by simp) ?_
    simp
    refine callK_of g15 (by simp) ?_
    simp [em3, em4]
    refine callK_of g16 (by simp) ?_
    simp
    refine callK_of g13 (by simp) ?_
    simp

theorem law6 (a b : W) (ha : a.length ≤ 1000000000000000) (hb : b.length ≤ 1000000000000000) : Ev.Good Tryd.prog K 6 [.str a, .str b] (.bool true) := by
  refine good_of_wp hK c6_ok (by simp) ?_
  have g12 := good12 hK [a, b] (by simp [ha, hb])
  have g13 := good13 hK hS
  simp at g12 ⊢
  refine callK_of g12 (by simp) ?_
  cases hL : large [a, b] with
  | true =>
    simp
    refine callK_of g13 (by simp) ?_
    simp
  | false =>
    have hs : a.length + b.length ≤ 5000 := by
      simp [large, total] at hL
      omega
    have g25 := good25 hK (a ++ b) (by simp; omega)
    simp at g25 ⊢
    refine ⟨by omega, callK_of g25 (by simp) ?_⟩
    cases hC : crowded (a ++ b) with
    | true =>
      simp
      refine callK_of g13 (by simp) ?_
      simp
    | false =>
      have g26 := good26 hK hS a b (by omega) (cut_bound _ (by simp; omega))
      have g27 := good27 hK a b (by omega) (cut_bound _ (by simp; omega))
      have e : (if (cutL a).isSome && (cutL b).isSome then IV.tup [strs (rrB (a ++ b)).1, .int .i64 (rrB (a ++ b)).2.2] else .tup [strs [], .int .i64 140]) = .tup [strs (joinB a b).1, .int .i64 (joinB a b).2] := by
        unfold joinB
        rw [rrB_eq]
        split <;> rfl
      rw [e] at g27
      generalize joinB a b = R at *
      have g16 := good16 hK R.1 R.1
      simp at g26 g27 g16 ⊢
      refine callK_of g26 (by simp) ?_
      simp
      refine callK_of g27 (by simp) ?_
      simp
      refine callK_of g16 (by simp) ?_
      simp
      refine callK_of g13 (by simp) ?_
      simp


theorem law10 (b : W) (hb : b.length ≤ 1000000000000000) : Ev.Good Tryd.prog K 10 [.str b] (.bool true) := by
  refine good_of_wp hK c10_ok (by simp) ?_
  have g12 := good12 hK [b] (by simp [hb])
  have g13 := good13 hK hS
  simp at g12 ⊢
  refine callK_of g12 (by simp) ?_
  cases hL : large [b] with
  | true =>
    simp
    refine callK_of g13 (by simp) ?_
    simp
  | false =>
    have hs : b.length ≤ 5000 := by
      simp [large, total] at hL
      omega
    have g25 := good25 hK b (by omega)
    simp at g25 ⊢
    refine callK_of g25 (by simp) ?_
    cases hC : crowded b with
    | true =>
      simp
      refine callK_of g13 (by simp) ?_
      simp
    | false =>
      have hcb := cut_bound b (by omega)
      obtain ⟨t1, t2, t3⟩ := readB_texts b
      have g19 := good19 hK hS b (by omega) hcb
      have g32 : Ev.Good Tryd.prog K 32 [.str b] (readV (rrB b)) := good32 hK b (by omega) hcb
      have g33 := good33 hK hS b (by omega) hcb (texts_len t1)
      have g34 := good34 hK b (by omega) hcb (by rw [rrB_eq]; exact texts_len t1)
      have g21 := good21 hK hS b (by omega) hcb
      have g35 := good35 hK b (by omega) hcb
      have g28 := good28 hK hS b (by omega) hcb
      have g36 := good36 hK b (by omega) hcb
      rw [rrB_eq] at g32 g34
      obtain ⟨B, hB1, hB2⟩ : ∃ B : List Int × Int, Ev.Good Tryd.prog K 21 [.str b] (.tup [ints B.1, .int .i64 B.2]) ∧ Ev.Good Tryd.prog K 35 [.str b] (.tup [ints B.1, .int .i64 B.2]) := by
        cases hc : cutL b with
        | none => rw [hc] at g21 g35; exact ⟨([], 140), g21, g35⟩
        | some ls =>
          rw [hc] at g21 g35
          simp only at g21 g35
          refine ⟨(badL ls ls.length, 0), ?_, g35⟩
          rw [(pg_all ls).bad] at g21
          exact g21
      obtain ⟨L, hL1, hL2⟩ : ∃ B : List Int × Int, Ev.Good Tryd.prog K 28 [.str b] (.tup [ints B.1, .int .i64 B.2]) ∧ Ev.Good Tryd.prog K 36 [.str b] (.tup [ints B.1, .int .i64 B.2]) := by
        refine ⟨lostB b, g28, ?_⟩
        unfold lostB
        cases hc : cutL b with
        | none => rw [hc] at g36; exact g36
        | some ls =>
          rw [hc] at g36
          simp only at g36 ⊢
          rw [lostR_eq]
          split
          · rename_i hz; rw [if_pos hz] at g36; exact g36
          · rename_i hz; rw [if_neg hz] at g36; exact g36
      obtain ⟨M, hM1, hM2⟩ : ∃ M : W × Int, Ev.Good Tryd.prog K 33 [.str b] (.tup [.str M.1, .int .i64 M.2]) ∧ Ev.Good Tryd.prog K 34 [.str b] (.tup [.str M.1, .int .i64 M.2]) := by
        by_cases h0 : (readB b).2.2 = 0
        · rw [if_pos h0] at g33 g34; exact ⟨_, g33, g34⟩
        · rw [if_neg h0] at g33 g34; exact ⟨([], (readB b).2.2), g33, g34⟩
      generalize readB b = R at *
      have g16 := good16 hK R.1 R.1
      have g22 := good22 hK R.2.1 R.2.1
      have g22b := good22 hK B.1 B.1
      have g22l := good22 hK L.1 L.1
      simp at g19 g32 g16 g22 g22b g22l hB1 hB2 hL1 hL2 ⊢
      refine callK_of g19 (by simp) ?_
      simp
      refine callK_of g32 (by simp) ?_
      simp
      refine callK_of g16 (by simp) ?_
      simp
      refine callK_of g22 (by simp) ?_
      simp
      refine callK_of hM1 (by simp) ?_
      simp
      refine callK_of hM2 (by simp) ?_
      simp
      refine callK_of hB1 (by simp) ?_
      simp
      refine callK_of hB2 (by simp) ?_
      simp
      refine callK_of hL1 (by simp) ?_
      simp
      refine callK_of hL2 (by simp) ?_
      simp
      refine callK_of g22b (by simp) ?_
      simp
      refine callK_of g22l (by simp) ?_
      simp
      refine callK_of g13 (by simp) ?_
      simp

theorem law11 (T : List W) (b : W) (h : ∀ s ∈ T, s.length ≤ 1000000000000000) (hb : b.length ≤ 1000000000000000) : Ev.Good Tryd.prog K 11 [strs T, .str b] (.bool true) := by
  refine good_of_wp hK c11_ok (by simp) ?_
  have g17 := good17 hK T h
  have g12 := good12 hK [b] (by simp [hb])
  have g13 := good13 hK hS
  simp at g12 g17 ⊢
  refine callK_of g17 (by simp) ?_
  by_cases hcan : (!large T && decide (errT T = 0)) = true
  · have hT : Texts T := by
      simp only [Bool.and_eq_true, decide_eq_true_eq] at hcan
      exact texts_err.1 hcan.2
    rw [hcan]
    simp
    refine callK_of g12 (by simp) ?_
    cases hL : large [b] with
    | true =>
      simp
      refine callK_of g13 (by simp) ?_
      simp
    | false =>
      have hs : b.length ≤ 5000 := by
        simp [large, total] at hL
        omega
      have g25 := good25 hK b (by omega)
      simp at g25 ⊢
      refine callK_of g25 (by simp) ?_
      cases hC : crowded b with
      | true =>
        simp
        refine callK_of g13 (by simp) ?_
        simp
      | false =>
        have hwl := wrB_len hT.tx hT.len
        have hcw := cut_bound (wrB T) (by omega)
        have g14 := good14 hK T (texts_len hT)
        have e14 : writeB T = (wrB T, 0) := by simp [writeB, texts_err.2 hT]
        rw [e14] at g14
        have g19w := good19 hK hS (wrB T) (by omega) hcw
        rw [read_bk hT] at g19w
        have g21w := good21 hK hS (wrB T) (by omega) hcw
        have g28w := good28 hK hS (wrB T) (by omega) hcw
        have hn : ∀ l ∈ bkL T, rd l = none ∨ ∃ i, i ≤ T.length ∧ Near T i l := by
          intro l hl
          obtain ⟨i, hi, rfl⟩ := mem_bkL.1 hl
          exact .inr ⟨i, hi, near_self T i⟩
        have eb : (pgTo (bkL T) (bkL T).length).bad = [] := bad_all fun l hl => by
          obtain ⟨i, hi, rfl⟩ := mem_bkL.1 hl
          rw [(near_rd hT (near_self T i)).1]
          simp
        have el : lostB (wrB T) = ([], 0) := by
          unfold lostB
          rw [bk_cut hT]
          simp only
          rw [lost_bk hT hn ⟨_, mem_bkL.2 ⟨T.length, Nat.le_refl _, rfl⟩, near_self T T.length⟩]
          have : (List.range T.length).filter (fun i => !foundB (bkL T) T i) = [] := by
            rw [List.filter_eq_nil_iff]
            intro i hi
            rw [List.mem_range] at hi
            rw [(found_near hT hn hi).2 ⟨_, mem_bkL.2 ⟨i, by omega, rfl⟩, near_self T i⟩]
            simp
          rw [this]
          rfl
        rw [bk_cut hT] at g21w
        simp only [eb] at g21w
        rw [el] at g28w
        have g16 := good16 hK T T
        have hcb := cut_bound b (by omega)
        obtain ⟨t1, t2, t3⟩ := readB_texts b
        have g19 := good19 hK hS b (by omega) hcb
        have g33 := good33 hK hS b (by omega) hcb (texts_len t1)
        generalize readB b = R at *
        have hrl := wrB_len t1.tx t1.len
        have g19r := good19 hK hS (wrB R.1) (by omega) (cut_bound _ (by omega))
        rw [read_bk t1] at g19r
        have e33 : writeB R.1 = (wrB R.1, 0) := by simp [writeB, texts_err.2 t1]
        rw [e33] at g33
        have g37 := good37 hK R.2.1
        have g16r := good16 hK R.1 R.1
        simp at g14 g19w g21w g28w g16 g19 g19r g37 g16r ⊢
        refine callK_of g14 (by simp) ?_
        simp
        refine callK_of g19w (by simp) ?_
        simp
        refine callK_of g21w (by simp) ?_
        simp
        refine callK_of g28w (by simp) ?_
        simp
        refine callK_of g16 (by simp) ?_
        simp
        refine callK_of g19 (by simp) ?_
        simp
        refine callK_of g33 (by simp) ?_
        by_cases h0 : R.2.2 = 0
        · have hi : ¬ (5000 : Int) < ((wrB R.1).length : Int) := by omega
          simp [h0, hi]
          refine callK_of g37 (by simp) ?_
          simp [t2]
          refine callK_of g19r (by simp) ?_
          simp
          refine callK_of g16r (by simp) ?_
          simp
          refine callK_of g13 (by simp) ?_
          simp
        · obtain ⟨z1, z2⟩ := t3 h0
          rw [z2] at g37
          simp [z1, z2] at g37
          simp [h0, z1, z2]
          refine callK_of g37 (by simp) ?_
          simp [h0]
          refine callK_of g13 (by simp) ?_
          simp
  · have hcan' : (!large T && decide (errT T = 0)) = false := by simpa using hcan
    rw [hcan']
    simp
    refine callK_of g13 (by simp) ?_
    simp
end
end Go.Bk
