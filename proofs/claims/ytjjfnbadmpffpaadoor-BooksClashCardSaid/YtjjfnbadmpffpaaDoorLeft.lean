/- The laws BooksByte and BooksLost. -/
import Derived.Test.YtjjfnbadmpffpaaDoorHarmed
set_option linter.all false

set_option maxRecDepth 8000
namespace Go.Bk
open Go Go.Ev Go.Proofs Go.RowKit

def wantB (T : List W) (s : Hs) (i : Nat) : List Int := ((List.range i).filter fun k => decide (s.2.1.getD k 0 = 1) && decide (k < T.length)).map fun k : Nat => (k : Int)
theorem wantB_succ (T : List W) (s : Hs) (i : Nat) : wantB T s (i + 1) = wantB T s i ++ if s.2.1.getD i 0 = 1 ∧ i < T.length then [(i : Int)] else [] := by
  simp only [wantB, List.range_succ, List.filter_append, List.map_append]
  congr 1
  by_cases h : s.2.1.getD i 0 = 1 ∧ i < T.length
  · rw [if_pos h]
    simp only [List.filter_cons, h.1, h.2, decide_true, Bool.and_self, if_true, List.filter_nil, List.map_cons, List.map_nil]
  · rw [if_neg h]
    have : (decide (s.2.1.getD i 0 = 1) && decide (i < T.length)) = false := by
      cases hb : (decide (s.2.1.getD i 0 = 1) && decide (i < T.length)) with
      | false => rfl
      | true =>
        simp only [Bool.and_eq_true, decide_eq_true_eq] at hb
        exact absurd hb h
    simp only [List.filter_cons, this, Bool.false_eq_true, if_false, List.filter_nil, List.map_nil]
theorem wantB_len (T : List W) (s : Hs) (i : Nat) : (wantB T s i).length ≤ i := by
  simp only [wantB, List.length_map]
  have := List.length_filter_le (fun k => decide (s.2.1.getD k 0 = 1) && decide (k < T.length)) (List.range i)
  simpa using this
def wantL (s : Hs) (i : Nat) : List Int := ((List.range i).filter fun k => decide (0 < s.2.2.getD k 0)).map fun k : Nat => (k : Int)
theorem wantL_succ (s : Hs) (i : Nat) : wantL s (i + 1) = wantL s i ++ if 0 < s.2.2.getD i 0 then [(i : Int)] else [] := by
  simp only [wantL, List.range_succ, List.filter_append, List.map_append]
  congr 1
  by_cases h : 0 < s.2.2.getD i 0
  · rw [if_pos h]
    simp only [List.filter_cons, h, decide_true, if_true, List.filter_nil, List.map_cons, List.map_nil]
  · rw [if_neg h]
    simp only [List.filter_cons, h, decide_false, Bool.false_eq_true, if_false, List.filter_nil, List.map_nil]
theorem wantL_len (s : Hs) (i : Nat) : (wantL s i).length ≤ i := by
  simp only [wantL, List.length_map]
  have := List.length_filter_le (fun k => decide (0 < s.2.2.getD k 0)) (List.range i)
  simpa using this

/-- Read of what is left of a book whose last line is left. -/
theorem left_book {T : List W} (hT : Texts T) {s : Hs} {n : Nat} (h : Left T s n) (hc : s.2.2.getD T.length 0 = 0) : leftL s ≠ [] ∧ OfBook (leftL s) T ∧ (∃ l ∈ leftL s, Near T T.length l) := by
  have := (left_mem h (Nat.le_refl T.length)).2 (.inl hc)
  have hm : ∃ l ∈ leftL s, Near T T.length l := ⟨_, this.1, this.2⟩
  refine ⟨fun e => ?_, of_near hT (left_each h) hm, hm⟩
  rw [e] at this
  exact absurd this.1 (by simp)

theorem read_byte {T : List W} (hT : Texts T) {s : Hs} {n : Nat} (h : Left T s n) (h0 : ∀ i, i ≤ T.length → s.2.2.getD i 0 = 0) : readB (jn (leftL s)) = (T, wantB T s (T.length + 1), 0) := by
  obtain ⟨h1, h2, _⟩ := left_book hT h (h0 _ (Nat.le_refl _))
  unfold readB
  rw [left_cut hT h h1]
  simp only
  rw [read_book h2, if_pos]
  · have e : (List.range T.length).filter (fun i => !rightB (leftL s) T i) = (List.range T.length).filter fun k => decide (s.2.1.getD k 0 = 1) && decide (k < T.length) := by
      apply List.filter_congr
      intro i hi
      rw [List.mem_range] at hi
      rw [left_right hT h hi, h0 i (by omega)]
      have h5 := h.once i (by omega)
      have h6 := h.inv.b i
      rcases (show s.2.1.getD i 0 = 0 ∨ s.2.1.getD i 0 = 1 by omega) with h7 | h7
      · rw [h7]; simp
      · rw [h7]; simp [hi]
    rw [e]
    refine Prod.ext rfl (Prod.ext ?_ rfl)
    simp only [wantB]
    rw [List.range_succ, List.filter_append]
    simp
  · rw [List.all_eq_true]
    intro i hi
    rw [List.mem_range] at hi
    rw [left_found hT h hi, h0 i (by omega)]
    rfl
theorem found_not {T : List W} (hT : Texts T) {s : Hs} {n : Nat} (h : Left T s n) (hc : s.2.2.getD T.length 0 = 0) : ((List.range T.length).filter fun i => !foundB (leftL s) T i).map (fun i : Nat => (i : Int)) = wantL s (T.length + 1) := by
  simp only [wantL]
  rw [List.range_succ, List.filter_append]
  have e2 : (fun k => decide (0 < s.2.2.getD k 0)) T.length = false := by simp only [hc]; rfl
  simp only [List.filter_cons, e2, Bool.false_eq_true, if_false, List.filter_nil, List.append_nil]
  congr 1
  apply List.filter_congr
  intro i hi
  rw [List.mem_range] at hi
  rw [left_found hT h hi]
  have := h.inv.b i
  by_cases h0 : s.2.2.getD i 0 = 0
  · rw [h0]; simp
  · have h1 : 0 < s.2.2.getD i 0 := by omega
    simp only [h0, h1, decide_true, decide_false, Bool.not_false]
theorem lost_left {T : List W} (hT : Texts T) {s : Hs} {n : Nat} (h : Left T s n) (hc : s.2.2.getD T.length 0 = 0) : lostB (jn (leftL s)) = (wantL s (T.length + 1), 0) := by
  obtain ⟨h1, h2, h3⟩ := left_book hT h hc
  unfold lostB
  rw [left_cut hT h h1]
  simp only
  rw [lost_bk hT (left_each h) h3, found_not hT h hc]
theorem read_left {T : List W} (hT : Texts T) {s : Hs} {n : Nat} (h : Left T s n) (hc : s.2.2.getD T.length 0 = 0) : (readB (jn (leftL s))).1 = (if wantL s (T.length + 1) = [] then T else []) ∧ (readB (jn (leftL s))).2.2 = (if wantL s (T.length + 1) = [] then 0 else 142) := by
  obtain ⟨h1, h2, _⟩ := left_book hT h hc
  have hf := found_not hT h hc
  unfold readB
  rw [left_cut hT h h1]
  simp only
  rw [read_book h2]
  have e : (List.range T.length).all (foundB (leftL s) T) = decide (wantL s (T.length + 1) = []) := by
    rw [← hf, Bool.eq_iff_iff, decide_eq_true_eq, List.all_eq_true, List.map_eq_nil_iff, List.filter_eq_nil_iff]
    constructor
    · intro h a ha; rw [h a ha]; simp
    · intro h a ha; have := h a ha; simpa using this
  rw [e]
  by_cases hw : wantL s (T.length + 1) = [] <;> simp [hw]

section
variable {K : World → Prop} (hK : ∀ w w', K w → Below w.heap.size w w' → K w')
include hK
variable (hS : ∀ s : W, s.length ≤ 1000000 → Ev.Good Tryd.prog K 68 [.str s, .str [10]] (strs (spl s)))
include hS

theorem law4 (T : List W) (hs : List Hm) (h : ∀ s ∈ T, s.length ≤ 1000000000000000) : Ev.Good Tryd.prog K 4 [strs T, harms hs] (.bool true) := by
  refine good_of_wp hK c4_ok (by simp) ?_
  have g17 := good17 hK T h
  have g13 := good13 hK hS
  simp at g17 ⊢
  refine callK_of g17 (by simp) ?_
  by_cases hcan : (!large T && decide (errT T = 0)) = true
  · have hT : Texts T := by
      simp only [Bool.and_eq_true, decide_eq_true_eq] at hcan
      exact texts_err.1 hcan.2
    have hwl := wrB_len hT.tx hT.len
    have g14 := good14 hK T (texts_len hT)
    have e14 : writeB T = (wrB T, 0) := by simp [writeB, texts_err.2 hT]
    rw [e14] at g14
    have g12 := good12 hK [wrB T] (by simp; omega)
    have e12 : large [wrB T] = false := by simp [large, total]; omega
    rw [e12] at g12
    have g18 := good18 hK (wrB T) hs (by omega)
    unfold hmR at g18
    rw [bk_cut hT] at g18
    simp only at g18
    rw [hcan]
    simp at g14 g12 ⊢
    refine callK_of g14 (by simp) ?_
    simp
    refine callK_of g12 (by simp) ?_
    simp
    by_cases h200 : 200 < hs.length
    · rw [if_pos h200] at g18
      have hi : (200 : Int) < (hs.length : Int) := by omega
      simp at g18 ⊢
      refine callK_of g18 (by simp) ?_
      simp [hi]
      intro _
      refine callK_of g13 (by simp) ?_
      simp
    · rw [if_neg h200] at g18
      have inv := inv_hTo (bkL T) hs hs.length (Nat.le_refl _)
      generalize hTo (bkL T) hs hs.length = s at *
      generalize hs.length = n at *
      have l1 := inv.l1
      have l2 := inv.l2
      have l3 := inv.l3
      rw [bkL_len] at l1 l2 l3
      simp at g18 ⊢
      refine callK_of g18 (by simp) ?_
      simp [l1]
      refine fun _ _ => ⟨by omega, ?_⟩
      have hlen := hT.len
      refine loop_q (fun i => [(0, AV.iv (strs T)), (7, .iv (strs s.1)), (8, .iv (ints s.2.1)), (9, .iv (ints s.2.2)), (11, .aref 11 (wantB T s i).length), (12, .iv (.int .i64 (i : Nat)))])
        (fun i => [(11, AO.arr 3 1 (emb (inE (wantB T s i))) 0)]) (T.length + 1) (fun i => ∀ k, k < i → s.2.1.getD k 0 ≤ 1 ∧ s.2.2.getD k 0 = 0) (by simp) ?_ ?_
      · intro hq
        rw [LoopAt_enter c4_b0.eq_1]
        have hL : Left T s n := ⟨inv, fun i hi => (hq i (by omega)).1⟩
        have h0 : ∀ i, i ≤ T.length → s.2.2.getD i 0 = 0 := fun i hi => (hq i (by omega)).2
        have hrb := read_byte hT hL h0
        have hjl := left_jn hL
        have g20 := good20 hK s.1 s.2.2 (by omega) (by have := left_total hL; omega)
        have g19 := good19 hK hS (jn (leftL s)) (by omega) (cut_bound _ (by omega))
        have g21 := good21 hK hS (jn (leftL s)) (by omega) (cut_bound _ (by omega))
        obtain ⟨z1, _⟩ := left_book hT hL (h0 _ (Nat.le_refl _))
        rw [left_cut hT hL z1] at g21
        simp only [left_bad hT hL] at g21
        rw [hrb] at g19
        have e20 : jnL s.1 s.2.2 s.1.length = leftL s := rfl
        rw [e20] at g20
        have g16 := good16 hK T T
        have g22 := good22 hK (wantB T s (T.length + 1)) (wantB T s (T.length + 1))
        have hwl2 := wantB_len T s (T.length + 1)
        generalize hW : wantB T s (T.length + 1) = Wn at *
        have le : (inE Wn).length = Wn.length := by simp [inE]
        have le2 : inE Wn = List.map (fun n => [IV.int .i64 n]) Wn := rfl
        have le3 : (inE Wn).take Wn.length = inE Wn := List.take_of_length_le (by omega)
        generalize jn (leftL s) = J at *
        simp [← le2] at g20 g19 g21 g16 g22 ⊢
        simp [l1]
        refine fun _ => callK_of g20 (by simp) ?_
        simp
        refine callK_of g19 (by simp) ?_
        simp
        refine callK_of g20 (by simp) ?_
        simp
        refine callK_of g21 (by simp) ?_
        simp
        refine callK_of g16 (by simp) ?_
        simp [le, le3]
        refine callK_of g22 (by simp) ?_
        simp
        refine callK_of g13 (by simp) ?_
        simp
      · intro i hi hq ih
        rw [LoopAt_enter c4_b0.eq_1]
        have hi1 : i < s.1.length := by omega
        have hi2 : i < s.2.1.length := by omega
        have hi3 : i < s.2.2.length := by omega
        have hii : (i : Int) < (T.length : Int) + 1 := by omega
        have hb := inv.b i
        have e1 : s.2.1.getD i 0 = s.2.1[i] := by simp [hi2]
        have e2 : s.2.2.getD i 0 = s.2.2[i] := by simp [hi3]
        have hwl2 := wantB_len T s i
        rw [wantB_succ] at ih
        rw [e1, e2] at hb
        rw [e1] at ih
        generalize wantB T s i = Wn at *
        have le : (inE Wn).length = Wn.length := by simp [inE]
        have le2 : inE (Wn ++ [(i : Int)]) = inE Wn ++ [[.int .i64 (i : Nat)]] := by simp [inE]
        generalize hmo : s.2.1[i] = mo at *
        generalize hlo : s.2.2[i] = lo at *
        by_cases c1 : 1 < mo
        · simp [l1, hii, hi2, hi3, hmo, hlo, c1]
          intros
          refine callK_of g13 (by simp) ?_
          simp
        · by_cases c2 : 0 < lo
          · simp [l1, hii, hi2, hi3, hmo, hlo, c1, c2]
            intros
            refine callK_of g13 (by simp) ?_
            simp
          · have ih := ih (fun k hk => by
              rcases Nat.lt_succ_iff_lt_or_eq.1 hk with h | h
              · exact hq k h
              · subst h; rw [e1, e2]; omega)
            by_cases c3 : mo = 1
            · by_cases c4 : i < T.length
              · rw [if_pos ⟨c3, c4⟩, le2] at ih
                simp at ih
                simp [l1, hii, hi2, hi3, hmo, hlo, c1, c2, c3, c4, le]
                repeat' (first | omega | assumption | intro _ | apply And.intro)
              · rw [if_neg (fun e => c4 e.2)] at ih
                have c4' : ¬ (i : Int) < (T.length : Int) := by omega
                simp at ih
                simp [l1, hii, hi2, hi3, hmo, hlo, c1, c2, c3, c4', le]
                repeat' (first | omega | assumption | intro _ | apply And.intro)
            · rw [if_neg (fun e => c3 e.1)] at ih
              simp at ih
              simp [l1, hii, hi2, hi3, hmo, hlo, c1, c2, c3, le]
              repeat' (first | omega | assumption | intro _ | apply And.intro)
  · have hcan' : (!large T && decide (errT T = 0)) = false := by simpa using hcan
    rw [hcan']
    simp
    refine callK_of g13 (by simp) ?_
    simp

theorem law8 (T : List W) (hs : List Hm) (h : ∀ s ∈ T, s.length ≤ 1000000000000000) : Ev.Good Tryd.prog K 8 [strs T, harms hs] (.bool true) := by
  refine good_of_wp hK c8_ok (by simp) ?_
  have g17 := good17 hK T h
  have g13 := good13 hK hS
  simp at g17 ⊢
  refine callK_of g17 (by simp) ?_
  by_cases hcan : (!large T && decide (errT T = 0)) = true
  · have hT : Texts T := by
      simp only [Bool.and_eq_true, decide_eq_true_eq] at hcan
      exact texts_err.1 hcan.2
    have hwl := wrB_len hT.tx hT.len
    have g14 := good14 hK T (texts_len hT)
    have e14 : writeB T = (wrB T, 0) := by simp [writeB, texts_err.2 hT]
    rw [e14] at g14
    have g12 := good12 hK [wrB T] (by simp; omega)
    have e12 : large [wrB T] = false := by simp [large, total]; omega
    rw [e12] at g12
    have g18 := good18 hK (wrB T) hs (by omega)
    unfold hmR at g18
    rw [bk_cut hT] at g18
    simp only at g18
    rw [hcan]
    simp at g14 g12 ⊢
    refine callK_of g14 (by simp) ?_
    simp
    refine callK_of g12 (by simp) ?_
    simp
    by_cases h200 : 200 < hs.length
    · rw [if_pos h200] at g18
      have hi : (200 : Int) < (hs.length : Int) := by omega
      simp at g18 ⊢
      refine callK_of g18 (by simp) ?_
      simp [hi]
      intro _
      refine callK_of g13 (by simp) ?_
      simp
    · rw [if_neg h200] at g18
      have inv := inv_hTo (bkL T) hs hs.length (Nat.le_refl _)
      generalize hTo (bkL T) hs hs.length = s at *
      generalize hs.length = n at *
      have l1 := inv.l1
      have l2 := inv.l2
      have l3 := inv.l3
      rw [bkL_len] at l1 l2 l3
      simp at g18 ⊢
      refine callK_of g18 (by simp) ?_
      simp [l1]
      refine fun _ _ => ⟨by omega, ?_⟩
      have hlen := hT.len
      refine loop_q (fun i => [(0, AV.iv (strs T)), (7, .iv (strs s.1)), (8, .iv (ints s.2.1)), (9, .iv (ints s.2.2)), (11, .aref 11 (wantL s i).length), (12, .iv (.int .i64 (i : Nat)))])
        (fun i => [(11, AO.arr 3 1 (emb (inE (wantL s i))) 0)]) (T.length + 1) (fun i => ∀ k, k < i → s.2.1.getD k 0 ≤ 1 ∧ (k = T.length → s.2.2.getD k 0 = 0)) (by simp) ?_ ?_
      · intro hq
        rw [LoopAt_enter c8_b0.eq_1]
        have hL : Left T s n := ⟨inv, fun i hi => (hq i (by omega)).1⟩
        have h0 : s.2.2.getD T.length 0 = 0 := (hq T.length (by omega)).2 rfl
        obtain ⟨r1, r2⟩ := read_left hT hL h0
        have r3 := (readB_texts (jn (leftL s))).2.2
        have hlb := lost_left hT hL h0
        have hjl := left_jn hL
        have g20 := good20 hK s.1 s.2.2 (by omega) (by have := left_total hL; omega)
        have g19 := good19 hK hS (jn (leftL s)) (by omega) (cut_bound _ (by omega))
        have g21 := good21 hK hS (jn (leftL s)) (by omega) (cut_bound _ (by omega))
        have g28 := good28 hK hS (jn (leftL s)) (by omega) (cut_bound _ (by omega))
        obtain ⟨z1, _⟩ := left_book hT hL h0
        rw [left_cut hT hL z1] at g21
        simp only [left_bad hT hL] at g21
        rw [hlb] at g28
        have e20 : jnL s.1 s.2.2 s.1.length = leftL s := rfl
        rw [e20] at g20
        have g16 := good16 hK T T
        have g22 := good22 hK (wantL s (T.length + 1)) (wantL s (T.length + 1))
        have hwl2 := wantL_len s (T.length + 1)
        generalize hW : wantL s (T.length + 1) = Wn at *
        have le : (inE Wn).length = Wn.length := by simp [inE]
        have le2 : inE Wn = List.map (fun n => [IV.int .i64 n]) Wn := rfl
        have le3 : (inE Wn).take Wn.length = inE Wn := List.take_of_length_le (by omega)
        generalize readB (jn (leftL s)) = R at *
        generalize jn (leftL s) = J at *
        obtain ⟨R1, R2, R3⟩ := R
        simp only at r1 r2 r3
        by_cases hw : Wn = []
        · rw [if_pos hw] at r1 r2
          subst r1 r2
          subst hw
          have e0 : inE [] = [] := rfl
          simp [e0] at g20 g19 g21 g28 g16 g22 ⊢
          simp [l1]
          refine fun _ => callK_of g20 (by simp) ?_
          simp
          refine callK_of g19 (by simp) ?_
          simp
          refine callK_of g28 (by simp) ?_
          simp
          refine callK_of g21 (by simp) ?_
          simp
          refine callK_of g22 (by simp) ?_
          simp
          refine callK_of g16 (by simp) ?_
          simp
          refine callK_of g13 (by simp) ?_
          simp
        · rw [if_neg hw] at r1 r2
          subst r1 r2
          obtain ⟨_, rfl⟩ := r3 (by decide)
          have hpos : 0 < Wn.length := List.length_pos_iff.2 hw
          simp [← le2] at g20 g19 g21 g28 g16 g22 ⊢
          simp [l1]
          refine fun _ => callK_of g20 (by simp) ?_
          simp
          refine callK_of g19 (by simp) ?_
          simp
          refine callK_of g28 (by simp) ?_
          simp
          refine callK_of g21 (by simp) ?_
          simp [le, le3]
          refine callK_of g22 (by simp) ?_
          simp [hpos, le]
          intros
          refine callK_of g13 (by simp) ?_
          simp
      · intro i hi hq ih
        rw [LoopAt_enter c8_b0.eq_1]
        have hi1 : i < s.1.length := by omega
        have hi2 : i < s.2.1.length := by omega
        have hi3 : i < s.2.2.length := by omega
        have hii : (i : Int) < (T.length : Int) + 1 := by omega
        have hb := inv.b i
        have e1 : s.2.1.getD i 0 = s.2.1[i] := by simp [hi2]
        have e2 : s.2.2.getD i 0 = s.2.2[i] := by simp [hi3]
        have hwl2 := wantL_len s i
        rw [wantL_succ] at ih
        rw [e1, e2] at hb
        rw [e2] at ih
        generalize wantL s i = Wn at *
        have le : (inE Wn).length = Wn.length := by simp [inE]
        have le2 : inE (Wn ++ [(i : Int)]) = inE Wn ++ [[.int .i64 (i : Nat)]] := by simp [inE]
        generalize hmo : s.2.1[i] = mo at *
        generalize hlo : s.2.2[i] = lo at *
        by_cases c1 : 1 < mo
        · simp [l1, hii, hi2, hmo, c1]
          intros
          refine callK_of g13 (by simp) ?_
          simp
        · by_cases c2 : 0 < lo
          · by_cases c3 : i = T.length
            · have c3' : (T.length : Int) = ((i : Nat) : Int) := by omega
              have hii' : (i : Int) < (i : Int) + 1 := by omega
              simp [l1, hii', hi2, hi3, hmo, hlo, c1, c2, c3']
              intros
              refine callK_of g13 (by simp) ?_
              simp
            · have c3' : ¬ ((i : Nat) : Int) = (T.length : Int) := by omega
              have ih := ih (fun k hk => by
                rcases Nat.lt_succ_iff_lt_or_eq.1 hk with h | h
                · exact hq k h
                · subst h; rw [e1]; exact ⟨by omega, fun e => absurd e c3⟩)
              rw [if_pos c2, le2] at ih
              simp at ih
              simp [l1, hii, hi2, hi3, hmo, hlo, c1, c2, c3', le]
              repeat' (first | omega | assumption | intro _ | apply And.intro)
          · have ih := ih (fun k hk => by
              rcases Nat.lt_succ_iff_lt_or_eq.1 hk with h | h
              · exact hq k h
              · subst h; rw [e1, e2]; exact ⟨by omega, fun _ => by omega⟩)
            rw [if_neg c2] at ih
            simp at ih
            by_cases c3 : i = T.length
            · have c3' : (T.length : Int) = ((i : Nat) : Int) := by omega
              have hii' : (i : Int) < (i : Int) + 1 := by omega
              simp [l1, hii', hi2, hi3, hmo, hlo, c1, c2, c3', le] at ih ⊢
              repeat' (first | omega | assumption | intro _ | apply And.intro)
            · have c3' : ¬ ((i : Nat) : Int) = (T.length : Int) := by omega
              simp [l1, hii, hi2, hi3, hmo, hlo, c1, c2, c3', le] at ih ⊢
              repeat' (first | omega | assumption | intro _ | apply And.intro)
  · have hcan' : (!large T && decide (errT T = 0)) = false := by simpa using hcan
    rw [hcan']
    simp
    refine callK_of g13 (by simp) ?_
    simp
end
end Go.Bk
