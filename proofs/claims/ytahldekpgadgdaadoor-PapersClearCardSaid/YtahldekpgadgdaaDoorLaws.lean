/- Laws of courts and of each truth. -/
import Derived.Test.YtahldekpgadgdaaDoorWorks
import Derived.Test.YtahldekpgadgdaaDoorFacts
set_option linter.all false

namespace Go.Pp
open Go Go.Ev Go.Proofs Go.RowKit

theorem bitsOf_int (t n : Nat) : natsI (bitsOf t n) = ints ((bitsOf t n).map fun k : Nat => (k : Int)) := natsI_eq _
theorem numN_bits (t n : Nat) : ∀ i, i ≤ n → numN ((bitsOf t n).map fun k : Nat => (k : Int)) i = t % 2 ^ i
  | 0, _ => by simp [numN, Nat.mod_one]
  | i + 1, h => by
    have ih := numN_bits t n i (by omega)
    have hl : i < ((bitsOf t n).map fun k : Nat => (k : Int)).length := by simp [bitsOf]; omega
    have e : ((bitsOf t n).map fun k : Nat => (k : Int)).getD i 0 = ((t.testBit i).toNat : Nat) := by
      rw [List.getD_eq_getElem?_getD, List.getElem?_eq_getElem hl]
      simp [bitsOf]
    simp only [numN, ih, e]
    have e2 : ((t.testBit i).toNat : Nat) = t / 2 ^ i % 2 := by
      rw [Nat.testBit_eq_decide_div_mod_eq]
      rcases Nat.mod_two_eq_zero_or_one (t / 2 ^ i) with h | h <;> simp [h]
    rw [Int.toNat_natCast, e2, Nat.mod_pow_succ, Nat.mul_comm]
theorem numOk_bits (t : Nat) (fs : List Int) : numOk fs ((bitsOf t fs.length).map fun k : Nat => (k : Int)) = true := by
  simp [numOk, bitsOf]
  intro x _
  cases t.testBit x <;> simp
theorem numV_bits {fs : List Int} {t : Nat} (h : factsOk fs = true) (ht : t ∈ tru fs) : numV fs ((bitsOf t fs.length).map fun k : Nat => (k : Int)) = .tup [.int .i64 (t : Nat), .bool true] := by
  have h1 := ((mem_tru h t).1 ht).1
  have h2 : ((bitsOf t fs.length).map fun k : Nat => (k : Int)).length = fs.length := by simp [bitsOf]
  unfold numV
  rw [if_pos (numOk_bits t fs), h2, numN_bits t _ _ (Nat.le_refl _), Nat.mod_eq_of_lt h1]
  simp [ht]

section
variable {K : World → Prop} (hK : ∀ w w', K w → Below w.heap.size w w' → K w')
variable (hS : ∀ s : W, s.length ≤ 1000 → Good Tryd.prog K 63 [.str s, .str [32]] (strs (spl s)))
include hK hS
set_option maxRecDepth 8000 in
theorem law10 (s : W) (fs : List Int) : Good Tryd.prog K 10 [paperV s fs] (.bool true) := by
  have g13 := good13 hK hS
  refine good_of_wp hK c10_ok (by simp) ?_
  simp
  refine callK_of (good27 hK s fs) (by simp) ?_
  cases hf : farB s fs with
  | true =>
    simp
    refine callK_of g13 (by simp) ?_
    simp
  | false =>
    have fit := fit_of_far hf
    have hl : fs.length ≤ 40 := by simp [farB] at hf; omega
    have hd : ¬ (40 : Int) < (doubtL s fs).length := by
      have : (doubtL s fs).length ≤ fs.length := by
        unfold doubtL
        split
        · simp
        · split <;> simp [bitsOf]
      omega
    have g24a := good24 hK ((mattersL s fs).map fun n : Nat => (n : Int)) ((mattersL s fs).map fun n : Nat => (n : Int))
    rw [← natsI_eq] at g24a
    simp
    refine callK_of (good17 hK s fs (by omega)) (by simp) ?_
    simp
    refine callK_of (good35 hK hS s fs fit) (by simp) ?_
    simp [courtV]
    refine callK_of (good43 hK s fs fit) (by simp) ?_
    simp [courtV]
    refine callK_of (good39 hK hS s fs fit) (by simp) ?_
    simp [clearV]
    refine callK_of (good44 hK s fs fit) (by simp) ?_
    simp [clearV]
    refine callK_of (good40 hK hS s fs fit) (by simp) ?_
    simp [mattersV]
    refine callK_of (good45 hK s fs fit) (by simp) ?_
    simp [mattersV]
    refine callK_of (good41 hK hS s fs fit) (by simp) ?_
    simp [doubtV]
    refine callK_of g24a (by simp) ?_
    simp [hd]
    intro _
    refine callK_of (good24 hK fs fs) (by simp) ?_
    simp
    by_cases he : err s fs = 0
    · cases ht : doubtAt s fs with
      | none =>
        simp [he, doubtE, doubtL, ht]
        refine callK_of g13 (by simp) ?_
        simp
      | some t =>
        have hc := (err_ok he).1
        have htm : t ∈ tru fs := List.mem_of_find?_eq_some ht
        have hcl : clash (rs s fs) t = true := by have := List.find?_some ht; exact this
        have g34 := good34 hK s fs ((bitsOf t fs.length).map fun k : Nat => (k : Int)) hc
        rw [numV_bits hc htm, ← natsI_eq] at g34
        have ht63 : t < 64 := tru_lt (factsOk_len hc) t htm
        have g46 := good46 hK ((rs s fs).map fun r => (text r, tset r)) t (by intro x hx; rw [List.mem_map] at hx; obtain ⟨r, _, rfl⟩ := hx; exact tset_lt r) (by omega)
        have e46 : (((rs s fs).map fun r => (text r, tset r)).any fun x => x.2.testBit t != (((rs s fs).map fun r => (text r, tset r)).headD ([], 0)).2.testBit t) = true := by
          generalize rs s fs = L at *
          cases L with
          | nil => simp [clash] at hcl
          | cons a L =>
            simp [clash, ← tset_bit _ t ht63] at hcl ⊢
            exact hcl
        rw [e46] at g46
        simp only [List.map_map, Function.comp_def] at g46
        simp [he, doubtE, doubtL, ht]
        refine callK_of (good33 hK s fs fit) (by simp) ?_
        simp
        refine callK_of g34 (by simp) ?_
        simp [he]
        refine callK_of g46 (by simp) ?_
        simp
        refine callK_of g13 (by simp) ?_
        simp
    · simp [he, doubtE, doubtL]
      refine callK_of g13 (by simp) ?_
      simp

set_option maxRecDepth 8000 in
theorem law3 (s : W) (fs : List Int) : Good Tryd.prog K 3 [paperV s fs] (.bool true) := by
  have g13 := good13 hK hS
  refine good_of_wp hK c3_ok (by simp) ?_
  simp
  refine callK_of (good12 hK s fs) (by simp) ?_
  cases hr : readyB s fs with
  | false =>
    simp
    refine callK_of g13 (by simp) ?_
    simp
  | true =>
    have hr' := hr
    simp [readyB] at hr'
    obtain ⟨hf, he⟩ := hr'
    have fit := fit_of_far hf
    simp
    refine callK_of (good14 hK hS s fs fit) (by simp) ?_
    simp [he]
    have hl : (textsL s fs).length ≤ 323 := by have := rs_len s fs; simpa [textsL] using this
    have ht : ∀ t ∈ textsL s fs, t.length ≤ 81 ∧ t.filter (fun c => c != 40 && c != 41) = s := by
      intro t ht
      simp only [textsL, List.mem_map] at ht
      obtain ⟨r, hr, rfl⟩ := ht
      refine ⟨rs_text s fs r hr, ?_⟩
      rw [bare_text r (rs_fok s fs r hr)]
      have : r ∈ rdg fs.length 9 (spl s) := by unfold rs at hr; split at hr; exact hr; simp at hr
      rw [rdg_words _ _ _ _ this, join_spl]
    have hn : (textsL s fs).Nodup := by
      unfold textsL List.Nodup
      rw [List.pairwise_map]
      have : (rs s fs).Nodup := by unfold rs; split; exact rdg_nodup _ _ _; simp
      exact List.Pairwise.imp_of_mem (fun {a b} ha hb h e => h (text_eq (rs_fok s fs a ha) (rs_fok s fs b hb) e)) this
    have hat : rdAt s fs ((textsL s fs).length : Nat) = none := by simp [rdAt, textsL]
    have g16 := good16 hK hS s fs ((textsL s fs).length : Nat) fit
    have e4 : writeV s fs ((textsL s fs).length : Nat) = .tup [.str [], .int .i64 1] := by simp [writeV, hat, oneE, he]
    rw [e4] at g16
    generalize textsL s fs = L at *
    refine loop_up (fun i => [(1, .iv (.ptr [.str s, ints fs])), (3, .iv (strs L)), (5, .iv (.int .i64 (i : Nat)))]) (fun _ => []) L.length ?_ ?_
    · rw [LoopAt_enter c3_b1.eq_1]
      simp
      intro _
      refine callK_of g16 (by simp) ?_
      simp
      refine callK_of g13 (by simp) ?_
      simp
    · intro i hi ih
      have h1 := ht _ (List.getElem_mem hi)
      rw [LoopAt_enter c3_b1.eq_1]
      simp [hi]
      intro _
      refine callK_of (good15 hK L[i] (by omega)) (by simp) ?_
      simp [h1.2]
      refine loop_up (fun k => [(1, .iv (.ptr [.str s, ints fs])), (3, .iv (strs L)), (5, .iv (.int .i64 (i : Nat))), (6, .iv (.int .i64 (k : Nat)))]) (fun _ => []) i ?_ ?_
      · rw [LoopAt_enter c3_b0.eq_1]
        simp at ih ⊢
        exact ⟨by omega, ih⟩
      · intro k hk ih2
        have hkl : k < L.length := by omega
        have hne : L[k] ≠ L[i] := List.pairwise_iff_getElem.1 hn k i hkl hi hk
        rw [LoopAt_enter c3_b0.eq_1]
        simp [hk, hi, hkl, hne] at ih2 ⊢
        exact ⟨by omega, ih2⟩
end
end Go.Pp
