/- The law of the clear paper. -/
import Derived.Test.YtahldekpgadgdaaDoorMore
import Derived.Test.YtahldekpgadgdaaDoorLaws
set_option linter.all false

namespace Go.Pp
open Go Go.Ev Go.Proofs Go.RowKit
set_option maxRecDepth 8000

theorem clash_one {L : List Rd} (h : L.length = 1) (t : Nat) : clash L t = false := by
  match L, h with
  | [a], _ => simp [clash]
theorem doubt_one {s : W} {fs : List Int} (h : (rs s fs).length = 1) : doubtAt s fs = none := by
  unfold doubtAt
  rw [List.find?_eq_none]
  intro t _
  rw [clash_one h]
  simp
theorem best_min (c : Rd → Nat) (L : List Rd) (hp : 0 < L.length) : ∀ i, i ≤ L.length → ∀ (b j : Nat) (hb : b < L.length) (hj : j < L.length), bestN c L i = b → j < i → c L[b] ≤ c L[j] ∧ (c L[j] = c L[b] → b ≤ j)
  | 0, _, _, _, _, _, _, h => by omega
  | i + 1, hi, b, j, hb, hj, hbe, hji => by
    have hil : i < L.length := hi
    have hbl := bestN_lt c L hp i (by omega)
    rw [bestN_succ c L i hil hbl] at hbe
    have ih := best_min c L hp i (by omega) (bestN c L i) j hbl hj rfl
    by_cases hlt : c L[i] < c L[bestN c L i]
    · rw [if_pos hlt] at hbe
      subst hbe
      by_cases h : j = i
      · subst h; exact ⟨Nat.le_refl _, fun _ => Nat.le_refl _⟩
      · have := (ih (by omega)).1
        exact ⟨by omega, fun e => by omega⟩
    · rw [if_neg hlt] at hbe
      subst hbe
      by_cases h : j = i
      · subst h
        refine ⟨by omega, fun _ => ?_⟩
        have : ∀ m, m ≤ L.length → 0 < m → bestN c L m < m := by
          intro m
          induction m with
          | zero => intro _ h; omega
          | succ m ih2 =>
            intro hm _
            have h1 := bestN_lt c L hp m (by omega)
            rw [bestN_succ c L m hm h1]
            split
            · omega
            · by_cases h0 : m = 0
              · subst h0; simp [bestN]
              · have := ih2 (by omega) (by omega); omega
        by_cases h0 : j = 0
        · subst h0; simp [bestN]
        · have := this j (by omega) (by omega)
          omega
      · exact ih (by omega)
theorem matters_mem {s : W} {fs : List Int} {i : Nat} (h : i ∈ mattersL s fs) : i < fs.length ∧ fs.getD i 0 = 3 := by
  unfold mattersL mattersN at h
  rw [List.mem_filter] at h
  simp only [Bool.and_eq_true, decide_eq_true_eq, List.mem_range] at h
  exact ⟨h.1, h.2.1⟩

/-- Where no fact matters, a reading has one value alone. -/
theorem no_matter {s : W} {fs : List Int} (hc : factsOk fs = true) (hm : mattersL s fs = []) {r : Rd} (hr : r ∈ rs s fs) :
    ∀ m, m ≤ fs.length → ∀ t t', t ∈ tru fs → t' ∈ tru fs → (∀ j, m ≤ j → t.testBit j = t'.testBit j) → val r t = val r t'
  | 0, _, t, t', _, _, h => by rw [Nat.eq_of_testBit_eq (fun j => h j (Nat.zero_le _))]
  | m + 1, hml, t, t', ht, ht', h => by
    by_cases hb : t.testBit m = t'.testBit m
    · refine no_matter hc hm hr m (by omega) t t' ht ht' fun j hj => ?_
      by_cases e : j = m
      · subst e; exact hb
      · exact h j (by omega)
    · have h1 := ((mem_tru hc t).1 ht).2 m hml
      have h2 := ((mem_tru hc t').1 ht').2 m hml
      have h3 : fs.getD m 0 = 3 := by
        simp only [factsOk, Bool.and_eq_true, List.all_eq_true, decide_eq_true_eq] at hc
        have hmem : fs.getD m 0 ∈ fs := by
          rw [List.getD_eq_getElem?_getD, List.getElem?_eq_getElem hml]
          exact List.getElem_mem hml
        have h4 := hc.1 _ hmem
        cases e1 : t.testBit m <;> cases e2 : t'.testBit m
        · rw [e1, e2] at hb; exact absurd rfl hb
        · have := h1.2 e1; have := h2.1 e2; omega
        · have := h1.1 e1; have := h2.2 e2; omega
        · rw [e1, e2] at hb; exact absurd rfl hb
      have hf := (flip_mem hc hml ht).2 h3
      have hv : val r t = val r (t ^^^ 2 ^ m) := by
        have hn : m ∉ mattersL s fs := by rw [hm]; simp
        unfold mattersL mattersN at hn
        rw [List.mem_filter] at hn
        simp only [Bool.and_eq_true, decide_eq_true_eq, List.mem_range, not_and, Bool.not_eq_true] at hn
        have := hn hml h3
        unfold mattersAt at this
        rw [List.any_eq_false] at this
        have := this t ht
        simp only [Bool.not_eq_true, List.any_eq_false] at this
        have := this r hr
        simpa using this
      rw [hv]
      refine no_matter hc hm hr m (by omega) _ t' hf ht' fun j hj => ?_
      rw [flip_bit]
      by_cases e : m = j
      · subst e
        simp
        cases e1 : t.testBit m <;> cases e2 : t'.testBit m <;> simp [e1, e2] at hb ⊢
      · simp [e]
        exact h j (by omega)
theorem no_matter_means {s : W} {fs : List Int} (hc : factsOk fs = true) (hm : mattersL s fs = []) {r : Rd} (hr : r ∈ rs s fs) : meansOf fs r ≠ 3 := by
  intro h3
  have hp := tru_pos fs
  have h1 := means_one fs r
  have h2 := means_two fs r
  have all : ∀ t ∈ tru fs, ∀ t' ∈ tru fs, val r t = val r t' := by
    intro t ht t' ht'
    refine no_matter hc hm hr fs.length (Nat.le_refl _) t t' ht ht' fun j hj => ?_
    have a := ((mem_tru hc t).1 ht).1
    have b := ((mem_tru hc t').1 ht').1
    have e : 2 ^ fs.length ≤ 2 ^ j := Nat.pow_le_pow_right (by omega) hj
    rw [Nat.testBit_lt_two_pow (by omega), Nat.testBit_lt_two_pow (by omega)]
  unfold cnt at h1 h2
  have a0 := List.getElem_mem hp
  cases hv : val r (tru fs)[0] with
  | true =>
    have : (tru fs).countP (val r) = (tru fs).length := by
      rw [List.countP_eq_length]
      intro t ht
      rw [all t ht _ a0, hv]
    have := h1.2 this
    omega
  | false =>
    have : (tru fs).countP (val r) = 0 := by
      rw [List.countP_eq_zero]
      intro t ht
      rw [all t ht _ a0, hv]
      simp
    have := h2.2 this
    omega

section
variable {K : World → Prop} (hK : ∀ w w', K w → Below w.heap.size w w' → K w')
variable (hS : ∀ s : W, s.length ≤ 1000 → Good Tryd.prog K 63 [.str s, .str [32]] (strs (spl s)))
include hK hS
def k9 : List AI := [.inBlock 0, .code (.seq (.seq (.ops c9_r15 false) (.cond (.t 144) (.seq (.ops c9_r16 false) (.seq (.ops c9_r17 false) (.cond (.t 152) (.seq (.ops c9_r18 false) (.ret)) (.skip)))) (.skip))) (.seq (.ops c9_r19 false) (.seq (.seq (.ops c9_r20 false) (.cond (.t 160) (.seq (.ops c9_r21 false) (.ret)) (.skip))) (.seq (.seq (.ops c9_r22 false) (.block 2 (.loop c9_b1 [1, 3, 7, 11, 16, 18] []))) (.seq (.ops c9_r29 false) (.ret))))))]
theorem loops9 (s : W) (fs : List Int) (M D : List Nat) (L : List Rd) (q : Int) (b n : Nat) (hn : n = L.length) (hl : L.length ≤ 323) (hbl : b < L.length)
    (hmget : ∀ (k : Nat) (hk : k < M.length), M[k] < fs.length ∧ fs.getD M[k] 0 = 3) (hm6 : M.length ≤ 6)
    (hq : q = 0 → ∃ t : Nat, Good Tryd.prog K 34 [paperV s fs, natsI D] (.tup [.int .i64 (t : Nat), .bool true]))
    (g28 : ∀ (i : Nat) (h : i < L.length), Good Tryd.prog K 28 [paperV s fs, .int .i64 (i : Nat)] (.tup [.int .i64 (meansOf fs L[i]), .int .i64 0]))
    (g26 : ∀ (i : Nat) (h : i < L.length), Good Tryd.prog K 26 [paperV s fs, .int .i64 (i : Nat)] (.tup [.int .i64 (cnt fs L[i] : Nat), .int .i64 0]))
    (hmin : ∀ (j : Nat) (hj : j < L.length), cnt fs L[b] ≤ cnt fs L[j] ∧ (cnt fs L[j] = cnt fs L[b] → b ≤ j))
    (hnm : M = [] → ∀ r ∈ L, meansOf fs r ≠ 3) :
    LoopAt Tryd.prog K [.tmp 2] (.bool true) c9_b0 [1, 3, 7, 9, 10, 11, 13] [] k9 [(1, .iv (.ptr [.str s, ints fs])), (3, .iv (.int .i64 (n : Nat))), (7, .iv (natsI M)), (9, .iv (natsI D)), (10, .iv (.int .i64 q)), (11, .iv (.int .i64 (b : Nat))), (13, .iv (.int .i64 0))] [] := by
  have g13 := good13 hK hS
  refine loop_up (fun i => [(1, .iv (.ptr [.str s, ints fs])), (3, .iv (.int .i64 (n : Nat))), (7, .iv (natsI M)), (9, .iv (natsI D)), (10, .iv (.int .i64 q)), (11, .iv (.int .i64 (b : Nat))), (13, .iv (.int .i64 (i : Nat)))]) (fun _ => []) M.length ?_ ?_
  · rw [LoopAt_enter c9_b0.eq_1]
    simp [k9]
    intro _
    have loop2 : ∀ kk, kk = [AI.inBlock 2, AI.code (.seq (.ops c9_r29 false) (.ret))] → LoopAt Tryd.prog K [.tmp 2] (.bool true) c9_b1 [1, 3, 7, 11, 16, 18] [] kk [(1, .iv (.ptr [.str s, ints fs])), (3, .iv (.int .i64 (n : Nat))), (7, .iv (natsI M)), (11, .iv (.int .i64 (b : Nat))), (16, .iv (.int .i64 (cnt fs L[b] : Nat))), (18, .iv (.int .i64 0))] [] := by
      intro kk hkk
      subst hkk
      refine loop_up (fun i => [(1, .iv (.ptr [.str s, ints fs])), (3, .iv (.int .i64 (n : Nat))), (7, .iv (natsI M)), (11, .iv (.int .i64 (b : Nat))), (16, .iv (.int .i64 (cnt fs L[b] : Nat))), (18, .iv (.int .i64 (i : Nat)))]) (fun _ => []) L.length ?_ ?_
      · rw [LoopAt_enter c9_b1.eq_1]
        simp [hn]
        refine callK_of g13 (by simp) ?_
        simp
      · intro i hi ih
        have q1 := g26 i hi
        have q2 := g28 i hi
        have q3 := hmin i hi
        have q4 : M = [] → meansOf fs L[i] ≠ 3 := fun h => hnm h _ (List.getElem_mem hi)
        generalize cnt fs L[i] = c at *
        generalize cnt fs L[b] = c0 at *
        generalize meansOf fs L[i] = m at *
        have n1 : ¬ c < c0 := by omega
        have hin : (i : Int) < n := by omega
        rw [LoopAt_enter c9_b1.eq_1]
        simp [hin]
        refine callK_of q1 (by simp) ?_
        simp
        refine callK_of q2 (by simp) ?_
        have n6 : M ≠ [] → ¬ (M.length : Int) = 0 := fun h => by have := List.length_pos_iff.2 h; omega
        by_cases hc : (c : Int) = c0
        · have n2 : ¬ i < b := by have := q3.2 (by omega); omega
          by_cases hM : M = []
          · have n3 := q4 hM
            simp [n1, hc, n2, n3, hM] at ih ⊢
            exact ⟨by omega, ih⟩
          · have n7 := n6 hM
            simp [n1, hc, n2, n7, hM] at ih ⊢
            intro _
            exact ⟨by omega, ih⟩
        · by_cases hM : M = []
          · have n3 := q4 hM
            simp [n1, hc, n3, hM] at ih ⊢
            exact ⟨by omega, ih⟩
          · have n7 := n6 hM
            simp [n1, hc, n7, hM] at ih ⊢
            intro _
            exact ⟨by omega, ih⟩
    by_cases h0 : q = 0
    · obtain ⟨t, ht⟩ := hq h0
      simp [h0]
      refine callK_of ht (by simp) ?_
      simp
      refine callK_of (g26 b hbl) (by simp) ?_
      simp
      exact loop2 _ rfl
    · simp [h0]
      refine callK_of (g26 b hbl) (by simp) ?_
      simp
      exact loop2 _ rfl
  · intro i hi ih
    have hg := hmget i hi
    rw [LoopAt_enter c9_b0.eq_1]
    have h1 : (M[i] : Int) ≤ (fs.length : Int) - 1 := by omega
    have h3 : fs[M[i]]'hg.1 = 3 := by
      have := hg.2
      rw [List.getD_eq_getElem?_getD, List.getElem?_eq_getElem hg.1] at this
      exact this
    have g42 := good42 hK M[i] 0 ((fs.length : Int) - 1)
    simp [h1] at g42
    have hg1 := hg.1
    simp [hi]
    refine fun _ _ => ⟨by omega, ?_⟩
    refine callK_of g42 (by simp) ?_
    simp [hi, hg1, h3] at ih ⊢
    exact ⟨by omega, ih⟩
theorem law9 (s : W) (fs : List Int) : Good Tryd.prog K 9 [paperV s fs] (.bool true) := by
  have g13 := good13 hK hS
  refine good_of_wp hK c9_ok (by simp) ?_
  simp
  refine callK_of (good12 hK s fs) (by simp) ?_
  cases hr : readyB s fs with
  | false =>
    simp
    refine callK_of g13 (by simp) ?_
    simp
  | true =>
    have hr' := hr
    simp [readyB] at hr'
    obtain ⟨hf, he⟩ := hr'
    have fit := fit_of_far hf
    have hc := (err_ok he).1
    have h6 := factsOk_len hc
    have hne := (err_ok he).2.2
    have hpos : 0 < (rs s fs).length := List.length_pos_iff.2 hne
    have hl := rs_len s fs
    have hbl := bestN_lt (cnt fs) (rs s fs) hpos _ (Nat.le_refl _)
    have hmin := fun (j : Nat) (hj : j < (rs s fs).length) => best_min (cnt fs) (rs s fs) hpos _ (Nat.le_refl _) _ j hbl hj rfl hj
    have hml : (mattersL s fs).length ≤ fs.length := mattersN_len fs (rs s fs) fs.length
    have hmm := @matters_mem s fs
    have hnm : mattersL s fs = [] → ∀ r ∈ rs s fs, meansOf fs r ≠ 3 := fun h r hr => no_matter_means hc h hr
    have hdl : (doubtL s fs).length ≤ 6 := by
      have : (doubtL s fs).length ≤ fs.length := by
        unfold doubtL
        split
        · simp
        · split <;> simp [bitsOf]
      omega
    have g28 : ∀ (i : Nat) (h : i < (rs s fs).length), Good Tryd.prog K 28 [paperV s fs, .int .i64 (i : Nat)] (.tup [.int .i64 (meansOf fs (rs s fs)[i]), .int .i64 0]) := by
      intro i hi
      have hat : rdAt s fs (i : Nat) = some (rs s fs)[i] := by simp [rdAt, hi]
      have := good28 hK hS s fs (i : Nat) fit
      simpa [meansV, hat, oneE_some hat] using this
    have g26 : ∀ (i : Nat) (h : i < (rs s fs).length), Good Tryd.prog K 26 [paperV s fs, .int .i64 (i : Nat)] (.tup [.int .i64 (cnt fs (rs s fs)[i] : Nat), .int .i64 0]) := by
      intro i hi
      have hat : rdAt s fs (i : Nat) = some (rs s fs)[i] := by simp [rdAt, hi]
      have := good26 hK hS s fs (i : Nat) fit
      simpa [countV, hat, oneE_some hat] using this
    have h34 : ∀ t, doubtAt s fs = some t → Good Tryd.prog K 34 [paperV s fs, natsI (doubtL s fs)] (.tup [.int .i64 (t : Nat), .bool true]) := by
      intro t ht
      have htm : t ∈ tru fs := List.mem_of_find?_eq_some ht
      have g34 := good34 hK s fs ((bitsOf t fs.length).map fun k : Nat => (k : Int)) hc
      rw [numV_bits hc htm, ← natsI_eq] at g34
      have : doubtL s fs = bitsOf t fs.length := by simp [doubtL, he, ht]
      rw [this]
      exact g34
    have h1c : (rs s fs).length = 1 → doubtAt s fs = none := doubt_one
    have g21 := good21 hK hS s fs fit
    have g39 := good39 hK hS s fs fit
    have g40 := good40 hK hS s fs fit
    have g41 := good41 hK hS s fs fit
    have g31 := good31 hK hS s fs fit
    simp only [clearV, mattersV, doubtV, strictV, he] at g21 g39 g40 g41 g31
    have hde : doubtE s fs = (if (doubtAt s fs).isNone then 3 else 0) := by
      unfold doubtE
      rw [if_neg (by simp [he])]
      cases doubtAt s fs <;> rfl
    have hds : (doubtAt s fs).isNone = false → ∃ t : Nat, Good Tryd.prog K 34 [paperV s fs, natsI (doubtL s fs)] (.tup [.int .i64 (t : Nat), .bool true]) := by
      intro h
      cases hd : doubtAt s fs with
      | none => rw [hd] at h; cases h
      | some t => exact ⟨t, h34 t hd⟩
    have h1c' : (rs s fs).length = 1 → (doubtAt s fs).isNone = true := fun h => by rw [h1c h]; rfl
    clear h34 h1c
    rw [hde] at g41
    clear hde
    generalize mattersL s fs = M at *
    generalize doubtL s fs = D at *
    generalize rs s fs = L at *
    generalize bestN (cnt fs) L L.length = b at *
    generalize (doubtAt s fs).isNone = c at *
    generalize hq : (if c = true then 3 else 0 : Int) = q at *
    have hcase : (c = true ∧ q = 3 ∧ L.length = 1) ∨ (c = true ∧ q = 3 ∧ L.length ≠ 1) ∨ (c = false ∧ q = 0 ∧ L.length ≠ 1) := by
      by_cases hL : L.length = 1
      · have := h1c' hL
        subst this
        exact .inl ⟨rfl, hq.symm, hL⟩
      · cases c with
        | true => exact .inr (.inl ⟨rfl, hq.symm, hL⟩)
        | false => exact .inr (.inr ⟨rfl, hq.symm, hL⟩)
    have n1 : ¬ (L.length : Int) < 1 := by omega
    have n2 : ¬ (5000 : Int) < L.length := by omega
    have n3 : ¬ (L.length : Int) ≤ b := by omega
    have n4 : ¬ (fs.length : Int) < M.length := by omega
    have n5 : ¬ (40 : Int) < D.length := by omega
    have g26b := g26 b hbl
    have hmget : ∀ (k : Nat) (hk : k < M.length), M[k] < fs.length ∧ fs.getD M[k] 0 = 3 := fun k hk => hmm (List.getElem_mem hk)
    simp
    refine callK_of g21 (by simp) ?_
    simp
    refine callK_of g39 (by simp) ?_
    simp
    refine callK_of g40 (by simp) ?_
    simp
    refine callK_of g41 (by simp) ?_
    simp
    refine callK_of g31 (by simp) ?_
    have main := fun (n : Nat) (hn : n = L.length) => loops9 hK hS s fs M D L q b n hn hl hbl hmget (by omega) (fun h => hds (by rw [← hq] at h; cases c with | true => simp at h | false => rfl)) g28 g26 hmin hnm
    have n0 : ¬ (b : Int) < 0 := by omega
    rcases hcase with ⟨hc1, hq3, hL⟩ | ⟨hc1, hq3, hL⟩ | ⟨hc1, hq3, hL⟩
    · subst hc1 hq3
      have main := main 1 hL.symm
      have hb0 : b = 0 := by omega
      subst hb0
      simp [n4, n5, hL]
      intro _ _ _
      exact main
    · subst hc1 hq3
      have hL' : ¬ (L.length : Int) = 1 := by omega
      simp [n1, n2, n3, n4, n5, hL']
      intro _ _ _
      exact main _ rfl
    · subst hc1 hq3
      have hL' : ¬ (L.length : Int) = 1 := by omega
      simp [n1, n2, n3, n4, n5, hL']
      intro _ _ _
      exact main _ rfl
end
end Go.Pp
