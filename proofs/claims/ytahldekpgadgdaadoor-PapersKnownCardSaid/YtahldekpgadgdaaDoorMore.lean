/- Laws of each truth, and of the word not. -/
import Derived.Test.YtahldekpgadgdaaDoorWorks
import Derived.Test.YtahldekpgadgdaaDoorFacts
set_option linter.all false

namespace Go.Pp
open Go Go.Ev Go.Proofs Go.RowKit

theorem known_range (a b : Int) : 1 ≤ known a b ∧ known a b ≤ 3 := by
  unfold known
  split
  · omega
  · split <;> omega
theorem means_range (fs : List Int) (r : Rd) : 1 ≤ meansOf fs r ∧ meansOf fs r ≤ 3 := known_range _ _
theorem court_range {fs : List Int} {L : List Rd} (h : L ≠ []) : 1 ≤ courtOf fs L ∧ courtOf fs L ≤ 3 := by
  cases L with
  | nil => exact absurd rfl h
  | cons r L =>
    simp only [courtOf]
    split
    · exact means_range fs r
    · omega
theorem court_all {fs : List Int} {L : List Rd} (h : courtOf fs L ≠ 3) : ∀ r ∈ L, meansOf fs r = courtOf fs L := by
  cases L with
  | nil => intro r hr; simp at hr
  | cons a L =>
    simp only [courtOf] at h ⊢
    split
    · rename_i hc
      intro r hr
      exact of_decide_eq_true (List.all_eq_true.1 hc r hr)
    · rename_i hc
      rw [if_neg hc] at h
      exact absurd rfl h
theorem tru_pos (fs : List Int) : 0 < (tru fs).length := trN_pos fs _
theorem truths_len {fs : List Int} (h : factsOk fs = true) : (truths fs).length = (tru fs).length := by rw [tru_eq fs h]
theorem means_one (fs : List Int) (r : Rd) : meansOf fs r = 1 ↔ cnt fs r = (tru fs).length := by
  unfold meansOf known
  split
  · rename_i h; exact ⟨fun _ => by omega, fun _ => rfl⟩
  · rename_i h
    refine ⟨fun e => ?_, fun e => absurd (by omega) h⟩
    split at e <;> omega
theorem means_two (fs : List Int) (r : Rd) : meansOf fs r = 2 ↔ cnt fs r = 0 := by
  have := tru_pos fs
  unfold meansOf known
  split
  · rename_i h; exact ⟨fun e => by omega, fun e => by omega⟩
  · rename_i h
    split
    · exact ⟨fun _ => by omega, fun _ => rfl⟩
    · exact ⟨fun e => by omega, fun e => by omega⟩
theorem means_agrees {fs : List Int} {r : Rd} {t : Nat} (h : t ∈ tru fs) : agrees (meansOf fs r) (val r t) = true := by
  unfold agrees
  split
  · rename_i h1
    rw [means_one] at h1
    unfold cnt at h1
    rw [List.countP_eq_length] at h1
    exact h1 t h
  · split
    · rename_i h1
      rw [means_two] at h1
      unfold cnt at h1
      rw [List.countP_eq_zero] at h1
      simpa using h1 t h
    · have := means_range fs r
      simp
      omega
theorem numV_cases (fs v : List Int) : ∃ (N : Nat) (b : Bool), numV fs v = .tup [.int .i64 (N : Nat), .bool b] ∧ (b = true → N ∈ tru fs) := by
  unfold numV
  split
  · exact ⟨_, _, rfl, fun h => of_decide_eq_true h⟩
  · exact ⟨0, false, rfl, fun h => by cases h⟩

section
variable {K : World → Prop} (hK : ∀ w w', K w → Below w.heap.size w w' → K w')
variable (hS : ∀ s : W, s.length ≤ 1000 → Good Tryd.prog K 63 [.str s, .str [32]] (strs (spl s)))
include hK hS
set_option maxRecDepth 8000 in
theorem law8 (s : W) (fs v : List Int) : Good Tryd.prog K 8 [paperV s fs, ints v] (.bool true) := by
  have g13 := good13 hK hS
  refine good_of_wp hK c8_ok (by simp) ?_
  simp
  refine callK_of (good12 hK s fs) (by simp) ?_
  cases hr : readyB s fs with
  | false =>
    simp
    refine callK_of g13 (by simp) ?_
    simp
  | true =>
    have hr' := hr
    simp [readyB] at hr'
    obtain ⟨hf, he⟩ := hr'
    have fit := fit_of_far hf
    have hc := (err_ok he).1
    have hne := (err_ok he).2.2
    have h6 := factsOk_len hc
    by_cases hv : (40 : Int) < v.length
    · simp [hv]
      intro _
      refine callK_of g13 (by simp) ?_
      simp
    · simp [hv]
      intro _
      obtain ⟨N, b, hN, hb⟩ := numV_cases fs v
      have g34 := good34 hK s fs v hc
      rw [hN] at g34
      have g36 := good36 hK (courtOf fs (rs s fs))
      have hcr := court_range (fs := fs) hne
      simp [hcr] at g36
      have hall := court_all (fs := fs) (L := rs s fs)
      refine callK_of (good33 hK s fs fit) (by simp) ?_
      simp
      refine callK_of (good25 hK s fs h6) (by simp) ?_
      simp
      refine callK_of g34 (by simp) ?_
      simp
      refine callK_of (good21 hK hS s fs fit) (by simp) ?_
      simp
      refine callK_of (good35 hK hS s fs fit) (by simp) ?_
      simp [courtV, he]
      intro _
      refine callK_of g36 (by simp) ?_
      simp
      have g28 : ∀ (i : Nat) (h : i < (rs s fs).length), Good Tryd.prog K 28 [paperV s fs, .int .i64 (i : Nat)] (.tup [.int .i64 (meansOf fs (rs s fs)[i]), .int .i64 0]) := by
        intro i hi
        have hat : rdAt s fs (i : Nat) = some (rs s fs)[i] := by simp [rdAt, hi]
        have := good28 hK hS s fs (i : Nat) fit
        simpa [meansV, hat, oneE_some hat] using this
      have g26 : ∀ (i : Nat) (h : i < (rs s fs).length), Good Tryd.prog K 26 [paperV s fs, .int .i64 (i : Nat)] (.tup [.int .i64 (cnt fs (rs s fs)[i] : Nat), .int .i64 0]) := by
        intro i hi
        have hat : rdAt s fs (i : Nat) = some (rs s fs)[i] := by simp [rdAt, hi]
        have := good26 hK hS s fs (i : Nat) fit
        simpa [countV, hat, oneE_some hat] using this
      have hlen := truths_len hc
      have hlt : ∀ t ∈ tru fs, t < 64 := tru_lt h6
      have hl := rs_len s fs
      generalize courtOf fs (rs s fs) = C at *
      generalize rs s fs = L at *
      refine loop_up (fun i => [(2, .iv (.ptr [.str s, ints fs])), (5, .iv (rrs L)), (7, .iv (natsI (truths fs))), (8, .iv (.int .i64 (N : Nat))), (9, .iv (.bool b)), (12, .iv (.int .i64 C)), (14, .iv (.int .i64 (i : Nat)))]) (fun _ => []) L.length ?_ ?_
      · rw [LoopAt_enter c8_b0.eq_1]
        simp
        intro _
        refine callK_of g13 (by simp) ?_
        simp
      · intro i hi ih
        have m1 := means_one fs L[i]
        have m2 := means_two fs L[i]
        have m3 := means_range fs L[i]
        have m4 := cnt_le fs L[i]
        have m5 : C ≠ 3 → meansOf fs L[i] = C := fun h => hall h _ (List.getElem_mem hi)
        have m6 : ∀ t, t ∈ tru fs → agrees (meansOf fs L[i]) (val L[i] t) = true := fun t ht => means_agrees ht
        have g36' := good36 hK (meansOf fs L[i])
        simp [m3] at g36'
        have g38 := good38 hK (text L[i]) (tset L[i]) N (tset_lt _)
        have ev : ∀ t, t < 64 → (tset L[i]).testBit t = val L[i] t := fun t ht => tset_bit _ t ht
        have g37 := fun b => good37 hK (meansOf fs L[i]) b
        have g28' := g28 i hi
        have g26' := g26 i hi
        generalize meansOf fs L[i] = M at *
        generalize cnt fs L[i] = c at *
        rw [LoopAt_enter c8_b0.eq_1]
        have a1 : ((c : Int) = ((truths fs).length : Nat)) ↔ M = 1 := by rw [hlen]; omega
        have a2 : (c = 0) ↔ M = 2 := by omega
        have a3 : ¬ ((c : Int) < 0) := by omega
        have a4 : ¬ (((truths fs).length : Int) < (c : Int)) := by omega
        simp [hi]
        intro _
        refine callK_of g28' (by simp) ?_
        simp
        refine callK_of g26' (by simp) ?_
        simp
        refine callK_of g36' (by simp) ?_
        have a5 : C = 3 ∨ (C ≠ 3 ∧ M = C) := by
          by_cases h : C = 3
          · exact .inl h
          · exact .inr ⟨h, m5 h⟩
        cases b with
        | false =>
          rcases a5 with a5 | ⟨a5, a6⟩ <;> simp [a1, a2, a3, a4, a5] at ih ⊢
          · exact fun _ => ⟨by omega, ih⟩
          · simp [a6]
            exact fun _ => ⟨by omega, ih⟩
        | true =>
          have hN6 := hlt N (hb rfl)
          have e1 := m6 N (hb rfl)
          have g38' := g38 (by omega)
          rw [ev N hN6] at g38'
          have g37' := g37 (val L[i] N)
          rw [e1] at g37'
          rcases a5 with a5 | ⟨a5, a6⟩
          · simp [a1, a2, a3, a4, a5, hi] at ih ⊢
            intro _
            refine callK_of g38' (by simp) ?_
            simp
            refine callK_of g37' (by simp) ?_
            simp
            exact ⟨by omega, ih⟩
          · subst a6
            simp [a1, a2, a3, a4, a5, hi] at ih ⊢
            intro _
            refine callK_of g38' (by simp) ?_
            simp
            refine callK_of g37' (by simp) ?_
            simp
            exact ⟨by omega, ih⟩
end
end Go.Pp

/- The law of the word not. -/
namespace Go.Pp
open Go Go.Ev Go.Proofs Go.RowKit

theorem spl_not (s : W) : spl ([110, 111, 116, 32] ++ s) = wNot :: spl s := by
  have := spl_blank [110, 111, 116] s
  rw [spl_word [110, 111, 116] (by decide)] at this
  simpa [wNot] using this
theorem rs_of_err {s : W} {fs : List Int} (h : err s fs = 0) : rs s fs = rdg fs.length 9 (spl s) := by
  have := err_ok h
  unfold rs
  rw [if_pos ⟨this.1, this.2.1⟩]
theorem rdg_none {n k : Nat} {ws : List W} (h : factOf n ws = none) : rdg n (k + 1) ws = rdPre (rdg n k) ws ws.length := by simp only [rdg, h]
theorem rs_not {s : W} {fs : List Int} (h : err s fs = 0) (h' : err ([110, 111, 116, 32] ++ s) fs = 0) : ∃ X, rs ([110, 111, 116, 32] ++ s) fs = (rs s fs).map Rd.no ++ X := by
  rw [rs_of_err h, rs_of_err h', spl_not]
  have hl := (err_ok h').2.1
  rw [spl_not] at hl
  have hp := spl_pos s
  generalize spl s = ws at *
  have hf : factOf fs.length (wNot :: ws) = none := by
    cases ws with
    | nil => simp at hp
    | cons a ws => rfl
  rw [rdg_none (k := 8) hf, rdPre]
  have hr : rdNot (rdg fs.length 8) (wNot :: ws) = (rdg fs.length 9 ws).map Rd.no := by
    unfold rdNot
    rw [if_pos (by simp; omega)]
    simp only [List.drop_succ_cons, List.drop_zero]
    simp at hl
    rw [rdg_fuel _ 8 9 ws (by omega) (by omega)]
  exact ⟨_, by rw [hr]⟩
theorem cnt_no (fs : List Int) (r : Rd) : cnt fs (.no r) = (tru fs).length - cnt fs r := by
  have := List.length_eq_countP_add_countP (p := val r) (l := tru fs)
  unfold cnt
  have e : (tru fs).countP (val (.no r)) = (tru fs).countP (fun a => decide ¬ val r a = true) := by
    apply List.countP_congr
    intro x _
    simp [val]
  omega

section
variable {K : World → Prop} (hK : ∀ w w', K w → Below w.heap.size w w' → K w')
variable (hS : ∀ s : W, s.length ≤ 1000 → Good Tryd.prog K 63 [.str s, .str [32]] (strs (spl s)))
include hK hS
set_option maxRecDepth 8000 in
theorem law6 (s : W) (fs : List Int) (h1 : s.length ≤ 140737488355328) (h2 : fs.length * 8 ≤ 140737488355328) : Good Tryd.prog K 6 [paperV s fs] (.bool true) := by
  have g13 := good13 hK hS
  refine good_of_wp hK c6_ok (by simp) ?_
  simp
  refine callK_of (good17 hK s fs (by omega)) (by simp) ?_
  simp
  refine ⟨by omega, ?_⟩
  generalize hs' : 110 :: 111 :: 116 :: 32 :: s = s'
  have hs'' : s' = [110, 111, 116, 32] ++ s := by rw [← hs']; rfl
  refine callK_of (good12 hK s fs) (by simp) ?_
  cases hr : readyB s fs with
  | false =>
    simp
    refine callK_of g13 (by simp) ?_
    simp
  | true =>
    have hr' := hr
    simp [readyB] at hr'
    obtain ⟨hf, he⟩ := hr'
    have fit := fit_of_far hf
    simp
    refine callK_of (good12 hK s' fs) (by simp) ?_
    cases hq : readyB s' fs with
    | false =>
      simp
      refine callK_of g13 (by simp) ?_
      simp
    | true =>
      have hq' := hq
      simp [readyB] at hq'
      obtain ⟨hf', he'⟩ := hq'
      have fit' := fit_of_far hf'
      have hc := (err_ok he).1
      have h6 := factsOk_len hc
      obtain ⟨X, hX⟩ := rs_not he (hs'' ▸ he')
      rw [← hs''] at hX
      have hlt : (textsL s fs).length ≤ (textsL s' fs).length := by simp [textsL, hX]
      have hl := rs_len s fs
      have hlen := truths_len hc
      have hcle := cnt_le fs
      have n1 : ¬ ((textsL s' fs).length : Int) < (textsL s fs).length := by omega
      simp
      refine callK_of (good14 hK hS s fs fit) (by simp) ?_
      simp
      refine callK_of (good14 hK hS s' fs fit') (by simp) ?_
      simp [he, he', n1]
      refine fun _ _ => ?_
      refine callK_of (good25 hK s fs h6) (by simp) ?_
      simp
      intro _
      have g26 : ∀ (i : Nat) (h : i < (rs s fs).length), Good Tryd.prog K 26 [paperV s fs, .int .i64 (i : Nat)] (.tup [.int .i64 (cnt fs (rs s fs)[i] : Nat), .int .i64 0]) := by
        intro i hi
        have hat : rdAt s fs (i : Nat) = some (rs s fs)[i] := by simp [rdAt, hi]
        have := good26 hK hS s fs (i : Nat) fit
        simpa [countV, hat, oneE_some hat] using this
      have g26' : ∀ (i : Nat) (h : i < (rs s fs).length), Good Tryd.prog K 26 [paperV s' fs, .int .i64 (i : Nat)] (.tup [.int .i64 ((tru fs).length - cnt fs (rs s fs)[i] : Nat), .int .i64 0]) := by
        intro i hi
        have hat : rdAt s' fs (i : Nat) = some (.no (rs s fs)[i]) := by simp [rdAt, hX, hi, List.getElem?_append_left]
        have := good26 hK hS s' fs (i : Nat) fit'
        simpa [countV, hat, oneE_some hat, cnt_no] using this
      have htx : ∀ (i : Nat) (h : i < (rs s fs).length), (textsL s' fs)[i]? = some (text (.no (rs s fs)[i])) := by
        intro i hi
        simp [textsL, hX, hi, List.getElem?_append_left]
      have htx' : ∀ (i : Nat) (h : i < (rs s fs).length), (textsL s fs)[i]? = some (text (rs s fs)[i]) := by
        intro i hi
        simp [textsL, hi]
      have htl : (textsL s fs).length = (rs s fs).length := by simp [textsL]
      have h81 := rs_text s fs
      generalize textsL s fs = A at *
      generalize textsL s' fs = B at *
      generalize rs s fs = L at *
      refine loop_up (fun i => [(1, .iv (.ptr [.str s, ints fs])), (3, .loc 3 0), (4, .iv (strs A)), (6, .iv (strs B)), (8, .iv (.int .i64 ((truths fs).length : Nat))), (9, .iv (.int .i64 (i : Nat)))]) (fun _ => [(3, AO.box [.iv (.str s'), .iv (ints fs)])]) L.length ?_ ?_
      · rw [LoopAt_enter c6_b0.eq_1]
        simp [htl]
        intro _
        refine callK_of g13 (by simp) ?_
        simp
      · intro i hi ih
        have c1 := hcle L[i]
        have tB := htx i hi
        have tA := htx' i hi
        have c2 := h81 _ (List.getElem_mem hi)
        have q1 := g26 i hi
        have q2 := g26' i hi
        have hiA : i < A.length := by omega
        have hiB : i < B.length := by omega
        have uA : A[i] = text L[i] := by simpa [hiA] using tA
        have uB : B[i] = text (.no L[i]) := by simpa [hiB] using tB
        generalize cnt fs L[i] = c at *
        have a3 : ¬ ((c : Int) < 0) := by omega
        have a4 : ¬ (((truths fs).length : Int) < (c : Int)) := by omega
        have a5 : (((tru fs).length - c : Nat) : Int) = ((truths fs).length : Int) - (c : Int) := by omega
        rw [a5] at q2
        rw [LoopAt_enter c6_b0.eq_1]
        simp [hi, hiA, htl]
        intro _
        refine callK_of q1 (by simp) ?_
        simp
        refine callK_of q2 (by simp) ?_
        simp [a3, a4, uA, uB, text, hiA, hiB] at ih ⊢
        exact ⟨by omega, by omega, by omega, by omega, ih⟩
end
end Go.Pp
