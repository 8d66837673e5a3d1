/- The law of two papers. -/
import Derived.Test.YtahldekpgadgdaaDoorMore
set_option linter.all false

namespace Go.Pp
open Go Go.Ev Go.Proofs Go.RowKit
set_option maxRecDepth 8000

theorem spl_join3 (s q w : W) (hw : 32 ∉ w) : spl (s ++ (32 :: (w ++ (32 :: q)))) = spl s ++ w :: spl q := by
  rw [spl_blank, spl_blank, spl_word w hw]
  rfl
theorem opOf_of_word (o : Op) : opOf o.word = some o := by cases o <;> rfl
theorem blank_word (o : Op) : 32 ∉ o.word := by cases o <;> decide
theorem pairs_of {o : Op} {A B : List Rd} {a b : Rd} (ha : a ∈ A) (hb : b ∈ B) : Rd.bin o a b ∈ pairsOf o A B := by
  unfold pairsOf
  rw [List.mem_flatMap]
  exact ⟨a, ha, List.mem_map.2 ⟨b, hb, rfl⟩⟩
theorem rs_join {s q : W} {fs : List Int} {o : Op} (h1 : err s fs = 0) (h2 : err q fs = 0) (h3 : err (s ++ (32 :: (o.word ++ (32 :: q)))) fs = 0) {a b : Rd} (ha : a ∈ rs s fs) (hb : b ∈ rs q fs) :
    Rd.bin o a b ∈ rs (s ++ (32 :: (o.word ++ (32 :: q)))) fs := by
  rw [rs_of_err h1] at ha
  rw [rs_of_err h2] at hb
  rw [rs_of_err h3]
  have hl := (err_ok h3).2.1
  rw [spl_join3 s q _ (blank_word o)] at hl ⊢
  have hp := spl_pos s
  have hq := spl_pos q
  generalize spl s = ws at *
  generalize spl q = vs at *
  simp at hl
  have hf : factOf fs.length (ws ++ o.word :: vs) = none := by
    cases hm : factOf fs.length (ws ++ o.word :: vs) with
    | none => rfl
    | some m =>
      have := (factOf_len hm).1
      simp at this
      omega
  rw [rdg_none (k := 8) hf, rdPre, List.mem_append]
  refine .inr ?_
  rw [List.mem_flatMap]
  refine ⟨ws.length, by simp, ?_⟩
  have e1 : (ws ++ o.word :: vs).getD ws.length [] = o.word := by simp
  have e2 : (ws ++ o.word :: vs).take ws.length = ws := by simp
  have e3 : (ws ++ o.word :: vs).drop (ws.length + 1) = vs := by simp
  unfold rdStep
  rw [if_neg (by simp only [List.length_append, List.length_cons]; omega), e1, opOf_of_word, e2, e3]
  rw [rdg_fuel _ 9 8 ws (by omega) (by omega)] at ha
  rw [rdg_fuel _ 9 8 vs (by omega) (by omega)] at hb
  exact pairs_of ha hb
theorem rs_nodup (s : W) (fs : List Int) : (rs s fs).Nodup := by
  unfold rs
  split
  · exact rdg_nodup _ _ _
  · simp
theorem texts_nodup (s : W) (fs : List Int) : (textsL s fs).Nodup := by
  unfold textsL List.Nodup
  rw [List.pairwise_map]
  exact List.Pairwise.imp_of_mem (fun {a b} ha hb h e => h (text_eq (rs_fok s fs a ha) (rs_fok s fs b hb) e)) (rs_nodup s fs)
theorem count_one {T : W} : ∀ {L : List W}, L.Nodup → T ∈ L → L.countP (fun x => decide (x = T)) = 1
  | [], _, h => by simp at h
  | a :: L, hn, h => by
    rw [List.nodup_cons] at hn
    rw [List.countP_cons]
    rcases List.mem_cons.1 h with e | e
    · subst e
      have : L.countP (fun x => decide (x = T)) = 0 := by
        rw [List.countP_eq_zero]
        intro x hx e
        rw [decide_eq_true_eq] at e
        subst e
        exact hn.1 hx
      simp [this]
    · have : ¬ a = T := fun e' => hn.1 (e' ▸ e)
      rw [count_one hn.2 e]
      simp [this]
theorem count_step (T : W) (L : List W) (i : Nat) (h : i < L.length) : (L.take (i + 1)).countP (fun x => decide (x = T)) = (L.take i).countP (fun x => decide (x = T)) + (if L[i] = T then 1 else 0) := by
  rw [List.take_succ_eq_append_getElem h, List.countP_append]
  simp [List.countP_cons]

section
variable {K : World → Prop} (hK : ∀ w w', K w → Below w.heap.size w w' → K w')
variable (hS : ∀ s : W, s.length ≤ 1000 → Good Tryd.prog K 63 [.str s, .str [32]] (strs (spl s)))
include hK hS
def k4 : List AI := [.inBlock 0, .code (.seq (.ops c4_r24 false) (.ret))]
theorem loops4 (w q : W) (A B C : List W) (hA : A.length ≤ 323) (hB : B.length ≤ 323) (hC : C.length ≤ 323) (hw : w.length ≤ 3) (tA : ∀ t ∈ A, t.length ≤ 81) (tB : ∀ t ∈ B, t.length ≤ 81)
    (hone : ∀ (i k : Nat) (hi : i < A.length) (hk : k < B.length), C.countP (fun x => decide (x = 40 :: (A[i] ++ 32 :: (w ++ 32 :: (B[k] ++ [41]))))) = 1) :
    LoopAt Tryd.prog K [.tmp 4] (.bool true) c4_b2 [3, 7, 9, 11, 13, 14] [] k4 [(3, .iv (.ptr [.str w, .str q])), (7, .iv (strs A)), (9, .iv (strs B)), (11, .iv (strs C)), (13, .iv (.int .i64 0)), (14, .iv (.int .i64 0))] [] := by
  have g13 := good13 hK hS
  have mul : A.length * B.length ≤ 323 * 323 := Nat.mul_le_mul hA hB
  have := loop_up (P := Tryd.prog) (K := K) (res := [.tmp 4]) (r := .bool true) (c := c4_b2) (ks := [3, 7, 9, 11, 13, 14]) (ids := []) (k := k4) (fun i => [(3, .iv (.ptr [.str w, .str q])), (7, .iv (strs A)), (9, .iv (strs B)), (11, .iv (strs C)), (13, .iv (.int .i64 (i * B.length : Nat))), (14, .iv (.int .i64 (i : Nat)))]) (fun _ => []) A.length ?_ ?_
  · simpa using this
  · rw [LoopAt_enter c4_b2.eq_1]
    have m1 : ((A.length : Int) * (B.length : Int)) ≤ 9223372036854775807 := by
      have : ((A.length : Int) * (B.length : Int)) = ((A.length * B.length : Nat) : Int) := by simp
      omega
    have m2 : -9223372036854775808 ≤ ((A.length : Int) * (B.length : Int)) := by
      have : ((A.length : Int) * (B.length : Int)) = ((A.length * B.length : Nat) : Int) := by simp
      omega
    simp [k4, m1, m2]
    intro _ _
    refine callK_of g13 (by simp) ?_
    simp
  · intro i hi ih
    have hm : i * B.length + B.length ≤ 323 * 323 := by
      have : (i + 1) * B.length ≤ A.length * B.length := Nat.mul_le_mul_right _ hi
      rw [Nat.add_mul] at this
      omega
    rw [LoopAt_enter c4_b2.eq_1]
    simp [hi]
    intro _
    refine loop_up (fun k => [(3, .iv (.ptr [.str w, .str q])), (7, .iv (strs A)), (9, .iv (strs B)), (11, .iv (strs C)), (13, .iv (.int .i64 (i * B.length + k : Nat))), (14, .iv (.int .i64 (i : Nat))), (15, .iv (.int .i64 (k : Nat)))]) (fun _ => []) B.length ?_ ?_
    · have e : i * B.length + B.length = (i + 1) * B.length := by rw [Nat.add_mul]; omega
      rw [LoopAt_enter c4_b1.eq_1, e]
      simp at ih ⊢
      exact fun _ => ⟨by omega, ih⟩
    · intro k hk ih2
      have h1 := hone i k hi hk
      have a1 := tA _ (List.getElem_mem hi)
      have a2 := tB _ (List.getElem_mem hk)
      generalize hz : i * B.length + k = z at *
      have hz1 : i * B.length + (k + 1) = z + 1 := by omega
      rw [hz1] at ih2
      rw [LoopAt_enter c4_b1.eq_1]
      simp [hk]
      intro _
      have hT : ∃ T, T = 40 :: (A[i] ++ 32 :: (w ++ 32 :: (B[k] ++ [41]))) := ⟨_, rfl⟩
      obtain ⟨T, hT⟩ := hT
      rw [← hT] at h1
      refine loop_up (fun n => [(3, .iv (.ptr [.str w, .str q])), (7, .iv (strs A)), (9, .iv (strs B)), (11, .iv (strs C)), (13, .iv (.int .i64 (z + (C.take n).countP (fun x => decide (x = T)) : Nat))), (14, .iv (.int .i64 (i : Nat))), (15, .iv (.int .i64 (k : Nat))), (16, .iv (.int .i64 (n : Nat)))]) (fun _ => []) C.length ?_ ?_
      · rw [LoopAt_enter c4_b0.eq_1]
        simp [h1] at ih2 ⊢
        exact fun _ => ⟨by omega, ih2⟩
      · intro n hn ih3
        rw [count_step T C n hn] at ih3
        have hle : (C.take n).countP (fun x => decide (x = T)) ≤ n := Nat.le_trans List.countP_le_length (by rw [List.length_take]; omega)
        generalize (C.take n).countP (fun x => decide (x = T)) = x at *
        rw [LoopAt_enter c4_b0.eq_1]
        by_cases hc : C[n] = T
        · have hc' := hc
          rw [hT] at hc'
          rw [if_pos hc] at ih3
          simp [hn, hi, hk, hc'] at ih3 ⊢
          have e : (z : Int) + ((x : Int) + 1) = z + x + 1 := by omega
          rw [e] at ih3
          refine fun _ => ⟨by omega, by omega, by omega, by omega, by omega, by omega, by omega, by omega, ih3⟩
        · have hc' := hc
          rw [hT] at hc'
          rw [if_neg hc] at ih3
          simp [hn, hi, hk, hc'] at ih3 ⊢
          refine fun _ => ⟨by omega, by omega, by omega, by omega, by omega, by omega, by omega, ih3⟩
theorem law4 (s : W) (fs : List Int) (op q : W) (h1 : s.length ≤ 140737488355328) (h2 : fs.length * 8 ≤ 140737488355328) : Good Tryd.prog K 4 [paperV s fs, .agg [.str op, .str q]] (.bool true) := by
  have g13 := good13 hK hS
  refine good_of_wp hK c4_ok (by simp) ?_
  by_cases hq : (100 : Int) < q.length
  · simp [hq]
    refine callK_of g13 (by simp) ?_
    simp
  have hop : opOf op = none ∨ ∃ o, opOf op = some o := by
    cases opOf op with
    | none => exact .inl rfl
    | some o => exact .inr ⟨o, rfl⟩
  rcases hop with hop | ⟨o, hop⟩
  · have e1 : ¬ op = [97, 110, 100] := fun e => by subst e; cases hop
    have e2 : ¬ op = [111, 114] := fun e => by subst e; cases hop
    have e3 : ¬ op = [105, 102] := fun e => by subst e; cases hop
    simp [hq, e1, e2, e3]
    refine callK_of g13 (by simp) ?_
    simp
  have hw := opOf_word hop
  subst hw
  have hol : o.word.length ≤ 3 := by cases o <;> decide
  have tx : ∀ a b, text (.bin o a b) = 40 :: (text a ++ (32 :: (o.word ++ (32 :: (text b ++ [41]))))) := by intro a b; simp [text]
  have hrs := @rs_join s q fs o
  obtain ⟨J, hJ⟩ : ∃ J, J = s ++ (32 :: (o.word ++ (32 :: q))) := ⟨_, rfl⟩
  rw [← hJ] at hrs
  have fin : readyB s fs = true → readyB q fs = true → readyB J fs = true → LoopAt Tryd.prog K [.tmp 4] (.bool true) c4_b2 [3, 7, 9, 11, 13, 14] [] k4 [(3, .iv (.ptr [.str o.word, .str q])), (7, .iv (strs (textsL s fs))), (9, .iv (strs (textsL q fs))), (11, .iv (strs (textsL J fs))), (13, .iv (.int .i64 0)), (14, .iv (.int .i64 0))] [] := by
    intro r1 r2 r3
    simp [readyB] at r1 r2 r3
    have hrs := @hrs r1.2 r2.2 r3.2
    refine loops4 hK hS o.word q _ _ _ (by simpa [textsL] using rs_len s fs) (by simpa [textsL] using rs_len q fs) (by simpa [textsL] using rs_len J fs) hol (fun t ht => ?_) (fun t ht => ?_) (fun i k hi hk => ?_)
    · simp only [textsL, List.mem_map] at ht
      obtain ⟨r, hr, rfl⟩ := ht
      exact rs_text s fs r hr
    · simp only [textsL, List.mem_map] at ht
      obtain ⟨r, hr, rfl⟩ := ht
      exact rs_text q fs r hr
    · refine count_one (texts_nodup J fs) ?_
      simp only [textsL, List.length_map] at hi hk
      have := hrs (List.getElem_mem hi) (List.getElem_mem hk)
      simp only [textsL, List.mem_map]
      refine ⟨_, this, ?_⟩
      rw [tx]
      simp
  cases o
  all_goals
    simp only [Op.word, List.cons_append, List.nil_append] at hJ fin
    simp [hq, Op.word]
    refine callK_of (good17 hK s fs h2) (by simp) ?_
    simp
    refine callK_of (good17 hK s fs h2) (by simp) ?_
    simp
    rw [← hJ]
    refine ⟨by omega, by omega, by omega, by omega, ?_⟩
    refine callK_of (good12 hK s fs) (by simp) ?_
    cases hr1 : readyB s fs with
    | false =>
      simp
      refine callK_of g13 (by simp) ?_
      simp
    | true =>
      simp
      refine callK_of (good12 hK q fs) (by simp) ?_
      cases hr2 : readyB q fs with
      | false =>
        simp
        refine callK_of g13 (by simp) ?_
        simp
      | true =>
        simp
        refine callK_of (good12 hK J fs) (by simp) ?_
        cases hr3 : readyB J fs with
        | false =>
          simp
          refine callK_of g13 (by simp) ?_
          simp
        | true =>
          have fin := fin hr1 hr2 hr3
          simp [readyB] at hr1 hr2 hr3
          have e1 := hr1.2
          have e2 := hr2.2
          have e3 := hr3.2
          simp
          refine callK_of (good14 hK hS s fs (fit_of_far hr1.1)) (by simp) ?_
          simp
          refine callK_of (good14 hK hS q fs (fit_of_far hr2.1)) (by simp) ?_
          simp
          refine callK_of (good14 hK hS J fs (fit_of_far hr3.1)) (by simp) ?_
          simp [e1, e2, e3]
          exact fin
end
end Go.Pp
