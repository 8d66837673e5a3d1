/- How a paper is read. -/
import Derived.Test.YtahldekpgadgdaaDoorReads
set_option linter.all false

namespace Go.Pp
open Go Go.Ev Go.Proofs Go.RowKit

def trStep (ts : List Nat) (i : Nat) (k : Int) : List Nat := if k = 1 then ts.map (· ||| 2 ^ i) else if k = 3 then ts ++ ts.map (· ||| 2 ^ i) else ts
def trN (fs : List Int) : Nat → List Nat
  | 0 => [0]
  | i + 1 => trStep (trN fs i) i (fs.getD i 0)

theorem trN_len (fs : List Int) : ∀ i, (trN fs i).length ≤ 2 ^ i
  | 0 => by simp [trN]
  | i + 1 => by
    have := trN_len fs i
    simp only [trN, trStep]
    rw [Nat.pow_succ]
    split
    · simp; omega
    · split
      · simp; omega
      · omega
theorem trN_lt (fs : List Int) : ∀ i, ∀ t ∈ trN fs i, t < 2 ^ i
  | 0 => by simp [trN]
  | i + 1 => by
    have ih := trN_lt fs i
    have h1 : ∀ t ∈ trN fs i, t < 2 ^ (i + 1) := fun t ht => Nat.lt_of_lt_of_le (ih t ht) (Nat.pow_le_pow_right (by omega) (by omega))
    have h2 : ∀ t ∈ (trN fs i).map (· ||| 2 ^ i), t < 2 ^ (i + 1) := by
      intro t ht
      rw [List.mem_map] at ht
      obtain ⟨u, hu, rfl⟩ := ht
      exact Nat.or_lt_two_pow (h1 u hu) (Nat.pow_lt_pow_right (by omega) (by omega))
    simp only [trN, trStep]
    split
    · exact h2
    · split
      · intro t ht
        rcases List.mem_append.1 ht with c | c
        · exact h1 t c
        · exact h2 t c
      · exact h1

@[simp] def ob3 (T : List Nat) (mv n : Nat) : Objs := [(16, AO.arr 87 1 (emb (T.map fun t => [.int .u64 (t : Nat)])) mv), (18, AO.box [.iv (.sl 1 []), .aref 16 n])]

def mixL (T : List Nat) (b m : Nat) : List Nat := (T.take m).map (· ||| b) ++ T.drop m
theorem mixL_len (T : List Nat) (b m : Nat) : (mixL T b m).length = T.length := by
  simp [mixL]
  omega
theorem mixL_get (T : List Nat) (b m : Nat) (h : m < T.length) : (mixL T b m)[m]? = some T[m] := by
  unfold mixL
  rw [List.getElem?_append_right (by simp; omega)]
  simp [Nat.min_eq_left (Nat.le_of_lt h), h]
theorem mixL_set (T : List Nat) (b m : Nat) (h : m < T.length) : (mixL T b m).set m (T[m] ||| b) = mixL T b (m + 1) := by
  apply List.ext_getElem?
  intro i
  simp only [mixL, List.getElem?_set, List.getElem?_append, List.getElem?_map, List.getElem?_take, List.getElem?_drop, List.length_map, List.length_take, List.length_append, List.length_drop]
  by_cases h1 : m = i
  · subst h1
    have h5 : ¬ T.length - m = 0 := by omega
    simp [Nat.min_eq_left (Nat.le_of_lt h), Nat.min_eq_left (show m + 1 ≤ T.length from h), h, h5]
  · by_cases h2 : i < m
    · have h3 : i < m + 1 := by omega
      simp [Nat.min_eq_left (Nat.le_of_lt h), Nat.min_eq_left (show m + 1 ≤ T.length from h), h1, h2, h3]
    · have h3 : ¬ i < m + 1 := by omega
      have h4 : m + (i - m) = m + 1 + (i - (m + 1)) := by omega
      simp [Nat.min_eq_left (Nat.le_of_lt h), Nat.min_eq_left (show m + 1 ≤ T.length from h), h1, h2, h3, h4]

def factsOk (fs : List Int) : Bool := fs.all (fun k => decide (1 ≤ k) && decide (k ≤ 3)) && decide (fs.length ≤ 6)
def rs (s : W) (fs : List Int) : List Rd := if factsOk fs = true ∧ (spl s).length ≤ 9 then rdg fs.length 9 (spl s) else []
def err (s : W) (fs : List Int) : Int := if factsOk fs = false then 130 else if rs s fs = [] then 131 else 0
def tru (fs : List Int) : List Nat := trN fs fs.length
def pap (s : W) (fs : List Int) : IV := if err s fs = 0 then .ptr [rds (rs s fs), nats (tru fs)] else .nilp

section
variable {K : World → Prop} {r : IV}

theorem sure52 (X1 X20 X21 X22 : IV) (T : List Nat) (i mv : Nat) (hi : i < 6) (hT : T.length ≤ 64) (ht : ∀ t ∈ T, t < 64) (hm : mv ≤ T.length) (kk : List AI)
    (h : ∀ mv, mv ≤ T.length → LoopF Tryd.prog K (RetIs [ARes.tmp 2, ARes.tmp 3] r) c52_b0 [1, 4, 7, 20, 21, 22, 36, 37] [16, 18] kk
      [(1, .iv X1), (4, .loc 18 0), (7, .iv (.int .u64 (2 ^ i : Nat))), (20, .iv X20), (21, .iv X21), (22, .iv X22), (36, .iv (.int .i64 (T.length : Nat))), (37, .iv (.int .i64 (T.length : Nat)))] (ob3 (T.map (· ||| 2 ^ i)) mv T.length)) :
    LoopF Tryd.prog K (RetIs [ARes.tmp 2, ARes.tmp 3] r) c52_b0 [1, 4, 7, 20, 21, 22, 36, 37] [16, 18] kk
      [(1, .iv X1), (4, .loc 18 0), (7, .iv (.int .u64 (2 ^ i : Nat))), (20, .iv X20), (21, .iv X21), (22, .iv X22), (36, .iv (.int .i64 (T.length : Nat))), (37, .iv (.int .i64 0))] (ob3 T mv T.length) := by
  refine loop_i T.length (fun m e o => ∃ mv, mv ≤ T.length ∧
    e = [(1, .iv X1), (4, .loc 18 0), (7, .iv (.int .u64 (2 ^ i : Nat))), (20, .iv X20), (21, .iv X21), (22, .iv X22), (36, .iv (.int .i64 (T.length : Nat))), (37, .iv (.int .i64 (m : Nat)))] ∧
    o = ob3 (mixL T (2 ^ i) m) mv T.length) ?_ ?_ _ _ ⟨mv, hm, rfl, by simp [mixL]⟩
  · rintro e o ⟨mv, h1, rfl, rfl⟩
    have : mixL T (2 ^ i) T.length = T.map (· ||| 2 ^ i) := by simp [mixL]
    rw [this]
    exact h mv h1
  · rintro m e o hi' ⟨mv, h1, rfl, rfl⟩ ih
    have e1 := mixL_get T (2 ^ i) m hi'
    have e2 := mixL_len T (2 ^ i) m
    have e3 := mixL_set T (2 ^ i) m hi'
    have e4 := ht _ (List.getElem_mem hi')
    have e5 : 2 ^ i ≤ 2 ^ 5 := Nat.pow_le_pow_right (by omega) (by omega)
    have e6 : bitOp .or .u64 (T[m] : Int) (2 ^ i) = ((T[m] ||| 2 ^ i : Nat) : Int) := by
      have := or_u64 T[m] (2 ^ i) (by omega) (by omega)
      rw [← this]
      simp
    have ih' := fun mv h => ih _ _ ⟨mv, h, rfl, rfl⟩
    generalize mixL T (2 ^ i) m = Y at *
    have e7 : m < Y.length := by omega
    have e8 : Y[m] = T[m] := by
      rw [List.getElem?_eq_getElem e7] at e1
      injection e1
    have e9 : (Y.map fun t => [IV.int .u64 (t : Nat)]).set m [IV.int .u64 ((T[m] ||| 2 ^ i : Nat) : Int)] = (mixL T (2 ^ i) (m + 1)).map fun t => [IV.int .u64 (t : Nat)] := by
      rw [← e3, List.map_set]
    have := ih' T.length (Nat.le_refl _)
    rw [LoopAt_enter c52_b0.eq_1]
    simp [hi', e2, e6, e8, e9]
    simp at this
    exact ⟨h1, by omega, this⟩

theorem perh52 (X1 X20 X21 X22 : IV) (T : List Nat) (i mv : Nat) (hi : i < 6) (hT : T.length ≤ 64) (ht : ∀ t ∈ T, t < 64) (hm : mv ≤ T.length) (kk : List AI)
    (h : LoopF Tryd.prog K (RetIs [ARes.tmp 2, ARes.tmp 3] r) c52_b1 [1, 4, 7, 20, 21, 22, 58, 59, 60] [16, 18] kk
      [(1, .iv X1), (4, .loc 18 0), (7, .iv (.int .u64 (2 ^ i : Nat))), (20, .iv X20), (21, .iv X21), (22, .iv X22), (58, .aref 16 T.length), (59, .iv (.int .i64 (T.length : Nat))), (60, .iv (.int .i64 (T.length : Nat)))] (ob3 (T ++ T.map (· ||| 2 ^ i)) mv (T ++ T.map (· ||| 2 ^ i)).length)) :
    LoopF Tryd.prog K (RetIs [ARes.tmp 2, ARes.tmp 3] r) c52_b1 [1, 4, 7, 20, 21, 22, 58, 59, 60] [16, 18] kk
      [(1, .iv X1), (4, .loc 18 0), (7, .iv (.int .u64 (2 ^ i : Nat))), (20, .iv X20), (21, .iv X21), (22, .iv X22), (58, .aref 16 T.length), (59, .iv (.int .i64 (T.length : Nat))), (60, .iv (.int .i64 0))] (ob3 T mv T.length) := by
  have := loop_up (P := Tryd.prog) (K := K) (F := RetIs [ARes.tmp 2, ARes.tmp 3] r) (c := c52_b1) (ks := [1, 4, 7, 20, 21, 22, 58, 59, 60]) (ids := [16, 18]) (k := kk)
    (fun m => [(1, .iv X1), (4, .loc 18 0), (7, .iv (.int .u64 (2 ^ i : Nat))), (20, .iv X20), (21, .iv X21), (22, .iv X22), (58, .aref 16 T.length), (59, .iv (.int .i64 (T.length : Nat))), (60, .iv (.int .i64 (m : Nat)))])
    (fun m => ob3 (T ++ (T.take m).map (· ||| 2 ^ i)) mv (T ++ (T.take m).map (· ||| 2 ^ i)).length) T.length (by rw [List.take_length]; exact h) (fun m hi' ih => ?_)
  · simpa using this
  · have e1 : T ++ (T.take (m + 1)).map (· ||| 2 ^ i) = (T ++ (T.take m).map (· ||| 2 ^ i)) ++ [T[m] ||| 2 ^ i] := by
      rw [List.take_succ_eq_append_getElem hi', List.map_append, ← List.append_assoc]
      rfl
    have e2 : (T ++ (T.take m).map (· ||| 2 ^ i)).length ≤ 128 := by
      simp
      omega
    have e3 : (T ++ (T.take m).map (· ||| 2 ^ i))[m]? = some T[m] := by
      rw [List.getElem?_append_left hi', List.getElem?_eq_getElem hi']
    have e4 := ht _ (List.getElem_mem hi')
    have e5 : 2 ^ i ≤ 2 ^ 5 := Nat.pow_le_pow_right (by omega) (by omega)
    have e6 : bitOp .or .u64 (T[m] : Int) (2 ^ i) = ((T[m] ||| 2 ^ i : Nat) : Int) := by
      have := or_u64 T[m] (2 ^ i) (by omega) (by omega)
      rw [← this]
      simp
    have e7 : T.length ≤ (T ++ (T.take m).map (· ||| 2 ^ i)).length := by simp
    rw [e1] at ih
    generalize T ++ (T.take m).map (· ||| 2 ^ i) = Y at *
    rw [LoopAt_enter c52_b1.eq_1]
    simp [hi', e3, e6]
    simp at ih
    exact ⟨⟨hm, e7⟩, hm, by omega, by omega, ih⟩

variable (hK : ∀ w w', K w → Below w.heap.size w w' → K w') (hS : ∀ s : W, s.length ≤ 1000 → Good Tryd.prog K 63 [.str s, .str [32]] (strs (spl s)))
include hK hS
theorem good52 (s : W) (fs : List Int) (hs : s.length ≤ 1000) (hw : (spl s).length ≤ 9 ∨ 11 < (spl s).length) : Good Tryd.prog K 52 [paperV s fs] (.tup [pap s fs, .int .i64 (err s fs)]) := by
  refine good_of_wp hK c52_ok (by simp) ?_
  simp
  intro _
  refine ⟨fun e => ?_, fun e _ => ?_⟩
  · have h1 : factsOk fs = false := by simp [factsOk]; omega
    simp [pap, err, h1]
  have hf : fs.length ≤ 6 := by omega
  refine loop_i fs.length (fun i e o => ∃ mv, mv ≤ (trN fs i).length ∧ (∀ k ∈ fs.take i, 1 ≤ k ∧ k ≤ 3) ∧
    e = [(1, .iv (.ptr [.str s, ints fs])), (4, .loc 18 0), (20, .iv (ints fs)), (21, .iv (.int .i64 (fs.length : Nat))), (22, .iv (.int .i64 (i : Nat)))] ∧
    o = ob3 (trN fs i) mv (trN fs i).length) ?_ ?_ _ _ ⟨0, by simp, by simp, rfl, rfl⟩
  · rintro e o ⟨mv, h1, h2, rfl, rfl⟩
    have h3 : factsOk fs = true := by
      simp at h2
      simp [factsOk]
      exact ⟨h2, hf⟩
    rw [LoopAt_enter c52_b2.eq_1]
    simp
    refine callK_of (hS s hs) (by simp) ?_
    simp
    intro _
    refine ⟨fun e => ?_, fun e => ?_⟩
    · have h4 : rs s fs = [] := by simp [rs]; omega
      simp [pap, err, h3, h4]
    · have h4 : (spl s).length ≤ 9 := by omega
      have h5 : rs s fs = rdg fs.length 9 (spl s) := by simp [rs, h3, h4]
      refine fun _ => ?_
      refine callK_of (good64 hK fs.length hf 9 (by omega) (spl s) h4) (by simp) ?_
      rw [← h5]
      simp
      refine fun _ => ⟨fun e => ?_, fun e => ?_⟩
      · simp [pap, err, h3, e]
      · simp [h1, pap, err, h3, e, tru]
  · rintro i e o hi ⟨mv, h1, h2, rfl, rfl⟩ ih
    have l1 := trN_len fs i
    have l2 := trN_lt fs i
    have e5 : 2 ^ i ≤ 2 ^ 5 := Nat.pow_le_pow_right (by omega) (by omega)
    have e6 : shlV .u64 1 (i : Int) = 2 ^ i := by
      have := shl_u64 1 i (by omega) (by omega)
      simpa using this
    have e7 : trN fs (i + 1) = trStep (trN fs i) i fs[i] := by simp [trN, hi]
    have ih' := fun mv h h' => ih _ _ ⟨mv, h, h', rfl, rfl⟩
    rw [e7] at ih'
    generalize trN fs i = T at *
    rw [LoopAt_enter c52_b2.eq_1]
    have ok : 1 ≤ fs[i] ∧ fs[i] ≤ 3 → ∀ k ∈ fs.take (i + 1), 1 ≤ k ∧ k ≤ 3 := by
      intro h k hk
      rw [List.take_succ_eq_append_getElem hi] at hk
      rcases List.mem_append.1 hk with c | c
      · exact h2 k c
      · rw [List.mem_singleton] at c; subst c; exact h
    simp [hi, e6]
    refine ⟨fun f1 => ⟨h1, fun _ => ?_⟩, fun f1 => ⟨fun f2 => ⟨by omega, ?_⟩, fun f2 => ⟨fun f3 => ⟨h1, fun _ => ?_⟩, fun f3 => ?_⟩⟩⟩
    · have e8 : trStep T i fs[i] = T.map (· ||| 2 ^ i) := by simp [trStep, f1]
      rw [e8] at ih'
      have := sure52 (K := K) (r := .tup [pap s fs, .int .i64 (err s fs)]) (.ptr [.str s, ints fs]) (ints fs) (.int .i64 (fs.length : Nat)) (.int .i64 (i : Nat)) T i mv (by omega) (by omega)
        (fun t ht => Nat.lt_of_lt_of_le (l2 t ht) (by omega)) h1
        [AI.inBlock 3, AI.inBlock 2, AI.inBlock 1, .code (.ops c52_r23 false), .inLoop c52_b2 [1, 4, 20, 21, 22] [16, 18], AI.inBlock 0, .code (.seq (.ops c52_r24 false) (.seq (.seq (.ops c52_r25 false) (.cond (.t 83) (.seq (.ops c52_r26 false) (.ret)) (.skip))) (.seq (.seq (.ops c52_r27 false) (.seq (.ops c52_r28 false) (.cond (.t 97) (.seq (.ops c52_r29 false) (.ret)) (.skip)))) (.seq (.ops c52_r30 false) (.ret)))))]
        ?_
      · simpa using this
      · intro mv' hm'
        have := ih' mv' (by simpa using hm') (ok (by omega))
        rw [LoopAt_enter c52_b0.eq_1]
        simp at this ⊢
        exact ⟨by omega, this⟩
    · have e8 : trStep T i fs[i] = T := by simp [trStep, f2]
      rw [e8] at ih'
      have := ih' mv h1 (ok (by omega))
      simpa using this
    · have e8 : trStep T i fs[i] = T ++ T.map (· ||| 2 ^ i) := by simp [trStep, f3]
      rw [e8] at ih'
      have := perh52 (K := K) (r := .tup [pap s fs, .int .i64 (err s fs)]) (.ptr [.str s, ints fs]) (ints fs) (.int .i64 (fs.length : Nat)) (.int .i64 (i : Nat)) T i mv (by omega) (by omega)
        (fun t ht => Nat.lt_of_lt_of_le (l2 t ht) (by omega)) h1
        [AI.inBlock 5, AI.inBlock 2, AI.inBlock 1, .code (.ops c52_r23 false), .inLoop c52_b2 [1, 4, 20, 21, 22] [16, 18], AI.inBlock 0, .code (.seq (.ops c52_r24 false) (.seq (.seq (.ops c52_r25 false) (.cond (.t 83) (.seq (.ops c52_r26 false) (.ret)) (.skip))) (.seq (.seq (.ops c52_r27 false) (.seq (.ops c52_r28 false) (.cond (.t 97) (.seq (.ops c52_r29 false) (.ret)) (.skip)))) (.seq (.ops c52_r30 false) (.ret)))))]
        ?_
      · simpa using this
      · have := ih' mv (by simp; omega) (ok (by omega))
        rw [LoopAt_enter c52_b1.eq_1]
        simp at this ⊢
        exact ⟨by omega, this⟩
    · have h3 : factsOk fs = false := by
        cases hc : factsOk fs with
        | false => rfl
        | true =>
          simp [factsOk] at hc
          have := hc.1 _ (List.getElem_mem hi)
          omega
      simp [pap, err, h3]
end
end Go.Pp

/- Plain laws: words and truths. -/
namespace Go.Pp
open Go Go.Ev

theorem spStep_app (x : List W) (l : W) (c : UInt8) : spStep (x ++ [l]) c = x ++ spStep [l] c := by
  unfold spStep
  split
  · simp
  · simp

theorem foldl_app (s : W) : ∀ (x : List W) (l : W), s.foldl spStep (x ++ [l]) = x ++ s.foldl spStep [l] := by
  induction s with
  | nil => intro x l; rfl
  | cons c s ih =>
    intro x l
    simp only [List.foldl_cons]
    rw [spStep_app]
    by_cases h : c = 32
    · have e : spStep [l] c = [l] ++ [[]] := by simp [spStep, h]
      rw [e, ← List.append_assoc, ih, ih [l] []]
      simp
    · have e : spStep [l] c = [l ++ [c]] := by simp [spStep, h]
      rw [e, ih]

def join : List W → W
  | [] => []
  | [w] => w
  | w :: v :: r => w ++ 32 :: join (v :: r)

theorem foldl_ne (s : W) : ∀ l : W, s.foldl spStep [l] ≠ [] := by
  induction s with
  | nil => intro l; simp
  | cons c s ih =>
    intro l
    simp only [List.foldl_cons]
    by_cases h : c = 32
    · have e : spStep [l] c = [l] ++ [[]] := by simp [spStep, h]
      rw [e, foldl_app]
      simp
    · have e : spStep [l] c = [l ++ [c]] := by simp [spStep, h]
      rw [e]
      exact ih _

theorem join_cons (w : W) (r : List W) (h : r ≠ []) : join (w :: r) = w ++ 32 :: join r := by
  cases r with
  | nil => exact absurd rfl h
  | cons v r => rfl

theorem join_foldl (s : W) : ∀ l : W, join (s.foldl spStep [l]) = l ++ s := by
  induction s with
  | nil => intro l; simp [join]
  | cons c s ih =>
    intro l
    simp only [List.foldl_cons]
    by_cases h : c = 32
    · have e : spStep [l] c = [l] ++ [[]] := by simp [spStep, h]
      rw [e, foldl_app]
      simp only [List.cons_append, List.nil_append]
      rw [join_cons _ _ (foldl_ne s []), ih, h]
      rfl
    · have e : spStep [l] c = [l ++ [c]] := by simp [spStep, h]
      rw [e, ih]
      simp
theorem join_spl (s : W) : join (spl s) = s := by
  have := join_foldl s []
  simpa [spl] using this

theorem spl_blank (a b : W) : spl (a ++ 32 :: b) = spl a ++ spl b := by
  unfold spl
  rw [List.foldl_append]
  have h := foldl_ne a []
  generalize a.foldl spStep [[]] = x at *
  obtain ⟨y, l, rfl⟩ : ∃ y l, x = y ++ [l] := ⟨x.dropLast, x.getLast h, (List.dropLast_concat_getLast h).symm⟩
  simp only [List.foldl_cons]
  have e : spStep (y ++ [l]) 32 = (y ++ [l]) ++ [[]] := by simp [spStep]
  rw [e, foldl_app]

theorem spl_word (a : W) (h : 32 ∉ a) : spl a = [a] := by
  have : ∀ (a l : W), 32 ∉ a → a.foldl spStep [l] = [l ++ a] := by
    intro a
    induction a with
    | nil => intro l _; simp
    | cons c s ih =>
      intro l h
      simp only [List.mem_cons, not_or] at h
      have e : spStep [l] c = [l ++ [c]] := by simp [spStep, Ne.symm h.1]
      simp only [List.foldl_cons]
      rw [e, ih _ h.2]
      simp
  have := this a [] h
  simpa [spl] using this
theorem spl_pos (s : W) : 0 < (spl s).length := List.length_pos_iff.2 (foldl_ne s [])

theorem join_len (ws : List W) (c : Nat) (h : ∀ w ∈ ws, w.length ≤ c) : (join ws).length ≤ (c + 1) * ws.length := by
  induction ws with
  | nil => simp [join]
  | cons w r ih =>
    have h1 := h w (by simp)
    have h2 := ih (fun x hx => h x (by simp [hx]))
    by_cases hr : r = []
    · subst hr
      simp [join]
      omega
    · rw [join_cons _ _ hr]
      simp only [List.length_append, List.length_cons]
      rw [Nat.mul_add]
      omega

def wordsOf : Rd → List W
  | .fact n => [[UInt8.ofNat (97 + n)]]
  | .no r => wNot :: wordsOf r
  | .bin o a b => wordsOf a ++ o.word :: wordsOf b

theorem wordsOf_len (r : Rd) : ∀ w ∈ wordsOf r, w.length ≤ 3 := by
  induction r with
  | fact n => simp [wordsOf]
  | no r ih => simpa [wordsOf, wNot] using ih
  | bin o a b ia ib =>
    intro w hw
    simp only [wordsOf, List.mem_append, List.mem_cons] at hw
    rcases hw with h | h | h
    · exact ia w h
    · subst h; cases o <;> decide
    · exact ib w h

theorem rdg_words (n : Nat) : ∀ (k : Nat) (ws : List W) (r : Rd), r ∈ rdg n k ws → wordsOf r = ws
  | 0, ws, r => by simp [rdg]
  | k + 1, ws, r => by
    simp only [rdg]
    split
    · rename_i m hm
      intro h
      simp at h
      subst h
      unfold factOf at hm
      split at hm
      · rename_i c
        split at hm
        · rename_i hc
          injection hm with hm
          subst hm
          have : UInt8.ofNat (97 + (c.toNat - 97)) = c := by
            rw [show 97 + (c.toNat - 97) = c.toNat by omega]
            exact UInt8.ofNat_toNat
          simp only [wordsOf, this]
        · cases hm
      · cases hm
    · intro h
      simp only [rdPre, List.mem_append] at h
      rcases h with h | h
      · unfold rdNot at h
        split at h
        · rename_i hc
          rw [List.mem_map] at h
          obtain ⟨a, ha, rfl⟩ := h
          have := rdg_words n k _ a ha
          rcases ws with _ | ⟨w, ws⟩
          · simp at hc
          · simp at hc this
            simp [wordsOf, this, hc.2]
        · simp at h
      · rw [List.mem_flatMap] at h
        obtain ⟨i, hi, h⟩ := h
        simp at hi
        unfold rdStep at h
        split at h
        · simp at h
        · split at h
          · simp at h
          · rename_i o ho
            unfold pairsOf at h
            rw [List.mem_flatMap] at h
            obtain ⟨a, ha, h⟩ := h
            rw [List.mem_map] at h
            obtain ⟨b, hb, rfl⟩ := h
            have h1 := rdg_words n k _ a ha
            have h2 := rdg_words n k _ b hb
            have h3 := opOf_word ho
            simp only [wordsOf, h1, h2, ← h3]
            rw [List.getD_eq_getElem?_getD, List.getElem?_eq_getElem hi]
            simp

theorem long_none (s : W) (fs : List Int) (h : 36 < s.length) : rs s fs = [] := by
  unfold rs
  split
  · rename_i hc
    rw [List.eq_nil_iff_forall_not_mem]
    intro r hr
    have h1 := rdg_words _ _ _ _ hr
    have h2 := join_len (spl s) 3 (h1 ▸ wordsOf_len r)
    rw [join_spl] at h2
    omega
  · rfl

theorem factSet_bit (n : Nat) : ∀ (i t : Nat), (factSet n i).testBit t = (decide (t < i) && t.testBit n)
  | 0, t => by simp [factSet]
  | i + 1, t => by
    simp only [factSet]
    have ih := factSet_bit n i t
    by_cases h : t = i
    · subst h
      split
      · rename_i hb
        simp [Nat.testBit_or, ih, hb, Nat.testBit_two_pow_self]
      · rename_i hb
        simp [ih, hb]
    · have e : decide (t < i + 1) = decide (t < i) := by
        by_cases h1 : t < i
        · simp [h1]; omega
        · simp [h1]; omega
      rw [e]
      split
      · simp [Nat.testBit_or, ih, Nat.testBit_two_pow_of_ne (Ne.symm h)]
      · exact ih

theorem all_bit (t : Nat) (h : t < 64) : (18446744073709551615 : Nat).testBit t = true := by
  have : (18446744073709551615 : Nat) = 2 ^ 64 - 1 := by decide
  rw [this, Nat.testBit_two_pow_sub_one]
  simp [h]

theorem tset_bit (r : Rd) (t : Nat) (h : t < 64) : (tset r).testBit t = val r t := by
  induction r with
  | fact n => simp [tset, val, factSet_bit, h]
  | no r ih => simp [tset, val, Nat.testBit_xor, ih, all_bit t h]
  | bin o a b ia ib =>
    cases o <;> simp [tset, val, joinB, Op.word, Nat.testBit_and, Nat.testBit_or, Nat.testBit_xor, ia, ib, all_bit t h]

/-- The truths as the document lists them are the same list. -/
theorem okT_prefix (fs : List Int) (n b : Nat) : ∀ i, n < 2 ^ b → i ≤ b → okT fs (n + 2 ^ b) i = okT fs n i
  | 0, _, _ => rfl
  | i + 1, h, hi => by
    simp only [okT]
    rw [okT_prefix fs n b i h (by omega)]
    have : (n + 2 ^ b).testBit i = n.testBit i := by
      rw [Nat.add_comm, Nat.testBit_two_pow_add_gt (by omega)]
    rw [this]

theorem trN_eq (fs : List Int) (hf : ∀ k ∈ fs, 1 ≤ k ∧ k ≤ 3) : ∀ i, i ≤ fs.length → trN fs i = (List.range (2 ^ i)).filter fun n => okT fs n i
  | 0, _ => by simp [trN, okT, List.range_succ]
  | i + 1, h => by
    have ih := trN_eq fs hf i (by omega)
    have hk := hf _ (List.getElem_mem (show i < fs.length from h))
    have hg : fs.getD i 0 = fs[i] := by
      rw [List.getD_eq_getElem?_getD, List.getElem?_eq_getElem (show i < fs.length from h)]
      rfl
    have e1 : List.range (2 ^ (i + 1)) = List.range (2 ^ i) ++ (List.range (2 ^ i)).map (· + 2 ^ i) := by
      rw [Nat.pow_succ, Nat.mul_two, List.range_add]
      congr 1
      apply List.map_congr_left
      intro x _
      omega
    have e2 : ∀ n, n < 2 ^ i → n.testBit i = false := fun n hn => Nat.testBit_lt_two_pow hn
    have e3 : ∀ n, n < 2 ^ i → (n + 2 ^ i).testBit i = true := fun n hn => by
      rw [Nat.add_comm, Nat.testBit_two_pow_add_eq, e2 n hn]
      rfl
    have e4 : ∀ n, n < 2 ^ i → n ||| 2 ^ i = n + 2 ^ i := fun n hn => by
      have := Nat.two_pow_add_eq_or_of_lt hn 1
      rw [Nat.mul_one] at this
      rw [Nat.or_comm, ← this]
      omega
    have low : (List.range (2 ^ i)).filter (fun n => okT fs n (i + 1)) = if fs[i] ≠ 1 then trN fs i else [] := by
      rw [ih]
      split
      · rename_i h1
        apply List.filter_congr
        intro n hn
        simp only [List.mem_range] at hn
        simp only [okT, e2 n hn, hg]
        simp [h1]
      · rename_i h1
        rw [List.filter_eq_nil_iff]
        intro n hn
        simp only [List.mem_range] at hn
        simp only [okT, e2 n hn, hg]
        simp at h1
        simp [h1]
    have high : ((List.range (2 ^ i)).map (· + 2 ^ i)).filter (fun n => okT fs n (i + 1)) = if fs[i] ≠ 2 then (trN fs i).map (· ||| 2 ^ i) else [] := by
      rw [ih, List.filter_map]
      split
      · rename_i h1
        have : (List.range (2 ^ i)).filter ((fun n => okT fs n (i + 1)) ∘ (· + 2 ^ i)) = (List.range (2 ^ i)).filter (fun n => okT fs n i) := by
          apply List.filter_congr
          intro n hn
          simp only [List.mem_range] at hn
          simp only [Function.comp, okT, e3 n hn, hg, okT_prefix fs n i i hn (Nat.le_refl _)]
          simp [h1]
        rw [this]
        apply List.map_congr_left
        intro n hn
        have := (List.mem_filter.1 hn).1
        simp only [List.mem_range] at this
        exact (e4 n this).symm
      · rename_i h1
        rw [List.map_eq_nil_iff, List.filter_eq_nil_iff]
        intro n hn
        simp only [List.mem_range] at hn
        simp at h1
        simp only [Function.comp, okT, e3 n hn, hg]
        simp [h1]
    rw [e1, List.filter_append, low, high]
    simp only [trN, trStep, hg]
    by_cases f1 : fs[i] = 1
    · simp [f1]
    · by_cases f2 : fs[i] = 2
      · simp [f2]
      · have f3 : fs[i] = 3 := by omega
        simp [f3]

theorem tru_eq (fs : List Int) (h : factsOk fs = true) : tru fs = truths fs := by
  simp [factsOk] at h
  exact trN_eq fs h.1 fs.length (Nat.le_refl _)
end Go.Pp
