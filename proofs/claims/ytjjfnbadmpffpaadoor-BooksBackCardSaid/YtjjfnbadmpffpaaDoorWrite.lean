/- The contracts of what writes. -/
import Derived.Test.YtjjfnbadmpffpaaDoorTheory
set_option linter.all false

set_option maxRecDepth 8000
namespace Go.Bk
open Go Go.Ev Go.Proofs Go.RowKit

def lnT (T : List W) (i : Nat) : W := lineOf (rowS i (T.getD i []) false) ++ [10]
def wrT (T : List W) : Nat → W
  | 0 => []
  | i + 1 => wrT T i ++ lnT T i
def wrB (T : List W) : W := wrT T T.length ++ (lineOf (rowS T.length [] true) ++ [10])
def wrA (T : List W) (i : Nat) : W := if i ≤ T.length then wrT T i else wrB T
theorem wrA_last (T : List W) : wrA T (T.length + 1) = wrB T := by unfold wrA; rw [if_neg (by omega)]
def writeB (T : List W) : W × Int := if errT T = 0 then (wrB T, 0) else ([], errT T)
def rowIV (T : List W) (i : Nat) : List IV := [.int .i64 (i : Nat), .str (T.getD i []), .bool false]
def rowsIV (T : List W) : Nat → List (List IV)
  | 0 => []
  | i + 1 => rowsIV T i ++ [rowIV T i]

theorem rowsIV_len (T : List W) : ∀ i, (rowsIV T i).length = i
  | 0 => rfl
  | i + 1 => by simp [rowsIV, rowsIV_len T i]
theorem rowsIV_get (T : List W) : ∀ n i, i < n → (rowsIV T n)[i]? = some (rowIV T i)
  | 0, i, h => by omega
  | n + 1, i, h => by
    have hl := rowsIV_len T n
    simp only [rowsIV]
    by_cases hi : i < n
    · rw [List.getElem?_append_left (by omega), rowsIV_get T n i hi]
    · have : i = n := by omega
      subst this
      rw [List.getElem?_append_right (by omega), hl]
      simp

theorem errT_ok {T : List W} (h : errT T = 0) : T.length ≤ 40 ∧ ∀ s ∈ T, tx s = true := by
  unfold errT at h
  split at h
  · omega
  · split at h
    · rename_i h1 h2
      rw [List.all_eq_true] at h2
      exact ⟨by omega, h2⟩
    · omega
theorem tx_len {s : W} (h : tx s = true) : s.length ≤ 60 := by
  simp only [tx, Bool.and_eq_true, decide_eq_true_eq] at h
  exact h.2
theorem two_plain (n : Nat) (h : n < 100) : plain (two n) := by
  intro c hc
  simp only [two, List.mem_cons, List.not_mem_nil, or_false] at hc
  rcases hc with rfl | rfl <;> simp only [UInt8.toNat_ofNat'] <;> omega
theorem rowS_plain {n : Nat} {t : W} {c : Bool} (hn : n < 100) (ht : tx t = true) : plain (rowS n t c) ∧ (rowS n t c).length ≤ 62 := by
  have h1 := two_plain n hn
  have h2 := tx_lo ht
  have h3 := tx_len ht
  unfold rowS
  split
  · refine ⟨fun c hc => ?_, by simp [two]⟩
    rcases List.mem_append.1 hc with hc | hc
    · simp at hc; subst hc; decide
    · exact h1 c hc
  · refine ⟨fun c hc => ?_, by simp [two]; omega⟩
    rcases List.mem_append.1 hc with hc | hc
    · exact h1 c hc
    · exact h2 c hc
theorem get_tx {T : List W} (h : ∀ s ∈ T, tx s = true) (i : Nat) : tx (T.getD i []) = true := by
  by_cases hi : i < T.length
  · simp only [List.getD_eq_getElem?_getD, List.getElem?_eq_getElem hi, Option.getD_some]
    exact h _ (List.getElem_mem hi)
  · simp only [List.getD_eq_getElem?_getD, List.getElem?_eq_none (show T.length ≤ i by omega), Option.getD_none]
    decide
theorem lnT_len {T : List W} (h : ∀ s ∈ T, tx s = true) (i : Nat) (hi : i < 100) : (lnT T i).length ≤ 67 := by
  have := (rowS_plain (c := false) hi (get_tx h i)).2
  simp only [lnT, List.length_append, lineOf_len, List.length_singleton]
  omega
theorem wrT_len {T : List W} (h : ∀ s ∈ T, tx s = true) : ∀ i, i ≤ 100 → (wrT T i).length ≤ 67 * i
  | 0, _ => by simp [wrT]
  | i + 1, hi => by
    have := wrT_len h i (by omega)
    have := lnT_len h i (by omega)
    simp only [wrT, List.length_append]
    omega
theorem wrB_len {T : List W} (h : ∀ s ∈ T, tx s = true) (hl : T.length ≤ 40) : (wrB T).length ≤ 2700 + 9 := by
  have := wrT_len h T.length (by omega)
  simp only [wrB, List.length_append, lineOf_len, rowS, if_true, two, List.length_cons, List.length_nil]
  omega

section
variable {K : World → Prop} (hK : ∀ w w', K w → Below w.heap.size w w' → K w')
include hK

theorem good30 (n : Nat) (t : W) (hn : n < 100) (ht : t.length ≤ 1000000) : Ev.Good Tryd.prog K 30 [.int .i64 (n : Nat), .str t] (.str (rowS n t false)) := by
  refine good_of_wp hK c30_ok (by simp) ?_
  have g52 := good52 hK n hn
  have h2 : (two n).length = 2 := rfl
  simp [rowS]
  refine callK_of g52 (by simp) ?_
  simp [h2]
  omega
theorem good43 (n : Nat) (hn : n < 100) : Ev.Good Tryd.prog K 43 [.int .i64 (n : Nat)] (.str (rowS n [] true)) := by
  refine good_of_wp hK c43_ok (by simp) ?_
  have g52 := good52 hK n hn
  have h2 : (two n).length = 2 := rfl
  simp [rowS]
  refine callK_of g52 (by simp) ?_
  simp [h2]

theorem good15 (T : List W) (h : ∀ s ∈ T, s.length ≤ 1000000) : Ev.Good Tryd.prog K 15 [strs T] (.tup [.str (writeB T).1, .int .i64 (writeB T).2]) := by
  refine good_of_wp hK c15_ok (by simp) ?_
  have g42 := good42 hK T h
  unfold writeB
  by_cases he : errT T = 0
  · rw [he] at g42
    obtain ⟨h40, htx⟩ := errT_ok he
    simp [he]
    refine callK_of g42 (by simp) ?_
    simp
    refine loop_up (fun i => [(0, AV.iv (strs T)), (5, .iv (.str (wrT T i))), (6, .iv (.int .i64 (i : Nat)))]) (fun _ => []) T.length ?_ ?_
    · rw [LoopAt_enter c15_b0.eq_1]
      have hw := wrT_len htx T.length (by omega)
      have hp := (rowS_plain (c := true) (n := T.length) (t := []) (by omega) (by decide))
      have g43 := good43 hK T.length (by omega)
      have g29 := good29 hK (rowS T.length [] true) hp.1 (by omega)
      have hl := lineOf_len (rowS T.length [] true)
      simp [wrB]
      intro _
      refine callK_of g43 (by simp) ?_
      simp
      refine callK_of g29 (by simp) ?_
      simp [hl]
      omega
    · intro i hi ih
      rw [LoopAt_enter c15_b0.eq_1]
      have hw := wrT_len htx i (by omega)
      have hp := rowS_plain (c := false) (n := i) (t := T[i]) (by omega) (htx _ (List.getElem_mem hi))
      have hti := tx_len (htx _ (List.getElem_mem hi))
      have g30 := good30 hK i T[i] (by omega) (by omega)
      have g29 := good29 hK (rowS i T[i] false) hp.1 (by omega)
      have hl := lineOf_len (rowS i T[i] false)
      simp [wrT, lnT, hi] at ih
      simp [hi]
      intro _
      refine callK_of g30 (by simp) ?_
      simp [hi]
      refine callK_of g29 (by simp) ?_
      simp [hl]
      repeat' (first | omega | assumption | apply And.intro)
  · simp [he]
    refine callK_of g42 (by simp) ?_
    simp [he]

theorem good14 (T : List W) (h : ∀ s ∈ T, s.length ≤ 1000000) : Ev.Good Tryd.prog K 14 [strs T] (.tup [.str (writeB T).1, .int .i64 (writeB T).2]) := by
  refine good_of_wp hK c14_ok (by simp) ?_
  have g38 := good38 hK T h
  unfold writeB
  by_cases h40 : 40 < T.length
  · have he : errT T = 2 := by simp [errT, h40]
    have hi : (40 : Int) < (T.length : Int) := by omega
    simp [he, hi]
  · have hi : ¬ (40 : Int) < (T.length : Int) := by omega
    by_cases hall : T.all tx = true
    · have he : errT T = 0 := by simp [errT, h40, hall]
      obtain ⟨_, htx⟩ := errT_ok he
      rw [hall] at g38
      simp [he, hi]
      intro _
      refine callK_of g38 (by simp) ?_
      simp
      intro _
      refine loop_up (fun i => [(0, AV.iv (strs T)), (4, .aref 15 (rowsIV T i).length), (16, .iv (strs T)), (17, .iv (.int .i64 (T.length : Nat))), (18, .iv (.int .i64 (i : Nat)))])
        (fun i => [(15, AO.arr 65 3 (emb (rowsIV T i)) 0)]) T.length ?_ ?_
      · rw [LoopAt_enter c14_b0.eq_1]
        have l1 := rowsIV_len T T.length
        simp [l1]
        refine fun _ => ⟨⟨by omega, by omega⟩, fun _ => ?_⟩
        refine loop_up (fun i => [(7, AV.iv (.str (wrA T i))), (35, .aref 15 (T.length + 1)), (36, .iv (.int .i64 ((T.length : Int) + 1))), (37, .iv (.int .i64 (i : Nat)))])
          (fun _ => [(15, AO.arr 65 3 (emb (rowsIV T T.length ++ [[IV.int IntKind.i64 (T.length : Nat), IV.str [], IV.bool true]])) 0)]) (T.length + 1) ?_ ?_
        · rw [LoopAt_enter c14_b1.eq_1]
          have e : wrA T (T.length + 1) = wrB T := wrA_last T
          rw [e]
          simp
        · intro i hi ih
          rw [LoopAt_enter c14_b1.eq_1]
          have hw := wrT_len htx i (by omega)
          have e : wrA T i = wrT T i := by simp [wrA]; omega
          have hin : (i : Int) < (T.length : Int) + 1 := by omega
          by_cases hlt : i < T.length
          · have hp := rowS_plain (c := false) (n := i) (t := T[i]) (by omega) (htx _ (List.getElem_mem hlt))
            have hti := tx_len (htx _ (List.getElem_mem hlt))
            have g41 := good41 hK i T[i] false (by omega) hp.1 (by omega) (by omega)
            have hl := lineOf_len (rowS i T[i] false)
            have e1 : wrA T (i + 1) = wrT T i ++ (lineOf (rowS i T[i] false) ++ [10]) := by
              have : i + 1 ≤ T.length := hlt
              simp [wrA, this, wrT, lnT, hlt]
            have hget : (rowsIV T T.length ++ [[IV.int IntKind.i64 (T.length : Nat), IV.str [], IV.bool true]])[i]? = some [.int .i64 (i : Nat), .str T[i], .bool false] := by
              rw [List.getElem?_append_left (by omega), rowsIV_get T _ i hlt]
              simp [rowIV, hlt]
            rw [e1] at ih
            simp at g41
            simp [hin, e, hget] at ih ⊢
            refine ⟨by omega, callK_of g41 (by simp) ?_⟩
            simp [hl]
            repeat' (first | omega | assumption | apply And.intro)
          · have hin' : i = T.length := by omega
            subst hin'
            have hp := rowS_plain (c := true) (n := T.length) (t := []) (by omega) (by decide)
            have g41 := good41 hK T.length [] true (by omega) hp.1 (by omega) (by simp)
            have hl := lineOf_len (rowS T.length [] true)
            have e1 : wrA T (T.length + 1) = wrT T T.length ++ (lineOf (rowS T.length [] true) ++ [10]) := wrA_last T
            have e : wrA T T.length = wrT T T.length := e
            have hget : (rowsIV T T.length ++ [[IV.int IntKind.i64 (T.length : Nat), IV.str [], IV.bool true]])[T.length]? = some [.int .i64 (T.length : Nat), .str [], .bool true] := by
              rw [List.getElem?_append_right (by omega), l1]
              simp
            rw [e1] at ih
            simp at g41
            simp [hin, e, hget] at ih ⊢
            refine ⟨by omega, callK_of g41 (by simp) ?_⟩
            simp [hl]
            repeat' (first | omega | assumption | apply And.intro)
      · intro i hi ih
        rw [LoopAt_enter c14_b0.eq_1]
        have l1 := rowsIV_len T i
        simp [rowsIV, rowIV, hi, l1] at ih
        simp [hi, l1]
        repeat' (first | omega | assumption | apply And.intro)
    · have hall' : T.all tx = false := by simpa using hall
      have he : errT T = 1 := by simp [errT, h40, hall']
      rw [hall'] at g38
      simp [he, hi]
      intro _
      refine callK_of g38 (by simp) ?_
      simp

theorem good33 (hS : ∀ s : W, s.length ≤ 1000000 → Ev.Good Tryd.prog K 68 [.str s, .str [10]] (strs (spl s))) (b : W) (hb : b.length ≤ 100000) (hl : ∀ ls, cutL b = some ls → ls.length ≤ 100000 ∧ ∀ l ∈ ls, l.length ≤ 10000)
    (hT : ∀ s ∈ (readB b).1, s.length ≤ 1000000) :
    Ev.Good Tryd.prog K 33 [.str b] (if (readB b).2.2 = 0 then .tup [.str (writeB (readB b).1).1, .int .i64 (writeB (readB b).1).2] else .tup [.str [], .int .i64 (readB b).2.2]) := by
  refine good_of_wp hK c33_ok (by simp) ?_
  have g19 := good19 hK hS b hb hl
  have g14 := good14 hK (readB b).1 hT
  generalize readB b = R at *
  by_cases h0 : R.2.2 = 0
  · simp [h0] at g19 ⊢
    refine callK_of g19 (by simp) ?_
    simp
    refine callK_of g14 (by simp) ?_
    simp
  · simp [h0] at g19 ⊢
    refine callK_of g19 (by simp) ?_
    simp [h0]
end
end Go.Bk

/- The contracts of what the document defines of lines. -/
set_option maxRecDepth 8000
namespace Go.Bk
open Go Go.Ev Go.Proofs Go.RowKit

abbrev Fd := List (W × Int)
def fnd (ls : List W) : Fd := ls.filterMap fun l => (rowOf l).map fun r => (r, if lineOf r = l then 1 else 0)
theorem fnd_take (ls : List W) (i : Nat) (h : i < ls.length) : fnd (ls.take (i + 1)) = fnd (ls.take i) ++ match rowOf ls[i] with | none => [] | some r => [(r, if lineOf r = ls[i] then 1 else 0)] := by
  rw [List.take_succ_eq_append_getElem h]
  simp only [fnd, List.filterMap_append]
  congr 1
  cases h : rowOf ls[i] <;> simp [h]
theorem fnd_len (ls : List W) : (fnd ls).length ≤ ls.length := List.length_filterMap_le _ _
theorem fnd_row {ls : List W} {x : W × Int} (h : x ∈ fnd ls) : isRow x.1 = true := by
  simp only [fnd, List.mem_filterMap, Option.map_eq_some_iff] at h
  obtain ⟨l, _, r, hr, rfl⟩ := h
  exact (fits_spec ((rowOf_iff l r).1 hr)).1
@[simp] def rwV (F : Fd) : IV := .sl 1 (F.map fun x => [.str x.1])
@[simp] def rtV (F : Fd) : IV := .sl 1 (F.map fun x => [.int .i64 x.2])
@[simp] def fdV (F : Fd) : IV := .agg [rwV F, rtV F]

def rwE (F : Fd) : List (List IV) := F.map fun x => [.str x.1]
def rtE (F : Fd) : List (List IV) := F.map fun x => [.int .i64 x.2]
theorem rwE_len (F : Fd) : (rwE F).length = F.length := by simp [rwE]
theorem rtE_len (F : Fd) : (rtE F).length = F.length := by simp [rtE]
theorem rwE_app (F : Fd) (r : W) (n : Int) : rwE (F ++ [(r, n)]) = rwE F ++ [[.str r]] := by simp [rwE]
theorem rtE_app (F : Fd) (r : W) (n : Int) : rtE (F ++ [(r, n)]) = rtE F ++ [[.int .i64 n]] := by simp [rtE]

def cl (a b : W) : Bool :=
  if (numOf a).2.2 && (numOf b).2.2 then decide ((numOf a).1 = (numOf b).1) && decide ((numOf a).2.1 ≠ (numOf b).2.1)
  else if (numOf a).2.2 then decide ((manyOf b).1 ≤ (numOf a).1)
  else if (numOf b).2.2 then decide ((manyOf a).1 ≤ (numOf b).1)
  else decide (a ≠ b)
def gF (F : Fd) (i : Nat) : W := (F.getD i ([], 0)).1
def clashF (F : Fd) : Bool := (List.range F.length).any fun i => (List.range i).any fun k => cl (gF F i) (gF F k)
def mStep (m : Int) (x : W × Int) : Int := if (manyOf x.1).2 then (if m < (manyOf x.1).1 then (manyOf x.1).1 else m) else m
def manyF (F : Fd) : Int := F.foldl mStep (-1)
def tfStep (n : Int) (a : W × Bool × Bool) (x : W × Int) : W × Bool × Bool :=
  if (numOf x.1).2.2 && decide ((numOf x.1).1 = n) then ((numOf x.1).2.1, a.2.1 || decide (x.2 = 1), true) else a
def textF (F : Fd) (n : Int) : W × Bool × Bool := F.foldl (tfStep n) ([], false, false)
@[simp] def textV (a : W × Bool × Bool) : IV := .tup [.str a.1, .bool a.2.1, .bool a.2.2]

theorem textF_take (F : Fd) (n : Int) (i : Nat) (h : i < F.length) : textF (F.take (i + 1)) n = tfStep n (textF (F.take i) n) F[i] := by
  rw [List.take_succ_eq_append_getElem h]; simp only [textF, List.foldl_append, List.foldl_cons, List.foldl_nil]
theorem manyF_take (F : Fd) (i : Nat) (h : i < F.length) : manyF (F.take (i + 1)) = mStep (manyF (F.take i)) F[i] := by
  rw [List.take_succ_eq_append_getElem h]; simp only [manyF, List.foldl_append, List.foldl_cons, List.foldl_nil]

def textsF (F : Fd) (i : Nat) : List W := (List.range i).map fun n : Nat => (textF F (n : Int)).1
def mendF (F : Fd) (i : Nat) : List Int := ((List.range i).filter fun n : Nat => !(textF F (n : Int)).2.1).map fun n : Nat => (n : Int)
def allF (F : Fd) (i : Nat) : Bool := (List.range i).all fun n : Nat => (textF F (n : Int)).2.2
def lostF (F : Fd) (i : Nat) : List Int := ((List.range i).filter fun n : Nat => !(textF F (n : Int)).2.2).map fun n : Nat => (n : Int)
def readF (F : Fd) : List W × List Int × Int :=
  if clashF F then ([], [], 141) else
  if manyF F < 0 then ([], [], 142) else
  if allF F (manyF F).toNat then (textsF F (manyF F).toNat, mendF F (manyF F).toNat, 0) else ([], [], 142)

theorem manyF_range (F : Fd) : ∀ i, i ≤ F.length → -1 ≤ manyF (F.take i) ∧ manyF (F.take i) ≤ 40
  | 0, _ => by simp [manyF]
  | i + 1, h => by
    have ih := manyF_range F i (by omega)
    rw [manyF_take F i h]
    unfold mStep
    split
    · rename_i hm
      have : (manyOf F[i].1).1 ≤ 40 ∧ 0 ≤ (manyOf F[i].1).1 := by
        unfold manyOf at hm ⊢
        split
        · rename_i hc; rw [if_pos hc] at hm; cases hm
        · rename_i hc; rw [if_neg hc] at hm; simp at hm; exact ⟨hm.2, hm.1⟩
      split <;> omega
    · omega

theorem textsF_succ (F : Fd) (i : Nat) : textsF F (i + 1) = textsF F i ++ [(textF F (i : Int)).1] := by simp [textsF, List.range_succ]
theorem mendF_succ (F : Fd) (i : Nat) : mendF F (i + 1) = mendF F i ++ if (textF F (i : Int)).2.1 then [] else [(i : Int)] := by
  simp only [mendF, List.range_succ, List.filter_append, List.map_append]
  congr 1
  cases h : (textF F (i : Int)).2.1 <;> simp [h]
theorem lostF_succ (F : Fd) (i : Nat) : lostF F (i + 1) = lostF F i ++ if (textF F (i : Int)).2.2 then [] else [(i : Int)] := by
  simp only [lostF, List.range_succ, List.filter_append, List.map_append]
  congr 1
  cases h : (textF F (i : Int)).2.2 <;> simp [h]
theorem mendF_len (F : Fd) (i : Nat) : (mendF F i).length ≤ i := by
  simp only [mendF, List.length_map]
  have := List.length_filter_le (fun n : Nat => !(textF F (n : Int)).2.1) (List.range i)
  simpa using this
theorem lostF_len (F : Fd) (i : Nat) : (lostF F i).length ≤ i := by
  simp only [lostF, List.length_map]
  have := List.length_filter_le (fun n : Nat => !(textF F (n : Int)).2.2) (List.range i)
  simpa using this

def badL (ls : List W) (i : Nat) : List Int := ((List.range i).filter fun j : Nat => (rd (ls.getD j [])).isNone).map fun j : Nat => (j : Int)
theorem badL_succ (ls : List W) (i : Nat) (h : i < ls.length) : badL ls (i + 1) = badL ls i ++ if (rowOf ls[i]).isSome then [] else [(i : Int)] := by
  simp only [badL, List.range_succ, List.filter_append, List.map_append]
  congr 1
  cases hr : rowOf ls[i] <;> simp [rd, hr, h]
theorem badL_len (ls : List W) (i : Nat) : (badL ls i).length ≤ i := by
  simp only [badL, List.length_map]
  have := List.length_filter_le (fun j : Nat => (rd (ls.getD j [])).isNone) (List.range i)
  simpa using this
def rrB (b : W) : List W × List Int × Int := match cutL b with
  | none => ([], [], 140)
  | some ls => readF (fnd ls)
theorem allF_succ (F : Fd) (i : Nat) : allF F (i + 1) = (allF F i && (textF F (i : Int)).2.2) := by simp [allF, List.range_succ]
theorem allF_small {F : Fd} {n m : Nat} (h : n < m) (h' : (textF F (n : Int)).2.2 = false) : allF F m = false := by
  unfold allF
  rw [List.all_eq_false]
  exact ⟨n, List.mem_range.2 h, by simp [h']⟩
theorem clashF_no {F : Fd} (h : ∀ i', i' < F.length → ∀ k, k < i' → cl (gF F i') (gF F k) = false) : clashF F = false := by
  unfold clashF
  rw [List.any_eq_false]
  intro i hi
  rw [List.mem_range] at hi
  rw [Bool.not_eq_true, List.any_eq_false]
  intro k hk
  rw [List.mem_range] at hk
  rw [h i hi k hk]
  simp
theorem clashF_yes {F : Fd} {i k : Nat} (hi : i < F.length) (hk : k < i) (h : cl (gF F i) (gF F k) = true) : clashF F = true := by
  unfold clashF
  rw [List.any_eq_true]
  refine ⟨i, List.mem_range.2 hi, ?_⟩
  rw [List.any_eq_true]
  exact ⟨k, List.mem_range.2 hk, h⟩

section
variable {K : World → Prop} (hK : ∀ w w', K w → Below w.heap.size w w' → K w')
include hK

theorem good69 (a b : W) (ha : a.length ≤ 1000000) (hb : b.length ≤ 1000000) : Ev.Good Tryd.prog K 69 [.str a, .str b] (.bool (cl a b)) := by
  refine good_of_wp hK c69_ok (by simp) ?_
  have ga := good71 hK a ha
  have gb := good71 hK b hb
  have ma := good70 hK a
  have mb := good70 hK b
  unfold cl
  generalize numOf a = na at *
  generalize numOf b = nb at *
  generalize manyOf a = xa at *
  generalize manyOf b = xb at *
  obtain ⟨n, s, is⟩ := na
  obtain ⟨m, t, so⟩ := nb
  simp at ga gb ⊢
  refine callK_of ga (by simp) ?_
  simp
  refine callK_of gb (by simp) ?_
  cases is with
  | true =>
    cases so with
    | true =>
      simp
      exact ⟨fun e _ => e, fun e e' => absurd e' e⟩
    | false =>
      simp
      refine callK_of mb (by simp) ?_
      simp
  | false =>
    cases so with
    | true =>
      simp
      refine callK_of ma (by simp) ?_
      simp
    | false => simp

theorem good55 (F : Fd) : Ev.Good Tryd.prog K 55 [fdV F] (.int .i64 (manyF F)) := by
  refine good_of_wp hK c55_ok (by simp) ?_
  simp
  refine loop_up (fun i => [(1, AV.iv (.ptr [rwV F, rtV F])), (3, .iv (.int .i64 (manyF (F.take i)))), (4, .iv (.int .i64 (i : Nat)))]) (fun _ => []) F.length ?_ ?_
  · rw [LoopAt_enter c55_b0.eq_1]
    simp
  · intro i hi ih
    rw [LoopAt_enter c55_b0.eq_1]
    have g70 := good70 hK F[i].1
    have hr := manyF_range F (i + 1) (by omega)
    rw [manyF_take F i hi] at ih hr
    generalize manyF (F.take i) = M at *
    unfold mStep at ih hr
    cases hm : (manyOf F[i].1).2 with
    | true =>
      rw [hm] at g70
      simp [hi, hm] at ih ⊢
      refine fun _ => callK_of g70 (by simp) ?_
      simp
      repeat' (first | omega | assumption | intro _ | apply And.intro)
    | false =>
      rw [hm] at g70
      simp [hi, hm] at ih ⊢
      refine fun _ => callK_of g70 (by simp) ?_
      simp
      repeat' (first | omega | assumption | intro _ | apply And.intro)

theorem good56 (F : Fd) (n : Int) (hF : ∀ x ∈ F, x.1.length ≤ 1000000) : Ev.Good Tryd.prog K 56 [fdV F, .int .i64 n] (textV (textF F n)) := by
  refine good_of_wp hK c56_ok (by simp) ?_
  simp
  refine loop_up (fun i => [(1, AV.iv (.int .i64 n)), (2, .iv (.ptr [rwV F, rtV F])), (4, .iv (.str (textF (F.take i) n).1)), (5, .iv (.bool (textF (F.take i) n).2.1)), (6, .iv (.bool (textF (F.take i) n).2.2)), (7, .iv (.int .i64 (i : Nat)))]) (fun _ => []) F.length ?_ ?_
  · rw [LoopAt_enter c56_b0.eq_1]
    simp
  · intro i hi ih
    rw [LoopAt_enter c56_b0.eq_1]
    have g71 := good71 hK F[i].1 (hF _ (List.getElem_mem hi))
    rw [textF_take F n i hi] at ih
    generalize textF (F.take i) n = T at *
    unfold tfStep at ih
    generalize numOf F[i].1 = q at *
    obtain ⟨m, s, is⟩ := q
    obtain ⟨T1, T2, T3⟩ := T
    simp [hi] at ih g71 ⊢
    refine fun _ => callK_of g71 (by simp) ?_
    cases is with
    | false =>
      simp at ih ⊢
      repeat' (first | omega | assumption | intro _ | apply And.intro)
    | true =>
      by_cases hm : m = n
      · cases T2 with
        | true =>
          simp [hm] at ih ⊢
          repeat' (first | omega | assumption | intro _ | apply And.intro)
        | false =>
          simp [hm, hi] at ih ⊢
          repeat' (first | omega | assumption | intro _ | apply And.intro)
      · simp [hm] at ih ⊢
        repeat' (first | omega | assumption | intro _ | apply And.intro)

theorem good54 (ls : List W) (hl : ∀ l ∈ ls, l.length ≤ 10000) (hn : ls.length ≤ 100000) : Ev.Good Tryd.prog K 54 [strs ls] (fdV (fnd ls)) := by
  refine good_of_wp hK c54_ok (by simp) ?_
  simp
  refine loop_up (fun i => [(0, AV.iv (strs ls)), (2, .loc 2 0), (3, .loc 3 0), (4, .iv (.int .i64 (i : Nat)))])
    (fun i => [(2, AO.box [AV.iv (IV.sl 1 []), AV.iv (IV.sl 1 [])]), (3, .box [.aref 4000 (fnd (ls.take i)).length, .aref 4001 (fnd (ls.take i)).length]), (4000, .arr 9 1 (emb (rwE (fnd (ls.take i)))) 0), (4001, .arr 3 1 (emb (rtE (fnd (ls.take i)))) 0)]) ls.length ?_ ?_
  · rw [LoopAt_enter c54_b0.eq_1]
    have l1 := rwE_len (fnd ls)
    have l2 := rtE_len (fnd ls)
    simp [l1, l2]
    simp [rwE, rtE]
  · intro i hi ih
    rw [LoopAt_enter c54_b0.eq_1]
    have hli := hl ls[i] (List.getElem_mem hi)
    have hfl := fnd_len (ls.take i)
    rw [List.length_take, Nat.min_eq_left (by omega)] at hfl
    rw [fnd_take ls i hi] at ih
    generalize fnd (ls.take i) = F at *
    have l1 := rwE_len F
    have l2 := rtE_len F
    have g23 := good23 hK ls[i] hli
    cases hR : rowOf ls[i] with
    | none =>
      rw [hR] at ih g23
      simp [hi] at ih g23 ⊢
      refine fun _ => callK_of g23 (by simp) ?_
      simp
      repeat' (first | omega | assumption | intro _ | apply And.intro)
    | some r =>
      have hrow := (fits_spec ((rowOf_iff _ _).1 hR)).1
      obtain ⟨p1, p2, p3⟩ := row_plain hrow
      have g29 := good29 hK r p1 (by omega)
      rw [hR] at ih g23
      by_cases he : lineOf r = ls[i]
      · simp [hi, he, rwE_app, rtE_app] at ih
        simp [hi] at g23 ⊢
        refine fun _ => callK_of g23 (by simp) ?_
        simp
        refine callK_of g29 (by simp) ?_
        simp [hi, he, l1, l2]
        repeat' (first | omega | assumption | intro _ | apply And.intro)
      · simp [hi, he, rwE_app, rtE_app] at ih
        simp [hi] at g23 ⊢
        refine fun _ => callK_of g23 (by simp) ?_
        simp
        refine callK_of g29 (by simp) ?_
        simp [hi, he, l1, l2]
        repeat' (first | omega | assumption | intro _ | apply And.intro)

theorem good53 (ls : List W) (hl : ∀ l ∈ ls, l.length ≤ 10000) (hn : ls.length ≤ 100000) : Ev.Good Tryd.prog K 53 [strs ls] (readV (readF (fnd ls))) := by
  refine good_of_wp hK c53_ok (by simp) ?_
  have g54 := good54 hK ls hl hn
  have hfl := fnd_len ls
  have hrow : ∀ x ∈ fnd ls, x.1.length ≤ 1000 := fun x hx => by have := row_plain (fnd_row hx); omega
  generalize fnd ls = F at *
  generalize hR : readF F = R
  simp at g54 ⊢
  refine callK_of g54 (by simp) ?_
  simp
  refine loop_q (fun i => [(2, AV.aref 2 0), (3, .aref 3 0), (5, .loc 5 0), (6, .iv (.int .i64 (i : Nat)))]) (fun _ => [(2, AO.arr 9 1 [] 0), (3, .arr 3 1 [] 0), (5, .box [.iv (rwV F), .iv (rtV F)])]) F.length (fun i => ∀ i', i' < i → ∀ k, k < i' → cl (gF F i') (gF F k) = false) (by simp) ?_ ?_
  · intro hq
    have hc := clashF_no hq
    rw [LoopAt_enter c53_b1.eq_1]
    have hmr := manyF_range F F.length (Nat.le_refl _)
    rw [List.take_length] at hmr
    have g55 := good55 hK F
    unfold readF at hR
    rw [hc] at hR
    have g56 : ∀ n, _ := fun n => good56 hK F n (fun x hx => by have := hrow x hx; omega)
    generalize hM : manyF F = M at *
    simp at g55 ⊢
    refine fun _ => callK_of g55 (by simp) ?_
    by_cases h0 : M < 0
    · simp [h0] at hR
      subst hR
      simp [h0]
    · obtain ⟨m, rfl⟩ : ∃ m : Nat, M = m := ⟨M.toNat, by omega⟩
      simp [h0] at hR ⊢
      refine loop_q (fun n => [(2, AV.aref 2 (textsF F n).length), (3, .aref 3 (mendF F n).length), (5, .loc 5 0), (8, .iv (.int .i64 (m : Nat))), (9, .iv (.int .i64 (n : Nat)))])
        (fun n => [(2, AO.arr 9 1 (emb (txE (textsF F n))) 0), (3, .arr 3 1 (emb (inE (mendF F n))) 0), (5, .box [.iv (rwV F), .iv (rtV F)])]) m (fun n => allF F n = true) (by simp [allF]) ?_ ?_
      · intro ha
        rw [LoopAt_enter c53_b2.eq_1]
        rw [if_pos ha] at hR
        subst hR
        have l1 : (txE (textsF F m)).length = (textsF F m).length := by simp [txE]
        have l2 : (inE (mendF F m)).length = (mendF F m).length := by simp [inE]
        simp [l1, l2]
        simp [txE, inE]
      · intro n hn ha ih
        rw [LoopAt_enter c53_b2.eq_1]
        have hnm : (n : Int) < (m : Int) := by omega
        have g := g56 (n : Int)
        have hal := allF_succ F n
        have hsm := allF_small (F := F) (n := n) (m := m) hn
        rw [textsF_succ, mendF_succ, hal, ha] at ih
        have hml := mendF_len F n
        have htl : (textsF F n).length = n := by simp [textsF]
        generalize textF F (n : Int) = T at *
        obtain ⟨t, ri, is⟩ := T
        generalize textsF F n = X at *
        generalize mendF F n = Y at *
        have l1 : (txE X).length = X.length := by simp [txE]
        have l2 : (inE Y).length = Y.length := by simp [inE]
        have l3 : txE (X ++ [t]) = txE X ++ [[.str t]] := by simp [txE]
        have l4 : inE (Y ++ [(n : Int)]) = inE Y ++ [[.int .i64 (n : Nat)]] := by simp [inE]
        simp [hnm] at g ⊢
        refine callK_of g (by simp) ?_
        cases is with
        | false =>
          rw [hsm rfl] at hR
          simp at hR
          subst hR
          simp
        | true =>
          cases ri with
          | true =>
            simp [l3] at ih
            simp [l1]
            repeat' (first | omega | assumption | intro _ | apply And.intro)
          | false =>
            simp [l3, l4] at ih
            simp [l1, l2]
            repeat' (first | omega | assumption | intro _ | apply And.intro)
  · intro i hi hq ih
    rw [LoopAt_enter c53_b1.eq_1]
    have hin : (i : Int) < (F.length : Int) := by omega
    simp [hin]
    intro _
    refine loop_q (fun k => [(2, AV.aref 2 0), (3, .aref 3 0), (5, .loc 5 0), (6, .iv (.int .i64 (i : Nat))), (7, .iv (.int .i64 (k : Nat)))]) (fun _ => [(2, AO.arr 9 1 [] 0), (3, .arr 3 1 [] 0), (5, .box [.iv (rwV F), .iv (rtV F)])]) i (fun k => ∀ k', k' < k → cl (gF F i) (gF F k') = false) (by simp) ?_ ?_
    · intro hq'
      rw [LoopAt_enter c53_b0.eq_1]
      have := ih (fun i' hi' k hk => by
        rcases Nat.lt_succ_iff_lt_or_eq.1 hi' with h | h
        · exact hq i' h k hk
        · subst h; exact hq' k hk)
      simp at this ⊢
      exact ⟨by omega, this⟩
    · intro k hk hq' ih'
      rw [LoopAt_enter c53_b0.eq_1]
      have hkn : (k : Int) < (i : Int) := by omega
      have hkl : k < F.length := by omega
      have e1 : gF F i = F[i].1 := by simp [gF, hi]
      have e2 : gF F k = F[k].1 := by simp [gF, hkl]
      have g69 := good69 hK F[i].1 F[k].1 (by have := hrow _ (List.getElem_mem hi); omega) (by have := hrow _ (List.getElem_mem hkl); omega)
      simp [hkn, hi, hkl]
      refine callK_of g69 (by simp) ?_
      cases hc : cl F[i].1 F[k].1 with
      | true =>
        have hcf : clashF F = true := clashF_yes hi hk (by rw [e1, e2]; exact hc)
        have : R = ([], [], 141) := by rw [← hR]; unfold readF; rw [hcf]; rfl
        subst this
        simp
      | false =>
        have := ih' (fun k' hk' => by
          rcases Nat.lt_succ_iff_lt_or_eq.1 hk' with h | h
          · exact hq' k' h
          · subst h; rw [e1, e2]; exact hc)
        simp at this ⊢
        exact ⟨by omega, this⟩

theorem good32 (b : W) (hb : b.length ≤ 100000) (hl : ∀ ls, cutL b = some ls → ls.length ≤ 100000 ∧ ∀ l ∈ ls, l.length ≤ 10000) :
    Ev.Good Tryd.prog K 32 [.str b] (readV (match cutL b with | none => ([], [], 140) | some ls => readF (fnd ls))) := by
  refine good_of_wp hK c32_ok (by simp) ?_
  have g24 := good24 hK b (by omega)
  cases hc : cutL b with
  | none =>
    rw [hc] at g24
    simp at g24 ⊢
    refine callK_of g24 (by simp) ?_
    simp
  | some ls =>
    rw [hc] at g24
    have g53 := good53 hK ls (hl ls hc).2 (hl ls hc).1
    simp at g24 g53 ⊢
    refine callK_of g24 (by simp) ?_
    simp
    refine callK_of g53 (by simp) ?_
    simp

theorem good34 (b : W) (hb : b.length ≤ 100000) (hl : ∀ ls, cutL b = some ls → ls.length ≤ 100000 ∧ ∀ l ∈ ls, l.length ≤ 10000) (hT : ∀ s ∈ (rrB b).1, s.length ≤ 1000000) :
    Ev.Good Tryd.prog K 34 [.str b] (if (rrB b).2.2 = 0 then .tup [.str (writeB (rrB b).1).1, .int .i64 (writeB (rrB b).1).2] else .tup [.str [], .int .i64 (rrB b).2.2]) := by
  refine good_of_wp hK c34_ok (by simp) ?_
  have g32 : Ev.Good Tryd.prog K 32 [.str b] (readV (rrB b)) := good32 hK b hb hl
  have g15 := good15 hK (rrB b).1 hT
  generalize rrB b = R at *
  by_cases h0 : R.2.2 = 0
  · simp [h0] at g32 ⊢
    refine callK_of g32 (by simp) ?_
    simp
    refine callK_of g15 (by simp) ?_
    simp
  · simp [h0] at g32 ⊢
    refine callK_of g32 (by simp) ?_
    simp [h0]

theorem good35 (b : W) (hb : b.length ≤ 100000) (hl : ∀ ls, cutL b = some ls → ls.length ≤ 100000 ∧ ∀ l ∈ ls, l.length ≤ 10000) :
    Ev.Good Tryd.prog K 35 [.str b] (match cutL b with | none => .tup [ints [], .int .i64 140] | some ls => .tup [ints (badL ls ls.length), .int .i64 0]) := by
  refine good_of_wp hK c35_ok (by simp) ?_
  have g24 := good24 hK b (by omega)
  cases hc : cutL b with
  | none =>
    rw [hc] at g24
    simp at g24 ⊢
    refine callK_of g24 (by simp) ?_
    simp
  | some ls =>
    rw [hc] at g24
    obtain ⟨hl1, hl2⟩ := hl ls hc
    simp at g24 ⊢
    refine callK_of g24 (by simp) ?_
    simp
    refine loop_up (fun i => [(4, AV.iv (strs ls)), (6, .aref 6 (badL ls i).length), (7, .iv (.int .i64 (i : Nat)))]) (fun i => [(6, AO.arr 3 1 (emb (inE (badL ls i))) 0)]) ls.length ?_ ?_
    · rw [LoopAt_enter c35_b0.eq_1]
      have l1 : (inE (badL ls ls.length)).length = (badL ls ls.length).length := by simp [inE]
      simp [l1]
      simp [inE]
    · intro i hi ih
      rw [LoopAt_enter c35_b0.eq_1]
      have g23 := good23 hK ls[i] (hl2 _ (List.getElem_mem hi))
      have hbl := badL_len ls i
      rw [badL_succ ls i hi] at ih
      generalize badL ls i = B at *
      have l1 : (inE B).length = B.length := by simp [inE]
      have l2 : inE (B ++ [(i : Int)]) = inE B ++ [[.int .i64 (i : Nat)]] := by simp [inE]
      cases hr : rowOf ls[i] with
      | none =>
        rw [hr] at ih g23
        simp [hi, l2] at ih g23 ⊢
        refine fun _ => callK_of g23 (by simp) ?_
        simp [l1]
        repeat' (first | omega | assumption | intro _ | apply And.intro)
      | some r =>
        rw [hr] at ih g23
        simp [hi] at ih g23 ⊢
        refine fun _ => callK_of g23 (by simp) ?_
        simp
        repeat' (first | omega | assumption | intro _ | apply And.intro)

theorem good36 (b : W) (hb : b.length ≤ 100000) (hl : ∀ ls, cutL b = some ls → ls.length ≤ 100000 ∧ ∀ l ∈ ls, l.length ≤ 10000) :
    Ev.Good Tryd.prog K 36 [.str b] (match cutL b with | none => .tup [ints [], .int .i64 140] | some ls => if manyF (fnd ls) < 0 then .tup [ints [], .int .i64 142] else .tup [ints (lostF (fnd ls) (manyF (fnd ls)).toNat), .int .i64 0]) := by
  refine good_of_wp hK c36_ok (by simp) ?_
  have g24 := good24 hK b (by omega)
  cases hc : cutL b with
  | none =>
    rw [hc] at g24
    simp at g24 ⊢
    refine callK_of g24 (by simp) ?_
    simp
  | some ls =>
    rw [hc] at g24
    obtain ⟨hl1, hl2⟩ := hl ls hc
    have g54 := good54 hK ls hl2 hl1
    have hrow : ∀ x ∈ fnd ls, x.1.length ≤ 1000000 := fun x hx => by have := row_plain (fnd_row hx); omega
    simp only
    generalize fnd ls = F at *
    have g55 := good55 hK F
    have g56 : ∀ n, _ := fun n => good56 hK F n hrow
    have hmr := manyF_range F F.length (Nat.le_refl _)
    rw [List.take_length] at hmr
    generalize hM : manyF F = M at *
    simp at g24 g54 g55 ⊢
    refine callK_of g24 (by simp) ?_
    simp
    refine callK_of g54 (by simp) ?_
    simp
    refine callK_of g55 (by simp) ?_
    by_cases h0 : M < 0
    · simp [h0]
    · obtain ⟨m, rfl⟩ : ∃ m : Nat, M = m := ⟨M.toNat, by omega⟩
      simp [h0]
      refine loop_up (fun n => [(6, AV.loc 6 0), (7, .iv (.int .i64 (m : Nat))), (8, .aref 8 (lostF F n).length), (9, .iv (.int .i64 (n : Nat)))]) (fun n => [(6, AO.box [.iv (rwV F), .iv (rtV F)]), (8, .arr 3 1 (emb (inE (lostF F n))) 0)]) m ?_ ?_
      · rw [LoopAt_enter c36_b0.eq_1]
        have l2 : (inE (lostF F m)).length = (lostF F m).length := by simp [inE]
        simp [l2]
        simp [inE]
      · intro n hn ih
        rw [LoopAt_enter c36_b0.eq_1]
        have hnm : (n : Int) < (m : Int) := by omega
        have g := g56 (n : Int)
        rw [lostF_succ] at ih
        have hml := lostF_len F n
        generalize textF F (n : Int) = T at *
        obtain ⟨t, ri, is⟩ := T
        generalize lostF F n = Y at *
        have l2 : (inE Y).length = Y.length := by simp [inE]
        have l4 : inE (Y ++ [(n : Int)]) = inE Y ++ [[.int .i64 (n : Nat)]] := by simp [inE]
        simp [hnm] at g ⊢
        refine callK_of g (by simp) ?_
        cases is with
        | true =>
          simp at ih ⊢
          repeat' (first | omega | assumption | intro _ | apply And.intro)
        | false =>
          simp [l4] at ih
          simp [l2]
          repeat' (first | omega | assumption | intro _ | apply And.intro)

theorem good27 (a b : W) (hb : a.length + b.length ≤ 100000) (hl : ∀ ls, cutL (a ++ b) = some ls → ls.length ≤ 100000 ∧ ∀ l ∈ ls, l.length ≤ 10000) :
    Ev.Good Tryd.prog K 27 [.str a, .str b] (if (cutL a).isSome && (cutL b).isSome then .tup [strs (rrB (a ++ b)).1, .int .i64 (rrB (a ++ b)).2.2] else .tup [strs [], .int .i64 140]) := by
  refine good_of_wp hK c27_ok (by simp) ?_
  have ga := good24 hK a (by omega)
  have gb := good24 hK b (by omega)
  have g32 : Ev.Good Tryd.prog K 32 [.str (a ++ b)] (readV (rrB (a ++ b))) := good32 hK (a ++ b) (by simp; omega) hl
  generalize rrB (a ++ b) = R at *
  generalize cutL a = ca at *
  generalize cutL b = cb at *
  simp at ga gb g32 ⊢
  refine callK_of ga (by simp) ?_
  simp
  refine callK_of gb (by simp) ?_
  cases ca with
  | none => simp
  | some la =>
    cases cb with
    | none => simp
    | some lb =>
      simp
      refine ⟨by omega, callK_of g32 (by simp) ?_⟩
      simp
end
end Go.Bk
