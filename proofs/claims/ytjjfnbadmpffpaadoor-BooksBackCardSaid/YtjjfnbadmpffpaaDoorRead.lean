/- The contracts of Read, Bad, Lost, Join. -/
import Derived.Test.YtjjfnbadmpffpaaDoorPage
set_option linter.all false

set_option maxRecDepth 8000
namespace Go.Bk
open Go Go.Ev Go.Proofs Go.RowKit

def textsP (p : Pg) (i : Nat) : List W := (List.range i).map fun n : Nat => ((afind (n : Int) p.rows).getD []).headD []
def mendP (p : Pg) (i : Nat) : List Int := ((List.range i).filter fun n : Nat => (afind (n : Int) p.exact).getD 0 == 0).map fun n : Nat => (n : Int)
def readP (p : Pg) : List W × List Int × Int :=
  if clashP p then ([], [], 141) else
  match p.ends with
  | [] => ([], [], 142)
  | e :: _ => if 0 < (lostP p e).length then ([], [], 142) else (textsP p e.toNat, mendP p e.toNat, 0)
def readB (b : W) : List W × List Int × Int := match cutL b with
  | none => ([], [], 140)
  | some ls => readP (pgTo ls ls.length)
@[simp] def readV (r : List W × List Int × Int) : IV := .tup [strs r.1, ints r.2.1, .int .i64 r.2.2]

theorem mendP_succ (p : Pg) (i : Nat) : mendP p (i + 1) = mendP p i ++ if (afind (i : Int) p.exact).getD 0 = 0 then [(i : Int)] else [] := by
  simp only [mendP, List.range_succ, List.filter_append, List.map_append]
  congr 1
  by_cases h : (afind (i : Int) p.exact).getD 0 = 0 <;> simp [h]
theorem textsP_succ (p : Pg) (i : Nat) : textsP p (i + 1) = textsP p i ++ [((afind (i : Int) p.rows).getD []).headD []] := by
  simp only [textsP, List.range_succ, List.map_append, List.map_cons, List.map_nil]
theorem textsP_len (p : Pg) (i : Nat) : (textsP p i).length = i := by simp [textsP]
theorem mendP_len (p : Pg) (i : Nat) : (mendP p i).length ≤ i := by
  simp only [mendP, List.length_map]
  have := List.length_filter_le (fun n : Nat => (afind (n : Int) p.exact).getD 0 == 0) (List.range i)
  simpa using this

theorem lostP_nil {p : Pg} {n : Nat} (h : (lostP p (n : Nat)).length = 0) : ∀ i, i < n → (afind (i : Int) p.rows).getD [] ≠ [] := by
  intro i hi he
  have h0 := List.eq_nil_of_length_eq_zero h
  simp only [lostP, Int.toNat_natCast, List.map_eq_nil_iff, List.filter_eq_nil_iff] at h0
  have := h0 i (List.mem_range.2 hi)
  simp [he] at this

/-- The numbers of closing rows are small. -/
theorem pg_ends (ls : List W) : ∀ i, ∀ e ∈ (pgTo ls i).ends, 0 ≤ e ∧ e ≤ 40
  | 0 => by simp [pgTo]
  | i + 1 => by
    have ih := pg_ends ls i
    simp only [pgTo, stepP]
    split
    · exact ih
    · rename_i r hr
      split
      · intro e he
        simp only [withX] at he
        split at he
        · exact ih e he
        · rcases List.mem_append.1 he with he | he
          · exact ih e he
          · simp at he
            subst he
            have := parse_str (fits_row (rowOf_spec hr)).1
            exact ⟨this.1, this.2.1⟩
      · exact ih

section
variable {K : World → Prop} (hK : ∀ w w', K w → Below w.heap.size w w' → K w')
include hK

def maxL (a : Int) (l : List Int) : Int := l.foldl (fun m x => if m < x then x else m) a

theorem good51 (a : Int) (l : List Int) : Ev.Good Tryd.prog K 51 [ints (a :: l)] (.int .i64 (maxL a l)) := by
  refine good_of_wp hK c51_ok (by simp) ?_
  have hze : ¬ ((l.length : Int) + 1 < 1) := by omega
  simp [hze]
  intro hl
  have hone : ((0 : Nat) : Int) + 1 = 1 := rfl
  refine loop_up (fun i => [(0, AV.iv (ints (a :: l))), (3, .iv (.int .i64 (maxL a (l.take i)))), (4, .iv (.int .i64 (((i : Nat) : Int) + 1)))]) (fun _ => []) l.length ?_ ?_
  · rw [LoopAt_enter c51_b0.eq_1]
    simp
  · intro i hi ih
    rw [LoopAt_enter c51_b0.eq_1]
    have hin : (i : Int) < (l.length : Int) := by omega
    have hi1 : ((i : Int) + 1).toNat = i + 1 := by omega
    have e : maxL a (l.take (i + 1)) = if maxL a (l.take i) < l[i] then l[i] else maxL a (l.take i) := by
      rw [List.take_succ_eq_append_getElem hi]
      simp only [maxL, List.foldl_append, List.foldl_cons, List.foldl_nil]
      rfl
    rw [e] at ih
    simp [hin, hi1, hi] at ih ⊢
    repeat' (first | omega | assumption | intro _ | apply And.intro)

theorem good19 (hS : ∀ s : W, s.length ≤ 1000000 → Ev.Good Tryd.prog K 68 [.str s, .str [10]] (strs (spl s))) (b : W) (hb : b.length ≤ 100000) (hl : ∀ ls, cutL b = some ls → ls.length ≤ 100000 ∧ ∀ l ∈ ls, l.length ≤ 10000) :
    Ev.Good Tryd.prog K 19 [.str b] (readV (readB b)) := by
  refine good_of_wp hK c19_ok (by simp) ?_
  have g44 := good44 hK hS b hb hl
  unfold readB
  cases hcut : cutL b with
  | none =>
    rw [hcut] at g44
    simp [noPg] at g44 ⊢
    refine callK_of g44 (by simp) ?_
    simp
  | some ls =>
    rw [hcut] at g44
    simp only at g44 ⊢
    have hends := pg_ends ls ls.length
    generalize pgTo ls ls.length = p at *
    have g45 := good45 hK p
    have g46 : ∀ (n : Nat), n ≤ 100000 → _ := fun n hn => good46 hK p n hn
    unfold readP
    have hdef : Pg.ends p = p.ends := rfl
    cases he : p.ends with
    | nil =>
      simp [pgV, he] at g44 g45 ⊢
      refine callK_of g44 (by simp) ?_
      simp
      refine callK_of g45 (by simp) ?_
      by_cases hc : clashP p = true
      · simp [hc]
      · have hc' : clashP p = false := by simpa using hc
        simp [hc']
    | cons e es =>
      obtain ⟨e0, e1⟩ := hends e (by rw [he]; exact List.mem_cons_self)
      obtain ⟨n, rfl⟩ : ∃ n : Nat, e = n := ⟨e.toNat, by omega⟩
      have g46 := g46 n (by omega)
      simp [pgV, he] at g44 g45 g46 ⊢
      refine callK_of g44 (by simp) ?_
      simp
      refine callK_of g45 (by simp) ?_
      by_cases hc : clashP p = true
      · simp [hc]
      · have hc' : clashP p = false := by simpa using hc
        have hze : ¬ ((es.length : Int) + 1 = 0) := by omega
        simp [hc', hze]
        intro hel
        refine callK_of g46 (.inl rfl) ?_
        have hll := lostP_len p n
        by_cases h0 : (lostP p (n : Nat)).length = 0
        · have hll0 := lostP_nil h0
          have h0' := List.eq_nil_of_length_eq_zero h0
          simp [h0']
          refine loop_up (fun i => [(2, AV.aref 2 (textsP p i).length), (3, .aref 3 (mendP p i).length), (5, .loc 5 0), (37, .iv (.int .i64 (n : Nat))), (38, .iv (.int .i64 (i : Nat)))])
            (fun i => [(2, AO.arr 9 1 (emb (txE (textsP p i))) 0), (3, .arr 3 1 (emb (inE (mendP p i))) 0), (5, .box [.iv (.map (encK (fun t => .sl 1 (txE t)) p.rows)), .iv (ints ((n : Int) :: es)), .iv (.map (encK (fun n => .int .i64 n) p.exact)), .iv (ints p.bad)])]) n ?_ ?_
          · rw [LoopAt_enter c19_b0.eq_1]
            have l1 : (txE (textsP p n)).length = (textsP p n).length := by simp [txE]
            have l2 : (inE (mendP p n)).length = (mendP p n).length := by simp [inE]
            simp [l1, l2]
            simp [txE, inE]
          · intro i hi ih
            rw [LoopAt_enter c19_b0.eq_1]
            have hni := hll0 i hi
            have hin : (i : Int) < (n : Int) := by omega
            have hks := encK_kinds (fun t => IV.sl 1 (txE t)) p.rows
            have hf := encK_find (fun t => IV.sl 1 (txE t)) (i : Int) p.rows
            have hks2 := encK_kinds (fun n => IV.int .i64 n) p.exact
            have hf2 := encK_find (fun n => IV.int .i64 n) (i : Int) p.exact
            rw [textsP_succ, mendP_succ] at ih
            have hml := mendP_len p i
            have htl := textsP_len p i
            generalize hold : (afind (i : Int) p.rows).getD [] = old at *
            have hf' : (mfind (.int .i64 (i : Int)) (encK (fun t => IV.sl 1 (txE t)) p.rows)).getD (.sl 1 []) = .sl 1 (txE old) := by
              rw [hf, ← hold]
              cases afind (i : Int) p.rows <;> rfl
            generalize hcnt : (afind (i : Int) p.exact).getD 0 = cnt at *
            have hf2' : (mfind (.int .i64 (i : Int)) (encK (fun n => IV.int .i64 n) p.exact)).getD (.int .i64 0) = .int .i64 cnt := by
              rw [hf2, ← hcnt]
              cases afind (i : Int) p.exact <;> rfl
            generalize textsP p i = T at *
            generalize mendP p i = M at *
            have l1 : (txE T).length = T.length := by simp [txE]
            have l2 : (inE M).length = M.length := by simp [inE]
            obtain ⟨o, os, rfl⟩ : ∃ o os, old = o :: os := by
              cases old with
              | nil => exact absurd rfl hni
              | cons o os => exact ⟨o, os, rfl⟩
            have l3 : txE (T ++ [o]) = txE T ++ [[.str o]] := by simp [txE]
            have hto : txE (o :: os) = [.str o] :: txE os := rfl
            by_cases hz : cnt = 0
            · have l4 : inE (M ++ [(i : Int)]) = inE M ++ [[.int .i64 (i : Nat)]] := by simp [inE]
              rw [if_pos hz] at ih
              simp [l3, l4] at ih
              simp [hin, hks, hks2, hf', hf2', hto, hz, l1, l2] at ih ⊢
              repeat' (first | omega | assumption | intro _ | apply And.intro)
            · rw [if_neg hz] at ih
              simp [l3] at ih
              simp [hin, hks, hks2, hf', hf2', hto, hz, l1, l2] at ih ⊢
              repeat' (first | omega | assumption | intro _ | apply And.intro)
        · have h0' : ¬ lostP p (n : Nat) = [] := fun e => h0 (by rw [e]; rfl)
          have h0p : 0 < (lostP p (n : Nat)).length := by omega
          simp [h0', h0p]

theorem good21 (hS : ∀ s : W, s.length ≤ 1000000 → Ev.Good Tryd.prog K 68 [.str s, .str [10]] (strs (spl s))) (b : W) (hb : b.length ≤ 100000) (hl : ∀ ls, cutL b = some ls → ls.length ≤ 100000 ∧ ∀ l ∈ ls, l.length ≤ 10000) :
    Ev.Good Tryd.prog K 21 [.str b] (match cutL b with | none => .tup [ints [], .int .i64 140] | some ls => .tup [ints (pgTo ls ls.length).bad, .int .i64 0]) := by
  refine good_of_wp hK c21_ok (by simp) ?_
  have g44 := good44 hK hS b hb hl
  cases hcut : cutL b with
  | none =>
    rw [hcut] at g44
    simp [noPg] at g44 ⊢
    refine callK_of g44 (by simp) ?_
    simp
  | some ls =>
    rw [hcut] at g44
    simp only at g44 ⊢
    generalize pgTo ls ls.length = p at *
    simp [pgV] at g44 ⊢
    refine callK_of g44 (by simp) ?_
    simp

def lostR (p : Pg) : List Int × Int := match p.ends with
  | [] => ([], 142)
  | e :: es => (lostP p (maxL e es), 0)
def lostB (b : W) : List Int × Int := match cutL b with
  | none => ([], 140)
  | some ls => lostR (pgTo ls ls.length)

theorem good28 (hS : ∀ s : W, s.length ≤ 1000000 → Ev.Good Tryd.prog K 68 [.str s, .str [10]] (strs (spl s))) (b : W) (hb : b.length ≤ 100000) (hl : ∀ ls, cutL b = some ls → ls.length ≤ 100000 ∧ ∀ l ∈ ls, l.length ≤ 10000) :
    Ev.Good Tryd.prog K 28 [.str b] (.tup [ints (lostB b).1, .int .i64 (lostB b).2]) := by
  refine good_of_wp hK c28_ok (by simp) ?_
  have g44 := good44 hK hS b hb hl
  unfold lostB
  cases hcut : cutL b with
  | none =>
    rw [hcut] at g44
    simp [noPg] at g44 ⊢
    refine callK_of g44 (by simp) ?_
    simp
  | some ls =>
    rw [hcut] at g44
    simp only at g44 ⊢
    have hends := pg_ends ls ls.length
    generalize pgTo ls ls.length = p at *
    unfold lostR
    cases he : p.ends with
    | nil =>
      simp [pgV, he] at g44 ⊢
      refine callK_of g44 (by simp) ?_
      simp
    | cons e es =>
      have g51 := good51 hK e es
      have hM : 0 ≤ maxL e es ∧ maxL e es ≤ 40 := by
        rw [he] at hends
        have : ∀ (l : List Int) (a : Int), 0 ≤ a → a ≤ 40 → (∀ x ∈ l, 0 ≤ x ∧ x ≤ 40) → 0 ≤ maxL a l ∧ maxL a l ≤ 40 := by
          intro l
          induction l with
          | nil => intro a h1 h2 _; exact ⟨h1, h2⟩
          | cons x l ih =>
            intro a h1 h2 h
            have hx := h x (by simp)
            have := ih (if a < x then x else a) (by split <;> omega) (by split <;> omega) (fun y hy => h y (List.mem_cons_of_mem _ hy))
            simpa [maxL] using this
        exact this es e (hends e (by simp)).1 (hends e (by simp)).2 fun x hx => hends x (by simp [hx])
      generalize hMM : maxL e es = M at *
      obtain ⟨n, rfl⟩ : ∃ n : Nat, M = n := ⟨M.toNat, by omega⟩
      have g46 := good46 hK p n (by omega)
      have hze : ¬ ((es.length : Int) + 1 = 0) := by omega
      simp [pgV, he] at g44 g46 g51 ⊢
      refine callK_of g44 (by simp) ?_
      simp [hze]
      intro hel
      refine callK_of g51 (.inl rfl) ?_
      simp
      refine callK_of g46 (.inl rfl) ?_
      simp [hMM]

def joinB (a b : W) : List W × Int := if (cutL a).isSome && (cutL b).isSome then ((readB (a ++ b)).1, (readB (a ++ b)).2.2) else ([], 140)

theorem good26 (hS : ∀ s : W, s.length ≤ 1000000 → Ev.Good Tryd.prog K 68 [.str s, .str [10]] (strs (spl s))) (a b : W) (hb : a.length + b.length ≤ 100000) (hl : ∀ ls, cutL (a ++ b) = some ls → ls.length ≤ 100000 ∧ ∀ l ∈ ls, l.length ≤ 10000) :
    Ev.Good Tryd.prog K 26 [.str a, .str b] (.tup [strs (joinB a b).1, .int .i64 (joinB a b).2]) := by
  refine good_of_wp hK c26_ok (by simp) ?_
  have g19 := good19 hK hS (a ++ b) (by simp; omega) hl
  have ga := good50 hK hS a (by omega)
  have gb := good50 hK hS b (by omega)
  unfold joinB
  generalize readB (a ++ b) = R at *
  generalize cutL a = ca at *
  generalize cutL b = cb at *
  simp at g19 ga gb ⊢
  rw [LoopAt_enter c26_b0.eq_1]
  simp
  refine callK_of ga (.inl rfl) ?_
  cases ca with
  | none => simp
  | some la =>
    simp
    rw [LoopAt_enter c26_b0.eq_1]
    simp
    refine callK_of gb (.inl rfl) ?_
    cases cb with
    | none => simp
    | some lb =>
      simp
      rw [LoopAt_enter c26_b0.eq_1]
      simp
      refine ⟨by omega, callK_of g19 (.inl rfl) ?_⟩
      simp
end
end Go.Bk
