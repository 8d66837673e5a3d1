/- The contracts of what compares and counts. -/
import Derived.Test.YtjjfnbadmpffpaaDoorStands
import Derived.Test.YtjjfnbadmpffpaaDoorEvFour
set_option linter.all false

set_option maxRecDepth 8000
namespace Go.Bk
open Go Go.Ev Go.Proofs Go.RowKit

def total (l : List W) : Nat := (l.map fun s => s.length + 1).sum
def large (l : List W) : Bool := decide (5000 < total l)
def crowded (s : W) : Bool := decide (90 < s.count 10)

theorem total_take (l : List W) (i : Nat) (h : i < l.length) : total (l.take (i + 1)) = total (l.take i) + (l[i].length + 1) := by
  rw [List.take_succ_eq_append_getElem h]
  simp only [total, List.map_append, List.sum_append, List.map_cons, List.map_nil, List.sum_cons, List.sum_nil, Nat.add_zero]
theorem total_le (l : List W) (i : Nat) : total (l.take i) ≤ total l := by
  conv => rhs; rw [← List.take_append_drop i l]
  simp only [total, List.map_append, List.sum_append]
  omega

/-- A string's lines, and what is left behind the last line feed. -/
def lnStep (a : List W × W) (c : UInt8) : List W × W := if c = 10 then (a.1 ++ [a.2], []) else (a.1, a.2 ++ [c])
def lns (s : W) : List W × W := s.foldl lnStep ([], [])
theorem lns_snoc (s : W) (c : UInt8) : lns (s ++ [c]) = lnStep (lns s) c := by simp [lns]
theorem lns_take (s : W) (i : Nat) (h : i < s.length) : lns (s.take (i + 1)) = lnStep (lns (s.take i)) s[i] := by
  rw [List.take_succ_eq_append_getElem h, lns_snoc]
/-- What is left is the end of the string. -/
theorem lns_rest (s : W) : (lns s).2.length ≤ s.length ∧ s.drop (s.length - (lns s).2.length) = (lns s).2 := by
  have : ∀ (n : Nat) (s : W), s.length = n → (lns s).2.length ≤ s.length ∧ s.drop (s.length - (lns s).2.length) = (lns s).2 := by
    intro n
    induction n with
    | zero =>
      intro s h
      have : s = [] := List.eq_nil_of_length_eq_zero h
      subst this
      simp [lns]
    | succ n ih =>
      intro s h
      have hs : s = s.take n ++ [s[n]] := by
        have := List.take_succ_eq_append_getElem (l := s) (i := n) (by omega)
        rw [← this, List.take_of_length_le (by omega)]
      obtain ⟨h1, h2⟩ := ih (s.take n) (by simp; omega)
      have hl : (s.take n).length = n := by simp; omega
      rw [hl] at h1 h2
      generalize s[n] = c at hs
      generalize s.take n = t at *
      subst hs
      rw [lns_snoc]
      unfold lnStep
      split
      · simp
      · simp only [List.length_append, List.length_singleton]
        refine ⟨by omega, ?_⟩
        rw [hl, List.drop_append_of_le_length (by omega)]
        have : n + 1 - ((lns t).2.length + 1) = n - (lns t).2.length := by omega
        rw [this, h2]
  exact this _ s rfl
theorem lns_count (s : W) : (lns s).1.length = s.count 10 ∧ (lns s).1.length ≤ s.length := by
  have : ∀ (n : Nat) (s : W), s.length = n → (lns s).1.length = s.count 10 := by
    intro n
    induction n with
    | zero =>
      intro s h
      have : s = [] := List.eq_nil_of_length_eq_zero h
      subst this
      simp [lns]
    | succ n ih =>
      intro s h
      have hs : s = s.take n ++ [s[n]] := by
        have := List.take_succ_eq_append_getElem (l := s) (i := n) (by omega)
        rw [← this, List.take_of_length_le (by omega)]
      have h1 := ih (s.take n) (by simp; omega)
      generalize s[n] = c at hs
      generalize s.take n = t at *
      subst hs
      rw [lns_snoc, List.count_append]
      unfold lnStep
      split
      · rename_i hc; subst hc; simp [h1]
      · rename_i hc; simp [h1, hc]
  exact ⟨this _ s rfl, by rw [this _ s rfl]; exact List.count_le_length⟩
def cutL (b : W) : Option (List W) := if b.getLast? = some 10 then some (lns b).1 else none

/-- The first place where p holds; none: -1. -/
def ixOf {α : Type} (p : α → Bool) : List α → Nat → Int
  | [], _ => -1
  | a :: r, k => if p a then k else ixOf p r (k + 1)
theorem ixOf_any {α : Type} (p : α → Bool) : ∀ (l : List α) (k : Nat), decide (0 ≤ ixOf p l k) = l.any p
  | [], k => by simp [ixOf]
  | a :: r, k => by
    simp only [ixOf, List.any_cons]
    by_cases h : p a = true
    · simp [h]
    · have h' : p a = false := by simpa using h
      simp [h', ← ixOf_any p r (k + 1)]
theorem ixOf_le {α : Type} (p : α → Bool) : ∀ (l : List α) (k : Nat), ixOf p l k ≤ k + l.length ∧ -1 ≤ ixOf p l k
  | [], k => by simp [ixOf]
  | a :: r, k => by
    have := ixOf_le p r (k + 1)
    simp only [ixOf, List.length_cons]
    split <;> omega

theorem callee39 : callee Tryd.prog 39 = true := by
  unfold callee
  rw [Tryd.func39]
  rfl

section
variable {K : World → Prop} (hK : ∀ w w', K w → Below w.heap.size w w' → K w')
include hK

theorem good12 (l : List W) (h : ∀ s ∈ l, s.length ≤ 1000000000000000) : Ev.Good Tryd.prog K 12 [strs l] (.bool (large l)) := by
  refine good_of_wp hK c12_ok (by simp) ?_
  simp
  refine loop_up (fun i => [(0, AV.iv (strs l)), (3, AV.iv (IV.int IntKind.i64 (total (l.take i) : Nat))), (4, AV.iv (IV.int IntKind.i64 (i : Nat)))]) (fun _ => []) l.length ?_ ?_
  · rw [LoopAt_enter c12_b0.eq_1]
    simp [large]
    omega
  · intro i hi ih
    rw [LoopAt_enter c12_b0.eq_1]
    have e := total_take l i hi
    have hb := h l[i] (List.getElem_mem hi)
    have ht := total_le l i
    rw [e] at ih
    by_cases hc : total (l.take i) ≤ 5000
    · have hci : ((total (l.take i) : Nat) : Int) ≤ 5000 := by omega
      simp [hi, hci] at ih ⊢
      intro _
      have e3 : ((total (l.take i) : Nat) : Int) + ((l[i].length : Int) + 1) = (total (l.take i) : Int) + (l[i].length : Int) + 1 := by omega
      repeat' (first | omega | assumption | apply And.intro)
    · have hci : ¬ ((total (l.take i) : Nat) : Int) ≤ 5000 := by omega
      simp [hi, hci, large]
      omega

theorem good16 (l m : List W) : Ev.Good Tryd.prog K 16 [strs l, strs m] (.bool (decide (l = m))) := by
  refine good_of_wp hK c16_ok (by simp) ?_
  simp
  intro hl hm
  refine ⟨fun e c => e (by rw [c]), fun e => ?_⟩
  have e : l.length = m.length := by omega
  refine loop_q (fun i => [(0, AV.iv (strs l)), (1, AV.iv (strs m)), (5, AV.iv (IV.int IntKind.i64 (i : Nat)))]) (fun _ => []) l.length (fun i => l.take i = m.take i) (by simp) ?_ ?_
  · intro h
    rw [LoopAt_enter c16_b0.eq_1]
    simp at h ⊢
    intro _
    rw [e, List.take_length] at h
    exact h
  · intro i hi h ih
    have hi' : i < m.length := by omega
    rw [LoopAt_enter c16_b0.eq_1]
    simp [hi, hi'] at h ih ⊢
    intro _
    refine ⟨fun e c => e (by subst c; rfl), fun e => ⟨by omega, ih ?_⟩⟩
    rw [List.take_succ_eq_append_getElem hi, List.take_succ_eq_append_getElem hi', h, e]

theorem good22 (l m : List Int) : Ev.Good Tryd.prog K 22 [ints l, ints m] (.bool (decide (l = m))) := by
  refine good_of_wp hK c22_ok (by simp) ?_
  simp
  intro hl hm
  refine ⟨fun e c => e (by rw [c]), fun e => ?_⟩
  have e : l.length = m.length := by omega
  refine loop_q (fun i => [(0, AV.iv (ints l)), (1, AV.iv (ints m)), (5, AV.iv (IV.int IntKind.i64 (i : Nat)))]) (fun _ => []) l.length (fun i => l.take i = m.take i) (by simp) ?_ ?_
  · intro h
    rw [LoopAt_enter c22_b0.eq_1]
    simp at h ⊢
    intro _
    rw [e, List.take_length] at h
    exact h
  · intro i hi h ih
    have hi' : i < m.length := by omega
    rw [LoopAt_enter c22_b0.eq_1]
    simp [hi, hi'] at h ih ⊢
    intro _
    refine ⟨fun e c => e (by subst c; rfl), fun e => ⟨by omega, ih ?_⟩⟩
    rw [List.take_succ_eq_append_getElem hi, List.take_succ_eq_append_getElem hi', h, e]

theorem good31 (l : List Int) (n : Int) : Ev.Good Tryd.prog K 31 [ints l, .int .i64 n] (.bool (decide (n ∈ l))) := by
  refine good_of_wp hK c31_ok (by simp) ?_
  simp
  refine loop_q (fun i => [(0, AV.iv (ints l)), (1, AV.iv (IV.int IntKind.i64 n)), (5, AV.iv (IV.int IntKind.i64 (i : Nat)))]) (fun _ => []) l.length (fun i => n ∉ l.take i) (by simp) ?_ ?_
  · intro h
    rw [LoopAt_enter c31_b0.eq_1]
    simp at h ⊢
    exact fun _ => h
  · intro i hi h ih
    rw [LoopAt_enter c31_b0.eq_1]
    simp [hi] at h ih ⊢
    refine fun hl => ⟨fun e => e ▸ List.getElem_mem hi, fun e => ⟨by omega, ih ?_⟩⟩
    rw [List.take_succ_eq_append_getElem hi]
    simp only [List.mem_append, List.mem_singleton, not_or]
    exact ⟨h, fun c => e c.symm⟩

theorem good25 (s : W) (hs : s.length ≤ 1000000) : Ev.Good Tryd.prog K 25 [.str s] (.bool (crowded s)) := by
  refine good_of_wp hK c25_ok (by simp) ?_
  simp
  refine loop_up (fun i => [(0, AV.iv (.str s)), (3, AV.iv (IV.int IntKind.i64 ((s.take i).count 10 : Nat))), (4, AV.iv (IV.int IntKind.i64 (i : Nat)))]) (fun _ => []) s.length ?_ ?_
  · rw [LoopAt_enter c25_b0.eq_1]
    simp [crowded]
    omega
  · intro i hi ih
    rw [LoopAt_enter c25_b0.eq_1]
    have hle := List.count_le_length (a := (10 : UInt8)) (l := s.take i)
    rw [List.length_take] at hle
    have hne := u8_int s[i] 10
    rw [List.take_succ_eq_append_getElem hi, List.count_append] at ih
    by_cases hc : s[i] = 10
    · simp [hi, hc] at ih ⊢
      repeat' (first | omega | assumption | intro _ | apply And.intro)
    · have hc' : ¬ ((s[i].toNat : Int) = 10) := fun e => hc (UInt8.toNat_inj.1 (by have : (10 : UInt8).toNat = 10 := rfl; omega))
      simp [hi, hc, hc'] at ih ⊢
      repeat' (first | omega | assumption | intro _ | apply And.intro)

theorem good37 (l : List Int) : Ev.Good Tryd.prog K 37 [ints l] (.bool (decide (l.length ≤ 40))) := by
  refine good_of_wp hK c37_ok (by simp) ?_
  simp
  omega

def errT (l : List W) : Int := if 40 < l.length then 2 else if l.all tx then 0 else 1

theorem good42 (l : List W) (h : ∀ s ∈ l, s.length ≤ 1000000) : Ev.Good Tryd.prog K 42 [strs l] (.int .i64 (errT l)) := by
  refine good_of_wp hK c42_ok (by simp) ?_
  simp
  refine fun _ => ⟨fun h40 => ?_, fun h40 => ?_⟩
  · have : 40 < l.length := by omega
    simp [errT, this]
  · have hn : ¬ 40 < l.length := by omega
    refine loop_q (fun i => [(0, AV.iv (strs l)), (3, AV.iv (IV.int IntKind.i64 (i : Nat)))]) (fun _ => []) l.length (fun i => (l.take i).all tx = true) (by simp) ?_ ?_
    · intro hq
      rw [LoopAt_enter c42_b0.eq_1]
      rw [List.take_length] at hq
      simp [errT, hn, hq]
    · intro i hi hq ih
      rw [LoopAt_enter c42_b0.eq_1]
      simp [hi]
      intro _
      refine callK_of (good61 hK l[i] (h _ (List.getElem_mem hi))) (by simp) ?_
      by_cases hx : tx l[i] = true
      · have := ih (all_succ hi hq hx)
        simp [hx] at this ⊢
        exact ⟨by omega, this⟩
      · have hx' : tx l[i] = false := by simpa using hx
        have hall := not_all (p := tx) hi hx'
        simp [hx', errT, hn, hall]

theorem good24 (b : W) (hb : b.length ≤ 1000000) : Ev.Good Tryd.prog K 24 [.str b] (.tup [strs ((cutL b).getD []), .bool (cutL b).isSome]) := by
  refine good_of_wp hK c24_ok (by simp) ?_
  by_cases h0 : b.length = 0
  · have : b = [] := List.eq_nil_of_length_eq_zero h0
    subst this
    simp [cutL]
  · have hi0 : ¬ ((b.length : Int) = 0) := by omega
    have hlt : b.length - 1 < b.length := by omega
    have hne : b ≠ [] := fun e => h0 (by rw [e]; rfl)
    have hn : ((b.length : Int) - 1).toNat = b.length - 1 := by omega
    have hlast : b.getLast? = some b[b.length - 1] := by rw [List.getLast?_eq_getElem?, List.getElem?_eq_getElem hlt]
    by_cases hc : b[b.length - 1] = 10
    · have hci : ((b[b.length - 1].toNat : Int) = 10) := by rw [hc]; rfl
      have hcut : cutL b = some (lns b).1 := by unfold cutL; rw [hlast, hc]; rfl
      rw [hcut]
      simp [hne, hn, hlt, hci]
      refine ⟨by omega, by omega, ?_⟩
      refine loop_up (fun i => [(0, AV.iv (.str b)), (4, AV.aref 4 (lns (b.take i)).1.length), (5, AV.iv (.int .i64 ((i - (lns (b.take i)).2.length : Nat) : Int))), (6, AV.iv (.int .i64 (i : Nat)))]) (fun i => [(4, AO.arr 9 1 (emb ((lns (b.take i)).1.map fun s => [.str s])) 0)]) b.length ?_ ?_
      · rw [LoopAt_enter c24_b0.eq_1]
        simp
      · intro i hi ih
        rw [LoopAt_enter c24_b0.eq_1]
        have hst := lns_take b i hi
        obtain ⟨r1, r2⟩ := lns_rest (b.take i)
        obtain ⟨_, r3⟩ := lns_count (b.take i)
        have htl : (b.take i).length = i := by simp; omega
        rw [htl] at r1 r2 r3
        generalize lns (b.take i) = P at *
        obtain ⟨A, r⟩ := P
        simp only at r1 r2 r3
        rw [hst] at ih
        by_cases hbi : b[i] = 10
        · have hbii : ((b[i].toNat : Int) = 10) := by rw [hbi]; rfl
          have e : lnStep (A, r) b[i] = (A ++ [r], []) := by simp [lnStep, hbi]
          rw [e] at ih
          simp [hi, hbii, r2] at ih ⊢
          repeat' (first | omega | assumption | apply And.intro)
        · have hbii : ¬ ((b[i].toNat : Int) = 10) := fun e => hbi (UInt8.toNat_inj.1 (by have : (10 : UInt8).toNat = 10 := rfl; omega))
          have e : lnStep (A, r) b[i] = (A, r ++ [b[i]]) := by simp [lnStep, hbi]
          rw [e] at ih
          have e5 : i + 1 - (r.length + 1) = i - r.length := by omega
          simp [hi, hbii, e5] at ih ⊢
          repeat' (first | omega | assumption | apply And.intro)
    · have hci : ¬ ((b[b.length - 1].toNat : Int) = 10) := fun e => hc (UInt8.toNat_inj.1 (by have : (10 : UInt8).toNat = 10 := rfl; omega))
      have hcut : cutL b = none := by
        unfold cutL
        rw [hlast, if_neg]
        intro e
        injection e with e
        exact hc e
      rw [hcut]
      simp [hne, hn, hlt, hci]
      omega

theorem good81 (s t : W) (hs : s.length ≤ 1000000) (ht : t.length ≤ 1000000) : Ev.Good Tryd.prog K 81 [.str s, .str t] (.bool (decide (t.length ≤ s.length) && decide (s.drop (s.length - t.length) = t))) := by
  refine good_of_wp hK c81_ok (by simp) ?_
  by_cases h : t.length ≤ s.length
  · have hi : (t.length : Int) ≤ s.length := by omega
    have hn : ((s.length : Int) - (t.length : Int)).toNat = s.length - t.length := by omega
    have hx : s.take s.length = s := List.take_length
    simp [hi, h, hn]
    repeat' (first | omega | apply And.intro)
  · have hi : ¬ (t.length : Int) ≤ s.length := by omega
    simp [hi, h]

theorem good77 (s : W) (hs : s.length ≤ 1000000) : Ev.Good Tryd.prog K 77 [.str s, .str [10]] (.tup [.str (if s.getLast? = some 10 then s.dropLast else s), .bool (decide (s.getLast? = some 10))]) := by
  refine good_of_wp hK c77_ok (by simp) ?_
  simp
  refine callK_of (good81 hK s [10] hs (by simp)) (by simp) ?_
  rcases List.eq_nil_or_concat s with rfl | ⟨t, c, rfl⟩
  · simp
  · have hn : (((t.length : Int) + 1 - 1)).toNat = t.length := by omega
    by_cases hc : c = 10
    · simp [hc]
      simp at hs
      omega
    · simp [hc]

theorem good67 (s : W) (hs : s.length ≤ 1000000) : Ev.Good Tryd.prog K 67 [.str s, .str [10]] (.tup [.str (if s.getLast? = some 10 then s.dropLast else s), .bool (decide (s.getLast? = some 10))]) := by
  refine good_of_wp hK c67_ok (by simp) ?_
  simp
  refine callK_of (good77 hK s hs) (by simp) ?_
  simp

theorem good79 (l : List Int) (n : Int) : Ev.Good Tryd.prog K 79 [ints l, .int .i64 n] (.int .i64 (ixOf (· == n) l 0)) := by
  refine good_of_wp hK c79_ok (by simp) ?_
  generalize hR : ixOf (· == n) l 0 = R
  simp
  intro hl
  refine loop_q (fun i => [(0, AV.iv (ints l)), (1, AV.iv (.int .i64 n)), (7, AV.iv (.int .i64 (l.length : Nat))), (8, AV.iv (.int .i64 (i : Nat)))]) (fun _ => []) l.length (fun i => ixOf (· == n) (l.drop i) i = R) (by simpa using hR) ?_ ?_
  · intro hq
    rw [LoopAt_enter c79_b0.eq_1]
    rw [List.drop_length] at hq
    simp [← hq, ixOf]
  · intro i hi hq ih
    rw [LoopAt_enter c79_b0.eq_1]
    rw [List.drop_eq_getElem_cons hi] at hq
    by_cases hc : n = l[i]
    · have : R = i := by rw [← hq]; simp [ixOf, hc]
      subst this
      simp [hi, hc]
    · have hc' : ¬ l[i] = n := fun e => hc e.symm
      have := ih (by rw [← hq]; simp [ixOf, hc'])
      simp [hi, hc] at this ⊢
      exact ⟨by omega, this⟩

theorem good80 (l : List W) (n : W) : Ev.Good Tryd.prog K 80 [strs l, .str n] (.int .i64 (ixOf (· == n) l 0)) := by
  refine good_of_wp hK c80_ok (by simp) ?_
  generalize hR : ixOf (· == n) l 0 = R
  simp
  intro hl
  refine loop_q (fun i => [(0, AV.iv (strs l)), (1, AV.iv (.str n)), (7, AV.iv (.int .i64 (l.length : Nat))), (8, AV.iv (.int .i64 (i : Nat)))]) (fun _ => []) l.length (fun i => ixOf (· == n) (l.drop i) i = R) (by simpa using hR) ?_ ?_
  · intro hq
    rw [LoopAt_enter c80_b0.eq_1]
    rw [List.drop_length] at hq
    simp [← hq, ixOf]
  · intro i hi hq ih
    rw [LoopAt_enter c80_b0.eq_1]
    rw [List.drop_eq_getElem_cons hi] at hq
    by_cases hc : n = l[i]
    · have : R = i := by rw [← hq]; simp [ixOf, hc]
      subst this
      simp [hi, hc]
    · have hc' : ¬ l[i] = n := fun e => hc e.symm
      have := ih (by rw [← hq]; simp [ixOf, hc'])
      simp [hi, hc] at this ⊢
      exact ⟨by omega, this⟩

theorem good75 (l : List Int) (n : Int) : Ev.Good Tryd.prog K 75 [ints l, .int .i64 n] (.bool (l.any (· == n))) := by
  refine good_of_wp hK c75_ok (by simp) ?_
  have g := good79 hK l n
  rw [← ixOf_any _ l 0]
  generalize ixOf (· == n) l 0 = R at *
  simp at g ⊢
  refine callK_of g (by simp) ?_
  simp

theorem good76 (l : List W) (n : W) : Ev.Good Tryd.prog K 76 [strs l, .str n] (.bool (l.any (· == n))) := by
  refine good_of_wp hK c76_ok (by simp) ?_
  have g := good80 hK l n
  rw [← ixOf_any _ l 0]
  generalize ixOf (· == n) l 0 = R at *
  simp at g ⊢
  refine callK_of g (by simp) ?_
  simp

theorem good39 (s : W) (hs : s.length ≤ 1000000) : Ev.Good Tryd.prog K 39 [.str s] (.bool (!tx s)) := by
  refine good_of_wp hK c39_ok (by simp) ?_
  simp
  refine callK_of (good40 hK s hs) (by simp) ?_
  simp

theorem good57 (l : List W) (h : ∀ s ∈ l, s.length ≤ 1000000) : Ev.Good Tryd.prog K 57 [strs l, .fn 39] (.int .i64 (ixOf (fun s => !tx s) l 0)) := by
  refine good_of_wp hK c57_ok (by simp) ?_
  generalize hR : ixOf (fun s => !tx s) l 0 = R
  simp
  intro hl
  refine loop_q (fun i => [(0, AV.iv (strs l)), (1, AV.iv (.fn 39)), (7, AV.iv (.int .i64 (l.length : Nat))), (8, AV.iv (.int .i64 (i : Nat)))]) (fun _ => []) l.length (fun i => ixOf (fun s => !tx s) (l.drop i) i = R) (by simpa using hR) ?_ ?_
  · intro hq
    rw [LoopAt_enter c57_b0.eq_1]
    rw [List.drop_length] at hq
    simp [← hq, ixOf]
  · intro i hi hq ih
    rw [LoopAt_enter c57_b0.eq_1]
    rw [List.drop_eq_getElem_cons hi] at hq
    simp [hi]
    refine ⟨callee39, callK_of (good39 hK l[i] (h _ (List.getElem_mem hi))) (by simp) ?_⟩
    by_cases hx : tx l[i] = true
    · have := ih (by rw [← hq]; simp [ixOf, hx])
      simp [hx] at this ⊢
      exact ⟨by omega, this⟩
    · have hx' : tx l[i] = false := by simpa using hx
      have : R = i := by rw [← hq]; simp [ixOf, hx']
      subst this
      simp [hx']

theorem good38 (l : List W) (h : ∀ s ∈ l, s.length ≤ 1000000) : Ev.Good Tryd.prog K 38 [strs l, .fn 39] (.bool (!l.all tx)) := by
  refine good_of_wp hK c38_ok (by simp) ?_
  have g := good57 hK l h
  have e2 : (!l.all tx) = l.any fun s => !tx s := List.not_all_eq_any_not
  rw [e2, ← ixOf_any _ l 0]
  generalize ixOf (fun s => !tx s) l 0 = R at *
  simp at g ⊢
  refine callK_of g (by simp) ?_
  simp
end
end Go.Bk

/- The cut into lines, and rows that are handed through a call. -/
set_option maxRecDepth 8000
namespace Go.Bk
open Go Go.Ev Go.Proofs Go.RowKit

def spl : W → List W
  | [] => [[]]
  | c :: s => if c = 10 then [] :: spl s else (c :: (spl s).headD []) :: (spl s).tail

theorem spl_ne (s : W) : spl s ≠ [] := by
  cases s with
  | nil => simp [spl]
  | cons c s => unfold spl; split <;> simp

theorem lns_fold (s : W) : ∀ (A : List W) (r : W), (s.foldl lnStep (A, r)).1 ++ [(s.foldl lnStep (A, r)).2] = A ++ (r ++ (spl s).headD []) :: (spl s).tail := by
  induction s with
  | nil => intro A r; simp [spl]
  | cons c s ih =>
    intro A r
    rw [List.foldl_cons]
    by_cases hc : c = 10
    · have e : lnStep (A, r) c = (A ++ [r], []) := by simp [lnStep, hc]
      have e2 : spl (c :: s) = [] :: spl s := by simp [spl, hc]
      rw [e, e2, ih]
      have := spl_ne s
      cases h : spl s with
      | nil => exact absurd h this
      | cons a l => simp
    · have e : lnStep (A, r) c = (A, r ++ [c]) := by simp [lnStep, hc]
      have e2 : spl (c :: s) = (c :: (spl s).headD []) :: (spl s).tail := by simp [spl, hc]
      rw [e, e2, ih]
      simp
theorem lns_spl (s : W) : (lns s).1 ++ [(lns s).2] = spl s := by
  unfold lns
  rw [lns_fold]
  have := spl_ne s
  cases h : spl s with
  | nil => exact absurd h this
  | cons a l => simp

theorem cut_spl (t : W) : (lns (t ++ [10])).1 = spl t := by
  rw [lns_snoc, ← lns_spl]
  simp [lnStep]

section
variable {K : World → Prop} (hK : ∀ w w', K w → Below w.heap.size w w' → K w')
include hK

theorem good50 (hS : ∀ s : W, s.length ≤ 1000000 → Ev.Good Tryd.prog K 68 [.str s, .str [10]] (strs (spl s))) (b : W) (hb : b.length ≤ 1000000) : Ev.Good Tryd.prog K 50 [.str b] (.tup [strs ((cutL b).getD []), .bool (cutL b).isSome]) := by
  refine good_of_wp hK c50_ok (by simp) ?_
  simp
  refine callK_of (good67 hK b hb) (by simp) ?_
  rcases List.eq_nil_or_concat b with rfl | ⟨t, c, rfl⟩
  · simp [cutL]
  · by_cases hc : c = 10
    · have e : cutL (t ++ [c]) = some (spl t) := by unfold cutL; rw [hc, cut_spl]; simp
      simp at hb
      have hS' := hS t (by omega)
      simp [hc] at hS' e ⊢
      refine callK_of hS' (by simp) ?_
      simp [e]
    · have e : cutL (t ++ [c]) = none := by unfold cutL; simp [hc]
      simp [hc] at e ⊢
      simp [e]

/-- A row with one more, if it is not one of them. -/
def withX {α : Type} [BEq α] (l : List α) (x : α) : List α := if l.any (· == x) then l else l ++ [x]

theorem goodr63 (l : List Int) (x : Int) (hl : l.length ≤ 1000000) : GoodR Tryd.prog K 63 3 1 (l.map fun n => [.int .i64 n]) [.int .i64 x] ((withX l x).map fun n => [.int .i64 n]) := by
  unfold withX
  cases h : l.any (· == x) with
  | true =>
    refine goodr_same fun v0 => ?_
    have hK' := KRow.stay (sz := 1) (rows := l.map fun n => [.int .i64 n]) (v0 := v0) hK
    refine good_of_wp hK' c63_ok (by simp) ?_
    have g := Ev.good_row (v0 := v0) (good75 hK l x) rfl
    rw [h] at g
    simp
    refine callK_of g (by simp [scalar]) ?_
    simp
  | false =>
    refine goodr_of_wp 4 c63_ok (by simp) rfl (by simp) ?_
    have g := good75 hK l x
    rw [h] at g
    rw [rowO_emb]
    simp
    refine callK_of g (by simp [scalar]) ?_
    simp
    refine ⟨⟨by omega, by omega⟩, by simp, rfl, rfl, rfl⟩

theorem goodr64 (l : List W) (x : W) (hl : l.length ≤ 1000000) : GoodR Tryd.prog K 64 9 1 (l.map fun n => [.str n]) [.str x] ((withX l x).map fun n => [.str n]) := by
  unfold withX
  cases h : l.any (· == x) with
  | true =>
    refine goodr_same fun v0 => ?_
    have hK' := KRow.stay (sz := 1) (rows := l.map fun n => [.str n]) (v0 := v0) hK
    refine good_of_wp hK' c64_ok (by simp) ?_
    have g := Ev.good_row (v0 := v0) (good76 hK l x) rfl
    rw [h] at g
    simp
    refine callK_of g (by simp [scalar]) ?_
    simp
  | false =>
    refine goodr_of_wp 4 c64_ok (by simp) rfl (by simp) ?_
    have g := good76 hK l x
    rw [h] at g
    rw [rowO_emb]
    simp
    refine callK_of g (by simp [scalar]) ?_
    simp
    refine ⟨⟨by omega, by omega⟩, by simp, rfl, rfl, rfl⟩

end
end Go.Bk
