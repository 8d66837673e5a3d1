/- Lines that are harmed. -/
import Derived.Test.YtjjfnbadmpffpaaDoorLaws
import Derived.Test.YtjjfnbadmpffpaaDoorHarm
set_option linter.all false

set_option maxRecDepth 8000
namespace Go.Bk
open Go Go.Ev Go.Proofs Go.RowKit

abbrev Hm := Int × Int × UInt8
abbrev Hs := List W × List Int × List Int
def hCh (l : W) (x : Hm) : W := l.take x.2.1.toNat ++ [x.2.2] ++ l.drop (x.2.1.toNat + 1)
def hSkip (s : Hs) (x : Hm) : Bool := decide (x.1 < 0) || decide ((s.1.length : Int) ≤ x.1) || decide (0 < s.2.2.getD x.1.toNat 0)
def hHit (s : Hs) (x : Hm) : Bool := decide (x.2.1 < ((s.1.getD x.1.toNat []).length : Int)) && decide (x.2.2 ≠ 10) && decide (x.2.2 ≠ (s.1.getD x.1.toNat []).getD x.2.1.toNat 0)
def hStep (s : Hs) (x : Hm) : Hs :=
  if hSkip s x then s
  else if x.2.1 < 0 then (s.1.set x.1.toNat [], s.2.1.set x.1.toNat (s.2.1.getD x.1.toNat 0 + 1), s.2.2.set x.1.toNat (s.2.2.getD x.1.toNat 0 + 1))
  else if hHit s x then (s.1.set x.1.toNat (hCh (s.1.getD x.1.toNat []) x), s.2.1.set x.1.toNat (s.2.1.getD x.1.toNat 0 + 1), s.2.2)
  else s
def hTo (all : List W) (hs : List Hm) (i : Nat) : Hs := (hs.take i).foldl hStep (all, List.replicate all.length 0, List.replicate all.length 0)
theorem hTo_succ (all : List W) (hs : List Hm) (i : Nat) (h : i < hs.length) : hTo all hs (i + 1) = hStep (hTo all hs i) hs[i] := by
  unfold hTo
  rw [List.take_succ_eq_append_getElem h]
  simp only [List.foldl_append, List.foldl_cons, List.foldl_nil]

theorem getD_set {α : Type} {l : List α} {i : Nat} (j : Nat) (a d : α) (h : i < l.length) : (l.set i a).getD j d = if i = j then a else l.getD j d := by
  simp only [List.getD_eq_getElem?_getD, List.getElem?_set]
  by_cases e : i = j
  · subst e; simp [h]
  · simp [e]

structure HInv (all : List W) (s : Hs) (n : Nat) : Prop where
  l1 : s.1.length = all.length
  l2 : s.2.1.length = all.length
  l3 : s.2.2.length = all.length
  b : ∀ i : Nat, 0 ≤ s.2.2.getD i 0 ∧ s.2.2.getD i 0 ≤ s.2.1.getD i 0 ∧ s.2.1.getD i 0 ≤ n
  z : ∀ i : Nat, s.2.1.getD i 0 = 0 → s.1.getD i [] = all.getD i []
  le : ∀ i : Nat, (s.1.getD i []).length ≤ (all.getD i []).length
  o : ∀ i : Nat, s.2.2.getD i 0 = 0 → (s.1.getD i []).length = (all.getD i []).length ∧ (diff (s.1.getD i []) (all.getD i []) : Int) ≤ s.2.1.getD i 0 ∧ ((10 : UInt8) ∉ all.getD i [] → (10 : UInt8) ∉ s.1.getD i []) ∧ (s.2.1.getD i 0 = 1 → s.1.getD i [] ≠ all.getD i [])

theorem hCh_len {l : W} {x : Hm} (h0 : 0 ≤ x.2.1) (h : x.2.1 < (l.length : Int)) : (hCh l x).length = l.length := by
  simp only [hCh, List.length_append, List.length_take, List.length_drop, List.length_singleton]
  omega
theorem hCh_diff {l : W} {x : Hm} (h0 : 0 ≤ x.2.1) (h : x.2.1 < (l.length : Int)) (hne : x.2.2 ≠ l.getD x.2.1.toNat 0) : diff (hCh l x) l = 1 := by
  have hlt : x.2.1.toNat < l.length := by omega
  have e : l = l.take x.2.1.toNat ++ ([l[x.2.1.toNat]] ++ l.drop (x.2.1.toNat + 1)) := by simp
  have hg : l.getD x.2.1.toNat 0 = l[x.2.1.toNat] := by simp [hlt]
  rw [hg] at hne
  have e2 : hCh l x = l.take x.2.1.toNat ++ ([x.2.2] ++ l.drop (x.2.1.toNat + 1)) := by simp [hCh]
  rw [e2]
  conv => lhs; arg 2; rw [e]
  rw [diff_app _ _ _ _ rfl, diff_self, diff_app [x.2.2] [l[x.2.1.toNat]] _ _ rfl, diff_self]
  simp [diff, hne]
theorem hCh_nl {l : W} {x : Hm} (h : x.2.2 ≠ 10) (hl : (10 : UInt8) ∉ l) : (10 : UInt8) ∉ hCh l x := by
  intro hc
  simp only [hCh, List.mem_append, List.mem_singleton] at hc
  rcases hc with (hc | hc) | hc
  · exact hl (List.mem_of_mem_take hc)
  · exact h hc.symm
  · exact hl (List.mem_of_mem_drop hc)

theorem inv_h0 (all : List W) : HInv all (all, List.replicate all.length 0, List.replicate all.length 0) 0 := by
  have e : ∀ i : Nat, (List.replicate all.length (0 : Int)).getD i 0 = 0 := by
    intro i
    simp only [List.getD_eq_getElem?_getD, List.getElem?_replicate]
    split <;> rfl
  refine ⟨rfl, by simp, by simp, fun i => by simp only [e]; omega, fun i _ => rfl, fun i => Nat.le_refl _, fun i _ => ⟨rfl, by simp only [e, diff_self]; omega, id, ?_⟩⟩
  simp only [e]
  omega

theorem inv_hs {all : List W} {s : Hs} {n : Nat} (h : HInv all s n) (x : Hm) : HInv all (hStep s x) (n + 1) := by
  have hsame : HInv all s (n + 1) := ⟨h.l1, h.l2, h.l3, fun i => by have := h.b i; omega, h.z, h.le, h.o⟩
  unfold hStep
  split
  · exact hsame
  · rename_i hsk
    have hsk' : hSkip s x = false := by simpa using hsk
    simp only [hSkip, Bool.or_eq_false_iff, decide_eq_false_iff_not] at hsk'
    obtain ⟨⟨k1, k2⟩, k3⟩ := hsk'
    generalize hi : x.1.toNat = i at *
    have hil : i < s.1.length := by omega
    have hil2 : i < s.2.1.length := by rw [h.l2, ← h.l1]; exact hil
    have hil3 : i < s.2.2.length := by rw [h.l3, ← h.l1]; exact hil
    have hb := h.b i
    split
    · refine ⟨by simp [h.l1], by simp [h.l2], by simp [h.l3], fun j => ?_, fun j => ?_, fun j => ?_, fun j => ?_⟩
      · have := h.b j
        simp only [getD_set j _ _ hil2, getD_set j _ _ hil3]
        split <;> omega
      · simp only [getD_set j _ _ hil2, getD_set j _ _ hil]
        split
        · intro; omega
        · exact h.z j
      · simp only [getD_set j _ _ hil]
        split
        · simp
        · exact h.le j
      · simp only [getD_set j _ _ hil2, getD_set j _ _ hil, getD_set j _ _ hil3]
        split
        · intro; omega
        · exact h.o j
    · split
      · rename_i hneg hh
        simp only [hHit, Bool.and_eq_true, decide_eq_true_eq] at hh
        rw [hi] at hh
        obtain ⟨⟨q1, q2⟩, q3⟩ := hh
        have hl := hCh_len (l := s.1.getD i []) (x := x) (by omega) q1
        have hd := hCh_diff (l := s.1.getD i []) (x := x) (by omega) q1 q3
        have hlost : s.2.2.getD i 0 = 0 := by omega
        obtain ⟨o1, o2, o3, o4⟩ := h.o i hlost
        refine ⟨by simp [h.l1], by simp [h.l2], h.l3, fun j => ?_, fun j => ?_, fun j => ?_, fun j => ?_⟩
        · have := h.b j
          simp only [getD_set j _ _ hil2]
          split
          · rename_i e; subst e; omega
          · omega
        · simp only [getD_set j _ _ hil2, getD_set j _ _ hil]
          split
          · intro; omega
          · exact h.z j
        · simp only [getD_set j _ _ hil]
          split
          · rename_i e; subst e; omega
          · exact h.le j
        · simp only [getD_set j _ _ hil2, getD_set j _ _ hil]
          split
          · rename_i e
            subst e
            intro _
            have ht := diff_tri (hCh (s.1.getD i []) x) (s.1.getD i []) (all.getD i []) hl o1
            refine ⟨by omega, by omega, fun hn => hCh_nl q2 (o3 hn), fun h1 e => ?_⟩
            have hz := h.z i (by omega)
            rw [hz] at hd
            rw [hz] at e
            rw [e, diff_self] at hd
            omega
          · exact h.o j
      · exact hsame
theorem inv_hTo (all : List W) (hs : List Hm) : ∀ i, i ≤ hs.length → HInv all (hTo all hs i) i
  | 0, _ => inv_h0 all
  | i + 1, h => by
    rw [hTo_succ all hs i h]
    exact inv_hs (inv_hTo all hs i (by omega)) _

theorem total_of_le : ∀ (a b : List W), a.length = b.length → (∀ i : Nat, (a.getD i []).length ≤ (b.getD i []).length) → total a ≤ total b
  | [], [], _, _ => Nat.le_refl _
  | x :: a, y :: b, hl, h => by
    have h0 := h 0
    have := total_of_le a b (by simpa using hl) (fun i => by have := h (i + 1); simpa using this)
    simp only [total, List.map_cons, List.sum_cons] at *
    simp at h0
    omega
  | [], y :: b, hl, _ => by simp at hl
  | x :: a, [], hl, _ => by simp at hl

theorem bkL_getD (T : List W) (i : Nat) (h : i ≤ T.length) : (bkL T).getD i [] = bkN T i := by
  rw [List.getD_eq_getElem?_getD, bkL_get T i (by omega)]
  rfl

/-- A line of a book that is harmed once at most, and not lost, is near to it. -/
theorem harm_near {T : List W} {s : Hs} {n : Nat} (h : HInv (bkL T) s n) {i : Nat} (hi : i ≤ T.length) (hl : s.2.2.getD i 0 = 0) (hm : s.2.1.getD i 0 ≤ 1) : Near T i (s.1.getD i []) := by
  obtain ⟨o1, o2, _, _⟩ := h.o i hl
  rw [bkL_getD T i hi] at o1 o2
  exact ⟨o1, by omega⟩
theorem mem_jnL {lines : List W} {lost : List Int} {n : Nat} {l : W} : l ∈ jnL lines lost n ↔ ∃ k, k < n ∧ lost.getD k 0 = 0 ∧ lines.getD k [] = l := by
  simp only [jnL, List.mem_map, List.mem_filter, List.mem_range, decide_eq_true_eq]
  constructor
  · rintro ⟨k, ⟨h1, h2⟩, h3⟩; exact ⟨k, h1, h2, h3⟩
  · rintro ⟨k, h1, h2, h3⟩; exact ⟨k, ⟨h1, h2⟩, h3⟩

/-- What is left of a book. -/
structure Left (T : List W) (s : Hs) (n : Nat) : Prop where
  inv : HInv (bkL T) s n
  once : ∀ i, i ≤ T.length → s.2.1.getD i 0 ≤ 1

def leftL (s : Hs) : List W := jnL s.1 s.2.2 s.1.length
theorem left_len {T : List W} {s : Hs} {n : Nat} (h : Left T s n) : s.1.length = T.length + 1 := by rw [h.inv.l1, bkL_len]
theorem left_near {T : List W} {s : Hs} {n : Nat} (h : Left T s n) : ∀ l ∈ leftL s, ∃ i, i ≤ T.length ∧ Near T i l ∧ s.2.2.getD i 0 = 0 ∧ s.1.getD i [] = l := by
  intro l hl
  obtain ⟨k, h1, h2, h3⟩ := mem_jnL.1 hl
  rw [left_len h] at h1
  refine ⟨k, by omega, ?_, h2, h3⟩
  rw [← h3]
  exact harm_near h.inv (by omega) h2 (h.once k (by omega))
theorem left_mem {T : List W} {s : Hs} {n : Nat} (h : Left T s n) {i : Nat} (hi : i ≤ T.length) : s.1.getD i [] ∈ leftL s ∧ Near T i (s.1.getD i []) ↔ s.2.2.getD i 0 = 0 ∨ (s.1.getD i [] ∈ leftL s ∧ Near T i (s.1.getD i [])) := by
  constructor
  · exact .inr
  · rintro (h0 | h0)
    · exact ⟨mem_jnL.2 ⟨i, by rw [left_len h]; omega, h0, rfl⟩, harm_near h.inv hi h0 (h.once i hi)⟩
    · exact h0
theorem near_eq {T : List W} (hT : Texts T) {i j : Nat} {l : W} (hi : i ≤ T.length) (hj : j ≤ T.length) (h : Near T i l) (h' : Near T j l) : i = j := by
  have e1 := (near_rd hT h).1
  have e2 := (near_rd hT h').1
  rw [e1] at e2
  injection e2 with e2
  exact bkP_inj hi hj e2
theorem left_each {T : List W} {s : Hs} {n : Nat} (h : Left T s n) : ∀ l ∈ leftL s, rd l = none ∨ ∃ i, i ≤ T.length ∧ Near T i l := by
  intro l hl
  obtain ⟨i, h1, h2, _⟩ := left_near h l hl
  exact .inr ⟨i, h1, h2⟩
theorem left_found {T : List W} (hT : Texts T) {s : Hs} {n : Nat} (h : Left T s n) {i : Nat} (hi : i < T.length) : foundB (leftL s) T i = decide (s.2.2.getD i 0 = 0) := by
  rw [Bool.eq_iff_iff, found_near hT (left_each h) hi, decide_eq_true_eq]
  constructor
  · rintro ⟨l, hl, hn⟩
    obtain ⟨k, h1, h2, h3, _⟩ := left_near h l hl
    have := near_eq hT (by omega) h1 hn h2
    subst this
    exact h3
  · intro h0
    have := (left_mem h (show i ≤ T.length by omega)).2 (.inl h0)
    exact ⟨_, this.1, this.2⟩
theorem left_right {T : List W} (hT : Texts T) {s : Hs} {n : Nat} (h : Left T s n) {i : Nat} (hi : i < T.length) : rightB (leftL s) T i = (decide (s.2.2.getD i 0 = 0) && decide (s.2.1.getD i 0 = 0)) := by
  rw [Bool.eq_iff_iff, right_near hT (left_each h) hi, Bool.and_eq_true, decide_eq_true_eq, decide_eq_true_eq]
  constructor
  · intro hl
    obtain ⟨k, h1, h2, h3, h4⟩ := left_near h _ hl
    have := near_eq hT (by omega) h1 (near_self T i) h2
    subst this
    refine ⟨h3, ?_⟩
    have h5 := h.once i h1
    have h6 := h.inv.b i
    obtain ⟨_, _, _, o4⟩ := h.inv.o i h3
    rw [bkL_getD T i h1] at o4
    rcases (show s.2.1.getD i 0 = 0 ∨ s.2.1.getD i 0 = 1 by omega) with h7 | h7
    · exact h7
    · exact absurd h4 (o4 h7)
  · rintro ⟨h0, h1⟩
    have hz := h.inv.z i h1
    rw [bkL_getD T i (by omega)] at hz
    exact mem_jnL.2 ⟨i, by rw [left_len h]; omega, h0, hz⟩
theorem left_nl {T : List W} (hT : Texts T) {s : Hs} {n : Nat} (h : Left T s n) : ∀ l ∈ leftL s, (10 : UInt8) ∉ l := by
  intro l hl
  obtain ⟨i, h1, _, h3, h4⟩ := left_near h l hl
  obtain ⟨_, _, o3, _⟩ := h.inv.o i h3
  rw [← h4]
  apply o3
  rw [bkL_getD T i h1]
  exact plain_nl (bkN_plain hT i)
theorem left_total {T : List W} {s : Hs} {n : Nat} (h : Left T s n) : total s.1 ≤ (wrB T).length := by
  rw [wrB_jn, jn_len]
  exact total_of_le _ _ h.inv.l1 h.inv.le
theorem left_jn {T : List W} {s : Hs} {n : Nat} (h : Left T s n) : (jn (leftL s)).length ≤ (wrB T).length := by
  rw [jn_len]
  have := jnL_total s.1 s.2.2 s.1.length (Nat.le_refl _)
  rw [List.take_length] at this
  have := left_total h
  unfold leftL
  omega
theorem left_cut {T : List W} (hT : Texts T) {s : Hs} {n : Nat} (h : Left T s n) (hne : leftL s ≠ []) : cutL (jn (leftL s)) = some (leftL s) := cut_jn _ hne (left_nl hT h)
theorem left_bad {T : List W} (hT : Texts T) {s : Hs} {n : Nat} (h : Left T s n) : (pgTo (leftL s) (leftL s).length).bad = [] := bad_all fun l hl => by
  obtain ⟨i, _, h2, _⟩ := left_near h l hl
  rw [(near_rd hT h2).1]
  simp

theorem txSet (L : List W) (i : Nat) (x : W) : txE (L.set i x) = (txE L).set i [.str x] := by simp [txE, List.map_set]
theorem inSet (L : List Int) (i : Nat) (x : Int) : inE (L.set i x) = (inE L).set i [.int .i64 x] := by simp [inE, List.map_set]
end Go.Bk

/- The contract of what harms lines. -/
set_option maxRecDepth 8000
namespace Go.Bk
open Go Go.Ev Go.Proofs Go.RowKit

section
variable {K : World → Prop} (hK : ∀ w w', K w → Below w.heap.size w w' → K w')
include hK

def hmR (b : W) (hs : List Hm) : IV := match cutL b with
  | none => .tup [strs [], ints [], ints [], .bool false]
  | some ls => if 200 < hs.length then .tup [strs [], ints [], ints [], .bool false] else .tup [strs (hTo ls hs hs.length).1, ints (hTo ls hs hs.length).2.1, ints (hTo ls hs hs.length).2.2, .bool true]

theorem good18 (b : W) (hs : List Hm) (hb : b.length ≤ 9000) : Ev.Good Tryd.prog K 18 [.str b, harms hs] (hmR b hs) := by
  refine good_of_wp hK c18_ok (by simp) ?_
  have g24 := good24 hK b (by omega)
  unfold hmR
  cases hc : cutL b with
  | none =>
    rw [hc] at g24
    simp at g24 ⊢
    refine callK_of g24 (by simp) ?_
    simp
  | some ls =>
    rw [hc] at g24
    obtain ⟨hl1, hl2⟩ := cut_bound b hb ls hc
    by_cases h200 : 200 < hs.length
    · have hi : (200 : Int) < (hs.length : Int) := by omega
      simp [h200] at g24 ⊢
      refine callK_of g24 (by simp) ?_
      simp [hi]
    · have hi : ¬ (200 : Int) < (hs.length : Int) := by omega
      simp [h200] at g24 ⊢
      refine callK_of g24 (by simp) ?_
      simp [hi]
      have e0 : List.map (scrL [24, 29, 32] ∘ List.map AV.iv ∘ fun s => [IV.str s]) ls = emb (txE ls) := by
        simp only [emb, txE, List.map_map]
        apply List.map_congr_left
        intro t _
        simp [scrL, scr]
      have e1 : List.replicate ls.length [AV.iv (IV.int IntKind.i64 0)] = emb (inE (List.replicate ls.length 0)) := by simp [emb, inE]
      rw [e0, e1]
      refine fun _ => ⟨⟨by omega, by omega⟩, fun _ => ⟨⟨by omega, by omega⟩, fun _ => ⟨⟨by omega, by omega⟩, ?_⟩⟩⟩
      refine loop_i hs.length (fun i e o => e = [(1, AV.iv (harms hs)), (4, .aref 24 ls.length), (5, .aref 29 ls.length), (6, .aref 32 ls.length), (9, .iv (.int .i64 (i : Nat)))] ∧
        ∃ m1 m2 m3, m1 ≤ ls.length ∧ m2 ≤ ls.length ∧ m3 ≤ ls.length ∧ o = [(24, AO.arr 9 1 (emb (txE (hTo ls hs i).1)) m1), (29, .arr 3 1 (emb (inE (hTo ls hs i).2.1)) m2), (32, .arr 3 1 (emb (inE (hTo ls hs i).2.2)) m3)]) ?_ ?_ _ _ ⟨rfl, 0, 0, 0, by omega, by omega, by omega, rfl⟩
      · rintro e o ⟨rfl, m1, m2, m3, hm1, hm2, hm3, rfl⟩
        rw [LoopAt_enter c18_b0.eq_1]
        have inv := inv_hTo ls hs hs.length (Nat.le_refl _)
        generalize hTo ls hs hs.length = s at *
        have l1 : (txE s.1).length = ls.length := by simp [txE, inv.l1]
        have l2 : (inE s.2.1).length = ls.length := by simp [inE, inv.l2]
        have l3 : (inE s.2.2).length = ls.length := by simp [inE, inv.l3]
        have t1 : (txE s.1).take ls.length = txE s.1 := List.take_of_length_le (by omega)
        have t2 : (inE s.2.1).take ls.length = inE s.2.1 := List.take_of_length_le (by omega)
        have t3 : (inE s.2.2).take ls.length = inE s.2.2 := List.take_of_length_le (by omega)
        simp [l1, l2, l3, t1, t2, t3, hm1, hm2, hm3]
        simp [txE, inE]
      · rintro i e o hil ⟨rfl, m1, m2, m3, hm1, hm2, hm3, rfl⟩ ih'
        have ih : ∀ n1 n2 n3, n1 ≤ ls.length → n2 ≤ ls.length → n3 ≤ ls.length → _ := fun n1 n2 n3 q1 q2 q3 => ih' _ _ ⟨rfl, n1, n2, n3, q1, q2, q3, rfl⟩
        clear ih'
        rw [LoopAt_enter c18_b0.eq_1]
        have inv := inv_hTo ls hs i (by omega)
        rw [hTo_succ ls hs i hil] at ih
        generalize hTo ls hs i = s at *
        have hle : ∀ k : Nat, (s.1.getD k []).length ≤ 10000 := by
          intro k
          have h1 := inv.le k
          have h2 : (ls.getD k []).length ≤ 10000 := by
            rw [List.getD_eq_getElem?_getD]
            by_cases hk : k < ls.length
            · rw [List.getElem?_eq_getElem hk]
              exact hl2 ls[k] (List.getElem_mem hk)
            · rw [List.getElem?_eq_none (by omega)]
              simp
          omega
        have l1 : (txE s.1).length = ls.length := by simp [txE, inv.l1]
        have l2 : (inE s.2.1).length = ls.length := by simp [inE, inv.l2]
        have l3 : (inE s.2.2).length = ls.length := by simp [inE, inv.l3]
        obtain ⟨S1, S2, S3⟩ := s
        generalize hx : hs[i] = x at *
        obtain ⟨a, at', c⟩ := x
        have hii : (i : Int) < (hs.length : Int) := by omega
        simp only at l1 l2 l3 hle
        by_cases ha : a < 0
        · have e : hStep (S1, S2, S3) (a, at', c) = (S1, S2, S3) := by simp [hStep, hSkip, ha]
          rw [e] at ih
          simp [hil, hx, ha] at ih ⊢
          repeat' (first | omega | apply ih | intro _ | apply And.intro)
        · obtain ⟨k, rfl⟩ : ∃ k : Nat, a = k := ⟨a.toNat, by omega⟩
          by_cases hk : ls.length ≤ k
          · have hki : (ls.length : Int) ≤ (k : Int) := by omega
            have e : hStep (S1, S2, S3) ((k : Int), at', c) = (S1, S2, S3) := by have := inv.l1; simp only at this; simp [hStep, hSkip, this, hk]
            rw [e] at ih
            simp [hil, hx, hki] at ih ⊢
            repeat' (first | omega | apply ih | intro _ | apply And.intro)
          · have hki : ¬ (ls.length : Int) ≤ (k : Int) := by omega
            have hb := inv.b k
            have hgL : ∀ h, (txE S1)[k]'h = [.str (S1.getD k [])] := by have := inv.l1; simp only at this; intro h; simp [txE, show k < S1.length by omega]
            have hgM : ∀ h, (inE S2)[k]'h = [.int .i64 (S2.getD k 0)] := by have := inv.l2; simp only at this; intro h; simp [inE, show k < S2.length by omega]
            have hgO : ∀ h, (inE S3)[k]'h = [.int .i64 (S3.getD k 0)] := by have := inv.l3; simp only at this; intro h; simp [inE, show k < S3.length by omega]
            have hli := hle k
            have h1 := inv.l1
            simp only at h1 hb
            generalize hO : S3.getD k 0 = lo at *
            generalize hM : S2.getD k 0 = mo at *
            generalize hL : S1.getD k [] = li at *
            by_cases hlo : 0 < lo
            · have e : hStep (S1, S2, S3) ((k : Int), at', c) = (S1, S2, S3) := by simp only [hStep, hSkip, Int.toNat_natCast, hO]; simp [hlo]
              rw [e] at ih
              simp [hil, hx, hki, hgO, hlo, l3, show k < ls.length by omega] at ih ⊢
              repeat' (first | omega | apply ih | intro _ | apply And.intro)
            · have hsk : hSkip (S1, S2, S3) ((k : Int), at', c) = false := by simp only [hSkip, Int.toNat_natCast, hO, h1]; simp [hlo]; omega
              by_cases hat : at' < 0
              · have e : hStep (S1, S2, S3) ((k : Int), at', c) = (S1.set k [], S2.set k (mo + 1), S3.set k (lo + 1)) := by simp only [hStep, hsk, Int.toNat_natCast, hO, hM]; simp [hat]
                rw [e] at ih
                simp only [txSet, inSet] at ih
                simp [hil, hx, hki, hgO, hgM, hgL, hlo, hat, l1, l2, l3, show k < ls.length by omega] at ih ⊢
                repeat' (first | omega | apply ih | intro _ | apply And.intro)
              · obtain ⟨q, rfl⟩ : ∃ q : Nat, at' = q := ⟨at'.toNat, by omega⟩
                by_cases hh : hHit (S1, S2, S3) ((k : Int), (q : Int), c) = true
                · have e : hStep (S1, S2, S3) ((k : Int), (q : Int), c) = (S1.set k (li.take q ++ [c] ++ li.drop (q + 1)), S2.set k (mo + 1), S3) := by simp only [hStep, hsk, hh, Int.toNat_natCast, hM, hL, hCh]; simp [hat]
                  rw [e] at ih
                  simp only [hHit, Bool.and_eq_true, decide_eq_true_eq, Int.toNat_natCast, hL] at hh
                  obtain ⟨⟨z1, z2⟩, z3⟩ := hh
                  have z1' : q < li.length := by omega
                  have z2' : ¬ (c.toNat : Int) = 10 := fun e => z2 (UInt8.toNat_inj.1 (by simp; omega))
                  have z3' : ¬ c = li[q] := by intro e; apply z3; simp [z1', e]
                  have hc8 := u8_lt c
                  simp only [txSet, inSet] at ih
                  simp [hil, hx, hki, hgO, hgM, hgL, hlo, hat, l1, l2, l3, show k < ls.length by omega, z1', z2', z3', u8_int, bytesV] at ih ⊢
                  repeat' (first | omega | apply ih | intro _ | apply And.intro)
                · have hh' : hHit (S1, S2, S3) ((k : Int), (q : Int), c) = false := by simpa using hh
                  have e : hStep (S1, S2, S3) ((k : Int), (q : Int), c) = (S1, S2, S3) := by simp only [hStep, hsk, hh']; simp [hat]
                  rw [e] at ih
                  simp only [hHit, Int.toNat_natCast, hL] at hh'
                  by_cases z1 : q < li.length
                  · by_cases z2 : c = 10
                    · subst z2
                      simp [hil, hx, hki, hgO, hgM, hgL, hlo, hat, l1, l2, l3, show k < ls.length by omega, z1] at ih ⊢
                      repeat' (first | omega | apply ih | intro _ | apply And.intro)
                    · have z2' : ¬ (c.toNat : Int) = 10 := fun e => z2 (UInt8.toNat_inj.1 (by simp; omega))
                      have z3 : c = li[q] := by
                        simp [z1, z2] at hh'
                        exact hh'
                      simp [hil, hx, hki, hgO, hgM, hgL, hlo, hat, l1, l2, l3, show k < ls.length by omega, z1, z2', u8_int, ← z3] at ih ⊢
                      repeat' (first | omega | apply ih | intro _ | apply And.intro)
                  · have z1' : ¬ (q : Int) < (li.length : Int) := by omega
                    simp [hil, hx, hki, hgO, hgM, hgL, hlo, hat, l1, l2, l3, show k < ls.length by omega, z1] at ih ⊢
                    repeat' (first | omega | apply ih | intro _ | apply And.intro)
end
end Go.Bk
