/- The contracts of what a line stands for. -/
import Derived.Test.YtjjfnbadmpffpaaDoorSmall
set_option linter.all false

set_option maxRecDepth 8000
namespace Go.Bk
open Go Go.Ev Go.Proofs Go.RowKit

theorem isDg_spec {a : UInt8} (h : isDg a = true) : 48 ≤ a.toNat ∧ a.toNat ≤ 57 := by simpa [isDg] using h
theorem two_dg {s : W} (h : 0 ≤ dg s) : two (dg s).toNat = s := by
  match s with
  | [] => simp [dg] at h
  | [a] => simp [dg] at h
  | [a, b] =>
    simp only [dg] at h ⊢
    split at h
    · rename_i hd
      simp only [Bool.and_eq_true] at hd
      obtain ⟨h1, h2⟩ := isDg_spec hd.1
      obtain ⟨h3, h4⟩ := isDg_spec hd.2
      rw [if_pos (by simp [hd])]
      have e : (10 * ((a.toNat : Int) - 48) + ((b.toNat : Int) - 48)).toNat = 10 * (a.toNat - 48) + (b.toNat - 48) := by omega
      rw [e]
      have e1 : 48 + (10 * (a.toNat - 48) + (b.toNat - 48)) / 10 = a.toNat := by omega
      have e2 : 48 + (10 * (a.toNat - 48) + (b.toNat - 48)) % 10 = b.toNat := by omega
      simp only [two, e1, e2, UInt8.ofNat_toNat]
    · omega
  | a :: b :: c :: s => simp [dg] at h
theorem dg_lt (s : W) : dg s < 100 ∧ -1 ≤ dg s := by
  match s with
  | [] => simp [dg]
  | [a] => simp [dg]
  | [a, b] =>
    simp only [dg]
    split
    · rename_i hd
      simp only [Bool.and_eq_true] at hd
      obtain ⟨h1, h2⟩ := isDg_spec hd.1
      obtain ⟨h3, h4⟩ := isDg_spec hd.2
      omega
    · omega
  | a :: b :: c :: s => simp [dg]
theorem dg_two {n : Nat} (h : n < 100) : dg (two n) = n := by
  have e1 : (UInt8.ofNat (48 + n / 10)).toNat = 48 + n / 10 := by simp only [UInt8.toNat_ofNat']; omega
  have e2 : (UInt8.ofNat (48 + n % 10)).toNat = 48 + n % 10 := by simp only [UInt8.toNat_ofNat']; omega
  simp only [two, dg, isDg, e1, e2]
  rw [if_pos (by simp; omega)]
  omega

/-- A row as it is read. -/
def parseR (s : W) : (Int × W × Bool) × Bool :=
  if s.length < 2 then ((0, [], false), false)
  else if s.take 2 = [46, 46] then
    (if s.length = 4 then ((dg (s.drop 2), [], true), decide (0 ≤ dg (s.drop 2)) && decide (dg (s.drop 2) ≤ 40)) else ((0, [], false), false))
  else ((dg (s.take 2), s.drop 2, false), decide (0 ≤ dg (s.take 2)) && decide (dg (s.take 2) < 40) && tx (s.drop 2))
def rowS (n : Nat) (t : W) (c : Bool) : W := if c then [46, 46] ++ two n else two n ++ t
@[simp] def rowV (p : Int × W × Bool) : IV := .agg [.int .i64 p.1, .str p.2.1, .bool p.2.2]

theorem parse_close {s : W} (hp : s.take 2 = [46, 46]) (h4 : s.length = 4) : parseR s = ((dg (s.drop 2), [], true), decide (0 ≤ dg (s.drop 2)) && decide (dg (s.drop 2) ≤ 40)) := by
  unfold parseR
  rw [if_neg (by omega), if_pos hp, if_pos h4]
theorem parse_close' {s : W} (h2 : ¬ s.length < 2) (hp : s.take 2 = [46, 46]) (h4 : s.length ≠ 4) : parseR s = ((0, [], false), false) := by
  unfold parseR
  rw [if_neg h2, if_pos hp, if_neg h4]
theorem parse_text {s : W} (h2 : ¬ s.length < 2) (hp : s.take 2 ≠ [46, 46]) : parseR s = ((dg (s.take 2), s.drop 2, false), decide (0 ≤ dg (s.take 2)) && decide (dg (s.take 2) < 40) && tx (s.drop 2)) := by
  unfold parseR
  rw [if_neg h2, if_neg hp]
theorem parse_short {s : W} (h2 : s.length < 2) : parseR s = ((0, [], false), false) := by
  unfold parseR
  rw [if_pos h2]
theorem parse_row (s : W) : (parseR s).2 = isRow s := by
  unfold isRow
  by_cases h2 : s.length < 2
  · have h4 : s.length ≠ 4 := by omega
    rw [parse_short h2]
    simp [numOf, manyOf, h2, h4]
  · by_cases hp : s.take 2 = [46, 46]
    · have hd : dg (s.take 2) = -1 := by rw [hp]; decide
      have hn : (numOf s).2.2 = false := by
        unfold numOf
        split
        · rfl
        · simp only [hd]; decide
      by_cases h4 : s.length = 4
      · rw [parse_close hp h4, hn]
        simp [manyOf, h4, hp]
      · rw [parse_close' h2 hp h4, hn]
        simp [manyOf, h4]
    · rw [parse_text h2 hp]
      have hm : (manyOf s).2 = false := by simp [manyOf, hp]
      rw [hm]
      by_cases hx : tx (s.drop 2) = true
      · simp [numOf, hx, h2]
      · simp [numOf, hx]
theorem parse_str {s : W} (h : isRow s = true) : 0 ≤ (parseR s).1.1 ∧ (parseR s).1.1 ≤ 40 ∧ rowS (parseR s).1.1.toNat (parseR s).1.2.1 (parseR s).1.2.2 = s := by
  rw [← parse_row] at h
  by_cases h2 : s.length < 2
  · rw [parse_short h2] at h; cases h
  · by_cases hp : s.take 2 = [46, 46]
    · by_cases h4 : s.length = 4
      · rw [parse_close hp h4] at h ⊢
        simp only [Bool.and_eq_true, decide_eq_true_eq] at h
        refine ⟨h.1, h.2, ?_⟩
        simp only [rowS, if_true, two_dg h.1]
        rw [← hp, List.take_append_drop]
      · rw [parse_close' h2 hp h4] at h; cases h
    · rw [parse_text h2 hp] at h ⊢
      simp only [Bool.and_eq_true, decide_eq_true_eq] at h
      refine ⟨h.1.1, by have := h.1.2; simp only; omega, ?_⟩
      simp only [rowS, Bool.false_eq_true, if_false, two_dg h.1.1, List.take_append_drop]

theorem rowOf_short {l : W} (h : l.length < 6) : rowOf l = none := by unfold rowOf; rw [if_pos h]
theorem rowOf_fits {l r : W} (h : ¬ l.length < 6) (hr : l.take (l.length - 4) = r) (hf : fits l r = true) : rowOf l = some r := by
  subst hr; unfold rowOf; rw [if_neg h]; simp only [hf, if_true]
theorem rowOf_nodg {l r : W} (h : ¬ l.length < 6) (hr : l.take (l.length - 4) = r) (hf : fits l r = false) (hd : dg ((l.drop (l.length - 4)).take 2) < 0) : rowOf l = none := by
  subst hr; unfold rowOf; rw [if_neg h]; simp only [hf, Bool.false_eq_true, if_false, hd, if_true]
theorem rowOf_find {l r : W} {want : Int} (h : ¬ l.length < 6) (hr : l.take (l.length - 4) = r) (hf : fits l r = false) (hw : dg ((l.drop (l.length - 4)).take 2) = want) (hd : ¬ want < 0) :
    rowOf l = ((List.range r.length).find? fun i => fits l (fix want r i)).map fun i => fix want r i := by
  subst hr hw; unfold rowOf; rw [if_neg h]; simp only [hf, Bool.false_eq_true, if_false, hd]
theorem find_at {p : Nat → Bool} {n i : Nat} (hi : i < n) (h : ∀ j, j < i → p j = false) (hp : p i = true) : (List.range n).find? p = some i := by
  rw [List.find?_range_eq_some]
  exact ⟨hp, List.mem_range.2 hi, fun j hj => by simp [h j hj]⟩
theorem find_not {p : Nat → Bool} {n : Nat} (h : ∀ j, j < n → p j = false) : (List.range n).find? p = none := by
  rw [List.find?_eq_none]
  intro x hx
  rw [List.mem_range] at hx
  simp [h x hx]
theorem fixV_range (want : Int) (r : W) (i : Nat) : 0 ≤ fixV want r i ∧ fixV want r i < 97 := by
  unfold fixV
  generalize want - _ = x
  have h1 := Int.tmod_lt_of_pos x (show (0 : Int) < 97 by omega)
  have h2 : -97 < x.tmod 97 := by
    have := Int.tmod_lt_of_pos (-x) (show (0 : Int) < 97 by omega)
    rw [Int.neg_tmod] at this
    omega
  rw [Int.tmod_eq_emod_of_nonneg (by omega)]
  omega
theorem fix_len (want : Int) (r : W) (i : Nat) (h : i < r.length) : (fix want r i).length = r.length := by
  simp [fix]; omega

section
variable {K : World → Prop} (hK : ∀ w w', K w → Below w.heap.size w w' → K w')
include hK

theorem good47 (l r : W) (hr : r.length ≤ 1000000) (hl : l.length ≤ 1000000) : Ev.Good Tryd.prog K 47 [.str l, .str r] (.bool (fits l r)) := by
  refine good_of_wp hK c47_ok (by simp) ?_
  simp
  refine callK_of (good65 hK r hr) (by simp) ?_
  by_cases h : isRow r = true
  · have hll : (-9223372036854775808 : Int) ≤ (r.length : Int) + 4 ∧ (r.length : Int) + 4 ≤ 9223372036854775807 := by omega
    by_cases hq : l.length = r.length + 4
    · have hi : (l.length : Int) = (r.length : Int) + 4 := by omega
      simp [h, hi]
      refine ⟨by omega, ?_⟩
      obtain ⟨h1, h2, h3⟩ := row_plain h
      refine callK_of (good29 hK r h1 (by omega)) (by simp) ?_
      simp
      have := lineOf_len r
      refine callK_of (good66 hK l (lineOf r) (by omega) (by omega)) (by simp) ?_
      simp [fits, h, hq]
      omega
    · have hi : ¬ ((l.length : Int) = (r.length : Int) + 4) := by omega
      simp [h, hi, fits, hq]
      omega
  · simp [h, fits]

theorem good58 (n : Nat) (t : W) (c : Bool) (hn : n < 100) (ht : t.length ≤ 1000000) : Ev.Good Tryd.prog K 58 [rowV ((n : Nat), t, c)] (.str (rowS n t c)) := by
  refine good_of_wp hK c58_ok (by simp) ?_
  have la : (two n).length = 2 := rfl
  cases c with
  | true =>
    simp
    refine callK_of (good60 hK n hn) (by simp) ?_
    simp [la, rowS]
  | false =>
    simp
    refine callK_of (good60 hK n hn) (by simp) ?_
    simp [la, rowS]
    omega

theorem good41 (n : Nat) (t : W) (c : Bool) (hn : n < 100) (h : plain (rowS n t c)) (hl : (rowS n t c).length ≤ 1000) (ht : t.length ≤ 1000) : Ev.Good Tryd.prog K 41 [rowV ((n : Nat), t, c)] (.str (lineOf (rowS n t c))) := by
  refine good_of_wp hK c41_ok (by simp) ?_
  have g58 := good58 hK n t c hn (by omega)
  simp at g58 ⊢
  refine callK_of g58 (by simp) ?_
  generalize rowS n t c = r at *
  simp
  refine callK_of (good59 hK r (by omega)) (by simp) ?_
  simp
  have e1 : (S1 r).tmod 97 = ((S1 r % 97).toNat : Nat) := by rw [Int.tmod_eq_emod_of_nonneg (S1_pos h)]; omega
  have e2 : (S2 1 r).tmod 97 = ((S2 1 r % 97).toNat : Nat) := by rw [Int.tmod_eq_emod_of_nonneg (S2_pos h 1)]; omega
  rw [e1, e2]
  have el : lineOf r = r ++ two (S1 r % 97).toNat ++ two (S2 1 r % 97).toNat := rfl
  rw [el]
  have h1 : (S1 r % 97).toNat < 100 := by omega
  have h2 : (S2 1 r % 97).toNat < 100 := by omega
  generalize (S1 r % 97).toNat = a at *
  generalize (S2 1 r % 97).toNat = b at *
  refine callK_of (good60 hK a h1) (by simp) ?_
  have la : (two a).length = 2 := rfl
  have lb : (two b).length = 2 := rfl
  simp [la]
  refine ⟨by omega, callK_of (good60 hK b h2) (by simp) ?_⟩
  simp [la, lb]
  omega

theorem good72 (s : W) (h : s.length ≤ 1000000) : Ev.Good Tryd.prog K 72 [.str s] (.tup [rowV (parseR s).1, .bool (parseR s).2]) := by
  refine good_of_wp hK c72_ok (by simp) ?_
  by_cases h2 : s.length < 2
  · have hi : ((s.length : Int) < 2) := by omega
    rw [parse_short h2]
    simp [hi]
  · have hi : ¬ ((s.length : Int) < 2) := by omega
    have hi' : (2 : Int) ≤ (s.length : Int) := by omega
    by_cases hp : s.take 2 = [46, 46]
    · by_cases h4 : s.length = 4
      · have hi4 : ((s.length - 2 : Nat) : Int) = 2 := by omega
        rw [parse_close hp h4]
        simp [hi, hi', hp, hi4]
        refine callK_of (good74 hK (s.drop 2) (by simp; omega)) (by simp) ?_
        by_cases hd : 0 ≤ dg (s.drop 2) <;> simp [hd]
      · have hi4 : ¬ ((s.length - 2 : Nat) : Int) = 2 := by omega
        rw [parse_close' h2 hp h4]
        simp [hi, hi', hp, hi4]
    · rw [parse_text h2 hp]
      simp [hi, hi', hp]
      refine callK_of (good74 hK (s.take 2) (by simp; omega)) (by simp) ?_
      by_cases hd : 0 ≤ dg (s.take 2)
      · by_cases hd4 : dg (s.take 2) < 40
        · simp [hd, hd4]
          refine callK_of (good40 hK (s.drop 2) (by simp; omega)) (by simp) ?_
          simp
        · simp [hd, hd4]
      · simp [hd]

theorem good23 (l : W) (hl : l.length ≤ 10000) : Ev.Good Tryd.prog K 23 [.str l] (.tup [.str ((rowOf l).getD []), .bool (rowOf l).isSome]) := by
  refine good_of_wp hK c23_ok (by simp) ?_
  by_cases h6 : l.length < 6
  · have hi : ((l.length : Int) < 6) := by omega
    rw [rowOf_short h6]
    simp [hi]
  · have hi : ¬ ((l.length : Int) < 6) := by omega
    have hn : ((l.length : Int) - 4).toNat = l.length - 4 := by omega
    generalize hR : rowOf l = R
    simp [hi, hn]
    refine ⟨by omega, by omega, ?_⟩
    have hrl : (l.take (l.length - 4)).length = l.length - 4 := by simp
    generalize hr : l.take (l.length - 4) = r at hrl
    refine callK_of (good47 hK l r (by omega) (by omega)) (by simp) ?_
    by_cases hf : fits l r = true
    · rw [rowOf_fits h6 hr hf] at hR
      subst hR
      simp [hf]
    · have hf' : fits l r = false := by simpa using hf
      have hr4 : (r.length : Int) = (l.length : Int) - 4 := by omega
      have e2 : List.drop (l.length - 4) (List.take ((((l.length - 4 : Nat) : Int) + 2)).toNat l) = (l.drop (l.length - 4)).take 2 := by
        rw [show ((((l.length - 4 : Nat) : Int) + 2)).toNat = (l.length - 4) + 2 by omega, List.drop_take]
        congr 1
        omega
      simp [hf', hrl, e2]
      refine ⟨by omega, by omega, ?_⟩
      generalize hwt : (l.drop (l.length - 4)).take 2 = wt
      refine callK_of (good48 hK wt) (by simp) ?_
      by_cases hd : dg wt < 0
      · rw [rowOf_nodg h6 hr hf' (by rw [hwt]; exact hd)] at hR
        subst hR
        simp [hd]
      · rw [rowOf_find h6 hr hf' (by rw [hwt]) hd] at hR
        have hwr := dg_lt wt
        generalize hw : dg wt = want at *
        simp [hd]
        refine loop_q (fun i => [(0, AV.iv (IV.str l)), (4, AV.iv (IV.str r)), (5, AV.iv (IV.int IntKind.i64 want)), (6, AV.iv (IV.int IntKind.i64 (i : Nat)))]) (fun _ => []) r.length (fun i => ∀ j, j < i → fits l (fix want r j) = false) (by simp) ?_ ?_
        · intro hq
          rw [LoopAt_enter c23_b0.eq_1]
          rw [find_not hq] at hR
          subst hR
          simp
        · intro i hi hq ih
          have hir : (i : Int) < (r.length : Int) := by omega
          rw [LoopAt_enter c23_b0.eq_1]
          have hfl := fix_len want r i hi
          have hfr := fixV_range want r i
          have ht1 : ((i : Int) + 1).toNat = i + 1 := by omega
          have hlen : ((r.take i) ++ [32] ++ r.drop (i + 1)).length = r.length := by simp; omega
          have hS := S1_range ((r.take i) ++ [32] ++ r.drop (i + 1))
          have g49 := good49 hK ((r.take i) ++ [32] ++ r.drop (i + 1)) (by omega)
          have hfixv : fixV want r i = ((want - (S1 ((r.take i) ++ [32] ++ r.drop (i + 1))).tmod 97).tmod 97 + 97).tmod 97 := rfl
          have hfix : fix want r i = r.take i ++ [UInt8.ofNat (32 + fixV want r i).toNat] ++ r.drop (i + 1) := rfl
          generalize hs1 : (S1 ((r.take i) ++ [32] ++ r.drop (i + 1))).tmod 97 = s1 at *
          have hs1a : -97 < s1 ∧ s1 < 97 := by
            rw [← hs1]
            exact ⟨by
              have := Int.tmod_lt_of_pos (-(S1 ((r.take i) ++ [32] ++ r.drop (i + 1)))) (show (0 : Int) < 97 by omega)
              rw [Int.neg_tmod] at this
              omega, Int.tmod_lt_of_pos _ (by omega)⟩
          have hm : -97 < (want - s1).tmod 97 ∧ (want - s1).tmod 97 < 97 := ⟨by
              have := Int.tmod_lt_of_pos (-(want - s1)) (show (0 : Int) < 97 by omega)
              rw [Int.neg_tmod] at this
              omega, Int.tmod_lt_of_pos _ (by omega)⟩
          have hw8 : IntKind.u8.wrap (32 + fixV want r i) = 32 + fixV want r i := wrap_u8 (by omega) (by omega)
          simp [hi, hir, ht1]
          refine ⟨by omega, by omega, ⟨by omega, by omega⟩, ⟨by omega, by omega⟩, by omega, ?_⟩
          have g49' := g49
          simp at g49'
          refine callK_of g49' (by simp) ?_
          generalize (S2 1 (List.take i r ++ [32] ++ List.drop (i + 1) r)).tmod 97 = s2 at *
          have hfix' : List.take i r ++ UInt8.ofNat (32 + fixV want r i).toNat :: List.drop (i + 1) r = fix want r i := by rw [hfix]; simp
          simp [← hfixv, hw8, bytesV, ht1, hfix']
          repeat' (first | omega | apply And.intro)
          refine callK_of (good47 hK l (fix want r i) (by omega) (by omega)) (by simp) ?_
          by_cases hfi : fits l (fix want r i) = true
          · rw [find_at hi hq hfi] at hR
            subst hR
            simp [hfi]
          · have hfi' : fits l (fix want r i) = false := by simpa using hfi
            have := ih (fun j hj => by
              rcases Nat.lt_succ_iff_lt_or_eq.1 hj with h | h
              · exact hq j h
              · subst h; exact hfi')
            simp [hfi'] at this ⊢
            exact ⟨by omega, this⟩
end
end Go.Bk

/- The contract of the row for which a line stands, as the program finds it. -/
set_option maxRecDepth 8000
namespace Go.Bk
open Go Go.Ev Go.Proofs Go.RowKit

theorem diff_comm : ∀ (a b : W), diff a b = diff b a
  | [], b => by cases b <;> rfl
  | x :: a, [] => rfl
  | x :: a, y :: b => by
    simp only [diff, diff_comm a b]
    by_cases h : x = y
    · simp [h]
    · simp [h, Ne.symm h]
theorem diff_self (a : W) : diff a a = 0 := by
  induction a with
  | nil => rfl
  | cons x a ih => simp [diff, ih]
theorem diff_app : ∀ (a b c d : W), a.length = b.length → diff (a ++ c) (b ++ d) = diff a b + diff c d
  | [], [], c, d, _ => by simp [diff]
  | x :: a, y :: b, c, d, h => by
    simp only [List.cons_append, diff, diff_app a b c d (by simpa using h)]
    omega
  | [], y :: b, c, d, h => by simp at h
  | x :: a, [], c, d, h => by simp at h
theorem diff_zero : ∀ (a b : W), a.length = b.length → diff a b = 0 → a = b
  | [], [], _, _ => rfl
  | x :: a, y :: b, h, hd => by
    simp only [diff] at hd
    have h1 : x = y := by
      by_cases h : x = y
      · exact h
      · simp [h] at hd
    have h2 := diff_zero a b (by simpa using h) (by omega)
    rw [h1, h2]
  | [], y :: b, h, _ => by simp at h
  | x :: a, [], h, _ => by simp at h
theorem diff_fix (want : Int) (r : W) (i : Nat) (h : i < r.length) : diff r (fix want r i) ≤ 1 := by
  have e : r = r.take i ++ ([r[i]] ++ r.drop (i + 1)) := by simp
  have e2 : fix want r i = r.take i ++ ([UInt8.ofNat (32 + fixV want r i).toNat] ++ r.drop (i + 1)) := by simp [fix]
  rw [e2]
  conv => lhs; arg 1; rw [e]
  rw [diff_app _ _ _ _ rfl, diff_self, diff_app [r[i]] [UInt8.ofNat (32 + fixV want r i).toNat] _ _ rfl, diff_self]
  simp only [diff]
  split <;> omega

/-- A mended row fits only with all four digits right. -/
theorem fits_fix {l r : W} {want : Int} {i : Nat} (h4 : 4 ≤ l.length) (hr : l.take (l.length - 4) = r) (hf : fits l r = false) (hi : i < r.length) :
    fits l (fix want r i) = (isRow (fix want r i) && decide (lineOf (fix want r i) = fix want r i ++ l.drop (l.length - 4))) := by
  have hrl : r.length = l.length - 4 := by rw [← hr]; simp
  have hfl := fix_len want r i hi
  have hl : l = r ++ l.drop (l.length - 4) := by rw [← hr]; simp
  have hdl : (l.drop (l.length - 4)).length = 4 := by simp; omega
  generalize hq : fix want r i = q at *
  have hlo : lineOf q = q ++ (two (S1 q % 97).toNat ++ two (S2 1 q % 97).toNat) := by simp [lineOf]
  generalize hdd : two (S1 q % 97).toNat ++ two (S2 1 q % 97).toNat = dd at hlo
  have hddl : dd.length = 4 := by rw [← hdd]; rfl
  have hdf := diff_fix want r i hi
  rw [hq] at hdf
  by_cases hrow : isRow q = true
  · have hlen : l.length = q.length + 4 := by omega
    unfold fits
    simp only [hrow, hlen, decide_true, Bool.true_and]
    rw [hlo]
    have hd : diff l (q ++ dd) = diff r q + diff (l.drop (l.length - 4)) dd := by
      conv => lhs; rw [hl]
      exact diff_app _ _ _ _ (by omega)
    rw [← hlen, hd]
    by_cases heq : dd = l.drop (l.length - 4)
    · rw [← heq, diff_self]
      simp
      exact hdf
    · have hne : ¬ (q ++ dd = q ++ l.drop (l.length - 4)) := fun e => heq (List.append_cancel_left e)
      have h1 : diff (l.drop (l.length - 4)) dd ≠ 0 := fun e => heq (diff_zero _ _ (by omega) e).symm
      by_cases h2 : diff r q = 0
      · have hrq := diff_zero _ _ hfl.symm h2
        rw [hrq] at hf
        have : fits l q = decide (diff l (lineOf q) ≤ 1) := by unfold fits; simp only [hrow, hlen, decide_true, Bool.true_and]
        rw [this, hlo, hd, h2, decide_eq_false_iff_not] at hf
        simp [hne]
        omega
      · simp [hne]
        omega
  · have : isRow q = false := by simpa using hrow
    simp [fits, this]

theorem rowOf_nosec {l r : W} (h6 : ¬ l.length < 6) (hr : l.take (l.length - 4) = r) (hf : fits l r = false) (hw : ¬ dg ((l.drop (l.length - 4)).take 2) < 0) (hz : dg ((l.drop (l.length - 4)).drop 2) < 0) : rowOf l = none := by
  rw [rowOf_find h6 hr hf rfl hw, find_not]
  · rfl
  · intro j hj
    rw [fits_fix (by omega) hr hf hj]
    generalize fix _ r j = q
    by_cases hrow : isRow q = true
    · rw [hrow, Bool.true_and, decide_eq_false_iff_not]
      intro he
      have hlo : lineOf q = q ++ (two (S1 q % 97).toNat ++ two (S2 1 q % 97).toNat) := by simp [lineOf]
      rw [hlo] at he
      have he2 := List.append_cancel_left he
      rw [← he2] at hz
      have e1 : (two (S1 q % 97).toNat ++ two (S2 1 q % 97).toNat).drop 2 = two (S2 1 q % 97).toNat := rfl
      rw [e1, dg_two (by omega)] at hz
      omega
    · have : isRow q = false := by simpa using hrow
      rw [this, Bool.false_and]

def standR (l : W) : Int × W × Bool := match rowOf l with
  | some r => (parseR r).1
  | none => (0, [], false)

section
variable {K : World → Prop} (hK : ∀ w w', K w → Below w.heap.size w w' → K w')
include hK

theorem good41r (r : W) (hrow : isRow r = true) : Ev.Good Tryd.prog K 41 [rowV (parseR r).1] (.str (lineOf r)) := by
  obtain ⟨q1, q2, q3⟩ := parse_str hrow
  obtain ⟨h1, h2, h3⟩ := row_plain hrow
  generalize hP : (parseR r).1 = P at *
  obtain ⟨pn, pt, pc⟩ := P
  simp only at q1 q2 q3
  obtain ⟨m, rfl⟩ : ∃ m : Nat, pn = m := ⟨pn.toNat, by omega⟩
  rw [Int.toNat_natCast] at q3
  have htl : pt.length ≤ 1000 := by
    have := congrArg List.length q3
    unfold rowS at this
    split at this
    · rename_i hc
      have : pt = [] := by
        have hP' := hP
        unfold parseR at hP'
        repeat' (split at hP')
        all_goals (injection hP' with x1 x2; injection x2 with x2 x3)
        · exact x2.symm
        · exact x2.symm
        · exact x2.symm
        · rw [← x3] at hc; cases hc
      rw [this]; simp
    · simp at this
      omega
  have g41 := good41 hK m pt pc (by omega) (by rw [q3]; exact h1) (by rw [q3]; omega) htl
  rw [q3] at g41
  exact g41

def k62 : List AI := [.inBlock 0, .code (.seq (.ops c62_r21 false) .ret)]

theorem loop62 (l r : W) (R : Option W) (S : Int × W × Bool) (want : Int) (hl : l.length ≤ 10000) (h6 : ¬ l.length < 6) (hrl : r.length = l.length - 4) (hr : l.take (l.length - 4) = r) (hf' : fits l r = false)
    (hw : dg ((l.drop (l.length - 4)).take 2) = want) (hd : ¬ want < 0) (hR : rowOf l = R) (hS : standR l = S) :
    LoopF Tryd.prog K (RetIs [ARes.cell 2 3 true, ARes.tmp 3] (.tup [.agg [.int .i64 S.1, .str S.2.1, .bool S.2.2], .bool R.isSome])) c62_b0 [0, 2, 4, 7, 60, 61] [2] k62
      [(0, .iv (.str l)), (2, .loc 2 0), (4, .iv (.str r)), (7, .iv (.int .i64 want)), (60, .iv (.int .i64 (r.length : Nat))), (61, .iv (.int .i64 0))]
      [(2, .box [.iv (.int .i64 0), .iv (.str []), .iv (.bool false)])] := by
  rw [rowOf_find h6 hr hf' hw hd] at hR
  have hwr := dg_lt ((l.drop (l.length - 4)).take 2)
  rw [hw] at hwr
  refine loop_q (fun i => [(0, AV.iv (.str l)), (2, .loc 2 0), (4, .iv (.str r)), (7, .iv (.int .i64 want)), (60, .iv (.int .i64 (r.length : Nat))), (61, .iv (.int .i64 (i : Nat)))]) (fun _ => [(2, AO.box [.iv (.int .i64 0), .iv (.str []), .iv (.bool false)])]) r.length (fun i => ∀ j, j < i → fits l (fix want r j) = false) (by simp) ?_ ?_
  · intro hq
    rw [LoopAt_enter c62_b0.eq_1]
    rw [find_not hq] at hR
    have hS' : standR l = (0, [], false) := by
      unfold standR
      rw [rowOf_find h6 hr hf' hw hd, find_not hq]
      rfl
    rw [hS'] at hS
    subst hR hS
    simp [k62]
  · intro i hi hq ih
    have hir : (i : Int) < (r.length : Int) := by omega
    rw [LoopAt_enter c62_b0.eq_1]
    have hfl := fix_len want r i hi
    have hfr := fixV_range want r i
    have hset : r.set i 32 = r.take i ++ [32] ++ r.drop (i + 1) := by rw [List.set_eq_take_append_cons_drop, if_pos hi]; simp
    have hfixv : fixV want r i = ((want - (S1 (r.set i 32)).tmod 97).tmod 97 + 97).tmod 97 := by rw [hset]; rfl
    have hfix : r.set i (UInt8.ofNat (32 + fixV want r i).toNat) = fix want r i := by rw [List.set_eq_take_append_cons_drop, if_pos hi]; simp [fix]
    have g59 := good59 hK (r.set i 32) (by simp; omega)
    generalize hs2 : (S2 1 (r.set i 32)).tmod 97 = s2 at *
    generalize hs1 : (S1 (r.set i 32)).tmod 97 = s1 at *
    have hs1a : -97 < s1 ∧ s1 < 97 := by
      rw [← hs1]
      exact ⟨by
        have := Int.tmod_lt_of_pos (-(S1 (r.set i 32))) (show (0 : Int) < 97 by omega)
        rw [Int.neg_tmod] at this
        omega, Int.tmod_lt_of_pos _ (by omega)⟩
    have hm : -97 < (want - s1).tmod 97 ∧ (want - s1).tmod 97 < 97 := ⟨by
        have := Int.tmod_lt_of_pos (-(want - s1)) (show (0 : Int) < 97 by omega)
        rw [Int.neg_tmod] at this
        omega, Int.tmod_lt_of_pos _ (by omega)⟩
    have hw8 : IntKind.u8.wrap (fixV want r i) = fixV want r i := wrap_u8 (by omega) (by omega)
    simp [hi, hir]
    refine ⟨by omega, callK_of g59 (by simp) ?_⟩
    simp [hi, ← hfixv, hw8, hfix]
    repeat' (first | omega | apply And.intro)
    have g72 := good72 hK (fix want r i) (by omega)
    simp at g72
    refine callK_of g72 (by simp) ?_
    rw [parse_row]
    have hfx := fits_fix (want := want) (by omega) hr hf' hi
    have hdl : ((r.length : Int)).toNat = l.length - 4 := by omega
    have hfd : (l.drop (l.length - 4)).length = 4 := by simp; omega
    by_cases hrow : isRow (fix want r i) = true
    · have g41 := good41r hK (fix want r i) hrow
      simp at g41
      simp [hrow]
      refine callK_of g41 (by simp) ?_
      simp [hrl]
      rw [hrow, Bool.true_and] at hfx
      refine ⟨by omega, fun hE => ?_, fun hE => ⟨by omega, ?_⟩⟩
      · have hfi : fits l (fix want r i) = true := by rw [hfx]; simp [hE]
        have hfd' := rowOf_find h6 hr hf' hw hd
        rw [find_at hi hq hfi] at hR hfd'
        have hS' : standR l = (parseR (fix want r i)).1 := by
          unfold standR
          rw [hfd']
          rfl
        rw [hS'] at hS
        subst hR hS
        simp
      · have := ih (fun j hj => by
          rcases Nat.lt_succ_iff_lt_or_eq.1 hj with h | h
          · exact hq j h
          · subst h; rw [hfx]; simp [hE])
        simp [hrl] at this
        exact this
    · have hrow' : isRow (fix want r i) = false := by simpa using hrow
      rw [hrow'] at hfx
      simp only [Bool.false_and] at hfx
      have := ih (fun j hj => by
        rcases Nat.lt_succ_iff_lt_or_eq.1 hj with h | h
        · exact hq j h
        · subst h; exact hfx)
      simp [hrow'] at this ⊢
      exact ⟨by omega, this⟩

theorem good62 (l : W) (hl : l.length ≤ 10000) : Ev.Good Tryd.prog K 62 [.str l] (.tup [rowV (standR l), .bool (rowOf l).isSome]) := by
  refine good_of_wp hK c62_ok (by simp) ?_
  by_cases h6 : l.length < 6
  · have hi : ((l.length : Int) < 6) := by omega
    have e := rowOf_short h6
    simp [hi, standR, e]
  · have hi : ¬ ((l.length : Int) < 6) := by omega
    have hn : ((l.length : Int) - 4).toNat = l.length - 4 := by omega
    generalize hR : rowOf l = R
    generalize hS : standR l = S
    simp [hi, hn]
    refine ⟨by omega, by omega, ?_⟩
    have hrl : (l.take (l.length - 4)).length = l.length - 4 := by simp
    generalize hr : l.take (l.length - 4) = r at hrl
    have g72 := good72 hK r (by omega)
    simp at g72
    refine callK_of g72 (by simp) ?_
    rw [parse_row]
    have e2 : List.drop r.length (List.take ((r.length : Int) + 2).toNat l) = (l.drop (l.length - 4)).take 2 := by
      rw [show ((r.length : Int) + 2).toNat = (l.length - 4) + 2 by omega, hrl, List.drop_take]
      congr 1
      omega
    have e3 : List.drop ((r.length : Int) + 2).toNat l = (l.drop (l.length - 4)).drop 2 := by
      rw [show ((r.length : Int) + 2).toNat = (l.length - 4) + 2 by omega, List.drop_drop]
    have hlo := lineOf_len r
    by_cases hf : fits l r = true
    · have hrow : isRow r = true := by
        simp only [fits, Bool.and_eq_true] at hf
        exact hf.1.1
      have hdf : diff (lineOf r) l ≤ 1 := by
        simp only [fits, Bool.and_eq_true, decide_eq_true_eq] at hf
        rw [diff_comm]
        exact hf.2
      rw [rowOf_fits h6 hr hf] at hR
      have hS' : standR l = (parseR r).1 := by unfold standR; rw [rowOf_fits h6 hr hf]
      rw [hS'] at hS
      subst hR hS
      have g41 := good41r hK r hrow
      simp at g41
      simp [hrow]
      refine callK_of g41 (by simp) ?_
      simp
      refine callK_of (good73 hK (lineOf r) l (by omega) (by omega)) (by simp) ?_
      have hdi : ((diff (lineOf r) l : Nat) : Int) ≤ 1 := by omega
      simp [hdi]
    · have hf' : fits l r = false := by simpa using hf
      have hwl : ((l.drop (l.length - 4)).take 2).length = 2 := by simp; omega
      have hzl : ((l.drop (l.length - 4)).drop 2).length = 2 := by simp; omega
      generalize hwt : (l.drop (l.length - 4)).take 2 = wt at *
      generalize hzt : (l.drop (l.length - 4)).drop 2 = zt at *
      by_cases hrow : isRow r = true
      · have hdi : ¬ ((diff (lineOf r) l : Nat) : Int) ≤ 1 := by
          have hlen : l.length = r.length + 4 := by omega
          have : fits l r = decide (diff l (lineOf r) ≤ 1) := by unfold fits; simp only [hrow, hlen, decide_true, Bool.true_and]
          rw [this, decide_eq_false_iff_not, diff_comm] at hf'
          omega
        have g41 := good41r hK r hrow
        simp at g41
        simp [hrow]
        refine callK_of g41 (by simp) ?_
        simp
        refine callK_of (good73 hK (lineOf r) l (by omega) (by omega)) (by simp) ?_
        simp [hdi, e2, e3]
        refine ⟨by omega, by omega, callK_of (good74 hK wt hwl) (by simp) ?_⟩
        simp [e3]
        refine ⟨by omega, by omega, callK_of (good74 hK zt hzl) (by simp) ?_⟩
        simp
        refine ⟨fun h0 => ⟨fun hz => ?_, fun _ => loop62 hK l r R S (dg wt) hl h6 hrl hr hf' (by rw [hwt]) (by omega) hR hS⟩, fun hneg => ?_⟩
        · have e := rowOf_nosec h6 hr hf' (by rw [hwt]; omega) (by rw [hzt]; exact hz)
          have hS' : standR l = (0, [], false) := by unfold standR; rw [e]
          rw [e] at hR
          rw [hS'] at hS
          subst hR hS
          simp
        · have e := rowOf_nodg h6 hr hf' (by rw [hwt]; exact hneg)
          have hS' : standR l = (0, [], false) := by unfold standR; rw [e]
          rw [e] at hR
          rw [hS'] at hS
          subst hR hS
          simp
      · simp [hrow, e2]
        refine ⟨by omega, by omega, callK_of (good74 hK wt hwl) (by simp) ?_⟩
        simp [e3]
        refine ⟨by omega, by omega, callK_of (good74 hK zt hzl) (by simp) ?_⟩
        simp
        refine ⟨fun h0 => ⟨fun hz => ?_, fun _ => loop62 hK l r R S (dg wt) hl h6 hrl hr hf' (by rw [hwt]) (by omega) hR hS⟩, fun hneg => ?_⟩
        · have e := rowOf_nosec h6 hr hf' (by rw [hwt]; omega) (by rw [hzt]; exact hz)
          have hS' : standR l = (0, [], false) := by unfold standR; rw [e]
          rw [e] at hR
          rw [hS'] at hS
          subst hR hS
          simp
        · have e := rowOf_nodg h6 hr hf' (by rw [hwt]; exact hneg)
          have hS' : standR l = (0, [], false) := by unfold standR; rw [e]
          rw [e] at hR
          rw [hS'] at hS
          subst hR hS
          simp
end
end Go.Bk
