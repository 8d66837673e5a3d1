/- Lines, rows and texts of books, as plain data. -/
import Derived.Test.YtjjfnbadmpffpaaDoorEvFour
import Derived.Test.YtjjfnbadmpffpaaDoorCodes
set_option linter.all false

set_option maxRecDepth 8000
namespace Go.Bk
open Go Go.Ev Go.RowKit

attribute [simp] maxLen_val

abbrev W := List UInt8
@[simp] def ints (l : List Int) : IV := .sl 1 (l.map fun n => [.int .i64 n])
@[simp] def strs (l : List W) : IV := .sl 1 (l.map fun s => [.str s])

def tx (s : W) : Bool := s.all (fun c => decide (32 ≤ c.toNat) && decide (c.toNat ≤ 126)) && decide (s.length ≤ 60)
def two (n : Nat) : W := [UInt8.ofNat (48 + n / 10), UInt8.ofNat (48 + n % 10)]
def v1 (c : UInt8) : Int := (c.toNat : Int) - 32
def S1 : W → Int
  | [] => 0
  | c :: s => v1 c + S1 s
def S2 : Nat → W → Int
  | _, [] => 0
  | k, c :: s => v1 c * (k : Int) + S2 (k + 1) s
def lineOf (s : W) : W := s ++ two (S1 s % 97).toNat ++ two (S2 1 s % 97).toNat
def isDg (c : UInt8) : Bool := decide (48 ≤ c.toNat) && decide (c.toNat ≤ 57)
def dg : W → Int
  | [a, b] => if isDg a && isDg b then 10 * ((a.toNat : Int) - 48) + ((b.toNat : Int) - 48) else -1
  | _ => -1
def numOf (r : W) : Int × W × Bool :=
  if decide (r.length < 2) || !tx (r.drop 2) then (0, [], false) else (dg (r.take 2), r.drop 2, decide (0 ≤ dg (r.take 2)) && decide (dg (r.take 2) < 40))
def manyOf (r : W) : Int × Bool :=
  if decide (r.length ≠ 4) || decide (r.take 2 ≠ [46, 46]) then (0, false) else (dg (r.drop 2), decide (0 ≤ dg (r.drop 2)) && decide (dg (r.drop 2) ≤ 40))
def isRow (r : W) : Bool := (numOf r).2.2 || (manyOf r).2
def diff : W → W → Nat
  | a :: r, b :: s => (if a = b then 0 else 1) + diff r s
  | _, _ => 0
def fits (l r : W) : Bool := isRow r && decide (l.length = r.length + 4) && decide (diff l (lineOf r) ≤ 1)
def fixV (want : Int) (r : W) (i : Nat) : Int := ((want - (S1 (r.take i ++ [32] ++ r.drop (i + 1))).tmod 97).tmod 97 + 97).tmod 97
def fix (want : Int) (r : W) (i : Nat) : W := r.take i ++ [UInt8.ofNat (32 + fixV want r i).toNat] ++ r.drop (i + 1)
def rowOf (l : W) : Option W :=
  if l.length < 6 then none else
  let r := l.take (l.length - 4)
  if fits l r then some r else
  let want := dg ((l.drop (l.length - 4)).take 2)
  if want < 0 then none else
  ((List.range r.length).find? fun i => fits l (fix want r i)).map fun i => fix want r i

theorem u8_lt (c : UInt8) : c.toNat < 256 := c.toNat_lt

theorem v1_range (c : UInt8) : -32 ≤ v1 c ∧ v1 c ≤ 223 := by have := u8_lt c; unfold v1; omega
theorem S1_range (s : W) : -32 * (s.length : Int) ≤ S1 s ∧ S1 s ≤ 223 * (s.length : Int) := by
  induction s with
  | nil => simp [S1]
  | cons c s ih => have := v1_range c; simp only [S1, List.length_cons]; omega
theorem S1_app (s t : W) : S1 (s ++ t) = S1 s + S1 t := by
  induction s with
  | nil => simp [S1]
  | cons c s ih => simp only [List.cons_append, S1, ih]; omega
theorem S2_app (s t : W) (k : Nat) : S2 k (s ++ t) = S2 k s + S2 (k + s.length) t := by
  induction s generalizing k with
  | nil => simp [S2]
  | cons c s ih => simp only [List.cons_append, S2, ih, List.length_cons]; rw [show k + 1 + s.length = k + (s.length + 1) by omega]; omega
theorem S2_range (s : W) (k : Nat) (hk : k + s.length ≤ 200001) : -7000000 * (s.length : Int) ≤ S2 k s ∧ S2 k s ≤ 50000000 * (s.length : Int) := by
  induction s generalizing k with
  | nil => simp [S2]
  | cons c s ih =>
    simp only [List.length_cons] at hk
    have h1 := ih (k + 1) (by omega)
    obtain ⟨h2, h3⟩ := v1_range c
    simp only [S2, List.length_cons]
    have e1 : v1 c * (k : Int) ≤ 223 * (k : Int) := Int.mul_le_mul_of_nonneg_right h3 (by omega)
    have e2 : -32 * (k : Int) ≤ v1 c * (k : Int) := Int.mul_le_mul_of_nonneg_right h2 (by omega)
    omega

theorem wrap_i32 {n : Int} (h : -2147483648 ≤ n) (h' : n ≤ 2147483647) : IntKind.wrap .i32 n = n := by
  unfold IntKind.wrap
  simp [IntKind.bits, IntKind.signed]
  omega
theorem u8_int (a b : UInt8) : ((a.toNat : Int) = b.toNat) = (a = b) := by
  apply propext
  constructor
  · intro h
    exact UInt8.toNat_inj.1 (by omega)
  · intro h
    rw [h]

theorem decS_lo (s : W) (i : Nat) (h : i < s.length) (hc : s[i].toNat < 128) : decS s i = (s[i].toNat, 1) := by
  unfold decS Utf8.decode
  have e : (ByteArray.get! ⟨s.toArray⟩ (i + 0)).toNat = s[i].toNat := by simp [ByteArray.get!, h]
  simp only [e]
  rw [if_pos (by omega)]
theorem decS_hi (s : W) (i : Nat) (h : i < s.length) (hc : 128 ≤ s[i].toNat) : 128 ≤ (decS s i).1 := by
  unfold decS Utf8.decode
  have e : (ByteArray.get! ⟨s.toArray⟩ (i + 0)).toNat = s[i].toNat := by simp [ByteArray.get!, h]
  simp only [e]
  rw [if_neg (by omega)]
  repeat' split
  all_goals first
    | (simp only [Utf8.runeError]; omega)
    | (simp at *; omega)

@[simp] theorem wrapB (c : UInt8) : IntKind.i64.wrap (c.toNat : Int) = c.toNat := by have := u8_lt c; exact wrap_i64 (by omega) (by omega)
@[simp] theorem wrapB48 (c : UInt8) : IntKind.i64.wrap ((c.toNat : Int) - 48) = c.toNat - 48 := by have := u8_lt c; exact wrap_i64 (by omega) (by omega)

theorem all_succ {α : Type} {p : α → Bool} {l : List α} {i : Nat} (hi : i < l.length) (h : (l.take i).all p = true) (h' : p l[i] = true) : (l.take (i + 1)).all p = true := by
  rw [List.take_succ_eq_append_getElem hi, List.all_append, h]
  simp [h']
theorem not_all {α : Type} {p : α → Bool} {l : List α} {i : Nat} (hi : i < l.length) (h' : p l[i] = false) : l.all p = false := by
  cases h : l.all p with
  | false => rfl
  | true =>
    rw [List.all_eq_true] at h
    rw [h _ (List.getElem_mem hi)] at h'
    cases h'

theorem S_step (s : W) (i : Nat) (hi : i < s.length) : S1 (s.take (i + 1)) = S1 (s.take i) + v1 s[i] ∧ S2 1 (s.take (i + 1)) = S2 1 (s.take i) + v1 s[i] * ((i : Int) + 1) := by
  rw [List.take_succ_eq_append_getElem hi, S1_app, S2_app]
  have : (s.take i).length = i := by simp; omega
  simp only [S1, S2, this]
  rw [show ((1 + i : Nat) : Int) = (i : Int) + 1 by omega]
  omega

theorem diff_nil (a : W) : diff a [] = 0 := by cases a <;> rfl
theorem diff_step : ∀ (a b : W) (i : Nat) (h : i < a.length) (h' : i < b.length), diff (a.take (i + 1)) b = diff (a.take i) b + if a[i] = b[i] then 0 else 1
  | [], _, i, h, _ => by simp at h
  | x :: a, [], i, _, h' => by simp at h'
  | x :: a, y :: b, 0, _, _ => by simp [diff]
  | x :: a, y :: b, i + 1, h, h' => by
    have := diff_step a b i (by simpa using h) (by simpa using h')
    simp only [List.take_succ_cons, diff, this, List.getElem_cons_succ]
    omega
theorem diff_le (a b : W) : diff a b ≤ a.length := by
  induction a generalizing b with
  | nil => simp [diff]
  | cons x a ih =>
    cases b with
    | nil => simp [diff]
    | cons y b => have := ih b; simp only [diff, List.length_cons]; split <;> omega

theorem tx_lo {s : W} (h : tx s = true) : ∀ c ∈ s, 32 ≤ c.toNat ∧ c.toNat ≤ 126 := by
  intro c hc
  simp only [tx, Bool.and_eq_true, List.all_eq_true, decide_eq_true_eq] at h
  exact h.1 c hc

/-- All bytes are those of texts. -/
def plain (s : W) : Prop := ∀ c ∈ s, 32 ≤ c.toNat ∧ c.toNat ≤ 126

theorem S1_pos {s : W} (h : plain s) : 0 ≤ S1 s := by
  induction s with
  | nil => simp [S1]
  | cons c s ih =>
    have := ih (fun c hc => h c (List.mem_cons_of_mem _ hc))
    have := h c (by simp)
    simp only [S1, v1]
    omega
theorem S2_pos {s : W} (h : plain s) (k : Nat) : 0 ≤ S2 k s := by
  induction s generalizing k with
  | nil => simp [S2]
  | cons c s ih =>
    have := ih (fun c hc => h c (List.mem_cons_of_mem _ hc)) (k + 1)
    have := h c (by simp)
    have hv : 0 ≤ v1 c := by simp only [v1]; omega
    have := Int.mul_nonneg hv (show (0 : Int) ≤ k by omega)
    simp only [S2]
    omega

theorem dg_plain {s : W} (h : 0 ≤ dg s) : plain s := by
  match s with
  | [] => simp [dg] at h
  | [a] => simp [dg] at h
  | [a, b] =>
    simp only [dg] at h
    split at h
    · rename_i hd
      simp only [isDg, Bool.and_eq_true, decide_eq_true_eq] at hd
      intro c hc
      simp at hc
      rcases hc with rfl | rfl <;> omega
    · omega
  | a :: b :: c :: s => simp [dg] at h

theorem row_plain {r : W} (h : isRow r = true) : plain r ∧ r.length ≤ 62 ∧ 2 ≤ r.length := by
  simp only [isRow, Bool.or_eq_true] at h
  rcases h with h | h
  · unfold numOf at h
    split at h
    · simp at h
    · rename_i hc
      simp only [Bool.or_eq_true, decide_eq_true_eq, Bool.not_eq_true', not_or, Bool.not_eq_false] at hc
      simp only [Bool.and_eq_true, decide_eq_true_eq] at h
      have h1 := dg_plain h.1
      have h2 := tx_lo hc.2
      have h3 : (r.drop 2).length ≤ 60 := by
        have := hc.2
        simp only [tx, Bool.and_eq_true, decide_eq_true_eq] at this
        exact this.2
      simp at h3
      refine ⟨fun c hc => ?_, by omega, by omega⟩
      rw [← List.take_append_drop 2 r] at hc
      rcases List.mem_append.1 hc with hc | hc
      · exact h1 c hc
      · exact h2 c hc
  · unfold manyOf at h
    split at h
    · simp at h
    · rename_i hc
      simp only [Bool.or_eq_true, decide_eq_true_eq, not_or, ne_eq, Decidable.not_not] at hc
      simp only [Bool.and_eq_true, decide_eq_true_eq] at h
      have h1 := dg_plain h.1
      refine ⟨fun c hc' => ?_, by omega, by omega⟩
      rw [← List.take_append_drop 2 r, hc.2] at hc'
      rcases List.mem_append.1 hc' with hc' | hc'
      · simp at hc'; subst hc'; decide
      · exact h1 c hc'

theorem lineOf_len (r : W) : (lineOf r).length = r.length + 4 := by simp [lineOf, two]

end Go.Bk

/- The contracts of the small functions. -/
set_option maxRecDepth 8000
namespace Go.Bk
open Go Go.Ev Go.Proofs Go.RowKit

section
variable {K : World → Prop} (hK : ∀ w w', K w → Below w.heap.size w w' → K w')
include hK

theorem good48 (s : W) : Ev.Good Tryd.prog K 48 [.str s] (.int .i64 (dg s)) := by
  refine good_of_wp hK c48_ok (by simp) ?_
  match s with
  | [] => simp [dg]
  | [a] => simp [dg]
  | [a, b] =>
    have ha := u8_lt a
    have hb := u8_lt b
    simp [dg, isDg]
    omega
  | a :: b :: c :: s => simp [dg]; omega

theorem good74 (s : W) (h : s.length = 2) : Ev.Good Tryd.prog K 74 [.str s] (.int .i64 (dg s)) := by
  refine good_of_wp hK c74_ok (by simp) ?_
  match s, h with
  | [a, b], _ =>
    have ha := u8_lt a
    have hb := u8_lt b
    simp [dg, isDg]
    omega

theorem good61 (s : W) (hs : s.length ≤ 1000000) : Ev.Good Tryd.prog K 61 [.str s] (.bool (tx s)) := by
  refine good_of_wp hK c61_ok (by simp) ?_
  simp
  refine loop_q (fun i => [(0, AV.iv (IV.str s)), (3, AV.iv (IV.int IntKind.i64 (i : Nat)))]) (fun _ => []) s.length (fun i => (s.take i).all (fun c => decide (32 ≤ c.toNat) && decide (c.toNat ≤ 126)) = true) (by simp) ?_ ?_
  · intro h
    rw [LoopAt_enter c61_b0.eq_1]
    rw [List.take_length] at h
    simp [tx, h]
    omega
  · intro i hi h ih
    have hc := u8_lt s[i]
    rw [LoopAt_enter c61_b0.eq_1]
    by_cases h1 : 32 ≤ s[i].toNat
    · by_cases h2 : s[i].toNat ≤ 126
      · have := ih (all_succ hi h (by simp [h1, h2]))
        simp [hi] at this ⊢
        repeat' (first | omega | assumption | intro _ | apply And.intro)
      · have e := not_all (p := fun c : UInt8 => decide (32 ≤ c.toNat) && decide (c.toNat ≤ 126)) hi (by simp [h2])
        simp [hi, tx, e]
        repeat' (first | omega | assumption | intro _ | apply And.intro)
    · have e := not_all (p := fun c : UInt8 => decide (32 ≤ c.toNat) && decide (c.toNat ≤ 126)) hi (by simp [h1])
      simp [hi, tx, e]
      repeat' (first | omega | assumption | intro _ | apply And.intro)

theorem good40 (s : W) (hs : s.length ≤ 1000000) : Ev.Good Tryd.prog K 40 [.str s] (.bool (tx s)) := by
  refine good_of_wp hK c40_ok (by simp) ?_
  simp
  refine loop_q (fun i => [(0, AV.iv (IV.str s)), (6, AV.oref 6)]) (fun i => [(6, AO.siter s i)]) s.length (fun i => (s.take i).all (fun c => decide (32 ≤ c.toNat) && decide (c.toNat ≤ 126)) = true) (by simp) ?_ ?_
  · intro h
    rw [LoopAt_enter c40_b0.eq_1]
    rw [List.take_length] at h
    simp [tx, h]
    omega
  · intro i hi h ih
    have hc := u8_lt s[i]
    rw [LoopAt_enter c40_b0.eq_1]
    by_cases h0 : s[i].toNat < 128
    · have hd := decS_lo s i hi h0
      by_cases h1 : 32 ≤ s[i].toNat
      · by_cases h2 : s[i].toNat ≤ 126
        · have := ih (all_succ hi h (by simp [h1, h2]))
          simp [hi, hd] at this ⊢
          repeat' (first | omega | assumption | intro _ | apply And.intro)
        · have e := not_all (p := fun c : UInt8 => decide (32 ≤ c.toNat) && decide (c.toNat ≤ 126)) hi (by simp [h2])
          simp [hi, hd, tx, e]
          repeat' (first | omega | assumption | intro _ | apply And.intro)
      · have e := not_all (p := fun c : UInt8 => decide (32 ≤ c.toNat) && decide (c.toNat ≤ 126)) hi (by simp [h1])
        simp [hi, hd, tx, e]
        repeat' (first | omega | assumption | intro _ | apply And.intro)
    · have hd := decS_hi s i hi (by omega)
      have e := not_all (p := fun c : UInt8 => decide (32 ≤ c.toNat) && decide (c.toNat ≤ 126)) hi (by simp; omega)
      simp [hi, tx, e]
      repeat' (first | omega | assumption | intro _ | apply And.intro)

theorem good49 (s : W) (hs : s.length ≤ 100000) : Ev.Good Tryd.prog K 49 [.str s] (.tup [.int .i64 ((S1 s).tmod 97), .int .i64 ((S2 1 s).tmod 97)]) := by
  refine good_of_wp hK c49_ok (by simp) ?_
  simp
  refine loop_up (fun i => [(0, AV.iv (IV.str s)), (2, AV.iv (IV.int IntKind.i64 (S1 (s.take i)))), (3, AV.iv (IV.int IntKind.i64 (S2 1 (s.take i)))), (4, AV.iv (IV.int IntKind.i64 (i : Nat)))]) (fun _ => []) s.length ?_ ?_
  · rw [LoopAt_enter c49_b0.eq_1]
    simp
  · intro i hi ih
    obtain ⟨e1, e2⟩ := S_step s i hi
    have r1 := S1_range (s.take (i + 1))
    have r2 := S2_range (s.take (i + 1)) 1 (by simp; omega)
    have q1 : ((s.take (i + 1)).length : Int) ≤ 100000 := by simp; omega
    obtain ⟨r3, r4⟩ := v1_range s[i]
    have q2 : v1 s[i] * ((i : Int) + 1) ≤ 223 * ((i : Int) + 1) := Int.mul_le_mul_of_nonneg_right r4 (by omega)
    have q3 : -32 * ((i : Int) + 1) ≤ v1 s[i] * ((i : Int) + 1) := Int.mul_le_mul_of_nonneg_right r3 (by omega)
    rw [LoopAt_enter c49_b0.eq_1]
    rw [e1, e2] at ih
    rw [e1] at r1
    rw [e2] at r2
    have ev : ((s[i].toNat : Int) - 32) = v1 s[i] := rfl
    simp [hi, ev] at ih ⊢
    rw [Int.mul_comm (v1 s[i])] at ih q2 q3 r2
    repeat' (first | omega | assumption | intro _ | apply And.intro)

theorem good59 (s : W) (hs : s.length ≤ 100000) : Ev.Good Tryd.prog K 59 [.str s] (.tup [.int .i64 ((S1 s).tmod 97), .int .i64 ((S2 1 s).tmod 97)]) := by
  refine good_of_wp hK c59_ok (by simp) ?_
  simp
  refine loop_up (fun i => [(0, AV.iv (IV.str s)), (2, AV.iv (IV.int IntKind.i64 (S1 (s.take i)))), (3, AV.iv (IV.int IntKind.i64 (S2 1 (s.take i)))), (7, AV.iv (IV.int IntKind.i64 (s.length : Nat))), (8, AV.iv (IV.int IntKind.i64 (i : Nat)))]) (fun _ => []) s.length ?_ ?_
  · rw [LoopAt_enter c59_b0.eq_1]
    simp
  · intro i hi ih
    obtain ⟨e1, e2⟩ := S_step s i hi
    have r1 := S1_range (s.take (i + 1))
    have r2 := S2_range (s.take (i + 1)) 1 (by simp; omega)
    have q1 : ((s.take (i + 1)).length : Int) ≤ 100000 := by simp; omega
    obtain ⟨r3, r4⟩ := v1_range s[i]
    have q2 : v1 s[i] * ((i : Int) + 1) ≤ 223 * ((i : Int) + 1) := Int.mul_le_mul_of_nonneg_right r4 (by omega)
    have q3 : -32 * ((i : Int) + 1) ≤ v1 s[i] * ((i : Int) + 1) := Int.mul_le_mul_of_nonneg_right r3 (by omega)
    rw [LoopAt_enter c59_b0.eq_1]
    rw [e1, e2] at ih
    rw [e1] at r1
    rw [e2] at r2
    have ev : ((s[i].toNat : Int) - 32) = v1 s[i] := rfl
    simp [hi, ev] at ih ⊢
    repeat' (first | omega | assumption | intro _ | apply And.intro)

theorem good52 (n : Nat) (hn : n < 100) : Ev.Good Tryd.prog K 52 [.int .i64 (n : Nat)] (.str (two n)) := by
  refine good_of_wp hK c52_ok (by simp) ?_
  have h1 : ((n : Int)).tdiv 10 = (n : Int) / 10 := Int.tdiv_eq_ediv_of_nonneg (by omega)
  have h2 : ((n : Int)).tmod 10 = (n : Int) % 10 := Int.tmod_eq_emod_of_nonneg (by omega)
  have w1 : IntKind.u8.wrap (48 + (n : Int) / 10) = 48 + (n : Int) / 10 := wrap_u8 (by omega) (by omega)
  have w2 : IntKind.u8.wrap (48 + (n : Int) % 10) = 48 + (n : Int) % 10 := wrap_u8 (by omega) (by omega)
  have t1 : (48 + (n : Int) / 10).toNat = 48 + n / 10 := by omega
  have t2 : (48 + (n : Int) % 10).toNat = 48 + n % 10 := by omega
  simp [h1, h2, w1, w2, two, bytesV, t1, t2]
  omega

theorem good60 (n : Nat) (hn : n < 100) : Ev.Good Tryd.prog K 60 [.int .i64 (n : Nat)] (.str (two n)) := by
  refine good_of_wp hK c60_ok (by simp) ?_
  have h1 : ((n : Int)).tdiv 10 = (n : Int) / 10 := Int.tdiv_eq_ediv_of_nonneg (by omega)
  have h2 : ((n : Int)).tmod 10 = (n : Int) % 10 := Int.tmod_eq_emod_of_nonneg (by omega)
  have w1 : IntKind.i32.wrap (48 + (n : Int) / 10) = 48 + (n : Int) / 10 := wrap_i32 (by omega) (by omega)
  have w2 : IntKind.i32.wrap (48 + (n : Int) % 10) = 48 + (n : Int) % 10 := wrap_i32 (by omega) (by omega)
  have t1 : (48 + (n : Int) / 10).toNat = 48 + n / 10 := by omega
  have t2 : (48 + (n : Int) % 10).toNat = 48 + n % 10 := by omega
  simp [h1, h2, two, bytesV, runesOf, w1, w2, t1, t2]
  omega

theorem good66 (a b : W) (h : a.length ≤ b.length) (hb : b.length ≤ 1000000) : Ev.Good Tryd.prog K 66 [.str a, .str b] (.int .i64 (diff a b : Nat)) := by
  refine good_of_wp hK c66_ok (by simp) ?_
  simp
  refine loop_up (fun i => [(0, AV.iv (IV.str a)), (1, AV.iv (IV.str b)), (5, AV.iv (IV.int IntKind.i64 (diff (a.take i) b : Nat))), (6, AV.iv (IV.int IntKind.i64 (i : Nat)))]) (fun _ => []) a.length ?_ ?_
  · rw [LoopAt_enter c66_b0.eq_1]
    simp
  · intro i hi ih
    have hi' : i < b.length := by omega
    have e := diff_step a b i hi hi'
    have l := diff_le (a.take i) b
    rw [List.length_take] at l
    rw [LoopAt_enter c66_b0.eq_1]
    have hne := u8_int a[i] b[i]
    by_cases hc : a[i] = b[i]
    · rw [if_pos hc] at e
      rw [e] at ih
      simp [hi, hi', hne, hc] at ih ⊢
      repeat' (first | omega | assumption | intro _ | apply And.intro)
    · rw [if_neg hc] at e
      rw [e] at ih
      simp [hi, hi', hne, hc] at ih ⊢
      repeat' (first | omega | assumption | intro _ | apply And.intro)

theorem good73 (a b : W) (h : a.length ≤ b.length) (hb : b.length ≤ 1000000) : Ev.Good Tryd.prog K 73 [.str a, .str b] (.int .i64 (diff a b : Nat)) := by
  refine good_of_wp hK c73_ok (by simp) ?_
  simp
  refine loop_up (fun i => [(0, AV.iv (IV.str a)), (1, AV.iv (IV.str b)), (5, AV.iv (IV.int IntKind.i64 (diff (a.take i) b : Nat))), (8, AV.iv (IV.int IntKind.i64 (a.length : Nat))), (9, AV.iv (IV.int IntKind.i64 (i : Nat)))]) (fun _ => []) a.length ?_ ?_
  · rw [LoopAt_enter c73_b0.eq_1]
    simp
  · intro i hi ih
    have hi' : i < b.length := by omega
    have e := diff_step a b i hi hi'
    have l := diff_le (a.take i) b
    rw [List.length_take] at l
    rw [LoopAt_enter c73_b0.eq_1]
    have hne := u8_int a[i] b[i]
    by_cases hc : a[i] = b[i]
    · rw [if_pos hc] at e
      rw [e] at ih
      simp [hi, hi', hne, hc] at ih ⊢
      repeat' (first | omega | assumption | intro _ | apply And.intro)
    · rw [if_neg hc] at e
      rw [e] at ih
      simp [hi, hi', hne, hc] at ih ⊢
      repeat' (first | omega | assumption | intro _ | apply And.intro)

theorem good70 (r : W) : Ev.Good Tryd.prog K 70 [.str r] (.tup [.int .i64 (manyOf r).1, .bool (manyOf r).2]) := by
  refine good_of_wp hK c70_ok (by simp) ?_
  by_cases h4 : r.length = 4
  · have ht : r.take 4 = r := List.take_of_length_le (by omega)
    by_cases hp : r.take 2 = [46, 46]
    · have e : manyOf r = (dg (r.drop 2), decide (0 ≤ dg (r.drop 2)) && decide (dg (r.drop 2) ≤ 40)) := by simp [manyOf, h4, hp]
      rw [e]
      simp [h4, hp, ht]
      refine callK_of (good48 hK (r.drop 2)) (by simp) ?_
      by_cases hd : 0 ≤ dg (r.drop 2) <;> simp [hd]
    · have e : manyOf r = (0, false) := by simp [manyOf, h4, hp]
      rw [e]
      simp [h4, hp]
  · have hi : ¬ ((r.length : Int) = 4) := by omega
    have e : manyOf r = (0, false) := by simp [manyOf, h4]
    rw [e]
    simp [hi]

theorem good71 (r : W) (h : r.length ≤ 1000000) : Ev.Good Tryd.prog K 71 [.str r] (.tup [.int .i64 (numOf r).1, .str (numOf r).2.1, .bool (numOf r).2.2]) := by
  refine good_of_wp hK c71_ok (by simp) ?_
  by_cases h2 : r.length < 2
  · have hi : ((r.length : Int) < 2) := by omega
    have e : numOf r = (0, [], false) := by simp [numOf, h2]
    rw [e]
    simp [hi]
  · have hi : ¬ ((r.length : Int) < 2) := by omega
    have hi' : (2 : Int) ≤ (r.length : Int) := by omega
    have ht : r.take r.length = r := List.take_length
    simp [hi, hi']
    refine callK_of (good61 hK (r.drop 2) (by simp; omega)) (by simp) ?_
    by_cases hx : tx (r.drop 2) = true
    · have e : numOf r = (dg (r.take 2), r.drop 2, decide (0 ≤ dg (r.take 2)) && decide (dg (r.take 2) < 40)) := by simp [numOf, h2, hx]
      rw [e]
      simp [hx]
      refine ⟨hi', callK_of (good48 hK (r.take 2)) (by simp) ?_⟩
      by_cases hd : 0 ≤ dg (r.take 2) <;> simp [hd, hi']
    · have e : numOf r = (0, [], false) := by simp [numOf, hx]
      rw [e]
      simp [hx]

theorem good65 (r : W) (h : r.length ≤ 1000000) : Ev.Good Tryd.prog K 65 [.str r] (.bool (isRow r)) := by
  refine good_of_wp hK c65_ok (by simp) ?_
  simp
  refine callK_of (good71 hK r h) (by simp) ?_
  simp
  refine callK_of (good70 hK r) (by simp) ?_
  by_cases h1 : (numOf r).2.2 = true <;> simp [h1, isRow]

theorem good29 (r : W) (h : plain r) (hl : r.length ≤ 100000) : Ev.Good Tryd.prog K 29 [.str r] (.str (lineOf r)) := by
  refine good_of_wp hK c29_ok (by simp) ?_
  simp
  refine callK_of (good49 hK r hl) (by simp) ?_
  simp
  have e1 : (S1 r).tmod 97 = ((S1 r % 97).toNat : Nat) := by rw [Int.tmod_eq_emod_of_nonneg (S1_pos h)]; omega
  have e2 : (S2 1 r).tmod 97 = ((S2 1 r % 97).toNat : Nat) := by rw [Int.tmod_eq_emod_of_nonneg (S2_pos h 1)]; omega
  rw [e1, e2]
  have el : lineOf r = r ++ two (S1 r % 97).toNat ++ two (S2 1 r % 97).toNat := rfl
  rw [el]
  have h1 : (S1 r % 97).toNat < 100 := by omega
  have h2 : (S2 1 r % 97).toNat < 100 := by omega
  generalize (S1 r % 97).toNat = a at *
  generalize (S2 1 r % 97).toNat = b at *
  refine callK_of (good52 hK a h1) (by simp) ?_
  have la : (two a).length = 2 := rfl
  have lb : (two b).length = 2 := rfl
  simp [la]
  refine ⟨by omega, callK_of (good52 hK b h2) (by simp) ?_⟩
  simp [la, lb]
  omega
end
end Go.Bk
