/- The examples of the chapter, and the number of a truth. -/
import Derived.Test.YtahldekpgadgdaaDoorCourts
set_option linter.all false

namespace Go.Pp
open Go Go.Ev Go.Proofs Go.RowKit

def exW : W := [110, 111, 116, 32, 97, 32, 97, 110, 100, 32, 98, 32, 111, 114, 32, 99]
def exF : List Int := [3, 3, 1]
def exT : W := [40, 40, 110, 111, 116, 32, 40, 97, 32, 97, 110, 100, 32, 98, 41, 41, 32, 111, 114, 32, 99, 41]
theorem ex_fit : fit exW := by
  unfold fit
  decide +kernel
theorem ex_err : err exW exF = 0 := by decide +kernel
theorem ex_len : (rs exW exF).length = 5 := by decide +kernel
theorem ex_text : (rdAt exW exF 3).map text = some exT := by decide +kernel
theorem ex_means : (rdAt exW exF 1).map (meansOf exF) = some 2 := by decide +kernel
theorem ex_best : bestN (cnt exF) (rs exW exF) 5 = 1 := by decide +kernel
theorem ex_matters : mattersL exW exF = [0] := by decide +kernel

def numN (v : List Int) : Nat → Nat
  | 0 => 0
  | i + 1 => numN v i + (v.getD i 0).toNat * 2 ^ i
def numOk (fs v : List Int) : Bool := decide (v.length = fs.length) && v.all fun x => decide (0 ≤ x) && decide (x ≤ 1)
def numV (fs v : List Int) : IV := if numOk fs v then .tup [.int .i64 (numN v v.length : Nat), .bool (decide (numN v v.length ∈ tru fs))] else .tup [.int .i64 0, .bool false]
theorem numN_lt (v : List Int) (h : ∀ x ∈ v, 0 ≤ x ∧ x ≤ 1) : ∀ i, i ≤ v.length → numN v i < 2 ^ i
  | 0, _ => by simp [numN]
  | i + 1, hi => by
    have ih := numN_lt v h i (by omega)
    have h1 := h _ (List.getElem_mem (show i < v.length from hi))
    have h2 : v.getD i 0 = v[i] := by simp [show i < v.length from hi]
    have h3 : (v[i]).toNat ≤ 1 := by omega
    have h4 : (v[i]).toNat * 2 ^ i ≤ 1 * 2 ^ i := Nat.mul_le_mul_right _ h3
    simp only [numN, h2]
    rw [Nat.pow_succ]
    omega

theorem numN_lt' (v : List Int) : ∀ i, (∀ x ∈ v.take i, 0 ≤ x ∧ x ≤ 1) → i ≤ v.length → numN v i < 2 ^ i
  | 0, _, _ => by simp [numN]
  | i + 1, h, hi => by
    have hi' : i < v.length := hi
    have ih := numN_lt' v i (fun x hx => h x (by rw [List.take_succ_eq_append_getElem hi']; exact List.mem_append_left _ hx)) (by omega)
    have h1 := h v[i] (by rw [List.take_succ_eq_append_getElem hi']; exact List.mem_append_right _ (List.mem_singleton.2 rfl))
    have h2 : v.getD i 0 = v[i] := by simp [hi']
    have h3 : (v[i]).toNat ≤ 1 := by omega
    have h4 : (v[i]).toNat * 2 ^ i ≤ 1 * 2 ^ i := Nat.mul_le_mul_right _ h3
    simp only [numN, h2]
    rw [Nat.pow_succ]
    omega

section
variable {K : World → Prop} (hK : ∀ w w', K w → Below w.heap.size w w' → K w')
include hK
theorem good34 (s : W) (fs v : List Int) (hc : factsOk fs = true) : Good Tryd.prog K 34 [paperV s fs, ints v] (numV fs v) := by
  have hf := factsOk_len hc
  refine good_of_wp hK c34_ok (by simp) ?_
  simp
  refine fun _ _ => ⟨fun e => ?_, fun e => ?_⟩
  · have : numOk fs v = false := by simp [numOk]; intro c; omega
    simp [numV, this]
  have hl : v.length = fs.length := by omega
  refine loop_q (fun i => [(1, .iv (ints v)), (2, .iv (.ptr [.str s, ints fs])), (6, .iv (.int .i64 (numN v i : Nat))), (7, .iv (.int .i64 (i : Nat)))]) (fun _ => []) v.length (fun i => ∀ x ∈ v.take i, 0 ≤ x ∧ x ≤ 1) (by simp) ?_ ?_
  · intro hq
    simp at hq
    have h1 : numOk fs v = true := by simp [numOk, hl]; exact hq
    rw [LoopAt_enter c34_b0.eq_1]
    simp
    intro _
    refine callK_of (good25 hK s fs hf) (by simp) ?_
    simp
    refine callK_of (good60n hK (truths fs) (numN v v.length)) (by simp) ?_
    simp [numV, h1, tru_eq fs hc]
  · intro i hi hq ih
    rw [LoopAt_enter c34_b0.eq_1]
    simp [hi]
    intro _
    refine callK_of (good42 hK v[i] 0 1) (by simp) ?_
    simp [hi]
    refine ⟨fun e => ?_, fun e1 e2 => ?_⟩
    · have : numOk fs v = false := by
        cases hn : numOk fs v with
        | false => rfl
        | true =>
          simp [numOk] at hn
          have := hn.2 _ (List.getElem_mem hi)
          omega
      simp [numV, this]
    · have hq' : ∀ x ∈ v.take (i + 1), 0 ≤ x ∧ x ≤ 1 := by
        intro x hx
        rw [List.take_succ_eq_append_getElem hi] at hx
        rcases List.mem_append.1 hx with c | c
        · exact hq x c
        · rw [List.mem_singleton] at c; subst c; exact ⟨e1, e2⟩
      have ih := ih hq'
      have e3 : numN v (i + 1) = numN v i + (v[i]).toNat * 2 ^ i := by simp [numN, hi]
      have h1 := numN_lt' v (i + 1) hq' hi
      rw [e3] at ih h1
      have hp : 2 ^ (i + 1) ≤ 2 ^ 6 := Nat.pow_le_pow_right (by omega) (by omega)
      have hw : IntKind.wrap .u64 (i : Int) = i := wrap_u64 (by omega) (by omega)
      have hsh : shlV .i64 v[i] (i : Int) = (((v[i]).toNat * 2 ^ i : Nat) : Int) := by
        have := shl_i64 (v[i]).toNat i (by omega) (by omega)
        rw [Int.toNat_of_nonneg e1] at this
        exact this
      generalize (v[i]).toNat * 2 ^ i = z at *
      simp [hw, hsh] at ih ⊢
      exact ⟨by omega, by omega, ih⟩

variable (hS : ∀ s : W, s.length ≤ 1000 → Good Tryd.prog K 63 [.str s, .str [32]] (strs (spl s)))
include hS
set_option maxRecDepth 8000 in
theorem good13 : Good Tryd.prog K 13 [] (.bool true) := by
  have h3 : ∃ r, rdAt exW exF 3 = some r ∧ text r = exT := by
    have := ex_text
    cases h : rdAt exW exF 3 with
    | none => rw [h] at this; cases this
    | some r => rw [h] at this; exact ⟨r, rfl, by simpa using this⟩
  have h1 : ∃ r, rdAt exW exF 1 = some r ∧ meansOf exF r = 2 := by
    have := ex_means
    cases h : rdAt exW exF 1 with
    | none => rw [h] at this; cases this
    | some r => rw [h] at this; exact ⟨r, rfl, by simpa using this⟩
  obtain ⟨r3, a3, b3⟩ := h3
  obtain ⟨r1, a1, b1⟩ := h1
  have g21 := good21 hK hS exW exF ex_fit
  have g16 := good16 hK hS exW exF 3 ex_fit
  have g28 := good28 hK hS exW exF 1 ex_fit
  have g31 := good31 hK hS exW exF ex_fit
  have g40 := good40 hK hS exW exF ex_fit
  have g49 := good49 hK
  have g24 := good24 hK [0] [0]
  simp only [writeV, meansV, strictV, mattersV, a3, a1, b3, b1, oneE_some a3, oneE_some a1, ex_err, ex_len, ex_best, ex_matters] at g21 g16 g28 g31 g40
  refine good_of_wp hK c13_ok (by simp) ?_
  simp
  refine callK_of g49 (by simp) ?_
  simp
  refine callK_of g21 (by simp) ?_
  simp
  refine callK_of g16 (by simp) ?_
  simp
  refine callK_of g28 (by simp) ?_
  simp
  refine callK_of g31 (by simp) ?_
  simp
  refine callK_of g40 (by simp) ?_
  simp [exT]
  refine callK_of g24 (by simp) ?_
  simp
end
end Go.Pp
