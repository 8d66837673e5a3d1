/- Readings and truths of papers, as plain data, and the small functions. -/
import Derived.Test.YtahldekpgadgdaaDoorCodes
import Derived.Test.YtahldekpgadgdaaDoorEvThree
set_option linter.all false

namespace Go.Pp
open Go Go.Ev Go.Proofs Go.RowKit

attribute [simp] maxLen_val

abbrev W := List UInt8
inductive Op where
  | and | or | ifw
  deriving DecidableEq
def Op.word : Op → W
  | .and => [97, 110, 100]
  | .or => [111, 114]
  | .ifw => [105, 102]
def wNot : W := [110, 111, 116]
def opOf (w : W) : Option Op := if w = [97, 110, 100] then some .and else if w = [111, 114] then some .or else if w = [105, 102] then some .ifw else none
def isOpW (w : W) : Bool := (opOf w).isSome

inductive Rd where
  | fact (n : Nat)
  | no (r : Rd)
  | bin (o : Op) (a b : Rd)

def encC : Rd → List IV
  | .fact n => [.int .i64 n, .str [], .nilp, .nilp]
  | .no r => [.int .i64 0, .str wNot, .nilp, .ptr (encC r)]
  | .bin o a b => [.int .i64 0, .str o.word, .ptr (encC a), .ptr (encC b)]
@[simp] def enc (r : Rd) : IV := .ptr (encC r)

def val : Rd → Nat → Bool
  | .fact n, t => t.testBit n
  | .no r, t => !val r t
  | .bin .and a b, t => val a t && val b t
  | .bin .or a b, t => val a t || val b t
  | .bin .ifw a b, t => val a t || !val b t

def text : Rd → W
  | .fact n => [UInt8.ofNat (97 + n)]
  | .no r => [40, 110, 111, 116, 32] ++ text r ++ [41]
  | .bin o a b => [40] ++ text a ++ [32] ++ o.word ++ [32] ++ text b ++ [41]

/-- All facts are among the first six. -/
def fok : Rd → Prop
  | .fact n => n < 6
  | .no r => fok r
  | .bin _ a b => fok a ∧ fok b

@[simp] def ints (l : List Int) : IV := .sl 1 (l.map fun n => [.int .i64 n])
@[simp] def nats (l : List Nat) : IV := .sl 1 (l.map fun n => [.int .u64 (n : Nat)])
@[simp] def strs (l : List W) : IV := .sl 1 (l.map fun s => [.str s])
@[simp] def rds (l : List Rd) : IV := .sl 1 (l.map fun r => [enc r])
@[simp] def paperV (w : W) (fs : List Int) : IV := .agg [.str w, ints fs]

def known (a b : Int) : Int := if a = b then 1 else if a = 0 then 2 else 3
def agrees (k : Int) (b : Bool) : Bool := if k = 1 then b else if k = 2 then !b else decide (k = 3)
def joinB (w : W) (a b : Nat) : Nat := if w = [97, 110, 100] then a &&& b else if w = [111, 114] then a ||| b else a ||| (18446744073709551615 ^^^ b)
def factSet (n : Nat) : Nat → Nat
  | 0 => 0
  | i + 1 => if i.testBit n then factSet n i ||| 2 ^ i else factSet n i

theorem factSet_lt (n i : Nat) (h : i ≤ 64) : factSet n i < 2 ^ 64 := by
  induction i with
  | zero => simp [factSet]
  | succ i ih =>
    simp only [factSet]
    split
    · exact Nat.or_lt_two_pow (ih (by omega)) (Nat.pow_lt_pow_right (by omega) (by omega))
    · exact ih (by omega)

section
variable {K : World → Prop} (hK : ∀ w w', K w → Below w.heap.size w w' → K w')
include hK

theorem good36 (n : Int) : Good Tryd.prog K 36 [.int .i64 n] (.bool (decide (1 ≤ n) && decide (n ≤ 3))) := by
  refine good_of_wp hK c36_ok (by simp) ?_
  simp
  omega

theorem good42 (n l h : Int) : Good Tryd.prog K 42 [.int .i64 n, .int .i64 l, .int .i64 h] (.bool (decide (l ≤ n) && decide (n ≤ h))) := by
  refine good_of_wp hK c42_ok (by simp) ?_
  simp
  omega

theorem good37 (k : Int) (b : Bool) : Good Tryd.prog K 37 [.int .i64 k, .bool b] (.bool (agrees k b)) := by
  refine good_of_wp hK c37_ok (by simp) ?_
  simp [agrees]
  split <;> simp_all

theorem good56 (a b : Int) : Good Tryd.prog K 56 [.int .i64 a, .int .i64 b] (.int .i64 (known a b)) := by
  refine good_of_wp hK c56_ok (by simp) ?_
  simp [known]
  split <;> simp_all

theorem good60 (l : List Int) (n : Int) : Good Tryd.prog K 60 [ints l, .int .i64 n] (.bool (decide (n ∈ l))) := by
  refine good_of_wp hK c60_ok (by simp) ?_
  simp
  refine loop_q (fun i => [(0, AV.iv (ints l)), (1, AV.iv (IV.int IntKind.i64 n)), (5, AV.iv (IV.int IntKind.i64 (i : Nat)))]) (fun _ => []) l.length (fun i => n ∉ l.take i) (by simp) ?_ ?_
  · intro h
    rw [LoopAt_enter c60_b0.eq_1]
    simp at h ⊢
    exact fun _ => h
  · intro i hi h ih
    rw [LoopAt_enter c60_b0.eq_1]
    simp [hi] at h ih ⊢
    refine fun hl => ⟨fun e => e ▸ List.getElem_mem hi, fun e => ⟨by omega, ih ?_⟩⟩
    rw [List.take_succ_eq_append_getElem hi]
    simp only [List.mem_append, List.mem_singleton, not_or]
    exact ⟨h, fun c => e c.symm⟩

theorem good62 (l m : List Int) : Good Tryd.prog K 62 [ints l, ints m] (.bool (l.all (· ∈ m) && decide (l.length ≤ m.length))) := by
  refine good_of_wp hK c62_ok (by simp) ?_
  simp
  refine loop_q (fun i => [(0, AV.iv (ints l)), (1, AV.iv (ints m)), (5, AV.iv (IV.int IntKind.i64 (i : Nat)))]) (fun _ => []) l.length (fun i => ∀ n ∈ l.take i, n ∈ m) (by simp) ?_ ?_
  · intro h
    rw [LoopAt_enter c62_b0.eq_1]
    simp at h ⊢
    exact fun _ _ _ => h
  · intro i hi h ih
    rw [LoopAt_enter c62_b0.eq_1]
    simp [hi] at h ih ⊢
    intro hl
    refine callK_of (good60 hK m l[i]) (by simp) ?_
    simp
    refine ⟨fun e c => absurd (c _ (List.getElem_mem hi)) e, fun e => ⟨by omega, ih ?_⟩⟩
    rw [List.take_succ_eq_append_getElem hi]
    intro n hn
    rcases List.mem_append.1 hn with c | c
    · exact h n c
    · rw [List.mem_singleton] at c; subst c; exact e

theorem good24 (l m : List Int) : Good Tryd.prog K 24 [ints l, ints m] (.bool (decide (l = m))) := by
  refine good_of_wp hK c24_ok (by simp) ?_
  simp
  intro hl hm
  refine ⟨fun e c => e (by rw [c]), fun e => ?_⟩
  have e : l.length = m.length := by omega
  refine loop_q (fun i => [(0, AV.iv (ints l)), (1, AV.iv (ints m)), (5, AV.iv (IV.int IntKind.i64 (i : Nat)))]) (fun _ => []) l.length (fun i => l.take i = m.take i) (by simp) ?_ ?_
  · intro h
    rw [LoopAt_enter c24_b0.eq_1]
    simp at h ⊢
    intro _
    rw [e, List.take_length] at h
    exact h
  · intro i hi h ih
    have hi' : i < m.length := by omega
    rw [LoopAt_enter c24_b0.eq_1]
    simp [hi, hi'] at h ih ⊢
    intro _
    refine ⟨fun e c => e (by subst c; rfl), fun e => ⟨by omega, ih ?_⟩⟩
    rw [List.take_succ_eq_append_getElem hi, List.take_succ_eq_append_getElem hi', h, e]

theorem good66 (w : W) : Good Tryd.prog K 66 [.str w] (.bool (isOpW w)) := by
  refine good_of_wp hK c66_ok (by simp) ?_
  simp [isOpW, opOf]
  split <;> simp_all
  split <;> simp_all

theorem good67 (w : W) (a b : Nat) (ha : a < 2 ^ 64) (hb : b < 2 ^ 64) : Good Tryd.prog K 67 [.str w, .int .u64 a, .int .u64 b] (.int .u64 (joinB w a b : Nat)) := by
  refine good_of_wp hK c67_ok (by simp) ?_
  have hx := xor_u64 18446744073709551615 b (by omega) hb
  have hx' : 18446744073709551615 ^^^ b < 2 ^ 64 := Nat.xor_lt_two_pow (by omega) hb
  have ho := or_u64 a (18446744073709551615 ^^^ b) ha hx'
  rw [← hx] at ho
  simp [joinB, and_u64 a b ha hb, or_u64 a b ha hb]
  split <;> simp_all

theorem good65 (n : Nat) (hn : n < 64) : Good Tryd.prog K 65 [.int .i64 n] (.int .u64 (factSet n 64 : Nat)) := by
  refine good_of_wp hK c65_ok (by simp) ?_
  simp
  refine loop_q (fun i => [(0, AV.iv (IV.int IntKind.i64 n)), (3, AV.iv (IV.int IntKind.u64 (factSet n i : Nat))), (4, AV.iv (IV.int IntKind.i64 (i : Nat)))]) (fun _ => []) 64 (fun _ => True) trivial ?_ ?_
  · intro h
    rw [LoopAt_enter c65_b0.eq_1]
    simp
  · intro i hi h ih
    have h1 : IntKind.wrap .u64 (n : Int) = n := wrap_u64 (by omega) (by omega)
    have h2 : IntKind.wrap .u64 (i : Int) = i := wrap_u64 (by omega) (by omega)
    have h3 := shl_u64 1 i hi (by rw [Nat.one_mul]; exact Nat.pow_lt_pow_right (by omega) hi)
    have h4 := or_u64 (factSet n i) (2 ^ i) (factSet_lt n i (by omega)) (Nat.pow_lt_pow_right (by omega) hi)
    simp at h3 h4
    rw [LoopAt_enter c65_b0.eq_1]
    have hf : factSet n (i + 1) = if i.testBit n then factSet n i ||| 2 ^ i else factSet n i := rfl
    have hi' : (i : Int) < 64 := by omega
    simp [h1, h2, bit_i64 i n (by omega), toNat_one, h3, h4, hf, hi'] at ih ⊢
    refine ⟨fun e => ⟨by omega, ?_⟩, fun e => ⟨by omega, ?_⟩⟩
    · simpa [e] using ih
    · simpa [e] using ih

theorem good61 (r : Rd) (t : Nat) (ht : t < 2 ^ 64) : Good Tryd.prog K 61 [enc r, .int .u64 t] (.bool (val r t)) := by
  induction r with
  | fact n =>
    refine good_of_wp hK c61_ok (by simp) ?_
    simp [encC, val, bit_u64 t n ht, toNat_one]
  | no r ih =>
    refine good_of_wp hK c61_ok (by simp) ?_
    simp [encC, wNot, val]
    refine callK_of ih (by simp) ?_
    simp
  | bin o a b ia ib =>
    refine good_of_wp hK c61_ok (by simp) ?_
    cases o <;> simp [encC, val, Op.word] <;> refine callK_of ia (by simp) ?_ <;> simp <;>
      refine ⟨fun e => ?_, fun e => ?_⟩ <;> first | (refine callK_of ib (by simp) ?_; simp [e]) | simp [e]

end
end Go.Pp

/- Texts, truths, and how often a reading is true. -/
namespace Go.Pp
open Go Go.Ev Go.Proofs Go.RowKit

def spStep (out : List W) (c : UInt8) : List W := if c = 32 then out ++ [[]] else out.set (out.length - 1) (out.getD (out.length - 1) [] ++ [c])
def spl (s : W) : List W := s.foldl spStep [[]]

def okT (fs : List Int) (n : Nat) : Nat → Bool
  | 0 => true
  | i + 1 => okT fs n i && (!n.testBit i || decide (fs.getD i 0 ≠ 2)) && (n.testBit i || decide (fs.getD i 0 ≠ 1))
def truthsN (fs : List Int) (m : Nat) : List Nat := (List.range m).filter fun n => okT fs n fs.length
def truths (fs : List Int) : List Nat := truthsN fs (2 ^ fs.length)
@[simp] def natsI (l : List Nat) : IV := .sl 1 (l.map fun n => [.int .i64 (n : Nat)])
theorem truthsN_succ (fs : List Int) (n : Nat) : truthsN fs (n + 1) = truthsN fs n ++ (if okT fs n fs.length then [n] else []) := by
  simp [truthsN, List.range_succ, List.filter_append, List.filter_cons]
theorem truthsN_len (fs : List Int) (n : Nat) : (truthsN fs n).length ≤ n := by
  have := List.length_filter_le (fun n => okT fs n fs.length) (List.range n)
  simpa [truthsN] using this
theorem natsI_eq (l : List Nat) : natsI l = ints (l.map (fun n : Nat => (n : Int))) := by simp [Function.comp_def]

section
variable {K : World → Prop} (hK : ∀ w w', K w → Below w.heap.size w w' → K w')
include hK

theorem good18 (s : W) (hs : s.length < 4294967296) : Good Tryd.prog K 18 [.str s] (strs (spl s)) := by
  refine good_of_wp hK c18_ok (by simp) ?_
  simp
  refine loop_i s.length (fun i e o => ∃ mv, mv ≤ ((s.take i).foldl spStep [[]]).length ∧ 0 < ((s.take i).foldl spStep [[]]).length ∧ ((s.take i).foldl spStep [[]]).length ≤ i + 1 ∧ (∀ x ∈ (s.take i).foldl spStep [[]], x.length ≤ i) ∧
    e = [(0, AV.iv (IV.str s)), (3, AV.aref 5 ((s.take i).foldl spStep [[]]).length), (4, AV.iv (IV.int IntKind.i64 (i : Nat)))] ∧
    o = [(5, AO.arr 9 1 (emb (((s.take i).foldl spStep [[]]).map fun s => [.str s])) mv)]) ?_ ?_ _ _ ⟨0, by simp, by simp, by simp, by simp, rfl, rfl⟩
  · rintro e o ⟨mv, h1, h2, h3, _, rfl, rfl⟩
    rw [LoopAt_enter c18_b0.eq_1]
    simp [spl] at h1 h2 h3 ⊢
    simp [h1]
  · rintro i e o hi ⟨mv, h1, h2, h3, hx, rfl, rfl⟩ ih
    have e1 : (s.take (i + 1)).foldl spStep [[]] = spStep ((s.take i).foldl spStep [[]]) s[i] := by
      rw [List.take_succ_eq_append_getElem hi, List.foldl_append]
      rfl
    rw [LoopAt_enter c18_b0.eq_1]
    rw [e1] at ih
    generalize (s.take i).foldl spStep [[]] = X at *
    have h4 : X.length - 1 < X.length := by omega
    have h5 : ((X.length : Int) - 1).toNat = X.length - 1 := by omega
    have h6 : s[i].toNat < 256 := s[i].toNat_lt
    have h7 : s[i] = 32 ↔ (s[i].toNat : Int) = 32 := by
      rw [← UInt8.toNat_inj]
      simp
      omega
    simp [hi]
    refine ⟨fun e => ⟨⟨h1, by omega, by omega⟩, by omega, ?_⟩, fun e => ⟨h1, fun _ => ⟨by omega, ⟨by omega, h4, h1⟩, ?_⟩⟩⟩
    · refine ih _ _ ⟨mv, ?_, ?_, ?_, ?_, ?_, ?_⟩ <;> simp [spStep, h7.2 e]
      · omega
      · omega
      · intro x hm
        rcases hm with hm | hm
        · exact Nat.le_succ_of_le (hx x hm)
        · simp [hm]
    · simp [h4, h5, bytesOf, bytesV, hi]
      have h8 : ¬ s[i] = 32 := fun c => e (h7.1 c)
      have h9 := hx _ (List.getElem_mem h4)
      refine ⟨h1, by omega, by omega, ⟨by omega, h1⟩, h1, by omega, ?_⟩
      refine ih _ _ ⟨X.length, ?_, ?_, ?_, ?_, ?_, ?_⟩ <;> simp [spStep, h8, h2, h4]
      · omega
      · intro x hm
        rcases List.mem_or_eq_of_mem_set hm with c | c
        · exact Nat.le_succ_of_le (hx x c)
        · subst c; simp; omega

theorem good25 (s : W) (fs : List Int) (hf : fs.length ≤ 6) : Good Tryd.prog K 25 [paperV s fs] (natsI (truths fs)) := by
  refine good_of_wp hK c25_ok (by simp) ?_
  simp
  have h1 : IntKind.wrap .u64 (fs.length : Int) = fs.length := wrap_u64 (by omega) (by omega)
  have hp : 2 ^ fs.length ≤ 2 ^ 6 := Nat.pow_le_pow_right (by omega) hf
  have h2 := shl_i64 1 fs.length (by omega) (by omega)
  simp at h2
  refine loop_q (fun n => [(1, AV.iv (.ptr [.str s, ints fs])), (3, AV.aref 3 (truthsN fs n).length), (4, AV.iv (IV.int IntKind.i64 (n : Nat)))]) (fun n => [(3, AO.arr 3 1 (emb ((truthsN fs n).map fun n => [.int .i64 (n : Nat)])) 0)]) (2 ^ fs.length) (fun _ => True) trivial ?_ ?_
  · intro h
    rw [LoopAt_enter c25_b1.eq_1]
    have h3 : ¬ ((2 ^ fs.length : Nat) : Int) < 2 ^ fs.length := by push_cast; omega
    simp [h1, h2, truths]
  · intro n hn _ ih
    have hn' : (n : Int) < 2 ^ fs.length := by exact_mod_cast hn
    rw [LoopAt_enter c25_b1.eq_1]
    simp [h1, h2, hn']
    intro _
    refine loop_q (fun i => [(1, AV.iv (.ptr [.str s, ints fs])), (3, AV.aref 3 (truthsN fs n).length), (4, AV.iv (IV.int IntKind.i64 (n : Nat))), (5, AV.iv (IV.bool (okT fs n i))), (6, AV.iv (IV.int IntKind.i64 (i : Nat)))])
      (fun i => [(3, AO.arr 3 1 (emb ((truthsN fs n).map fun n => [.int .i64 (n : Nat)])) 0)]) fs.length (fun _ => True) trivial ?_ ?_
    · intro _
      rw [LoopAt_enter c25_b0.eq_1]
      simp
      intro _
      have h4 := truthsN_len fs n
      cases ho : okT fs n fs.length
      · simp [truthsN_succ, ho] at ih ⊢
        exact ⟨by omega, ih⟩
      · simp [truthsN_succ, ho] at ih ⊢
        exact ⟨by omega, by omega, ih⟩
    · intro i hi _ ih2
      have h4 : IntKind.wrap .u64 (i : Int) = i := wrap_u64 (by omega) (by omega)
      have h5 := bit_i64 n i (by omega)
      have h6 : okT fs n (i + 1) = (okT fs n i && (!n.testBit i || decide (fs[i] ≠ 2)) && (n.testBit i || decide (fs[i] ≠ 1))) := by
        simp [okT, hi]
      rw [LoopAt_enter c25_b0.eq_1]
      cases ho : okT fs n i <;> cases hb : n.testBit i <;> by_cases f1 : fs[i] = 1 <;> by_cases f2 : fs[i] = 2 <;>
        simp [hi, h4, h5, h6, ho, hb, f1, f2] at ih2 ⊢ <;> (intro _; first | exact ⟨by omega, ih2⟩ | exact ⟨by omega, by omega, ih2⟩ | omega)

theorem good38 (s : W) (n t : Nat) (hn : n < 2 ^ 64) (ht : t < 2 ^ 63) : Good Tryd.prog K 38 [.agg [.str s, .int .u64 n], .int .i64 t] (.bool (n.testBit t)) := by
  refine good_of_wp hK c38_ok (by simp) ?_
  simp
  have h1 : IntKind.wrap .u64 (t : Int) = t := wrap_u64 (by omega) (by omega)
  simp [h1, bit_u64 n t hn, toNat_one]

theorem good57 (s s' : W) (fs : List Int) (n : Nat) (hn : n < 2 ^ 64) (hf : fs.length ≤ 6) : Good Tryd.prog K 57 [paperV s fs, .agg [.str s', .int .u64 n]] (.int .i64 ((truths fs).countP (fun t => n.testBit t) : Nat)) := by
  refine good_of_wp hK c57_ok (by simp) ?_
  simp
  refine callK_of (good25 hK s fs hf) (by simp) ?_
  simp
  have hl := truthsN_len fs (2 ^ fs.length)
  have hp : 2 ^ fs.length ≤ 2 ^ 6 := Nat.pow_le_pow_right (by omega) hf
  have hm : ∀ t ∈ truths fs, t < 64 := by
    intro t ht
    simp [truths, truthsN] at ht
    omega
  change (truths fs).length ≤ _ at hl
  generalize truths fs = T at *
  refine loop_q (fun i => [(3, AV.iv (IV.ptr [.str s', .int .u64 n])), (5, AV.iv (IV.int IntKind.i64 ((T.take i).countP (fun t => n.testBit t) : Nat))), (6, AV.iv (natsI T)), (7, AV.iv (IV.int IntKind.i64 (i : Nat)))]) (fun _ => []) T.length (fun _ => True) trivial ?_ ?_
  · intro _
    rw [LoopAt_enter c57_b0.eq_1]
    simp
  · intro i hi _ ih
    rw [LoopAt_enter c57_b0.eq_1]
    simp [hi]
    intro _
    have ht := hm T[i] (List.getElem_mem hi)
    refine callK_of (good38 hK s' n T[i] hn (by omega)) (by simp) ?_
    have e1 : (T.take (i + 1)).countP (fun t => n.testBit t) = (T.take i).countP (fun t => n.testBit t) + (if n.testBit T[i] then 1 else 0) := by
      rw [List.take_succ_eq_append_getElem hi, List.countP_append]
      simp [List.countP_cons]
    have e2 : (T.take i).countP (fun t => n.testBit t) ≤ i := Nat.le_trans (List.countP_le_length) (by rw [List.length_take]; omega)
    rw [e1] at ih
    cases hb : n.testBit T[i] <;> simp [hb] at ih ⊢
    · exact ⟨by omega, ih⟩
    · exact ⟨by omega, by omega, ih⟩

theorem good46 (l : List (W × Nat)) (t : Nat) (hl : ∀ x ∈ l, x.2 < 2 ^ 64) (ht : t < 2 ^ 63) : Good Tryd.prog K 46 [.sl 2 (l.map fun x => [.str x.1, .int .u64 (x.2 : Nat)]), .int .i64 t] (.bool (l.any fun x => x.2.testBit t != (l.headD ([], 0)).2.testBit t)) := by
  refine good_of_wp hK c46_ok (by simp) ?_
  simp
  cases l with
  | nil =>
    rw [LoopAt_enter c46_b0.eq_1]
    simp
  | cons a l =>
  have ha := hl a (by simp)
  change LoopF _ _ (RetIs _ (IV.bool (List.any _ fun x : W × Nat => x.2.testBit t != a.2.testBit t))) _ _ _ _ _ _
  generalize hL : a :: l = L at *
  have h0 : 0 < L.length := by subst hL; simp
  have ha' : L[0] = a := by subst hL; rfl
  refine loop_q (fun i => [(0, AV.iv (.sl 2 (L.map fun x => [.str x.1, .int .u64 (x.2 : Nat)]))), (1, AV.iv (IV.int IntKind.i64 t)), (5, AV.iv (IV.int IntKind.i64 (i : Nat)))]) (fun _ => []) L.length (fun i => ∀ x ∈ L.take i, x.2.testBit t = a.2.testBit t) (by simp) ?_ ?_
  · intro h
    rw [LoopAt_enter c46_b0.eq_1]
    simp at h ⊢
    exact fun _ => h
  · intro i hi h ih
    rw [LoopAt_enter c46_b0.eq_1]
    simp [hi]
    intro _
    refine callK_of (good38 hK L[i].1 L[i].2 t (hl _ (List.getElem_mem hi)) ht) (by simp) ?_
    simp [h0, ha']
    refine callK_of (good38 hK a.1 a.2 t ha ht) (by simp) ?_
    simp
    refine ⟨fun e => ?_, fun e => ?_⟩
    · exact ⟨_, _, List.getElem_mem hi, e⟩
    · refine ⟨by omega, ?_⟩
      refine ih fun x hx => ?_
      rw [List.take_succ_eq_append_getElem hi] at hx
      rcases List.mem_append.1 hx with c | c
      · exact h x c
      · rw [List.mem_singleton] at c; subst c; exact e

theorem good54 (rs : IV) (T : List Nat) (r : Rd) (hT : ∀ t ∈ T, t < 64) (hl : T.length ≤ 64) : Good Tryd.prog K 54 [.ptr [rs, nats T], enc r] (.int .i64 (T.countP (val r) : Nat)) := by
  refine good_of_wp hK c54_ok (by simp) ?_
  simp
  intro _
  refine loop_q (fun i => [(1, AV.iv (enc r)), (4, AV.iv (IV.int IntKind.i64 ((T.take i).countP (val r) : Nat))), (10, AV.iv (nats T)), (11, AV.iv (IV.int IntKind.i64 (T.length : Nat))), (12, AV.iv (IV.int IntKind.i64 (i : Nat)))]) (fun _ => []) T.length (fun _ => True) trivial ?_ ?_
  · intro _
    rw [LoopAt_enter c54_b0.eq_1]
    simp
  · intro i hi _ ih
    rw [LoopAt_enter c54_b0.eq_1]
    simp [hi]
    have ht := hT T[i] (List.getElem_mem hi)
    refine callK_of (good61 hK r T[i] (by omega)) (by simp) ?_
    have e1 : (T.take (i + 1)).countP (val r) = (T.take i).countP (val r) + (if val r T[i] then 1 else 0) := by
      rw [List.take_succ_eq_append_getElem hi, List.countP_append]
      simp [List.countP_cons]
    have e2 : (T.take i).countP (val r) ≤ i := Nat.le_trans (List.countP_le_length) (by rw [List.length_take]; omega)
    rw [e1] at ih
    cases hb : val r T[i] <;> simp [hb] at ih ⊢
    · exact ⟨by omega, ih⟩
    · exact ⟨by omega, by omega, ih⟩

theorem good55 (rs : IV) (T : List Nat) (r : Rd) (hT : ∀ t ∈ T, t < 64) (hl : T.length ≤ 64) : Good Tryd.prog K 55 [.ptr [rs, nats T], enc r] (.int .i64 (known (T.countP (val r) : Nat) T.length)) := by
  refine good_of_wp hK c55_ok (by simp) ?_
  simp
  refine callK_of (good54 hK rs T r hT hl) (by simp) ?_
  simp [known]
  intro _
  split <;> simp_all

theorem good51 (r : Rd) (hr : fok r) (hl : ((text r).length : Int) ≤ 9223372036854775807) : Good Tryd.prog K 51 [enc r] (.str (text r)) := by
  induction r with
  | fact n =>
    have hr : n < 6 := hr
    refine good_of_wp hK c51_ok (by simp) ?_
    have h1 : IntKind.wrap .i32 (97 + (n : Int)) = 97 + n := by
      unfold IntKind.wrap
      simp [IntKind.bits, IntKind.signed]
      omega
    have h2 : (97 + (n : Int)).toNat = 97 + n := by omega
    simp [encC, text, h1, h2]
    omega
  | no r ih =>
    refine good_of_wp hK c51_ok (by simp) ?_
    simp [encC, wNot]
    simp [text] at hl
    refine callK_of (ih hr (by omega)) (by simp) ?_
    simp [text]
    omega
  | bin o a b ia ib =>
    refine good_of_wp hK c51_ok (by simp) ?_
    simp [text] at hl
    have ha := ia hr.1 (by omega)
    have hb := ib hr.2 (by omega)
    cases o <;> simp [encC, Op.word] at hl ⊢ <;> refine callK_of ha (by simp) ?_ <;> simp <;> (refine ⟨by omega, by omega, by omega, by omega, ?_⟩; refine callK_of hb (by simp) ?_; simp [text, Op.word]; omega)

theorem good58 (s : W) (fs : List Int) : Good Tryd.prog K 58 [paperV s fs] (.bool (fs.all (fun k => decide (1 ≤ k) && decide (k ≤ 3)) && decide (fs.length ≤ 6))) := by
  refine good_of_wp hK c58_ok (by simp) ?_
  simp
  refine loop_q (fun i => [(1, AV.iv (.ptr [.str s, ints fs])), (3, AV.iv (IV.int IntKind.i64 (i : Nat)))]) (fun _ => []) fs.length (fun i => ∀ k ∈ fs.take i, 1 ≤ k ∧ k ≤ 3) (by simp) ?_ ?_
  · intro h
    rw [LoopAt_enter c58_b0.eq_1]
    simp at h ⊢
    intro _
    have h1 : (fs.all fun k => decide (1 ≤ k) && decide (k ≤ 3)) = true := by simpa using h
    rw [h1]
    simp
    omega
  · intro i hi h ih
    rw [LoopAt_enter c58_b0.eq_1]
    simp [hi]
    intro _
    refine callK_of (good42 hK fs[i] 1 3) (by simp) ?_
    simp
    refine ⟨fun e c => ?_, fun e1 e2 => ⟨by omega, ?_⟩⟩
    · have := c _ (List.getElem_mem hi)
      omega
    · refine ih fun k hk => ?_
      rw [List.take_succ_eq_append_getElem hi] at hk
      rcases List.mem_append.1 hk with c | c
      · exact h k c
      · rw [List.mem_singleton] at c; subst c; exact ⟨e1, e2⟩

end
end Go.Pp
